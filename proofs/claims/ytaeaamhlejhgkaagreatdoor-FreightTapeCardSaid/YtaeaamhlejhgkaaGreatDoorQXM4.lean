/-
Season files: what is read of a freight's file is the freight; a text that is read is the file of what it gives.
Conditions: none.
-/
import Derived.Test.YtaeaamhlejhgkaaGreatDoorXA
import Derived.Test.YtaeaamhlejhgkaaGreatDoorHA
set_option linter.unusedVariables false
set_option linter.unusedSimpArgs false
namespace Go.Sas
open Go.Lib
/-! ### Season files -/
def seasonW : List UInt8 := [115, 101, 97, 115, 111, 110]
def capW : List UInt8 := [99, 97, 112]
def orderW : List UInt8 := [111, 114, 100, 101, 114]
theorem season_sep : Sep seasonW := by intro b hb; simp [seasonW] at hb; rcases hb with rfl | rfl | rfl | rfl | rfl | rfl <;> decide
theorem cap_sep : Sep capW := by intro b hb; simp [capW] at hb; rcases hb with rfl | rfl | rfl <;> decide
theorem order_sep : Sep orderW := by intro b hb; simp [orderW] at hb; rcases hb with rfl | rfl | rfl | rfl | rfl <;> decide
def headR (f : Frt) : List UInt8 := rowL seasonW [f.fi.1, f.fi.2, f.la.1, f.la.2]
def capR (c : Int × Int) : List UInt8 := rowL capW [c.1, c.2]
def ordR (o : Ord) : List UInt8 := rowL orderW [o.u, o.d, o.l, o.s]
/-- the rows of a freight's file -/
def rowsS (f : Frt) : List (List UInt8) := headR f :: (f.caps.map capR ++ f.ords.map ordR)
def textS (f : Frt) : List UInt8 := (rowsS f).flatMap fun r => r ++ [10]
/-- a row behind the first one -/
def moreS (f : Frt) (row : List UInt8) : Option Frt :=
  match numsL capW 2 row, f.ords with
  | some [a, b], [] => some { f with caps := f.caps ++ [(a, b)] }
  | _, _ => match numsL orderW 4 row with
    | some [a, b, c, d] => some { f with ords := f.ords ++ [⟨a, b, c, d⟩] }
    | _ => none
def firstS (row : List UInt8) : Option Frt :=
  match numsL seasonW 4 row with
  | some [a, b, c, d] => some ⟨(a, b), (c, d), [], []⟩
  | _ => none
/-- all rows, with the number of the first one that is not as said -/
def takeS : Frt → Nat → List (List UInt8) → Frt × Nat
  | f, _, [] => (f, 0)
  | f, 0, r :: rs => match firstS r with
    | some g => takeS g 1 rs
    | none => (f, 1)
  | f, n + 1, r :: rs => match moreS f r with
    | some g => takeS g (n + 2) rs
    | none => (f, n + 2)
def frt0 : Frt := ⟨(0, 0), (0, 0), [], []⟩
/-- what is read of a text; 18 is the error of a form, 10 that of a length -/
def readS (eL eF : Int) (check : Frt → Int) (most : Nat) (text : List UInt8) : Frt × Int × Int :=
  if most < text.length then (frt0, 0, eL) else
  let rows := splitL 10 text
  let r := takeS frt0 0 rows.dropLast
  if r.2 ≠ 0 then (frt0, (r.2 : Int), eF) else
  if rows.length = 1 ∨ rows.getLast? ≠ some [] then (frt0, (rows.length : Int), eF) else
  if check r.1 ≠ 0 then (frt0, 0, check r.1) else (r.1, 0, 0)
theorem firstS_some {row : List UInt8} {f : Frt} (h : firstS row = some f) : row = headR f ∧ f.caps = [] ∧ f.ords = [] := by
  unfold firstS at h
  split at h
  · rename_i a b c d hn
    cases h
    exact ⟨(row_nums hn).1, rfl, rfl⟩
  · cases h
theorem moreS_some {row : List UInt8} {f g : Frt} (h : moreS f row = some g) : rowsS g = rowsS f ++ [row] := by
  unfold moreS at h
  split at h
  · rename_i a b hn ho
    cases h
    have := (row_nums hn).1
    rw [this]
    simp [rowsS, ho, headR, capR]
  · split at h
    · rename_i a b c d hn
      cases h
      have := (row_nums hn).1
      rw [this]
      simp [rowsS, headR, ordR]
    · cases h
theorem takeS_more {g : Frt} : ∀ {rs : List (List UInt8)} {f : Frt} {n : Nat}, takeS f (n + 1) rs = (g, 0) → rowsS g = rowsS f ++ rs
  | [], f, n, h => by simp [takeS] at h; subst h; simp
  | r :: rs, f, n, h => by
    simp only [takeS] at h
    split at h
    · rename_i f2 hm
      rw [takeS_more h, moreS_some hm]; simp
    · cases h
theorem takeS_all {g : Frt} {rs : List (List UInt8)} (h : takeS frt0 0 rs = (g, 0)) (hne : rs ≠ []) : rs = rowsS g := by
  cases rs with
  | nil => exact absurd rfl hne
  | cons r rs =>
    simp only [takeS] at h
    split at h
    · rename_i f hf
      obtain ⟨h1, h2, h3⟩ := firstS_some hf
      rw [takeS_more h]
      simp [rowsS, h1, h2, h3]
    · cases h
/-- a text that is read is the file of what it gives -/
theorem read_text {eL eF : Int} {check : Frt → Int} {most : Nat} {text : List UInt8} {f : Frt} {row : Int} (he : eL ≠ 0) (hf : eF ≠ 0) (h : readS eL eF check most text = (f, row, 0)) : textS f = text ∧ check f = 0 := by
  unfold readS at h
  split at h
  · simp at h; exact absurd h.2.2 he
  simp only at h
  split at h
  · simp at h; exact absurd h.2.2 hf
  rename_i h1
  split at h
  · simp at h; exact absurd h.2.2 hf
  rename_i h2
  split at h
  · rename_i h3; simp only [Prod.mk.injEq] at h; exact absurd h.2.2 h3
  rename_i h3
  simp only [Prod.mk.injEq] at h
  obtain ⟨hfr, _, _⟩ := h
  have h1 : (takeS frt0 0 (splitL 10 text).dropLast).2 = 0 := Decidable.not_not.1 h1
  have hg : takeS frt0 0 (splitL 10 text).dropLast = (f, 0) := Prod.ext hfr h1
  have hl : (splitL 10 text).getLast? = some [] := Decidable.not_not.1 fun h => h2 (.inr h)
  have hne := splitL_ne (c := 10) text
  have hsp : splitL 10 text = (splitL 10 text).dropLast ++ [[]] := by
    have := List.dropLast_concat_getLast hne
    rw [List.getLast?_eq_some_getLast hne] at hl
    rw [Option.some.inj hl] at this
    exact this.symm
  have hd : (splitL 10 text).dropLast ≠ [] := fun h => h2 (.inl (by rw [hsp, h]; rfl))
  refine ⟨?_, by rw [← hfr]; exact Decidable.not_not.1 h3⟩
  rw [textS, ← takeS_all hg hd]
  exact (text_rows hsp).symm
/-- numbers that a file may hold -/
def Nb (n : Int) : Prop := 0 ≤ n ∧ n < 1000000000
structure SeaV (f : Frt) : Prop where
  a : Nb f.fi.1
  b : Nb f.fi.2
  c : Nb f.la.1
  d : Nb f.la.2
  cs : ∀ x ∈ f.caps, Nb x.1 ∧ Nb x.2
  os : ∀ o ∈ f.ords, Nb o.u ∧ Nb o.d ∧ Nb o.l ∧ Nb o.s
theorem mem2 {P : Int → Prop} {a b : Int} (ha : P a) (hb : P b) : ∀ n ∈ [a, b], P n := by intro n hn; simp at hn; rcases hn with rfl | rfl <;> assumption
theorem mem4 {P : Int → Prop} {a b c d : Int} (ha : P a) (hb : P b) (hc : P c) (hd : P d) : ∀ n ∈ [a, b, c, d], P n := by intro n hn; simp at hn; rcases hn with rfl | rfl | rfl | rfl <;> assumption
theorem take_ords : ∀ {os : List Ord} {f : Frt} {n : Nat}, (∀ o ∈ os, Nb o.u ∧ Nb o.d ∧ Nb o.l ∧ Nb o.s) → takeS f (n + 1) (os.map ordR) = ({ f with ords := f.ords ++ os }, 0)
  | [], f, n, _ => by simp [takeS]
  | o :: os, f, n, h => by
    obtain ⟨h1, h2, h3, h4⟩ := h o (List.mem_cons_self ..)
    have hb : ∀ n ∈ [o.u, o.d, o.l, o.s], 0 ≤ n ∧ n < 1000000000 := mem4 h1 h2 h3 h4
    have e1 : numsL capW 2 (ordR o) = none := nums_row_ne order_sep hb (by decide) 2
    have e2 : numsL orderW 4 (ordR o) = some [o.u, o.d, o.l, o.s] := nums_row order_sep hb
    have e3 : moreS f (ordR o) = some { f with ords := f.ords ++ [o] } := by unfold moreS; rw [e1, e2]
    simp only [List.map_cons, takeS, e3]
    rw [take_ords fun x hx => h x (List.mem_cons_of_mem _ hx)]
    simp
theorem take_caps {os : List Ord} (ho : ∀ o ∈ os, Nb o.u ∧ Nb o.d ∧ Nb o.l ∧ Nb o.s) : ∀ {cs : List (Int × Int)} {f : Frt} {n : Nat}, f.ords = [] → (∀ c ∈ cs, Nb c.1 ∧ Nb c.2) → takeS f (n + 1) (cs.map capR ++ os.map ordR) = ({ f with caps := f.caps ++ cs, ords := os }, 0)
  | [], f, n, hf, _ => by
    rw [List.map_nil, List.nil_append, take_ords ho, hf]; simp
  | c :: cs, f, n, hf, h => by
    obtain ⟨h1, h2⟩ := h c (List.mem_cons_self ..)
    have hb : ∀ n ∈ [c.1, c.2], 0 ≤ n ∧ n < 1000000000 := mem2 h1 h2
    have e2 : numsL capW 2 (capR c) = some [c.1, c.2] := nums_row cap_sep hb
    have e3 : moreS f (capR c) = some { f with caps := f.caps ++ [c] } := by unfold moreS; rw [e2, hf]
    simp only [List.map_cons, List.cons_append, takeS, e3]
    rw [take_caps ho (by exact hf) fun x hx => h x (List.mem_cons_of_mem _ hx)]
    simp
theorem rows_no10 {f : Frt} (h : SeaV f) : ∀ r ∈ rowsS f, ∀ b ∈ r, b ≠ 10 := by
  intro r hr
  unfold rowsS at hr
  rcases List.mem_cons.1 hr with rfl | hr
  · exact rowL_no10 season_sep (mem4 h.a.1 h.b.1 h.c.1 h.d.1)
  rcases List.mem_append.1 hr with hr | hr
  · obtain ⟨c, hc, rfl⟩ := List.mem_map.1 hr
    have := h.cs c hc
    exact rowL_no10 cap_sep (mem2 this.1.1 this.2.1)
  · obtain ⟨o, ho, rfl⟩ := List.mem_map.1 hr
    have := h.os o ho
    exact rowL_no10 order_sep (mem4 this.1.1 this.2.1.1 this.2.2.1.1 this.2.2.2.1)
/-- a freight's file gives the freight -/
theorem text_read {eL eF : Int} {check : Frt → Int} {most : Nat} {f : Frt} (h : SeaV f) (hc : check f = 0) (hm : (textS f).length ≤ most) : readS eL eF check most (textS f) = (f, 0, 0) := by
  have hs : splitL 10 (textS f) = rowsS f ++ [[]] := split_rows (rows_no10 h)
  have hb : ∀ n ∈ [f.fi.1, f.fi.2, f.la.1, f.la.2], 0 ≤ n ∧ n < 1000000000 := mem4 h.a h.b h.c h.d
  have e1 : firstS (headR f) = some ⟨f.fi, f.la, [], []⟩ := by
    unfold firstS
    have : numsL seasonW 4 (headR f) = some [f.fi.1, f.fi.2, f.la.1, f.la.2] := nums_row season_sep hb
    rw [this]
  have ht : takeS frt0 0 (rowsS f) = (f, 0) := by
    unfold rowsS
    simp only [takeS, e1]
    rw [take_caps h.os rfl h.cs]
    simp
  unfold readS
  rw [if_neg (by omega)]
  simp only [hs, List.dropLast_concat, ht]
  rw [if_neg (by simp), if_neg, if_neg (by simp [hc])]
  rintro (h | h)
  · simp [rowsS] at h
  · simp at h
end Go.Sas
