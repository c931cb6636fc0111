/-
Laws with texts: plain law of numbers in words: what the program takes as a number is what the reference takes.
Laws with texts: plain law of parting a text at a byte; what Go's library parts, and what a loop parts.
Laws with texts: plain law of rows of a word and numbers, and of texts of rows.
Radar files: what is read of a track's file is the track; a text that is read is the file of what it gives.
Conditions: none.
-/
import Derived.Lib.Atoi
import Derived.Lib.AtoiTie
import Derived.Lib.ItoaMem
import Derived.Lib.Split
import Derived.Lib.IndexMore
set_option linter.unusedVariables false
set_option linter.unusedSimpArgs false
namespace Go.Sas
open Go.Lib
theorem decFrom_app : ∀ (l r : List UInt8) (acc : Nat), decFrom acc (l ++ r) = (decFrom acc l).bind fun n => decFrom n r
  | [], r, acc => rfl
  | b :: l, r, acc => by
    simp only [List.cons_append, decFrom]
    split
    · exact decFrom_app l r _
    · rfl
theorem head_app {α : Type} {l r : List α} (h : l ≠ []) : (l ++ r).head? = l.head? := by
  cases l with
  | nil => exact absurd rfl h
  | cons a l => rfl
theorem digit_of {d : Nat} (h : d < 10) : digitVal (UInt8.ofNat (48 + d)) = some d := by
  have h1 : (UInt8.ofNat (48 + d)).toNat = 48 + d := by simp; omega
  unfold digitVal
  rw [h1, if_pos (by omega)]
  congr 1; omega
theorem digit_to {b : UInt8} {d : Nat} (h : digitVal b = some d) : d < 10 ∧ b = UInt8.ofNat (48 + d) := by
  unfold digitVal at h
  split at h
  · rename_i hb
    cases h
    refine ⟨by omega, ?_⟩
    apply UInt8.toNat_inj.1
    have : b.toNat < 256 := b.toNat_lt
    simp; omega
  · cases h
theorem dec_digits (u : Nat) : decFrom 0 (decDigits u) = some u := by
  induction u using Nat.strongRecOn with
  | _ u ih =>
    by_cases h : u < 10
    · rw [decDigits, dif_pos h]
      simp only [decFrom, digit_of h]
      simp
    · rw [decDigits, dif_neg h, decFrom_app, ih (u / 10) (by omega)]
      simp only [Option.bind_some, decFrom, digit_of (show u % 10 < 10 by omega)]
      congr 1; omega
theorem dec_pos (u : Nat) : decDigits u ≠ [] := by
  intro h
  have h1 := decDigits_length u
  have h2 := nDigits_pos u
  rw [h] at h1; simp at h1; omega
theorem dec_head (u : Nat) (h : (decDigits u).head? = some 48) : u = 0 := by
  induction u using Nat.strongRecOn with
  | _ u ih =>
    by_cases hu : u < 10
    · rw [decDigits, dif_pos hu] at h
      simp only [List.head?_cons, Option.some.injEq] at h
      have : (UInt8.ofNat (48 + u)).toNat = (48 : UInt8).toNat := by rw [h]
      simp at this; omega
    · rw [decDigits, dif_neg hu, head_app (dec_pos _)] at h
      have := ih (u / 10) (by omega) h
      omega
theorem digits_dec : ∀ (n : Nat) (l : List UInt8) (u : Nat), l.length = n → l ≠ [] → ¬ (l.head? = some 48 ∧ 1 < l.length) → decFrom 0 l = some u → decDigits u = l
  | 0, l, u, hn, h0, _, _ => absurd (List.length_eq_zero_iff.1 hn) h0
  | n + 1, l, u, hn, h0, hh, hd => by
    have hlast := List.dropLast_concat_getLast h0
    obtain ⟨r, hr⟩ : ∃ r, r = l.dropLast := ⟨_, rfl⟩
    obtain ⟨b, hb⟩ : ∃ b, b = l.getLast h0 := ⟨_, rfl⟩
    rw [← hr, ← hb] at hlast
    rw [← hlast, decFrom_app] at hd
    have hrl : r.length = n := by rw [hr, List.length_dropLast, hn]; rfl
    cases hv : decFrom 0 r with
    | none => rw [hv] at hd; cases hd
    | some v =>
      rw [hv] at hd
      simp only [Option.bind_some, decFrom] at hd
      cases hb2 : digitVal b with
      | none => rw [hb2] at hd; cases hd
      | some d =>
        rw [hb2] at hd
        simp only [Option.some.injEq] at hd
        obtain ⟨hd10, hbd⟩ := digit_to hb2
        by_cases hr0 : r = []
        · rw [hr0] at hv hlast
          simp only [decFrom, Option.some.injEq] at hv
          subst hv
          rw [← hlast, ← hd, decDigits, dif_pos (by omega), hbd]
          simp
        · have hhead : l.head? = r.head? := by rw [← hlast, head_app hr0]
          have hrp : 0 < r.length := List.length_pos_iff.2 hr0
          have ih := digits_dec n r v hrl hr0 (fun h => hh ⟨by rw [hhead]; exact h.1, by omega⟩) hv
          have hv1 : v ≠ 0 := fun hv0 => by
            refine hh ⟨?_, by omega⟩
            rw [hhead, ← ih, hv0, decDigits, dif_pos (by decide)]
            rfl
          rw [← hd, decDigits, dif_neg (by omega), show (v * 10 + d) / 10 = v by omega, show (v * 10 + d) % 10 = d by omega, ih, ← hbd, hlast]
/-- the number that a word is, of at most 9 digits -/
def wordN (l : List UInt8) : Option Nat := if l.length < 1 ∨ 9 < l.length ∨ (l.head? = some 48 ∧ 1 < l.length) then none else decFrom 0 l
/-- as the program asks -/
def progN (l : List UInt8) : Option Nat := match atoiAll l with
  | .ok v => if 0 ≤ v ∧ l.length ≤ 9 ∧ itoa v = l then some v.toNat else none
  | _ => none
theorem word_atoi {l : List UInt8} {u : Nat} (h : wordN l = some u) : atoiAll l = .ok (u : Int) ∧ itoa (u : Int) = l ∧ 1 ≤ l.length ∧ l.length ≤ 9 := by
  unfold wordN at h
  split at h
  · cases h
  · rename_i hc
    have h0 : l ≠ [] := fun h9 => hc (.inl (by rw [h9]; decide))
    have h1 := digits_dec l.length l u rfl h0 (fun h9 => hc (.inr (.inr h9))) h
    refine ⟨?_, by rw [itoa_nonneg]; exact h1, by omega, by omega⟩
    rw [atoiAll_short l (by omega)]
    cases l with
    | nil => exact absurd rfl h0
    | cons b r =>
      have hdig : ∃ d, digitVal b = some d := by
        simp only [decFrom] at h
        split at h
        · rename_i d hd; exact ⟨d, hd⟩
        · cases h
      obtain ⟨d, hd⟩ := hdig
      have hbn : 48 ≤ b.toNat := by
        unfold digitVal at hd
        split at hd
        · rename_i hx; exact hx.1
        · cases hd
      have n45 : (b == 45) = false := by
        rw [beq_eq_false_iff_ne]; intro h9; subst h9; simp at hbn
      have n43 : (b == 43) = false := by
        rw [beq_eq_false_iff_ne]; intro h9; subst h9; simp at hbn
      simp only [atoi, n45, n43, Bool.false_eq_true, if_false, decNat, List.isEmpty_cons, h]
      rfl
theorem progN_eq (l : List UInt8) : progN l = wordN l := by
  cases hw : wordN l with
  | some u =>
    obtain ⟨h1, h2, h3, h4⟩ := word_atoi hw
    unfold progN
    rw [h1]
    simp only
    rw [if_pos ⟨by omega, h4, h2⟩]
    simp
  | none =>
    unfold progN
    split
    · rename_i v hv
      by_cases hc : 0 ≤ v ∧ l.length ≤ 9 ∧ itoa v = l
      · exfalso
        obtain ⟨c1, c2, c3⟩ := hc
        obtain ⟨u, rfl⟩ : ∃ u : Nat, v = u := ⟨v.toNat, by omega⟩
        rw [itoa_nonneg] at c3
        have hpos := nDigits_pos u
        have hlen := decDigits_length u
        rw [c3] at hlen
        unfold wordN at hw
        rw [if_neg] at hw
        · rw [← c3, dec_digits] at hw; cases hw
        · rintro (h | h | ⟨h, h9⟩)
          · omega
          · omega
          · rw [← c3] at h
            have := dec_head u h
            subst this
            rw [← c3, decDigits, dif_pos (by decide)] at h9
            simp at h9
      · rw [if_neg hc]
    · rfl
end Go.Sas
namespace Go.Sas
open Go.Lib
/-- the parts between separators -/
def splitL (c : UInt8) : List UInt8 → List (List UInt8)
  | [] => [[]]
  | b :: r => if b = c then [] :: splitL c r else match splitL c r with
    | h :: t => (b :: h) :: t
    | [] => [[b]]
theorem splitL_ne {c : UInt8} : ∀ l, splitL c l ≠ []
  | [] => by simp [splitL]
  | b :: r => by
    simp only [splitL]
    split
    · simp
    · split <;> simp
theorem splitL_miss {c : UInt8} : ∀ {x : List UInt8}, (∀ b ∈ x, b ≠ c) → splitL c x = [x]
  | [], _ => rfl
  | b :: r, h => by
    simp only [splitL]
    rw [if_neg (h b (List.mem_cons_self ..)), splitL_miss fun y hy => h y (List.mem_cons_of_mem _ hy)]
theorem splitL_hit {c : UInt8} {r : List UInt8} : ∀ {x : List UInt8}, (∀ b ∈ x, b ≠ c) → splitL c (x ++ c :: r) = x :: splitL c r
  | [], _ => by simp [splitL]
  | b :: x, h => by
    simp only [List.cons_append, splitL]
    rw [if_neg (h b (List.mem_cons_self ..)), splitL_hit fun y hy => h y (List.mem_cons_of_mem _ hy)]
theorem splitL_len {c : UInt8} : ∀ l : List UInt8, (splitL c l).length = l.count c + 1
  | [] => rfl
  | b :: r => by
    have ih := splitL_len (c := c) r
    simp only [splitL, List.count_cons]
    split
    · rename_i h; subst h; simp [ih]
    · rename_i h
      have hb : (b == c) = false := by rw [beq_eq_false_iff_ne]; exact h
      rw [hb]
      split
      · rename_i hd tl he; rw [he] at ih; simpa using ih
      · rename_i he; exact absurd he (splitL_ne r)
theorem splitL_part {c : UInt8} : ∀ {l x : List UInt8}, x ∈ splitL c l → x.length ≤ l.length
  | [], x, h => by simp [splitL] at h; subst h; simp
  | b :: r, x, h => by
    simp only [splitL] at h
    split at h
    · rcases List.mem_cons.1 h with rfl | h
      · simp
      · have := splitL_part h; simp; omega
    · split at h
      · rename_i hd tl he
        rcases List.mem_cons.1 h with rfl | h
        · have := splitL_part (c := c) (l := r) (x := hd) (by rw [he]; exact List.mem_cons_self ..)
          simp; omega
        · have := splitL_part (c := c) (l := r) (x := x) (by rw [he]; exact List.mem_cons_of_mem _ h)
          simp; omega
      · rename_i he; exact absurd he (splitL_ne r)
/-- a loop that parts: what is done so far, and what is left -/
theorem splitL_step {c : UInt8} {l : List UInt8} {from_ i : Nat} {P : List (List UInt8)} (hP : splitL c l = P ++ splitL c (l.drop from_)) (hfi : from_ ≤ i) (hno : ∀ k, from_ ≤ k → k < i → l[k]? ≠ some c) (hi : l[i]? = some c) :
    splitL c l = (P ++ [(l.drop from_).take (i - from_)]) ++ splitL c (l.drop (i + 1)) := by
  have hil := (List.getElem?_eq_some_iff.1 hi).1
  have hx : ∀ b ∈ (l.drop from_).take (i - from_), b ≠ c := by
    intro b hb he
    obtain ⟨k, hk⟩ := List.mem_iff_getElem?.1 hb
    rw [List.getElem?_take] at hk
    split at hk
    · rw [List.getElem?_drop] at hk
      exact hno (from_ + k) (by omega) (by omega) (by rw [hk, he])
    · cases hk
  have e : l.drop from_ = (l.drop from_).take (i - from_) ++ c :: l.drop (i + 1) := by
    have h1 := List.take_append_drop (i - from_) (l.drop from_)
    have h2 : (l.drop from_).drop (i - from_) = c :: l.drop (i + 1) := by
      rw [List.drop_drop, show from_ + (i - from_) = i by omega, List.drop_eq_getElem_cons hil]
      congr 1
      have := List.getElem?_eq_getElem hil
      rw [hi] at this
      exact (Option.some.inj this).symm
    rw [h2] at h1
    exact h1.symm
  rw [hP, e, splitL_hit hx, ← e]
  simp
theorem splitL_last {c : UInt8} {l : List UInt8} {from_ : Nat} {P : List (List UInt8)} (hP : splitL c l = P ++ splitL c (l.drop from_)) (hno : ∀ k, from_ ≤ k → k < l.length → l[k]? ≠ some c) :
    splitL c l = P ++ [l.drop from_] := by
  rw [hP, splitL_miss]
  intro b hb he
  obtain ⟨k, hk⟩ := List.mem_iff_getElem?.1 hb
  rw [List.getElem?_drop] at hk
  have := (List.getElem?_eq_some_iff.1 hk).1
  exact hno (from_ + k) (by omega) this (by rw [hk, he])
end Go.Sas
namespace Go.Sas
open Go.Lib
/-! ### Joining again -/
def joinL (c : UInt8) : List (List UInt8) → List UInt8
  | [] => []
  | [x] => x
  | x :: y :: r => x ++ c :: joinL c (y :: r)
theorem joinL_cons {c : UInt8} {x : List UInt8} {r : List (List UInt8)} (h : r ≠ []) : joinL c (x :: r) = x ++ c :: joinL c r := by
  cases r with
  | nil => exact absurd rfl h
  | cons y r => rfl
theorem join_split {c : UInt8} : ∀ l : List UInt8, joinL c (splitL c l) = l
  | [] => rfl
  | b :: r => by
    have ih := join_split (c := c) r
    simp only [splitL]
    split
    · rename_i h
      rw [joinL_cons (splitL_ne r), ih, h]; rfl
    · cases hs : splitL c r with
      | nil => exact absurd hs (splitL_ne r)
      | cons h t =>
        rw [hs] at ih
        simp only
        cases t with
        | nil => simp only [joinL] at ih ⊢; rw [ih]
        | cons y t => simp only [joinL] at ih ⊢; rw [← ih]; rfl
/-! ### Rows of a word and numbers -/
/-- words behind the first one -/
def wordsB (l : List Int) : List (List UInt8) := l.map itoa
def rowL (word : List UInt8) (l : List Int) : List UInt8 := word ++ l.flatMap (fun n => 32 :: itoa n)
theorem rowL_join (word : List UInt8) : ∀ l : List Int, rowL word l = joinL 32 (word :: wordsB l) := by
  intro l
  induction l generalizing word with
  | nil => simp [rowL, wordsB, joinL]
  | cons n l ih =>
    have := ih (itoa n)
    simp only [rowL, List.flatMap_cons, wordsB, List.map_cons] at this ⊢
    rw [joinL_cons (by simp), ← this]
    simp
/-- numbers of a row, or none -/
def numsL (word : List UInt8) (many : Nat) (row : List UInt8) : Option (List Int) :=
  let w := splitL 32 row
  if w.length = many + 1 ∧ w.head? = some word then (w.tail.mapM wordN).map (·.map fun n : Nat => (n : Int)) else none
theorem wordN_itoa {l : List UInt8} {u : Nat} (h : wordN l = some u) : itoa (u : Int) = l := (word_atoi h).2.1
theorem mapM_itoa : ∀ {ws : List (List UInt8)} {ns : List Nat}, ws.mapM wordN = some ns → ws = wordsB (ns.map fun n : Nat => (n : Int))
  | [], ns, h => by simp at h; subst h; rfl
  | w :: ws, ns, h => by
    simp only [List.mapM_cons, Option.pure_def, Option.bind_eq_bind, Option.bind_eq_some_iff, Option.some.injEq] at h
    obtain ⟨n, h1, ns', h2, rfl⟩ := h
    rw [mapM_itoa h2]
    simp [wordsB, wordN_itoa h1]
theorem mapM_len : ∀ {ws : List (List UInt8)} {ns : List Nat}, ws.mapM wordN = some ns → ns.length = ws.length
  | [], ns, h => by simp at h; subst h; rfl
  | w :: ws, ns, h => by
    simp only [List.mapM_cons, Option.pure_def, Option.bind_eq_bind, Option.bind_eq_some_iff, Option.some.injEq] at h
    obtain ⟨n, h1, ns', h2, rfl⟩ := h
    simp [mapM_len h2]
/-- what is read of a row is what a row of it says -/
theorem row_nums {word : List UInt8} {many : Nat} {row : List UInt8} {l : List Int} (h : numsL word many row = some l) : row = rowL word l ∧ l.length = many ∧ ∀ n ∈ l, 0 ≤ n := by
  unfold numsL at h
  simp only at h
  split at h
  · rename_i hc
    obtain ⟨h1, h2⟩ := hc
    rw [Option.map_eq_some_iff] at h
    obtain ⟨ns, h3, rfl⟩ := h
    cases hw : splitL 32 row with
    | nil => exact absurd hw (splitL_ne row)
    | cons x t =>
      rw [hw] at h1 h2 h3
      simp at h1 h2
      simp only [List.tail_cons] at h3
      refine ⟨?_, by rw [List.length_map, mapM_len h3]; exact h1, fun n hn => ?_⟩
      · rw [rowL_join, ← mapM_itoa h3, ← h2, ← hw, join_split]
      · obtain ⟨m, _, rfl⟩ := List.mem_map.1 hn
        exact Int.natCast_nonneg m
  · cases h
/-! ### Rows of a text -/
end Go.Sas
namespace Go.Sas
open Go.Lib
/-- an echo: its place, its hour, its time -/
structure Ech where
  p : Int
  h : Int
  lo : Int
  hi : Int
structure Trk where
  sp : Int × Int
  ec : List Ech
def radarW : List UInt8 := [114, 97, 100, 97, 114]
def echoW : List UInt8 := [101, 99, 104, 111]
def headT (t : Trk) : List UInt8 := rowL radarW [t.sp.1, t.sp.2]
def echR (e : Ech) : List UInt8 := rowL echoW [e.p, e.h, e.lo, e.hi]
def rowsT (t : Trk) : List (List UInt8) := headT t :: t.ec.map echR
def textT (t : Trk) : List UInt8 := (rowsT t).flatMap fun r => r ++ [10]
/-- a row that is taken, by its place -/
def stepT (t : Trk) : Nat → List UInt8 → Option Trk
  | 0, row => match numsL radarW 2 row with
    | some [a, b] => some { t with sp := (a, b) }
    | _ => none
  | _ + 1, row => match numsL echoW 4 row with
    | some [a, b, c, d] => some { t with ec := t.ec ++ [⟨a, b, c, d⟩] }
    | _ => none
def takeT : Trk → Nat → List (List UInt8) → Trk × Nat
  | t, _, [] => (t, 0)
  | t, n, r :: rs => match stepT t n r with
    | some u => takeT u (n + 1) rs
    | none => (t, n + 1)
def trk0 : Trk := ⟨(0, 0), []⟩
def readT (eL eF : Int) (check : Trk → Int) (most : Nat) (text : List UInt8) : Trk × Int × Int :=
  if most < text.length then (trk0, 0, eL) else
  let rows := splitL 10 text
  let r := takeT trk0 0 rows.dropLast
  if r.2 ≠ 0 then (trk0, (r.2 : Int), eF) else
  if rows.length = 1 ∨ rows.getLast? ≠ some [] then (trk0, (rows.length : Int), eF) else
  if check r.1 ≠ 0 then (trk0, 0, check r.1) else (r.1, 0, 0)
def NbT (n : Int) : Prop := 0 ≤ n ∧ n < 1000000000
structure TrkN (t : Trk) : Prop where
  a : NbT t.sp.1
  b : NbT t.sp.2
  es : ∀ e ∈ t.ec, NbT e.p ∧ NbT e.h ∧ NbT e.lo ∧ NbT e.hi
end Go.Sas
