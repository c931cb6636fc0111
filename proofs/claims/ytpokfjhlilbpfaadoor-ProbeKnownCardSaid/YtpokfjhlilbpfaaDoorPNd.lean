/-
Rows of values, one cell each.
Neighbours with the same value put together.
Probe: what marks cover, by spans of places.
Conditions: none.
-/
import Derived.Test.YtpokfjhlilbpfaaDoorP7d
import Derived.Test.YtpokfjhlilbpfaaDoorPMd
set_option linter.unusedVariables false
set_option linter.unusedSimpArgs false
namespace Go.Sas
def rowA (D : Nat) (f : Nat → AV) : List AV := (List.range D).map f
def updA (f : Nat → AV) (d : Nat) (v : AV) : Nat → AV := fun k => if k = d then v else f k
theorem rowA_len {D : Nat} {f : Nat → AV} : (rowA D f).length = D := by simp [rowA]
theorem rowA_get {D d : Nat} {f : Nat → AV} (h : d < D) : (rowA D f)[d]? = some (f d) := by simp [rowA, h]
theorem rowA_set {D d : Nat} {f : Nat → AV} {v : AV} : (rowA D f).set d v = rowA D (updA f d v) := by
  apply List.ext_getElem?
  intro i
  unfold rowA
  rw [List.getElem?_set]
  by_cases h1 : d = i
  · subst h1
    by_cases h2 : d < D
    · simp [h2, updA]
    · simp [h2]
  · rw [if_neg h1]
    by_cases h2 : i < D
    · simp [h2, updA, Ne.symm h1]
    · simp [h2]
theorem rowA_congr {D : Nat} {f g : Nat → AV} (h : ∀ d, d < D → f d = g d) : rowA D f = rowA D g := by
  unfold rowA
  exact List.map_congr_left fun d hd => h d (List.mem_range.1 hd)
theorem updS_rowA {D d : Nat} {f g : Nat → AV} {v : AV} (h : d < D) (hg : ∀ q, q < D → g q = if q = d then v else f q) : updS 1 (rowA D f) d [v] (rowA D g) := by
  rw [rowA_congr (g := updA f d v) (fun q hq => hg q hq), ← rowA_set]
  refine ⟨rfl, by rw [rowA_len]; omega, ?_⟩
  have hl : d < (rowA D f).length := by rw [rowA_len]; exact h
  rw [List.set_eq_take_append_cons_drop, if_pos hl]; simp
theorem getS_rowA {D d : Nat} {f : Nat → AV} {v : AV} (h : d < D) (hv : f d = v) : getS none (rowA D f) d v := by rw [← hv]; exact rowA_get h
theorem zeros_rowA {D : Nat} {z : Value} : List.flatten (List.replicate D ([z].map AV.lit)) = rowA D fun _ => .lit z := by
  induction D with
  | zero => rfl
  | succ D ih =>
    rw [List.replicate_succ', List.flatten_append, ih]
    simp [rowA, List.range_succ]
theorem mkS_rowA {D by_ : Nat} {z : Value} {ln : Int} (hl : ln = iLen D) (hb : D ≤ 1000000) (hy : by_ ≤ 1000) : mkS 1 by_ [z] ln ln (rowA D fun _ => .lit z) D := by
  subst hl
  have h1 : ((by_ : Int) * (D : Int)) ≤ 1000 * 1000000 := Int.mul_le_mul (by omega) (by omega) (by omega) (by omega)
  exact ⟨by unfold iLen; omega, Int.le_refl _, by unfold iLen; omega, by unfold iLen; omega, rfl, by unfold iLen; omega, by rw [← zeros_rowA]; rfl⟩
theorem Elems_one {α : Type} {F : α → AV} (h1 : ∀ x, (F x).cells = some [F x]) (h2 : ∀ x, (F x).nid = true) (l : List α) : Elems 1 (l.map F) (l.map F) := by
  have := Elems_map (f := F) (g := fun x => [F x]) (sz := 1) h1 h2 (fun _ => rfl) l
  rw [flat_one] at this
  exact this
theorem rowA_map {α : Type} {D : Nat} {F : α → AV} {f : Nat → α} : rowA D (fun q => F (f q)) = ((List.range D).map f).map F := by simp [rowA]
theorem nidL_rowA {D : Nat} {f : Nat → AV} (h : ∀ q, (f q).nid = true) : AV.nidL (rowA D f) = true := nidL_map h _
end Go.Sas
namespace Go.Sas
section
variable {α : Type} [DecidableEq α]
/-- the runs of the first places: from which place, up to which one, with which value -/
def runsN (V : Nat → α) : Nat → List (Nat × Nat × α)
  | 0 => []
  | n + 1 => match (runsN V n).getLast? with
    | some (f, _, v) => if v = V n then (runsN V n).dropLast ++ [(f, n, v)] else runsN V n ++ [(n, n, V n)]
    | none => [(0, n, V n)]
theorem runsN_last {V : Nat → α} {n : Nat} : ∃ l f, runsN V (n + 1) = l ++ [(f, n, V n)] ∧ f ≤ n := by
  induction n with
  | zero => exact ⟨[], 0, rfl, Nat.le_refl _⟩
  | succ n ih =>
    obtain ⟨l, f, h, hf⟩ := ih
    simp only [runsN]
    rw [show (match (runsN V n).getLast? with
      | some (f, _, v) => if v = V n then (runsN V n).dropLast ++ [(f, n, v)] else runsN V n ++ [(n, n, V n)]
      | none => [(0, n, V n)]) = runsN V (n + 1) from rfl, h]
    simp only [List.getLast?_append, List.getLast?_singleton, Option.some_or]
    split
    · rename_i hv; exact ⟨l, f, by simp [hv], by omega⟩
    · exact ⟨l ++ [(f, n, V n)], n + 1, rfl, Nat.le_refl _⟩
theorem runsN_new {V : Nat → α} {f : Nat} (h : f = 0 ∨ V (f - 1) ≠ V f) : runsN V (f + 1) = runsN V f ++ [(f, f, V f)] := by
  cases f with
  | zero => rfl
  | succ n =>
    obtain ⟨l, g, hl, _⟩ := runsN_last (V := V) (n := n)
    rw [runsN]
    rw [hl]
    simp only [List.getLast?_append, List.getLast?_singleton, Option.some_or]
    rw [if_neg]
    rcases h with h | h
    · omega
    · rw [Nat.add_sub_cancel] at h; exact h
theorem runsN_more {V : Nat → α} {l : List (Nat × Nat × α)} {f t : Nat} {v : α} (h : runsN V (t + 1) = l ++ [(f, t, v)]) (hv : v = V (t + 1)) : runsN V (t + 1 + 1) = l ++ [(f, t + 1, v)] := by
  rw [runsN]
  rw [h]
  simp only [List.getLast?_append, List.getLast?_singleton, Option.some_or]
  rw [if_pos hv]; simp
theorem runsN_len {V : Nat → α} : ∀ {n : Nat}, (runsN V n).length ≤ n
  | 0 => Nat.le_refl _
  | n + 1 => by
    have := runsN_len (V := V) (n := n)
    rw [runsN]
    split
    · split
      · simp; omega
      · simp; omega
    · simp
end
end Go.Sas
namespace Go.Sas
abbrev Sps := List (Int × Int)
def inL (l : Sps) (p : Int) : Bool := l.any fun s => decide (s.1 ≤ p ∧ p ≤ s.2)
def SpOk (N : Int) (l : Sps) : Prop := l.length ≤ 1000000 ∧ ∀ s ∈ l, 0 ≤ s.1 ∧ s.2 ≤ N - 1
/-- x is put behind those that are not less; the last one stands first -/
def insV {α : Type} (lt : α → Bool) (x : α) : List α → List α
  | [] => [x]
  | y :: r => if lt y then y :: insV lt x r else x :: y :: r
/-- what has the greatest keys first -/
def sortV {α : Type} (key : α → Int) (l : List α) : List α := (l.foldl (fun s x => insV (fun y => decide (key y < key x)) x s) []).reverse
abbrev keyM (x : Mrk) : Int := -x.h
/-- the least hours first -/
def sortM (l : List Mrk) : List Mrk := sortV keyM l
def mk0 : Mrk := ⟨0, 0, 0, 0, 0⟩
def isMend (m : List Mrk) (k : Nat) (h : Int) (i : Nat) (x : Mrk) : Bool := decide (x.k = 4 ∧ x.h ≤ h ∧ ((m.getD k mk0).h < x.h ∨ x.h = (m.getD k mk0).h ∧ k < i))
/-- the mends that take out of a mark, as listed -/
def mendL (m : List Mrk) (k : Nat) (h : Int) : List Mrk := (m.zipIdx.filter fun p => isMend m k h p.2 p.1).map (·.1)
def mendS (m : List Mrk) (k : Nat) (h : Int) : List Mrk := sortM (mendL m k h)
def withoutS (l : Sps) (f t : Int) : Sps := l.flatMap fun x => (if x.1 ≤ min x.2 (f - 1) then [(x.1, min x.2 (f - 1))] else []) ++ (if max x.1 (t + 1) ≤ x.2 then [(max x.1 (t + 1), x.2)] else [])
def spreadS (N b : Int) (l : Sps) : Sps := l.map fun s => (max 0 (s.1 - b), min (N - 1) (s.2 + b))
/-- one mend more: may, sure, at -/
def covStep (N sp : Int) (s : Sps × Sps × Int) (y : Mrk) : Sps × Sps × Int := (withoutS (spreadS N ((y.h - s.2.2) * sp) s.1) y.f y.t, withoutS s.2.1 y.f y.t, y.h)
def covS (m : List Mrk) (k : Nat) (h N : Int) : Sps × Sps :=
  if (m.getD k mk0).k = 4 ∨ h < (m.getD k mk0).h then ([], []) else
    let x := m.getD k mk0
    let s := (mendS m k h).foldl (covStep N x.s) ([(x.f, x.t)], [(x.f, x.t)], x.h)
    (spreadS N ((h - s.2.2) * x.s) s.1, s.2.1)
def putF (f : Nat → Int) (l : Sps) (v : Int) (p : Nat) : Int := if f p ≠ 1 ∧ inL l p = true then v else f p
def verdF (m : List Mrk) (h N : Int) : Nat → Nat → Int
  | 0 => fun _ => 2
  | k + 1 => putF (putF (verdF m h N k) (covS m k h N).1 3) (covS m k h N).2 1
/-- the verdicts of the marks on all places -/
def verdS (m : List Mrk) (h N : Int) : Nat → Int := verdF m h N m.length
/-! Marks that may be -/
def markE (n : Int) (x : Mrk) : Int :=
  if ¬(1 ≤ x.k ∧ x.k ≤ 4) then 4 else if ¬(0 ≤ x.f ∧ x.f ≤ n - 1) ∨ ¬(0 ≤ x.t ∧ x.t ≤ n - 1) then 7 else if x.t < x.f then 11 else if ¬(0 ≤ x.h ∧ x.h ≤ 10000) ∨ ¬(0 ≤ x.s ∧ x.s ≤ 100) then 2 else 0
def marksE (n : Int) (m : List Mrk) : Int := if 100 < m.length then 8 else firstE (markE n) m
def MkOk (n : Int) (x : Mrk) : Prop := (1 ≤ x.k ∧ x.k ≤ 4) ∧ 0 ≤ x.f ∧ x.f ≤ x.t ∧ x.t ≤ n - 1 ∧ (0 ≤ x.h ∧ x.h ≤ 10000) ∧ 0 ≤ x.s ∧ x.s ≤ 100
theorem markE_ok {n : Int} {x : Mrk} : markE n x = 0 ↔ MkOk n x := by
  unfold markE MkOk
  constructor
  · intro h
    by_cases h1 : 1 ≤ x.k ∧ x.k ≤ 4
    · rw [if_neg (fun h => h h1)] at h
      by_cases h2 : ¬(0 ≤ x.f ∧ x.f ≤ n - 1) ∨ ¬(0 ≤ x.t ∧ x.t ≤ n - 1)
      · rw [if_pos h2] at h; omega
      · rw [if_neg h2] at h
        by_cases h3 : x.t < x.f
        · rw [if_pos h3] at h; omega
        · rw [if_neg h3] at h
          by_cases h4 : ¬(0 ≤ x.h ∧ x.h ≤ 10000) ∨ ¬(0 ≤ x.s ∧ x.s ≤ 100)
          · rw [if_pos h4] at h; omega
          · omega
    · rw [if_pos h1] at h; omega
  · rintro ⟨h1, h2, h3, h4, h5, h6, h7⟩
    rw [if_neg (by omega), if_neg (by omega), if_neg (by omega), if_neg (by omega)]
theorem marksE_ok {n : Int} {m : List Mrk} : marksE n m = 0 ↔ m.length ≤ 100 ∧ ∀ x ∈ m, MkOk n x := by
  unfold marksE
  constructor
  · intro h
    by_cases h1 : 100 < m.length
    · rw [if_pos h1] at h; omega
    · rw [if_neg h1] at h
      exact ⟨by omega, fun x hx => markE_ok.1 (firstE_zero h x hx)⟩
  · rintro ⟨h1, h2⟩
    rw [if_neg (by omega)]
    exact firstE_all fun x hx => markE_ok.2 (h2 x hx)
/-- why places are shut -/
def whyS (R : List Rch) (a b c : Int) (l : List Lk) (m : List Mrk) (need h : Int) (p : Nat) : Int :=
  if (knowS R l p h).1 < need then 1 else if verdS m h (iLen R.length) p ≠ 2 then 2 else if staleS R a b c l h p then 3 else 0
def pastL (l : List Lk) (h : Int) : List Lk := l.filter fun x => decide (x.h ≤ h)
def pastM (m : List Mrk) (h : Int) : List Mrk := m.filter fun x => decide (x.h ≤ h)
/-- the error of what Close and Lasts are asked -/
def askE (rs : List Rch) (a b c : Int) (l : List Lk) (m : List Mrk) (need h : Int) : Int :=
  orElse (surE rs a b c l) (orElse (marksE (sumLg rs) m) (if ¬(0 ≤ need ∧ need ≤ 3000) ∨ ¬(0 ≤ h ∧ h ≤ 10000) then 2 else 0))
end Go.Sas
