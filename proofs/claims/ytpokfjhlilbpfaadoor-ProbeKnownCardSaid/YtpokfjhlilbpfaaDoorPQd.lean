/-
Probe: where a course breaks.
Conditions: none.
-/
import Derived.Test.YtpokfjhlilbpfaaDoorPOd
import Derived.Test.YtpokfjhlilbpfaaDoorPMd
set_option linter.unusedVariables false
set_option linter.unusedSimpArgs false
namespace Go.Sas
def cellS (cs : List (List Int)) (i p : Nat) : Int := (cs.getD i []).getD p 0
def outB (n a b : Int) : Bool := !decide (a ≤ n ∧ n ≤ b)
def lookW (n t : Int) (p : Nat) (x : Lk) : Bool := decide (x.h = t) && (decide (x.p = p) && outB n x.lo x.hi)
/-- a number of a course cannot be -/
def wrongS (R : List Rch) (l : List Lk) (f : Int) (cs : List (List Int)) (i p : Nat) : Bool :=
  outB (cellS cs i p) 0 3000 || (decide (0 < p) && outB (cellS cs i p) (cellS cs i (p - 1) - (R.getD (p - 1) rc0).sl) (cellS cs i (p - 1) + (R.getD (p - 1) rc0).sl)) ||
  (decide (0 < i) && outB (cellS cs i p) (cellS cs (i - 1) p - (R.getD p rc0).th) (cellS cs (i - 1) p + (R.getD p rc0).gr)) || l.any (lookW (cellS cs i p) (f + iLen i) p)
/-- before, in the order in which a course is gone through -/
def Bef (j q i p : Nat) : Prop := j < i ∨ j = i ∧ q < p
def prsN (M N : Nat) : List (Nat × Nat) := (List.range M).flatMap fun i => (List.range N).map fun p => (i, p)
def firstW (W : Nat → Nat → Bool) (M N : Nat) : Int × Int := match (prsN M N).find? fun x => W x.1 x.2 with
  | some (i, p) => (iLen i, iLen p)
  | none => (-1, -1)
theorem find_first {α : Type} {f : α → Bool} : ∀ {l : List α} {k : Nat} {x : α}, l[k]? = some x → f x = true → (∀ j y, j < k → l[j]? = some y → f y = false) → l.find? f = some x
  | [], k, x, h, _, _ => by simp at h
  | a :: l, 0, x, h, hx, _ => by
    simp only [List.getElem?_cons_zero, Option.some.injEq] at h; subst h
    rw [List.find?_cons, hx]
  | a :: l, k + 1, x, h, hx, hb => by
    have h0 := hb 0 a (by omega) rfl
    rw [List.find?_cons, h0]
    exact find_first (k := k) (by simpa using h) hx fun j y hj hy => hb (j + 1) y (by omega) (by simpa using hy)
theorem sum_const {M N : Nat} : ((List.range M).map fun _ => N).sum = M * N := by
  induction M with
  | zero => simp
  | succ M ih => rw [List.range_succ, List.map_append, List.sum_append, ih, Nat.succ_mul]; simp
theorem prs_get {M N : Nat} : ∀ {i p : Nat}, i < M → p < N → (prsN M N)[i * N + p]? = some (i, p) := by
  induction M with
  | zero => intro i p h; omega
  | succ M ih =>
    intro i p hi hp
    unfold prsN at ih ⊢
    have hl : ((List.range M).flatMap fun i => (List.range N).map fun p => (i, p)).length = M * N := by
      rw [List.length_flatMap]; simp [sum_const]
    rw [List.range_succ, List.flatMap_append]
    by_cases h : i < M
    · have : i * N + p < M * N := by
        have := Nat.mul_le_mul_right N (show i + 1 ≤ M by omega)
        rw [Nat.succ_mul] at this; omega
      rw [List.getElem?_append_left (by rw [hl]; exact this)]; exact ih h hp
    · have hiM : i = M := by omega
      subst hiM
      rw [List.getElem?_append_right (by rw [hl]; omega), hl]
      simp [hp]
theorem firstW_some {W : Nat → Nat → Bool} {M N i p : Nat} (hi : i < M) (hp : p < N) (hw : W i p = true) (hb : ∀ j q, Bef j q i p → q < N → W j q = false) : firstW W M N = (iLen i, iLen p) := by
  unfold firstW
  rw [find_first (prs_get hi hp) hw]
  rintro k ⟨j, q⟩ hk hy
  have hjq : j < M ∧ q < N ∧ k = j * N + q := by
    have h1 := (List.getElem?_eq_some_iff.1 hy).1
    have hlen : (prsN M N).length = M * N := by unfold prsN; rw [List.length_flatMap]; simp [sum_const]
    rw [hlen] at h1
    have hN : 0 < N := by omega
    have h3 := prs_get (M := M) (N := N) (i := k / N) (p := k % N) ((Nat.div_lt_iff_lt_mul hN).2 h1) (Nat.mod_lt _ hN)
    rw [show k / N * N + k % N = k by rw [Nat.mul_comm]; exact Nat.div_add_mod _ _, hy] at h3
    simp only [Option.some.injEq, Prod.mk.injEq] at h3
    obtain ⟨rfl, rfl⟩ := h3
    exact ⟨(Nat.div_lt_iff_lt_mul hN).2 h1, Nat.mod_lt _ hN, by rw [Nat.mul_comm]; exact (Nat.div_add_mod _ _).symm⟩
  obtain ⟨_, hq, hkq⟩ := hjq
  refine hb j q ?_ hq
  by_cases h : j < i
  · exact .inl h
  · refine .inr ?_
    by_cases h2 : j = i
    · subst h2; exact ⟨rfl, by omega⟩
    · exfalso
      have := Nat.mul_le_mul_right N (show i + 1 ≤ j by omega)
      rw [Nat.succ_mul] at this; omega
theorem firstW_none {W : Nat → Nat → Bool} {M N : Nat} (h : ∀ i p, i < M → p < N → W i p = false) : firstW W M N = (-1, -1) := by
  unfold firstW
  have : (prsN M N).find? (fun x => W x.1 x.2) = none := by
    rw [List.find?_eq_none]
    rintro ⟨i, p⟩ hx
    unfold prsN at hx
    simp only [List.mem_flatMap, List.mem_range, List.mem_map, Prod.mk.injEq] at hx
    obtain ⟨a, ha, b, hb, rfl, rfl⟩ := hx
    simp [h _ _ ha hb]
  rw [this]
/-- the error of what Breaks is asked -/
def breaksE (rs : List Rch) (a b c : Int) (l : List Lk) (f : Int) (cs : List (List Int)) : Int :=
  orElse (surE rs a b c l) (if ¬(0 ≤ f ∧ f ≤ 10000) then 2 else if cs.length = 0 then 6 else if 10001 < f + iLen cs.length then 8 else if cs.any (fun r => decide (iLen r.length ≠ sumLg rs)) then 3 else 0)
def breaksR (rs : List Rch) (a b c : Int) (l : List Lk) (f : Int) (cs : List (List Int)) : (Int × Int) × Int :=
  if breaksE rs a b c l f cs = 0 then (firstW (wrongS (plc rs) l f cs) cs.length (plc rs).length, 0) else ((0, 0), breaksE rs a b c l f cs)
abbrev csV (cs : List (List Int)) : List AV := cs.map fun r => .vs 1 (r.map I)
end Go.Sas
