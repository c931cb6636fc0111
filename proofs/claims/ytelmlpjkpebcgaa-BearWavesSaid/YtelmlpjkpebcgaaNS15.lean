/-
Speeds without waves.
Conditions: none.
-/
import Derived.Test.YtelmlpjkpebcgaaM20
set_option linter.unusedVariables false
set_option linter.unusedSimpArgs false
namespace Go.Sas
structure RunV (q : Nat → Bool) (v : Nat) (l : List (Int × Int)) : Prop where
  srt : l.Pairwise fun x y => x.2 + 1 < y.1
  bnd : ∀ x ∈ l, 0 ≤ x.1 ∧ x.1 ≤ x.2 ∧ x.2 < v
  mem : ∀ n : Nat, n < v → ((∃ x ∈ l, x.1 ≤ n ∧ (n : Int) ≤ x.2) ↔ q n = true)
theorem RunV.skip {q : Nat → Bool} {v : Nat} {l : List (Int × Int)} (h : RunV q v l) (hq : q v = false) : RunV q (v + 1) l :=
  ⟨h.srt, fun x hx => by have := h.bnd x hx; omega, fun n hn => by
    rcases Nat.lt_succ_iff_lt_or_eq.1 hn with hn | rfl
    · exact h.mem n hn
    · rw [hq]
      simp only [Bool.false_eq_true, iff_false]
      rintro ⟨x, hx, h1, h2⟩
      have := h.bnd x hx; omega⟩
theorem RunV.put {q : Nat → Bool} {v : Nat} {l : List (Int × Int)} (h : RunV q v l) (hq : q v = true) (hl : ∀ x, l.getLast? = some x → x.2 ≠ (v : Int) - 1) : RunV q (v + 1) (l ++ [((v : Int), (v : Int))]) := by
  refine ⟨?_, fun x hx => ?_, fun n hn => ?_⟩
  · refine List.pairwise_append.2 ⟨h.srt, by simp, fun x hx y hy => ?_⟩
    simp only [List.mem_singleton] at hy; subst hy
    rcases nil_or_snoc l with rfl | ⟨l0, z, rfl⟩
    · cases hx
    · have h1 := hl z (by simp)
      have h2 := h.bnd z (by simp)
      rcases List.mem_append.1 hx with hx | hx
      · have h3 := (List.pairwise_append.1 h.srt).2.2 x hx z (by simp)
        simp only; omega
      · simp only [List.mem_singleton] at hx; subst hx; simp only; omega
  · rcases List.mem_append.1 hx with hx | hx
    · have := h.bnd x hx; omega
    · simp only [List.mem_singleton] at hx; subst hx; simp only; omega
  · rcases Nat.lt_succ_iff_lt_or_eq.1 hn with hn | rfl
    · rw [← h.mem n hn]
      constructor
      · rintro ⟨x, hx, h1, h2⟩
        rcases List.mem_append.1 hx with hx | hx
        · exact ⟨x, hx, h1, h2⟩
        · simp only [List.mem_singleton] at hx; subst hx; simp only at h1 h2; omega
      · rintro ⟨x, hx, h1, h2⟩
        exact ⟨x, by simp [hx], h1, h2⟩
    · rw [hq]
      exact ⟨fun _ => rfl, fun _ => ⟨_, List.mem_append_right _ (List.mem_singleton.2 rfl), by simp, by simp⟩⟩
theorem RunV.grow {q : Nat → Bool} {v : Nat} {l : List (Int × Int)} {x : Int × Int} (h : RunV q v (l ++ [x])) (hq : q v = true) (hx : x.2 = (v : Int) - 1) : RunV q (v + 1) (l ++ [(x.1, (v : Int))]) := by
  have hs := List.pairwise_append.1 h.srt
  have hb := h.bnd x (by simp)
  refine ⟨List.pairwise_append.2 ⟨hs.1, by simp, fun y hy z hz => ?_⟩, fun y hy => ?_, fun n hn => ?_⟩
  · simp only [List.mem_singleton] at hz; subst hz
    exact hs.2.2 y hy x (by simp)
  · rcases List.mem_append.1 hy with hy | hy
    · have := h.bnd y (by simp [hy]); omega
    · simp only [List.mem_singleton] at hy; subst hy; simp only; omega
  · rcases Nat.lt_succ_iff_lt_or_eq.1 hn with hn | rfl
    · rw [← h.mem n hn]
      constructor
      · rintro ⟨y, hy, h1, h2⟩
        rcases List.mem_append.1 hy with hy | hy
        · exact ⟨y, by simp [hy], h1, h2⟩
        · simp only [List.mem_singleton] at hy; subst hy
          simp only at h1 h2
          exact ⟨x, by simp, h1, by omega⟩
      · rintro ⟨y, hy, h1, h2⟩
        rcases List.mem_append.1 hy with hy | hy
        · exact ⟨y, by simp [hy], h1, h2⟩
        · simp only [List.mem_singleton] at hy; subst hy
          exact ⟨_, List.mem_append_right _ (List.mem_singleton.2 rfl), h1, by simp only; omega⟩
    · rw [hq]
      exact ⟨fun _ => rfl, fun _ => ⟨_, List.mem_append_right _ (List.mem_singleton.2 rfl), by simp only; omega, by simp⟩⟩
theorem runS_ok {q : Nat → Bool} : ∀ v, RunV q v (runS q v)
  | 0 => ⟨by simp [runS], by simp [runS], fun n hn => by omega⟩
  | v + 1 => by
    have ih := runS_ok (q := q) v
    simp only [runS]
    cases hq : q v with
    | false => simpa using ih.skip hq
    | true =>
      simp only [if_true]
      rcases nil_or_snoc (runS q v) with h0 | ⟨l0, x, h0⟩
      · rw [h0] at ih ⊢
        rw [addV_nil]
        exact ih.put hq (fun x hx => by simp at hx)
      · rw [h0] at ih ⊢
        rw [addV_last]
        by_cases hx : x.2 = iLen v - 1
        · rw [if_pos hx]; exact ih.grow hq hx
        · rw [if_neg hx]; exact ih.put hq (fun y hy => by simp at hy; subst hy; exact hx)
theorem RunV.gap {q : Nat → Bool} {v : Nat} {l : List (Int × Int)} (h : RunV q v l) {i : Nat} {x y : Int × Int} (hx : l[i]? = some x) (hy : l[i + 1]? = some y) : x.2 + 1 < y.1 := by
  obtain ⟨h1, rfl⟩ := List.getElem?_eq_some_iff.1 hx
  obtain ⟨h2, rfl⟩ := List.getElem?_eq_some_iff.1 hy
  exact List.pairwise_iff_getElem.1 h.srt i (i + 1) h1 h2 (by omega)
def inRun (l : List (Int × Int)) (n : Int) : Bool := l.any fun x => decide (x.1 ≤ n ∧ n ≤ x.2)
theorem inRun_iff {q : Nat → Bool} {v : Nat} {l : List (Int × Int)} (h : RunV q v l) {n : Int} (hn : 0 ≤ n ∧ n < v) : inRun l n = q n.toNat := by
  have := h.mem n.toNat (by omega)
  rw [Bool.eq_iff_iff, ← this]
  unfold inRun
  simp only [List.any_eq_true, decide_eq_true_eq]
  rw [show ((n.toNat : Nat) : Int) = n by omega]
/-! ### How many depths are critical -/
theorem cnt_zero {g lo hi v a : Int} : ∀ {n : Nat}, cntS g lo hi v a n = 0 ↔ ∀ i : Nat, i < n → critS g lo hi v (a + i) = false
  | 0 => by simp [cntS]
  | n + 1 => by
    have h1 := cntS_bnd (g := g) (lo := lo) (hi := hi) (v := v) (a := a) (n := n)
    have ih := cnt_zero (g := g) (lo := lo) (hi := hi) (v := v) (a := a) (n := n)
    simp only [cntS]
    constructor
    · intro h i hi'
      by_cases hc : critS g lo hi v (a + n) = true
      · rw [if_pos hc] at h; omega
      · rw [if_neg hc] at h
        rcases Nat.lt_succ_iff_lt_or_eq.1 hi' with h3 | rfl
        · exact ih.1 (by omega) i h3
        · simpa using hc
    · intro h
      rw [h n (by omega)]
      have := ih.2 fun i hi' => h i (by omega)
      simp [this]
theorem cnt_full {g lo hi v a : Int} : ∀ {n : Nat}, cntS g lo hi v a n = n ↔ ∀ i : Nat, i < n → critS g lo hi v (a + i) = true
  | 0 => by simp [cntS]
  | n + 1 => by
    have h1 := cntS_bnd (g := g) (lo := lo) (hi := hi) (v := v) (a := a) (n := n)
    have ih := cnt_full (g := g) (lo := lo) (hi := hi) (v := v) (a := a) (n := n)
    simp only [cntS]
    constructor
    · intro h i hi'
      by_cases hc : critS g lo hi v (a + n) = true
      · rw [if_pos hc] at h
        rcases Nat.lt_succ_iff_lt_or_eq.1 hi' with h3 | rfl
        · exact ih.1 (by omega) i h3
        · exact hc
      · rw [if_neg hc] at h; omega
    · intro h
      rw [h n (by omega)]
      have := ih.2 fun i hi' => h i (by omega)
      simp [this]
theorem wver_sure {g lo hi v a b : Int} : wverS g lo hi v a b = 1 ↔ ∀ d, a ≤ d → d ≤ b → critS g lo hi v d = false := by
  unfold wverS
  constructor
  · intro h d h1 h2
    split at h
    · rename_i h0
      have := cnt_zero.1 h0 (d - a).toNat (by omega)
      rwa [show a + ((d - a).toNat : Int) = d by omega] at this
    · split at h <;> simp at h
  · intro h
    rw [if_pos (cnt_zero.2 fun i hi' => h _ (by omega) (by omega))]
theorem wver_never {g lo hi v a b : Int} (hab : a ≤ b) : wverS g lo hi v a b = 2 ↔ ∀ d, a ≤ d → d ≤ b → critS g lo hi v d = true := by
  have hn : ((b - a + 1).toNat : Int) = b - a + 1 := by omega
  unfold wverS
  constructor
  · intro h d h1 h2
    split at h
    · simp at h
    · split at h
      · rename_i h0
        have := cnt_full.1 (h0.trans hn.symm) (d - a).toNat (by omega)
        rwa [show a + ((d - a).toNat : Int) = d by omega] at this
      · simp at h
  · intro h
    have h1 : cntS g lo hi v a (b - a + 1).toNat = ((b - a + 1).toNat : Int) := cnt_full.2 fun i hi' => h _ (by omega) (by omega)
    rw [if_neg (by rw [h1]; omega), if_pos (by rw [h1]; omega)]
theorem wver_bnd {g lo hi v a b : Int} : wverS g lo hi v a b = 1 ∨ wverS g lo hi v a b = 2 ∨ wverS g lo hi v a b = 3 := by unfold wverS; split; simp; split <;> simp
/-- depths within -/
theorem wver_in {g lo hi v a b a' b' : Int} (h1 : a ≤ a') (h2 : a' ≤ b') (h3 : b' ≤ b) (h : wverS g lo hi v a b ≠ 3) : wverS g lo hi v a' b' = wverS g lo hi v a b := by
  rcases wver_bnd (g := g) (lo := lo) (hi := hi) (v := v) (a := a) (b := b) with h4 | h4 | h4
  · rw [h4]; exact wver_sure.2 fun d h5 h6 => wver_sure.1 h4 d (by omega) (by omega)
  · rw [h4]; exact (wver_never h2).2 fun d h5 h6 => (wver_never (by omega)).1 h4 d (by omega) (by omega)
  · exact absurd h4 h
/-- a narrower band -/
theorem wver_band {g lo hi lo' hi' v a b : Int} (hg : 0 ≤ g) (ha : 0 ≤ a) (h1 : lo ≤ lo') (h2 : hi' ≤ hi) (h : wverS g lo hi v a b = 1) : wverS g lo' hi' v a b = 1 := by
  refine wver_sure.2 fun d h3 h4 => ?_
  have h5 := wver_sure.1 h d h3 h4
  unfold critS at h5 ⊢
  simp only [decide_eq_false_iff_not] at h5 ⊢
  have hd : 0 ≤ g * d := Int.mul_nonneg hg (by omega)
  have e1 : lo * (g * d) ≤ lo' * (g * d) := Int.mul_le_mul_of_nonneg_right h1 hd
  have e2 : hi' * (g * d) ≤ hi * (g * d) := Int.mul_le_mul_of_nonneg_right h2 hd
  omega
theorem band_far {p : Plate} (hV : PlateV p) (s : Int) : (bandS p s).1 ≤ (bandS p 100000).1 ∧ (bandS p 100000).2 ≤ (bandS p s).2 := by
  have hs : ¬ (100000 : Int) < p.shore := by have := hV.o2; omega
  have h1 := hV.l1
  have h2 := hV.l2
  have h3 := hV.w1
  have h4 := hV.w2
  rw [show bandS p 100000 = (p.low, p.high) from if_neg hs]
  unfold bandS
  split
  · simp only
    have e1 : p.low * (1000000 - p.wider) ≤ p.low * 1000000 := Int.mul_le_mul_of_nonneg_left (by omega) (by omega)
    have e2 : p.high * 1000000 ≤ p.high * (1000000 + p.wider) := Int.mul_le_mul_of_nonneg_left (by omega) (by omega)
    constructor
    · have := Int.ediv_le_ediv (c := 1000000) (by decide) e1
      rwa [Int.mul_ediv_cancel _ (by decide)] at this
    · have := Int.ediv_le_ediv (c := 1000000) (by decide) e2
      rw [Int.mul_ediv_cancel _ (by decide)] at this
      have h5 := Int.ediv_le_ediv (c := 1000000) (a := p.high * (1000000 + p.wider)) (b := p.high * (1000000 + p.wider) + 999999) (by decide) (by omega)
      omega
  · simp
end Go.Sas
