/-
Probe: how marks spread, and are mended; the runs of a road.
Conditions: none.
-/
import Derived.Test.YtajegdbljldakaaQRM14
import Derived.Test.YtajegdbljldakaaPS
set_option linter.unusedVariables false
set_option linter.unusedSimpArgs false
namespace Go.Sas
theorem insV_sorted {x : Mrk} : ∀ {S : List Mrk}, S.Pairwise (fun a b => b.h ≤ a.h) → (insV (fun y => decide (keyM y < keyM x)) x S).Pairwise (fun a b => b.h ≤ a.h)
  | [], _ => by simp [insV]
  | y :: r, h => by
    rw [List.pairwise_cons] at h
    obtain ⟨h1, h2⟩ := h
    simp only [insV]
    by_cases hlt : keyM y < keyM x
    · rw [if_pos (by simpa using hlt), List.pairwise_cons]
      refine ⟨fun z hz => ?_, insV_sorted h2⟩
      rcases insV_mem.1 hz with rfl | hz
      · have : -y.h < -z.h := hlt; omega
      · exact h1 z hz
    · rw [if_neg (by simpa using hlt), List.pairwise_cons]
      have hle : y.h ≤ x.h := by have : ¬ -y.h < -x.h := hlt; omega
      refine ⟨fun z hz => ?_, List.pairwise_cons.2 ⟨h1, h2⟩⟩
      rcases List.mem_cons.1 hz with rfl | hz
      · exact hle
      · have := h1 z hz; omega
theorem sortM_sorted {l : List Mrk} : (sortM l).Pairwise (fun a b => a.h ≤ b.h) := by
  unfold sortM sortV
  rw [List.pairwise_reverse]
  have : ∀ (l S : List Mrk), S.Pairwise (fun a b => b.h ≤ a.h) → (l.foldl (fun s x => insV (fun y => decide (keyM y < keyM x)) x s) S).Pairwise (fun a b => b.h ≤ a.h) := by
    intro l
    induction l with
    | nil => exact fun S h => h
    | cons x l ih => exact fun S h => ih _ (insV_sorted h)
  exact this l [] List.Pairwise.nil
theorem inL_iff {l : Sps} {p : Int} : inL l p = true ↔ ∃ s ∈ l, s.1 ≤ p ∧ p ≤ s.2 := by
  unfold inL; rw [List.any_eq_true]; simp
theorem inL_without {l : Sps} {f t p : Int} : inL (withoutS l f t) p = true ↔ inL l p = true ∧ ¬ (f ≤ p ∧ p ≤ t) := by
  rw [inL_iff, inL_iff]
  unfold withoutS
  constructor
  · rintro ⟨s, hs, h1, h2⟩
    obtain ⟨u, hu, hs⟩ := List.mem_flatMap.1 hs
    rcases List.mem_append.1 hs with hs | hs
    · split at hs
      · simp only [List.mem_singleton] at hs; subst hs; dsimp only at h1 h2
        exact ⟨⟨u, hu, by omega⟩, by omega⟩
      · cases hs
    · split at hs
      · simp only [List.mem_singleton] at hs; subst hs; dsimp only at h1 h2
        exact ⟨⟨u, hu, by omega⟩, by omega⟩
      · cases hs
  · rintro ⟨⟨u, hu, h1, h2⟩, h3⟩
    by_cases hp : p < f
    · exact ⟨(u.1, min u.2 (f - 1)), List.mem_flatMap.2 ⟨u, hu, List.mem_append_left _ (by rw [if_pos (by omega)]; simp)⟩, by dsimp only; omega, by dsimp only; omega⟩
    · exact ⟨(max u.1 (t + 1), u.2), List.mem_flatMap.2 ⟨u, hu, List.mem_append_right _ (by rw [if_pos (by omega)]; simp)⟩, by dsimp only; omega, by dsimp only; omega⟩
theorem inL_spread {l : Sps} {N b p : Int} (hp : 0 ≤ p ∧ p ≤ N - 1) : inL (spreadS N b l) p = true ↔ ∃ s ∈ l, s.1 - b ≤ p ∧ p ≤ s.2 + b := by
  rw [inL_iff]
  unfold spreadS
  constructor
  · rintro ⟨s, hs, h1, h2⟩
    obtain ⟨u, hu, rfl⟩ := List.mem_map.1 hs
    dsimp only at h1 h2
    exact ⟨u, hu, by omega, by omega⟩
  · rintro ⟨u, hu, h1, h2⟩
    exact ⟨_, List.mem_map.2 ⟨u, hu, rfl⟩, by dsimp only; omega, by dsimp only; omega⟩
theorem spread_more {l : Sps} {N b b' p : Int} (hp : 0 ≤ p ∧ p ≤ N - 1) (hb : b ≤ b') (h : inL (spreadS N b l) p = true) : inL (spreadS N b' l) p = true := by
  obtain ⟨s, hs, h1, h2⟩ := (inL_spread hp).1 h
  exact (inL_spread hp).2 ⟨s, hs, by omega, by omega⟩
/-- without a mend of the next hour nothing shrinks -/
theorem cov_more {m : List Mrk} {k : Nat} {h N p : Int} (hp : 0 ≤ p ∧ p ≤ N - 1) (hs : 0 ≤ (m.getD k mk0).s) (hno : ∀ x ∈ m, x.k = 4 → x.h ≠ h + 1) :
    (inL (covS m k h N).1 p = true → inL (covS m k (h + 1) N).1 p = true) ∧ (inL (covS m k h N).2 p = true → inL (covS m k (h + 1) N).2 p = true) := by
  have hm : mendS m k (h + 1) = mendS m k h := by
    unfold mendS
    congr 1
    unfold mendL
    congr 1
    apply List.filter_congr
    rintro ⟨x, i⟩ hx
    have hxm := List.fst_mem_of_mem_zipIdx hx
    unfold isMend
    dsimp only at hxm ⊢
    rw [decide_eq_decide]
    have := hno x hxm
    constructor
    · rintro ⟨h1, h2, h3⟩; exact ⟨h1, by have := this h1; omega, h3⟩
    · rintro ⟨h1, h2, h3⟩; exact ⟨h1, by omega, h3⟩
  unfold covS
  rw [hm]
  by_cases hq : (m.getD k mk0).k = 4 ∨ h < (m.getD k mk0).h
  · rw [if_pos hq]; exact ⟨fun hh => Bool.noConfusion hh, fun hh => Bool.noConfusion hh⟩
  · rw [if_neg hq, if_neg (by omega)]
    dsimp only
    refine ⟨fun h1 => spread_more hp ?_ h1, fun h1 => h1⟩
    exact Int.mul_le_mul_of_nonneg_right (by omega) hs
theorem putF_val {f : Nat → Int} {l : Sps} {v : Int} {p : Nat} : putF f l v p = if f p ≠ 1 ∧ inL l p = true then v else f p := rfl
theorem verdF_char {m : List Mrk} {h N : Int} {p : Nat} : ∀ {k : Nat}, (verdF m h N k p = 1 ∨ verdF m h N k p = 2 ∨ verdF m h N k p = 3) ∧ (verdF m h N k p = 1 ↔ ∃ j < k, inL (covS m j h N).2 p = true) ∧
    (verdF m h N k p = 2 ↔ ∀ j < k, inL (covS m j h N).1 p = false ∧ inL (covS m j h N).2 p = false)
  | 0 => by
    refine ⟨.inr (.inl rfl), ⟨fun h => ?_, fun ⟨j, hj, _⟩ => absurd hj (Nat.not_lt_zero _)⟩, ⟨fun _ j hj => absurd hj (Nat.not_lt_zero _), fun _ => rfl⟩⟩
    have : (2 : Int) = 1 := h
    omega
  | k + 1 => by
    obtain ⟨h1, h2, h3⟩ := verdF_char (m := m) (h := h) (N := N) (p := p) (k := k)
    have hv : verdF m h N (k + 1) p = putF (putF (verdF m h N k) (covS m k h N).1 3) (covS m k h N).2 1 p := rfl
    rw [hv, putF_val, putF_val]
    obtain ⟨a, ha⟩ : ∃ a, a = verdF m h N k p := ⟨_, rfl⟩
    obtain ⟨u, hu⟩ : ∃ u, u = inL (covS m k h N).1 p := ⟨_, rfl⟩
    obtain ⟨w, hw⟩ : ∃ w, w = inL (covS m k h N).2 p := ⟨_, rfl⟩
    rw [← ha] at h1 h2 h3
    rw [← ha, ← hu, ← hw]
    have e2 : (∃ j < k + 1, inL (covS m j h N).2 p = true) ↔ a = 1 ∨ w = true := by
      rw [h2]
      constructor
      · rintro ⟨j, hj, hj2⟩
        by_cases hjk : j = k
        · subst hjk; exact .inr (hw.trans hj2)
        · exact .inl ⟨j, by omega, hj2⟩
      · rintro (⟨j, hj, hj2⟩ | hq)
        · exact ⟨j, by omega, hj2⟩
        · exact ⟨k, by omega, hw.symm.trans hq⟩
    have e3 : (∀ j < k + 1, inL (covS m j h N).1 p = false ∧ inL (covS m j h N).2 p = false) ↔ a = 2 ∧ u = false ∧ w = false := by
      rw [h3]
      constructor
      · intro hq; exact ⟨fun j hj => hq j (by omega), hu.trans (hq k (by omega)).1, hw.trans (hq k (by omega)).2⟩
      · rintro ⟨q1, q2, q3⟩ j hj
        by_cases hjk : j = k
        · subst hjk; exact ⟨hu.symm.trans q2, hw.symm.trans q3⟩
        · exact q1 j (by omega)
    rw [e2, e3]
    clear e2 e3 h2 h3 hu hw ha hv
    rcases h1 with rfl | rfl | rfl <;> cases u <;> cases w <;> simp
theorem verd_next {m : List Mrk} {h N : Int} {p : Nat} (hp : (p : Int) ≤ N - 1) (hs : ∀ x ∈ m, 0 ≤ x.s) (hno : ∀ x ∈ m, x.k = 4 → x.h ≠ h + 1) :
    (verdS m h N p = 1 → verdS m (h + 1) N p = 1) ∧ (verdS m h N p = 3 → verdS m (h + 1) N p ≠ 2) := by
  unfold verdS
  obtain ⟨a1, a2, a3⟩ := verdF_char (m := m) (h := h) (N := N) (p := p) (k := m.length)
  obtain ⟨b1, b2, b3⟩ := verdF_char (m := m) (h := h + 1) (N := N) (p := p) (k := m.length)
  have hsk : ∀ k, k < m.length → 0 ≤ (m.getD k mk0).s := fun k hk => by
    rw [List.getD_eq_getElem?_getD, List.getElem?_eq_getElem hk]; exact hs _ (List.getElem_mem _)
  have hcm : ∀ k, k < m.length → _ := fun k hk => cov_more (m := m) (k := k) (h := h) (N := N) (p := p) ⟨by omega, hp⟩ (hsk k hk) hno
  constructor
  · intro h1
    obtain ⟨j, hj, hj2⟩ := a2.1 h1
    exact b2.2 ⟨j, hj, (hcm j hj).2 hj2⟩
  · intro h1 h2
    have h3 := b3.1 h2
    have h4 : verdF m h N m.length p = 2 := a3.2 fun j hj => by
      constructor
      · cases hq : inL (covS m j h N).1 p with
        | false => rfl
        | true => have := (hcm j hj).1 hq; rw [(h3 j hj).1] at this; cases this
      · cases hq : inL (covS m j h N).2 p with
        | false => rfl
        | true => have := (hcm j hj).2 hq; rw [(h3 j hj).2] at this; cases this
    omega
theorem verd_rng {m : List Mrk} {h N : Int} {p : Nat} : verdS m h N p = 1 ∨ verdS m h N p = 2 ∨ verdS m h N p = 3 := (verdF_char (m := m) (h := h) (N := N) (p := p) (k := m.length)).1
/-! The runs part the road -/
def nxtR (l : List (Nat × Nat × Int)) : Nat := match l.getLast? with
  | some x => x.2.1 + 1
  | none => 0
def ChainR (l : List (Nat × Nat × Int)) : Prop := ∀ (i : Nat) (x : Nat × Nat × Int), l[i]? = some x → x.1 = nxtR (l.take i) ∧ x.1 ≤ x.2.1 ∧ ∀ y, l[i - 1]? = some y → 0 < i → x.2.2 ≠ y.2.2
theorem ChainR.snoc {l : List (Nat × Nat × Int)} {x : Nat × Nat × Int} (h : ChainR l) (h1 : x.1 = nxtR l) (h2 : x.1 ≤ x.2.1) (h3 : ∀ y, l.getLast? = some y → x.2.2 ≠ y.2.2) : ChainR (l ++ [x]) := by
  intro i z hz
  by_cases hi : i < l.length
  · rw [List.getElem?_append_left hi] at hz
    obtain ⟨a1, a2, a3⟩ := h i z hz
    refine ⟨by rw [List.take_append_of_le_length (by omega)]; exact a1, a2, fun y hy h0 => ?_⟩
    rw [List.getElem?_append_left (by omega)] at hy
    exact a3 y hy h0
  · have hil : i = l.length := by
      have := (List.getElem?_eq_some_iff.1 hz).1
      simp at this; omega
    subst hil
    rw [List.getElem?_append_right (Nat.le_refl _)] at hz
    simp at hz; subst hz
    refine ⟨by rw [List.take_left]; exact h1, h2, fun y hy h0 => ?_⟩
    rw [List.getElem?_append_left (by omega)] at hy
    exact h3 y (by rw [List.getLast?_eq_getElem?]; exact hy)
theorem ChainR.last {l : List (Nat × Nat × Int)} {f t t' : Nat} {v : Int} (h : ChainR (l ++ [(f, t, v)])) (ht : t ≤ t') : ChainR (l ++ [(f, t', v)]) := by
  have hl : ChainR l := fun i x hx => by
    have hi := (List.getElem?_eq_some_iff.1 hx).1
    obtain ⟨a1, a2, a3⟩ := h i x (by rw [List.getElem?_append_left hi]; exact hx)
    refine ⟨by rw [List.take_append_of_le_length (by omega)] at a1; exact a1, a2, fun y hy h0 => a3 y (by rw [List.getElem?_append_left (by omega)]; exact hy) h0⟩
  obtain ⟨a1, a2, a3⟩ := h l.length (f, t, v) (by simp)
  rw [List.take_left] at a1
  refine hl.snoc a1 (by dsimp only at a2 ⊢; omega) fun y hy => ?_
  have hne : 0 < l.length := by
    cases l with
    | nil => simp at hy
    | cons _ _ => simp
  rw [List.getLast?_eq_getElem?] at hy
  exact a3 y (by rw [List.getElem?_append_left (by omega)]; exact hy) hne
end Go.Sas
