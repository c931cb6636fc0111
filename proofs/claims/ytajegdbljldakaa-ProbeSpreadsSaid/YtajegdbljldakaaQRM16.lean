/-
Probe: how marks spread, and are mended; the runs of a road.
Conditions: none.
-/
import Derived.Test.YtajegdbljldakaaQRM14
import Derived.Test.YtajegdbljldakaaPS
set_option linter.unusedVariables false
set_option linter.unusedSimpArgs false
namespace Go.Sas
theorem insV_sorted {x : Mrk} : ∀ {S : List Mrk}, S.Pairwise (fun a b => b.h ≤ a.h) → (insV (fun y => decide (keyM y < keyM x)) x S).Pairwise (fun a b => b.h ≤ a.h)
  | [], _ => by simp [insV]
  | y :: r, h => by
    rw [List.pairwise_cons] at h
    obtain ⟨h1, h2⟩ := h
    simp only [insV]
    by_cases hlt : keyM y < keyM x
    · rw [if_pos (by simpa using hlt), List.pairwise_cons]
      refine ⟨fun z hz => ?_, insV_sorted h2⟩
      rcases insV_mem.1 hz with rfl | hz
      · have : -y.h < -z.h := hlt; omega
      · exact h1 z hz
    · rw [if_neg (by simpa using hlt), List.pairwise_cons]
      have hle : y.h ≤ x.h := by have : ¬ -y.h < -x.h := hlt; omega
      refine ⟨fun z hz => ?_, List.pairwise_cons.2 ⟨h1, h2⟩⟩
      rcases List.mem_cons.1 hz with rfl | hz
      · exact hle
      · have := h1 z hz; omega
theorem sortM_sorted {l : List Mrk} : (sortM l).Pairwise (fun a b => a.h ≤ b.h) := by
  unfold sortM sortV
  rw [List.pairwise_reverse]
  have : ∀ (l S : List Mrk), S.Pairwise (fun a b => b.h ≤ a.h) → (l.foldl (fun s x => insV (fun y => decide (keyM y < keyM x)) x s) S).Pairwise (fun a b => b.h ≤ a.h) := by
    intro l
    induction l with
    | nil => exact fun S h => h
    | cons x l ih => exact fun S h => ih _ (insV_sorted h)
  exact this l [] List.Pairwise.nil
theorem inL_iff {l : Sps} {p : Int} : inL l p = true ↔ ∃ s ∈ l, s.1 ≤ p ∧ p ≤ s.2 := by
  unfold inL; rw [List.any_eq_true]; simp
theorem inL_without {l : Sps} {f t p : Int} : inL (withoutS l f t) p = true ↔ inL l p = true ∧ ¬ (f ≤ p ∧ p ≤ t) := by
  rw [inL_iff, inL_iff]
  unfold withoutS
  constructor
  · rintro ⟨s, hs, h1, h2⟩
    obtain ⟨u, hu, hs⟩ := List.mem_flatMap.1 hs
    rcases List.mem_append.1 hs with hs | hs
    · split at hs
      · simp only [List.mem_singleton] at hs; subst hs; dsimp only at h1 h2
        exact ⟨⟨u, hu, by omega⟩, by omega⟩
      · cases hs
    · split at hs
      · simp only [List.mem_singleton] at hs; subst hs; dsimp only at h1 h2
        exact ⟨⟨u, hu, by omega⟩, by omega⟩
      · cases hs
  · rintro ⟨⟨u, hu, h1, h2⟩, h3⟩
    by_cases hp : p < f
    · exact ⟨(u.1, min u.2 (f - 1)), List.mem_flatMap.2 ⟨u, hu, List.mem_append_left _ (by rw [if_pos (by omega)]; simp)⟩, by dsimp only; omega, by dsimp only; omega⟩
    · exact ⟨(max u.1 (t + 1), u.2), List.mem_flatMap.2 ⟨u, hu, List.mem_append_right _ (by rw [if_pos (by omega)]; simp)⟩, by dsimp only; omega, by dsimp only; omega⟩
theorem inL_spread {l : Sps} {N b p : Int} (hp : 0 ≤ p ∧ p ≤ N - 1) : inL (spreadS N b l) p = true ↔ ∃ s ∈ l, s.1 - b ≤ p ∧ p ≤ s.2 + b := by
  rw [inL_iff]
  unfold spreadS
  constructor
  · rintro ⟨s, hs, h1, h2⟩
    obtain ⟨u, hu, rfl⟩ := List.mem_map.1 hs
    dsimp only at h1 h2
    exact ⟨u, hu, by omega, by omega⟩
  · rintro ⟨u, hu, h1, h2⟩
    exact ⟨_, List.mem_map.2 ⟨u, hu, rfl⟩, by dsimp only; omega, by dsimp only; omega⟩
theorem spread_zero {l : Sps} {N p : Int} (hp : 0 ≤ p ∧ p ≤ N - 1) (h : inL l p = false) : inL (spreadS N 0 l) p = false := by
  cases hq : inL (spreadS N 0 l) p with
  | false => rfl
  | true =>
    obtain ⟨s, hs, h1, h2⟩ := (inL_spread hp).1 hq
    have : inL l p = true := inL_iff.2 ⟨s, hs, by omega, by omega⟩
    rw [h] at this; cases this
theorem spread_more {l : Sps} {N b b' p : Int} (hp : 0 ≤ p ∧ p ≤ N - 1) (hb : b ≤ b') (h : inL (spreadS N b l) p = true) : inL (spreadS N b' l) p = true := by
  obtain ⟨s, hs, h1, h2⟩ := (inL_spread hp).1 h
  exact (inL_spread hp).2 ⟨s, hs, by omega, by omega⟩
theorem without_no {l : Sps} {f t p : Int} (h : inL l p = false ∨ f ≤ p ∧ p ≤ t) : inL (withoutS l f t) p = false := by
  cases hq : inL (withoutS l f t) p with
  | false => rfl
  | true =>
    obtain ⟨h1, h2⟩ := inL_without.1 hq
    rcases h with h | h
    · rw [h] at h1; cases h1
    · exact absurd h h2
/-- what a mend of the hour takes out stays out -/
theorem cov_mended {m : List Mrk} {k i : Nat} {h N p : Int} {y : Mrk} (hp : 0 ≤ p ∧ p ≤ N - 1) (hy : m[i]? = some y) (hk4 : y.k = 4) (hh : y.h = h) (hin : y.f ≤ p ∧ p ≤ y.t) (hki : (m.getD k mk0).h < h ∨ k < i) :
    inL (covS m k h N).1 p = false ∧ inL (covS m k h N).2 p = false := by
  unfold covS
  split
  · exact ⟨rfl, rfl⟩
  · rename_i hno
    have hmk : (m.getD k mk0).h ≤ h := by omega
    have hmem : y ∈ mendS m k h := by
      unfold mendS sortM
      rw [sortV_mem]
      unfold mendL
      refine List.mem_map.2 ⟨(y, i), List.mem_filter.2 ⟨?_, ?_⟩, rfl⟩
      · rw [List.mem_zipIdx_iff_getElem?]; exact hy
      · unfold isMend; rw [decide_eq_true_eq]; dsimp only; exact ⟨hk4, by omega, by omega⟩
    have hle : ∀ z ∈ mendS m k h, z.h ≤ h := fun z hz => by
      unfold mendS sortM at hz
      rw [sortV_mem] at hz
      unfold mendL at hz
      obtain ⟨q, hq, rfl⟩ := List.mem_map.1 hz
      have := (List.mem_filter.1 hq).2
      unfold isMend at this; rw [decide_eq_true_eq] at this
      exact this.2.1
    have hsrt : (mendS m k h).Pairwise (fun a b => a.h ≤ b.h) := sortM_sorted
    obtain ⟨A, B, hAB⟩ := List.append_of_mem hmem
    rw [hAB] at hsrt hle ⊢
    have hB : ∀ z ∈ B, z.h = h := fun z hz => by
      have h1 := (List.pairwise_append.1 hsrt).2.1
      have h2 := (List.pairwise_cons.1 h1).1 z hz
      have h3 := hle z (by simp [hz])
      omega
    dsimp only
    rw [List.foldl_append, List.foldl_cons]
    obtain ⟨s0, hs0⟩ : ∃ s, s = A.foldl (covStep N (m.getD k mk0).s) ([((m.getD k mk0).f, (m.getD k mk0).t)], [((m.getD k mk0).f, (m.getD k mk0).t)], (m.getD k mk0).h) := ⟨_, rfl⟩
    rw [← hs0]
    have key : ∀ (B : List Mrk) (s : Sps × Sps × Int), (∀ z ∈ B, z.h = h) → inL s.1 p = false → inL s.2.1 p = false → s.2.2 = h →
        inL (B.foldl (covStep N (m.getD k mk0).s) s).1 p = false ∧ inL (B.foldl (covStep N (m.getD k mk0).s) s).2.1 p = false ∧ (B.foldl (covStep N (m.getD k mk0).s) s).2.2 = h := by
      intro B
      induction B with
      | nil => exact fun s _ h1 h2 h3 => ⟨h1, h2, h3⟩
      | cons z B ih =>
        intro s hz h1 h2 h3
        rw [List.foldl_cons]
        have hzh := hz z (by simp)
        refine ih _ (fun z' hz' => hz z' (by simp [hz'])) ?_ ?_ hzh
        · unfold covStep; dsimp only
          rw [hzh, h3, Int.sub_self, Int.zero_mul]
          exact without_no (.inl (spread_zero hp h1))
        · unfold covStep; dsimp only
          exact without_no (.inl h2)
    obtain ⟨k1, k2, k3⟩ := key B (covStep N (m.getD k mk0).s s0 y) hB (without_no (.inr hin)) (without_no (.inr hin)) hh
    refine ⟨?_, k2⟩
    rw [k3, Int.sub_self, Int.zero_mul]
    exact spread_zero hp k1
/-- without a mend of the next hour nothing shrinks -/
theorem cov_more {m : List Mrk} {k : Nat} {h N p : Int} (hp : 0 ≤ p ∧ p ≤ N - 1) (hs : 0 ≤ (m.getD k mk0).s) (hno : ∀ x ∈ m, x.k = 4 → x.h ≠ h + 1) :
    (inL (covS m k h N).1 p = true → inL (covS m k (h + 1) N).1 p = true) ∧ (inL (covS m k h N).2 p = true → inL (covS m k (h + 1) N).2 p = true) := by
  have hm : mendS m k (h + 1) = mendS m k h := by
    unfold mendS
    congr 1
    unfold mendL
    congr 1
    apply List.filter_congr
    rintro ⟨x, i⟩ hx
    have hxm := List.fst_mem_of_mem_zipIdx hx
    unfold isMend
    dsimp only at hxm ⊢
    rw [decide_eq_decide]
    have := hno x hxm
    constructor
    · rintro ⟨h1, h2, h3⟩; exact ⟨h1, by have := this h1; omega, h3⟩
    · rintro ⟨h1, h2, h3⟩; exact ⟨h1, by omega, h3⟩
  unfold covS
  rw [hm]
  by_cases hq : (m.getD k mk0).k = 4 ∨ h < (m.getD k mk0).h
  · rw [if_pos hq]; exact ⟨fun hh => Bool.noConfusion hh, fun hh => Bool.noConfusion hh⟩
  · rw [if_neg hq, if_neg (by omega)]
    dsimp only
    refine ⟨fun h1 => spread_more hp ?_ h1, fun h1 => h1⟩
    exact Int.mul_le_mul_of_nonneg_right (by omega) hs
theorem putF_val {f : Nat → Int} {l : Sps} {v : Int} {p : Nat} : putF f l v p = if f p ≠ 1 ∧ inL l p = true then v else f p := rfl
theorem verdF_char {m : List Mrk} {h N : Int} {p : Nat} : ∀ {k : Nat}, (verdF m h N k p = 1 ∨ verdF m h N k p = 2 ∨ verdF m h N k p = 3) ∧ (verdF m h N k p = 1 ↔ ∃ j < k, inL (covS m j h N).2 p = true) ∧
    (verdF m h N k p = 2 ↔ ∀ j < k, inL (covS m j h N).1 p = false ∧ inL (covS m j h N).2 p = false)
  | 0 => by
    refine ⟨.inr (.inl rfl), ⟨fun h => ?_, fun ⟨j, hj, _⟩ => absurd hj (Nat.not_lt_zero _)⟩, ⟨fun _ j hj => absurd hj (Nat.not_lt_zero _), fun _ => rfl⟩⟩
    have : (2 : Int) = 1 := h
    omega
  | k + 1 => by
    obtain ⟨h1, h2, h3⟩ := verdF_char (m := m) (h := h) (N := N) (p := p) (k := k)
    have hv : verdF m h N (k + 1) p = putF (putF (verdF m h N k) (covS m k h N).1 3) (covS m k h N).2 1 p := rfl
    rw [hv, putF_val, putF_val]
    obtain ⟨a, ha⟩ : ∃ a, a = verdF m h N k p := ⟨_, rfl⟩
    obtain ⟨u, hu⟩ : ∃ u, u = inL (covS m k h N).1 p := ⟨_, rfl⟩
    obtain ⟨w, hw⟩ : ∃ w, w = inL (covS m k h N).2 p := ⟨_, rfl⟩
    rw [← ha] at h1 h2 h3
    rw [← ha, ← hu, ← hw]
    have e2 : (∃ j < k + 1, inL (covS m j h N).2 p = true) ↔ a = 1 ∨ w = true := by
      rw [h2]
      constructor
      · rintro ⟨j, hj, hj2⟩
        by_cases hjk : j = k
        · subst hjk; exact .inr (hw.trans hj2)
        · exact .inl ⟨j, by omega, hj2⟩
      · rintro (⟨j, hj, hj2⟩ | hq)
        · exact ⟨j, by omega, hj2⟩
        · exact ⟨k, by omega, hw.symm.trans hq⟩
    have e3 : (∀ j < k + 1, inL (covS m j h N).1 p = false ∧ inL (covS m j h N).2 p = false) ↔ a = 2 ∧ u = false ∧ w = false := by
      rw [h3]
      constructor
      · intro hq; exact ⟨fun j hj => hq j (by omega), hu.trans (hq k (by omega)).1, hw.trans (hq k (by omega)).2⟩
      · rintro ⟨q1, q2, q3⟩ j hj
        by_cases hjk : j = k
        · subst hjk; exact ⟨hu.symm.trans q2, hw.symm.trans q3⟩
        · exact q1 j (by omega)
    rw [e2, e3]
    clear e2 e3 h2 h3 hu hw ha hv
    rcases h1 with rfl | rfl | rfl <;> cases u <;> cases w <;> simp
theorem verd_next {m : List Mrk} {h N : Int} {p : Nat} (hp : (p : Int) ≤ N - 1) (hs : ∀ x ∈ m, 0 ≤ x.s) (hno : ∀ x ∈ m, x.k = 4 → x.h ≠ h + 1) :
    (verdS m h N p = 1 → verdS m (h + 1) N p = 1) ∧ (verdS m h N p = 3 → verdS m (h + 1) N p ≠ 2) := by
  unfold verdS
  obtain ⟨a1, a2, a3⟩ := verdF_char (m := m) (h := h) (N := N) (p := p) (k := m.length)
  obtain ⟨b1, b2, b3⟩ := verdF_char (m := m) (h := h + 1) (N := N) (p := p) (k := m.length)
  have hsk : ∀ k, k < m.length → 0 ≤ (m.getD k mk0).s := fun k hk => by
    rw [List.getD_eq_getElem?_getD, List.getElem?_eq_getElem hk]; exact hs _ (List.getElem_mem _)
  have hcm : ∀ k, k < m.length → _ := fun k hk => cov_more (m := m) (k := k) (h := h) (N := N) (p := p) ⟨by omega, hp⟩ (hsk k hk) hno
  constructor
  · intro h1
    obtain ⟨j, hj, hj2⟩ := a2.1 h1
    exact b2.2 ⟨j, hj, (hcm j hj).2 hj2⟩
  · intro h1 h2
    have h3 := b3.1 h2
    have h4 : verdF m h N m.length p = 2 := a3.2 fun j hj => by
      constructor
      · cases hq : inL (covS m j h N).1 p with
        | false => rfl
        | true => have := (hcm j hj).1 hq; rw [(h3 j hj).1] at this; cases this
      · cases hq : inL (covS m j h N).2 p with
        | false => rfl
        | true => have := (hcm j hj).2 hq; rw [(h3 j hj).2] at this; cases this
    omega
theorem verd_mended {m : List Mrk} {i : Nat} {h N : Int} {p : Nat} {y : Mrk} (hp : (p : Int) ≤ N - 1) (hy : m[i]? = some y) (hk4 : y.k = 4) (hh : y.h = h) (hin : y.f ≤ p ∧ p ≤ y.t) (haf : ∀ (k : Nat) (x : Mrk), i < k → m[k]? = some x → x.k ≠ 4 → x.h ≠ h) : verdS m h N p = 2 := by
  unfold verdS
  refine (verdF_char (m := m) (h := h) (N := N) (p := p) (k := m.length)).2.2.2 fun k hk => ?_
  obtain ⟨x, hx⟩ : ∃ x, m[k]? = some x := ⟨_, List.getElem?_eq_getElem hk⟩
  have d1 : m.getD k mk0 = x := by rw [List.getD_eq_getElem?_getD, hx]; rfl
  by_cases hx4 : x.k = 4 ∨ h < x.h
  · unfold covS; rw [d1, if_pos hx4]; exact ⟨rfl, rfl⟩
  · refine cov_mended ⟨by omega, hp⟩ hy hk4 hh hin ?_
    rw [d1]
    by_cases hlt : x.h < h
    · exact .inl hlt
    · right
      by_cases hik : i < k
      · exact absurd (by omega) (haf k x hik hx (by omega))
      · by_cases he : k = i
        · subst he; rw [hy] at hx; cases hx; omega
        · omega
theorem verd_rng {m : List Mrk} {h N : Int} {p : Nat} : verdS m h N p = 1 ∨ verdS m h N p = 2 ∨ verdS m h N p = 3 := (verdF_char (m := m) (h := h) (N := N) (p := p) (k := m.length)).1
/-! The runs part the road -/
def nxtR (l : List (Nat × Nat × Int)) : Nat := match l.getLast? with
  | some x => x.2.1 + 1
  | none => 0
def ChainR (l : List (Nat × Nat × Int)) : Prop := ∀ (i : Nat) (x : Nat × Nat × Int), l[i]? = some x → x.1 = nxtR (l.take i) ∧ x.1 ≤ x.2.1 ∧ ∀ y, l[i - 1]? = some y → 0 < i → x.2.2 ≠ y.2.2
theorem nxtR_snoc {l : List (Nat × Nat × Int)} {x : Nat × Nat × Int} : nxtR (l ++ [x]) = x.2.1 + 1 := by simp [nxtR]
theorem ChainR.snoc {l : List (Nat × Nat × Int)} {x : Nat × Nat × Int} (h : ChainR l) (h1 : x.1 = nxtR l) (h2 : x.1 ≤ x.2.1) (h3 : ∀ y, l.getLast? = some y → x.2.2 ≠ y.2.2) : ChainR (l ++ [x]) := by
  intro i z hz
  by_cases hi : i < l.length
  · rw [List.getElem?_append_left hi] at hz
    obtain ⟨a1, a2, a3⟩ := h i z hz
    refine ⟨by rw [List.take_append_of_le_length (by omega)]; exact a1, a2, fun y hy h0 => ?_⟩
    rw [List.getElem?_append_left (by omega)] at hy
    exact a3 y hy h0
  · have hil : i = l.length := by
      have := (List.getElem?_eq_some_iff.1 hz).1
      simp at this; omega
    subst hil
    rw [List.getElem?_append_right (Nat.le_refl _)] at hz
    simp at hz; subst hz
    refine ⟨by rw [List.take_left]; exact h1, h2, fun y hy h0 => ?_⟩
    rw [List.getElem?_append_left (by omega)] at hy
    exact h3 y (by rw [List.getLast?_eq_getElem?]; exact hy)
theorem ChainR.last {l : List (Nat × Nat × Int)} {f t t' : Nat} {v : Int} (h : ChainR (l ++ [(f, t, v)])) (ht : t ≤ t') : ChainR (l ++ [(f, t', v)]) := by
  have hl : ChainR l := fun i x hx => by
    have hi := (List.getElem?_eq_some_iff.1 hx).1
    obtain ⟨a1, a2, a3⟩ := h i x (by rw [List.getElem?_append_left hi]; exact hx)
    refine ⟨by rw [List.take_append_of_le_length (by omega)] at a1; exact a1, a2, fun y hy h0 => a3 y (by rw [List.getElem?_append_left (by omega)]; exact hy) h0⟩
  obtain ⟨a1, a2, a3⟩ := h l.length (f, t, v) (by simp)
  rw [List.take_left] at a1
  refine hl.snoc a1 (by dsimp only at a2 ⊢; omega) fun y hy => ?_
  have hne : 0 < l.length := by
    cases l with
    | nil => simp at hy
    | cons _ _ => simp
  rw [List.getLast?_eq_getElem?] at hy
  exact a3 y (by rw [List.getElem?_append_left (by omega)]; exact hy) hne
theorem runs_chain {V : Nat → Int} : ∀ n, ChainR (runsN V n) ∧ nxtR (runsN V n) = n
  | 0 => ⟨fun i x hx => by simp [runsN] at hx, rfl⟩
  | 1 => by
    have e : runsN V 1 = [] ++ [(0, 0, V 0)] := rfl
    rw [e]
    exact ⟨ChainR.snoc (fun i x hx => by simp at hx) rfl (Nat.le_refl _) (fun y hy => by simp at hy), nxtR_snoc⟩
  | k + 2 => by
    obtain ⟨ih1, ih2⟩ := runs_chain (V := V) (k + 1)
    obtain ⟨l, f, hl, hf⟩ := runsN_last (V := V) (n := k)
    rw [hl] at ih1 ih2
    by_cases hv : V k = V (k + 1)
    · have e := runsN_more hl hv
      rw [e]
      exact ⟨ih1.last (by omega), nxtR_snoc⟩
    · have e : runsN V (k + 2) = runsN V (k + 1) ++ [(k + 1, k + 1, V (k + 1))] := runsN_new (.inr (by rw [Nat.add_sub_cancel]; exact hv))
      rw [e, hl]
      refine ⟨ih1.snoc ih2.symm (Nat.le_refl _) fun y hy => ?_, nxtR_snoc⟩
      simp at hy; subst hy
      exact fun h => hv h.symm
end Go.Sas
