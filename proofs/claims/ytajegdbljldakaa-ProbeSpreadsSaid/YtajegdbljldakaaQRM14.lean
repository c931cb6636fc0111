/-
Probe: marks and looks of later hours say nothing.
Conditions: none.
-/
import Derived.Test.YtajegdbljldakaaQRM13
import Derived.Test.YtajegdbljldakaaPM
set_option linter.unusedVariables false
set_option linter.unusedSimpArgs false
namespace Go.Sas
theorem zip_filter {α : Type} {A : α → Bool} : ∀ (l : List α) (n : Nat), ((l.zipIdx n).filter fun p => A p.1).map (·.1) = l.filter A
  | [], _ => rfl
  | x :: l, n => by
    rw [List.zipIdx_cons, List.filter_cons, List.filter_cons]
    cases h : A x with
    | true => simp only [if_true, List.map_cons]; rw [zip_filter l (n + 1)]
    | false => simpa using zip_filter l (n + 1)
theorem zip_bnd {α : Type} {l : List α} {n : Nat} {p : α × Nat} (h : p ∈ l.zipIdx n) : n ≤ p.2 ∧ p.2 < n + l.length := by
  obtain ⟨x, i⟩ := p
  have := List.mem_zipIdx h
  dsimp only
  omega
def mdA (hk h : Int) (x : Mrk) : Bool := decide (x.k = 4 ∧ x.h ≤ h ∧ hk < x.h)
def mdB (hk h : Int) (x : Mrk) : Bool := decide (x.k = 4 ∧ x.h ≤ h ∧ hk ≤ x.h)
theorem mendL_split {m : List Mrk} {k : Nat} {h : Int} (hk : k < m.length) : mendL m k h = (m.take (k + 1)).filter (mdA (m.getD k mk0).h h) ++ (m.drop (k + 1)).filter (mdB (m.getD k mk0).h h) := by
  unfold mendL
  have hz : m.zipIdx = (m.take (k + 1)).zipIdx ++ (m.drop (k + 1)).zipIdx (k + 1) := by
    have := List.zipIdx_append (xs := m.take (k + 1)) (ys := m.drop (k + 1)) (k := 0)
    rw [List.take_append_drop] at this
    rw [this]; congr 2; simp; omega
  rw [hz, List.filter_append, List.map_append]
  congr 1
  · rw [← zip_filter (m.take (k + 1)) 0]
    congr 1
    apply List.filter_congr
    intro p hp
    have hb := zip_bnd hp
    have hlt : ¬ k < p.2 := by have := hb.2; rw [List.length_take] at this; omega
    unfold isMend mdA
    rw [decide_eq_decide]
    constructor
    · rintro ⟨h1, h2, h3⟩; exact ⟨h1, h2, h3.elim id fun h4 => absurd h4.2 hlt⟩
    · rintro ⟨h1, h2, h3⟩; exact ⟨h1, h2, .inl h3⟩
  · rw [← zip_filter (m.drop (k + 1)) (k + 1)]
    congr 1
    apply List.filter_congr
    intro p hp
    have hb := zip_bnd hp
    unfold isMend mdB
    rw [decide_eq_decide]
    constructor
    · rintro ⟨h1, h2, h3⟩; exact ⟨h1, h2, by omega⟩
    · rintro ⟨h1, h2, h3⟩; exact ⟨h1, h2, by omega⟩
def pP (h : Int) (x : Mrk) : Bool := decide (x.h ≤ h)
/-- at which place what stands at k stands among those of no later hour -/
def idxP (m : List Mrk) (h : Int) (k : Nat) : Nat := ((m.take k).filter (pP h)).length
theorem pastM_split {m : List Mrk} {h : Int} {k : Nat} {x : Mrk} (hx : m[k]? = some x) (hp : x.h ≤ h) : pastM m h = (m.take k).filter (pP h) ++ x :: (m.drop (k + 1)).filter (pP h) := by
  obtain ⟨h8, he⟩ := List.getElem?_eq_some_iff.1 hx
  have e : m = m.take k ++ x :: m.drop (k + 1) := by
    rw [← he]
    have := List.take_append_drop k m
    rw [List.drop_eq_getElem_cons h8] at this
    exact this.symm
  unfold pastM
  conv => lhs; rw [e]
  rw [List.filter_append, List.filter_cons, if_pos (by simpa using hp)]; rfl
theorem past_get {m : List Mrk} {h : Int} {k : Nat} {x : Mrk} (hx : m[k]? = some x) (hp : x.h ≤ h) : (pastM m h)[idxP m h k]? = some x := by
  rw [pastM_split hx hp, List.getElem?_append_right (by unfold idxP; omega)]
  simp [idxP]
theorem filter_sub {α : Type} {A P : α → Bool} (h : ∀ x, A x = true → P x = true) (l : List α) : (l.filter P).filter A = l.filter A := by
  rw [List.filter_filter]
  apply List.filter_congr
  intro x _
  cases hA : A x with
  | true => simp [h x hA]
  | false => rfl
theorem cov_past {m : List Mrk} {h N : Int} {k : Nat} {x : Mrk} (hx : m[k]? = some x) (hp : x.h ≤ h) : covS (pastM m h) (idxP m h k) h N = covS m k h N := by
  have hk : k < m.length := (List.getElem?_eq_some_iff.1 hx).1
  have g1 := past_get hx hp
  have hk' : idxP m h k < (pastM m h).length := (List.getElem?_eq_some_iff.1 g1).1
  have d1 : m.getD k mk0 = x := by rw [List.getD_eq_getElem?_getD, hx]; rfl
  have d2 : (pastM m h).getD (idxP m h k) mk0 = x := by rw [List.getD_eq_getElem?_getD, g1]; rfl
  have hm : mendL (pastM m h) (idxP m h k) h = mendL m k h := by
    rw [mendL_split hk', mendL_split hk, d1, d2]
    have hs := pastM_split hx hp
    have hlen : idxP m h k = ((m.take k).filter (pP h)).length := rfl
    have e1 : (pastM m h).take (idxP m h k + 1) = (m.take (k + 1)).filter (pP h) := by
      rw [hs, hlen]
      obtain ⟨h8, he⟩ := List.getElem?_eq_some_iff.1 hx
      rw [List.take_succ_eq_append_getElem h8, he, List.filter_append, List.take_length_add_append]
      simp [pP, hp]
    have e2 : (pastM m h).drop (idxP m h k + 1) = (m.drop (k + 1)).filter (pP h) := by
      rw [hs, hlen, List.drop_length_add_append]; rfl
    rw [e1, e2, filter_sub (fun y hy => ?_), filter_sub (fun y hy => ?_)]
    · first
        | (unfold mdB at hy; unfold pP; simp only [decide_eq_true_eq] at hy ⊢; exact hy.2.1)
        | (unfold mdA at hy; unfold pP; simp only [decide_eq_true_eq] at hy ⊢; exact hy.2.1)
    · first
        | (unfold mdB at hy; unfold pP; simp only [decide_eq_true_eq] at hy ⊢; exact hy.2.1)
        | (unfold mdA at hy; unfold pP; simp only [decide_eq_true_eq] at hy ⊢; exact hy.2.1)
  unfold covS mendS
  rw [d1, d2, hm]
theorem putF_nil {f : Nat → Int} {v : Int} : putF f [] v = f := by funext p; simp [putF, inL]
theorem verdF_past {m : List Mrk} {h N : Int} : ∀ {k : Nat}, k ≤ m.length → verdF (pastM m h) h N (idxP m h k) = verdF m h N k
  | 0, _ => by simp [idxP, verdF]
  | k + 1, hk => by
    obtain ⟨x, hx⟩ : ∃ x, m[k]? = some x := ⟨_, List.getElem?_eq_getElem (by omega)⟩
    have ih := verdF_past (m := m) (h := h) (N := N) (k := k) (by omega)
    obtain ⟨h8, he⟩ := List.getElem?_eq_some_iff.1 hx
    by_cases hp : x.h ≤ h
    · have e : idxP m h (k + 1) = idxP m h k + 1 := by
        unfold idxP; rw [List.take_succ_eq_append_getElem h8, he, List.filter_append]; simp [pP, hp]
      rw [e]
      simp only [verdF]
      rw [ih, cov_past hx hp]
    · have e : idxP m h (k + 1) = idxP m h k := by
        unfold idxP; rw [List.take_succ_eq_append_getElem h8, he, List.filter_append]; simp [pP, hp]
      rw [e, ih]
      simp only [verdF]
      have d1 : m.getD k mk0 = x := by rw [List.getD_eq_getElem?_getD, hx]; rfl
      have hc : covS m k h N = ([], []) := by unfold covS; rw [d1, if_pos (.inr (by omega))]
      rw [hc, putF_nil, putF_nil]
theorem verd_past {m : List Mrk} {h N : Int} : verdS (pastM m h) h N = verdS m h N := by
  have := verdF_past (m := m) (h := h) (N := N) (Nat.le_refl _)
  unfold verdS
  rw [← this]
  congr 1
  unfold idxP pastM
  rw [List.take_length]; rfl
theorem stale_past {R : List Rch} {a b c h : Int} {l : List Lk} {p : Nat} : staleS R a b c (pastL l h) h p = staleS R a b c l h p := by
  unfold staleS
  congr 1
  unfold pastL
  rw [List.any_filter]
  congr 1
  funext x
  unfold seenS
  by_cases hx : x.h ≤ h
  · simp [hx]
  · simp [hx]
theorem why_rng {R : List Rch} {a b c : Int} {l : List Lk} {m : List Mrk} {need h : Int} {p : Nat} : 0 ≤ whyS R a b c l m need h p ∧ whyS R a b c l m need h p ≤ 3 := by
  unfold whyS
  split
  · omega
  · split
    · omega
    · split <;> omega
theorem why_zero {R : List Rch} {a b c : Int} {l : List Lk} {m : List Mrk} {need h : Int} {p : Nat} (hw : whyS R a b c l m need h p = 0) : need ≤ (knowS R l p h).1 ∧ verdS m h (iLen R.length) p = 2 ∧ staleS R a b c l h p = false := by
  unfold whyS at hw
  split at hw
  · omega
  · split at hw
    · omega
    · split at hw
      · omega
      · rename_i h1 h2 h3
        exact ⟨by omega, by simpa using h2, by simpa using h3⟩
end Go.Sas
