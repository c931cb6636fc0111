/-
Probe: with more looks, and narrower ones, no less is known.
Conditions: none.
-/
import Derived.Test.YtajegdbljldakaaQRM14
import Derived.Test.YtajegdbljldakaaPO
set_option linter.unusedVariables false
set_option linter.unusedSimpArgs false
namespace Go.Sas
/-- x says no less than y -/
def Nar (y x : Lk) : Prop := x.k = y.k ∧ x.p = y.p ∧ x.h = y.h ∧ y.lo ≤ x.lo ∧ x.hi ≤ y.hi
def NarL (l l' : List Lk) : Prop := ∀ y ∈ l, ∃ x ∈ l', Nar y x
theorem Nar.rfl' {x : Lk} : Nar x x := ⟨rfl, rfl, rfl, Int.le_refl _, Int.le_refl _⟩
theorem know_more {R : List Rch} {p : Nat} {h : Int} {l l' : List Lk} (hn : NarL l l') : (knowS R l p h).1 ≤ (knowS R l' p h).1 ∧ (knowS R l' p h).2 ≤ (knowS R l p h).2 := by
  obtain ⟨_, _, _, a4, a5⟩ := knowG_fold (R := R) (p := p) (h := h) (l := l) (s := (0, 3000)) (r := knowS R l p h) rfl
  obtain ⟨b1, b2, b3, _, _⟩ := knowG_fold (R := R) (p := p) (h := h) (l := l') (s := (0, 3000)) (r := knowS R l' p h) rfl
  dsimp only at a4 a5 b1 b2
  constructor
  · rcases a4 with a4 | ⟨y, hy, a4⟩
    · omega
    · obtain ⟨x, hx, _, e2, e3, e4, _⟩ := hn y hy
      have := (b3 x hx).1
      rw [e2, e3] at this
      omega
  · rcases a5 with a5 | ⟨y, hy, a5⟩
    · omega
    · obtain ⟨x, hx, _, e2, e3, _, e5⟩ := hn y hy
      have := (b3 x hx).2
      rw [e2, e3] at this
      omega
theorem stale_more {R : List Rch} {a b c h : Int} {p : Nat} {l l' : List Lk} (hn : NarL l l') (hs : staleS R a b c l h p = false) : staleS R a b c l' h p = false := by
  unfold staleS at hs ⊢
  simp only [Bool.not_eq_false'] at hs ⊢
  rw [List.any_eq_true] at hs ⊢
  obtain ⟨y, hy, h1⟩ := hs
  obtain ⟨x, hx, e1, e2, e3, _⟩ := hn y hy
  refine ⟨x, hx, ?_⟩
  unfold seenS at h1 ⊢
  rw [e1, e2, e3]; exact h1
theorem NarL.past {l l' : List Lk} {h : Int} (hn : NarL l l') : NarL (pastL l h) (pastL l' h) := fun y hy => by
  have h1 := List.mem_filter.1 hy
  obtain ⟨x, hx, e⟩ := hn y h1.1
  refine ⟨x, List.mem_filter.2 ⟨hx, ?_⟩, e⟩
  have h2 := h1.2
  simp only [decide_eq_true_eq] at h2 ⊢
  rw [e.2.2.1]; exact h2
theorem why_more {R : List Rch} {a b c : Int} {l l' : List Lk} {m : List Mrk} {need h : Int} {p : Nat} (hn : NarL l l') (hw : whyS R a b c l m need h p = 0) : whyS R a b c l' m need h p = 0 := by
  obtain ⟨h1, h2, h3⟩ := why_zero hw
  have h4 := (know_more (R := R) (p := p) (h := h) hn).1
  have h5 := stale_more hn h3
  unfold whyS
  rw [if_neg (by omega), if_neg (by simpa using h2), if_neg (by simp [h5])]
/-- the looks with the first ones narrower, and more of them -/
theorem narL_app {l a : List Lk} {r : List Lk} (hl : a.length = l.length) (h : ∀ (q : Nat) (x y : Lk), a[q]? = some x → l[q]? = some y → Nar y x) : NarL l (a ++ r) := fun y hy => by
  obtain ⟨q, hq⟩ := List.mem_iff_getElem?.1 hy
  have hlt := (List.getElem?_eq_some_iff.1 hq).1
  obtain ⟨x, hx⟩ : ∃ x, a[q]? = some x := ⟨_, List.getElem?_eq_getElem (by omega)⟩
  exact ⟨x, List.mem_append_left _ (List.mem_of_getElem? hx), h q x y hx hq⟩
end Go.Sas
