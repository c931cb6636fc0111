/-
Probe: how long a place stays open, when nothing new is known: plain laws.
Conditions: none.
-/
import Derived.Test.YtajegdbljldakaaQRM18
set_option linter.unusedVariables false
set_option linter.unusedSimpArgs false
namespace Go.Sas
open Go.Proofs
theorem pastL_self {l : List Lk} {h g : Int} (hg : g ≤ h) : pastL (pastL l g) h = pastL l g := by
  refine List.filter_eq_self.2 fun x hx => ?_
  have := pastL_h x hx
  exact decide_eq_true (by omega)
theorem pastM_self {m : List Mrk} {h g : Int} (hg : g ≤ h) : pastM (pastM m g) h = pastM m g := by
  refine List.filter_eq_self.2 fun x hx => ?_
  have := pastM_h x hx
  exact decide_eq_true (by omega)
theorem plc_ev {rs : List Rch} (h : ∀ r ∈ rs, r.ev ≤ 14) {p : Nat} (hp : p < (plc rs).length) : ((plc rs).getD p rc0).ev ≤ 14 := by
  have hm : (plc rs).getD p rc0 ∈ plc rs := by rw [List.getD_eq_getElem?_getD, List.getElem?_eq_getElem hp]; exact List.getElem_mem _
  obtain ⟨r, hr⟩ : ∃ r, r = (plc rs).getD p rc0 := ⟨_, rfl⟩
  rw [← hr] at hm ⊢
  obtain ⟨x, hx, hx2⟩ := List.mem_flatMap.1 hm
  rw [List.eq_of_mem_replicate hx2]; exact h x hx
theorem stale_far {R : List Rch} {a b c : Int} {l : List Lk} {h g : Int} {p : Nat} (hev : (R.getD p rc0).ev ≤ 14) (hl : ∀ x ∈ l, x.h ≤ h) (hg : h + 14 < g) : staleS R a b c l g p = true := by
  unfold staleS
  rw [Bool.not_eq_true', List.any_eq_false]
  intro x hx h1
  unfold seenS at h1
  have h2 := of_decide_eq_true (Bool.and_eq_true_iff.1 h1).2
  have := hl x hx
  omega
theorem why_far {R : List Rch} {a b c : Int} {l : List Lk} {m : List Mrk} {need h : Int} {p : Nat} (h1 : staleS R a b c l h p = true) : whyS R a b c l m need h p ≠ 0 := by
  unfold whyS
  split
  · decide
  · split
    · decide
    · first | decide | (rw [if_pos h1]; decide)
theorem fst_le {R : List Rch} {a b c : Int} {l : List Lk} {m : List Mrk} {need h : Int} {p N r : Nat} (hf : FstR (shutQ R a b c l m need h p) N r) (hev : (R.getD p rc0).ev ≤ 14) : r ≤ 15 := by
  by_cases h1 : r ≤ 15
  · exact h1
  · have h2 := hf.2.1 15 (by omega)
    unfold shutQ at h2
    exact absurd (stale_far (a := a) (b := b) (c := c) (g := h + iLen 15) hev (pastL_h (l := l) (h := h)) (by unfold iLen; omega)) (fun h3 => of_decide_eq_false h2 (why_far h3))
end Go.Sas
