/-
Freight: Tell, and what a plan does in a winter: contracts.
Conditions: none.
-/
import Derived.Test.YthpjckoklnhbcaaHG
set_option linter.unusedVariables false
set_option linter.unusedSimpArgs false
namespace Go.Sas
open Go.Proofs
set_option maxRecDepth 100000
def eCheckWay : List AV → Option ((AV → Prop) → Prop)
  | [.agg [.lit (.int .i64 a), .lit (.int .i64 b), .lit (.int .i64 c), .lit (.int .i64 d), .vs 2 xs, .vs 4 ys], .agg [.lit (.int .i64 u), .lit (.int .i64 v), .vs 1 zs], .vs 1 rs] =>
    some fun K => ∃ (cs : List (Int × Int)) (os : List Ord) (ws : List Int) (way : List (List Int)), xs = cs.map sp ∧ ys = os.map orV ∧ zs = ws.map I ∧ (rs = way.map fun r => .vs 1 (r.map I)) ∧ cs.length ≤ 9223372036854775807 ∧ os.length ≤ 9223372036854775807 ∧ ws.length ≤ 9223372036854775807 ∧ way.length ≤ 9223372036854775807 ∧ ∀ q, q = checkWayS ⟨(a, b), (c, d), cs, os⟩ ⟨u, v, ws⟩ way → K (I q)
  | _ => none
theorem eCheckWay_ok : ∀ args pt, eCheckWay args = some pt → ∀ (H : AHeap) (Kk : AV → AHeap → Prop), pt (fun r => Kk r H) → ACalls Try.prog 95 args H Kk := by
  intro args pt h H Kk hk
  unfold eCheckWay at h
  split at h
  · cases h
    obtain ⟨cs, os, ws, way, rfl, rfl, rfl, rfl, h1, h2, h3, h4, h5⟩ := hk
    exact p95 _ _ _ _ _ _ _ _ _ _ h1 h2 h3 h4 H (h5 _ rfl)
  · cases h
theorem checkWayS_ok {f : Frt} {w : Win} {way : List (List Int)} (h : checkWayS f w way = 0) : checkWinterS f w = 0 ∧ RowsV f.ords.length f.caps.length way := by
  unfold checkWayS at h
  split at h
  · rename_i hz; exact absurd h hz
  rename_i hz
  split at h
  · omega
  rename_i h1
  split at h
  · omega
  rename_i h2
  simp only [not_or] at h1
  refine ⟨by simpa using hz, by omega, fun r hr => ⟨?_, fun x hx => ?_⟩⟩
  · have := h1.2
    rw [Bool.not_eq_true, List.any_eq_false] at this
    simpa using this r hr
  · rw [Bool.not_eq_false, List.all_eq_true] at h2
    have h3 := h2 r hr
    rw [List.all_eq_true] at h3
    exact okE_bnd (h3 x hx)
theorem winS_of {f : Frt} {w : Win} (hf : checkF f = 0) (h : WinV f w) : checkWinterS f w = 0 := by
  unfold checkWinterS
  rw [if_neg (by simp [hf]), if_neg (by simp [h.len]), if_pos]
  simp only [winB, inB, Bool.and_eq_true, decide_eq_true_eq, List.all_eq_true]
  refine ⟨⟨h.fi, h.la⟩, fun x hx => ?_⟩
  obtain ⟨i, hi⟩ := List.mem_iff_getElem?.1 hx
  obtain ⟨h1, h2⟩ := List.getElem?_zip_eq_some.1 hi
  exact h.cap i x.1 x.2 h1 h2
end Go.Sas
