/-
Probe: the reference's reach, far, rise.
Probe: the reference's known.
Probe: the reference's Known and Least.
Conditions: none.
-/
import Derived.Test.YtpokfjhlilbpfaaDoorP9d
import Derived.Test.YtpokfjhlilbpfaaDoorPMd
set_option linter.unusedVariables false
set_option linter.unusedSimpArgs false
namespace Go.Sas
open Go.Proofs
set_option maxRecDepth 100000
theorem slp_bnd' {R : List Rch} (h : ∀ r ∈ R, RchOk r) {p : Nat} (hp : p ≤ 1000) : 0 ≤ slp R p ∧ slp R p ≤ 3000000 := by have := slp_bnd h p; omega
theorem RoadOk.ilen {rs : List Rch} (h : RoadOk rs) : iLen (Go.Sas.plc rs).length = sumLg rs := h.len
end Go.Sas
namespace Go.Sas
open Go.Proofs
set_option maxRecDepth 100000
theorem any_drop {α : Type} {f : α → Bool} {l : List α} {j : Nat} {x : α} (h : l[j]? = some x) : (l.drop j).any f = (f x || (l.drop (j + 1)).any f) := by
  rw [drop_cons h]; rfl
def eCheckV : List AV → Option ((AV → Prop) → Prop)
  | [.agg [.vs 5 xs, .lit (.int .i64 a), .lit (.int .i64 b), .lit (.int .i64 c)]] => some fun K => ∃ (rs : List Rch), xs = rs.map rcV ∧ rs.length ≤ 9223372036854775807 ∧ ∀ q, q = checkV rs a b c → K (I q)
  | _ => none
theorem eCheckV_ok {f : Nat} (hf : ∀ (rs : List Rch) (a b c : Int), rs.length ≤ 9223372036854775807 → ∀ (H : AHeap) {Kk : AV → AHeap → Prop}, Kk (I (checkV rs a b c)) H → ACalls Tryd.prog f [svV (.vs 5 (rs.map rcV)) a b c] H Kk) : ∀ args pt, eCheckV args = some pt → ∀ (H : AHeap) (Kk : AV → AHeap → Prop), pt (fun r => Kk r H) → ACalls Tryd.prog f args H Kk := by
  intro args pt h H Kk hk
  unfold eCheckV at h
  split at h
  · cases h
    obtain ⟨rs, rfl, h1, h2⟩ := hk
    exact hf _ _ _ _ h1 H (h2 _ rfl)
  · cases h
end Go.Sas
namespace Go.Sas
open Go.Proofs
set_option maxRecDepth 100000
theorem sumLg_bnd' {rs : List Rch} (h : RoadOk rs) : 1 ≤ sumLg rs ∧ sumLg rs ≤ 1000 := by
  have h1 := h.len
  have h2 := h.pos
  have h3 := h.le
  omega
end Go.Sas
