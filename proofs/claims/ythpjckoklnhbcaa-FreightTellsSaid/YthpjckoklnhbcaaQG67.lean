/-
Freight: the law FreightShared: its core.
Conditions: none.
-/
import Derived.Test.YthpjckoklnhbcaaHT
import Derived.Test.YthpjckoklnhbcaaHU
import Derived.Test.YthpjckoklnhbcaaH4
import Derived.Test.YthpjckoklnhbcaaProg
set_option linter.unusedVariables false
set_option linter.unusedSimpArgs false
namespace Go.Sas
open Go.Proofs
set_option maxRecDepth 100000
def eBills (f : Nat) : List AV → Option ((AV → Prop) → Prop)
  | [.agg [.lit (.int .i64 a), .lit (.int .i64 b), .lit (.int .i64 c), .lit (.int .i64 d), .vs 2 xs, .vs 4 ys], .agg [.lit (.int .i64 u), .lit (.int .i64 v), .vs 1 zs], .vs 1 rs, .lit (.int .i64 rate), .lit (.int .i64 road)] =>
    some fun K => ∃ (cs : List (Int × Int)) (os : List Ord) (ws : List Int) (way : List (List Int)), (xs = cs.map sp ∧ ys = os.map orV ∧ zs = ws.map I ∧ (rs = way.map fun r => .vs 1 (r.map I)) ∧ cs.length ≤ 9223372036854775807 ∧ os.length ≤ 9223372036854775807 ∧ ws.length ≤ 9223372036854775807 ∧ way.length ≤ 9223372036854775807) ∧
      ∀ bs e, bs = (billR ⟨(a, b), (c, d), cs, os⟩ ⟨u, v, ws⟩ way rate road).map I → e = billE ⟨(a, b), (c, d), cs, os⟩ ⟨u, v, ws⟩ way rate road → K (.tup [.vs 1 bs, I e])
  | _ => none
theorem eBills_ok {f : Nat} (hf : ∀ (a b c d u v rate road : Int) (cs : List (Int × Int)) (os : List Ord) (ws : List Int) (way : List (List Int)), cs.length ≤ 9223372036854775807 → os.length ≤ 9223372036854775807 → ws.length ≤ 9223372036854775807 → way.length ≤ 9223372036854775807 → ∀ (H : AHeap) {Kk : AV → AHeap → Prop},
    Kk (.tup [.vs 1 ((billR ⟨(a, b), (c, d), cs, os⟩ ⟨u, v, ws⟩ way rate road).map I), I (billE ⟨(a, b), (c, d), cs, os⟩ ⟨u, v, ws⟩ way rate road)]) H →
    ACalls Try.prog f [frV a b c d (.vs 2 (cs.map sp)) (.vs 4 (os.map orV)), winV u v (.vs 1 (ws.map I)), .vs 1 (way.map fun r => .vs 1 (r.map I)), I rate, I road] H Kk) :
    ∀ args pt, eBills f args = some pt → ∀ (H : AHeap) (Kk : AV → AHeap → Prop), pt (fun r => Kk r H) → ACalls Try.prog f args H Kk := by
  intro args pt h H Kk hk
  unfold eBills at h
  split at h
  · cases h
    obtain ⟨cs, os, ws, way, ⟨rfl, rfl, rfl, rfl, h1, h2, h3, h4⟩, h5⟩ := hk
    exact hf _ _ _ _ _ _ _ _ cs os ws way h1 h2 h3 h4 H (h5 _ _ rfl rfl)
  · cases h
def edS : ETab := (42, eWayOf) :: (22, eSeedF) :: (23, eDraw sFr) :: (35, eWinOf) :: ed2
theorem edS_ok : ETabOk Try.prog edS := .cons eWayOf_ok (.cons eSeedF_ok (.cons (eDraw_ok sFr_ok) (.cons eWinOf_ok ed2_ok)))
end Go.Sas
