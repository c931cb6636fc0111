/-
Freight: what the laws on plans and winters call: contracts and entries of tables.
Freight: worst and best winters of the reference and of the kit: contracts.
Conditions: none.
-/
import Derived.Test.YthpjckoklnhbcaaQG33
import Derived.Test.YthpjckoklnhbcaaHF
import Derived.Test.YthpjckoklnhbcaaHH
import Derived.Test.YthpjckoklnhbcaaHV
import Derived.Test.YthpjckoklnhbcaaQGM2
import Derived.Test.YthpjckoklnhbcaaHD
import Derived.Test.YthpjckoklnhbcaaQF2
set_option linter.unusedVariables false
set_option linter.unusedSimpArgs false
namespace Go.Sas
open Go.Proofs
set_option maxRecDepth 100000
def eSeedF : List AV → AHeap → Option PT
  | [x], H => match asVs 1 x with
    | some xs => some fun K => ∃ l : List Int, (xs = l.map I ∧ l.length ≤ 9223372036854775807) ∧ ∀ w, K (.mp H.length 0 0) (H ++ [.own 0 [U w]])
    | none => none
  | _, _ => none
theorem eSeedF_ok : ∀ args H pt, eSeedF args H = some pt → ∀ (Kk : AV → AHeap → Prop), pt Kk → ACalls Try.prog 22 args H Kk := by
  intro args H pt h Kk hk
  unfold eSeedF at h
  split at h
  · split at h
    · rename_i xs hx
      cases h
      obtain ⟨l, ⟨rfl, b⟩, h1⟩ := hk
      exact (p22 l b H h1).wk ⟨asVs_wk hx, trivial⟩
    · cases h
  · cases h
def sFr : List AV → Option ((Unit → Prop) × (AV → Prop))
  | [.lit (.int .i64 days), .lit (.int .i64 orders)] => some (fun _ => (1 ≤ days ∧ days ≤ 200) ∧ (1 ≤ orders ∧ orders ≤ 6), FrQ days orders)
  | _ => none
theorem sFr_ok : ∀ rest pre Q, sFr rest = some (pre, Q) → pre () → Draws Try.prog 23 rest Q := by
  intro rest pre Q h hp
  unfold sFr at h
  split at h
  · cases h; exact d23 _ _ hp.1 hp.2
  · cases h
def ePlanOf : List AV → AHeap → Option PT
  | [.mp id 0 0, .lit (.int .i64 m)], H => match H[id]? with
    | some (.own 0 [.lit (.int .u64 _)]) => some fun K => ∃ n : Nat, (m = iLen n ∧ n ≤ 1000) ∧ ∀ w' r, PlanQ n r → K r (H.set id (.own 0 [U w']))
    | _ => none
  | _, _ => none
theorem ePlanOf_ok : ∀ args H pt, ePlanOf args H = some pt → ∀ (Kk : AV → AHeap → Prop), pt Kk → ACalls Try.prog 31 args H Kk := by
  intro args H pt h Kk hk
  unfold ePlanOf at h
  split at h
  · split at h
    · rename_i hX
      cases h
      obtain ⟨n, ⟨rfl, h1⟩, h2⟩ := hk
      exact d31 n h1 _ _ _ hX Kk h2
    · cases h
  · cases h
def eWinOf : List AV → AHeap → Option PT
  | [.mp id 0 0, .agg [.lit (.int .i64 a), .lit (.int .i64 b), .lit (.int .i64 c), .lit (.int .i64 d), .vs 2 xs, .vs 4 ys]], H => match H[id]? with
    | some (.own 0 [.lit (.int .u64 _)]) => some fun K => ∃ (cs : List (Int × Int)) (os : List Ord), (xs = cs.map sp ∧ ys = os.map orV ∧ checkF ⟨(a, b), (c, d), cs, os⟩ = 0) ∧ ∀ w' r, WinQ ⟨(a, b), (c, d), cs, os⟩ r → K r (H.set id (.own 0 [U w']))
    | _ => none
  | _, _ => none
theorem eWinOf_ok : ∀ args H pt, eWinOf args H = some pt → ∀ (Kk : AV → AHeap → Prop), pt Kk → ACalls Try.prog 35 args H Kk := by
  intro args H pt h Kk hk
  unfold eWinOf at h
  split at h
  · split at h
    · rename_i hX
      cases h
      obtain ⟨cs, os, ⟨rfl, rfl, h1⟩, h2⟩ := hk
      exact d35 _ _ _ _ cs _ os rfl (checkF_ok h1) _ _ _ hX Kk h2
    · cases h
  · cases h
theorem FrtV.len {f : Frt} (h : checkF f = 0) : f.caps.length ≤ 9223372036854775807 ∧ f.ords.length ≤ 9223372036854775807 := by
  have hV := checkF_ok h
  have := hV.c2; have := hV.o2; omega
end Go.Sas
namespace Go.Sas
open Go.Proofs
set_option maxRecDepth 100000
end Go.Sas
