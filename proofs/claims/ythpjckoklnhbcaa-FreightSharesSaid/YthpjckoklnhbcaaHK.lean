/-
Freight: what the laws on plans and winters call: contracts and entries of tables.
Freight: worst and best winters of the reference and of the kit: contracts.
Conditions: none.
-/
import Derived.Test.YthpjckoklnhbcaaQG33
import Derived.Test.YthpjckoklnhbcaaHF
import Derived.Test.YthpjckoklnhbcaaHH
import Derived.Test.YthpjckoklnhbcaaHV
import Derived.Test.YthpjckoklnhbcaaHG
import Derived.Test.YthpjckoklnhbcaaHD
import Derived.Test.YthpjckoklnhbcaaQF2
set_option linter.unusedVariables false
set_option linter.unusedSimpArgs false
namespace Go.Sas
open Go.Proofs
set_option maxRecDepth 100000
def eSeedF : List AV → AHeap → Option PT
  | [x], H => match asVs 1 x with
    | some xs => some fun K => ∃ l : List Int, (xs = l.map I ∧ l.length ≤ 9223372036854775807) ∧ ∀ w, K (.mp H.length 0 0) (H ++ [.own 0 [U w]])
    | none => none
  | _, _ => none
theorem eSeedF_ok : ∀ args H pt, eSeedF args H = some pt → ∀ (Kk : AV → AHeap → Prop), pt Kk → ACalls Try.prog 22 args H Kk := by
  intro args H pt h Kk hk
  unfold eSeedF at h
  split at h
  · split at h
    · rename_i xs hx
      cases h
      obtain ⟨l, ⟨rfl, b⟩, h1⟩ := hk
      exact (p22 l b H h1).wk ⟨asVs_wk hx, trivial⟩
    · cases h
  · cases h
theorem FrtV.len {f : Frt} (h : checkF f = 0) : f.caps.length ≤ 9223372036854775807 ∧ f.ords.length ≤ 9223372036854775807 := by
  have hV := checkF_ok h
  have := hV.c2; have := hV.o2; omega
end Go.Sas
namespace Go.Sas
open Go.Proofs
set_option maxRecDepth 100000
end Go.Sas
