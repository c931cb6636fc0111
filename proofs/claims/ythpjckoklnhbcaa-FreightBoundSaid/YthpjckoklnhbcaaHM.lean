/-
Freight: a copy of a row of spans, to be written to: contract.
Freight: a copy of a freight whose capacities may be written to: contract.
Freight: what the reference's bound calls: contracts.
Conditions: none.
-/
import Derived.Test.YthpjckoklnhbcaaQG37
import Derived.Test.YthpjckoklnhbcaaHL
import Derived.Test.YthpjckoklnhbcaaQG46
import Derived.Test.YthpjckoklnhbcaaHI
set_option linter.unusedVariables false
set_option linter.unusedSimpArgs false
namespace Go.Sas
open Go.Proofs
set_option maxRecDepth 100000
end Go.Sas
namespace Go.Sas
open Go.Proofs
set_option maxRecDepth 100000
theorem Frees.weak {m : Nat} {Kk : AV → AHeap → Prop} {r : AV} {H : AHeap} (q : Nat) {gg : Nat} {cs : List AV} (hX : H[q]? = some (.own gg cs)) (h : Frees m Kk r (H.set q (.own gg []))) : Frees m Kk r H :=
  fun st0 w0 st w v hm he hH hr => h st0 w0 st w v hm he (hH.weak hX) hr
end Go.Sas
namespace Go.Sas
open Go.Proofs
set_option maxRecDepth 100000
theorem sumR_bnd2 {R : Nat → Int} (h : ∀ d, 0 ≤ R d ∧ R d ≤ 1000000) : ∀ d, d ≤ 200 → 0 ≤ sumR R d ∧ sumR R d ≤ 200000000 := fun d hd => by
  have key : ∀ d, 0 ≤ sumR R d ∧ sumR R d ≤ 1000000 * (d : Int) := by
    intro d
    induction d with
    | zero => simp [sumR]
    | succ d ih => have h2 := h d; simp only [sumR]; omega
  have := key d; omega
end Go.Sas
