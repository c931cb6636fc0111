/-
Probe: functions that draw numbers, comparisons of lists.
Probe: surveys made of numbers: contract.
Conditions: none.
-/
import Derived.Test.YtpokfjhlilbpfaaDoorP7d
import Derived.Test.YtpokfjhlilbpfaaDoorPAd
import Derived.Test.YtpokfjhlilbpfaaDoorPKd
set_option linter.unusedVariables false
set_option linter.unusedSimpArgs false
namespace Go.Sas
open Go.Proofs
set_option maxRecDepth 100000
end Go.Sas
namespace Go.Sas
open Go.Proofs
set_option maxRecDepth 100000
/-- a reach made of numbers -/
def RchD (r : Rch) : Prop := 1 ≤ r.lg ∧ (0 ≤ r.sl ∧ r.sl ≤ 300) ∧ (0 ≤ r.th ∧ r.th ≤ 20) ∧ (0 ≤ r.gr ∧ r.gr ≤ 10) ∧ (0 ≤ r.ev ∧ r.ev ≤ 14)
structure SvD (most : Int) (rs : List Rch) (a b c : Int) : Prop where
  all : ∀ r ∈ rs, RchD r
  n1 : 1 ≤ rs.length
  n2 : rs.length ≤ 5
  le : sumLg rs ≤ most
  a : 0 ≤ a ∧ a ≤ 2
  b : 0 ≤ b ∧ b ≤ 2
  c : 0 ≤ c ∧ c ≤ 3
end Go.Sas
