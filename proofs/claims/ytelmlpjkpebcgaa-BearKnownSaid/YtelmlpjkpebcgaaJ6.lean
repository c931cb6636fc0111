/-
What the functions that ice rests on yield, part 13: the examples that each law looks at.
Conditions: none.
-/
import Derived.Test.YtelmlpjkpebcgaaJ5
import Derived.Test.YtelmlpjkpebcgaaJ1
set_option linter.unusedVariables false
set_option linter.unusedSimpArgs false
namespace Go.Sas
open Go.Proofs
set_option maxRecDepth 100000
abbrev exV : AV := plV 40000 50000 (.vs 2 [.agg [I 0, I 1000000], .agg [I 20, I 500000], .agg [I 100, I 0]]) (.vs 2 [.agg [I 0, I 1000000], .agg [I 60, I 640000], .agg [I 600, I 250000]]) 5 500000 98 640000 1440000 50 250000
end Go.Sas
