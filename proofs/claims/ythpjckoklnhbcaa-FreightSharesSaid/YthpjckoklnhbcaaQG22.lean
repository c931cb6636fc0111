/-
Freight: copies and comparisons of freights: contracts.
Conditions: none.
-/
import Derived.Test.YthpjckoklnhbcaaHE
import Derived.Test.YthpjckoklnhbcaaHJ
import Derived.Test.YthpjckoklnhbcaaQG8
set_option linter.unusedVariables false
set_option linter.unusedSimpArgs false
namespace Go.Sas
open Go.Proofs
set_option maxRecDepth 100000
theorem elemsOk_map {α : Type} {f : α → AV} {g : α → List AV} {sz : Nat} (hf : ∀ x, (f x).cells = some (g x)) (hn : ∀ x, (f x).nid = true) (hs : ∀ x, (g x).length = sz) (l : List α) : elemsOk sz (l.map f) = true := (Elems_map hf hn hs l).2
end Go.Sas
