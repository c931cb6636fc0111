/-
The examples of the chapter on freight: tables.
Conditions: none.
-/
import Derived.Test.YthpjckoklnhbcaaQAbs23
import Derived.Test.YthpjckoklnhbcaaQF1
import Derived.Test.YthpjckoklnhbcaaQF2
import Derived.Test.YthpjckoklnhbcaaQF3
import Derived.Test.YthpjckoklnhbcaaHL
set_option linter.unusedVariables false
set_option linter.unusedSimpArgs false
namespace Go.Sas
open Go.Proofs
set_option maxRecDepth 100000
-- F1 F2 F3 F4
def ctF : CTab := [
  (17, ⟨K17, [], 53, c17, [.t (.g 0)], 0, false⟩),
  (19, ⟨K19, [], 99, c19, [.t (.g 2)], 1, false⟩),
  (26, ⟨K26, [], 123, c26, [.t (.g 2), .t (.g 3)], 1, false⟩),
  (28, ⟨K28, [], 26, c28, [.t (.g 4)], 2, false⟩),
  (30, ⟨K30, [], 23, c30, [.cell (.g 4) (some 2), .t (.g 5)], 2, false⟩),
  (53, ⟨K53, [], 8, c53, [.cell (.g 4) (some 2)], 2, false⟩),
  (62, ⟨K62, [], 20, c62, [.cell (.g 0) (some 6)], 0, true⟩),
  (64, ⟨K64, [], 28, c64, [.t (.g 6)], 3, false⟩),
  (65, ⟨K65, [], 15, c65, [.t (.g 6)], 3, false⟩),
  (71, ⟨K71, [], 31, c71, [.cell (.g 2) (some 9)], 1, true⟩),
  (73, ⟨K73, [], 16, c73, [.t (.g 4)], 2, false⟩),
  (76, ⟨K76, [], 20, c76, [.t (.g 4)], 2, false⟩),
  (77, ⟨K77, [], 8, c77, [.t (.g 2)], 1, false⟩),
  (78, ⟨K78, [], 13, c78, [.t (.g 4)], 2, false⟩),
  (79, ⟨K79, [], 5, c79, [.t (.g 2)], 1, false⟩),
  (80, ⟨K80, [], 25, c80, [.t (.g 2)], 1, false⟩),
  (83, ⟨K83, [], 15, c83, [.t (.g 4)], 2, false⟩),
  (84, ⟨K84, [], 31, c84, [.cell (.g 2) (some 9)], 1, true⟩),
  (87, ⟨K87, [], 88, c87, [.t (.g 4), .t (.g 5)], 2, false⟩),
  (88, ⟨K88, [], 81, c88, [.t (.g 4)], 2, false⟩),
  (93, ⟨K93, [], 35, c93, [.t (.g 4)], 2, false⟩),
  (101, ⟨K101, [], 17, c101, [.t (.g 2)], 1, false⟩),
  (105, ⟨K105, [], 9, c105, [.t (.g 4)], 2, false⟩),
  (106, ⟨K106, [], 8, c106, [.t (.g 2)], 1, false⟩),
  (107, ⟨K107, [], 8, c107, [.t (.g 2)], 1, false⟩),
  (108, ⟨K108, [], 9, c108, [], 2, false⟩),
  (109, ⟨K109, [], 13, c109, [.t (.g 5)], 3, false⟩),
  (110, ⟨K110, [], 20, c110, [.t (.g 4)], 2, false⟩),
  (118, ⟨K118, [], 19, c118, [.t (.g 4)], 2, false⟩),
  (119, ⟨K119, [], 63, c119, [], 3, false⟩),
  (120, ⟨K120, [], 6, c120, [.t (.g 2)], 1, false⟩),
  (124, ⟨K124, [], 53, c124, [], 4, false⟩),
  (125, ⟨K125, [], 220, c125, [], 5, false⟩),
  (130, ⟨K130, [], 58, c130, [], 5, false⟩),
  (132, ⟨K132, [], 38, c132, [], 5, false⟩)]
theorem ctF_ok : CTabOk Try.prog ctF :=
  .cons (fun _ _ _ hn h => go17 hn h) (.cons (fun _ _ _ hn h => go19 hn h) (.cons (fun _ _ _ hn h => go26 hn h) (.cons (fun _ _ _ hn h => go28 hn h) (.cons (fun _ _ _ hn h => go30 hn h) (.cons (fun _ _ _ hn h => go53 hn h) (.cons (fun _ _ _ hn h => go62 hn h) (.cons (fun _ _ _ hn h => go64 hn h) (.cons (fun _ _ _ hn h => go65 hn h) (.cons (fun _ _ _ hn h => go71 hn h) (.cons (fun _ _ _ hn h => go73 hn h) (.cons (fun _ _ _ hn h => go76 hn h) (.cons (fun _ _ _ hn h => go77 hn h) (.cons (fun _ _ _ hn h => go78 hn h) (.cons (fun _ _ _ hn h => go79 hn h) (.cons (fun _ _ _ hn h => go80 hn h) (.cons (fun _ _ _ hn h => go83 hn h) (.cons (fun _ _ _ hn h => go84 hn h) (.cons (fun _ _ _ hn h => go87 hn h) (.cons (fun _ _ _ hn h => go88 hn h) (.cons (fun _ _ _ hn h => go93 hn h) (.cons (fun _ _ _ hn h => go101 hn h) (.cons (fun _ _ _ hn h => go105 hn h) (.cons (fun _ _ _ hn h => go106 hn h) (.cons (fun _ _ _ hn h => go107 hn h) (.cons (fun _ _ _ hn h => go108 hn h) (.cons (fun _ _ _ hn h => go109 hn h) (.cons (fun _ _ _ hn h => go110 hn h) (.cons (fun _ _ _ hn h => go118 hn h) (.cons (fun _ _ _ hn h => go119 hn h) (.cons (fun _ _ _ hn h => go120 hn h) (.cons (fun _ _ _ hn h => go124 hn h) (.cons (fun _ _ _ hn h => go125 hn h) (.cons (fun _ _ _ hn h => go130 hn h) (.cons (fun _ _ _ hn h => go132 hn h) (.nil)))))))))))))))))))))))))))))))))))
end Go.Sas
