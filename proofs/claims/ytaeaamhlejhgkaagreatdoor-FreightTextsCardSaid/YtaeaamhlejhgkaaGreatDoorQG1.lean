/-
The examples of the chapter on freight: tables.
Conditions: none.
-/
import Derived.Test.YtaeaamhlejhgkaaGreatDoorQAbs23
import Derived.Test.YtaeaamhlejhgkaaGreatDoorQF1
import Derived.Test.YtaeaamhlejhgkaaGreatDoorQF2
import Derived.Test.YtaeaamhlejhgkaaGreatDoorQF3
import Derived.Test.YtaeaamhlejhgkaaGreatDoorQF4
set_option linter.unusedVariables false
set_option linter.unusedSimpArgs false
namespace Go.Sas
open Go.Proofs
set_option maxRecDepth 100000
-- F1 F2 F3 F4
def ctF : CTab := [
  (6, ⟨K6, [], 53, c6, [.t (.g 0)], 0, false⟩),
  (27, ⟨K27, [], 99, c27, [.t (.g 2)], 1, false⟩),
  (17, ⟨K17, [], 123, c17, [.t (.g 2), .t (.g 3)], 1, false⟩),
  (20, ⟨K20, [], 26, c20, [.t (.g 4)], 2, false⟩),
  (18, ⟨K18, [], 23, c18, [.cell (.g 4) (some 2), .t (.g 5)], 2, false⟩),
  (19, ⟨K19, [], 8, c19, [.cell (.g 4) (some 2)], 2, false⟩),
  (16, ⟨K16, [], 20, c16, [.cell (.g 0) (some 6)], 0, true⟩),
  (52, ⟨K52, [], 28, c52, [.t (.g 6)], 3, false⟩),
  (53, ⟨K53, [], 15, c53, [.t (.g 6)], 3, false⟩),
  (42, ⟨K42, [], 31, c42, [.cell (.g 2) (some 9)], 1, true⟩),
  (44, ⟨K44, [], 16, c44, [.t (.g 4)], 2, false⟩),
  (45, ⟨K45, [], 20, c45, [.t (.g 4)], 2, false⟩),
  (46, ⟨K46, [], 8, c46, [.t (.g 2)], 1, false⟩),
  (47, ⟨K47, [], 13, c47, [.t (.g 4)], 2, false⟩),
  (48, ⟨K48, [], 5, c48, [.t (.g 2)], 1, false⟩),
  (49, ⟨K49, [], 25, c49, [.t (.g 2)], 1, false⟩),
  (50, ⟨K50, [], 15, c50, [.t (.g 4)], 2, false⟩),
  (51, ⟨K51, [], 31, c51, [.cell (.g 2) (some 9)], 1, true⟩),
  (65, ⟨K65, [], 88, c65, [.t (.g 4), .t (.g 5)], 2, false⟩),
  (66, ⟨K66, [], 81, c66, [.t (.g 4)], 2, false⟩),
  (71, ⟨K71, [], 35, c71, [.t (.g 4)], 2, false⟩),
  (79, ⟨K79, [], 17, c79, [.t (.g 2)], 1, false⟩),
  (63, ⟨K63, [], 9, c63, [.t (.g 4)], 2, false⟩),
  (64, ⟨K64, [], 8, c64, [.t (.g 2)], 1, false⟩),
  (67, ⟨K67, [], 8, c67, [.t (.g 2)], 1, false⟩),
  (68, ⟨K68, [], 9, c68, [], 2, false⟩),
  (69, ⟨K69, [], 13, c69, [.t (.g 5)], 3, false⟩),
  (70, ⟨K70, [], 20, c70, [.t (.g 4)], 2, false⟩),
  (78, ⟨K78, [], 19, c78, [.t (.g 4)], 2, false⟩),
  (80, ⟨K80, [], 63, c80, [], 3, false⟩),
  (81, ⟨K81, [], 6, c81, [.t (.g 2)], 1, false⟩),
  (92, ⟨K92, [], 53, c92, [], 4, false⟩),
  (93, ⟨K93, [], 220, c93, [], 5, false⟩),
  (109, ⟨K109, [], 58, c109, [], 5, false⟩),
  (117, ⟨K117, [], 38, c117, [], 5, false⟩)]
theorem ctF_ok : CTabOk Tryz.prog ctF :=
  .cons (fun _ _ _ hn h => go6 hn h) (.cons (fun _ _ _ hn h => go27 hn h) (.cons (fun _ _ _ hn h => go17 hn h) (.cons (fun _ _ _ hn h => go20 hn h) (.cons (fun _ _ _ hn h => go18 hn h) (.cons (fun _ _ _ hn h => go19 hn h) (.cons (fun _ _ _ hn h => go16 hn h) (.cons (fun _ _ _ hn h => go52 hn h) (.cons (fun _ _ _ hn h => go53 hn h) (.cons (fun _ _ _ hn h => go42 hn h) (.cons (fun _ _ _ hn h => go44 hn h) (.cons (fun _ _ _ hn h => go45 hn h) (.cons (fun _ _ _ hn h => go46 hn h) (.cons (fun _ _ _ hn h => go47 hn h) (.cons (fun _ _ _ hn h => go48 hn h) (.cons (fun _ _ _ hn h => go49 hn h) (.cons (fun _ _ _ hn h => go50 hn h) (.cons (fun _ _ _ hn h => go51 hn h) (.cons (fun _ _ _ hn h => go65 hn h) (.cons (fun _ _ _ hn h => go66 hn h) (.cons (fun _ _ _ hn h => go71 hn h) (.cons (fun _ _ _ hn h => go79 hn h) (.cons (fun _ _ _ hn h => go63 hn h) (.cons (fun _ _ _ hn h => go64 hn h) (.cons (fun _ _ _ hn h => go67 hn h) (.cons (fun _ _ _ hn h => go68 hn h) (.cons (fun _ _ _ hn h => go69 hn h) (.cons (fun _ _ _ hn h => go70 hn h) (.cons (fun _ _ _ hn h => go78 hn h) (.cons (fun _ _ _ hn h => go80 hn h) (.cons (fun _ _ _ hn h => go81 hn h) (.cons (fun _ _ _ hn h => go92 hn h) (.cons (fun _ _ _ hn h => go93 hn h) (.cons (fun _ _ _ hn h => go109 hn h) (.cons (fun _ _ _ hn h => go117 hn h) (.nil)))))))))))))))))))))))))))))))))))
end Go.Sas
