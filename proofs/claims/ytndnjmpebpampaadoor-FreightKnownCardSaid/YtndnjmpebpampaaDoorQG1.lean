/-
The examples of the chapter on freight: tables.
Conditions: none.
-/
import Derived.Test.YtndnjmpebpampaaDoorQAbs23
import Derived.Test.YtndnjmpebpampaaDoorXFf
import Derived.Test.YtndnjmpebpampaaDoorQF4
set_option linter.unusedVariables false
set_option linter.unusedSimpArgs false
namespace Go.Sas
open Go.Proofs
set_option maxRecDepth 100000
-- F1 F2 F3 F4
def ctF : CTab := [
  (5, ⟨K5, [], 53, c5, [.t (.g 0)], 0, false⟩),
  (6, ⟨K6, [], 99, c6, [.t (.g 2)], 1, false⟩),
  (19, ⟨K19, [], 123, c19, [.t (.g 2), .t (.g 3)], 1, false⟩),
  (16, ⟨K16, [], 26, c16, [.t (.g 4)], 2, false⟩),
  (13, ⟨K13, [], 23, c13, [.cell (.g 4) (some 2), .t (.g 5)], 2, false⟩),
  (15, ⟨K15, [], 8, c15, [.cell (.g 4) (some 2)], 2, false⟩),
  (4, ⟨K4, [], 20, c4, [.cell (.g 0) (some 6)], 0, true⟩),
  (20, ⟨K20, [], 28, c20, [.t (.g 6)], 3, false⟩),
  (21, ⟨K21, [], 15, c21, [.t (.g 6)], 3, false⟩),
  (30, ⟨K30, [], 31, c30, [.cell (.g 2) (some 9)], 1, true⟩),
  (29, ⟨K29, [], 16, c29, [.t (.g 4)], 2, false⟩),
  (35, ⟨K35, [], 20, c35, [.t (.g 4)], 2, false⟩),
  (36, ⟨K36, [], 8, c36, [.t (.g 2)], 1, false⟩),
  (37, ⟨K37, [], 13, c37, [.t (.g 4)], 2, false⟩),
  (38, ⟨K38, [], 5, c38, [.t (.g 2)], 1, false⟩),
  (39, ⟨K39, [], 25, c39, [.t (.g 2)], 1, false⟩),
  (27, ⟨K27, [], 15, c27, [.t (.g 4)], 2, false⟩),
  (28, ⟨K28, [], 31, c28, [.cell (.g 2) (some 9)], 1, true⟩),
  (26, ⟨K26, [], 88, c26, [.t (.g 4), .t (.g 5)], 2, false⟩),
  (24, ⟨K24, [], 81, c24, [.t (.g 4)], 2, false⟩),
  (23, ⟨K23, [], 35, c23, [.t (.g 4)], 2, false⟩),
  (42, ⟨K42, [], 17, c42, [.t (.g 2)], 1, false⟩),
  (53, ⟨K53, [], 9, c53, [.t (.g 4)], 2, false⟩),
  (54, ⟨K54, [], 8, c54, [.t (.g 2)], 1, false⟩),
  (55, ⟨K55, [], 8, c55, [.t (.g 2)], 1, false⟩),
  (56, ⟨K56, [], 9, c56, [], 2, false⟩),
  (57, ⟨K57, [], 13, c57, [.t (.g 5)], 3, false⟩),
  (58, ⟨K58, [], 20, c58, [.t (.g 4)], 2, false⟩),
  (66, ⟨K66, [], 19, c66, [.t (.g 4)], 2, false⟩),
  (67, ⟨K67, [], 63, c67, [], 3, false⟩),
  (68, ⟨K68, [], 6, c68, [.t (.g 2)], 1, false⟩),
  (73, ⟨K73, [], 53, c73, [], 4, false⟩),
  (74, ⟨K74, [], 220, c74, [], 5, false⟩),
  (83, ⟨K83, [], 58, c83, [], 5, false⟩),
  (90, ⟨K90, [], 38, c90, [], 5, false⟩)]
theorem ctF_ok : CTabOk Tryd.prog ctF :=
  .cons (fun _ _ _ hn h => go5 hn h) (.cons (fun _ _ _ hn h => go6 hn h) (.cons (fun _ _ _ hn h => go19 hn h) (.cons (fun _ _ _ hn h => go16 hn h) (.cons (fun _ _ _ hn h => go13 hn h) (.cons (fun _ _ _ hn h => go15 hn h) (.cons (fun _ _ _ hn h => go4 hn h) (.cons (fun _ _ _ hn h => go20 hn h) (.cons (fun _ _ _ hn h => go21 hn h) (.cons (fun _ _ _ hn h => go30 hn h) (.cons (fun _ _ _ hn h => go29 hn h) (.cons (fun _ _ _ hn h => go35 hn h) (.cons (fun _ _ _ hn h => go36 hn h) (.cons (fun _ _ _ hn h => go37 hn h) (.cons (fun _ _ _ hn h => go38 hn h) (.cons (fun _ _ _ hn h => go39 hn h) (.cons (fun _ _ _ hn h => go27 hn h) (.cons (fun _ _ _ hn h => go28 hn h) (.cons (fun _ _ _ hn h => go26 hn h) (.cons (fun _ _ _ hn h => go24 hn h) (.cons (fun _ _ _ hn h => go23 hn h) (.cons (fun _ _ _ hn h => go42 hn h) (.cons (fun _ _ _ hn h => go53 hn h) (.cons (fun _ _ _ hn h => go54 hn h) (.cons (fun _ _ _ hn h => go55 hn h) (.cons (fun _ _ _ hn h => go56 hn h) (.cons (fun _ _ _ hn h => go57 hn h) (.cons (fun _ _ _ hn h => go58 hn h) (.cons (fun _ _ _ hn h => go66 hn h) (.cons (fun _ _ _ hn h => go67 hn h) (.cons (fun _ _ _ hn h => go68 hn h) (.cons (fun _ _ _ hn h => go73 hn h) (.cons (fun _ _ _ hn h => go74 hn h) (.cons (fun _ _ _ hn h => go83 hn h) (.cons (fun _ _ _ hn h => go90 hn h) (.nil)))))))))))))))))))))))))))))))))))
end Go.Sas
