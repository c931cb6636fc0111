/-
The examples of the chapter on freight: tables.
The examples of the chapter on freight hold.
Conditions: none.
-/
import Derived.Test.YthpjckoklnhbcaaZ5c
import Derived.Test.YthpjckoklnhbcaaYF1
import Derived.Test.YthpjckoklnhbcaaYF2
import Derived.Test.YthpjckoklnhbcaaYF3
import Derived.Test.YthpjckoklnhbcaaYF4
import Derived.Test.YthpjckoklnhbcaaY11
set_option linter.unusedVariables false
set_option linter.unusedSimpArgs false
namespace Go.Sas
open Go.Proofs
set_option maxRecDepth 100000
-- F1 F2 F3 F4
def ctF : CTab := [
  (17, ⟨K17, [], 53, c17, [.t (.g 0)], 0, false⟩),
  (19, ⟨K19, [], 99, c19, [.t (.g 2)], 1, false⟩),
  (26, ⟨K26, [], 123, c26, [.t (.g 2), .t (.g 3)], 1, false⟩),
  (28, ⟨K28, [], 26, c28, [.t (.g 4)], 2, false⟩),
  (30, ⟨K30, [], 23, c30, [.cell (.g 4) (some 2), .t (.g 5)], 2, false⟩),
  (53, ⟨K53, [], 8, c53, [.cell (.g 4) (some 2)], 2, false⟩),
  (62, ⟨K62, [], 20, c62, [.cell (.g 0) (some 6)], 0, true⟩),
  (64, ⟨K64, [], 28, c64, [.t (.g 6)], 3, false⟩),
  (65, ⟨K65, [], 15, c65, [.t (.g 6)], 3, false⟩),
  (71, ⟨K71, [], 31, c71, [.cell (.g 2) (some 9)], 1, true⟩),
  (73, ⟨K73, [], 16, c73, [.t (.g 4)], 2, false⟩),
  (76, ⟨K76, [], 20, c76, [.t (.g 4)], 2, false⟩),
  (77, ⟨K77, [], 8, c77, [.t (.g 2)], 1, false⟩),
  (78, ⟨K78, [], 13, c78, [.t (.g 4)], 2, false⟩),
  (79, ⟨K79, [], 5, c79, [.t (.g 2)], 1, false⟩),
  (80, ⟨K80, [], 25, c80, [.t (.g 2)], 1, false⟩),
  (83, ⟨K83, [], 15, c83, [.t (.g 4)], 2, false⟩),
  (84, ⟨K84, [], 31, c84, [.cell (.g 2) (some 9)], 1, true⟩),
  (87, ⟨K87, [], 88, c87, [.t (.g 4), .t (.g 5)], 2, false⟩),
  (88, ⟨K88, [], 81, c88, [.t (.g 4)], 2, false⟩),
  (93, ⟨K93, [], 35, c93, [.t (.g 4)], 2, false⟩),
  (101, ⟨K101, [], 17, c101, [.t (.g 2)], 1, false⟩),
  (105, ⟨K105, [], 9, c105, [.t (.g 4)], 2, false⟩),
  (106, ⟨K106, [], 8, c106, [.t (.g 2)], 1, false⟩),
  (107, ⟨K107, [], 8, c107, [.t (.g 2)], 1, false⟩),
  (108, ⟨K108, [], 9, c108, [], 2, false⟩),
  (109, ⟨K109, [], 13, c109, [.t (.g 5)], 3, false⟩),
  (110, ⟨K110, [], 20, c110, [.t (.g 4)], 2, false⟩),
  (118, ⟨K118, [], 19, c118, [.t (.g 4)], 2, false⟩),
  (119, ⟨K119, [], 63, c119, [], 3, false⟩),
  (120, ⟨K120, [], 6, c120, [.t (.g 2)], 1, false⟩),
  (124, ⟨K124, [], 53, c124, [], 4, false⟩),
  (125, ⟨K125, [], 220, c125, [], 5, false⟩),
  (130, ⟨K130, [], 58, c130, [], 5, false⟩),
  (132, ⟨K132, [], 38, c132, [], 5, false⟩)]
theorem ctF_ok : CTabOk Try.prog ctF :=
  .cons (fun _ _ _ hn h => go17 hn h) (.cons (fun _ _ _ hn h => go19 hn h) (.cons (fun _ _ _ hn h => go26 hn h) (.cons (fun _ _ _ hn h => go28 hn h) (.cons (fun _ _ _ hn h => go30 hn h) (.cons (fun _ _ _ hn h => go53 hn h) (.cons (fun _ _ _ hn h => go62 hn h) (.cons (fun _ _ _ hn h => go64 hn h) (.cons (fun _ _ _ hn h => go65 hn h) (.cons (fun _ _ _ hn h => go71 hn h) (.cons (fun _ _ _ hn h => go73 hn h) (.cons (fun _ _ _ hn h => go76 hn h) (.cons (fun _ _ _ hn h => go77 hn h) (.cons (fun _ _ _ hn h => go78 hn h) (.cons (fun _ _ _ hn h => go79 hn h) (.cons (fun _ _ _ hn h => go80 hn h) (.cons (fun _ _ _ hn h => go83 hn h) (.cons (fun _ _ _ hn h => go84 hn h) (.cons (fun _ _ _ hn h => go87 hn h) (.cons (fun _ _ _ hn h => go88 hn h) (.cons (fun _ _ _ hn h => go93 hn h) (.cons (fun _ _ _ hn h => go101 hn h) (.cons (fun _ _ _ hn h => go105 hn h) (.cons (fun _ _ _ hn h => go106 hn h) (.cons (fun _ _ _ hn h => go107 hn h) (.cons (fun _ _ _ hn h => go108 hn h) (.cons (fun _ _ _ hn h => go109 hn h) (.cons (fun _ _ _ hn h => go110 hn h) (.cons (fun _ _ _ hn h => go118 hn h) (.cons (fun _ _ _ hn h => go119 hn h) (.cons (fun _ _ _ hn h => go120 hn h) (.cons (fun _ _ _ hn h => go124 hn h) (.cons (fun _ _ _ hn h => go125 hn h) (.cons (fun _ _ _ hn h => go130 hn h) (.cons (fun _ _ _ hn h => go132 hn h) (.nil)))))))))))))))))))))))))))))))))))
end Go.Sas
namespace Go.Sas
open Go.Proofs
set_option maxRecDepth 100000
abbrev seaF : Frt := ⟨(1, 2), (4, 5), [(2, 3), (2, 3), (2, 3), (2, 3), (2, 3), (2, 3), (2, 3)], [⟨4, 3, 5, 20⟩, ⟨5, 5, 1, 10⟩]⟩
abbrev bestF : AV := .tup [.vs 1 [AV.lit (.int .i64 0), AV.lit (.int .i64 1)], AV.lit (.int .i64 30), AV.lit (.int .i64 0)]
def isI (n : Int) : AV → Bool
  | .lit (.int .i64 m) => n == m
  | _ => false
def areI : List Int → List AV → Bool
  | [], [] => true
  | n :: ns, a :: r => isI n a && areI ns r
  | _, _ => false
def aggI (ns : List Int) : AV → Bool
  | .agg cs => areI ns cs
  | _ => false
def allV (nss : List (List Int)) : List AV → Bool := match nss with
  | [] => fun | [] => true | _ => false
  | ns :: r => fun | a :: b => aggI ns a && allV r b | _ => false
def isSea : AV → Bool
  | .agg [a, b, c, d, .vs 2 xs, .vs 4 ys] => areI [1, 2, 4, 5] [a, b, c, d] && (allV [[2, 3], [2, 3], [2, 3], [2, 3], [2, 3], [2, 3], [2, 3]] xs && allV [[4, 3, 5, 20], [5, 5, 1, 10]] ys)
  | _ => false
theorem isI_eq {n : Int} {a : AV} (h : isI n a = true) : a = I n := by
  unfold isI at h
  split at h
  · simp at h; subst h; rfl
  · cases h
theorem areI_eq : ∀ {ns : List Int} {l : List AV}, areI ns l = true → l = ns.map I
  | [], [], _ => rfl
  | [], _ :: _, h => by simp [areI] at h
  | _ :: _, [], h => by simp [areI] at h
  | n :: ns, a :: r, h => by
    simp only [areI, Bool.and_eq_true] at h
    rw [isI_eq h.1, areI_eq h.2]; rfl
theorem aggI_eq {ns : List Int} {a : AV} (h : aggI ns a = true) : a = .agg (ns.map I) := by
  unfold aggI at h
  split at h
  · rw [areI_eq h]
  · cases h
theorem allV_eq : ∀ {nss : List (List Int)} {l : List AV}, allV nss l = true → l = nss.map fun ns => .agg (ns.map I)
  | [], [], _ => rfl
  | [], _ :: _, h => by simp [allV] at h
  | _ :: _, [], h => by simp [allV] at h
  | n :: ns, a :: r, h => by
    simp only [allV, Bool.and_eq_true] at h
    rw [aggI_eq h.1, allV_eq h.2]; rfl
theorem isSea_eq {a : AV} (h : isSea a = true) : a = frV 1 2 4 5 (.vs 2 (seaF.caps.map sp)) (.vs 4 (seaF.ords.map orV)) := by
  unfold isSea at h
  split at h
  · simp only [Bool.and_eq_true] at h
    have h1 := areI_eq h.1
    simp only [List.map_cons, List.map_nil, List.cons.injEq, and_true] at h1
    obtain ⟨rfl, rfl, rfl, rfl⟩ := h1
    rw [allV_eq h.2.1, allV_eq h.2.2]; rfl
  · cases h
theorem bestSea : bestS seaF = ([0, 1], 30, 0) := by kernel_rfl
def ftF2 : FTab := [(24, fun args => match args with
  | [a] => if isSea a then some bestF else none
  | _ => none)]
theorem ftF2_ok : FTabOk Try.prog ftF2 := by
  refine .cons (fun args r hr H Kk hk => ?_) .nil
  split at hr
  · rename_i a
    split at hr
    · rename_i hs
      cases hr
      rw [isSea_eq hs]
      refine p24 1 2 4 5 seaF.caps seaF.ords (by decide) (by decide) H ?_
      rw [show (⟨(1, 2), (4, 5), seaF.caps, seaF.ords⟩ : Frt) = seaF from rfl, bestSea]
      exact hk
    · cases hr
  · cases hr
theorem awakeF : runK ctF ftF2 100000 17 [] = some (.lit (.bool true)) := isTrueK_spec (by kernel_rfl)
theorem p17 (H : AHeap) {Kk : AV → AHeap → Prop} (h : Kk (B true) H) : ACalls Try.prog 17 [] H Kk :=
  liftP (runK_calls ctF_ok ftF2_ok awakeF) rfl rfl H h
end Go.Sas
