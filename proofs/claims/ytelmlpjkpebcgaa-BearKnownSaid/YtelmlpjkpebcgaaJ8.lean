/-
BearKnown: tables.
BearKnown: the run by reckoning, in parts: tables of what is reckoned.
Conditions: none.
-/
import Derived.Test.YtelmlpjkpebcgaaQAbs23
import Derived.Test.YtelmlpjkpebcgaaQT1
import Derived.Test.YtelmlpjkpebcgaaQT2
import Derived.Test.YtelmlpjkpebcgaaQT3
import Derived.Test.YtelmlpjkpebcgaaQT7
import Derived.Test.YtelmlpjkpebcgaaQT8
import Derived.Test.YtelmlpjkpebcgaaQT10
import Derived.Test.YtelmlpjkpebcgaaJ7
set_option linter.unusedVariables false
set_option linter.unusedSimpArgs false
namespace Go.Sas
open Go.Proofs
set_option maxRecDepth 100000
-- T1 T10 T2 T3 T7
def ct17 : CTab := [
  (17, ⟨K17, [], 128, c17, [.t (.g 0)], 0, false⟩),
  (79, ⟨K79m, [5], 11, c79m, [.cell (.g 0) (some 11)], 0, false⟩),
  (19, ⟨K19, [], 51, c19, [.t (.g 0)], 0, false⟩),
  (25, ⟨K25, [], 44, c25, [.t (.g 8), .t (.g 9)], 4, false⟩),
  (27, ⟨K27, [], 26, c27, [.t (.g 4)], 2, false⟩),
  (42, ⟨K42, [], 71, c42, [.t (.g 8), .t (.g 9)], 4, false⟩),
  (44, ⟨K44, [], 23, c44, [.t (.g 4)], 2, true⟩),
  (46, ⟨K46, [], 27, c46, [.t (.g 8), .t (.g 9)], 4, false⟩),
  (50, ⟨K50, [], 26, c50, [.t (.g 4)], 2, false⟩),
  (51, ⟨K51, [], 8, c51, [.cell (.g 4) (some 2)], 2, false⟩),
  (54, ⟨K54, [], 26, c54, [.t (.g 6), .t (.g 7)], 3, false⟩),
  (55, ⟨K55, [], 28, c55, [.t (.g 6), .t (.g 7)], 3, false⟩),
  (57, ⟨K57, [], 25, c57, [.t (.g 6), .t (.g 7)], 3, false⟩),
  (59, ⟨K59, [], 60, c59, [.t (.g 2)], 1, false⟩),
  (61, ⟨K61, [], 6, c61, [.cell (.g 2) (some 2)], 1, false⟩),
  (63, ⟨K63, [], 33, c63, [.t (.g 6), .t (.g 7)], 3, false⟩),
  (80, ⟨K80, [], 117, c80, [.t (.g 0)], 0, false⟩),
  (81, ⟨K81, [], 48, c81, [.t (.g 0)], 0, false⟩),
  (82, ⟨K82, [], 85, c82, [.t (.g 0)], 0, false⟩),
  (85, ⟨K85, [], 21, c85, [.t (.g 6)], 3, false⟩),
  (86, ⟨K86, [], 35, c86, [.t (.g 4)], 2, false⟩),
  (87, ⟨K87, [], 30, c87, [.t (.g 10)], 5, false⟩),
  (91, ⟨K91, [], 36, c91, [.t (.g 6)], 3, false⟩),
  (93, ⟨K93, [], 22, c93, [.t (.g 6)], 3, false⟩),
  (94, ⟨K94, [], 15, c94, [.t (.g 6)], 3, false⟩),
  (95, ⟨K95, [], 36, c95, [.cell (.g 4) (some 3)], 2, false⟩),
  (96, ⟨K96, [], 34, c96, [.t (.g 6)], 3, false⟩),
  (102, ⟨K102, [], 20, c102, [.t (.g 6)], 3, false⟩),
  (103, ⟨K103, [], 26, c103, [.t (.g 4)], 2, false⟩),
  (104, ⟨K104, [], 12, c104, [.t (.g 5)], 4, false⟩),
  (105, ⟨K105, [], 12, c105, [.t (.g 5)], 4, false⟩),
  (106, ⟨K106, [], 84, c106, [.t (.g 2)], 1, false⟩),
  (108, ⟨K108, [], 27, c108, [.t (.g 6)], 3, false⟩),
  (109, ⟨K109, [], 47, c109, [.t (.g 6)], 5, false⟩),
  (110, ⟨K110, [], 9, c110, [.t (.g 4)], 2, false⟩),
  (111, ⟨K111, [], 28, c111, [.t (.g 8)], 4, false⟩),
  (129, ⟨K129, [], 61, c129, [.t (.g 6)], 3, false⟩),
  (136, ⟨K136, [], 31, c136, [.t (.g 6)], 3, false⟩),
  (139, ⟨K139, [], 27, c139, [.cell (.g 6) (some 2)], 3, false⟩),
  (140, ⟨K140, [], 5, c140, [.t (.g 2)], 1, false⟩),
  (141, ⟨K141, [], 11, c141, [.t (.g 4)], 2, false⟩),
  (155, ⟨K155, [], 11, c155, [.t (.g 4)], 2, false⟩),
  (156, ⟨K156, [], 40, c156, [.t (.g 4)], 2, false⟩),
  (164, ⟨K164, [], 39, c164, [.t (.g 8)], 4, false⟩)]
theorem ct17_ok : CTabOk Try.prog ct17 :=
  .cons (fun _ _ _ hn h => go17 hn h) (.cons (fun _ _ _ hn h => go79m hn h) (.cons (fun _ _ _ hn h => go19 hn h) (.cons (fun _ _ _ hn h => go25 hn h) (.cons (fun _ _ _ hn h => go27 hn h) (.cons (fun _ _ _ hn h => go42 hn h) (.cons (fun _ _ _ hn h => go44 hn h) (.cons (fun _ _ _ hn h => go46 hn h) (.cons (fun _ _ _ hn h => go50 hn h) (.cons (fun _ _ _ hn h => go51 hn h) (.cons (fun _ _ _ hn h => go54 hn h) (.cons (fun _ _ _ hn h => go55 hn h) (.cons (fun _ _ _ hn h => go57 hn h) (.cons (fun _ _ _ hn h => go59 hn h) (.cons (fun _ _ _ hn h => go61 hn h) (.cons (fun _ _ _ hn h => go63 hn h) (.cons (fun _ _ _ hn h => go80 hn h) (.cons (fun _ _ _ hn h => go81 hn h) (.cons (fun _ _ _ hn h => go82 hn h) (.cons (fun _ _ _ hn h => go85 hn h) (.cons (fun _ _ _ hn h => go86 hn h) (.cons (fun _ _ _ hn h => go87 hn h) (.cons (fun _ _ _ hn h => go91 hn h) (.cons (fun _ _ _ hn h => go93 hn h) (.cons (fun _ _ _ hn h => go94 hn h) (.cons (fun _ _ _ hn h => go95 hn h) (.cons (fun _ _ _ hn h => go96 hn h) (.cons (fun _ _ _ hn h => go102 hn h) (.cons (fun _ _ _ hn h => go103 hn h) (.cons (fun _ _ _ hn h => go104 hn h) (.cons (fun _ _ _ hn h => go105 hn h) (.cons (fun _ _ _ hn h => go106 hn h) (.cons (fun _ _ _ hn h => go108 hn h) (.cons (fun _ _ _ hn h => go109 hn h) (.cons (fun _ _ _ hn h => go110 hn h) (.cons (fun _ _ _ hn h => go111 hn h) (.cons (fun _ _ _ hn h => go129 hn h) (.cons (fun _ _ _ hn h => go136 hn h) (.cons (fun _ _ _ hn h => go139 hn h) (.cons (fun _ _ _ hn h => go140 hn h) (.cons (fun _ _ _ hn h => go141 hn h) (.cons (fun _ _ _ hn h => go155 hn h) (.cons (fun _ _ _ hn h => go156 hn h) (.cons (fun _ _ _ hn h => go164 hn h) (.nil))))))))))))))))))))))))))))))))))))))))))))
-- T1 T2 T3 T7
def ctV : CTab := [
  (79, ⟨K79, [], 11, c79, [.cell (.g 0) (some 11)], 0, false⟩),
  (19, ⟨K19, [], 51, c19, [.t (.g 0)], 0, false⟩),
  (25, ⟨K25, [], 44, c25, [.t (.g 8), .t (.g 9)], 4, false⟩),
  (27, ⟨K27, [], 26, c27, [.t (.g 4)], 2, false⟩),
  (42, ⟨K42, [], 71, c42, [.t (.g 8), .t (.g 9)], 4, false⟩),
  (44, ⟨K44, [], 23, c44, [.t (.g 4)], 2, true⟩),
  (46, ⟨K46, [], 27, c46, [.t (.g 8), .t (.g 9)], 4, false⟩),
  (50, ⟨K50, [], 26, c50, [.t (.g 4)], 2, false⟩),
  (51, ⟨K51, [], 8, c51, [.cell (.g 4) (some 2)], 2, false⟩),
  (54, ⟨K54, [], 26, c54, [.t (.g 6), .t (.g 7)], 3, false⟩),
  (55, ⟨K55, [], 28, c55, [.t (.g 6), .t (.g 7)], 3, false⟩),
  (57, ⟨K57, [], 25, c57, [.t (.g 6), .t (.g 7)], 3, false⟩),
  (59, ⟨K59, [], 60, c59, [.t (.g 2)], 1, false⟩),
  (61, ⟨K61, [], 6, c61, [.cell (.g 2) (some 2)], 1, false⟩),
  (63, ⟨K63, [], 33, c63, [.t (.g 6), .t (.g 7)], 3, false⟩),
  (80, ⟨K80, [], 117, c80, [.t (.g 0)], 0, false⟩),
  (81, ⟨K81, [], 48, c81, [.t (.g 0)], 0, false⟩),
  (82, ⟨K82, [], 85, c82, [.t (.g 0)], 0, false⟩),
  (85, ⟨K85, [], 21, c85, [.t (.g 6)], 3, false⟩),
  (86, ⟨K86, [], 35, c86, [.t (.g 4)], 2, false⟩),
  (87, ⟨K87, [], 30, c87, [.t (.g 10)], 5, false⟩),
  (91, ⟨K91, [], 36, c91, [.t (.g 6)], 3, false⟩),
  (93, ⟨K93, [], 22, c93, [.t (.g 6)], 3, false⟩),
  (94, ⟨K94, [], 15, c94, [.t (.g 6)], 3, false⟩),
  (95, ⟨K95, [], 36, c95, [.cell (.g 4) (some 3)], 2, false⟩),
  (96, ⟨K96, [], 34, c96, [.t (.g 6)], 3, false⟩),
  (102, ⟨K102, [], 20, c102, [.t (.g 6)], 3, false⟩),
  (103, ⟨K103, [], 26, c103, [.t (.g 4)], 2, false⟩),
  (104, ⟨K104, [], 12, c104, [.t (.g 5)], 4, false⟩),
  (105, ⟨K105, [], 12, c105, [.t (.g 5)], 4, false⟩),
  (106, ⟨K106, [], 84, c106, [.t (.g 2)], 1, false⟩),
  (108, ⟨K108, [], 27, c108, [.t (.g 6)], 3, false⟩),
  (109, ⟨K109, [], 47, c109, [.t (.g 6)], 5, false⟩),
  (110, ⟨K110, [], 9, c110, [.t (.g 4)], 2, false⟩),
  (111, ⟨K111, [], 28, c111, [.t (.g 8)], 4, false⟩),
  (129, ⟨K129, [], 61, c129, [.t (.g 6)], 3, false⟩),
  (136, ⟨K136, [], 31, c136, [.t (.g 6)], 3, false⟩),
  (139, ⟨K139, [], 27, c139, [.cell (.g 6) (some 2)], 3, false⟩),
  (140, ⟨K140, [], 5, c140, [.t (.g 2)], 1, false⟩),
  (141, ⟨K141, [], 11, c141, [.t (.g 4)], 2, false⟩),
  (155, ⟨K155, [], 11, c155, [.t (.g 4)], 2, false⟩),
  (156, ⟨K156, [], 40, c156, [.t (.g 4)], 2, false⟩),
  (164, ⟨K164, [], 39, c164, [.t (.g 8)], 4, false⟩)]
theorem ctV_ok : CTabOk Try.prog ctV :=
  .cons (fun _ _ _ hn h => go79 hn h) (.cons (fun _ _ _ hn h => go19 hn h) (.cons (fun _ _ _ hn h => go25 hn h) (.cons (fun _ _ _ hn h => go27 hn h) (.cons (fun _ _ _ hn h => go42 hn h) (.cons (fun _ _ _ hn h => go44 hn h) (.cons (fun _ _ _ hn h => go46 hn h) (.cons (fun _ _ _ hn h => go50 hn h) (.cons (fun _ _ _ hn h => go51 hn h) (.cons (fun _ _ _ hn h => go54 hn h) (.cons (fun _ _ _ hn h => go55 hn h) (.cons (fun _ _ _ hn h => go57 hn h) (.cons (fun _ _ _ hn h => go59 hn h) (.cons (fun _ _ _ hn h => go61 hn h) (.cons (fun _ _ _ hn h => go63 hn h) (.cons (fun _ _ _ hn h => go80 hn h) (.cons (fun _ _ _ hn h => go81 hn h) (.cons (fun _ _ _ hn h => go82 hn h) (.cons (fun _ _ _ hn h => go85 hn h) (.cons (fun _ _ _ hn h => go86 hn h) (.cons (fun _ _ _ hn h => go87 hn h) (.cons (fun _ _ _ hn h => go91 hn h) (.cons (fun _ _ _ hn h => go93 hn h) (.cons (fun _ _ _ hn h => go94 hn h) (.cons (fun _ _ _ hn h => go95 hn h) (.cons (fun _ _ _ hn h => go96 hn h) (.cons (fun _ _ _ hn h => go102 hn h) (.cons (fun _ _ _ hn h => go103 hn h) (.cons (fun _ _ _ hn h => go104 hn h) (.cons (fun _ _ _ hn h => go105 hn h) (.cons (fun _ _ _ hn h => go106 hn h) (.cons (fun _ _ _ hn h => go108 hn h) (.cons (fun _ _ _ hn h => go109 hn h) (.cons (fun _ _ _ hn h => go110 hn h) (.cons (fun _ _ _ hn h => go111 hn h) (.cons (fun _ _ _ hn h => go129 hn h) (.cons (fun _ _ _ hn h => go136 hn h) (.cons (fun _ _ _ hn h => go139 hn h) (.cons (fun _ _ _ hn h => go140 hn h) (.cons (fun _ _ _ hn h => go141 hn h) (.cons (fun _ _ _ hn h => go155 hn h) (.cons (fun _ _ _ hn h => go156 hn h) (.cons (fun _ _ _ hn h => go164 hn h) (.nil)))))))))))))))))))))))))))))))))))))))))))
end Go.Sas
namespace Go.Sas
open Go.Proofs
set_option maxRecDepth 100000
/-- what is known of some arguments -/
def asc : List (List AV × AV) → List AV → Option AV
  | [], _ => none
  | (a, r) :: t, args => match avEqL a args with
    | true => some r
    | false => asc t args
theorem asc_ok {P : Program} {f : Nat} : ∀ {l : List (List AV × AV)}, (∀ p ∈ l, ∀ (H : AHeap) (Kk : AV → AHeap → Prop), Kk p.2 H → ACalls P f p.1 H Kk) → ∀ args r, asc l args = some r → ∀ (H : AHeap) (Kk : AV → AHeap → Prop), Kk r H → ACalls P f args H Kk
  | [], _, args, r, h, _, _, _ => by simp [asc] at h
  | (a, q) :: t, hl, args, r, h, H, Kk, hk => by
    simp only [asc] at h
    split at h
    · rename_i hb
      have h := Option.some.inj h
      have := hl (a, q) (List.mem_cons_self ..) H Kk (by rw [h]; exact hk)
      rw [avEqL_spec hb] at this
      exact this
    · exact asc_ok (fun p hp => hl p (List.mem_cons_of_mem _ hp)) args r h H Kk hk
theorem run_at {P : Program} {ct : CTab} {ft : FTab} (hct : CTabOk P ct) (hft : FTabOk P ft) {n f : Nat} {args : List AV} {r : AV} (h : runK ct ft n f args = some r) (ha : AV.nidL args = true) (hr : r.nid = true) (H : AHeap) (Kk : AV → AHeap → Prop) (hk : Kk r H) : ACalls P f args H Kk := by
  have h1 : PCalls P f args (fun x => x = r) := (runK_calls hct hft h).mono fun r' H' hh => by obtain ⟨rfl, rfl⟩ := hh; exact ⟨rfl, hr, rfl⟩
  exact (h1.calls ha H).mono fun r' H' hh => by obtain ⟨rfl, _, rfl⟩ := hh; exact hk
def spv (a b : Int) : AV := .agg [I a, I b]
/-- the plate of the examples -/
def plC : AV := plV 40000 50000 (.vs 2 [spv 0 1000000, spv 20 500000, spv 100 0]) (.vs 2 [spv 0 1000000, spv 60 640000, spv 600 250000]) 5 500000 98 640000 1440000 50 250000
def plP : Plate := ⟨(40000, 50000), [(0, 1000000), (20, 500000), (100, 0)], [(0, 1000000), (60, 640000), (600, 250000)], 5, 500000, 98, 640000, 1440000, 50, 250000⟩
def row63 (w : List Int) : AV := .vs 2 (w.map fun x => spv x x)
end Go.Sas
