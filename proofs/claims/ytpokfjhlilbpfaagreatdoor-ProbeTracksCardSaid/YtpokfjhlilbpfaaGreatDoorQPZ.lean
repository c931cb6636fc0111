/-
What comes in, by the types of the laws on radar files.
Conditions: none.
-/
import Derived.Test.YtpokfjhlilbpfaaGreatDoorQPW3
import Derived.Test.YtpokfjhlilbpfaaGreatDoorP5g
import Derived.Test.YtpokfjhlilbpfaaGreatDoorProg
import Derived.Test.YtpokfjhlilbpfaaGreatDoorQSX1
set_option linter.unusedVariables false
set_option linter.unusedSimpArgs false
namespace Go.Sas
open Go.Proofs
set_option maxRecDepth 100000
theorem good_int {P : Program} {d : Nat} {t : TypeId} {us : List AV} (hu : P.underlying t = some (.int .i64)) (h : Good P (d + 1) t us) : ∃ n, us = [I n] := by
  simp only [Good, hu] at h
  obtain ⟨n, h1, _⟩ := h
  exact ⟨n, h1⟩
theorem good_str {P : Program} {d : Nat} {t : TypeId} {us : List AV} (hu : P.underlying t = some .string) (h : Good P (d + 1) t us) : ∃ s : ByteArray, us = [.lit (.string s)] := by
  simp only [Good, hu] at h
  obtain ⟨n, h1, _⟩ := h
  exact ⟨n, h1⟩
theorem good_slice {α : Type} {f : α → AV} {P : Program} {d : Nat} {t e : TypeId} {sz : Nat} {us : List AV} (hu : P.underlying t = some (.slice e)) (hsz : P.cellsOf e = sz) (hf : ∀ cs, Good P d e cs → ∃ x, mkE P e cs = f x) (h : Good P (d + 1) t us) :
    ∃ l : List α, us = [.vs sz (l.map f)] ∧ l.length ≤ 9223372036854775807 := by
  simp only [Good, hu] at h
  obtain ⟨css, h1, h2, h3⟩ := h
  have key : ∀ css : List (List AV), (∀ cs ∈ css, Good P d e cs) → ∃ l : List α, css.map (mkE P e) = l.map f ∧ l.length = css.length := by
    intro css
    induction css with
    | nil => exact fun _ => ⟨[], rfl, rfl⟩
    | cons c css ih =>
      intro hg
      obtain ⟨x, hx⟩ := hf c (hg c (by simp))
      obtain ⟨l, hl, hn⟩ := ih fun cs hc => hg cs (by simp [hc])
      exact ⟨x :: l, by simp [hx, hl], by simp [hn]⟩
  obtain ⟨l, hl, hn⟩ := key css h3
  refine ⟨l, by rw [h1, hsz, hl], ?_⟩
  rw [hn]
  have : maxLen = 9223372036854775807 := by decide
  omega
theorem mk_int {cs : List AV} {n : Int} {P : Program} {t : TypeId} (hu : P.underlying t = some (.int .i64)) (h : cs = [I n]) : mkE P t cs = I n := by simp [mkE, hu, h]
theorem mk_slice {P : Program} {t e : TypeId} {a : AV} (hu : P.underlying t = some (.slice e)) : mkE P t [a] = a := by simp [mkE, hu]
theorem mk_str {P : Program} {t : TypeId} {a : AV} (hu : P.underlying t = some .string) : mkE P t [a] = a := by simp [mkE, hu]
theorem zy3 : Tryz.prog.underlying 3 = some (.int .i64) := by kernel_rfl
theorem zy9 : Tryz.prog.underlying 9 = some .string := by kernel_rfl
theorem zy22 : Tryz.prog.underlying 22 = some (.slice 3) := by kernel_rfl
theorem cz3 : Tryz.prog.cellsOf 3 = 1 := by kernel_rfl
theorem in_ints {d : Nat} {us : List AV} (h : Good Tryz.prog (d + 2) 22 us) : ∃ l : List Int, us = [.vs 1 (l.map I)] ∧ l.length ≤ 9223372036854775807 :=
  good_slice (f := I) zy22 cz3 (fun cs hc => by
    obtain ⟨n, hn⟩ := good_int zy3 hc
    exact ⟨n, mk_int zy3 hn⟩) h
theorem in_str {d : Nat} {us : List AV} (h : Good Tryz.prog (d + 1) 9 us) : ∃ s : ByteArray, us = [.lit (.string s)] := good_str zy9 h
theorem ints_e64 (l : List Int) : (l.map I).all AV.e64 = true := by
  rw [List.all_eq_true]
  intro a ha
  obtain ⟨n, _, rfl⟩ := List.mem_map.1 ha
  rfl
def GoodT (P : Program) (G : TypeId → List AV → Prop) : List TypeId → List AV → Prop
  | [], us => us = []
  | t :: ts, us => ∃ p q, us = p ++ q ∧ p.length = P.cellsOf t ∧ G t p ∧ GoodT P G ts q
theorem goodL_T {P : Program} {G : TypeId → List AV → Prop} : ∀ {fs : List Field} {us : List AV}, GoodL P G fs us → GoodT P G (fs.map (·.type)) us
  | [], _, h => h
  | _ :: _, _, ⟨p, q, h1, h2, h3, h4⟩ => ⟨p, q, h1, h2, h3, goodL_T h4⟩
theorem good_intB {P : Program} {d : Nat} {t : TypeId} {us : List AV} (hu : P.underlying t = some (.int .i64)) (h : Good P (d + 1) t us) : ∃ n : Int, us = [I n] ∧ -9223372036854775808 ≤ n ∧ n ≤ 9223372036854775807 := by
  simp only [Good, hu] at h
  obtain ⟨n, h1, h2⟩ := h
  refine ⟨n, h1, ?_⟩
  have e1 : IntKind.i64.min = -9223372036854775808 := by decide
  have e2 : IntKind.i64.max = 9223372036854775807 := by decide
  omega
theorem good_struct {P : Program} {d : Nat} {t : TypeId} {fs : Array Field} {ts : List TypeId} {us : List AV} (hu : P.underlying t = some (.struct fs)) (hts : fs.toList.map (·.type) = ts) (h : Good P (d + 1) t us) : GoodT P (Good P d) ts us := by
  simp only [Good, hu] at h
  rw [← hts]; exact goodL_T h
noncomputable def fsOf (t : TypeId) : Array Field := match Tryz.prog.underlying t with | some (.struct fs) => fs | _ => #[]
theorem mk_struct {P : Program} {t : TypeId} {fs : Array Field} {cs : List AV} (hu : P.underlying t = some (.struct fs)) : mkE P t cs = .agg cs := by simp [mkE, hu]
theorem uy3 : Tryz.prog.underlying 3 = some (.int .i64) := zy3
theorem uy25 : Tryz.prog.underlying 25 = some (.struct (fsOf 25)) := by kernel_rfl
theorem ty25 : (fsOf 25).toList.map (·.type) = [3, 3] := by kernel_rfl
theorem uy28 : Tryz.prog.underlying 28 = some (.struct (fsOf 28)) := by kernel_rfl
theorem ty28 : (fsOf 28).toList.map (·.type) = [25, 26] := by kernel_rfl
theorem T_int {d : Nat} {ts : List TypeId} {us : List AV} (h : GoodT Tryz.prog (Good Tryz.prog (d + 1)) (3 :: ts) us) : ∃ n q, us = I n :: q ∧ GoodT Tryz.prog (Good Tryz.prog (d + 1)) ts q := by
  obtain ⟨p, q, rfl, _, h1, h2⟩ := h
  obtain ⟨n, rfl⟩ := good_int uy3 h1
  exact ⟨n, q, rfl, h2⟩
theorem T_two {d : Nat} {us : List AV} (h : GoodT Tryz.prog (Good Tryz.prog (d + 1)) [3, 3] us) : ∃ x : Int × Int, us = [I x.1, I x.2] := by
  obtain ⟨a, q, rfl, h1⟩ := T_int h
  obtain ⟨b, q, rfl, h2⟩ := T_int h1
  simp only [GoodT] at h2; subst h2
  exact ⟨(a, b), rfl⟩
theorem in_span {d : Nat} {us : List AV} (h : Good Tryz.prog (d + 2) 25 us) : ∃ x : Int × Int, us = [I x.1, I x.2] := T_two (good_struct uy25 ty25 h)
theorem T_span {d : Nat} {ts : List TypeId} {us : List AV} (h : GoodT Tryz.prog (Good Tryz.prog (d + 2)) (25 :: ts) us) : ∃ (x : Int × Int) (q : List AV), us = I x.1 :: I x.2 :: q ∧ GoodT Tryz.prog (Good Tryz.prog (d + 2)) ts q := by
  obtain ⟨p, q, rfl, _, h1, h2⟩ := h
  obtain ⟨x, rfl⟩ := in_span h1
  exact ⟨x, q, rfl, h2⟩
theorem uyO : Tryz.prog.underlying 65 = some (.struct (fsOf 65)) := by kernel_rfl
theorem tyO : (fsOf 65).toList.map (·.type) = [3, 3, 25] := by kernel_rfl
theorem zyO : Tryz.prog.cellsOf 65 = 4 := by kernel_rfl
theorem uy26 : Tryz.prog.underlying 26 = some (.slice 65) := by kernel_rfl
theorem in_echo {d : Nat} {us : List AV} (h : Good Tryz.prog (d + 3) 65 us) : ∃ x : Ech, us = [I x.p, I x.h, I x.lo, I x.hi] := by
  obtain ⟨a, q, rfl, h1⟩ := T_int (good_struct uyO tyO h)
  obtain ⟨b, q, rfl, h2⟩ := T_int h1
  obtain ⟨c, q, rfl, h3⟩ := T_span h2
  simp only [GoodT] at h3; subst h3
  exact ⟨⟨a, b, c.1, c.2⟩, rfl⟩
theorem in_echos {d : Nat} {us : List AV} (h : Good Tryz.prog (d + 4) 26 us) : ∃ l : List Ech, us = [.vs 4 (l.map ecV)] ∧ l.length ≤ 9223372036854775807 :=
  good_slice (f := ecV) (e := 65) (sz := 4) uy26 zyO (fun cs hc => by obtain ⟨x, hx⟩ := in_echo hc; exact ⟨x, by rw [mk_struct uyO, hx]⟩) h
theorem in_track {d : Nat} {us : List AV} (h : Good Tryz.prog (d + 5) 28 us) : ∃ (a b : Int) (es : List Ech), mkE Tryz.prog 28 us = tkV a b (.vs 4 (es.map ecV)) ∧ es.length ≤ 9223372036854775807 := by
  obtain ⟨x, q, rfl, h1⟩ := T_span (good_struct uy28 ty28 h)
  obtain ⟨p, q, rfl, _, h4, h5⟩ := h1
  obtain ⟨os, rfl, ho⟩ := in_echos h4
  simp only [GoodT] at h5; subst h5
  exact ⟨x.1, x.2, os, mk_struct uy28, ho⟩
theorem zy5 : Tryz.prog.underlying 5 = some (.int .u8) := by kernel_rfl
theorem in_byte {d : Nat} {us : List AV} (h : Good Tryz.prog (d + 1) 5 us) : ∃ n : Int, us = [.lit (.int .u8 n)] := by
  simp only [Good, zy5] at h
  obtain ⟨n, h1, _⟩ := h
  exact ⟨n, h1⟩
theorem mk_lit {P : Program} {t : TypeId} {k : IntKind} {a : AV} (hu : P.underlying t = some (.int k)) : mkE P t [a] = a := by simp [mkE, hu]
theorem ecs_e64 (l : List Ech) : (l.map ecV).all AV.e64 = true := by
  rw [List.all_eq_true]
  intro a ha
  obtain ⟨n, _, rfl⟩ := List.mem_map.1 ha
  rfl
end Go.Sas
