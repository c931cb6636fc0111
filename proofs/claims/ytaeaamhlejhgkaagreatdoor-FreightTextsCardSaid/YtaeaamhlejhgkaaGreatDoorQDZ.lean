/-
What comes in, by the types of the laws on season files.
Conditions: none.
-/
import Derived.Test.YtaeaamhlejhgkaaGreatDoorHB
import Derived.Test.YtaeaamhlejhgkaaGreatDoorP5
import Derived.Test.YtaeaamhlejhgkaaGreatDoorProg
import Derived.Test.YtaeaamhlejhgkaaGreatDoorQSX1
set_option linter.unusedVariables false
set_option linter.unusedSimpArgs false
namespace Go.Sas
open Go.Proofs
set_option maxRecDepth 100000
theorem good_int {P : Program} {d : Nat} {t : TypeId} {us : List AV} (hu : P.underlying t = some (.int .i64)) (h : Good P (d + 1) t us) : ∃ n, us = [I n] := by
  simp only [Good, hu] at h
  obtain ⟨n, h1, _⟩ := h
  exact ⟨n, h1⟩
theorem good_str {P : Program} {d : Nat} {t : TypeId} {us : List AV} (hu : P.underlying t = some .string) (h : Good P (d + 1) t us) : ∃ s : ByteArray, us = [.lit (.string s)] := by
  simp only [Good, hu] at h
  obtain ⟨n, h1, _⟩ := h
  exact ⟨n, h1⟩
theorem good_slice {α : Type} {f : α → AV} {P : Program} {d : Nat} {t e : TypeId} {sz : Nat} {us : List AV} (hu : P.underlying t = some (.slice e)) (hsz : P.cellsOf e = sz) (hf : ∀ cs, Good P d e cs → ∃ x, mkE P e cs = f x) (h : Good P (d + 1) t us) :
    ∃ l : List α, us = [.vs sz (l.map f)] ∧ l.length ≤ 9223372036854775807 := by
  simp only [Good, hu] at h
  obtain ⟨css, h1, h2, h3⟩ := h
  have key : ∀ css : List (List AV), (∀ cs ∈ css, Good P d e cs) → ∃ l : List α, css.map (mkE P e) = l.map f ∧ l.length = css.length := by
    intro css
    induction css with
    | nil => exact fun _ => ⟨[], rfl, rfl⟩
    | cons c css ih =>
      intro hg
      obtain ⟨x, hx⟩ := hf c (hg c (by simp))
      obtain ⟨l, hl, hn⟩ := ih fun cs hc => hg cs (by simp [hc])
      exact ⟨x :: l, by simp [hx, hl], by simp [hn]⟩
  obtain ⟨l, hl, hn⟩ := key css h3
  refine ⟨l, by rw [h1, hsz, hl], ?_⟩
  rw [hn]
  have : maxLen = 9223372036854775807 := by decide
  omega
theorem mk_int {cs : List AV} {n : Int} {P : Program} {t : TypeId} (hu : P.underlying t = some (.int .i64)) (h : cs = [I n]) : mkE P t cs = I n := by simp [mkE, hu, h]
theorem mk_slice {P : Program} {t e : TypeId} {a : AV} (hu : P.underlying t = some (.slice e)) : mkE P t [a] = a := by simp [mkE, hu]
theorem mk_str {P : Program} {t : TypeId} {a : AV} (hu : P.underlying t = some .string) : mkE P t [a] = a := by simp [mkE, hu]
theorem zy3 : Tryz.prog.underlying 3 = some (.int .i64) := by kernel_rfl
theorem zy9 : Tryz.prog.underlying 9 = some .string := by kernel_rfl
theorem zy28 : Tryz.prog.underlying 28 = some (.slice 3) := by kernel_rfl
theorem cz3 : Tryz.prog.cellsOf 3 = 1 := by kernel_rfl
theorem in_ints {d : Nat} {us : List AV} (h : Good Tryz.prog (d + 2) 28 us) : ∃ l : List Int, us = [.vs 1 (l.map I)] ∧ l.length ≤ 9223372036854775807 :=
  good_slice (f := I) zy28 cz3 (fun cs hc => by
    obtain ⟨n, hn⟩ := good_int zy3 hc
    exact ⟨n, mk_int zy3 hn⟩) h
theorem in_str {d : Nat} {us : List AV} (h : Good Tryz.prog (d + 1) 9 us) : ∃ s : ByteArray, us = [.lit (.string s)] := good_str zy9 h
theorem ints_e64 (l : List Int) : (l.map I).all AV.e64 = true := by
  rw [List.all_eq_true]
  intro a ha
  obtain ⟨n, _, rfl⟩ := List.mem_map.1 ha
  rfl
def GoodT (P : Program) (G : TypeId → List AV → Prop) : List TypeId → List AV → Prop
  | [], us => us = []
  | t :: ts, us => ∃ p q, us = p ++ q ∧ p.length = P.cellsOf t ∧ G t p ∧ GoodT P G ts q
theorem goodL_T {P : Program} {G : TypeId → List AV → Prop} : ∀ {fs : List Field} {us : List AV}, GoodL P G fs us → GoodT P G (fs.map (·.type)) us
  | [], _, h => h
  | _ :: _, _, ⟨p, q, h1, h2, h3, h4⟩ => ⟨p, q, h1, h2, h3, goodL_T h4⟩
theorem good_intB {P : Program} {d : Nat} {t : TypeId} {us : List AV} (hu : P.underlying t = some (.int .i64)) (h : Good P (d + 1) t us) : ∃ n : Int, us = [I n] ∧ -9223372036854775808 ≤ n ∧ n ≤ 9223372036854775807 := by
  simp only [Good, hu] at h
  obtain ⟨n, h1, h2⟩ := h
  refine ⟨n, h1, ?_⟩
  have e1 : IntKind.i64.min = -9223372036854775808 := by decide
  have e2 : IntKind.i64.max = 9223372036854775807 := by decide
  omega
theorem good_struct {P : Program} {d : Nat} {t : TypeId} {fs : Array Field} {ts : List TypeId} {us : List AV} (hu : P.underlying t = some (.struct fs)) (hts : fs.toList.map (·.type) = ts) (h : Good P (d + 1) t us) : GoodT P (Good P d) ts us := by
  simp only [Good, hu] at h
  rw [← hts]; exact goodL_T h
noncomputable def fsOf (t : TypeId) : Array Field := match Tryz.prog.underlying t with | some (.struct fs) => fs | _ => #[]
theorem mk_struct {P : Program} {t : TypeId} {fs : Array Field} {cs : List AV} (hu : P.underlying t = some (.struct fs)) : mkE P t cs = .agg cs := by simp [mkE, hu]
theorem uy3 : Tryz.prog.underlying 3 = some (.int .i64) := zy3
theorem uy23 : Tryz.prog.underlying 23 = some (.struct (fsOf 23)) := by kernel_rfl
theorem ty23 : (fsOf 23).toList.map (·.type) = [3, 3] := by kernel_rfl
theorem uy24 : Tryz.prog.underlying 24 = some (.slice 23) := by kernel_rfl
theorem uy27 : Tryz.prog.underlying 27 = some (.struct (fsOf 27)) := by kernel_rfl
theorem ty27 : (fsOf 27).toList.map (·.type) = [23, 23, 24, 25] := by kernel_rfl
theorem cy23 : Tryz.prog.cellsOf 23 = 2 := by kernel_rfl
theorem T_int {d : Nat} {ts : List TypeId} {us : List AV} (h : GoodT Tryz.prog (Good Tryz.prog (d + 1)) (3 :: ts) us) : ∃ n q, us = I n :: q ∧ GoodT Tryz.prog (Good Tryz.prog (d + 1)) ts q := by
  obtain ⟨p, q, rfl, _, h1, h2⟩ := h
  obtain ⟨n, rfl⟩ := good_int uy3 h1
  exact ⟨n, q, rfl, h2⟩
theorem T_two {d : Nat} {us : List AV} (h : GoodT Tryz.prog (Good Tryz.prog (d + 1)) [3, 3] us) : ∃ x : Int × Int, us = [I x.1, I x.2] := by
  obtain ⟨a, q, rfl, h1⟩ := T_int h
  obtain ⟨b, q, rfl, h2⟩ := T_int h1
  simp only [GoodT] at h2; subst h2
  exact ⟨(a, b), rfl⟩
theorem in_span {d : Nat} {us : List AV} (h : Good Tryz.prog (d + 2) 23 us) : ∃ x : Int × Int, us = [I x.1, I x.2] := T_two (good_struct uy23 ty23 h)
theorem in_spans {d : Nat} {us : List AV} (h : Good Tryz.prog (d + 3) 24 us) : ∃ l : List (Int × Int), us = [.vs 2 (l.map sp)] ∧ l.length ≤ 9223372036854775807 :=
  good_slice (f := sp) (e := 23) (sz := 2) uy24 cy23 (fun cs hc => by obtain ⟨x, hx⟩ := in_span hc; exact ⟨x, by rw [mk_struct uy23, hx]⟩) h
theorem T_span {d : Nat} {ts : List TypeId} {us : List AV} (h : GoodT Tryz.prog (Good Tryz.prog (d + 2)) (23 :: ts) us) : ∃ (x : Int × Int) (q : List AV), us = I x.1 :: I x.2 :: q ∧ GoodT Tryz.prog (Good Tryz.prog (d + 2)) ts q := by
  obtain ⟨p, q, rfl, _, h1, h2⟩ := h
  obtain ⟨x, rfl⟩ := in_span h1
  exact ⟨x, q, rfl, h2⟩
theorem T_spans {d : Nat} {ts : List TypeId} {us : List AV} (h : GoodT Tryz.prog (Good Tryz.prog (d + 3)) (24 :: ts) us) : ∃ (l : List (Int × Int)) (q : List AV), us = .vs 2 (l.map sp) :: q ∧ l.length ≤ 9223372036854775807 ∧ GoodT Tryz.prog (Good Tryz.prog (d + 3)) ts q := by
  obtain ⟨p, q, rfl, _, h1, h2⟩ := h
  obtain ⟨l, rfl, hl⟩ := in_spans h1
  exact ⟨l, q, rfl, hl, h2⟩
theorem uyO : Tryz.prog.underlying 59 = some (.struct (fsOf 59)) := by kernel_rfl
theorem tyO : (fsOf 59).toList.map (·.type) = [3, 3, 3, 3] := by kernel_rfl
theorem zyO : Tryz.prog.cellsOf 59 = 4 := by kernel_rfl
theorem uy25 : Tryz.prog.underlying 25 = some (.slice 59) := by kernel_rfl
theorem in_order {d : Nat} {us : List AV} (h : Good Tryz.prog (d + 2) 59 us) : ∃ x : Ord, us = [I x.u, I x.d, I x.l, I x.s] := by
  obtain ⟨a, q, rfl, h1⟩ := T_int (good_struct uyO tyO h)
  obtain ⟨b, q, rfl, h2⟩ := T_int h1
  obtain ⟨c, q, rfl, h3⟩ := T_int h2
  obtain ⟨e, q, rfl, h4⟩ := T_int h3
  simp only [GoodT] at h4; subst h4
  exact ⟨⟨a, b, c, e⟩, rfl⟩
theorem in_orders {d : Nat} {us : List AV} (h : Good Tryz.prog (d + 3) 25 us) : ∃ l : List Ord, us = [.vs 4 (l.map orV)] ∧ l.length ≤ 9223372036854775807 :=
  good_slice (f := orV) (e := 59) (sz := 4) uy25 zyO (fun cs hc => by obtain ⟨x, hx⟩ := in_order hc; exact ⟨x, by rw [mk_struct uyO, hx]⟩) h
theorem in_freight {d : Nat} {us : List AV} (h : Good Tryz.prog (d + 4) 27 us) : ∃ (a b c e : Int) (cs : List (Int × Int)) (os : List Ord), mkE Tryz.prog 27 us = frV a b c e (.vs 2 (cs.map sp)) (.vs 4 (os.map orV)) ∧ cs.length ≤ 9223372036854775807 ∧ os.length ≤ 9223372036854775807 := by
  obtain ⟨x, q, rfl, h1⟩ := T_span (good_struct uy27 ty27 h)
  obtain ⟨y, q, rfl, h2⟩ := T_span h1
  obtain ⟨cs, q, rfl, hc, h3⟩ := T_spans h2
  obtain ⟨p, q, rfl, _, h4, h5⟩ := h3
  obtain ⟨os, rfl, ho⟩ := in_orders h4
  simp only [GoodT] at h5; subst h5
  exact ⟨x.1, x.2, y.1, y.2, cs, os, mk_struct uy27, hc, ho⟩
theorem zy5 : Tryz.prog.underlying 5 = some (.int .u8) := by kernel_rfl
theorem in_byte {d : Nat} {us : List AV} (h : Good Tryz.prog (d + 1) 5 us) : ∃ n : Int, us = [.lit (.int .u8 n)] := by
  simp only [Good, zy5] at h
  obtain ⟨n, h1, _⟩ := h
  exact ⟨n, h1⟩
theorem mk_lit {P : Program} {t : TypeId} {k : IntKind} {a : AV} (hu : P.underlying t = some (.int k)) : mkE P t [a] = a := by simp [mkE, hu]
theorem spans_e64 (l : List (Int × Int)) : (l.map sp).all AV.e64 = true := by
  rw [List.all_eq_true]
  intro a ha
  obtain ⟨n, _, rfl⟩ := List.mem_map.1 ha
  rfl
theorem ords_e64 (l : List Ord) : (l.map orV).all AV.e64 = true := by
  rw [List.all_eq_true]
  intro a ha
  obtain ⟨n, _, rfl⟩ := List.mem_map.1 ha
  rfl
end Go.Sas
