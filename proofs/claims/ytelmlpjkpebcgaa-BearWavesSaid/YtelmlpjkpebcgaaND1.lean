/-
What comes in, by the types of chapter 3.
Conditions: none.
-/
import Derived.Test.YtelmlpjkpebcgaaM6
import Derived.Test.YtelmlpjkpebcgaaProg
set_option linter.unusedVariables false
set_option linter.unusedSimpArgs false
namespace Go.Sas
open Go.Proofs
set_option maxRecDepth 100000
def GoodT (P : Program) (G : TypeId → List AV → Prop) : List TypeId → List AV → Prop
  | [], us => us = []
  | t :: ts, us => ∃ p q, us = p ++ q ∧ p.length = P.cellsOf t ∧ G t p ∧ GoodT P G ts q
theorem goodL_T {P : Program} {G : TypeId → List AV → Prop} : ∀ {fs : List Field} {us : List AV}, GoodL P G fs us → GoodT P G (fs.map (·.type)) us
  | [], _, h => h
  | _ :: _, _, ⟨p, q, h1, h2, h3, h4⟩ => ⟨p, q, h1, h2, h3, goodL_T h4⟩
theorem good_int {P : Program} {d : Nat} {t : TypeId} {us : List AV} (hu : P.underlying t = some (.int .i64)) (h : Good P (d + 1) t us) : ∃ n, us = [I n] := by
  simp only [Good, hu] at h
  obtain ⟨n, h1, _⟩ := h
  exact ⟨n, h1⟩
theorem good_slice {α : Type} {f : α → AV} {P : Program} {d : Nat} {t e : TypeId} {sz : Nat} {us : List AV} (hu : P.underlying t = some (.slice e)) (hsz : P.cellsOf e = sz) (hf : ∀ cs, Good P d e cs → ∃ x, mkE P e cs = f x) (h : Good P (d + 1) t us) :
    ∃ l : List α, us = [.vs sz (l.map f)] ∧ l.length ≤ 9223372036854775807 := by
  simp only [Good, hu] at h
  obtain ⟨css, h1, h2, h3⟩ := h
  have key : ∀ css : List (List AV), (∀ cs ∈ css, Good P d e cs) → ∃ l : List α, css.map (mkE P e) = l.map f ∧ l.length = css.length := by
    intro css
    induction css with
    | nil => exact fun _ => ⟨[], rfl, rfl⟩
    | cons c css ih =>
      intro hg
      obtain ⟨x, hx⟩ := hf c (hg c (by simp))
      obtain ⟨l, hl, hn⟩ := ih fun cs hc => hg cs (by simp [hc])
      exact ⟨x :: l, by simp [hx, hl], by simp [hn]⟩
  obtain ⟨l, hl, hn⟩ := key css h3
  refine ⟨l, by rw [h1, hsz, hl], ?_⟩
  rw [hn]
  have : maxLen = 9223372036854775807 := by decide
  omega
theorem good_struct {P : Program} {d : Nat} {t : TypeId} {fs : Array Field} {ts : List TypeId} {us : List AV} (hu : P.underlying t = some (.struct fs)) (hts : fs.toList.map (·.type) = ts) (h : Good P (d + 1) t us) : GoodT P (Good P d) ts us := by
  simp only [Good, hu] at h
  rw [← hts]; exact goodL_T h
noncomputable def fsOf (t : TypeId) : Array Field := match Try.prog.underlying t with | some (.struct fs) => fs | _ => #[]
theorem uy3 : Try.prog.underlying 3 = some (.int .i64) := by kernel_rfl
theorem uy29 : Try.prog.underlying 29 = some (.slice 3) := by kernel_rfl
theorem mk_int {cs : List AV} {n : Int} {P : Program} {t : TypeId} (hu : P.underlying t = some (.int .i64)) (h : cs = [I n]) : mkE P t cs = I n := by simp [mkE, hu, h]
theorem zy3 : Try.prog.cellsOf 3 = 1 := by kernel_rfl
theorem in_ints {d : Nat} {us : List AV} (h : Good Try.prog (d + 2) 29 us) : ∃ l : List Int, us = [.vs 1 (l.map I)] ∧ l.length ≤ 9223372036854775807 :=
  good_slice (f := I) (e := 3) (sz := 1) uy29 zy3 (fun cs hc => by obtain ⟨n, hn⟩ := good_int uy3 hc; exact ⟨n, mk_int uy3 hn⟩) h
theorem mk_slice {P : Program} {t e : TypeId} {a : AV} (hu : P.underlying t = some (.slice e)) : mkE P t [a] = a := by simp [mkE, hu]
theorem mk_struct {P : Program} {t : TypeId} {fs : Array Field} {cs : List AV} (hu : P.underlying t = some (.struct fs)) : mkE P t cs = .agg cs := by simp [mkE, hu]
theorem uy23 : Try.prog.underlying 23 = some (.struct (fsOf 23)) := by kernel_rfl
theorem ty23 : (fsOf 23).toList.map (·.type) = [3, 3] := by kernel_rfl
theorem uy111 : Try.prog.underlying 111 = some (.struct (fsOf 111)) := by kernel_rfl
theorem ty111 : (fsOf 111).toList.map (·.type) = [3, 3] := by kernel_rfl
theorem uy24 : Try.prog.underlying 24 = some (.slice 111) := by kernel_rfl
theorem uy27 : Try.prog.underlying 27 = some (.slice 23) := by kernel_rfl
theorem uy28 : Try.prog.underlying 28 = some (.slice 46) := by kernel_rfl
theorem uy46 : Try.prog.underlying 46 = some (.struct (fsOf 46)) := by kernel_rfl
theorem ty46 : (fsOf 46).toList.map (·.type) = [3, 23, 3] := by kernel_rfl
theorem uy26 : Try.prog.underlying 26 = some (.struct (fsOf 26)) := by kernel_rfl
theorem ty26 : (fsOf 26).toList.map (·.type) = [23, 24, 24, 3, 3, 3, 3, 3, 3, 3] := by kernel_rfl
theorem zy23 : Try.prog.cellsOf 23 = 2 := by kernel_rfl
theorem zy111 : Try.prog.cellsOf 111 = 2 := by kernel_rfl
theorem zy46 : Try.prog.cellsOf 46 = 4 := by kernel_rfl
theorem T_int {d : Nat} {ts : List TypeId} {us : List AV} (h : GoodT Try.prog (Good Try.prog (d + 1)) (3 :: ts) us) : ∃ n q, us = I n :: q ∧ GoodT Try.prog (Good Try.prog (d + 1)) ts q := by
  obtain ⟨p, q, rfl, _, h1, h2⟩ := h
  obtain ⟨n, rfl⟩ := good_int uy3 h1
  exact ⟨n, q, rfl, h2⟩
theorem T_two {d : Nat} {us : List AV} (h : GoodT Try.prog (Good Try.prog (d + 1)) [3, 3] us) : ∃ x : Int × Int, us = [I x.1, I x.2] := by
  obtain ⟨a, q, rfl, h1⟩ := T_int h
  obtain ⟨b, q, rfl, h2⟩ := T_int h1
  simp only [GoodT] at h2; subst h2
  exact ⟨(a, b), rfl⟩
theorem in_span {d : Nat} {us : List AV} (h : Good Try.prog (d + 2) 23 us) : ∃ x : Int × Int, us = [I x.1, I x.2] := T_two (good_struct uy23 ty23 h)
theorem in_share {d : Nat} {us : List AV} (h : Good Try.prog (d + 2) 111 us) : ∃ x : Int × Int, us = [I x.1, I x.2] := T_two (good_struct uy111 ty111 h)
theorem in_shares {d : Nat} {us : List AV} (h : Good Try.prog (d + 3) 24 us) : ∃ l : List (Int × Int), us = [.vs 2 (l.map sp)] ∧ l.length ≤ 9223372036854775807 :=
  good_slice (f := sp) (e := 111) (sz := 2) uy24 zy111 (fun cs hc => by obtain ⟨x, hx⟩ := in_share hc; exact ⟨x, by rw [mk_struct uy111, hx]⟩) h
theorem in_spans {d : Nat} {us : List AV} (h : Good Try.prog (d + 3) 27 us) : ∃ l : List (Int × Int), us = [.vs 2 (l.map sp)] ∧ l.length ≤ 9223372036854775807 :=
  good_slice (f := sp) (e := 23) (sz := 2) uy27 zy23 (fun cs hc => by obtain ⟨x, hx⟩ := in_span hc; exact ⟨x, by rw [mk_struct uy23, hx]⟩) h
theorem T_span {d : Nat} {ts : List TypeId} {us : List AV} (h : GoodT Try.prog (Good Try.prog (d + 2)) (23 :: ts) us) : ∃ (x : Int × Int) (q : List AV), us = I x.1 :: I x.2 :: q ∧ GoodT Try.prog (Good Try.prog (d + 2)) ts q := by
  obtain ⟨p, q, rfl, _, h1, h2⟩ := h
  obtain ⟨x, rfl⟩ := in_span h1
  exact ⟨x, q, rfl, h2⟩
theorem T_shares {d : Nat} {ts : List TypeId} {us : List AV} (h : GoodT Try.prog (Good Try.prog (d + 3)) (24 :: ts) us) : ∃ (l : List (Int × Int)) (q : List AV), us = .vs 2 (l.map sp) :: q ∧ l.length ≤ 9223372036854775807 ∧ GoodT Try.prog (Good Try.prog (d + 3)) ts q := by
  obtain ⟨p, q, rfl, _, h1, h2⟩ := h
  obtain ⟨l, rfl, hl⟩ := in_shares h1
  exact ⟨l, q, rfl, hl, h2⟩
theorem in_load {d : Nat} {us : List AV} (h : Good Try.prog (d + 3) 46 us) : ∃ x : Load, us = [I x.at_, I x.w.1, I x.w.2, I x.st] := by
  obtain ⟨a, q, rfl, h1⟩ := T_int (good_struct uy46 ty46 h)
  obtain ⟨x, q, rfl, h2⟩ := T_span h1
  obtain ⟨b, q, rfl, h3⟩ := T_int h2
  simp only [GoodT] at h3; subst h3
  exact ⟨⟨a, x, b⟩, rfl⟩
theorem in_loads {d : Nat} {us : List AV} (h : Good Try.prog (d + 4) 28 us) : ∃ l : List Load, us = [.vs 4 (l.map ldV)] ∧ l.length ≤ 9223372036854775807 :=
  good_slice (f := ldV) (e := 46) (sz := 4) uy28 zy46 (fun cs hc => by obtain ⟨x, hx⟩ := in_load hc; exact ⟨x, by rw [mk_struct uy46, hx]⟩) h
theorem in_plate {d : Nat} {us : List AV} (h : Good Try.prog (d + 4) 26 us) : ∃ (p : Plate) (a b : Int) (xs ec : List AV) (ne ed gr lo hi sh wi : Int), mkE Try.prog 26 us = plV a b (.vs 2 xs) (.vs 2 ec) ne ed gr lo hi sh wi ∧ PlateIs p a b xs ec ne ed gr lo hi sh wi ∧ p.shares.length ≤ 9223372036854775807 ∧ p.creep.length ≤ 9223372036854775807 := by
  obtain ⟨x, q, rfl, h1⟩ := T_span (good_struct uy26 ty26 h)
  obtain ⟨sl, q, rfl, hsl, h2⟩ := T_shares h1
  obtain ⟨cl, q, rfl, hcl, h3⟩ := T_shares h2
  obtain ⟨n1, q, rfl, h4⟩ := T_int h3
  obtain ⟨n2, q, rfl, h5⟩ := T_int h4
  obtain ⟨n3, q, rfl, h6⟩ := T_int h5
  obtain ⟨n4, q, rfl, h7⟩ := T_int h6
  obtain ⟨n5, q, rfl, h8⟩ := T_int h7
  obtain ⟨n6, q, rfl, h9⟩ := T_int h8
  obtain ⟨n7, q, rfl, h10⟩ := T_int h9
  simp only [GoodT] at h10; subst h10
  exact ⟨⟨x, sl, cl, n1, n2, n3, n4, n5, n6, n7⟩, x.1, x.2, sl.map sp, cl.map sp, n1, n2, n3, n4, n5, n6, n7, mk_struct uy26, ⟨rfl, rfl, rfl, rfl, rfl, rfl, rfl, rfl, rfl, rfl⟩, hsl, hcl⟩
end Go.Sas
