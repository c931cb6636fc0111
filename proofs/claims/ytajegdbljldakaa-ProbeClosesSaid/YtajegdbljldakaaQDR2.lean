/-
What comes in, by the types of the chapter on probes, arrays too.
Conditions: none.
-/
import Derived.Test.YtajegdbljldakaaPN
import Derived.Test.YtajegdbljldakaaPQ
import Derived.Test.YtajegdbljldakaaQAbs28
import Derived.Test.YtajegdbljldakaaProg
set_option linter.unusedVariables false
set_option linter.unusedSimpArgs false
namespace Go.Sas
open Go.Proofs
set_option maxRecDepth 100000
def GoodTA (P : Program) (G : TypeId → List AV → Prop) : List TypeId → List AV → Prop
  | [], us => us = []
  | t :: ts, us => ∃ p q, us = p ++ q ∧ p.length = P.cellsOf t ∧ G t p ∧ GoodTA P G ts q
theorem goodL_TA {P : Program} {G : TypeId → List AV → Prop} : ∀ {fs : List Field} {us : List AV}, GoodL P G fs us → GoodTA P G (fs.map (·.type)) us
  | [], _, h => h
  | _ :: _, _, ⟨p, q, h1, h2, h3, h4⟩ => ⟨p, q, h1, h2, h3, goodL_TA h4⟩
theorem good_intA {P : Program} {d : Nat} {t : TypeId} {us : List AV} (hu : P.underlying t = some (.int .i64)) (h : GoodA P (d + 1) t us) : ∃ n, us = [I n] := by
  simp only [GoodA, hu] at h
  obtain ⟨n, h1, _⟩ := h
  exact ⟨n, h1⟩
theorem good_intBA {P : Program} {d : Nat} {t : TypeId} {us : List AV} (hu : P.underlying t = some (.int .i64)) (h : GoodA P (d + 1) t us) : ∃ n : Int, us = [I n] ∧ -9223372036854775808 ≤ n ∧ n ≤ 9223372036854775807 := by
  simp only [GoodA, hu] at h
  obtain ⟨n, h1, h2⟩ := h
  refine ⟨n, h1, ?_⟩
  have e1 : IntKind.i64.min = -9223372036854775808 := by decide
  have e2 : IntKind.i64.max = 9223372036854775807 := by decide
  omega
theorem good_sliceA {α : Type} {f : α → AV} {P : Program} {d : Nat} {t e : TypeId} {sz : Nat} {us : List AV} (hu : P.underlying t = some (.slice e)) (hsz : P.cellsOf e = sz) (hf : ∀ cs, GoodA P d e cs → ∃ x, mkA P e cs = f x) (h : GoodA P (d + 1) t us) :
    ∃ l : List α, us = [.vs sz (l.map f)] ∧ l.length ≤ 9223372036854775807 := by
  simp only [GoodA, hu] at h
  obtain ⟨css, h1, h2, h3⟩ := h
  have key : ∀ css : List (List AV), (∀ cs ∈ css, GoodA P d e cs) → ∃ l : List α, css.map (mkA P e) = l.map f ∧ l.length = css.length := by
    intro css
    induction css with
    | nil => exact fun _ => ⟨[], rfl, rfl⟩
    | cons c css ih =>
      intro hg
      obtain ⟨x, hx⟩ := hf c (hg c (by simp))
      obtain ⟨l, hl, hn⟩ := ih fun cs hc => hg cs (by simp [hc])
      exact ⟨x :: l, by simp [hx, hl], by simp [hn]⟩
  obtain ⟨l, hl, hn⟩ := key css h3
  refine ⟨l, by rw [h1, hsz, hl], ?_⟩
  rw [hn]
  have : maxLen = 9223372036854775807 := by decide
  omega
theorem good_structA {P : Program} {d : Nat} {t : TypeId} {fs : Array Field} {ts : List TypeId} {us : List AV} (hu : P.underlying t = some (.struct fs)) (hts : fs.toList.map (·.type) = ts) (h : GoodA P (d + 1) t us) : GoodTA P (GoodA P d) ts us := by
  simp only [GoodA, hu] at h
  rw [← hts]; exact goodL_TA h
noncomputable def fsOfA (t : TypeId) : Array Field := match Try.prog.underlying t with | some (.struct fs) => fs | _ => #[]
theorem mk_intA {cs : List AV} {n : Int} {P : Program} {t : TypeId} (hu : P.underlying t = some (.int .i64)) (h : cs = [I n]) : mkA P t cs = I n := by simp [mkA, hu, h]
theorem mk_sliceA {P : Program} {t e : TypeId} {a : AV} (hu : P.underlying t = some (.slice e)) : mkA P t [a] = a := by simp [mkA, hu]
theorem mk_structA {P : Program} {t : TypeId} {fs : Array Field} {cs : List AV} (hu : P.underlying t = some (.struct fs)) : mkA P t cs = .agg cs := by simp [mkA, hu]
theorem uy3A : Try.prog.underlying 3 = some (.int .i64) := by kernel_rfl
theorem uy22A : Try.prog.underlying 22 = some (.slice 3) := by kernel_rfl
theorem zy3A : Try.prog.cellsOf 3 = 1 := by kernel_rfl
theorem in_intsA {d : Nat} {us : List AV} (h : GoodA Try.prog (d + 2) 22 us) : ∃ l : List Int, us = [.vs 1 (l.map I)] ∧ l.length ≤ 9223372036854775807 :=
  good_sliceA (f := I) (e := 3) (sz := 1) uy22A zy3A (fun cs hc => by obtain ⟨n, hn⟩ := good_intA uy3A hc; exact ⟨n, mk_intA uy3A hn⟩) h
theorem T_intA {d : Nat} {ts : List TypeId} {us : List AV} (h : GoodTA Try.prog (GoodA Try.prog (d + 1)) (3 :: ts) us) : ∃ n q, us = I n :: q ∧ GoodTA Try.prog (GoodA Try.prog (d + 1)) ts q := by
  obtain ⟨p, q, rfl, _, h1, h2⟩ := h
  obtain ⟨n, rfl⟩ := good_intA uy3A h1
  exact ⟨n, q, rfl, h2⟩
theorem uy26A : Try.prog.underlying 26 = some (.array 3 3) := by kernel_rfl
theorem in_arr3A {d : Nat} {us : List AV} (h : GoodA Try.prog (d + 2) 26 us) : ∃ a b c : Int, us = [I a, I b, I c] := by
  simp only [GoodA, uy26A] at h
  obtain ⟨css, rfl, h1, h2⟩ := h
  match css, h1 with
  | [x, y, z], _ =>
    have g : ∀ cs ∈ [x, y, z], ∃ n, cs = [I n] := fun cs hc => good_intA (d := d) uy3A (by have := (h2 cs hc).2; simpa only [GoodA, uy3A] using this)
    obtain ⟨a, rfl⟩ := g x (by simp)
    obtain ⟨b, rfl⟩ := g y (by simp)
    obtain ⟨c, rfl⟩ := g z (by simp)
    exact ⟨a, b, c, rfl⟩
theorem uy122A : Try.prog.underlying 122 = some (.struct (fsOfA 122)) := by kernel_rfl
theorem ty122A : (fsOfA 122).toList.map (·.type) = [3, 3, 3, 3, 3] := by kernel_rfl
theorem zy122A : Try.prog.cellsOf 122 = 5 := by kernel_rfl
theorem uy25A : Try.prog.underlying 25 = some (.slice 122) := by kernel_rfl
theorem in_rchA {d : Nat} {us : List AV} (h : GoodA Try.prog (d + 2) 122 us) : ∃ x : Rch, us = [I x.lg, I x.sl, I x.th, I x.gr, I x.ev] := by
  obtain ⟨a, q, rfl, h1⟩ := T_intA (good_structA uy122A ty122A h)
  obtain ⟨b, q, rfl, h2⟩ := T_intA h1
  obtain ⟨c, q, rfl, h3⟩ := T_intA h2
  obtain ⟨e, q, rfl, h4⟩ := T_intA h3
  obtain ⟨f, q, rfl, h5⟩ := T_intA h4
  simp only [GoodTA] at h5; subst h5
  exact ⟨⟨a, b, c, e, f⟩, rfl⟩
theorem in_rchsA {d : Nat} {us : List AV} (h : GoodA Try.prog (d + 3) 25 us) : ∃ l : List Rch, us = [.vs 5 (l.map rcV)] ∧ l.length ≤ 9223372036854775807 :=
  good_sliceA (f := rcV) (e := 122) (sz := 5) uy25A zy122A (fun cs hc => by obtain ⟨x, hx⟩ := in_rchA hc; exact ⟨x, by rw [mk_structA uy122A, hx]⟩) h
theorem uy28A : Try.prog.underlying 28 = some (.struct (fsOfA 28)) := by kernel_rfl
theorem ty28A : (fsOfA 28).toList.map (·.type) = [25, 26] := by kernel_rfl
theorem in_surveyA {d : Nat} {us : List AV} (h : GoodA Try.prog (d + 4) 28 us) : ∃ (rs : List Rch) (a b c : Int), mkA Try.prog 28 us = svV (.vs 5 (rs.map rcV)) a b c ∧ rs.length ≤ 9223372036854775807 := by
  obtain ⟨p, q, rfl, _, h1, h2⟩ := good_structA uy28A ty28A h
  obtain ⟨rs, rfl, hl⟩ := in_rchsA h1
  obtain ⟨p2, q2, rfl, _, h3, h4⟩ := h2
  obtain ⟨a, b, c, rfl⟩ := in_arr3A h3
  simp only [GoodTA] at h4; subst h4
  exact ⟨rs, a, b, c, mk_structA uy28A, hl⟩
theorem uy37A : Try.prog.underlying 37 = some (.struct (fsOfA 37)) := by kernel_rfl
theorem ty37A : (fsOfA 37).toList.map (·.type) = [3, 3] := by kernel_rfl
theorem uy39A : Try.prog.underlying 39 = some (.struct (fsOfA 39)) := by kernel_rfl
theorem ty39A : (fsOfA 39).toList.map (·.type) = [3, 3, 3, 37] := by kernel_rfl
theorem zy39A : Try.prog.cellsOf 39 = 5 := by kernel_rfl
theorem uy30A : Try.prog.underlying 30 = some (.slice 39) := by kernel_rfl
theorem in_lookA {d : Nat} {us : List AV} (h : GoodA Try.prog (d + 3) 39 us) : ∃ x : Lk, us = [I x.k, I x.p, I x.h, I x.lo, I x.hi] := by
  obtain ⟨a, q, rfl, h1⟩ := T_intA (good_structA uy39A ty39A h)
  obtain ⟨b, q, rfl, h2⟩ := T_intA h1
  obtain ⟨c, q, rfl, h3⟩ := T_intA h2
  obtain ⟨p, q, rfl, _, h4, h5⟩ := h3
  obtain ⟨e, q2, rfl, h6⟩ := T_intA (good_structA uy37A ty37A h4)
  obtain ⟨f, q2, rfl, h7⟩ := T_intA h6
  simp only [GoodTA] at h5 h7; subst h5 h7
  exact ⟨⟨a, b, c, e, f⟩, rfl⟩
theorem in_looksA {d : Nat} {us : List AV} (h : GoodA Try.prog (d + 4) 30 us) : ∃ l : List Lk, us = [.vs 5 (l.map lkV)] ∧ l.length ≤ 9223372036854775807 :=
  good_sliceA (f := lkV) (e := 39) (sz := 5) uy30A zy39A (fun cs hc => by obtain ⟨x, hx⟩ := in_lookA hc; exact ⟨x, by rw [mk_structA uy39A, hx]⟩) h
theorem uy61A : Try.prog.underlying 61 = some (.struct (fsOfA 61)) := by kernel_rfl
theorem ty61A : (fsOfA 61).toList.map (·.type) = [3, 3, 3, 3, 3] := by kernel_rfl
theorem zy61A : Try.prog.cellsOf 61 = 5 := by kernel_rfl
theorem uy33A : Try.prog.underlying 33 = some (.slice 61) := by kernel_rfl
theorem in_markA {d : Nat} {us : List AV} (h : GoodA Try.prog (d + 2) 61 us) : ∃ x : Mrk, us = [I x.k, I x.f, I x.t, I x.h, I x.s] := by
  obtain ⟨a, q, rfl, h1⟩ := T_intA (good_structA uy61A ty61A h)
  obtain ⟨b, q, rfl, h2⟩ := T_intA h1
  obtain ⟨c, q, rfl, h3⟩ := T_intA h2
  obtain ⟨e, q, rfl, h4⟩ := T_intA h3
  obtain ⟨f, q, rfl, h5⟩ := T_intA h4
  simp only [GoodTA] at h5; subst h5
  exact ⟨⟨a, b, c, e, f⟩, rfl⟩
theorem in_marksA {d : Nat} {us : List AV} (h : GoodA Try.prog (d + 3) 33 us) : ∃ l : List Mrk, us = [.vs 5 (l.map mkV)] ∧ l.length ≤ 9223372036854775807 :=
  good_sliceA (f := mkV) (e := 61) (sz := 5) uy33A zy61A (fun cs hc => by obtain ⟨x, hx⟩ := in_markA hc; exact ⟨x, by rw [mk_structA uy61A, hx]⟩) h
end Go.Sas
