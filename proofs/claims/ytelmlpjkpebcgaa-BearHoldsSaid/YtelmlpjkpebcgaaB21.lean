/-
The law of the verdicts on loads answers true, part 2.
Conditions: none.
-/
import Derived.Test.YtelmlpjkpebcgaaB20
set_option linter.unusedVariables false
set_option linter.unusedSimpArgs false
namespace Go.Sas
open Go.Proofs
set_option maxRecDepth 100000
set_option maxHeartbeats 8000000 in
theorem core3 (p : Plate) {a b : Int} {xs ec : List AV} {ne ed gr lo hi sh wi : Int} (hp : PlateIs p a b xs ec ne ed gr lo hi sh wi) (h1 : Big p.shares) (h2 : Big p.creep) (ice cr : List (Int × Int)) (l : List Load) (nums : List Int) (hi1 : BigL ice) (hc1 : BigL cr) (hl1 : BigL l) (hn1 : BigL nums) :
    ACalls Try.prog 3 [plV a b (.vs 2 xs) (.vs 2 ec) ne ed gr lo hi sh wi, .vs 2 (ice.map sp), .vs 2 (cr.map sp), .vs 4 (l.map ldV), .vs 1 (nums.map I)] [] fun r _ => r = B true := by
  obtain ⟨Kk, hKk⟩ : ∃ K : AV → AHeap → Prop, K = fun r _ => r = B true := ⟨_, rfl⟩
  rw [← hKk]
  have hk : ∀ H, Kk (B true) H := fun H => by rw [hKk]
  clear hKk
  obtain ⟨xi, hxi⟩ : ∃ ys, ys = ice.map sp := ⟨_, rfl⟩
  obtain ⟨xc, hxc⟩ : ∃ ys, ys = cr.map sp := ⟨_, rfl⟩
  obtain ⟨xl, hxl⟩ : ∃ ys, ys = l.map ldV := ⟨_, rfl⟩
  obtain ⟨xn, hxn⟩ : ∃ ys, ys = nums.map I := ⟨_, rfl⟩
  rw [← hxi, ← hxc, ← hxl, ← hxn]
  obtain ⟨A, hA⟩ : ∃ A, A = std := ⟨_, rfl⟩
  have hvl : A.vlen xl = iLen l.length := by subst hA; simp [std, hxl]
  refine go3 rfl (SGo_run hA ⟨[], [], (18, eBig) :: (19, eTrue) :: [], edl⟩ (.cons eBig_ok (.cons eTrue_ok .nil)) edl_ok 200 fun T TD hT hTD => ?_)
  cbv
  intro q
  cbv
  repeat' (first | exact hk _ | (split <;> cbv))
  all_goals
    rename_i hq60
    have hl60 : l.length ≤ 60 := by
      have hq60 : A.lt 60 (A.vlen xl) = false := hq60
      rw [hvl] at hq60
      subst hA
      simp only [std, iLt, iLen, decide_eq_false_iff_not] at hq60
      omega
    refine Exists.intro nums (And.intro ⟨hxn, hn1⟩ ?_)
    intro w1
    cbv
    refine Exists.intro () (And.intro trivial ?_)
    rintro w2 _ ⟨p2, a2, b2, xs2, ec2, ne2, ed2, gr2, lo2, hi2, sh2, wi2, rfl, hp2, hv2⟩
    cbv
    refine Exists.intro () (And.intro (by omega) ?_)
    rintro w3 _ ⟨beds, xb, rfl, hxb, hbl, hbd⟩
    have hvb : A.vlen xb = iLen beds.length := by subst hA; simp [std, hxb]
    have hb4 : 1 ≤ A.vlen xb ∧ A.vlen xb ≤ 1000 := by rw [hvb]; omega
    cbv
    refine Exists.intro () (And.intro (And.intro (by exact hb4) (by omega)) ?_)
    rintro w4 _ ⟨cr2, xc2, rfl, hxc2, hcl2, hcd2⟩
    cbv
    refine Exists.intro () (And.intro (And.intro (by exact hb4) (by omega)) ?_)
    rintro w5 _ ⟨l2, xl2, rfl, hxl2, hll2, hld2⟩
    cbv
    rw [hT]
    have hpl2 := checkS_ok hv2
    have hb21 : Big p2.shares := by have := hpl2.sh.len; unfold Big; omega
    have hb22 : Big p2.creep := by have := hpl2.cr.len; unfold Big; omega
    have hbb : BigL beds := by unfold BigL; unfold iLen at hbl; omega
    have hbc : BigL cr2 := by unfold BigL; unfold iLen at hcl2; omega
    have hbl2 : l2.length ≤ 60 := by unfold iLen at hll2; omega
    refine AGo_up 3 (fun _ => True) (fun _ i => [(10, B false), (16, .vs 11 [plV a b (.vs 2 xs) (.vs 2 ec) ne ed gr lo hi sh wi, plV a2 b2 (.vs 2 xs2) (.vs 2 ec2) ne2 ed2 gr2 lo2 hi2 sh2 wi2, plV a2 b2 (.vs 2 xs2) (.vs 2 ec2) ne2 ed2 gr2 lo2 hi2 sh2 wi2]),
      (17, .vs 1 [.vs 2 xi, .vs 2 xb, .vs 2 xi]), (18, .vs 1 [.vs 2 xc, .vs 2 xc2, .vs 2 xc]), (19, .vs 1 [.vs 4 xl, .vs 4 xl2, .vs 4 xl]), (20, I i)]) (fun _ => []) trivial ⟨rfl, rfl, rfl, rfl, rfl, rfl, trivial⟩ (.inr ⟨⟨_, rfl⟩, Nat.le_refl _, by simp [ltG, AV.lt, AV.ltL], trivial⟩) fun j i hij hj _ Bk hB => ?_
    have hL3 : A.vlen [plV a b (.vs 2 xs) (.vs 2 ec) ne ed gr lo hi sh wi, plV a2 b2 (.vs 2 xs2) (.vs 2 ec2) ne2 ed2 gr2 lo2 hi2 sh2 wi2, plV a2 b2 (.vs 2 xs2) (.vs 2 ec2) ne2 ed2 gr2 lo2 hi2 sh2 wi2] = iLen 3 := by subst hA; rfl
    have hlt : A.lt i (A.vlen [plV a b (.vs 2 xs) (.vs 2 ec) ne ed gr lo hi sh wi, plV a2 b2 (.vs 2 xs2) (.vs 2 ec2) ne2 ed2 gr2 lo2 hi2 sh2 wi2, plV a2 b2 (.vs 2 xs2) (.vs 2 ec2) ne2 ed2 gr2 lo2 hi2 sh2 wi2]) = decide (j < 3) := by rw [hL3]; subst hA hij; simp only [std, iLt, iLen, Int.ofNat_lt]
    have hadd : j < 3 → A.add .i64 i 1 = iLen (j + 1) := fun hj => by subst hA; exact add_one hij hj (by omega)
    refine SGo_run hA ⟨[], [], (19, eTrue) :: (25, eHolds) :: (26, eHolds) :: (27, eSame) :: [], []⟩ (.cons eTrue_ok (.cons (eHolds_ok p25) (.cons (eHolds_ok p26) (.cons eSame_ok .nil)))) .nil 200 fun T TD hT hTD => ?_
    cbv
    split <;> cbv
    · rename_i hk1
      have hk1 : j < 3 := by have := hlt.symm.trans hk1; simpa using this
      obtain ⟨pj, aj, bj, xsj, ecj, nej, edj, grj, loj, hij', shj, wij, hix11, hpj, hpj1, hpj2⟩ : ∃ pj aj bj xsj ecj nej edj grj loj hij shj wij, A.ix 11 11 [plV a b (.vs 2 xs) (.vs 2 ec) ne ed gr lo hi sh wi, plV a2 b2 (.vs 2 xs2) (.vs 2 ec2) ne2 ed2 gr2 lo2 hi2 sh2 wi2, plV a2 b2 (.vs 2 xs2) (.vs 2 ec2) ne2 ed2 gr2 lo2 hi2 sh2 wi2] i [I aj, I bj, .vs 2 xsj, .vs 2 ecj, I nej, I edj, I grj, I loj, I hij, I shj, I wij] ∧
          PlateIs pj aj bj xsj ecj nej edj grj loj hij shj wij ∧ Big pj.shares ∧ Big pj.creep := by
        subst hA hij
        rcases (by omega : j = 0 ∨ j = 1 ∨ j = 2) with rfl | rfl | rfl
        · exact ⟨p, a, b, xs, ec, ne, ed, gr, lo, hi, sh, wi, ⟨rfl, by simp [iLen], _, rfl, rfl⟩, hp, h1, h2⟩
        · exact ⟨p2, a2, b2, xs2, ec2, ne2, ed2, gr2, lo2, hi2, sh2, wi2, ⟨rfl, by simp [iLen], _, rfl, rfl⟩, hp2, hb21, hb22⟩
        · exact ⟨p2, a2, b2, xs2, ec2, ne2, ed2, gr2, lo2, hi2, sh2, wi2, ⟨rfl, by simp [iLen], _, rfl, rfl⟩, hp2, hb21, hb22⟩
      obtain ⟨icej, xij, hixi, hxij, hbij⟩ : ∃ (icej : List (Int × Int)) (xij : List AV), A.ix 1 1 [.vs 2 xi, .vs 2 xb, .vs 2 xi] i [.vs 2 xij] ∧ xij = icej.map sp ∧ BigL icej := by
        subst hA hij
        rcases (by omega : j = 0 ∨ j = 1 ∨ j = 2) with rfl | rfl | rfl
        · exact ⟨ice, xi, ⟨rfl, by simp [iLen], _, rfl, rfl⟩, hxi, hi1⟩
        · exact ⟨beds, xb, ⟨rfl, by simp [iLen], _, rfl, rfl⟩, hxb, hbb⟩
        · exact ⟨ice, xi, ⟨rfl, by simp [iLen], _, rfl, rfl⟩, hxi, hi1⟩
      obtain ⟨crj, xcj, hixc, hxcj, hbcj⟩ : ∃ (crj : List (Int × Int)) (xcj : List AV), A.ix 1 1 [.vs 2 xc, .vs 2 xc2, .vs 2 xc] i [.vs 2 xcj] ∧ xcj = crj.map sp ∧ BigL crj := by
        subst hA hij
        rcases (by omega : j = 0 ∨ j = 1 ∨ j = 2) with rfl | rfl | rfl
        · exact ⟨cr, xc, ⟨rfl, by simp [iLen], _, rfl, rfl⟩, hxc, hc1⟩
        · exact ⟨cr2, xc2, ⟨rfl, by simp [iLen], _, rfl, rfl⟩, hxc2, hbc⟩
        · exact ⟨cr, xc, ⟨rfl, by simp [iLen], _, rfl, rfl⟩, hxc, hc1⟩
      obtain ⟨lj, xlj, hixl, hxlj, hblj⟩ : ∃ (lj : List Load) (xlj : List AV), A.ix 1 1 [.vs 4 xl, .vs 4 xl2, .vs 4 xl] i [.vs 4 xlj] ∧ xlj = lj.map ldV ∧ lj.length ≤ 60 := by
        subst hA hij
        rcases (by omega : j = 0 ∨ j = 1 ∨ j = 2) with rfl | rfl | rfl
        · exact ⟨l, xl, ⟨rfl, by simp [iLen], _, rfl, rfl⟩, hxl, hl60⟩
        · exact ⟨l2, xl2, ⟨rfl, by simp [iLen], _, rfl, rfl⟩, hxl2, hbl2⟩
        · exact ⟨l, xl, ⟨rfl, by simp [iLen], _, rfl, rfl⟩, hxl, hl60⟩
      have hfz : A.fz 4 4 32 xlj := by subst hA hxlj; exact ⟨rfl, by simp; omega, (Elems_ld lj).2⟩
      have hljb : BigL lj := by unfold BigL; omega
      refine Exists.intro _ (And.intro hixl ?_)
      cbv
      refine And.intro hfz ?_
      refine Exists.intro _ (And.intro hix11 ?_)
      cbv
      refine Exists.intro _ (And.intro hixi ?_)
      cbv
      refine Exists.intro _ (And.intro hixc ?_)
      cbv
      refine Exists.intro pj (Exists.intro icej (Exists.intro crj (Exists.intro lj (And.intro hpj (And.intro hpj1 (And.intro hpj2 (And.intro ⟨hxij, hbij⟩ (And.intro ⟨hxcj, hbcj⟩ (And.intro ⟨hxlj, hljb⟩ ?_)))))))))
      rintro r e zs hre hzs
      cbv
      refine Exists.intro _ (And.intro hix11 ?_)
      cbv
      refine Exists.intro _ (And.intro hixi ?_)
      cbv
      refine Exists.intro _ (And.intro hixc ?_)
      cbv
      refine Exists.intro _ (And.intro hixl ?_)
      cbv
      refine Exists.intro pj (Exists.intro icej (Exists.intro crj (Exists.intro lj (And.intro hpj (And.intro hpj1 (And.intro hpj2 (And.intro ⟨hxij, hbij⟩ (And.intro ⟨hxcj, hbcj⟩ (And.intro ⟨hxlj, hljb⟩ ?_)))))))))
      rintro r' e' zs' hre' hzs'
      obtain ⟨rfl, rfl⟩ := Prod.mk.inj (hre'.trans hre.symm)
      have hrl : BigL r' := by
        have : r' = (holdsS pj icej crj lj).1 := by rw [← hre']
        rw [this]; unfold holdsS BigL; split
        · simp
        · split
          · simp
          · simp only [List.length_map]; omega
      have hne : A.ne e' e' = false := by subst hA; simp [std, iNe]
      cbv
      split <;> cbv
      · rename_i hq; exact Bool.noConfusion (hq.symm.trans hne)
      refine Exists.intro r' (Exists.intro r' (And.intro ⟨hzs, hrl⟩ (And.intro ⟨hzs', hrl⟩ ?_)))
      rintro _ rfl
      rw [decide_eq_true (Eq.refl r')]
      have hnt : A.bnot true = false := by subst hA; rfl
      cbv
      split <;> cbv
      · rename_i hq; exact Bool.noConfusion (hq.symm.trans hnt)
      rw [hT]
      have hloop : ∀ (e0 : Env) (H0 : AHeap), True := fun _ _ => trivial
      refine AGo_up lj.length (fun _ => True) (fun _ q => [(10, B false), (16, .vs 11 [plV a b (.vs 2 xs) (.vs 2 ec) ne ed gr lo hi sh wi, plV a2 b2 (.vs 2 xs2) (.vs 2 ec2) ne2 ed2 gr2 lo2 hi2 sh2 wi2, plV a2 b2 (.vs 2 xs2) (.vs 2 ec2) ne2 ed2 gr2 lo2 hi2 sh2 wi2]),
        (17, .vs 1 [.vs 2 xi, .vs 2 xb, .vs 2 xi]), (18, .vs 1 [.vs 2 xc, .vs 2 xc2, .vs 2 xc]), (19, .vs 1 [.vs 4 xl, .vs 4 xl2, .vs 4 xl]), (20, I i), (21, .vs 4 xlj), (26, I q)]) (fun _ => []) trivial ⟨rfl, rfl, rfl, rfl, rfl, rfl, rfl, rfl, trivial⟩ (.inr ⟨⟨_, rfl⟩, Nat.le_refl _, by simp [ltG, AV.lt, AV.ltL], trivial⟩) fun k q hq hkl _ Bk' hB' => ?_
      have hlt' : A.lt q (A.vlen xlj) = decide (k < lj.length) := by subst hA; exact lt_len (by simp [hxlj]) hq
      have hadd' : k < lj.length → A.add .i64 q 1 = iLen (k + 1) := fun hk => by subst hA; exact add_one hq hk (by omega)
      refine SGo_run hA ⟨[], [], [], []⟩ .nil .nil 200 fun T TD hT hTD => ?_
      cbv
      split <;> cbv
      · rename_i hk2
        have hk2 : k < lj.length := by have := hlt'.symm.trans hk2; simpa using this
        obtain ⟨⟨x1, ⟨x2, x3⟩, x4⟩, hx⟩ : ∃ x, lj[k]? = some x := ⟨_, List.getElem?_eq_getElem hk2⟩
        have hix : A.ix 4 4 xlj q [I x1, I x2, I x3, I x4] := by subst hA; exact ix_map hxlj hq hx rfl
        have hee : ∀ n, A.eq n n = true := by subst hA; intro n; simp [std, iEq]
        have hbb : A.band true true = true := by subst hA; rfl
        refine Exists.intro _ (And.intro hix ?_)
        cbv
        refine Exists.intro _ (And.intro hixl ?_)
        cbv
        refine Exists.intro _ (And.intro hix ?_)
        cbv
        split <;> cbv
        · rename_i hz
          exfalso
          clear hadd' hlt' hix hixl hfz hix11 hixi hixc hee hbb hne hnt hadd hlt hL3 hB hB' hvl
          subst hA
          simp [std, iEq] at hz
        · exact hB' _ _ hk2 trivial ⟨rfl, rfl, rfl, rfl, rfl, rfl, rfl, congrArg I (hadd' hk2), trivial⟩ (.inl rfl)
      · exact hB _ _ hk1 trivial ⟨rfl, rfl, rfl, rfl, rfl, congrArg I (hadd hk1), trivial⟩ (.inl rfl)
    · exact hk _
end Go.Sas
