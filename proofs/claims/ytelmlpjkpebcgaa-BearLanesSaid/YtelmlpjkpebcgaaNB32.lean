/-
The law of the verdicts on one load at all places answers true.
Conditions: none.
-/
import Derived.Test.YtelmlpjkpebcgaaM12
import Derived.Test.YtelmlpjkpebcgaaM16
import Derived.Test.YtelmlpjkpebcgaaNT6
set_option linter.unusedVariables false
set_option linter.unusedSimpArgs false
namespace Go.Sas
open Go.Proofs
set_option maxRecDepth 100000
theorem laneS_len {p : Plate} {ice cr : List (Int × Int)} {w : Int × Int} (h : BigL ice) : BigL (laneS p ice cr w).1 := by
  unfold laneS BigL; split
  · simp
  · split
    · simp
    · simpa using h
set_option maxHeartbeats 8000000 in
theorem core8 (p : Plate) {a b : Int} {xs ec : List AV} {ne ed gr lo hi sh wi : Int} (hp : PlateIs p a b xs ec ne ed gr lo hi sh wi) (h1 : Big p.shares) (h2 : Big p.creep) (ice cr : List (Int × Int)) (v1 v2 : Int) (nums : List Int) (hi1 : BigL ice) (hc1 : BigL cr) (hn1 : BigL nums) :
    ACalls Try.prog 8 [plV a b (.vs 2 xs) (.vs 2 ec) ne ed gr lo hi sh wi, .vs 2 (ice.map sp), .vs 2 (cr.map sp), .agg [I v1, I v2], .vs 1 (nums.map I)] [] fun r _ => r = B true := by
  obtain ⟨Kk, hKk⟩ : ∃ K : AV → AHeap → Prop, K = fun r _ => r = B true := ⟨_, rfl⟩
  rw [← hKk]
  have hk : ∀ H, Kk (B true) H := fun H => by rw [hKk]
  clear hKk
  obtain ⟨xi, hxi⟩ : ∃ ys, ys = ice.map sp := ⟨_, rfl⟩
  obtain ⟨xc, hxc⟩ : ∃ ys, ys = cr.map sp := ⟨_, rfl⟩
  obtain ⟨xn, hxn⟩ : ∃ ys, ys = nums.map I := ⟨_, rfl⟩
  rw [← hxi, ← hxc, ← hxn]
  obtain ⟨A, hA⟩ : ∃ A, A = std := ⟨_, rfl⟩
  refine go8 rfl (SGo_run hA ⟨[], [], (18, eBig) :: (19, eTrue) :: [], edl⟩ (.cons eBig_ok (.cons eTrue_ok .nil)) edl_ok 200 fun T TD hT hTD => ?_)
  cbv
  intro q
  cbv
  repeat' (first | exact hk _ | (split <;> cbv))
  all_goals
    refine Exists.intro nums (And.intro ⟨hxn, hn1⟩ ?_)
    intro w1
    cbv
    refine Exists.intro () (And.intro trivial ?_)
    rintro w2 _ ⟨p2, a2, b2, xs2, ec2, ne2, ed2, gr2, lo2, hi2, sh2, wi2, rfl, hp2, hv2⟩
    cbv
    refine Exists.intro () (And.intro (by omega) ?_)
    rintro w3 _ ⟨beds, xb, rfl, hxb, hbl, hbd⟩
    have hvb : A.vlen xb = iLen beds.length := by subst hA; simp [std, hxb]
    have hb4 : 1 ≤ A.vlen xb ∧ A.vlen xb ≤ 1000 := by rw [hvb]; omega
    cbv
    refine Exists.intro () (And.intro (And.intro (by exact hb4) (by omega)) ?_)
    rintro w4 _ ⟨cr2, xc2, rfl, hxc2, hcl2, hcd2⟩
    cbv
    refine Exists.intro () (And.intro ⟨by simp, by simp, by exact AllI_lits (l := [10000, 40000])⟩ ?_)
    rintro w5 _ ⟨kq, rfl, hkq⟩
    simp at hkq
    cbv
    refine Exists.intro () (And.intro (by omega) ?_)
    rintro w6 _ ⟨u, v, rfl, u1, u2, u3⟩
    cbv
    rw [hT]
    have hpl2 := checkS_ok hv2
    have hb21 : Big p2.shares := by have := hpl2.sh.len; unfold Big; omega
    have hb22 : Big p2.creep := by have := hpl2.cr.len; unfold Big; omega
    have hbb : BigL beds := by unfold BigL; unfold iLen at hbl; omega
    have hbc : BigL cr2 := by unfold BigL; unfold iLen at hcl2; omega
    refine AGo_up 3 (fun _ => True) (fun _ i => [(10, B false), (16, .vs 11 [plV a b (.vs 2 xs) (.vs 2 ec) ne ed gr lo hi sh wi, plV a2 b2 (.vs 2 xs2) (.vs 2 ec2) ne2 ed2 gr2 lo2 hi2 sh2 wi2, plV a2 b2 (.vs 2 xs2) (.vs 2 ec2) ne2 ed2 gr2 lo2 hi2 sh2 wi2]),
      (17, .vs 1 [.vs 2 xi, .vs 2 xb, .vs 2 xb]), (18, .vs 1 [.vs 2 xc, .vs 2 xc2, .vs 2 xc2]), (19, .vs 2 [.agg [I v1, I v2], .agg [I u, I v], .agg [I v1, I v2]]), (20, I i)]) (fun _ => []) trivial ⟨rfl, rfl, rfl, rfl, rfl, rfl, trivial⟩ (.inr ⟨⟨_, rfl⟩, Nat.le_refl _, by simp [ltG, AV.lt, AV.ltL], trivial⟩) fun j i hij hj _ Bk hB => ?_
    have hL3 : A.vlen [plV a b (.vs 2 xs) (.vs 2 ec) ne ed gr lo hi sh wi, plV a2 b2 (.vs 2 xs2) (.vs 2 ec2) ne2 ed2 gr2 lo2 hi2 sh2 wi2, plV a2 b2 (.vs 2 xs2) (.vs 2 ec2) ne2 ed2 gr2 lo2 hi2 sh2 wi2] = iLen 3 := by subst hA; rfl
    have hlt : A.lt i (A.vlen [plV a b (.vs 2 xs) (.vs 2 ec) ne ed gr lo hi sh wi, plV a2 b2 (.vs 2 xs2) (.vs 2 ec2) ne2 ed2 gr2 lo2 hi2 sh2 wi2, plV a2 b2 (.vs 2 xs2) (.vs 2 ec2) ne2 ed2 gr2 lo2 hi2 sh2 wi2]) = decide (j < 3) := by rw [hL3]; subst hA hij; simp only [std, iLt, iLen, Int.ofNat_lt]
    have hadd : j < 3 → A.add .i64 i 1 = iLen (j + 1) := fun hj => by subst hA; exact add_one hij hj (by omega)
    refine SGo_run hA ⟨[], [], (19, eTrue) :: (42, eLane) :: (43, eLane) :: (27, eSame) :: [], []⟩ (.cons eTrue_ok (.cons (eLane_ok p42) (.cons (eLane_ok p43) (.cons eSame_ok .nil)))) .nil 200 fun T TD hT hTD => ?_
    cbv
    split <;> cbv
    · rename_i hk1
      have hk1 : j < 3 := by have := hlt.symm.trans hk1; simpa using this
      obtain ⟨pj, aj, bj, xsj, ecj, nej, edj, grj, loj, hij', shj, wij, icej, xij, crj, xcj, y1, y2, hix11, hpj, hpj1, hpj2, hixi, hxij, hbij, hixc, hxcj, hbcj, hixw⟩ : ∃ pj aj bj xsj ecj nej edj grj loj hij shj wij icej xij crj xcj y1 y2, A.ix 11 11 [plV a b (.vs 2 xs) (.vs 2 ec) ne ed gr lo hi sh wi, plV a2 b2 (.vs 2 xs2) (.vs 2 ec2) ne2 ed2 gr2 lo2 hi2 sh2 wi2, plV a2 b2 (.vs 2 xs2) (.vs 2 ec2) ne2 ed2 gr2 lo2 hi2 sh2 wi2] i [I aj, I bj, .vs 2 xsj, .vs 2 ecj, I nej, I edj, I grj, I loj, I hij, I shj, I wij] ∧
          PlateIs pj aj bj xsj ecj nej edj grj loj hij shj wij ∧ Big pj.shares ∧ Big pj.creep ∧ A.ix 1 1 [.vs 2 xi, .vs 2 xb, .vs 2 xb] i [.vs 2 xij] ∧ xij = icej.map sp ∧ BigL icej ∧ A.ix 1 1 [.vs 2 xc, .vs 2 xc2, .vs 2 xc2] i [.vs 2 xcj] ∧ xcj = crj.map sp ∧ BigL crj ∧
          A.ix 2 2 [.agg [I v1, I v2], .agg [I u, I v], .agg [I v1, I v2]] i [I y1, I y2] := by
        subst hA hij
        rcases (by omega : j = 0 ∨ j = 1 ∨ j = 2) with rfl | rfl | rfl
        · exact ⟨p, a, b, xs, ec, ne, ed, gr, lo, hi, sh, wi, ice, xi, cr, xc, v1, v2, ⟨rfl, by simp [iLen], _, rfl, rfl⟩, hp, h1, h2, ⟨rfl, by simp [iLen], _, rfl, rfl⟩, hxi, hi1, ⟨rfl, by simp [iLen], _, rfl, rfl⟩, hxc, hc1, ⟨rfl, by simp [iLen], _, rfl, rfl⟩⟩
        · exact ⟨p2, a2, b2, xs2, ec2, ne2, ed2, gr2, lo2, hi2, sh2, wi2, beds, xb, cr2, xc2, u, v, ⟨rfl, by simp [iLen], _, rfl, rfl⟩, hp2, hb21, hb22, ⟨rfl, by simp [iLen], _, rfl, rfl⟩, hxb, hbb, ⟨rfl, by simp [iLen], _, rfl, rfl⟩, hxc2, hbc, ⟨rfl, by simp [iLen], _, rfl, rfl⟩⟩
        · exact ⟨p2, a2, b2, xs2, ec2, ne2, ed2, gr2, lo2, hi2, sh2, wi2, beds, xb, cr2, xc2, v1, v2, ⟨rfl, by simp [iLen], _, rfl, rfl⟩, hp2, hb21, hb22, ⟨rfl, by simp [iLen], _, rfl, rfl⟩, hxb, hbb, ⟨rfl, by simp [iLen], _, rfl, rfl⟩, hxc2, hbc, ⟨rfl, by simp [iLen], _, rfl, rfl⟩⟩
      refine Exists.intro _ (And.intro hix11 ?_)
      cbv
      refine Exists.intro _ (And.intro hixi ?_)
      cbv
      refine Exists.intro _ (And.intro hixc ?_)
      cbv
      refine Exists.intro _ (And.intro hixw ?_)
      cbv
      refine Exists.intro pj (Exists.intro icej (Exists.intro crj (And.intro hpj (And.intro hpj1 (And.intro hpj2 (And.intro ⟨hxij, hbij⟩ (And.intro ⟨hxcj, hbcj⟩ ?_)))))))
      rintro r e zs hre hzs
      cbv
      refine Exists.intro _ (And.intro hix11 ?_)
      cbv
      refine Exists.intro _ (And.intro hixi ?_)
      cbv
      refine Exists.intro _ (And.intro hixc ?_)
      cbv
      refine Exists.intro _ (And.intro hixw ?_)
      cbv
      refine Exists.intro pj (Exists.intro icej (Exists.intro crj (And.intro hpj (And.intro hpj1 (And.intro hpj2 (And.intro ⟨hxij, hbij⟩ (And.intro ⟨hxcj, hbcj⟩ ?_)))))))
      rintro r' e' zs' hre' hzs'
      obtain ⟨rfl, rfl⟩ := Prod.mk.inj (hre'.trans hre.symm)
      have hrl : BigL r' := by
        have : r' = (laneS pj icej crj (y1, y2)).1 := by rw [← hre']
        rw [this]; exact laneS_len hbij
      have hne : A.ne e' e' = false := by subst hA; simp [std, iNe]
      cbv
      split <;> cbv
      · rename_i hq; exact Bool.noConfusion (hq.symm.trans hne)
      refine Exists.intro r' (Exists.intro r' (And.intro ⟨hzs, hrl⟩ (And.intro ⟨hzs', hrl⟩ ?_)))
      rintro _ rfl
      rw [decide_eq_true (Eq.refl r')]
      have hnt : A.bnot true = false := by subst hA; rfl
      cbv
      split <;> cbv
      · rename_i hq; exact Bool.noConfusion (hq.symm.trans hnt)
      exact hB _ _ hk1 trivial ⟨rfl, rfl, rfl, rfl, rfl, congrArg I (hadd hk1), trivial⟩ (.inl rfl)
    · exact hk _
end Go.Sas
