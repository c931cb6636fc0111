/-
The law of plates that may be, of what ice bears, of how thick, how long, answers true.
Conditions: none.
-/
import Derived.Test.YtelmlpjkpebcgaaM12
import Derived.Test.YtelmlpjkpebcgaaM17
import Derived.Test.YtelmlpjkpebcgaaNT6
set_option linter.unusedVariables false
set_option linter.unusedSimpArgs false
namespace Go.Sas
open Go.Proofs
set_option maxRecDepth 100000
set_option maxHeartbeats 8000000 in
theorem core12 (p : Plate) {a b : Int} {xs ec : List AV} {ne ed gr lo hi sh wi : Int} (hp : PlateIs p a b xs ec ne ed gr lo hi sh wi) (h1 : Big p.shares) (h2 : Big p.creep) (th wt mi : Int) (nums : List Int) (hn1 : BigL nums) :
    ACalls Try.prog 12 [plV a b (.vs 2 xs) (.vs 2 ec) ne ed gr lo hi sh wi, I th, I wt, I mi, .vs 1 (nums.map I)] [] fun r _ => r = B true := by
  obtain ⟨Kk, hKk⟩ : ∃ K : AV → AHeap → Prop, K = fun r _ => r = B true := ⟨_, rfl⟩
  rw [← hKk]
  have hk : ∀ H, Kk (B true) H := fun H => by rw [hKk]
  clear hKk
  obtain ⟨xn, hxn⟩ : ∃ ys, ys = nums.map I := ⟨_, rfl⟩
  rw [← hxn]
  obtain ⟨A, hA⟩ : ∃ A, A = std := ⟨_, rfl⟩
  refine go12 rfl (SGo_run hA ⟨[], [], (18, eBig) :: (19, eTrue) :: (53, eBearsA) :: [], edl⟩ (.cons eBig_ok (.cons eTrue_ok (.cons (eBearsA_ok p53) .nil))) edl_ok 200 fun T TD hT hTD => ?_)
  cbv
  intro q
  cbv
  split <;> cbv
  · exact hk _
  refine Exists.intro nums (And.intro ⟨hxn, hn1⟩ ?_)
  intro w1
  cbv
  refine Exists.intro () (And.intro trivial ?_)
  rintro w2 _ ⟨p2, a2, b2, xs2, ec2, ne2, ed2, gr2, lo2, hi2, sh2, wi2, rfl, hp2, hv2⟩
  cbv
  have hpl2 := checkS_ok hv2
  have hb21 : Big p2.shares := by have := hpl2.sh.len; unfold Big; omega
  have hb22 : Big p2.creep := by have := hpl2.cr.len; unfold Big; omega
  refine Exists.intro () (And.intro (by omega) ?_)
  rintro w3 _ ⟨t0, rfl, ht01, ht02⟩
  cbv
  refine Exists.intro () (And.intro ⟨by simp, by simp, by exact AllI_lits (l := [0, t0, 5000])⟩ ?_)
  rintro w4 _ ⟨tq, rfl, htq⟩
  simp at htq
  cbv
  refine Exists.intro () (And.intro (by omega) ?_)
  rintro w5 _ ⟨m0, rfl, m01, m02⟩
  cbv
  refine Exists.intro () (And.intro ⟨by simp, by simp, by exact AllI_lits (l := [0, m0, 10000])⟩ ?_)
  rintro w6 _ ⟨mq, rfl, hmq⟩
  simp at hmq
  cbv
  refine Exists.intro p2 (And.intro hp2 (And.intro hb21 (And.intro hb22 ?_)))
  rintro bq e0 hbq
  cbv
  refine Exists.intro () (And.intro (by omega) ?_)
  rintro w7 _ ⟨kq, rfl, hkq1, hkq2⟩
  cbv
  rw [hT]
  obtain ⟨nq, hnq⟩ : ∃ z, z = A.min 200000 (A.max 0 (A.add .i64 bq kq)) := ⟨_, rfl⟩
  refine AGo_up 3 (fun _ => True) (fun _ i => [(10, B false), (17, .vs 11 [plV a b (.vs 2 xs) (.vs 2 ec) ne ed gr lo hi sh wi, plV a2 b2 (.vs 2 xs2) (.vs 2 ec2) ne2 ed2 gr2 lo2 hi2 sh2 wi2, plV a2 b2 (.vs 2 xs2) (.vs 2 ec2) ne2 ed2 gr2 lo2 hi2 sh2 wi2]),
      (18, .vs 1 [I th, I tq, I th]), (19, .vs 1 [I wt, I nq, I wt]), (20, .vs 1 [I mi, I mq, I mi]), (21, I i)]) (fun _ => []) trivial ⟨rfl, rfl, rfl, by rw [hnq]; rfl, rfl, rfl, trivial⟩ (.inr ⟨⟨_, rfl⟩, Nat.le_refl _, by simp [ltG, AV.lt, AV.ltL], trivial⟩) fun j i hij hj _ Bk hB => ?_
  obtain ⟨xp, hxp⟩ : ∃ z, z = [plV a b (.vs 2 xs) (.vs 2 ec) ne ed gr lo hi sh wi, plV a2 b2 (.vs 2 xs2) (.vs 2 ec2) ne2 ed2 gr2 lo2 hi2 sh2 wi2, plV a2 b2 (.vs 2 xs2) (.vs 2 ec2) ne2 ed2 gr2 lo2 hi2 sh2 wi2] := ⟨_, rfl⟩
  obtain ⟨xt, hxt⟩ : ∃ z, z = [I th, I tq, I th] := ⟨_, rfl⟩
  obtain ⟨xw, hxw⟩ : ∃ z, z = [I wt, I nq, I wt] := ⟨_, rfl⟩
  obtain ⟨xm, hxm⟩ : ∃ z, z = [I mi, I mq, I mi] := ⟨_, rfl⟩
  rw [← hxp, ← hxt, ← hxw, ← hxm]
  have hlt : A.lt i (A.vlen xp) = decide (j < 3) := by rw [hxp]; subst hA hij; simp only [std, iLt, iLen, List.length_cons, List.length_nil]; rw [decide_eq_decide]; omega
  have hadd : j < 3 → A.add .i64 i 1 = iLen (j + 1) := fun hj => by subst hA; exact add_one hij hj (by omega)
  have hne : ∀ x, A.ne x x = false := by subst hA; intro x; simp [std, iNe]
  refine SGo_run hA ⟨[], [], (19, eTrue) :: (53, eBearsA) :: (54, eBearsA) :: (55, eNeedA) :: (56, eNeedA) :: (57, eStandsA) :: (58, eStandsA) :: (59, eCheckA) :: (60, eCheckA) :: [], []⟩ (.cons eTrue_ok (.cons (eBearsA_ok p53) (.cons (eBearsA_ok p54) (.cons (eNeedA_ok p55) (.cons (eNeedA_ok p56) (.cons (eStandsA_ok p57) (.cons (eStandsA_ok p58) (.cons (eCheckA_ok p59) (.cons (eCheckA_ok p60) .nil))))))))) .nil 200 fun T TD hT hTD => ?_
  cbv
  split <;> cbv
  · rename_i hk1
    have hk1 : j < 3 := by have := hlt.symm.trans hk1; simpa using this
    obtain ⟨pj, aj, bj, xsj, ecj, nej, edj, grj, loj, hij', shj, wij, tj, wj, mj, hixP, hpj, hpj1, hpj2, hixT, hixW, hixM⟩ : ∃ pj aj bj xsj ecj nej edj grj loj hij shj wij tj wj mj, A.ix 11 11 xp i [I aj, I bj, .vs 2 xsj, .vs 2 ecj, I nej, I edj, I grj, I loj, I hij, I shj, I wij] ∧
        PlateIs pj aj bj xsj ecj nej edj grj loj hij shj wij ∧ Big pj.shares ∧ Big pj.creep ∧ A.ix 1 1 xt i [I tj] ∧ A.ix 1 1 xw i [I wj] ∧ A.ix 1 1 xm i [I mj] := by
      subst hA hij hxp hxt hxw hxm
      rcases (by omega : j = 0 ∨ j = 1 ∨ j = 2) with rfl | rfl | rfl
      · exact ⟨p, a, b, xs, ec, ne, ed, gr, lo, hi, sh, wi, th, wt, mi, ⟨rfl, by simp [iLen], _, rfl, rfl⟩, hp, h1, h2, ⟨rfl, by simp [iLen], _, rfl, rfl⟩, ⟨rfl, by simp [iLen], _, rfl, rfl⟩, ⟨rfl, by simp [iLen], _, rfl, rfl⟩⟩
      · exact ⟨p2, a2, b2, xs2, ec2, ne2, ed2, gr2, lo2, hi2, sh2, wi2, tq, nq, mq, ⟨rfl, by simp [iLen], _, rfl, rfl⟩, hp2, hb21, hb22, ⟨rfl, by simp [iLen], _, rfl, rfl⟩, ⟨rfl, by simp [iLen], _, rfl, rfl⟩, ⟨rfl, by simp [iLen], _, rfl, rfl⟩⟩
      · exact ⟨p2, a2, b2, xs2, ec2, ne2, ed2, gr2, lo2, hi2, sh2, wi2, th, wt, mi, ⟨rfl, by simp [iLen], _, rfl, rfl⟩, hp2, hb21, hb22, ⟨rfl, by simp [iLen], _, rfl, rfl⟩, ⟨rfl, by simp [iLen], _, rfl, rfl⟩, ⟨rfl, by simp [iLen], _, rfl, rfl⟩⟩
    refine Exists.intro _ (And.intro hixP ?_); cbv
    refine Exists.intro _ (And.intro hixT ?_); cbv
    refine Exists.intro _ (And.intro hixM ?_); cbv
    refine Exists.intro pj (And.intro hpj (And.intro hpj1 (And.intro hpj2 ?_)))
    rintro x1 y1 r1; cbv
    refine Exists.intro _ (And.intro hixP ?_); cbv
    refine Exists.intro _ (And.intro hixT ?_); cbv
    refine Exists.intro _ (And.intro hixM ?_); cbv
    refine Exists.intro pj (And.intro hpj (And.intro hpj1 (And.intro hpj2 ?_)))
    rintro x2 y2 r2
    obtain ⟨rfl, rfl⟩ := Prod.mk.inj (r2.trans r1.symm)
    cbv
    refine Exists.intro _ (And.intro hixP ?_); cbv
    refine Exists.intro _ (And.intro hixW ?_); cbv
    refine Exists.intro _ (And.intro hixM ?_); cbv
    refine Exists.intro pj (And.intro hpj (And.intro hpj1 (And.intro hpj2 ?_)))
    rintro x3 y3 r3; cbv
    refine Exists.intro _ (And.intro hixP ?_); cbv
    refine Exists.intro _ (And.intro hixW ?_); cbv
    refine Exists.intro _ (And.intro hixM ?_); cbv
    refine Exists.intro pj (And.intro hpj (And.intro hpj1 (And.intro hpj2 ?_)))
    rintro x4 y4 r4
    obtain ⟨rfl, rfl⟩ := Prod.mk.inj (r4.trans r3.symm)
    cbv
    refine Exists.intro _ (And.intro hixP ?_); cbv
    refine Exists.intro _ (And.intro hixT ?_); cbv
    refine Exists.intro _ (And.intro hixW ?_); cbv
    refine Exists.intro pj (And.intro hpj (And.intro hpj1 (And.intro hpj2 ?_)))
    rintro x5 y5 r5; cbv
    refine Exists.intro _ (And.intro hixP ?_); cbv
    refine Exists.intro _ (And.intro hixT ?_); cbv
    refine Exists.intro _ (And.intro hixW ?_); cbv
    refine Exists.intro pj (And.intro hpj (And.intro hpj1 (And.intro hpj2 ?_)))
    rintro x6 y6 r6
    obtain ⟨rfl, rfl⟩ := Prod.mk.inj (r6.trans r5.symm)
    cbv
    refine Exists.intro _ (And.intro hixP ?_); cbv
    refine Exists.intro _ (And.intro hixP ?_); cbv
    refine Exists.intro pj (And.intro hpj (And.intro hpj1 (And.intro hpj2 ?_)))
    rintro c1 rc1; cbv
    refine Exists.intro pj (And.intro hpj (And.intro hpj1 (And.intro hpj2 ?_)))
    rintro c2 rc2
    have rc3 := rc2.trans rc1.symm
    clear rc2
    subst rc3
    cbv
    repeat' (split <;> first | (rename_i hq; exact Bool.noConfusion (hq.symm.trans (hne _))) | cbv)
    exact hB _ _ hk1 trivial ⟨rfl, congrArg (AV.vs 11) hxp, congrArg (AV.vs 1) hxt, congrArg (AV.vs 1) hxw, congrArg (AV.vs 1) hxm, congrArg I (hadd hk1), trivial⟩ (.inl rfl)
  · exact hk _
end Go.Sas
