/-
The law of critical speeds answers true.
Conditions: none.
-/
import Derived.Test.YtelmlpjkpebcgaaM12
import Derived.Test.YtelmlpjkpebcgaaM20
import Derived.Test.YtelmlpjkpebcgaaM17
import Derived.Test.YtelmlpjkpebcgaaNT6
set_option linter.unusedVariables false
set_option linter.unusedSimpArgs false
namespace Go.Sas
open Go.Proofs
set_option maxRecDepth 100000
theorem eSpeedsA_ok {f : Nat} (hf : ∀ (p : Plate) {a b : Int} {xs ec : List AV} {ne ed gr lo hi sh wi : Int}, PlateIs p a b xs ec ne ed gr lo hi sh wi → Big p.shares → Big p.creep → ∀ (u v s : Int) (H : AHeap) {Kk : AV → AHeap → Prop}, Kk (.tup [.vs 2 ((speedsS p u v s).1.map sp), I (speedsS p u v s).2]) H →
    ACalls Try.prog f [plV a b (.vs 2 xs) (.vs 2 ec) ne ed gr lo hi sh wi, .agg [I u, I v], I s] H Kk) : ∀ args pt, eSpeedsA args = some pt → ∀ (H : AHeap) (Kk : AV → AHeap → Prop), pt (fun r => Kk r H) → ACalls Try.prog f args H Kk := by
  intro args pt h H Kk hk
  unfold eSpeedsA at h
  split at h
  · split at h
    · rename_i x hy
      cases h
      obtain ⟨a, b, xs, ec, ne, ed, gr, lo, hi, sh, wi⟩ := x
      obtain ⟨p, g1, g2, g3, g4⟩ := hk
      exact (hf p g1 g2 g3 _ _ _ H (g4 _ _ _ rfl rfl)).wk ⟨asPl_wk hy, Wk.rfl, Wk.rfl, trivial⟩
    · cases h
  · cases h
theorem speedsS_len {p : Plate} {a b s : Int} : BigL (speedsS p a b s).1 := by
  unfold speedsS BigL; split
  · simp
  · have := runS_len (q := fun v => decide (wverS p.grav (bandS p s).1 (bandS p s).2 (iLen v) a b = 1)) 1001
    simp only; omega
set_option maxHeartbeats 16000000 in
theorem core10 (p : Plate) {a b : Int} {xs ec : List AV} {ne ed gr lo hi sh wi : Int} (hp : PlateIs p a b xs ec ne ed gr lo hi sh wi) (h1 : Big p.shares) (h2 : Big p.creep) (d1 d2 so vv : Int) (nums : List Int) (hn1 : BigL nums) :
    ACalls Try.prog 10 [plV a b (.vs 2 xs) (.vs 2 ec) ne ed gr lo hi sh wi, .agg [I d1, I d2], I so, I vv, .vs 1 (nums.map I)] [] fun r _ => r = B true := by
  obtain ⟨Kk, hKk⟩ : ∃ K : AV → AHeap → Prop, K = fun r _ => r = B true := ⟨_, rfl⟩
  rw [← hKk]
  have hk : ∀ H, Kk (B true) H := fun H => by rw [hKk]
  clear hKk
  obtain ⟨xn, hxn⟩ : ∃ ys, ys = nums.map I := ⟨_, rfl⟩
  rw [← hxn]
  obtain ⟨A, hA⟩ : ∃ A, A = std := ⟨_, rfl⟩
  have hne : ∀ x, A.ne x x = false := by subst hA; intro x; simp [std, iNe]
  have hnt : A.bnot true = false := by subst hA; rfl
  refine go10 rfl (SGo_run hA ⟨[], [2], (18, eBig) :: (19, eTrue) :: [], edl⟩ (.cons eBig_ok (.cons eTrue_ok .nil)) edl_ok 600 fun T TD hT hTD => ?_)
  cbv
  intro q
  cbv
  repeat' (first | exact hk _ | (split <;> cbv))
  all_goals
    refine Exists.intro nums (And.intro ⟨hxn, hn1⟩ ?_)
    intro w1
    cbv
    refine Exists.intro () (And.intro trivial ?_)
    rintro w2 _ ⟨p2, a2, b2, xs2, ec2, ne2, ed2, gr2, lo2, hi2, sh2, wi2, rfl, hp2, hv2⟩
    cbv
    have hpl2 := checkS_ok hv2
    have hb21 : Big p2.shares := by have := hpl2.sh.len; unfold Big; omega
    have hb22 : Big p2.creep := by have := hpl2.cr.len; unfold Big; omega
    refine Exists.intro () (And.intro (by omega) ?_)
    rintro w3 _ ⟨k1, rfl, k11, k12⟩
    cbv
    refine Exists.intro () (And.intro (by omega) ?_)
    rintro w4 _ ⟨k2, rfl, k21, k22⟩
    cbv
    refine Exists.intro () (And.intro ⟨by simp, by simp, by exact AllI_lits (l := [0, k1, k2])⟩ ?_)
    rintro w5 _ ⟨low, rfl, hlow⟩
    simp at hlow
    cbv
    refine Exists.intro () (And.intro (by omega) ?_)
    rintro w6 _ ⟨k3, rfl, k31, k32⟩
    cbv
    try refine And.intro (by subst hA; simp [std, Keep, SubH, ResK]) ?_
    refine Exists.intro () (And.intro (by omega) ?_)
    rintro w7 _ ⟨k4, rfl, k41, k42⟩
    cbv
    try refine And.intro (by subst hA; simp [std, Keep, SubH, ResK]) ?_
    refine Exists.intro () (And.intro ⟨by simp, by simp, by exact AllI_lits (l := [0, sh2, A.max 0 (A.sub .i64 sh2 1), k4])⟩ ?_)
    rintro w8 _ ⟨near, rfl, _⟩
    cbv
    try refine And.intro (by subst hA; simp [std, Keep, SubH, ResK]) ?_
    try refine And.intro (by subst hA; simp [std, Keep, SubH, ResK]) ?_
    refine Exists.intro () (And.intro (by omega) ?_)
    rintro w9 _ ⟨k5, rfl, hk51, hk52⟩
    cbv
    try refine And.intro (by subst hA; simp [std, Keep, SubH, ResK]) ?_
    rw [hT]
    obtain ⟨high, hhigh⟩ : ∃ z, z = A.add .i64 low k3 := ⟨_, rfl⟩
    refine AGo_up 3 (fun _ => True) (fun _ i => [(10, B false), (16, .vs 11 [plV a b (.vs 2 xs) (.vs 2 ec) ne ed gr lo hi sh wi, plV a2 b2 (.vs 2 xs2) (.vs 2 ec2) ne2 ed2 gr2 lo2 hi2 sh2 wi2, plV a2 b2 (.vs 2 xs2) (.vs 2 ec2) ne2 ed2 gr2 lo2 hi2 sh2 wi2]),
        (17, .vs 2 [.agg [I d1, I d2], .agg [I low, I high], .agg [I d1, I d2]]), (18, .vs 1 [I so, I near, I so]), (19, .vs 1 [I vv, I k5, I vv]), (20, I i)]) (fun _ => []) trivial ⟨rfl, rfl, by rw [hhigh]; rfl, rfl, rfl, rfl, trivial⟩ (.inr ⟨⟨_, rfl⟩, Nat.le_refl _, by simp [ltG, AV.lt, AV.ltL], trivial⟩) fun j i hij hj _ Bk hB => ?_
    obtain ⟨xp, hxp⟩ : ∃ z, z = [plV a b (.vs 2 xs) (.vs 2 ec) ne ed gr lo hi sh wi, plV a2 b2 (.vs 2 xs2) (.vs 2 ec2) ne2 ed2 gr2 lo2 hi2 sh2 wi2, plV a2 b2 (.vs 2 xs2) (.vs 2 ec2) ne2 ed2 gr2 lo2 hi2 sh2 wi2] := ⟨_, rfl⟩
    obtain ⟨xt, hxt⟩ : ∃ z, z = [AV.agg [I d1, I d2], .agg [I low, I high], .agg [I d1, I d2]] := ⟨_, rfl⟩
    obtain ⟨xw, hxw⟩ : ∃ z, z = [I so, I near, I so] := ⟨_, rfl⟩
    obtain ⟨xm, hxm⟩ : ∃ z, z = [I vv, I k5, I vv] := ⟨_, rfl⟩
    rw [← hxp, ← hxt, ← hxw, ← hxm]
    have hlt : A.lt i (A.vlen xp) = decide (j < 3) := by rw [hxp]; subst hA hij; simp only [std, iLt, iLen, List.length_cons, List.length_nil]; rw [decide_eq_decide]; omega
    have hadd : j < 3 → A.add .i64 i 1 = iLen (j + 1) := fun hj => by subst hA; exact add_one hij hj (by omega)
    refine SGo_run hA ⟨[], [], (19, eTrue) :: (46, eSpeedA) :: (47, eSpeedA) :: (48, eSpeedsA) :: (49, eSpeedsA) :: (50, eSameSp) :: [], []⟩ (.cons eTrue_ok (.cons (eSpeedA_ok p46) (.cons (eSpeedA_ok p47) (.cons (eSpeedsA_ok p48) (.cons (eSpeedsA_ok p49) (.cons eSameSp_ok .nil)))))) .nil 600 fun T TD hT hTD => ?_
    cbv
    split <;> cbv
    · rename_i hk1
      have hk1 : j < 3 := by have := hlt.symm.trans hk1; simpa using this
      obtain ⟨pj, aj, bj, xsj, ecj, nej, edj, grj, loj, hij', shj, wij, t1, t2, wj, mj, hixP, hpj, hpj1, hpj2, hixT, hixW, hixM⟩ : ∃ pj aj bj xsj ecj nej edj grj loj hij shj wij t1 t2 wj mj, A.ix 11 11 xp i [I aj, I bj, .vs 2 xsj, .vs 2 ecj, I nej, I edj, I grj, I loj, I hij, I shj, I wij] ∧
          PlateIs pj aj bj xsj ecj nej edj grj loj hij shj wij ∧ Big pj.shares ∧ Big pj.creep ∧ A.ix 2 2 xt i [I t1, I t2] ∧ A.ix 1 1 xw i [I wj] ∧ A.ix 1 1 xm i [I mj] := by
        subst hA hij hxp hxt hxw hxm
        rcases (by omega : j = 0 ∨ j = 1 ∨ j = 2) with rfl | rfl | rfl
        · exact ⟨p, a, b, xs, ec, ne, ed, gr, lo, hi, sh, wi, d1, d2, so, vv, ⟨rfl, by simp [iLen], _, rfl, rfl⟩, hp, h1, h2, ⟨rfl, by simp [iLen], _, rfl, rfl⟩, ⟨rfl, by simp [iLen], _, rfl, rfl⟩, ⟨rfl, by simp [iLen], _, rfl, rfl⟩⟩
        · exact ⟨p2, a2, b2, xs2, ec2, ne2, ed2, gr2, lo2, hi2, sh2, wi2, low, high, near, k5, ⟨rfl, by simp [iLen], _, rfl, rfl⟩, hp2, hb21, hb22, ⟨rfl, by simp [iLen], _, rfl, rfl⟩, ⟨rfl, by simp [iLen], _, rfl, rfl⟩, ⟨rfl, by simp [iLen], _, rfl, rfl⟩⟩
        · exact ⟨p2, a2, b2, xs2, ec2, ne2, ed2, gr2, lo2, hi2, sh2, wi2, d1, d2, so, vv, ⟨rfl, by simp [iLen], _, rfl, rfl⟩, hp2, hb21, hb22, ⟨rfl, by simp [iLen], _, rfl, rfl⟩, ⟨rfl, by simp [iLen], _, rfl, rfl⟩, ⟨rfl, by simp [iLen], _, rfl, rfl⟩⟩
      refine Exists.intro _ (And.intro hixP ?_); cbv
      refine Exists.intro _ (And.intro hixT ?_); cbv
      refine Exists.intro _ (And.intro hixW ?_); cbv
      refine Exists.intro _ (And.intro hixM ?_); cbv
      refine Exists.intro pj (And.intro hpj (And.intro hpj1 (And.intro hpj2 ?_)))
      rintro x1 y1 r1; cbv
      refine Exists.intro _ (And.intro hixP ?_); cbv
      refine Exists.intro _ (And.intro hixT ?_); cbv
      refine Exists.intro _ (And.intro hixW ?_); cbv
      refine Exists.intro _ (And.intro hixM ?_); cbv
      refine Exists.intro pj (And.intro hpj (And.intro hpj1 (And.intro hpj2 ?_)))
      rintro x2 y2 r2
      obtain ⟨rfl, rfl⟩ := Prod.mk.inj (r2.trans r1.symm)
      cbv
      refine Exists.intro _ (And.intro hixP ?_); cbv
      refine Exists.intro _ (And.intro hixT ?_); cbv
      refine Exists.intro _ (And.intro hixW ?_); cbv
      refine Exists.intro pj (And.intro hpj (And.intro hpj1 (And.intro hpj2 ?_)))
      rintro x3 y3 z3 r3 hz3; cbv
      refine Exists.intro _ (And.intro hixP ?_); cbv
      refine Exists.intro _ (And.intro hixT ?_); cbv
      refine Exists.intro _ (And.intro hixW ?_); cbv
      refine Exists.intro pj (And.intro hpj (And.intro hpj1 (And.intro hpj2 ?_)))
      rintro x4 y4 z4 r4 hz4
      obtain ⟨rfl, rfl⟩ := Prod.mk.inj (r4.trans r3.symm)
      have hbl : BigL x4 := by have e : x4 = (speedsS pj t1 t2 wj).1 := congrArg Prod.fst r4; rw [e]; exact speedsS_len
      cbv
      repeat' (split <;> first | (rename_i hq; exact Bool.noConfusion (hq.symm.trans (hne _))) | cbv)
      refine Exists.intro x4 (Exists.intro x4 (And.intro ⟨hz3, hbl⟩ (And.intro ⟨hz4, hbl⟩ ?_)))
      rintro _ rfl
      rw [decide_eq_true (Eq.refl x4)]
      cbv
      split <;> cbv
      · rename_i hq; exact Bool.noConfusion (hq.symm.trans hnt)
      exact hB _ _ hk1 trivial ⟨rfl, congrArg (AV.vs 11) hxp, congrArg (AV.vs 2) hxt, congrArg (AV.vs 1) hxw, congrArg (AV.vs 1) hxm, congrArg I (hadd hk1), trivial⟩ (.inl rfl)
    · exact hk _
end Go.Sas
