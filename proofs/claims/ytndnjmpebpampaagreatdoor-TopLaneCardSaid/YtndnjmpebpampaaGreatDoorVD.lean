/-
Frost: what freezes: contract.
Conditions: none.
-/
import Derived.Test.YtndnjmpebpampaaGreatDoorVB
set_option linter.unusedVariables false
set_option linter.unusedSimpArgs false
namespace Go.Sas
open Go.Proofs
set_option maxRecDepth 100000
set_option maxHeartbeats 8000000 in
theorem p96 (l : FrL) (hl : FrV l) (x : IceK) (k : Int) (hx : IceB k x) (hk : k ≤ 200000000) (c1 c2 : Int) (hc : 0 ≤ c1 ∧ c1 ≤ c2 ∧ c2 ≤ 1000) (H : AHeap) {Kk : AV → AHeap → Prop} (h : Kk (icA (frozS l x (c1, c2))) H) : ACalls Tryz.prog 96 [lwA l, icA x, .agg [I c1, I c2]] H Kk := by
  obtain ⟨W, hW⟩ : ∃ W, W = frozS l x (c1, c2) := ⟨_, rfl⟩
  rw [← hW] at h
  have b0 := hx.b0
  have b1 := hx.b1
  have w0 := hx.w0
  have w1 := hx.w1
  have t0 := hx.t0
  have t1 := hx.t1
  have s0 := hx.s0
  have s1 := hx.s1
  have hkk := hx.k
  have hl0 := hl
  have hT := hl.thr
  have hg0 := hl.g0
  have hla := hl.l0
  have hla1 := hl.l1
  clear hx hl
  obtain ⟨⟨xb1, xb2⟩, ⟨xw1, xw2⟩, ⟨xt1, xt2⟩, ⟨xs1, xs2⟩⟩ := x
  obtain ⟨L, hL⟩ : ∃ L : FrL, L = l := ⟨_, rfl⟩
  rw [← hL] at hW hT
  obtain ⟨g, la, cov, ⟨m1, m2⟩, so, ⟨v1, v2⟩⟩ := l
  unfold lwA icA at *
  dsimp only at *
  have hLl : L.lat = la := by rw [hL]
  have hT1 := hT xs2
  have hT2 := hT xs1
  obtain ⟨xs, hxs⟩ : ∃ xs, xs = cov.map cvV := ⟨_, rfl⟩
  have hxn : AV.nidL xs = true := by rw [hxs]; exact nid_cv cov
  rw [← hxs]
  refine (fun q => pureC (by simp [AV.nidL, AV.nid, hxn]) (by rfl) q H h) ?_
  clear h
  intro Kk h
  obtain ⟨A, hA⟩ : ∃ A, A = std := ⟨_, rfl⟩
  have hle : ∀ x y, A.le x y = decide (x ≤ y) := by subst hA; intro x y; rfl
  have hnz : A.nz la := by subst hA; simp only [std, nzS]; omega
  refine go96 rfl (SGo_run hA ⟨[], [], [(102, eThr), (101, eDn), (103, eUp), (104, eGrow)], []⟩ (.cons eThr_ok (.cons (eDn_ok p101) (.cons (eUp_ok p103) (.cons eGrow_ok .nil)))) .nil 200 fun T TD hT hTD => ?_)
  cbv
  refine Exists.intro cov (And.intro hxs (And.intro hl0 ?_))
  intro p1 p1' hp1
  have hp1 : (p1, p1') = thrS L xs2 := by rw [hL]; exact hp1
  have hp1f : p1 = (thrS L xs2).1 := congrArg Prod.fst hp1
  rw [← hp1f] at hT1
  cbv
  refine Exists.intro () (And.intro ⟨by omega, by omega, by omega, by omega⟩ ?_)
  intro lo hlo
  cbv
  refine Exists.intro cov (And.intro hxs (And.intro hl0 ?_))
  intro p2' p2 hp2
  have hp2 : (p2', p2) = thrS L xs1 := by rw [hL]; exact hp2
  have hp2f : p2 = (thrS L xs1).2 := congrArg Prod.snd hp2
  rw [← hp2f] at hT2
  cbv
  refine Exists.intro () (And.intro ⟨by omega, by omega, by omega, by omega⟩ ?_)
  intro hi hhi
  cbv
  have e0 : 0 ≤ lo := by rw [hlo]; exact dn_nn (by omega) (by omega)
  have e1 : lo ≤ 1000 := by rw [hlo]; have := dn_le (a := c1) (p := p1) (by omega) (by omega); omega
  have e2 : 0 ≤ hi := by rw [hhi]; exact up_nn (by omega) (by omega)
  have e3 : hi ≤ 1000 := by rw [hhi]; have := up_le (a := c2) (p := p2) (by omega) (by omega); omega
  obtain ⟨few, hfew⟩ : ∃ v, v = lo / la := ⟨_, rfl⟩
  obtain ⟨many, hmany⟩ : ∃ v, v = hi / la := ⟨_, rfl⟩
  have f0 : 0 ≤ few := by rw [hfew]; exact Int.ediv_nonneg e0 (by omega)
  have f1 : 0 ≤ many := by rw [hmany]; exact Int.ediv_nonneg e2 (by omega)
  have f2 : few ≤ 1000 := by rw [hfew]; have := Int.ediv_le_self la e0; omega
  have f3 : many ≤ 1000 := by rw [hmany]; have := Int.ediv_le_self la e2; omega
  have q1 : A.quo .i64 lo la = few := by subst hA; rw [hfew]; exact iQuo_id (by omega) (by omega) (by omega)
  have q2 : A.quo .i64 hi la = many := by subst hA; rw [hmany]; exact iQuo_id (by omega) (by omega) (by omega)
  have g1 : A.le xt2 (A.quo .i64 lo la) = decide (xt2 ≤ few) := by rw [q1, hle]
  have g2 : A.le xt1 (A.quo .i64 hi la) = decide (xt1 ≤ many) := by rw [q2, hle]
  have r1 : A.add .i64 xw1 (A.min xt1 (A.quo .i64 lo la)) = xw1 + min xt1 few := by rw [q1]; subst hA; simp only [std, iMin_eq]; exact iAdd_id (by omega) (by omega)
  have r2 : A.add .i64 xw2 (A.min xt2 (A.quo .i64 hi la)) = xw2 + min xt2 many := by rw [q2]; subst hA; simp only [std, iMin_eq]; exact iAdd_id (by omega) (by omega)
  have r3 : A.max 0 (A.sub .i64 xt1 (A.quo .i64 hi la)) = max 0 (xt1 - many) := by rw [q2]; subst hA; simp only [std, iMax_eq]; rw [iSub_id (by omega) (by omega)]
  have r4 : A.max 0 (A.sub .i64 xt2 (A.quo .i64 lo la)) = max 0 (xt2 - few) := by rw [q1]; subst hA; simp only [std, iMax_eq]; rw [iSub_id (by omega) (by omega)]
  unfold frozS at hW
  dsimp only at hW
  rw [← hp1f, ← hlo, ← hp2f, ← hhi, hLl, ← hfew, ← hmany] at hW
  refine And.intro hnz ?_
  cbv
  refine And.intro hnz ?_
  cbv
  have G1 : xt2 ≤ few → GrB ⟨g, la, cov, (m1, m2), so, (v1, v2)⟩ xb1 xw2 xt2 lo := fun h => ⟨hl0, by omega, by omega, by omega, by omega, mul_div hla (by rw [← hfew]; exact h), by omega⟩
  have G2 : xt1 ≤ many → GrB ⟨g, la, cov, (m1, m2), so, (v1, v2)⟩ xb2 xw1 xt1 hi := fun h => ⟨hl0, by omega, by omega, by omega, by omega, mul_div hla (by rw [← hmany]; exact h), by omega⟩
  by_cases h1 : xt2 ≤ few
  · rw [if_pos h1] at hW
    have g1 := g1.trans (decide_eq_true h1)
    split <;> first | (rename_i hz; exact Bool.noConfusion (hz.symm.trans g1)) | cbv
    refine Exists.intro cov (And.intro hxs (And.intro (G1 h1) ?_))
    intro z1 hz1
    have hz1 : z1 = rootS (sqS L xb1 xw2 xt2 lo) - (xw2 + xt2) := by rw [hL]; exact hz1
    rw [← hz1] at hW
    cbv
    by_cases h2 : xt1 ≤ many
    · rw [if_pos h2] at hW
      have g2 := g2.trans (decide_eq_true h2)
      split <;> first | (rename_i hz; exact Bool.noConfusion (hz.symm.trans g2)) | cbv
      refine Exists.intro cov (And.intro hxs (And.intro (G2 h2) ?_))
      intro z2 hz2
      have hz2 : z2 = roofS (sqS L xb2 xw1 xt1 hi) - (xw1 + xt1) := by rw [hL]; exact hz2
      rw [← hz2] at hW
      cbv
      rw [hW] at h
      exact leaf h (by simp [aTup, r1, r2, r3, r4]) rfl
    · rw [if_neg h2] at hW
      have g2 := g2.trans (decide_eq_false h2)
      split <;> first | (rename_i hz; exact Bool.noConfusion (hz.symm.trans g2)) | cbv
      rw [hW] at h
      exact leaf h (by simp [aTup, r1, r2, r3, r4]) rfl
  · rw [if_neg h1] at hW
    have g1 := g1.trans (decide_eq_false h1)
    split <;> first | (rename_i hz; exact Bool.noConfusion (hz.symm.trans g1)) | cbv
    by_cases h2 : xt1 ≤ many
    · rw [if_pos h2] at hW
      have g2 := g2.trans (decide_eq_true h2)
      split <;> first | (rename_i hz; exact Bool.noConfusion (hz.symm.trans g2)) | cbv
      refine Exists.intro cov (And.intro hxs (And.intro (G2 h2) ?_))
      intro z2 hz2
      have hz2 : z2 = roofS (sqS L xb2 xw1 xt1 hi) - (xw1 + xt1) := by rw [hL]; exact hz2
      rw [← hz2] at hW
      cbv
      rw [hW] at h
      exact leaf h (by simp [aTup, r1, r2, r3, r4]) rfl
    · rw [if_neg h2] at hW
      have g2 := g2.trans (decide_eq_false h2)
      split <;> first | (rename_i hz; exact Bool.noConfusion (hz.symm.trans g2)) | cbv
      rw [hW] at h
      exact leaf h (by simp [aTup, r1, r2, r3, r4]) rfl
end Go.Sas
