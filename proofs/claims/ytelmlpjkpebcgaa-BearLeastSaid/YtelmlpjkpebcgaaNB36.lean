/-
The law of the least thickness and the greatest weight answers true.
Conditions: none.
-/
import Derived.Test.YtelmlpjkpebcgaaM12
import Derived.Test.YtelmlpjkpebcgaaM17
import Derived.Test.YtelmlpjkpebcgaaM18
import Derived.Test.YtelmlpjkpebcgaaNT6
set_option linter.unusedVariables false
set_option linter.unusedSimpArgs false
namespace Go.Sas
open Go.Proofs
set_option maxRecDepth 100000
set_option maxHeartbeats 8000000 in
theorem core13 (nums : List Int) (hn1 : BigL nums) : ACalls Try.prog 13 [.vs 1 (nums.map I)] [] fun r _ => r = B true := by
  obtain ⟨Kk, hKk⟩ : ∃ K : AV → AHeap → Prop, K = fun r _ => r = B true := ⟨_, rfl⟩
  rw [← hKk]
  have hk : ∀ H, Kk (B true) H := fun H => by rw [hKk]
  clear hKk
  obtain ⟨xn, hxn⟩ : ∃ ys, ys = nums.map I := ⟨_, rfl⟩
  rw [← hxn]
  obtain ⟨A, hA⟩ : ∃ A, A = std := ⟨_, rfl⟩
  have hne0 : A.ne 0 0 = false := by subst hA; rfl
  have heq0 : ∀ x, A.eq x x = true := by subst hA; intro x; simp [std, iEq]
  refine go13 rfl (SGo_run hA ⟨[], [0], (19, eTrue) :: (54, eBearsA) :: (61, eOne) :: (25, eHolds) :: (57, eStandsA) :: (55, eNeedA) :: [], edl⟩ (.cons eTrue_ok (.cons (eBearsA_ok p54) (.cons eOne_ok (.cons (eHolds_ok p25) (.cons (eStandsA_ok p57) (.cons (eNeedA_ok p55) .nil)))))) edl_ok 600 fun T TD hT hTD => ?_)
  cbv
  refine Exists.intro nums (And.intro ⟨hxn, hn1⟩ ?_)
  intro w1
  cbv
  refine Exists.intro () (And.intro trivial ?_)
  rintro w2 _ ⟨p2, a2, b2, xs2, ec2, ne2, ed2, gr2, lo2, hi2, sh2, wi2, rfl, hp2, hv2⟩
  cbv
  have hV := checkS_ok hv2
  have hb21 : Big p2.shares := by have := hV.sh.len; unfold Big; omega
  have hb22 : Big p2.creep := by have := hV.cr.len; unfold Big; omega
  have hbe : ∀ t n, (0 ≤ t ∧ t ≤ 5000) → (0 ≤ n ∧ n ≤ 10000) → bearsS p2 t n = (aloS p2 t n, 0) := fun t n ht hn => by
    unfold bearsS
    rw [if_neg (by simp [hv2]), if_neg (by omega)]
  refine Exists.intro () (And.intro (by omega) ?_)
  rintro w3 _ ⟨t, rfl, ht1, ht2⟩
  replace ht2 : t ≤ 1500 := by omega
  cbv
  refine Exists.intro () (And.intro (by omega) ?_)
  rintro w4 _ ⟨k1, rfl, k11, k12⟩
  cbv
  refine Exists.intro () (And.intro ⟨by simp, by simp, by exact AllI_lits (l := [0, k1, 10000])⟩ ?_)
  rintro w5 _ ⟨n, rfl, hn⟩
  simp at hn
  cbv
  have hnb : 0 ≤ n ∧ n ≤ 10000 := by omega
  refine Exists.intro p2 (And.intro hp2 (And.intro hb21 (And.intro hb22 ?_)))
  rintro m e1 r1
  rw [hbe t n (by omega) hnb] at r1
  obtain ⟨hm, rfl⟩ := Prod.mk.inj r1
  cbv
  refine Exists.intro () (And.intro (by omega) ?_)
  rintro w6 _ ⟨k2, rfl, hk21, hk22⟩
  cbv
  try refine And.intro (by subst hA; simp [std, Keep, SubH, ResK]) ?_
  have ht3 : A.add .i64 t k2 = t + k2 := by subst hA; exact iAdd_id (by omega) (by omega)
  obtain ⟨t2, ht2'⟩ : ∃ z, z = A.add .i64 t k2 := ⟨_, rfl⟩
  refine Exists.intro p2 (And.intro hp2 (And.intro hb21 (And.intro hb22 ?_)))
  rintro m2 e2 r2
  rw [show bearsS p2 _ n = bearsS p2 (A.add .i64 t k2) n from rfl, hbe (A.add .i64 t k2) n (by omega) hnb] at r2
  obtain ⟨hm2, rfl⟩ := Prod.mk.inj r2
  cbv
  refine Exists.intro () (And.intro (by omega) ?_)
  rintro w7 _ ⟨k3, rfl, hk31, hk32⟩
  cbv
  try refine And.intro (by subst hA; simp [std, Keep, SubH, ResK]) ?_
  have hn3 : A.min 10000 (A.add .i64 n k3) = min 10000 (n + k3) := by subst hA; simp only [std, iMin_eq]; rw [iAdd_id (by omega) (by omega)]
  refine Exists.intro p2 (And.intro hp2 (And.intro hb21 (And.intro hb22 ?_)))
  rintro m3 e3 r3
  rw [show bearsS p2 t _ = bearsS p2 t (A.min 10000 (A.add .i64 n k3)) from rfl, hbe t (A.min 10000 (A.add .i64 n k3)) (by omega) (by omega)] at r3
  obtain ⟨hm3, rfl⟩ := Prod.mk.inj r3
  have hq1 : A.lt m2 m = false := by
    have := alo_up hV (t := t) (t' := A.add .i64 t k2) (n := n) (by omega) (by omega)
    subst hA; simp only [std, iLt, decide_eq_false_iff_not] at *; omega
  have hq2 : A.lt m m3 = false := by
    have := alo_down hV (t := t) (n := n) (n' := A.min 10000 (A.add .i64 n k3)) (by omega) (by omega)
    subst hA; simp only [std, iLt, decide_eq_false_iff_not] at *; omega
  have hm0 : 0 ≤ m := by rw [hm]; exact alo_nn hV (by omega)
  cbv
  split <;> cbv
  · rename_i hq; exact Bool.noConfusion (hq.symm.trans hne0)
  split <;> cbv
  · rename_i hq; exact Bool.noConfusion (hq.symm.trans hne0)
  split <;> cbv
  · rename_i hq; exact Bool.noConfusion (hq.symm.trans hne0)
  split <;> cbv
  · rename_i hq; exact Bool.noConfusion (hq.symm.trans hq1)
  split <;> cbv
  · rename_i hq; exact Bool.noConfusion (hq.symm.trans hq2)
  refine Exists.intro () (And.intro (by omega) ?_)
  rintro w8 _ ⟨k4, rfl, hk41, hk42⟩
  cbv
  refine Exists.intro () (And.intro ⟨by simp, by simp, by exact AllI_lits (l := [-1, 0, 1, k4])⟩ ?_)
  rintro w9 _ ⟨k5, rfl, hk5⟩
  simp at hk5
  cbv
  obtain ⟨w, hw⟩ : ∃ z, z = A.min 200000 (A.max 0 (A.add .i64 m k5)) := ⟨_, rfl⟩
  have hwb : 0 ≤ w ∧ w ≤ 200000 := by rw [hw]; subst hA; simp only [std, iMin_eq, iMax_eq]; omega
  have hroad : checkAllS p2 [(t, t)] [] = 0 := roadS_of hv2 (by simp) (fun x hx => by simp at hx; subst hx; simp only; omega) (by simp) (fun x hx => by simp at hx)
  have hload : ∀ x ∈ [Load.mk 7 (w, w) n], LoadV ([(t, t)] : List (Int × Int)).length x := fun x hx => by
    simp at hx; subst hx
    exact ⟨by simp, by simp, hwb.1, by simp, hwb.2, hnb.1, hnb.2⟩
  have hho : holdsS p2 [(t, t)] [] [Load.mk 7 (w, w) n] = ([veS p2 [(t, t)] [] [Load.mk 7 (w, w) n] (Load.mk 7 (w, w) n)], 0) := by
    unfold holdsS
    rw [if_neg (by simp [hroad]), if_neg (by simp only [ne_eq, Decidable.not_not]; exact loadsS_of (l := [Load.mk 7 (w, w) n]) (by simp) hload)]
    rfl
  refine Exists.intro p2 (Exists.intro [(t, t)] (Exists.intro [] (Exists.intro [Load.mk 7 (w, w) n] (And.intro hp2 (And.intro hb21 (And.intro hb22 (And.intro ⟨rfl, by simp [BigL]⟩ (And.intro ⟨rfl, by simp [BigL]⟩ (And.intro ⟨by rw [hw]; rfl, by simp [BigL]⟩ ?_)))))))))
  rintro r e zs hre hzs
  rw [hho] at hre
  obtain ⟨rfl, rfl⟩ := Prod.mk.inj hre
  obtain ⟨v, hv⟩ : ∃ z, z = veS p2 [(t, t)] [] [Load.mk 7 (w, w) n] (Load.mk 7 (w, w) n) := ⟨_, rfl⟩
  rw [← hv] at hzs
  have hzs : zs = [I v] := hzs
  have hv1 : v = 1 ↔ w ≤ aloS p2 t n := by rw [hv]; exact alone_ve hV (by omega)
  have hzl : A.ne (A.vlen zs) 1 = false := by subst hA hzs; rfl
  have hz0 : A.ix 1 1 zs 0 [I v] := by subst hA hzs; exact ⟨rfl, by simp, _, rfl, rfl⟩
  cbv
  refine Exists.intro p2 (And.intro hp2 (And.intro hb21 (And.intro hb22 ?_)))
  rintro s es rs
  have hst : standsS p2 t w = (iLen (firstN (longQ p2 t w) 10001) - 1, 0) := by unfold standsS; rw [if_neg (by simp [hv2]), if_neg (by omega)]
  have hst2 := stands_iff hV (t := t) (w := w) (by omega) hnb
  rw [show standsS p2 t _ = standsS p2 t w from by rw [hw], hst] at rs
  obtain ⟨hs, rfl⟩ := Prod.mk.inj rs
  rw [← hs] at hst2
  have hle : A.le w m = decide (w ≤ aloS p2 t n) := by rw [hm]; subst hA; rfl
  have hx1 : A.bnot (A.beq (A.eq v 1) (A.le w m)) = false := by
    rw [hle]; subst hA
    simp only [std, iEq]
    by_cases h : w ≤ aloS p2 t n
    · rw [hv1.2 h, decide_eq_true h]; rfl
    · rw [decide_eq_false h, show (v == 1) = false by rw [beq_eq_false_iff_ne]; exact fun h2 => h (hv1.1 h2)]; rfl
  have hx2 : A.bnot (A.beq (A.le n s) (A.le w m)) = false := by
    rw [hle]; subst hA
    simp only [std, iLe]
    by_cases h : w ≤ aloS p2 t n
    · rw [decide_eq_true (hst2.2 h), decide_eq_true h]; rfl
    · rw [decide_eq_false (fun h2 => h (hst2.1 h2)), decide_eq_false h]; rfl
  rw [hw] at hx1 hx2
  cbv
  split <;> cbv
  · rename_i hq; exact Bool.noConfusion (hq.symm.trans hne0)
  split <;> cbv
  · rename_i hq; exact Bool.noConfusion (hq.symm.trans hne0)
  split <;> cbv
  · rename_i hq; exact Bool.noConfusion (hq.symm.trans hzl)
  refine Exists.intro _ (And.intro hz0 ?_)
  cbv
  split <;> cbv
  · rename_i hq; exact Bool.noConfusion (hq.symm.trans hx1)
  split <;> cbv
  · rename_i hq; exact Bool.noConfusion (hq.symm.trans hx2)
  refine Exists.intro p2 (And.intro hp2 (And.intro hb21 (And.intro hb22 ?_)))
  rintro q eq rq
  rw [show needS p2 _ n = needS p2 w n from by rw [hw]] at rq
  obtain ⟨F, hF⟩ : ∃ F, F = firstN (needQ p2 w n) 5001 := ⟨_, rfl⟩
  have hnd : needS p2 w n = if F < 5001 then (iLen F, 0) else (0, 14) := by unfold needS; rw [if_neg (by simp [hv2]), if_neg (by omega), ← hF]
  rw [hnd] at rq
  by_cases hF1 : F < 5001
  · rw [if_pos hF1] at rq
    obtain ⟨hq', rfl⟩ := Prod.mk.inj rq
    have hFat : needQ p2 w n F = true := by rw [hF]; exact firstN_at (by omega)
    have hFlt : ∀ i, i < F → needQ p2 w n i = false := fun i hi => firstN_lt (n := 5001) (by omega)
    have hqb : 0 ≤ q ∧ q ≤ 5000 := by rw [hq']; unfold iLen; omega
    have hqt : q ≤ t ↔ w ≤ aloS p2 t n := by
      have e1 : aloS p2 (iLen F) n = aloS p2 q n := by rw [hq']
      unfold needQ at hFat hFlt
      simp only [decide_eq_true_eq] at hFat
      constructor
      · intro h
        have := alo_up hV (t := q) (t' := t) (n := n) (by omega) h
        unfold iLen at e1
        omega
      · intro h
        refine Decidable.byContradiction fun h2 => ?_
        have h3 := hFlt t.toNat (by unfold iLen at hq'; omega)
        simp only [decide_eq_false_iff_not] at h3
        rw [show ((t.toNat : Nat) : Int) = t by omega] at h3
        exact h3 h
    cbv
    split <;> cbv
    · rename_i hq; exact Bool.noConfusion (hq.symm.trans hne0)
    refine Exists.intro p2 (And.intro hp2 (And.intro hb21 (And.intro hb22 ?_)))
    rintro m4 e4 r4
    rw [hbe q n hqb hnb] at r4
    obtain ⟨hm4, rfl⟩ := Prod.mk.inj r4
    have hy1 : A.lt m4 w = false := by
      unfold needQ at hFat
      simp only [decide_eq_true_eq] at hFat
      subst hA; simp only [std, iLt, decide_eq_false_iff_not]
      rw [hm4, hq']; unfold iLen; omega
    have hy2 : A.bnot (A.beq (A.le q t) (A.le w m)) = false := by
      rw [hle]; subst hA
      simp only [std, iLe]
      by_cases h : w ≤ aloS p2 t n
      · rw [decide_eq_true (hqt.2 h), decide_eq_true h]; rfl
      · rw [decide_eq_false (fun h2 => h (hqt.1 h2)), decide_eq_false h]; rfl
    rw [hw] at hy1 hy2
    cbv
    split <;> cbv
    · rename_i hq; exact Bool.noConfusion (hq.symm.trans hne0)
    split <;> cbv
    · rename_i hq; exact Bool.noConfusion (hq.symm.trans hy1)
    split <;> cbv
    · rename_i hq; exact Bool.noConfusion (hq.symm.trans hy2)
    split <;> cbv
    · rename_i hz
      have hz : 0 < q := by have hz : A.lt 0 q = true := hz; subst hA; simpa [std, iLt] using hz
      have hsb : A.sub .i64 q 1 = q - 1 := by subst hA; exact iSub_id (by omega) (by omega)
      refine Exists.intro p2 (And.intro hp2 (And.intro hb21 (And.intro hb22 ?_)))
      rintro m5 e5 r5
      rw [show bearsS p2 _ n = bearsS p2 (A.sub .i64 q 1) n from rfl, hsb, hbe (q - 1) n (by omega) hnb] at r5
      obtain ⟨hm5, rfl⟩ := Prod.mk.inj r5
      have hy3 : A.lt m5 w = true := by
        have h3 := hFlt (q - 1).toNat (by unfold iLen at hq'; omega)
        unfold needQ at h3
        simp only [decide_eq_false_iff_not] at h3
        rw [show (((q - 1).toNat : Nat) : Int) = q - 1 by omega] at h3
        subst hA; simp only [std, iLt, decide_eq_true_eq]
        rw [hm5]; omega
      have hy4 : A.eq q 0 = false := by subst hA; simp only [std, iEq]; rw [beq_eq_false_iff_ne]; omega
      rw [hw] at hy3
      cbv
      split <;> cbv
      · rename_i hq; exact Bool.noConfusion (hq.symm.trans hy4)
      split <;> cbv
      · split <;> cbv
        · exact hk _
        · rename_i hq; exact Bool.noConfusion (hq.symm.trans hy3)
      · rename_i hq; exact Bool.noConfusion (hq.symm.trans (heq0 0))
    · rename_i hz
      have hz : ¬ 0 < q := by have hz : A.lt 0 q = false := hz; subst hA; simpa [std, iLt] using hz
      have hy4 : A.eq q 0 = true := by subst hA; simp only [std, iEq]; rw [beq_iff_eq]; omega
      split <;> cbv
      · exact hk _
      · rename_i hq; exact Bool.noConfusion (hq.symm.trans hy4)
  · rw [if_neg hF1] at rq
    obtain ⟨rfl, rfl⟩ := Prod.mk.inj rq
    have hn14 : A.ne 14 0 = true := by subst hA; rfl
    have hFlt : needQ p2 w n 5000 = false := firstN_lt (n := 5001) (by omega)
    cbv
    split <;> cbv
    · refine Exists.intro p2 (And.intro hp2 (And.intro hb21 (And.intro hb22 ?_)))
      rintro m4 e4 r4
      rw [hbe 5000 n (by omega) hnb] at r4
      obtain ⟨hm4, rfl⟩ := Prod.mk.inj r4
      have hy1 : A.lt m4 w = true := by
        unfold needQ at hFlt
        simp only [decide_eq_false_iff_not] at hFlt
        rw [show ((5000 : Nat) : Int) = 5000 from rfl] at hFlt
        subst hA; simp only [std, iLt, decide_eq_true_eq]; omega
      rw [hw] at hy1
      cbv
      split <;> cbv
      · split <;> cbv
        · split <;> cbv
          · exact hk _
          · rename_i hq; exact Bool.noConfusion (hq.symm.trans hy1)
        · rename_i hq; exact Bool.noConfusion (hq.symm.trans (heq0 0))
      · rename_i hq; exact Bool.noConfusion (hq.symm.trans (heq0 14))
    · rename_i hq; exact Bool.noConfusion (hq.symm.trans hn14)
end Go.Sas
