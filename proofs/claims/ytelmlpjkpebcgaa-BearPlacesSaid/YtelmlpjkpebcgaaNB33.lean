/-
The law of places metre by metre answers true.
Conditions: none.
-/
import Derived.Test.YtelmlpjkpebcgaaM12
import Derived.Test.YtelmlpjkpebcgaaM16
import Derived.Test.YtelmlpjkpebcgaaNT6
import Derived.Test.YtelmlpjkpebcgaaM17
set_option linter.unusedVariables false
set_option linter.unusedSimpArgs false
namespace Go.Sas
open Go.Proofs
set_option maxRecDepth 100000
set_option maxHeartbeats 8000000 in
theorem core9 (nums : List Int) (hn1 : BigL nums) : ACalls Try.prog 9 [.vs 1 (nums.map I)] [] fun r _ => r = B true := by
  obtain ⟨Kk, hKk⟩ : ∃ K : AV → AHeap → Prop, K = fun r _ => r = B true := ⟨_, rfl⟩
  rw [← hKk]
  have hk : ∀ H, Kk (B true) H := fun H => by rw [hKk]
  clear hKk
  obtain ⟨xn, hxn⟩ : ∃ ys, ys = nums.map I := ⟨_, rfl⟩
  rw [← hxn]
  obtain ⟨A, hA⟩ : ∃ A, A = std := ⟨_, rfl⟩
  have hne0 : A.ne 0 0 = false := by subst hA; rfl
  refine go9 rfl (SGo_run hA ⟨[], [], (42, eLane) :: [], edl⟩ (.cons (eLane_ok p42) .nil) edl_ok 200 fun T TD hT hTD => ?_)
  cbv
  refine Exists.intro nums (And.intro ⟨hxn, hn1⟩ ?_)
  intro w1
  cbv
  refine Exists.intro () (And.intro trivial ?_)
  rintro w2 _ ⟨p2, a2, b2, xs2, ec2, ne2, ed2, gr2, lo2, hi2, sh2, wi2, rfl, hp2, hv2⟩
  cbv
  refine Exists.intro () (And.intro (by omega) ?_)
  rintro w3 _ ⟨beds, xb, rfl, hxb, hbl, hbd⟩
  have hvb : A.vlen xb = iLen beds.length := by subst hA; simp [std, hxb]
  have hb4 : 1 ≤ A.vlen xb ∧ A.vlen xb ≤ 1000 := by rw [hvb]; omega
  cbv
  refine Exists.intro () (And.intro (And.intro (by exact hb4) (by omega)) ?_)
  rintro w4 _ ⟨cr2, xc2, rfl, hxc2, hcl2, hcd2⟩
  cbv
  refine Exists.intro () (And.intro ⟨by simp, by simp, by exact AllI_lits (l := [10000, 40000])⟩ ?_)
  rintro w5 _ ⟨kq, rfl, hkq⟩
  simp at hkq
  cbv
  refine Exists.intro () (And.intro (by omega) ?_)
  rintro w6 _ ⟨u, v, rfl, u1, u2, u3⟩
  cbv
  have hpl2 := checkS_ok hv2
  have hb21 : Big p2.shares := by have := hpl2.sh.len; unfold Big; omega
  have hb22 : Big p2.creep := by have := hpl2.cr.len; unfold Big; omega
  have hbb : BigL beds := by unfold BigL; unfold iLen at hbl; omega
  have hbc : BigL cr2 := by unfold BigL; unfold iLen at hcl2; omega
  have hbl2 : beds.length ≤ 2 := by unfold iLen at hbl; omega
  have hroad : checkAllS p2 beds cr2 = 0 := by
    refine roadS_of hv2 (by omega) (fun x hx => by have := hbd x hx; omega) (by unfold iLen at hcl2; omega) (fun x hx => ?_)
    have h1 := hcd2 x hx
    rw [hvb] at h1
    unfold iLen at h1
    omega
  have hfw : faultS u v 0 200000 = 0 := faultS_of (by omega)
  have hlane : laneS p2 beds cr2 (u, v) = ((List.range beds.length).map (placeS p2 beds cr2 (u, v)), 0) := by
    unfold laneS
    rw [if_neg (by simp [hroad]), if_neg (by simp [hfw])]
  refine Exists.intro p2 (Exists.intro beds (Exists.intro cr2 (And.intro hp2 (And.intro hb21 (And.intro hb22 (And.intro ⟨hxb, hbb⟩ (And.intro ⟨hxc2, hbc⟩ ?_)))))))
  rintro r e zs hre hzs
  rw [hlane] at hre
  obtain ⟨rfl, rfl⟩ := Prod.mk.inj hre
  have hzl : A.ne (A.vlen zs) (A.vlen xb) = false := by subst hA hzs hxb; simp [std, iNe]
  cbv
  split <;> cbv
  · rename_i hq; exact Bool.noConfusion (hq.symm.trans hne0)
  split <;> cbv
  · rename_i hq; exact Bool.noConfusion (hq.symm.trans hzl)
  rw [hT]
  refine AGo_up beds.length (fun _ => True) (fun _ i => [(2, B false), (4, .mp 1 0 0), (5, .vs 2 xb), (6, .vs 2 xc2), (7, .mp 2 0 0), (8, .vs 1 zs), (10, I i)])
    (fun _ => [.own 0 [U w6], .own 0 [I a2, I b2, .vs 2 xs2, .vs 2 ec2, I ne2, I ed2, I gr2, I lo2, I hi2, I sh2, I wi2], .own 0 [I u, I v]]) trivial ⟨rfl, rfl, rfl, rfl, rfl, rfl, rfl, trivial⟩ (.inl rfl) fun k i hik hk0 _ Bk hB => ?_
  have hlt : A.lt i (A.vlen xb) = decide (k < beds.length) := by subst hA; exact lt_len (by simp [hxb]) hik
  have hadd : k < beds.length → A.add .i64 i 1 = iLen (k + 1) := fun hj => by subst hA; exact add_one hik hj (by omega)
  have hmul : A.mul .i64 100 i = 100 * iLen k := by subst hA; rw [hik]; exact iMul_id (by unfold iLen; omega) (by unfold iLen; omega)
  have hmul0 : A.mul .i64 100 i = 100 * iLen k + iLen 0 := by rw [hmul]; simp [iLen]
  have hmul1 : A.add .i64 (A.mul .i64 100 i) 100 = 100 * iLen k + 100 := by rw [hmul]; subst hA; exact iAdd_id (by unfold iLen; omega) (by unfold iLen; omega)
  refine SGo_run hA ⟨[], [], [], []⟩ .nil .nil 200 fun T TD hT hTD => ?_
  cbv
  split <;> cbv
  · rename_i hk1
    have hkb : k < beds.length := by have := hlt.symm.trans hk1; simpa using this
    rw [hT]
    obtain ⟨V, hV⟩ : ∃ V : Nat → Int, V = fun i => vA p2 beds cr2 (u, v) (100 * iLen k + iLen i) := ⟨_, rfl⟩
    have hVb : ∀ i, V i = 1 ∨ V i = 2 ∨ V i = 3 := fun i => by rw [hV]; exact vA_bnd
    have hpl : placeV V = placeS p2 beds cr2 (u, v) k := by rw [hV]; rfl
    refine AGo_up 100 (fun _ => True) (fun j m => [(2, B false), (4, .mp 1 0 0), (5, .vs 2 xb), (6, .vs 2 xc2), (7, .mp 2 0 0), (8, .vs 1 zs), (10, I i), (11, .ms 1 3 0 0 4), (12, I (100 * iLen k + m))])
      (fun j => [.own 0 [U w6], .own 0 [I a2, I b2, .vs 2 xs2, .vs 2 ec2, I ne2, I ed2, I gr2, I lo2, I hi2, I sh2, I wi2], .own 0 [I u, I v], .own 0 [I 0, I (iLen (cntV V 1 j)), I (iLen (cntV V 2 j)), I (iLen (cntV V 3 j))]]) trivial ⟨rfl, rfl, rfl, rfl, rfl, rfl, rfl, rfl, congrArg I hmul0, trivial⟩ (.inl rfl) fun j m hmj hj _ Bk2 hB2 => ?_
    obtain ⟨mq, hmq⟩ : ∃ z, z = 100 * iLen k + m := ⟨_, rfl⟩
    have hlt2 : A.lt mq (A.add .i64 (A.mul .i64 100 i) 100) = decide (j < 100) := by rw [hmul1]; subst hA; simp only [std, iLt, hmq, hmj]; unfold iLen; rw [decide_eq_decide]; omega
    have hadd2 : j < 100 → A.add .i64 mq 1 = 100 * iLen k + iLen (j + 1) := fun h => by rw [hmq]; subst hA; simp only [std]; rw [hmj, iAdd_id (by unfold iLen; omega) (by unfold iLen; omega)]; unfold iLen; omega
    have hmb : j < 100 → 0 ≤ mq ∧ mq < 100 * iLen beds.length := fun h => by rw [hmq, hmj]; unfold iLen; omega
    have hVj : vA p2 beds cr2 (u, v) mq = V j := by rw [hV, hmq, hmj]
    rw [← hmq]
    obtain ⟨c1, hc1⟩ : ∃ c, c = iLen (cntV V 1 j) := ⟨_, rfl⟩
    obtain ⟨c2, hc2⟩ : ∃ c, c = iLen (cntV V 2 j) := ⟨_, rfl⟩
    obtain ⟨c3, hc3⟩ : ∃ c, c = iLen (cntV V 3 j) := ⟨_, rfl⟩
    have ha1 : j < 100 → A.add .i64 c1 1 = iLen (cntV V 1 j + 1) := fun h => by have := cntV_le (v := V) (c := 1) j; subst hA; exact add_one hc1 (N := 1000) (by omega) (by omega)
    have ha2 : j < 100 → A.add .i64 c2 1 = iLen (cntV V 2 j + 1) := fun h => by have := cntV_le (v := V) (c := 2) j; subst hA; exact add_one hc2 (N := 1000) (by omega) (by omega)
    have ha3 : j < 100 → A.add .i64 c3 1 = iLen (cntV V 3 j + 1) := fun h => by have := cntV_le (v := V) (c := 3) j; subst hA; exact add_one hc3 (N := 1000) (by omega) (by omega)
    rw [← hc1, ← hc2, ← hc3]
    refine SGo_run hA ⟨[], [], (44, eMkLoads) :: (25, eHolds) :: [], []⟩ (.cons eMkLoads_ok (.cons (eHolds_ok p25) .nil)) .nil 200 fun T TD hT hTD => ?_
    cbv
    split <;> cbv
    · rename_i hj1
      have hj1 : j < 100 := by have := hlt2.symm.trans hj1; simpa using this
      refine Exists.intro [mq] (And.intro ⟨rfl, by simp⟩ ?_)
      rintro ys hys
      cbv
      obtain ⟨hm1, hm2⟩ := hmb hj1
      have hload : ∀ x ∈ [Load.mk mq (u, v) 0], LoadV beds.length x := fun x hx => by
        simp at hx; subst hx
        unfold iLen at hm2
        exact ⟨hm1, by simp only; omega, u1, u2, by simp only; omega, by simp, by simp⟩
      have hho : holdsS p2 beds cr2 [Load.mk mq (u, v) 0] = ([V j], 0) := by
        unfold holdsS
        rw [if_neg (by simp [hroad]), if_neg (by simp [loadsS_of (l := [Load.mk mq (u, v) 0]) (by simp) hload])]
        rw [← hVj]; rfl
      refine Exists.intro p2 (Exists.intro beds (Exists.intro cr2 (Exists.intro [Load.mk mq (u, v) 0] (And.intro hp2 (And.intro hb21 (And.intro hb22 (And.intro ⟨hxb, hbb⟩ (And.intro ⟨hxc2, hbc⟩ (And.intro ⟨hys, by simp [BigL]⟩ ?_)))))))))
      rintro r e qs hre hqs
      rw [hho] at hre
      obtain ⟨rfl, rfl⟩ := Prod.mk.inj hre
      obtain ⟨vj, hvj⟩ : ∃ z, z = V j := ⟨_, rfl⟩
      rw [← hvj] at hqs
      have hqs : qs = [I vj] := hqs
      have hql : A.ne (A.vlen qs) 1 = false := by subst hA hqs; rfl
      have hq0 : A.ix 1 1 qs 0 [I vj] := by subst hA hqs; exact ⟨rfl, by simp, _, rfl, rfl⟩
      have hq1 : A.lt vj 1 = false := by subst hA; simp only [std, iLt]; rw [decide_eq_false_iff_not]; have := hVb j; omega
      have hq3 : A.lt 3 vj = false := by subst hA; simp only [std, iLt]; rw [decide_eq_false_iff_not]; have := hVb j; omega
      cbv
      split <;> cbv
      · rename_i hq; exact Bool.noConfusion (hq.symm.trans hne0)
      split <;> cbv
      · rename_i hq; exact Bool.noConfusion (hq.symm.trans hql)
      refine Exists.intro _ (And.intro hq0 ?_)
      cbv
      split <;> cbv
      · rename_i hq; exact Bool.noConfusion (hq.symm.trans hq1)
      refine Exists.intro _ (And.intro hq0 ?_)
      cbv
      split <;> cbv
      · rename_i hq; exact Bool.noConfusion (hq.symm.trans hq3)
      have hs : ∀ c : Int, cntV V c (j + 1) = cntV V c j + if V j = c then 1 else 0 := fun c => rfl
      have hH : ∀ x y z : Int, x = iLen (cntV V 1 (j + 1)) → y = iLen (cntV V 2 (j + 1)) → z = iLen (cntV V 3 (j + 1)) → [AObj.own 0 [U w6], .own 0 [I a2, I b2, .vs 2 xs2, .vs 2 ec2, I ne2, I ed2, I gr2, I lo2, I hi2, I sh2, I wi2], .own 0 [I u, I v], .own 0 [I 0, I x, I y, I z]] =
        [AObj.own 0 [U w6], .own 0 [I a2, I b2, .vs 2 xs2, .vs 2 ec2, I ne2, I ed2, I gr2, I lo2, I hi2, I sh2, I wi2], .own 0 [I u, I v], .own 0 [I 0, I (iLen (cntV V 1 (j + 1))), I (iLen (cntV V 2 (j + 1))), I (iLen (cntV V 3 (j + 1)))]] := by rintro _ _ _ rfl rfl rfl; rfl
      rcases hVb j with hv | hv | hv
      · rw [← hvj] at hv; subst hv
        refine Exists.intro _ (And.intro hq0 ?_)
        cbv
        refine hB2 _ _ hj1 trivial ⟨rfl, rfl, rfl, rfl, rfl, rfl, rfl, rfl, congrArg I (hadd2 hj1), trivial⟩ (.inl (hH _ _ _ ((ha1 hj1).trans (by rw [hs, ← hvj]; rfl)) (hc2.trans (by rw [hs, ← hvj]; rfl)) (hc3.trans (by rw [hs, ← hvj]; rfl))))
      · rw [← hvj] at hv; subst hv
        refine Exists.intro _ (And.intro hq0 ?_)
        cbv
        refine hB2 _ _ hj1 trivial ⟨rfl, rfl, rfl, rfl, rfl, rfl, rfl, rfl, congrArg I (hadd2 hj1), trivial⟩ (.inl (hH _ _ _ (hc1.trans (by rw [hs, ← hvj]; rfl)) ((ha2 hj1).trans (by rw [hs, ← hvj]; rfl)) (hc3.trans (by rw [hs, ← hvj]; rfl))))
      · rw [← hvj] at hv; subst hv
        refine Exists.intro _ (And.intro hq0 ?_)
        cbv
        refine hB2 _ _ hj1 trivial ⟨rfl, rfl, rfl, rfl, rfl, rfl, rfl, rfl, congrArg I (hadd2 hj1), trivial⟩ (.inl (hH _ _ _ (hc1.trans (by rw [hs, ← hvj]; rfl)) (hc2.trans (by rw [hs, ← hvj]; rfl)) ((ha3 hj1).trans (by rw [hs, ← hvj]; rfl))))
    · rename_i hj1
      have hj1 : ¬ j < 100 := by have := hlt2.symm.trans hj1; simpa using this
      have hj2 : j = 100 := by omega
      obtain ⟨pv, hpv⟩ : ∃ z, z = placeV V := ⟨_, rfl⟩
      have hzk : A.ix 1 1 zs i [I pv] := by
        subst hA
        exact ix_map hzs hik (x := pv) (by rw [List.getElem?_map, List.getElem?_range hkb, hpv, hpl]; rfl) rfl
      have hcnt := placeV_cnt (v := V)
      rw [← hpv] at hcnt
      rw [hj2] at hc1 hc2
      have hap : cntV V 1 100 = 100 → cntV V 2 100 ≠ 100 := cntV_apart (by decide) (by decide)
      have hpb : pv = 1 ∨ pv = 2 ∨ pv = 3 := by rw [hcnt]; split; simp; split <;> simp
      have hx1 : A.bnot (A.beq (A.eq pv 1) (A.eq c1 100)) = false := by
        subst hA; simp only [std, iEq]
        rw [hcnt, hc1]; unfold iLen
        by_cases h1 : cntV V 1 100 = 100
        · rw [if_neg (hap h1), if_pos h1, h1]; rfl
        · rw [if_neg h1]
          have : ((cntV V 1 100 : Nat) : Int) ≠ 100 := by omega
          split <;> simp [this]
      have hx2 : A.bnot (A.beq (A.eq pv 2) (A.eq c2 100)) = false := by
        subst hA; simp only [std, iEq]
        rw [hcnt, hc2]; unfold iLen
        by_cases h1 : cntV V 2 100 = 100
        · rw [if_pos h1, h1]; rfl
        · rw [if_neg h1]
          have : ((cntV V 2 100 : Nat) : Int) ≠ 100 := by omega
          split <;> simp [this]
      have hx3 : A.lt pv 1 = false := by subst hA; simp only [std, iLt]; rw [decide_eq_false_iff_not]; omega
      have hx4 : A.lt 3 pv = false := by subst hA; simp only [std, iLt]; rw [decide_eq_false_iff_not]; omega
      refine Exists.intro _ (And.intro hzk ?_)
      cbv
      split <;> cbv
      · rename_i hq; exact Bool.noConfusion (hq.symm.trans hx1)
      refine Exists.intro _ (And.intro hzk ?_)
      cbv
      split <;> cbv
      · rename_i hq; exact Bool.noConfusion (hq.symm.trans hx2)
      refine Exists.intro _ (And.intro hzk ?_)
      cbv
      split <;> cbv
      · rename_i hq; exact Bool.noConfusion (hq.symm.trans hx3)
      refine Exists.intro _ (And.intro hzk ?_)
      cbv
      split <;> cbv
      · rename_i hq; exact Bool.noConfusion (hq.symm.trans hx4)
      refine hB _ _ hkb trivial ⟨rfl, rfl, rfl, rfl, rfl, rfl, congrArg I (hadd hkb), trivial⟩ (hf_drop _ rfl (Nat.zero_le _) rfl)
  · rw [hT]
    refine SGo_run hA ⟨[], [], (19, eTrue) :: [], []⟩ (.cons eTrue_ok .nil) .nil 200 fun T TD hT hTD => ?_
    cbv
    exact hk _
end Go.Sas
