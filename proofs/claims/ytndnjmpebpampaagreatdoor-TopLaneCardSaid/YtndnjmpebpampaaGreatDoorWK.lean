/-
Convoys made of numbers: contract.
The table of what the law of trucks draws.
Conditions: none.
-/
import Derived.Test.YtndnjmpebpampaaGreatDoorWJ
import Derived.Test.YtndnjmpebpampaaGreatDoorJ9
set_option linter.unusedVariables false
set_option linter.unusedSimpArgs false
namespace Go.Sas
open Go.Proofs
set_option maxRecDepth 100000
def ed5 : ETab := (19, eDraw sTruck) :: ed2
theorem ed5_ok : ETabOk Tryz.prog ed5 := .cons (eDraw_ok sTruck_ok) ed2_ok
abbrev tkCl (t : Tck) : List AV := [I t.way, I t.st, I t.lo, I t.hi, .vs 2 (t.hs.map hdV)]
theorem Elems_tk (l : List Tck) : Elems 5 (l.map tkA) (l.flatMap tkCl) := Elems_map (f := tkA) (g := tkCl) (sz := 5) (fun _ => rfl) (fun _ => rfl) (fun _ => rfl) l
set_option maxHeartbeats 4000000 in
theorem d5 (most : Int) (hm : 0 ≤ most ∧ most ≤ 8) : Draws Tryz.prog 5 [I most] (CvQ most) := by
  refine .of rfl (by rintro r ⟨_, _, _, _, rfl, _⟩; rfl) fun w Kk h => ACalls.frees ?_
  obtain ⟨A, hA⟩ : ∃ A, A = std := ⟨_, rfl⟩
  have hsg : ∀ g, A.sg g g := by subst hA; exact fun _ => rfl
  have hll : ∀ x y, A.lt x y = decide (x < y) := by subst hA; intro x y; rfl
  have hee : ∀ x y, A.eq x y = decide (x = y) := by subst hA; intro x y; exact iEqd _ _
  have hadd1 : A.add .i64 most 1 = most + 1 := by subst hA; exact iAdd_id (by omega) (by omega)
  obtain ⟨F, hF⟩ : ∃ F, F = Frees 1 Kk := ⟨_, rfl⟩
  rw [show Frees [AObj.own 0 [U w]].length Kk = F from hF.symm]
  refine go5 rfl (SGo_run hA ⟨[], [], [], ed5⟩ .nil ed5_ok 200 fun T TD hT hTD => ?_)
  cbv
  refine Exists.intro () (And.intro (by omega) ?_)
  rintro w1 _ ⟨L, rfl, ha1, ha2⟩
  cbv
  refine Exists.intro () (And.intro (by omega) ?_)
  rintro w2 _ ⟨fl, rfl, hb1, hb2⟩
  cbv
  refine Exists.intro () (And.intro (by show A.add .i64 most 1 ≤ _; rw [hadd1]; omega) ?_)
  rintro w3 _ ⟨nv, rfl, hn1, hn2⟩
  have hn2 : nv < A.add .i64 most 1 ∨ nv = 0 := hn2
  rw [hadd1] at hn2
  cbv
  rw [hT]
  refine AGo_wkO 2 [I L, I 70, I fl, .vs 5 []] rfl ⟨Wk.rfl, Wk.rfl, Wk.rfl, Wk.nil, trivial⟩ rfl ?_
  obtain ⟨N, hN⟩ : ∃ N : Nat, nv = iLen N := ⟨nv.toNat, by unfold iLen; omega⟩
  have hNb : iLen N ≤ most := by unfold iLen at hN ⊢; omega
  have hN8 : N ≤ 8 := by unfold iLen at hN; omega
  have hLb : 60 ≤ L ∧ L ≤ 300 := by omega
  have hfb : 0 ≤ fl ∧ fl ≤ 2 := by omega
  clear ha1 ha2 hb1 hb2
  refine AGo_upE [0, 4, 5] N (fun j (z : Int × List Tck) => z.2.length ≤ j ∧ AccQ ⟨L, 70, fl, z.2⟩) (fun j _ _ => [(6, I (nv - iLen j))])
    (fun j z => [.own 0 [U z.1], .own 0 [I 0, I 0, I 0, .lit (.slice none 0 0)], .own 0 [I L, I 70, I fl, .vs 5 (z.2.map tkA)]]) (w3, []) ⟨by simp, acc_none hLb hfb⟩ ⟨congrArg I (show nv = nv - iLen 0 by simp [iLen]), trivial⟩ (.inl rfl) fun j z i hi hj hP Bk hB => ?_
  obtain ⟨w4, trs⟩ := z
  obtain ⟨hP1, hP2⟩ := hP
  dsimp only at hP1 hP2 ⊢
  obtain ⟨c, hc⟩ : ∃ c, c = nv - iLen j := ⟨_, rfl⟩
  rw [← hc]
  have hlt : A.lt 0 c = decide (j < N) := by rw [hll, hc, hN]; rw [Bool.eq_iff_iff]; unfold iLen; simp only [decide_eq_true_eq]; omega
  have hsub : A.sub .i64 c 1 = c - 1 := by subst hA; exact iSub_id (by rw [hc, hN]; clear hlt; unfold iLen at *; omega) (by rw [hc, hN]; clear hlt; unfold iLen at *; omega)
  obtain ⟨ys, hys⟩ : ∃ ys, ys = trs.map tkA := ⟨_, rfl⟩
  obtain ⟨cs0, hcs0⟩ : ∃ c, c = trs.flatMap tkCl := ⟨_, rfl⟩
  obtain ⟨n0, hn0⟩ : ∃ n, n = trs.length := ⟨_, rfl⟩
  have hcl0 : cs0.length = n0 * 5 := by rw [hcs0, hn0]; exact len_flat (k := 5) (fun _ => rfl) _
  have happ0 : A.app 5 5 56 [] 0 0 ys cs0 n0 := by
    subst hA hn0
    refine ⟨rfl, by simp, by rw [hys]; simp only [List.length_map]; omega, by rw [hys]; simp, cs0, ?_, by simp⟩
    rw [cellsL_eq, hys, hcs0]; exact (Elems_tk trs).1
  rw [← hys]
  refine SGo_run hA ⟨[], [], [], ed5⟩ .nil ed5_ok 200 fun T TD hT hTD => ?_
  cbv
  split <;> cbv
  · rename_i hz
    have hk1 : j < N := by have hz := hlt.symm.trans hz; simpa using hz
    refine Exists.intro () (And.intro (by omega) ?_)
    rintro w5 _ ⟨tw, ts, tl, th, hs, zs, rfl, hzs, hV⟩
    cbv
    refine Exists.intro () (And.intro (by omega) ?_)
    rintro w6 _ ⟨b, rfl⟩
    cbv
    split <;> cbv
    · rw [hT]
      refine AGo_wkO 3 [I tw, I ts, I tl, I th, .vs 2 []] rfl ⟨Wk.rfl, Wk.rfl, Wk.rfl, Wk.rfl, Wk.nil, trivial⟩ rfl ?_
      have hzs : [] = ([] : List Hld).map hdV := rfl
      have hV : TckV L 70 ⟨tw, ts, tl, th, []⟩ := hV.free true
      refine AGo_upE [0, 4, 5, 6, 7] 12 (fun _ (z : Int × Int) => 0 ≤ z.2 ∧ z.2 ≤ 10000) (fun _ _ i => [(8, I i)])
        (fun _ z => [.own 0 [U z.1], .own 0 [I 0, I 0, I 0, .lit (.slice none 0 0)], .own 0 [I L, I 70, I fl, .vs 5 ys], .own 0 [I tw, I z.2, I tl, I th, .vs 2 []]]) (w6, ts) (by have hq := hV.st; exact hq) ⟨rfl, trivial⟩ (.inl rfl) fun j2 z i2 hi2 hj2 hP3 Bk2 hB2 => ?_
      obtain ⟨w7, ts2⟩ := z
      dsimp only at hP3 ⊢
      have hlt2 : A.lt i2 12 = decide (j2 < 12) := by rw [hll, hi2]; rw [Bool.eq_iff_iff]; unfold iLen; simp only [decide_eq_true_eq]; omega
      have hadd2 : ∀ N, j2 < N → N ≤ 9223372036854775807 → A.add .i64 i2 1 = iLen (j2 + 1) := fun N hj hN => by subst hA; exact add_one hi2 hj hN
      have hmul : j2 < 12 → A.mul .i64 40 (A.add .i64 i2 1) = 40 * (iLen j2 + 1) := fun hj => by rw [hadd2 12 hj (by omega)]; subst hA; show iMul .i64 40 _ = _; rw [iMul_id (by unfold iLen; omega) (by unfold iLen; omega)]; unfold iLen; omega
      refine SGo_run hA ⟨[5], [1000023], [], ((21, eMut eMeetsR) :: ed5)⟩ .nil (.cons (eMut_ok eMeetsR_ok) ed5_ok) 200 fun T TD hT hTD => ?_
      cbv
      split <;> cbv
      · rename_i hz2
        have hk2 : j2 < 12 := by have hz2 := hlt2.symm.trans hz2; simpa using hz2
        have hmul := hmul hk2
        refine Exists.intro () (And.intro (by show A.mul .i64 40 (A.add .i64 i2 1) ≤ _; rw [hmul]; unfold iLen; omega) ?_)
        rintro w8 _ ⟨st2, rfl, hs1, hs2⟩
        have hs2 : st2 < A.mul .i64 40 (A.add .i64 i2 1) ∨ st2 = 0 := hs2
        rw [hmul] at hs2
        cbv
        refine Exists.intro cs0 (Exists.intro n0 (And.intro happ0 (And.intro rfl ?_))); cbv
        refine And.intro (by subst hA; simp [std, Keep, SubH, ResK]) ?_; cbv
        obtain ⟨cs1, hcs1⟩ : ∃ c, c = (trs ++ [(⟨tw, st2, tl, th, []⟩ : Tck)]).flatMap tkCl := ⟨_, rfl⟩
        have happ1 : A.app 5 5 56 cs0 0 n0 [.agg [I tw, I st2, I tl, I th, .vs 2 []]] cs1 (n0 + 1) := by
          rw [show cs1 = cs0 ++ [I tw, I st2, I tl, I th, .vs 2 []] by rw [hcs1, List.flatMap_append, ← hcs0, hzs]; rfl]; subst hA; exact app_one hcl0 rfl (by omega)
        refine And.intro (hsg _) (Exists.intro cs1 (Exists.intro (n0 + 1) (And.intro happ1 (And.intro rfl ?_)))); cbv
        repeat (refine And.intro (by subst hA; simp [std, Keep, SubH, ResK]) ?_; cbv)
        obtain ⟨xs1, hxs1⟩ : ∃ c, c = (trs ++ [(⟨tw, st2, tl, th, []⟩ : Tck)]).map tkA := ⟨_, rfl⟩
        have hEl1 : Elems 5 xs1 cs1 := by rw [hxs1, hcs1]; exact Elems_tk _
        have hxl1 : xs1.length = n0 + 1 := by rw [hxs1, hn0]; simp
        have hTS : TrsS (trs ++ [(⟨tw, st2, tl, th, []⟩ : Tck)]) := fun t ht => by
          have key : ∀ t' : Tck, TckV L 70 t' → HldS t'.hs ∧ t'.hs.length ≤ 1000 := fun t' h' => ⟨h'.hldS (by omega), by have := h'.hs.n; omega⟩
          rcases List.mem_append.1 ht with ht | ht
          · exact key _ (hP2.v.all t ht)
          · rw [List.mem_singleton.1 ht]; exact key ⟨tw, ts, tl, th, []⟩ hV
        refine Exists.intro xs1 (And.intro ⟨rfl, hEl1, hxl1⟩ ?_); cbv
        refine Exists.intro (trs ++ [(⟨tw, st2, tl, th, []⟩ : Tck)]) (And.intro ⟨hxs1, ⟨⟨by omega, by omega⟩, by omega, by omega⟩, hTS, by simp; omega⟩ ?_)
        intro a1 a2 a3 a6 a7 a4 a5 e he; cbv
        split <;> cbv
        · rename_i hz3
          have hz3 : e = 7 := by simpa using (hee _ _).symm.trans hz3
          have hacc := he hz3
          rw [hT]
          refine AGo_frz 5 1 5 xs1 rfl hEl1 ?_
          have e1 : AV.frz 5 1 5 xs1 (.ms 5 5 1 0 (n0 + 1)) = .vs 5 xs1 := frz_self hxl1
          have e2 : AV.frz 5 1 5 xs1 (.vs 5 ys) = .vs 5 ys := AV.frz_nid (by simp only [AV.nid])
          have e3 : AV.frz 5 1 5 xs1 (.vs 2 []) = .vs 2 [] := AV.frz_nid (by simp only [AV.nid])
          show AGo _ _ _ _ ⟨[], [(8, I i2), (0, .mp 0 0 0), (4, .mp 1 0 0), (5, .mp 2 0 0), (6, I c), (7, .mp 3 0 0), (33, B true), (9, .mp 4 0 0), (11, I e), (57, B true)]⟩ [.own 0 [U w8], .own 0 [I 0, I 0, I 0, .lit (.slice none 0 0)], .own 0 [I L, I 70, I fl, AV.frz 5 1 5 xs1 (.ms 5 5 1 0 (n0 + 1))], .own 0 [I tw, I st2, I tl, I th, AV.frz 5 1 5 xs1 (.vs 2 [])], .own 0 [I L, I 70, I fl, AV.frz 5 1 5 xs1 (.ms 5 5 1 0 (n0 + 1))], .gone, .own 0 [I a1, I a2, I a3, B a4, B a5, I a6, I a7]]
          rw [e1, e3]
          refine SGo_run hA ⟨[], [], [], []⟩ .nil .nil 200 fun T TD hT hTD => ?_
          cbv
          refine hB (w8, trs ++ [(⟨tw, st2, tl, th, []⟩ : Tck)]) _ _ hk1 ⟨by simp; omega, hacc⟩ ⟨congrArg I (show A.sub .i64 c 1 = nv - iLen (j + 1) by rw [hsub, hc]; unfold iLen; omega), trivial⟩ ⟨rfl, rfl, rfl, trivial⟩ (.inr ⟨⟨_, by rw [← hxs1]; rfl⟩, by simp, by simp [ltG, AV.lt, AV.ltL, keepS, look, gset], by simp [ltH, AObj.lt, AV.ltL, AV.lt]⟩)
        · refine hB2 (w8, st2) _ _ hk2 (by dsimp only; unfold iLen at hs2; omega) ⟨congrArg I (hadd2 _ hk2 (by omega)), trivial⟩ ⟨rfl, rfl, rfl, rfl, rfl, trivial⟩ (.inr ⟨⟨_, rfl⟩, by simp, by simp [ltG, AV.lt, AV.ltL, keepS, look, gset], by simp [ltH, AObj.lt, AV.ltL, AV.lt]⟩)
      · rw [hT]
        refine SGo_run hA ⟨[], [], [], []⟩ .nil .nil 200 fun T TD hT hTD => ?_
        cbv
        refine hB (w7, trs) _ _ hk1 ⟨by dsimp only; omega, hP2⟩ ⟨congrArg I (show A.sub .i64 c 1 = nv - iLen (j + 1) by rw [hsub, hc]; unfold iLen; omega), trivial⟩ ⟨rfl, rfl, rfl, trivial⟩ (.inr ⟨⟨_, by rw [← hys]; rfl⟩, by simp, by simp [ltG, AV.lt, AV.ltL, keepS, look, gset], by simp [ltH, AObj.lt, AV.ltL, AV.lt]⟩)
    · rw [hT]
      have hzs : zs = (hs : List Hld).map hdV := hzs
      have hV : TckV L 70 ⟨tw, ts, tl, th, hs⟩ := hV
      refine AGo_upE [0, 4, 5, 6, 7] 12 (fun _ (z : Int × Int) => 0 ≤ z.2 ∧ z.2 ≤ 10000) (fun _ _ i => [(8, I i)])
        (fun _ z => [.own 0 [U z.1], .own 0 [I 0, I 0, I 0, .lit (.slice none 0 0)], .own 0 [I L, I 70, I fl, .vs 5 ys], .own 0 [I tw, I z.2, I tl, I th, .vs 2 zs]]) (w6, ts) (by have hq := hV.st; exact hq) ⟨rfl, trivial⟩ (.inl rfl) fun j2 z i2 hi2 hj2 hP3 Bk2 hB2 => ?_
      obtain ⟨w7, ts2⟩ := z
      dsimp only at hP3 ⊢
      have hlt2 : A.lt i2 12 = decide (j2 < 12) := by rw [hll, hi2]; rw [Bool.eq_iff_iff]; unfold iLen; simp only [decide_eq_true_eq]; omega
      have hadd2 : ∀ N, j2 < N → N ≤ 9223372036854775807 → A.add .i64 i2 1 = iLen (j2 + 1) := fun N hj hN => by subst hA; exact add_one hi2 hj hN
      have hmul : j2 < 12 → A.mul .i64 40 (A.add .i64 i2 1) = 40 * (iLen j2 + 1) := fun hj => by rw [hadd2 12 hj (by omega)]; subst hA; show iMul .i64 40 _ = _; rw [iMul_id (by unfold iLen; omega) (by unfold iLen; omega)]; unfold iLen; omega
      refine SGo_run hA ⟨[5], [1000023], [], ((21, eMut eMeetsR) :: ed5)⟩ .nil (.cons (eMut_ok eMeetsR_ok) ed5_ok) 200 fun T TD hT hTD => ?_
      cbv
      split <;> cbv
      · rename_i hz2
        have hk2 : j2 < 12 := by have hz2 := hlt2.symm.trans hz2; simpa using hz2
        have hmul := hmul hk2
        refine Exists.intro () (And.intro (by show A.mul .i64 40 (A.add .i64 i2 1) ≤ _; rw [hmul]; unfold iLen; omega) ?_)
        rintro w8 _ ⟨st2, rfl, hs1, hs2⟩
        have hs2 : st2 < A.mul .i64 40 (A.add .i64 i2 1) ∨ st2 = 0 := hs2
        rw [hmul] at hs2
        cbv
        refine Exists.intro cs0 (Exists.intro n0 (And.intro happ0 (And.intro rfl ?_))); cbv
        refine And.intro (by subst hA; simp [std, Keep, SubH, ResK]) ?_; cbv
        obtain ⟨cs1, hcs1⟩ : ∃ c, c = (trs ++ [(⟨tw, st2, tl, th, hs⟩ : Tck)]).flatMap tkCl := ⟨_, rfl⟩
        have happ1 : A.app 5 5 56 cs0 0 n0 [.agg [I tw, I st2, I tl, I th, .vs 2 zs]] cs1 (n0 + 1) := by
          rw [show cs1 = cs0 ++ [I tw, I st2, I tl, I th, .vs 2 zs] by rw [hcs1, List.flatMap_append, ← hcs0, hzs]; rfl]; subst hA; exact app_one hcl0 rfl (by omega)
        refine And.intro (hsg _) (Exists.intro cs1 (Exists.intro (n0 + 1) (And.intro happ1 (And.intro rfl ?_)))); cbv
        repeat (refine And.intro (by subst hA; simp [std, Keep, SubH, ResK]) ?_; cbv)
        obtain ⟨xs1, hxs1⟩ : ∃ c, c = (trs ++ [(⟨tw, st2, tl, th, hs⟩ : Tck)]).map tkA := ⟨_, rfl⟩
        have hEl1 : Elems 5 xs1 cs1 := by rw [hxs1, hcs1]; exact Elems_tk _
        have hxl1 : xs1.length = n0 + 1 := by rw [hxs1, hn0]; simp
        have hTS : TrsS (trs ++ [(⟨tw, st2, tl, th, hs⟩ : Tck)]) := fun t ht => by
          have key : ∀ t' : Tck, TckV L 70 t' → HldS t'.hs ∧ t'.hs.length ≤ 1000 := fun t' h' => ⟨h'.hldS (by omega), by have := h'.hs.n; omega⟩
          rcases List.mem_append.1 ht with ht | ht
          · exact key _ (hP2.v.all t ht)
          · rw [List.mem_singleton.1 ht]; exact key ⟨tw, ts, tl, th, hs⟩ hV
        refine Exists.intro xs1 (And.intro ⟨rfl, hEl1, hxl1⟩ ?_); cbv
        refine Exists.intro (trs ++ [(⟨tw, st2, tl, th, hs⟩ : Tck)]) (And.intro ⟨hxs1, ⟨⟨by omega, by omega⟩, by omega, by omega⟩, hTS, by simp; omega⟩ ?_)
        intro a1 a2 a3 a6 a7 a4 a5 e he; cbv
        split <;> cbv
        · rename_i hz3
          have hz3 : e = 7 := by simpa using (hee _ _).symm.trans hz3
          have hacc := he hz3
          rw [hT]
          refine AGo_frz 5 1 5 xs1 rfl hEl1 ?_
          have e1 : AV.frz 5 1 5 xs1 (.ms 5 5 1 0 (n0 + 1)) = .vs 5 xs1 := frz_self hxl1
          have e2 : AV.frz 5 1 5 xs1 (.vs 5 ys) = .vs 5 ys := AV.frz_nid (by simp only [AV.nid])
          have e3 : AV.frz 5 1 5 xs1 (.vs 2 zs) = .vs 2 zs := AV.frz_nid (by simp only [AV.nid])
          show AGo _ _ _ _ ⟨[], [(8, I i2), (0, .mp 0 0 0), (4, .mp 1 0 0), (5, .mp 2 0 0), (6, I c), (7, .mp 3 0 0), (33, B true), (9, .mp 4 0 0), (11, I e), (57, B true)]⟩ [.own 0 [U w8], .own 0 [I 0, I 0, I 0, .lit (.slice none 0 0)], .own 0 [I L, I 70, I fl, AV.frz 5 1 5 xs1 (.ms 5 5 1 0 (n0 + 1))], .own 0 [I tw, I st2, I tl, I th, AV.frz 5 1 5 xs1 (.vs 2 zs)], .own 0 [I L, I 70, I fl, AV.frz 5 1 5 xs1 (.ms 5 5 1 0 (n0 + 1))], .gone, .own 0 [I a1, I a2, I a3, B a4, B a5, I a6, I a7]]
          rw [e1, e3]
          refine SGo_run hA ⟨[], [], [], []⟩ .nil .nil 200 fun T TD hT hTD => ?_
          cbv
          refine hB (w8, trs ++ [(⟨tw, st2, tl, th, hs⟩ : Tck)]) _ _ hk1 ⟨by simp; omega, hacc⟩ ⟨congrArg I (show A.sub .i64 c 1 = nv - iLen (j + 1) by rw [hsub, hc]; unfold iLen; omega), trivial⟩ ⟨rfl, rfl, rfl, trivial⟩ (.inr ⟨⟨_, by rw [← hxs1]; rfl⟩, by simp, by simp [ltG, AV.lt, AV.ltL, keepS, look, gset], by simp [ltH, AObj.lt, AV.ltL, AV.lt]⟩)
        · refine hB2 (w8, st2) _ _ hk2 (by dsimp only; unfold iLen at hs2; omega) ⟨congrArg I (hadd2 _ hk2 (by omega)), trivial⟩ ⟨rfl, rfl, rfl, rfl, rfl, trivial⟩ (.inr ⟨⟨_, rfl⟩, by simp, by simp [ltG, AV.lt, AV.ltL, keepS, look, gset], by simp [ltH, AObj.lt, AV.ltL, AV.lt]⟩)
      · rw [hT]
        refine SGo_run hA ⟨[], [], [], []⟩ .nil .nil 200 fun T TD hT hTD => ?_
        cbv
        refine hB (w7, trs) _ _ hk1 ⟨by dsimp only; omega, hP2⟩ ⟨congrArg I (show A.sub .i64 c 1 = nv - iLen (j + 1) by rw [hsub, hc]; unfold iLen; omega), trivial⟩ ⟨rfl, rfl, rfl, trivial⟩ (.inr ⟨⟨_, by rw [← hys]; rfl⟩, by simp, by simp [ltG, AV.lt, AV.ltL, keepS, look, gset], by simp [ltH, AObj.lt, AV.ltL, AV.lt]⟩)
  · rw [hF]
    refine Frees.drop1 rfl (h _ _ ⟨L, fl, trs, ys, rfl, hys, hLb, hfb, hP2, by unfold iLen at hNb ⊢; omega⟩)
end Go.Sas
namespace Go.Sas
open Go.Proofs
def sAcc : List AV → Option ((Unit → Prop) × (AV → Prop))
  | [.lit (.int .i64 most)] => some (fun _ => 0 ≤ most ∧ most ≤ 8, CvQ most)
  | _ => none
theorem sAcc_ok : ∀ rest pre Q, sAcc rest = some (pre, Q) → pre () → Draws Tryz.prog 5 rest Q := by
  intro rest pre Q h hp
  unfold sAcc at h
  split at h
  · cases h; exact d5 _ hp
  · cases h
def edt : ETab := (5, eDraw sAcc) :: (13, eDraw sFail) :: (14, eDraw sDrive) :: edl
theorem edt_ok : ETabOk Tryz.prog edt := .cons (eDraw_ok sAcc_ok) (.cons (eDraw_ok sFail_ok) (.cons (eDraw_ok sDrive_ok) edl_ok))
end Go.Sas
