/-
Freight: the reference's Check.
Freight: big freights, copies, comparisons.
Conditions: none.
-/
import Derived.Test.YtaeaamhlejhgkaaGreatDoorHB
set_option linter.unusedVariables false
set_option linter.unusedSimpArgs false
namespace Go.Sas
open Go.Proofs
set_option maxRecDepth 100000
theorem p33 (a b c d : Int) (cs : List (Int × Int)) (os : List Ord) (hc : cs.length ≤ 9223372036854775807) (ho : os.length ≤ 9223372036854775807) (H : AHeap) {Kk : AV → AHeap → Prop} (h : Kk (I (checkF ⟨(a, b), (c, d), cs, os⟩)) H) :
    ACalls Tryz.prog 33 [frV a b c d (.vs 2 (cs.map sp)) (.vs 4 (os.map orV))] H Kk := by
  refine pureC (by rfl) (by rfl) (fun Kk h => ?_) H h
  obtain ⟨xs, hxs⟩ : ∃ xs, xs = cs.map sp := ⟨_, rfl⟩
  rw [← hxs]
  obtain ⟨ys, hys⟩ : ∃ ys, ys = os.map orV := ⟨_, rfl⟩
  rw [← hys]
  obtain ⟨A, hA⟩ : ∃ A, A = std := ⟨_, rfl⟩
  obtain ⟨W, hW⟩ : ∃ W, W = checkF ⟨(a, b), (c, d), cs, os⟩ := ⟨_, rfl⟩
  rw [← hW] at h
  have hv : A.vlen xs = iLen cs.length := by subst hA; simp [std, hxs]
  have hw : A.vlen ys = iLen os.length := by subst hA; simp [std, hys]
  refine go33 rfl (SGo_run hA ⟨[], [], [(57, eIn), (56, eFaultF)], []⟩ (.cons (eIn_ok p57) (.cons (eFaultF_ok p56) .nil)) .nil 200 fun T TD hT hTD => ?_)
  cbv
  split <;> cbv
  · refine leaf h (congrArg I ?_) rfl
    rename_i hq; have hq : A.eq (A.vlen xs) 0 = true := hq
    rw [hv] at hq
    subst hA hW
    simp only [std, iEq, iLen, beq_iff_eq] at hq
    simp only [checkF]; rw [if_pos (by omega)]
  rename_i hq; have hq : A.eq (A.vlen xs) 0 = false := hq
  split <;> cbv
  · refine leaf h (congrArg I ?_) rfl
    rename_i hr; have hr : A.lt 200 (A.vlen xs) = true := hr
    rw [hv] at hq hr
    subst hA hW
    simp only [std, iEq, iLt, iLen, beq_eq_false_iff_ne, ne_eq, decide_eq_true_eq] at hq hr
    simp only [checkF]; rw [if_neg (by omega), if_pos (by omega)]
  rename_i hr; have hr : A.lt 200 (A.vlen xs) = false := hr
  obtain ⟨V4, hV4⟩ : ∃ V, V = orsF os := ⟨_, rfl⟩
  obtain ⟨V3, hV3⟩ : ∃ V, V = orElse (faultF c d 0 (A.sub .i64 (A.vlen xs) 1)) V4 := ⟨_, rfl⟩
  obtain ⟨V2, hV2⟩ : ∃ V, V = orElse (faultF a b 0 (A.sub .i64 (A.vlen xs) 1)) V3 := ⟨_, rfl⟩
  have hW : W = orElse (firstE capE cs) V2 := by
    have hs : A.sub .i64 (iLen cs.length) 1 = (cs.length : Int) - 1 := by subst hA; exact iSub_id (by simp only [iLen]; omega) (by simp only [iLen]; omega)
    rw [hv] at hq hr hV3 hV2
    rw [hV2, hV3, hV4, hs]
    subst hA hW
    simp only [std, iEq, iLt, iLen, beq_eq_false_iff_ne, ne_eq, decide_eq_false_iff_not] at hq hr
    simp only [checkF]; rw [if_neg (by omega), if_neg (by omega)]
  clear hq hr
  rw [hT]
  refine AGo_up cs.length (fun j => W = orElse (firstE capE (cs.drop j)) V2) (fun _ i => [(0, frV a b c d (.vs 2 xs) (.vs 4 ys)), (1, .mp 0 0 0), (2, I 0), (3, I i)]) (fun _ => [.own 0 [I a, I b, I c, I d, .vs 2 xs, .vs 4 ys]]) hW ⟨rfl, rfl, rfl, rfl, trivial⟩ (.inl rfl) fun j i hi hj hP Bk hB => ?_
  have hlt : A.lt i (A.vlen xs) = decide (j < cs.length) := by subst hA; exact lt_len (by simp [hxs]) hi
  have hadd : ∀ N, j < N → N ≤ 9223372036854775807 → A.add .i64 i 1 = iLen (j + 1) := fun N hj hN => by subst hA; exact add_one hi hj hN
  refine SGo_run hA ⟨[], [], [(57, eIn), (56, eFaultF)], []⟩ (.cons (eIn_ok p57) (.cons (eFaultF_ok p56) .nil)) .nil 200 fun T TD hT hTD => ?_
  cbv
  split <;> cbv
  · rename_i hk1
    have hk1 : j < cs.length := by have := hlt.symm.trans hk1; simpa using this
    obtain ⟨⟨x, y⟩, hx⟩ : ∃ x, cs[j]? = some x := ⟨_, List.getElem?_eq_getElem hk1⟩
    have hix : A.ix 2 2 xs i [I x, I y] := by subst hA; exact ix_map hxs hi hx rfl
    rw [firstE_drop hx] at hP
    refine Exists.intro _ (And.intro hix ?_); cbv
    intro q hfq
    cbv
    split <;> cbv
    · rename_i hn; have hn : A.ne q 0 = true := hn
      refine leaf h (congrArg I ?_) rfl
      subst hA
      simp only [std, iNe, bne_iff_ne, ne_eq] at hn
      rw [hP, hfq]
      rw [hfq] at hn
      have hE : capE (x, y) ≠ 0 := hn
      rw [if_neg hE]; unfold orElse; rw [if_neg hE]; rfl
    · rename_i hn; have hn : A.ne q 0 = false := hn
      refine hB _ _ hk1 ?_ ⟨rfl, rfl, rfl, congrArg I (hadd _ hk1 (by omega)), trivial⟩ (.inl rfl)
      subst hA
      simp only [std, iNe, bne_eq_false_iff_eq] at hn
      rw [hP]
      have h0 : capE (x, y) = 0 := hfq.symm.trans hn
      rw [if_pos h0]
  · rename_i hk1
    have hk1 : ¬ j < cs.length := by have := hlt.symm.trans hk1; simpa using this
    have hW : W = V2 := by rw [hP, List.drop_eq_nil_of_le (by omega)]; rfl
    clear hP hB hlt hadd hk1
    intro q1 hf1
    cbv
    split <;> cbv
    · rename_i hn; have hn : A.ne q1 0 = true := hn
      refine leaf h (congrArg I ?_) rfl
      rw [hW, hV2, ← hf1]
      subst hA
      simp only [std, iNe, bne_iff_ne, ne_eq] at hn
      unfold orElse; rw [if_neg hn]
    rename_i hn1; have hn1 : A.ne q1 0 = false := hn1
    intro q2 hf2
    cbv
    split <;> cbv
    · rename_i hn; have hn : A.ne q2 0 = true := hn
      refine leaf h (congrArg I ?_) rfl
      rw [hW, hV2, ← hf1, hV3, ← hf2]
      subst hA
      simp only [std, iNe, bne_iff_ne, ne_eq, bne_eq_false_iff_eq] at hn hn1
      unfold orElse; rw [if_pos hn1, if_neg hn]
    · rename_i hn2; have hn2 : A.ne q2 0 = false := hn2
      have hW : W = V4 := by
        rw [hW, hV2, ← hf1, hV3, ← hf2]
        subst hA
        simp only [std, iNe, bne_eq_false_iff_eq] at hn2 hn1
        unfold orElse; rw [if_pos hn1, if_pos hn2]
      clear hn1 hn2
      split <;> cbv
      · refine leaf h (congrArg I ?_) rfl
        rename_i hq1; have hq1 : A.eq (A.vlen ys) 0 = true := hq1
        rw [hw] at hq1
        rw [hW, hV4]
        subst hA
        simp only [std, iEq, iLen, beq_iff_eq] at hq1
        simp only [orsF]; rw [if_pos (by omega)]
      rename_i hq1; have hq1 : A.eq (A.vlen ys) 0 = false := hq1
      split <;> cbv
      · refine leaf h (congrArg I ?_) rfl
        rename_i hr1; have hr1 : A.lt 6 (A.vlen ys) = true := hr1
        rw [hw] at hq1 hr1
        rw [hW, hV4]
        subst hA
        simp only [std, iEq, iLt, iLen, beq_eq_false_iff_ne, ne_eq, decide_eq_true_eq] at hq1 hr1
        simp only [orsF]; rw [if_neg (by omega), if_pos (by omega)]
      rename_i hr1; have hr1 : A.lt 6 (A.vlen ys) = false := hr1
      have hW : W = firstE ordE os := by
        rw [hw] at hq1 hr1
        rw [hW, hV4]
        subst hA
        simp only [std, iEq, iLt, iLen, beq_eq_false_iff_ne, ne_eq, decide_eq_false_iff_not] at hq1 hr1
        simp only [orsF]; rw [if_neg (by omega), if_neg (by omega)]
      clear hq1 hr1
      rw [hT]
      refine AGo_up os.length (fun j => W = firstE ordE (os.drop j)) (fun _ i => [(0, frV a b c d (.vs 2 xs) (.vs 4 ys)), (1, .mp 0 0 0), (2, I 0), (7, I i)]) (fun _ => [.own 0 [I a, I b, I c, I d, .vs 2 xs, .vs 4 ys]]) hW ⟨rfl, rfl, rfl, rfl, trivial⟩ (.inl rfl) fun j i hi hj hP Bk hB => ?_
      have hlt : A.lt i (A.vlen ys) = decide (j < os.length) := by subst hA; exact lt_len (by simp [hys]) hi
      have hadd : ∀ N, j < N → N ≤ 9223372036854775807 → A.add .i64 i 1 = iLen (j + 1) := fun N hj hN => by subst hA; exact add_one hi hj hN
      refine SGo_run hA ⟨[], [], [(57, eIn), (56, eFaultF)], []⟩ (.cons (eIn_ok p57) (.cons (eFaultF_ok p56) .nil)) .nil 200 fun T TD hT hTD => ?_
      cbv
      split <;> cbv
      · rename_i hk1
        have hk1 : j < os.length := by have := hlt.symm.trans hk1; simpa using this
        obtain ⟨⟨ou, od, ol, ol2⟩, hx⟩ : ∃ x, os[j]? = some x := ⟨_, List.getElem?_eq_getElem hk1⟩
        have hix : A.ix 4 4 ys i [I ou, I od, I ol, I ol2] := by subst hA; exact ix_map hys hi hx rfl
        rw [firstE_drop hx] at hP
        have hR : ∀ e, e ≠ 0 → ordE ⟨ou, od, ol, ol2⟩ = e → W = e := fun e he h => by rw [hP, h, if_neg he]
        have hN : ordE ⟨ou, od, ol, ol2⟩ = 0 → W = firstE ordE (os.drop (j + 1)) := fun h => by rw [hP, if_pos h]
        refine Exists.intro _ (And.intro hix ?_); cbv
        repeat' (first | (intro q hfq; cbv) | (split <;> cbv))
        all_goals first
          | refine hB _ _ hk1 (hN ?_) ⟨rfl, rfl, rfl, congrArg I (hadd _ hk1 (by omega)), trivial⟩ (.inr ⟨⟨_, rfl⟩, Nat.zero_le _, by simp [ltG, AV.lt, AV.ltL], by simp [ltH, AObj.lt, AV.lt, AV.ltL]⟩)
          | refine leaf h (congrArg I (hR _ (by decide) ?_)) rfl
        all_goals
          clear hR hN hP hix hv hw hW hlt hadd hB hx
          subst hA
          simp only [std, iLt] at *
          simp only [ordE]
          by_cases u1 : 1 ≤ ou ∧ ou ≤ 1000000 <;> by_cases u2 : 0 ≤ od ∧ od ≤ 200 <;> by_cases u3 : 0 ≤ ol ∧ ol ≤ 1000000 <;> by_cases u4 : 0 ≤ ol2 ∧ ol2 ≤ 1000000 <;> by_cases u5 : ol2 < ol <;> simp_all
      · refine leaf h (congrArg I ?_) rfl
        rename_i hk1
        have hk1 : ¬ j < os.length := by have := hlt.symm.trans hk1; simpa using this
        rw [hP, List.drop_eq_nil_of_le (by omega)]; rfl
end Go.Sas
namespace Go.Sas
open Go.Proofs
set_option maxRecDepth 100000
def bigF (n k : Nat) : Bool := decide ((60 < n ∧ n ≤ 200) ∨ 209 < n ∨ 15 < k)
theorem p5 (a b c d : Int) (cs : List (Int × Int)) (os : List Ord) (H : AHeap) {Kk : AV → AHeap → Prop} (h : Kk (B (bigF cs.length os.length)) H) :
    ACalls Tryz.prog 5 [frV a b c d (.vs 2 (cs.map sp)) (.vs 4 (os.map orV))] H Kk := by
  refine pureC (by rfl) (by rfl) (fun Kk h => ?_) H h
  obtain ⟨xs, hxs⟩ : ∃ xs, xs = cs.map sp := ⟨_, rfl⟩
  rw [← hxs]
  obtain ⟨ys, hys⟩ : ∃ ys, ys = os.map orV := ⟨_, rfl⟩
  rw [← hys]
  obtain ⟨A, hA⟩ : ∃ A, A = std := ⟨_, rfl⟩
  obtain ⟨W, hW⟩ : ∃ W, W = bigF cs.length os.length := ⟨_, rfl⟩
  rw [← hW] at h
  have hv : A.vlen xs = iLen cs.length := by subst hA; simp [std, hxs]
  have hw : A.vlen ys = iLen os.length := by subst hA; simp [std, hys]
  refine go5 rfl (SGo_run hA ⟨[], [], [], []⟩ .nil .nil 200 fun T TD hT hTD => ?_)
  cbv
  repeat' (split <;> cbv)
  all_goals
    refine leaf h (congrArg B (Bool.eq_iff_iff.2 ?_)) rfl
    subst hA hW
    simp only [bigF]
    simp only [std, iLt, iLe, iEq, iNe, iLen, bne_iff_ne, ne_eq, beq_iff_eq, Bool.and_eq_true, Bool.or_eq_true, Bool.or_eq_false_iff, Bool.and_eq_false_iff, decide_eq_true_eq, decide_eq_false_iff_not, bne_eq_false_iff_eq, beq_eq_false_iff_ne, Bool.not_eq_true', Bool.not_eq_false', iff_true, iff_false, true_iff, false_iff, Bool.false_eq_true, Bool.true_eq_false, not_false_eq_true, not_true_eq_false] at *
    omega
end Go.Sas
