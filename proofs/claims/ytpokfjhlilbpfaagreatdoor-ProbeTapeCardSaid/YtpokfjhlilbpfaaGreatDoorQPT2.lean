/-
Radar files: the law ProbeTape: its core.
Conditions: none.
-/
import Derived.Test.YtpokfjhlilbpfaaGreatDoorQPT1
set_option linter.unusedVariables false
set_option linter.unusedSimpArgs false
namespace Go.Sas
open Go.Proofs
set_option maxRecDepth 100000
set_option maxHeartbeats 4000000 in
theorem core3 (nums : List Int) (hn1 : nums.length ≤ 9223372036854775807) (tb : ByteArray) (X1 X2 X3 X4 : AObj) (hG : Globs [X1, X2, X3, X4]) :
    ACalls Tryz.prog 3 [.vs 1 (nums.map I), .lit (.string tb)] [X1, X2, X3, X4] fun r H' => r = .lit (.bool true) ∧ H' = [X1, X2, X3, X4] := by
  obtain ⟨Kk, hKk⟩ : ∃ K : AV → AHeap → Prop, K = fun r H' => r = .lit (.bool true) ∧ H' = [X1, X2, X3, X4] := ⟨_, rfl⟩
  rw [← hKk]
  have h : Kk (B true) [X1, X2, X3, X4] := by rw [hKk]; exact ⟨rfl, rfl⟩
  clear hKk
  obtain ⟨xn, hxn⟩ : ∃ ys, ys = nums.map I := ⟨_, rfl⟩
  rw [← hxn]
  obtain ⟨A, hA⟩ : ∃ A, A = std := ⟨_, rfl⟩
  have hne0 : A.ne 0 0 = false := by subst hA; rfl
  have hnb : ∀ b, A.bnot b = !b := by subst hA; intro b; rfl
  have hsq : ∀ a, A.seq a a = true := by subst hA; intro a; exact seq_iff.2 rfl
  refine go3 rfl (AGo.weaken (SGo_run (R := RetH _ [X1, X2, X3, X4] Kk) hA ⟨[], [], (5, eAwake) :: (10, eSameT) :: [], (7, eSeedF) :: (6, eDraw sTrk) :: (8, eWriteK) :: (9, eReadK) :: []⟩ (.cons eAwake_ok (.cons eSameT_ok .nil)) (.cons eSeedF_ok (.cons (eDraw_ok sTrk_ok) (.cons (eWriteK_ok p8) (.cons (eReadK_ok p9) .nil)))) 200 fun T TD hT hTD => ?_) (fun _ _ _ h => RetH.p hG.ltH h) (by simp))
  cbv
  split <;> cbv
  · exact h
  refine Exists.intro nums (And.intro ⟨hxn, hn1⟩ ?_)
  intro w1
  cbv
  refine Exists.intro () (And.intro (by omega) ?_)
  rintro w2 _ ⟨a, b, xs, os, rfl, hxs, hf, hol⟩
  have hV := checkT_ok hf
  have ho2 := hV.len
  dsimp only at ho2
  clear hol
  cbv
  refine Exists.intro os (And.intro ⟨hG.app [_, _], hxs, by omega⟩ ?_)
  intro t q hw
  have hwt := hw.e
  have hwq := hw.q
  unfold writeK at hwt
  rw [if_pos hf] at hwt
  rw [hf] at hwq
  subst hwq
  cbv
  refine Exists.intro () (And.intro (hG.app [_, _]) ?_)
  intro a2 b2 os2 xs2 row q2 hr
  have hre := hr.eq
  rw [hwt, bA_data, read_back hf] at hre
  have hxs2 := hr.xs
  simp only [Prod.mk.injEq, Trk.mk.injEq] at hre
  obtain ⟨⟨⟨rfl, rfl⟩, rfl⟩, rfl, rfl⟩ := hre
  have e1 : xs2 = xs := by rw [hxs2, hxs]
  subst e1
  clear hr hw hxs2
  cbv
  split <;> cbv
  · rename_i hz; exact Bool.noConfusion (hz.symm.trans hne0)
  split <;> cbv
  · rename_i hz; exact Bool.noConfusion (hz.symm.trans hne0)
  split <;> cbv
  · rename_i hz; exact Bool.noConfusion (hz.symm.trans hne0)
  refine Exists.intro os (And.intro rfl (And.intro rfl (And.intro rfl (And.intro hxs (And.intro (by omega) ?_))))); cbv
  split <;> cbv
  · rename_i hz; exact Bool.noConfusion (hz.symm.trans (hnb true))
  refine Exists.intro () (And.intro (hG.app [_, _, _]) ?_)
  intro a3 b3 os3 xs3 row3 q3 hr3
  have hre3 := hr3.eq
  have hne3 : A.ne q3 0 = decide (q3 ≠ 0) := by subst hA; simp only [std, iNe]; rw [Bool.eq_iff_iff]; simp
  cbv
  split <;> cbv
  · exact h
  rename_i hz
  have hz : q3 = 0 := by have := hne3.symm.trans hz; simpa using this
  subst hz
  obtain ⟨ht, hck⟩ := read_textT (by decide) (by decide) hre3
  have hV3 := checkT_ok hck
  have ho3 := hV3.len
  dsimp only at ho3
  refine Exists.intro os3 (And.intro ⟨hG.app [_, _, _, _], hr3.xs, by omega⟩ ?_)
  intro t4 q4 hw4
  have hwt4 := hw4.e
  have hwq4 := hw4.q
  unfold writeK at hwt4
  rw [if_pos hck, ht, bA_of] at hwt4
  rw [hck] at hwq4
  subst hwq4 hwt4
  have h00 : A.eq 0 0 = true := by subst hA; rfl
  have htt := hsq t4
  cbv
  split <;> cbv
  · split <;> cbv
    · exact h
    · rename_i hz; exact Bool.noConfusion (hz.symm.trans htt)
  · rename_i hz; exact Bool.noConfusion (hz.symm.trans h00)
end Go.Sas
