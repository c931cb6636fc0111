/-
Season files: the law FreightTape: its core.
Conditions: none.
-/
import Derived.Test.YtaeaamhlejhgkaaGreatDoorQST1
set_option linter.unusedVariables false
set_option linter.unusedSimpArgs false
namespace Go.Sas
open Go.Proofs
set_option maxRecDepth 100000
set_option maxHeartbeats 4000000 in
theorem core4 (nums : List Int) (hn1 : nums.length ≤ 9223372036854775807) (tb : ByteArray) (X1 X2 X3 X4 : AObj) (hG : Globs [X1, X2, X3, X4]) :
    ACalls Tryz.prog 4 [.vs 1 (nums.map I), .lit (.string tb)] [X1, X2, X3, X4] fun r H' => r = .lit (.bool true) ∧ H' = [X1, X2, X3, X4] := by
  obtain ⟨Kk, hKk⟩ : ∃ K : AV → AHeap → Prop, K = fun r H' => r = .lit (.bool true) ∧ H' = [X1, X2, X3, X4] := ⟨_, rfl⟩
  rw [← hKk]
  have h : Kk (B true) [X1, X2, X3, X4] := by rw [hKk]; exact ⟨rfl, rfl⟩
  clear hKk
  obtain ⟨xn, hxn⟩ : ∃ ys, ys = nums.map I := ⟨_, rfl⟩
  rw [← hxn]
  obtain ⟨A, hA⟩ : ∃ A, A = std := ⟨_, rfl⟩
  have hne0 : A.ne 0 0 = false := by subst hA; rfl
  have hee : ∀ x y, A.eq x y = decide (x = y) := by subst hA; intro x y; simp only [std, iEq]; rw [Bool.eq_iff_iff]; simp
  have hnb : ∀ b, A.bnot b = !b := by subst hA; intro b; rfl
  have hsq : ∀ a, A.seq a a = true := by subst hA; intro a; exact seq_iff.2 rfl
  refine go4 rfl (AGo.weaken (SGo_run (R := RetH _ [X1, X2, X3, X4] Kk) hA ⟨[], [], (6, eAwk) :: (14, eSameFr) :: [], (8, eSeedF) :: (7, eDraw sFr) :: (9, eWriteF) :: (12, eReadF) :: []⟩ (.cons eAwk_ok (.cons eSameFr_ok .nil)) (.cons eSeedF_ok (.cons (eDraw_ok sFr_ok) (.cons eWriteF_ok (.cons (eReadF_ok p12) .nil)))) 200 fun T TD hT hTD => ?_) (fun _ _ _ h => RetH.p hG.ltH h) (by simp))
  cbv
  split <;> cbv
  · exact h
  refine Exists.intro nums (And.intro ⟨hxn, hn1⟩ ?_)
  intro w1
  cbv
  refine Exists.intro () (And.intro (by omega) ?_)
  rintro w2 _ ⟨a, b, c, d, xs, ys, cs, os, rfl, hxs, hys, hf, _⟩
  have hV := checkF_ok hf
  have ho2 := hV.o2
  have hc2 := hV.c2
  dsimp only at ho2 hc2
  cbv
  refine Exists.intro cs (Exists.intro os (And.intro ⟨hG.app [_, _], hxs, hys, by omega, by omega⟩ ?_))
  intro t q hw
  have hwt := hw.t
  have hwq := hw.q
  rw [if_pos hf] at hwt
  rw [hf] at hwq
  subst hwq
  cbv
  refine Exists.intro () (And.intro (hG.app [_, _]) ?_)
  intro a2 b2 c2 d2 cs2 os2 xs2 ys2 row q2 hr
  have hre := hr.eq
  rw [hwt, bA_data, read_back hf] at hre
  have hxs2 := hr.xs
  have hys2 := hr.ys
  simp only [Prod.mk.injEq, Frt.mk.injEq] at hre
  obtain ⟨⟨⟨rfl, rfl⟩, ⟨rfl, rfl⟩, rfl, rfl⟩, rfl, rfl⟩ := hre
  have e1 : xs2 = xs := by rw [hxs2, hxs]
  have e2 : ys2 = ys := by rw [hys2, hys]
  subst e1 e2
  clear hr hw hxs2 hys2
  cbv
  split <;> cbv
  · rename_i hz; exact Bool.noConfusion (hz.symm.trans hne0)
  split <;> cbv
  · rename_i hz; exact Bool.noConfusion (hz.symm.trans hne0)
  split <;> cbv
  · rename_i hz; exact Bool.noConfusion (hz.symm.trans hne0)
  refine Exists.intro cs (Exists.intro os (And.intro rfl (And.intro rfl (And.intro rfl (And.intro rfl (And.intro rfl (And.intro rfl (And.intro hxs (And.intro hys (And.intro (by omega) (And.intro (by omega) ?_))))))))))); cbv
  split <;> cbv
  · rename_i hz; exact Bool.noConfusion (hz.symm.trans (hnb true))
  refine Exists.intro () (And.intro (hG.app [_, _, _]) ?_)
  intro a3 b3 c3 d3 cs3 os3 xs3 ys3 row3 q3 hr3
  have hre3 := hr3.eq
  have hne3 : A.ne q3 0 = decide (q3 ≠ 0) := by subst hA; simp only [std, iNe]; rw [Bool.eq_iff_iff]; simp
  cbv
  split <;> cbv
  · exact h
  rename_i hz
  have hz : q3 = 0 := by have := hne3.symm.trans hz; simpa using this
  subst hz
  obtain ⟨ht, hck⟩ := read_text (by decide) (by decide) hre3
  have hV3 := checkF_ok hck
  have ho3 := hV3.o2
  have hc3 := hV3.c2
  dsimp only at ho3 hc3
  refine Exists.intro cs3 (Exists.intro os3 (And.intro ⟨hG.app [_, _, _, _], hr3.xs, hr3.ys, by omega, by omega⟩ ?_))
  intro t4 q4 hw4
  have hwt4 := hw4.t
  have hwq4 := hw4.q
  rw [if_pos hck, ht, bA_of] at hwt4
  rw [hck] at hwq4
  subst hwq4 hwt4
  have h00 : A.eq 0 0 = true := by subst hA; rfl
  have htt := hsq t4
  cbv
  split <;> cbv
  · split <;> cbv
    · exact h
    · rename_i hz; exact Bool.noConfusion (hz.symm.trans htt)
  · rename_i hz; exact Bool.noConfusion (hz.symm.trans h00)
end Go.Sas
