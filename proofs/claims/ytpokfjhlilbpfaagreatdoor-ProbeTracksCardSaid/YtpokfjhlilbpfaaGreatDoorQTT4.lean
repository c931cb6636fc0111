/-
Radar files: the law ProbeTracks: its core.
Conditions: none.
-/
import Derived.Test.YtpokfjhlilbpfaaGreatDoorQPT1
import Derived.Test.YtpokfjhlilbpfaaGreatDoorQTR5
import Derived.Test.YtpokfjhlilbpfaaGreatDoorQSR6
import Derived.Test.YtpokfjhlilbpfaaGreatDoorXJg
set_option linter.unusedVariables false
set_option linter.unusedSimpArgs false
namespace Go.Sas
open Go.Proofs
set_option maxRecDepth 100000
structure DamPre (s : ByteArray) (a h : Int) : Prop where
  len : s.data.toList.length ≤ 1000000
  a : I64 a
  h : I64 h
def eDamage : List AV → Option ((AV → Prop) → Prop)
  | [.lit (.string s), .lit (.int .i64 a), .lit (.int .i64 h), .lit (.int .u8 _)] => some fun K => DamPre s a h ∧ ∀ t, K (.lit (.string t))
  | _ => none
theorem eDamage_ok : ∀ args pt, eDamage args = some pt → ∀ (H : AHeap) (Kk : AV → AHeap → Prop), pt (fun r => Kk r H) → ACalls Tryz.prog 15 args H Kk := by
  intro args pt h H Kk hk
  unfold eDamage at h
  split at h
  · cases h
    obtain ⟨⟨h1, h2, h3⟩, hk⟩ := hk
    exact p15 _ _ _ _ h1 h2 h3 H hk
  · cases h
theorem readK_small (t : List UInt8) : (readK t).1.ec.length ≤ 1000000 := by
  unfold readK readT
  split
  · simp [trk0]
  · simp only
    split
    · simp [trk0]
    · split
      · simp [trk0]
      · split
        · simp [trk0]
        · rename_i hc
          have hV := checkT_ok (Decidable.not_not.1 hc)
          have h1 := hV.len
          simp only
          omega
def strB (t : ByteArray) : AV := .lit (.string t)
def wrB (f : Trk) : ByteArray := bA (writeK f)
theorem nidL_strB (l : List ByteArray) : AV.nidL (l.map strB) = true := by
  induction l with
  | nil => rfl
  | cons x l ih => simpa [AV.nidL, AV.nid, strB] using ih
theorem glob_frz {X1 X2 X3 X4 : AObj} (hG : Globs [X1, X2, X3, X4]) (id g sz : Nat) (xs : List AV) : X1.frz id g sz xs = X1 ∧ X2.frz id g sz xs = X2 ∧ X3.frz id g sz xs = X3 ∧ X4.frz id g sz xs = X4 := by
  obtain ⟨_, _, _, _, _, e, _, g2, m2, o2, g3, o3, g4, o4, e1, e2, e3, e4⟩ := hG.split
  cases e
  subst e1 e2 e3 e4
  simp [AObj.frz, rawG, rawT, AV.frzL, AV.frz]
theorem glob_lt8 {X1 X2 X3 X4 : AObj} (hG : Globs [X1, X2, X3, X4]) {g5 g6 g7 g8 : Nat} {c5 c6 c7 c8 : List AV} (h5 : AV.nidL c5 = true) (h6 : AV.nidL c6 = true) (h7 : AV.nidL c7 = true) (h8 : AV.nidL c8 = true) : ltH 8 [X1, X2, X3, X4, .own g5 c5, .own g6 c6, .own g7 c7, .own g8 c8] := by
  obtain ⟨_, _, _, _, _, e, _, g2, m2, o2, g3, o3, g4, o4, e1, e2, e3, e4⟩ := hG.split
  cases e
  subst e1 e2 e3 e4
  simp [ltH, AObj.lt, rawG, rawT, AV.ltL, AV.lt, AV.ltL_nid h5, AV.ltL_nid h6, AV.ltL_nid h7, AV.ltL_nid h8]
set_option maxHeartbeats 8000000 in
theorem core4 (a b : Int) (es : List Ech) (hel : es.length ≤ 9223372036854775807) (tb : ByteArray) (nums : List Int) (hn1 : nums.length ≤ 9223372036854775807) (at_ how by_ : Int) (hat : I64 at_) (hhow : I64 how) (X1 X2 X3 X4 : AObj) (hG : Globs [X1, X2, X3, X4]) :
    ACalls Tryz.prog 4 [tkV a b (.vs 4 (es.map ecV)), .lit (.string tb), .vs 1 (nums.map I), I at_, I how, .lit (.int .u8 by_)] [X1, X2, X3, X4] fun r H' => r = .lit (.bool true) ∧ H' = [X1, X2, X3, X4] := by
  obtain ⟨Kk, hKk⟩ : ∃ K : AV → AHeap → Prop, K = fun r H' => r = .lit (.bool true) ∧ H' = [X1, X2, X3, X4] := ⟨_, rfl⟩
  rw [← hKk]
  have h : Kk (B true) [X1, X2, X3, X4] := by rw [hKk]; exact ⟨rfl, rfl⟩
  clear hKk
  obtain ⟨xn, hxn⟩ : ∃ ys, ys = nums.map I := ⟨_, rfl⟩
  obtain ⟨ys, hys⟩ : ∃ ys, ys = es.map ecV := ⟨_, rfl⟩
  rw [← hxn, ← hys]
  obtain ⟨A, hA⟩ : ∃ A, A = std := ⟨_, rfl⟩
  have hnr : ∀ x, A.ne x x = false := by subst hA; intro x; simp [std, iNe]
  have hnb : ∀ b, A.bnot b = !b := by subst hA; intro b; rfl
  have hsq : ∀ a, A.bnot (A.seq a a) = false := by subst hA; intro a; show (!sEq a a) = false; rw [seq_iff.2 rfl]; rfl
  have hv : A.lt 210 (A.vlen ys) = decide (210 < es.length) := by subst hA; simp only [std, iLt, hys, List.length_map, iLen]; rw [decide_eq_decide]; omega
  refine go4 rfl (AGo.weaken (SGo_run (R := RetH _ [X1, X2, X3, X4] Kk) hA ⟨[7], [], (5, eAwake) :: [], (7, eSeedF) :: (6, eDraw sTrk) :: []⟩ (.cons eAwake_ok .nil) (.cons eSeedF_ok (.cons (eDraw_ok sTrk_ok) .nil)) 200 fun T TD hT hTD => ?_) (fun _ _ _ h => RetH.p hG.ltH h) (by simp))
  cbv
  split <;> cbv
  · exact h
  rename_i hq0
  have hesl : es.length ≤ 210 := by have := hv.symm.trans hq0; simpa using this
  split <;> cbv
  · split <;> cbv
    · exact h
    · refine Exists.intro nums (And.intro ⟨hxn, hn1⟩ ?_)
      intro w1
      cbv
      refine Exists.intro () (And.intro (by omega) ?_)
      rintro w2 _ ⟨a1, b1, xs1, os1, rfl, hxs1, hf1, hol1⟩
      have hV1 := checkT_ok hf1
      have ho1 : os1.length ≤ 200 := hV1.len
      clear hol1
      cbv
      rw [hT]
      obtain ⟨F0, hF0⟩ : ∃ F : Trk, F = ⟨(a, b), es⟩ := ⟨_, rfl⟩
      obtain ⟨F1, hF1⟩ : ∃ F : Trk, F = ⟨(a1, b1), os1⟩ := ⟨_, rfl⟩
      have hes : [tkV a b (.vs 4 ys), tkV a1 b1 (.vs 4 xs1)] = [F0, F1].map tkA := by
        rw [hF0, hF1, hys, hxs1]; rfl
      have hbF : ∀ F ∈ [F0, F1], F.ec.length ≤ 210 := fun F hF => by
        rcases List.mem_cons.1 hF with rfl | hF
        · rw [hF0]; exact hesl
        · have hF := List.mem_singleton.1 hF
          rw [hF, hF1]
          show os1.length ≤ 210
          omega
      refine AGo_upE [14, 3, 4, 5] 2 (fun j (_ : Unit) => True) (fun j _ i => [(16, I i), (15, .ms 1 7 j 0 (j + 1))]) (fun j _ => [X1, X2, X3, X4, .own 0 [I a, I b, .vs 4 ys], .own 0 [U w2], .own 0 [I a1, I b1, .vs 4 xs1], .own j ((tb :: ([F0, F1].take j).map wrB).map strB)]) () trivial ⟨rfl, rfl, trivial⟩ (.inl rfl) fun j _ i hi hj _ Bk hB => ?_
      have hlt : A.lt i (A.vlen [tkV a b (.vs 4 ys), tkV a1 b1 (.vs 4 xs1)]) = decide (j < 2) := by subst hA; exact lt_len rfl hi
      have hadd : ∀ N, j < N → N ≤ 9223372036854775807 → A.add .i64 i 1 = iLen (j + 1) := fun N hj hN => by subst hA; exact add_one hi hj hN
      obtain ⟨tc, htc⟩ : ∃ t, t = (tb :: ([F0, F1].take j).map wrB).map strB := ⟨_, rfl⟩
      rw [← htc]
      have htl : tc.length = (j + 1) * 1 := by rw [htc]; simp; omega
      have happ : ∀ t : ByteArray, A.app 1 1 16 tc 0 (j + 1) [.lit (.string t)] (tc ++ [.lit (.string t)]) (j + 1 + 1) := fun t => by subst hA; exact app_one htl rfl (by omega)
      refine SGo_run hA ⟨[7, 9], [1000076], (15, eDamage) :: (11, eLooks) :: (12, eLooks) :: (14, eSameL) :: (10, eSameT) :: [], (8, eWriteK) :: (13, eWriteK) :: []⟩ (.cons eDamage_ok (.cons (eLooks_ok p11) (.cons (eLooks_ok p12) (.cons eSameL_ok (.cons eSameT_ok .nil))))) (.cons (eWriteK_ok p8) (.cons (eWriteK_ok p13) .nil)) 200 fun T TD hT hTD => ?_
      cbv
      split <;> cbv
      · rename_i hk1
        have hlt1 : j < 2 := by have := hlt.symm.trans hk1; simpa using this
        obtain ⟨F, hF⟩ : ∃ F, [F0, F1][j]? = some F := ⟨_, List.getElem?_eq_getElem (by simpa using hlt1)⟩
        have hbb := hbF F (List.mem_of_getElem? hF)
        have htk : (tb :: ([F0, F1].take (j + 1)).map wrB).map strB = tc ++ [strB (wrB F)] := by
          rw [htc, List.take_add_one, hF]; simp
        obtain ⟨⟨a2, b2⟩, es2⟩ := F
        obtain ⟨ys2, hys2⟩ : ∃ z, z = es2.map ecV := ⟨_, rfl⟩
        have hix : A.ix 3 3 [tkV a b (.vs 4 ys), tkV a1 b1 (.vs 4 xs1)] i [I a2, I b2, .vs 4 ys2] := by
          subst hA; rw [hys2]; exact ix_map hes hi hF rfl
        have hadd := hadd 2 hlt1 (by omega)
        have hEl := Elems_ec es2
        obtain ⟨yc, hyc⟩ : ∃ z, z = es2.flatMap ecC := ⟨_, rfl⟩
        obtain ⟨N, hN⟩ : ∃ N, N = 0 + ys2.length := ⟨_, rfl⟩
        rw [← hys2, ← hyc] at hEl
        have hN2 : N = es2.length := by rw [hN, hys2]; simp
        have hbb : es2.length ≤ 210 := hbb
        have happ2 : A.app 4 4 32 [] 0 0 ys2 yc N := by
          subst hA
          have := app_all (sz := 4) (by_ := 32) (n := 0) (cs := []) (es := ys2) rfl hEl.1 (by rw [← hN, hN2]; omega)
          rw [← hN] at this
          exact this
        refine Exists.intro _ (And.intro hix ?_); cbv
        refine Exists.intro _ (And.intro hix ?_); cbv
        refine Exists.intro yc (Exists.intro N (And.intro happ2 (And.intro rfl ?_))); cbv
        refine And.intro (by subst hA; exact .inr ⟨SubH.c4 (SubH.c4 (by simp [SubH])), by simp [ResK], .inr fun _ => SubH.c4 (SubH.c4 (by simp [SubH]))⟩) ?_; cbv
        rw [hT]
        have e1 : AV.frz 9 0 4 ys2 (.ms 4 9 0 0 N) = .vs 4 ys2 := frz_self (by rw [hys2, List.length_map, hN2])
        have e2 : AV.frz 9 0 4 ys2 (.ms 1 7 j 0 (j + 1)) = .ms 1 7 j 0 (j + 1) := by simp [AV.frz]
        have htcn : AV.nidL tc = true := by rw [htc]; exact nidL_strB _
        have eH : frzH 9 0 4 ys2 ([X1, X2, X3, X4, .own 0 [I a, I b, .vs 4 ys], .own 0 [U w2], .own 0 [I a1, I b1, .vs 4 xs1], .own j tc, .own 0 [I a2, I b2, .ms 4 9 0 0 N], .gone] : AHeap) = [X1, X2, X3, X4, .own 0 [I a, I b, .vs 4 ys], .own 0 [U w2], .own 0 [I a1, I b1, .vs 4 xs1], .own j tc, .own 0 [I a2, I b2, .vs 4 ys2], .gone] := by
          obtain ⟨f1, f2, f3, f4⟩ := glob_frz hG 9 0 4 ys2
          simp only [frzH, List.map_cons, List.map_nil]
          rw [f1, f2, f3, f4]
          simp only [AObj.frz, AV.frzL, AV.frzL_nid htcn, e1]
          simp [AV.frz]
        refine AGo_frz 9 0 4 ys2 rfl hEl ?_
        show AGo _ _ _ _ ⟨[], [(16, I i), (15, AV.frz 9 0 4 ys2 (.ms 1 7 j 0 (j + 1))), (14, .vs 3 [tkV a b (.vs 4 ys), tkV a1 b1 (.vs 4 xs1)]), (3, I at_), (4, I how), (5, .lit (.int .u8 by_)), (59, B true), (17, .mp 8 0 0)]⟩ (frzH 9 0 4 ys2 [X1, X2, X3, X4, .own 0 [I a, I b, .vs 4 ys], .own 0 [U w2], .own 0 [I a1, I b1, .vs 4 xs1], .own j tc, .own 0 [I a2, I b2, .ms 4 9 0 0 N], .gone])
        rw [eH, e2]
        clear hT hTD T TD
        refine SGo_run hA ⟨[7], [], (15, eDamage) :: (11, eLooks) :: (12, eLooks) :: (14, eSameL) :: (10, eSameT) :: [], (8, eWriteK) :: (13, eWriteK) :: []⟩ (.cons eDamage_ok (.cons (eLooks_ok p11) (.cons (eLooks_ok p12) (.cons eSameL_ok (.cons eSameT_ok .nil))))) (.cons (eWriteK_ok p8) (.cons (eWriteK_ok p13) .nil)) 200 fun T TD hT hTD => ?_
        cbv
        refine Exists.intro es2 (And.intro hys2 (And.intro (by omega) ?_))
        intro zs1 q1 hl1; cbv
        refine Exists.intro _ (And.intro hix ?_); cbv
        refine Exists.intro es2 (And.intro hys2 (And.intro (by omega) ?_))
        intro zs2 q2 hl2
        have e3 : zs2 = zs1 := hl2.xs.trans hl1.xs.symm
        have e4 : q2 = q1 := hl2.q.trans hl1.q.symm
        have hzx := hl1.xs
        have hzl : (looksK ⟨(a2, b2), es2⟩).length ≤ 9223372036854775807 := by
          unfold looksK; split
          · rw [List.length_map]; show es2.length ≤ 9223372036854775807; omega
          · simp
        obtain ⟨lk, hlk⟩ : ∃ z, z = looksK ⟨(a2, b2), es2⟩ := ⟨_, rfl⟩
        rw [← hlk] at hzx hzl
        clear hlk
        subst e3 e4
        clear hl1 hl2
        cbv
        refine Exists.intro es2 (And.intro ⟨hG.app [_, _, _, _, _, _], hys2, by omega⟩ fun t1 g1 hw1 => ?_); cbv
        refine Exists.intro _ (And.intro hix ?_); cbv
        refine Exists.intro es2 (And.intro ⟨hG.app [_, _, _, _, _, _], hys2, by omega⟩ fun t2 g2 hw2 => ?_)
        have e5 : t2 = t1 := hw2.e.trans hw1.e.symm
        have e6 : g2 = g1 := hw2.q.trans hw1.q.symm
        have hwt : t1 = wrB ⟨(a2, b2), es2⟩ := hw1.e
        subst e5 e6
        clear hw1 hw2
        rw [← hwt] at htk
        obtain ⟨tc2, htc2⟩ : ∃ z, z = tc ++ [.lit (.string t2)] := ⟨_, rfl⟩
        have happ := happ t2
        rw [← htc2] at happ
        have htk : tc2 = (tb :: ([F0, F1].take (j + 1)).map wrB).map strB := by rw [htk, htc2]; rfl
        cbv
        split <;> cbv
        · rename_i hz; exact Bool.noConfusion (hz.symm.trans (hnr _))
        split <;> cbv
        · rename_i hz; exact Bool.noConfusion (hz.symm.trans (hnr _))
        split <;> cbv
        · rename_i hz; exact Bool.noConfusion (hz.symm.trans (hsq _))
        refine Exists.intro lk (Exists.intro lk (And.intro hzx (And.intro hzx (And.intro hzl (And.intro hzl ?_)))))
        intro r hr
        have hr : r = true := by rw [hr]; simp
        subst hr
        cbv
        split <;> cbv
        · rename_i hz; exact Bool.noConfusion (hz.symm.trans (hnb true))
        refine Exists.intro _ (And.intro hix ?_); cbv
        refine Exists.intro es2 (And.intro rfl (And.intro rfl (And.intro rfl (And.intro hys2 (And.intro (by omega) ?_))))); cbv
        split <;> cbv
        · rename_i hz; exact Bool.noConfusion (hz.symm.trans (hnb true))
        refine And.intro (by subst hA; rfl) (Exists.intro _ (Exists.intro _ (And.intro happ (And.intro rfl ?_)))); cbv
        refine hB () _ _ hlt1 trivial ⟨congrArg I hadd, rfl, trivial⟩ ⟨rfl, rfl, rfl, rfl, trivial⟩ (.inr ⟨⟨[.own 0 [I a2, I b2, .vs 4 ys2], .gone], ?_⟩, by simp, by simp [ltG, keepS, look, gset, AV.lt, AV.ltL], ?_⟩)
        · rw [← htk]; rfl
        · exact glob_lt8 hG (by simp [AV.nidL, AV.nid]) (by simp [AV.nidL, AV.nid]) (by simp [AV.nidL, AV.nid]) (nidL_strB _)
      rename_i hk1
      have hk1 : ¬ j < 2 := by have := hlt.symm.trans hk1; simpa using this
      obtain rfl : j = 2 := by omega
      obtain ⟨tw0, htw0⟩ : ∃ z, z = wrB F0 := ⟨_, rfl⟩
      obtain ⟨tw1, htw1⟩ : ∃ z, z = wrB F1 := ⟨_, rfl⟩
      have htc3 : tc = [.lit (.string tb), .lit (.string tw0), .lit (.string tw1)] := by rw [htc, htw0, htw1]; rfl
      have hw1l : tw1.data.toList.length ≤ 1000000 := by
        rw [htw1]; unfold wrB writeK
        rw [hF1, if_pos hf1, bA_data]
        have := textT_len (checkT_ok hf1)
        omega
      have hixm : A.ixm 1 1 0 3 2 2 := by subst hA; exact ⟨rfl, by decide, by decide, rfl⟩
      have hget : A.get none tc 2 (.lit (.string tw1)) := by subst hA; rw [htc3]; rfl
      clear hlt hadd hB happ
      refine And.intro (by subst hA; rfl) (Exists.intro _ (And.intro hixm ?_)); cbv
      refine And.intro (by subst hA; rfl) (Exists.intro _ (And.intro hget ?_)); cbv
      refine And.intro ⟨hw1l, hat, hhow⟩ fun td => ?_
      obtain ⟨tc4, htc4⟩ : ∃ z, z = tc ++ [.lit (.string td)] := ⟨_, rfl⟩
      have happ : A.app 1 1 16 tc 0 3 [.lit (.string td)] tc4 4 := by subst hA; rw [htc4]; exact app_one htl rfl (by omega)
      have htc5 : tc4 = [tb, tw0, tw1, td].map strB := by rw [htc4, htc3]; rfl
      cbv
      refine And.intro (by subst hA; rfl) (Exists.intro _ (Exists.intro _ (And.intro happ (And.intro rfl ?_)))); cbv
      rw [hT]
      refine AGo_upE [15] 4 (fun j (_ : Unit) => True) (fun j _ i => [(26, I i)]) (fun j _ => [X1, X2, X3, X4, .own 0 [I a, I b, .vs 4 ys], .own 0 [U w2], .own 0 [I a1, I b1, .vs 4 xs1], .own 3 tc4]) () trivial ⟨rfl, trivial⟩ (.inl rfl) fun j _ i hi hj _ Bk hB => ?_
      have hlt : A.lt i (A.len 4) = decide (j < 4) := by subst hA; simp only [std, iLt, hi]; rw [Bool.eq_iff_iff]; unfold iLen; simp; omega
      have hadd : ∀ N, j < N → N ≤ 9223372036854775807 → A.add .i64 i 1 = iLen (j + 1) := fun N hj hN => by subst hA; exact add_one hi hj hN
      refine SGo_run hA ⟨[7], [], (10, eSameT) :: (5, eAwake) :: [], (9, eReadK) :: (16, eReadK) :: []⟩ (.cons eSameT_ok (.cons eAwake_ok .nil)) (.cons (eReadK_ok p9) (.cons (eReadK_ok fun t H _ {_} h => p16 t H h) .nil)) 200 fun T TD hT hTD => ?_
      cbv
      refine And.intro (by subst hA; rfl) ?_; cbv
      split <;> cbv
      · rename_i hk1
        have hlt1 : j < 4 := by have := hlt.symm.trans hk1; simpa using this
        have hadd := hadd 4 hlt1 (by omega)
        obtain ⟨t, ht⟩ : ∃ t, [tb, tw0, tw1, td][j]? = some t := ⟨_, List.getElem?_eq_getElem (by simpa using hlt1)⟩
        have hixm : A.ixm 1 1 0 4 i j := by subst hA; exact ⟨rfl, by rw [hi]; exact Int.natCast_nonneg j, by rw [hi]; unfold iLen; omega, by rw [hi]; simp [iLen]⟩
        have hget : A.get none tc4 j (.lit (.string t)) := by
          subst hA; rw [htc5]
          show getN none ([tb, tw0, tw1, td].map strB) j = _
          simp only [getN, List.getElem?_map, ht, Option.map_some]
          rfl
        have hsg : A.sg 3 3 := by subst hA; rfl
        refine And.intro hsg (Exists.intro _ (And.intro hixm ?_)); cbv
        refine And.intro hsg (Exists.intro _ (And.intro hget ?_)); cbv
        refine Exists.intro () (And.intro (hG.app [_, _, _, _]) ?_)
        intro a3 b3 es3 xs3 row3 q3 hr3
        cbv
        refine And.intro hsg (Exists.intro _ (And.intro hixm ?_)); cbv
        refine And.intro hsg (Exists.intro _ (And.intro hget ?_)); cbv
        refine Exists.intro () (And.intro (hG.app [_, _, _, _, _]) ?_)
        intro a4 b4 es4 xs4 row4 q4 hr4
        have hee := hr3.eq.symm.trans hr4.eq
        simp only [Prod.mk.injEq, Trk.mk.injEq] at hee
        obtain ⟨⟨⟨rfl, rfl⟩, rfl⟩, rfl, rfl⟩ := hee
        have e1 : xs4 = xs3 := hr4.xs.trans hr3.xs.symm
        have hx3 := hr3.xs
        have hsm := readK_small t.data.toList
        rw [hr3.eq] at hsm
        dsimp only at hsm
        subst e1
        clear hr3 hr4
        cbv
        split <;> cbv
        · rename_i hz; exact Bool.noConfusion (hz.symm.trans (hnr _))
        split <;> cbv
        · rename_i hz; exact Bool.noConfusion (hz.symm.trans (hnr _))
        refine Exists.intro es3 (And.intro rfl (And.intro rfl (And.intro rfl (And.intro hx3 (And.intro hsm ?_))))); cbv
        split <;> cbv
        · rename_i hz; exact Bool.noConfusion (hz.symm.trans (hnb true))
        exact hB () _ _ hlt1 trivial ⟨congrArg I hadd, trivial⟩ ⟨rfl, trivial⟩ (.inr ⟨⟨_, rfl⟩, by simp, by simp [ltG, keepS, look, gset, AV.lt, AV.ltL], glob_lt8 hG (by simp [AV.nidL, AV.nid]) (by simp [AV.nidL, AV.nid]) (by simp [AV.nidL, AV.nid]) (by rw [htc5]; exact nidL_strB _)⟩)
      · exact h
  · refine Exists.intro nums (And.intro ⟨hxn, hn1⟩ ?_)
    intro w1
    cbv
    refine Exists.intro () (And.intro (by omega) ?_)
    rintro w2 _ ⟨a1, b1, xs1, os1, rfl, hxs1, hf1, hol1⟩
    have hV1 := checkT_ok hf1
    have ho1 : os1.length ≤ 200 := hV1.len
    clear hol1
    cbv
    rw [hT]
    obtain ⟨F0, hF0⟩ : ∃ F : Trk, F = ⟨(a, b), es⟩ := ⟨_, rfl⟩
    obtain ⟨F1, hF1⟩ : ∃ F : Trk, F = ⟨(a1, b1), os1⟩ := ⟨_, rfl⟩
    have hes : [tkV a b (.vs 4 ys), tkV a1 b1 (.vs 4 xs1)] = [F0, F1].map tkA := by
      rw [hF0, hF1, hys, hxs1]; rfl
    have hbF : ∀ F ∈ [F0, F1], F.ec.length ≤ 210 := fun F hF => by
      rcases List.mem_cons.1 hF with rfl | hF
      · rw [hF0]; exact hesl
      · have hF := List.mem_singleton.1 hF
        rw [hF, hF1]
        show os1.length ≤ 210
        omega
    refine AGo_upE [14, 3, 4, 5] 2 (fun j (_ : Unit) => True) (fun j _ i => [(16, I i), (15, .ms 1 7 j 0 (j + 1))]) (fun j _ => [X1, X2, X3, X4, .own 0 [I a, I b, .vs 4 ys], .own 0 [U w2], .own 0 [I a1, I b1, .vs 4 xs1], .own j ((tb :: ([F0, F1].take j).map wrB).map strB)]) () trivial ⟨rfl, rfl, trivial⟩ (.inl rfl) fun j _ i hi hj _ Bk hB => ?_
    have hlt : A.lt i (A.vlen [tkV a b (.vs 4 ys), tkV a1 b1 (.vs 4 xs1)]) = decide (j < 2) := by subst hA; exact lt_len rfl hi
    have hadd : ∀ N, j < N → N ≤ 9223372036854775807 → A.add .i64 i 1 = iLen (j + 1) := fun N hj hN => by subst hA; exact add_one hi hj hN
    obtain ⟨tc, htc⟩ : ∃ t, t = (tb :: ([F0, F1].take j).map wrB).map strB := ⟨_, rfl⟩
    rw [← htc]
    have htl : tc.length = (j + 1) * 1 := by rw [htc]; simp; omega
    have happ : ∀ t : ByteArray, A.app 1 1 16 tc 0 (j + 1) [.lit (.string t)] (tc ++ [.lit (.string t)]) (j + 1 + 1) := fun t => by subst hA; exact app_one htl rfl (by omega)
    refine SGo_run hA ⟨[7, 9], [1000076], (15, eDamage) :: (11, eLooks) :: (12, eLooks) :: (14, eSameL) :: (10, eSameT) :: [], (8, eWriteK) :: (13, eWriteK) :: []⟩ (.cons eDamage_ok (.cons (eLooks_ok p11) (.cons (eLooks_ok p12) (.cons eSameL_ok (.cons eSameT_ok .nil))))) (.cons (eWriteK_ok p8) (.cons (eWriteK_ok p13) .nil)) 200 fun T TD hT hTD => ?_
    cbv
    split <;> cbv
    · rename_i hk1
      have hlt1 : j < 2 := by have := hlt.symm.trans hk1; simpa using this
      obtain ⟨F, hF⟩ : ∃ F, [F0, F1][j]? = some F := ⟨_, List.getElem?_eq_getElem (by simpa using hlt1)⟩
      have hbb := hbF F (List.mem_of_getElem? hF)
      have htk : (tb :: ([F0, F1].take (j + 1)).map wrB).map strB = tc ++ [strB (wrB F)] := by
        rw [htc, List.take_add_one, hF]; simp
      obtain ⟨⟨a2, b2⟩, es2⟩ := F
      obtain ⟨ys2, hys2⟩ : ∃ z, z = es2.map ecV := ⟨_, rfl⟩
      have hix : A.ix 3 3 [tkV a b (.vs 4 ys), tkV a1 b1 (.vs 4 xs1)] i [I a2, I b2, .vs 4 ys2] := by
        subst hA; rw [hys2]; exact ix_map hes hi hF rfl
      have hadd := hadd 2 hlt1 (by omega)
      have hEl := Elems_ec es2
      obtain ⟨yc, hyc⟩ : ∃ z, z = es2.flatMap ecC := ⟨_, rfl⟩
      obtain ⟨N, hN⟩ : ∃ N, N = 0 + ys2.length := ⟨_, rfl⟩
      rw [← hys2, ← hyc] at hEl
      have hN2 : N = es2.length := by rw [hN, hys2]; simp
      have hbb : es2.length ≤ 210 := hbb
      have happ2 : A.app 4 4 32 [] 0 0 ys2 yc N := by
        subst hA
        have := app_all (sz := 4) (by_ := 32) (n := 0) (cs := []) (es := ys2) rfl hEl.1 (by rw [← hN, hN2]; omega)
        rw [← hN] at this
        exact this
      refine Exists.intro _ (And.intro hix ?_); cbv
      refine Exists.intro _ (And.intro hix ?_); cbv
      refine Exists.intro yc (Exists.intro N (And.intro happ2 (And.intro rfl ?_))); cbv
      refine And.intro (by subst hA; exact .inr ⟨SubH.c4 (SubH.c4 (by simp [SubH])), by simp [ResK], .inr fun _ => SubH.c4 (SubH.c4 (by simp [SubH]))⟩) ?_; cbv
      rw [hT]
      have e1 : AV.frz 9 0 4 ys2 (.ms 4 9 0 0 N) = .vs 4 ys2 := frz_self (by rw [hys2, List.length_map, hN2])
      have e2 : AV.frz 9 0 4 ys2 (.ms 1 7 j 0 (j + 1)) = .ms 1 7 j 0 (j + 1) := by simp [AV.frz]
      have htcn : AV.nidL tc = true := by rw [htc]; exact nidL_strB _
      have eH : frzH 9 0 4 ys2 ([X1, X2, X3, X4, .own 0 [I a, I b, .vs 4 ys], .own 0 [U w2], .own 0 [I a1, I b1, .vs 4 xs1], .own j tc, .own 0 [I a2, I b2, .ms 4 9 0 0 N], .gone] : AHeap) = [X1, X2, X3, X4, .own 0 [I a, I b, .vs 4 ys], .own 0 [U w2], .own 0 [I a1, I b1, .vs 4 xs1], .own j tc, .own 0 [I a2, I b2, .vs 4 ys2], .gone] := by
        obtain ⟨f1, f2, f3, f4⟩ := glob_frz hG 9 0 4 ys2
        simp only [frzH, List.map_cons, List.map_nil]
        rw [f1, f2, f3, f4]
        simp only [AObj.frz, AV.frzL, AV.frzL_nid htcn, e1]
        simp [AV.frz]
      refine AGo_frz 9 0 4 ys2 rfl hEl ?_
      show AGo _ _ _ _ ⟨[], [(16, I i), (15, AV.frz 9 0 4 ys2 (.ms 1 7 j 0 (j + 1))), (14, .vs 3 [tkV a b (.vs 4 ys), tkV a1 b1 (.vs 4 xs1)]), (3, I at_), (4, I how), (5, .lit (.int .u8 by_)), (59, B true), (17, .mp 8 0 0)]⟩ (frzH 9 0 4 ys2 [X1, X2, X3, X4, .own 0 [I a, I b, .vs 4 ys], .own 0 [U w2], .own 0 [I a1, I b1, .vs 4 xs1], .own j tc, .own 0 [I a2, I b2, .ms 4 9 0 0 N], .gone])
      rw [eH, e2]
      clear hT hTD T TD
      refine SGo_run hA ⟨[7], [], (15, eDamage) :: (11, eLooks) :: (12, eLooks) :: (14, eSameL) :: (10, eSameT) :: [], (8, eWriteK) :: (13, eWriteK) :: []⟩ (.cons eDamage_ok (.cons (eLooks_ok p11) (.cons (eLooks_ok p12) (.cons eSameL_ok (.cons eSameT_ok .nil))))) (.cons (eWriteK_ok p8) (.cons (eWriteK_ok p13) .nil)) 200 fun T TD hT hTD => ?_
      cbv
      refine Exists.intro es2 (And.intro hys2 (And.intro (by omega) ?_))
      intro zs1 q1 hl1; cbv
      refine Exists.intro _ (And.intro hix ?_); cbv
      refine Exists.intro es2 (And.intro hys2 (And.intro (by omega) ?_))
      intro zs2 q2 hl2
      have e3 : zs2 = zs1 := hl2.xs.trans hl1.xs.symm
      have e4 : q2 = q1 := hl2.q.trans hl1.q.symm
      have hzx := hl1.xs
      have hzl : (looksK ⟨(a2, b2), es2⟩).length ≤ 9223372036854775807 := by
        unfold looksK; split
        · rw [List.length_map]; show es2.length ≤ 9223372036854775807; omega
        · simp
      obtain ⟨lk, hlk⟩ : ∃ z, z = looksK ⟨(a2, b2), es2⟩ := ⟨_, rfl⟩
      rw [← hlk] at hzx hzl
      clear hlk
      subst e3 e4
      clear hl1 hl2
      cbv
      refine Exists.intro es2 (And.intro ⟨hG.app [_, _, _, _, _, _], hys2, by omega⟩ fun t1 g1 hw1 => ?_); cbv
      refine Exists.intro _ (And.intro hix ?_); cbv
      refine Exists.intro es2 (And.intro ⟨hG.app [_, _, _, _, _, _], hys2, by omega⟩ fun t2 g2 hw2 => ?_)
      have e5 : t2 = t1 := hw2.e.trans hw1.e.symm
      have e6 : g2 = g1 := hw2.q.trans hw1.q.symm
      have hwt : t1 = wrB ⟨(a2, b2), es2⟩ := hw1.e
      subst e5 e6
      clear hw1 hw2
      rw [← hwt] at htk
      obtain ⟨tc2, htc2⟩ : ∃ z, z = tc ++ [.lit (.string t2)] := ⟨_, rfl⟩
      have happ := happ t2
      rw [← htc2] at happ
      have htk : tc2 = (tb :: ([F0, F1].take (j + 1)).map wrB).map strB := by rw [htk, htc2]; rfl
      cbv
      split <;> cbv
      · rename_i hz; exact Bool.noConfusion (hz.symm.trans (hnr _))
      split <;> cbv
      · rename_i hz; exact Bool.noConfusion (hz.symm.trans (hnr _))
      split <;> cbv
      · rename_i hz; exact Bool.noConfusion (hz.symm.trans (hsq _))
      refine Exists.intro lk (Exists.intro lk (And.intro hzx (And.intro hzx (And.intro hzl (And.intro hzl ?_)))))
      intro r hr
      have hr : r = true := by rw [hr]; simp
      subst hr
      cbv
      split <;> cbv
      · rename_i hz; exact Bool.noConfusion (hz.symm.trans (hnb true))
      refine Exists.intro _ (And.intro hix ?_); cbv
      refine Exists.intro es2 (And.intro rfl (And.intro rfl (And.intro rfl (And.intro hys2 (And.intro (by omega) ?_))))); cbv
      split <;> cbv
      · rename_i hz; exact Bool.noConfusion (hz.symm.trans (hnb true))
      refine And.intro (by subst hA; rfl) (Exists.intro _ (Exists.intro _ (And.intro happ (And.intro rfl ?_)))); cbv
      refine hB () _ _ hlt1 trivial ⟨congrArg I hadd, rfl, trivial⟩ ⟨rfl, rfl, rfl, rfl, trivial⟩ (.inr ⟨⟨[.own 0 [I a2, I b2, .vs 4 ys2], .gone], ?_⟩, by simp, by simp [ltG, keepS, look, gset, AV.lt, AV.ltL], ?_⟩)
      · rw [← htk]; rfl
      · exact glob_lt8 hG (by simp [AV.nidL, AV.nid]) (by simp [AV.nidL, AV.nid]) (by simp [AV.nidL, AV.nid]) (nidL_strB _)
    rename_i hk1
    have hk1 : ¬ j < 2 := by have := hlt.symm.trans hk1; simpa using this
    obtain rfl : j = 2 := by omega
    obtain ⟨tw0, htw0⟩ : ∃ z, z = wrB F0 := ⟨_, rfl⟩
    obtain ⟨tw1, htw1⟩ : ∃ z, z = wrB F1 := ⟨_, rfl⟩
    have htc3 : tc = [.lit (.string tb), .lit (.string tw0), .lit (.string tw1)] := by rw [htc, htw0, htw1]; rfl
    have hw1l : tw1.data.toList.length ≤ 1000000 := by
      rw [htw1]; unfold wrB writeK
      rw [hF1, if_pos hf1, bA_data]
      have := textT_len (checkT_ok hf1)
      omega
    have hixm : A.ixm 1 1 0 3 2 2 := by subst hA; exact ⟨rfl, by decide, by decide, rfl⟩
    have hget : A.get none tc 2 (.lit (.string tw1)) := by subst hA; rw [htc3]; rfl
    clear hlt hadd hB happ
    refine And.intro (by subst hA; rfl) (Exists.intro _ (And.intro hixm ?_)); cbv
    refine And.intro (by subst hA; rfl) (Exists.intro _ (And.intro hget ?_)); cbv
    refine And.intro ⟨hw1l, hat, hhow⟩ fun td => ?_
    obtain ⟨tc4, htc4⟩ : ∃ z, z = tc ++ [.lit (.string td)] := ⟨_, rfl⟩
    have happ : A.app 1 1 16 tc 0 3 [.lit (.string td)] tc4 4 := by subst hA; rw [htc4]; exact app_one htl rfl (by omega)
    have htc5 : tc4 = [tb, tw0, tw1, td].map strB := by rw [htc4, htc3]; rfl
    cbv
    refine And.intro (by subst hA; rfl) (Exists.intro _ (Exists.intro _ (And.intro happ (And.intro rfl ?_)))); cbv
    rw [hT]
    refine AGo_upE [15] 4 (fun j (_ : Unit) => True) (fun j _ i => [(26, I i)]) (fun j _ => [X1, X2, X3, X4, .own 0 [I a, I b, .vs 4 ys], .own 0 [U w2], .own 0 [I a1, I b1, .vs 4 xs1], .own 3 tc4]) () trivial ⟨rfl, trivial⟩ (.inl rfl) fun j _ i hi hj _ Bk hB => ?_
    have hlt : A.lt i (A.len 4) = decide (j < 4) := by subst hA; simp only [std, iLt, hi]; rw [Bool.eq_iff_iff]; unfold iLen; simp; omega
    have hadd : ∀ N, j < N → N ≤ 9223372036854775807 → A.add .i64 i 1 = iLen (j + 1) := fun N hj hN => by subst hA; exact add_one hi hj hN
    refine SGo_run hA ⟨[7], [], (10, eSameT) :: (5, eAwake) :: [], (9, eReadK) :: (16, eReadK) :: []⟩ (.cons eSameT_ok (.cons eAwake_ok .nil)) (.cons (eReadK_ok p9) (.cons (eReadK_ok fun t H _ {_} h => p16 t H h) .nil)) 200 fun T TD hT hTD => ?_
    cbv
    refine And.intro (by subst hA; rfl) ?_; cbv
    split <;> cbv
    · rename_i hk1
      have hlt1 : j < 4 := by have := hlt.symm.trans hk1; simpa using this
      have hadd := hadd 4 hlt1 (by omega)
      obtain ⟨t, ht⟩ : ∃ t, [tb, tw0, tw1, td][j]? = some t := ⟨_, List.getElem?_eq_getElem (by simpa using hlt1)⟩
      have hixm : A.ixm 1 1 0 4 i j := by subst hA; exact ⟨rfl, by rw [hi]; exact Int.natCast_nonneg j, by rw [hi]; unfold iLen; omega, by rw [hi]; simp [iLen]⟩
      have hget : A.get none tc4 j (.lit (.string t)) := by
        subst hA; rw [htc5]
        show getN none ([tb, tw0, tw1, td].map strB) j = _
        simp only [getN, List.getElem?_map, ht, Option.map_some]
        rfl
      have hsg : A.sg 3 3 := by subst hA; rfl
      refine And.intro hsg (Exists.intro _ (And.intro hixm ?_)); cbv
      refine And.intro hsg (Exists.intro _ (And.intro hget ?_)); cbv
      refine Exists.intro () (And.intro (hG.app [_, _, _, _]) ?_)
      intro a3 b3 es3 xs3 row3 q3 hr3
      cbv
      refine And.intro hsg (Exists.intro _ (And.intro hixm ?_)); cbv
      refine And.intro hsg (Exists.intro _ (And.intro hget ?_)); cbv
      refine Exists.intro () (And.intro (hG.app [_, _, _, _, _]) ?_)
      intro a4 b4 es4 xs4 row4 q4 hr4
      have hee := hr3.eq.symm.trans hr4.eq
      simp only [Prod.mk.injEq, Trk.mk.injEq] at hee
      obtain ⟨⟨⟨rfl, rfl⟩, rfl⟩, rfl, rfl⟩ := hee
      have e1 : xs4 = xs3 := hr4.xs.trans hr3.xs.symm
      have hx3 := hr3.xs
      have hsm := readK_small t.data.toList
      rw [hr3.eq] at hsm
      dsimp only at hsm
      subst e1
      clear hr3 hr4
      cbv
      split <;> cbv
      · rename_i hz; exact Bool.noConfusion (hz.symm.trans (hnr _))
      split <;> cbv
      · rename_i hz; exact Bool.noConfusion (hz.symm.trans (hnr _))
      refine Exists.intro es3 (And.intro rfl (And.intro rfl (And.intro rfl (And.intro hx3 (And.intro hsm ?_))))); cbv
      split <;> cbv
      · rename_i hz; exact Bool.noConfusion (hz.symm.trans (hnb true))
      exact hB () _ _ hlt1 trivial ⟨congrArg I hadd, trivial⟩ ⟨rfl, trivial⟩ (.inr ⟨⟨_, rfl⟩, by simp, by simp [ltG, keepS, look, gset, AV.lt, AV.ltL], glob_lt8 hG (by simp [AV.nidL, AV.nid]) (by simp [AV.nidL, AV.nid]) (by simp [AV.nidL, AV.nid]) (by rw [htc5]; exact nidL_strB _)⟩)
    · exact h
end Go.Sas
