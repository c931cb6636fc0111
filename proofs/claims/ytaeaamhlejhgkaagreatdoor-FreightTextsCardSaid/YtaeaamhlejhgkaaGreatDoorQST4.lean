/-
Season files: the law FreightTexts: its core.
Conditions: none.
-/
import Derived.Test.YtaeaamhlejhgkaaGreatDoorQST1
import Derived.Test.YtaeaamhlejhgkaaGreatDoorXD
import Derived.Test.YtaeaamhlejhgkaaGreatDoorQSR6
set_option linter.unusedVariables false
set_option linter.unusedSimpArgs false
namespace Go.Sas
open Go.Proofs
set_option maxRecDepth 100000
structure DamPre (s : ByteArray) (a h : Int) : Prop where
  len : s.data.toList.length ≤ 1000000
  a : I64 a
  h : I64 h
def eDamage : List AV → Option ((AV → Prop) → Prop)
  | [.lit (.string s), .lit (.int .i64 a), .lit (.int .i64 h), .lit (.int .u8 _)] => some fun K => DamPre s a h ∧ ∀ t, K (.lit (.string t))
  | _ => none
theorem eDamage_ok : ∀ args pt, eDamage args = some pt → ∀ (H : AHeap) (Kk : AV → AHeap → Prop), pt (fun r => Kk r H) → ACalls Tryz.prog 11 args H Kk := by
  intro args pt h H Kk hk
  unfold eDamage at h
  split at h
  · cases h
    obtain ⟨⟨h1, h2, h3⟩, hk⟩ := hk
    exact p11 _ _ _ _ h1 h2 h3 H hk
  · cases h
def eBigF : List AV → Option ((AV → Prop) → Prop)
  | [.agg [.lit (.int .i64 _), .lit (.int .i64 _), .lit (.int .i64 _), .lit (.int .i64 _), .vs 2 xs, .vs 4 ys]] =>
    some fun K => ∃ (cs : List (Int × Int)) (os : List Ord), xs = cs.map sp ∧ ys = os.map orV ∧ ∀ q, q = bigF cs.length os.length → K (B q)
  | _ => none
theorem eBigF_ok : ∀ args pt, eBigF args = some pt → ∀ (H : AHeap) (Kk : AV → AHeap → Prop), pt (fun r => Kk r H) → ACalls Tryz.prog 5 args H Kk := by
  intro args pt h H Kk hk
  unfold eBigF at h
  split at h
  · cases h
    obtain ⟨cs, os, rfl, rfl, h3⟩ := hk
    exact p5 _ _ _ _ _ _ H (h3 _ rfl)
  · cases h
theorem readF_small (t : List UInt8) : (readF t).1.caps.length ≤ 1000000 ∧ (readF t).1.ords.length ≤ 1000000 := by
  unfold readF readS
  split
  · simp [frt0]
  · simp only
    split
    · simp [frt0]
    · split
      · simp [frt0]
      · split
        · simp [frt0]
        · rename_i hc
          have hV := checkF_ok (Decidable.not_not.1 hc)
          have h1 := hV.c2
          have h2 := hV.o2
          simp only
          omega
theorem stays_mk {us : List Nat} {H : AHeap} {n : Nat} {nw : List Nat} {M1 : AHeap} {cs : List AV} {nn : Nat} {T : AHeap} : Stays (some ⟨mask (lateU us) H, n, nw, M1, cs, nn, []⟩) (H ++ T) := fun D' hD => by cases hD; exact ⟨mask_sub, trivial⟩
def strB (t : ByteArray) : AV := .lit (.string t)
def wrB (f : Frt) : ByteArray := bA (if checkF f = 0 then textS f else [])
theorem glob_lt7 {X1 X2 X3 X4 : AObj} (hG : Globs [X1, X2, X3, X4]) {g g2 g3 : Nat} {c1 c2 c3 : List AV} (h1 : AV.nidL c1 = true) (h2 : AV.nidL c2 = true) (h3 : AV.nidL c3 = true) : ltH 7 [X1, X2, X3, X4, .own g c1, .own g2 c2, .own g3 c3] := by
  obtain ⟨_, _, _, _, _, e, _, g2, m2, o2, g3, o3, g4, o4, e1, e2, e3, e4⟩ := hG.split
  cases e
  subst e1 e2 e3 e4
  simp [ltH, AObj.lt, rawG, rawT, AV.ltL, AV.lt, AV.ltL_nid h1, AV.ltL_nid h2, AV.ltL_nid h3]
theorem nidL_strB (l : List ByteArray) : AV.nidL (l.map strB) = true := by
  induction l with
  | nil => rfl
  | cons x l ih => simpa [AV.nidL, AV.nid, strB] using ih
set_option maxHeartbeats 8000000 in
theorem core3 (a b c d : Int) (cs : List (Int × Int)) (os : List Ord) (hcl : cs.length ≤ 9223372036854775807) (hol : os.length ≤ 9223372036854775807) (tb : ByteArray) (nums : List Int) (hn1 : nums.length ≤ 9223372036854775807) (at_ how by_ : Int) (hat : I64 at_) (hhow : I64 how) (X1 X2 X3 X4 : AObj) (hG : Globs [X1, X2, X3, X4]) :
    ACalls Tryz.prog 3 [frV a b c d (.vs 2 (cs.map sp)) (.vs 4 (os.map orV)), .lit (.string tb), .vs 1 (nums.map I), I at_, I how, .lit (.int .u8 by_)] [X1, X2, X3, X4] fun r H' => r = .lit (.bool true) ∧ H' = [X1, X2, X3, X4] := by
  obtain ⟨Kk, hKk⟩ : ∃ K : AV → AHeap → Prop, K = fun r H' => r = .lit (.bool true) ∧ H' = [X1, X2, X3, X4] := ⟨_, rfl⟩
  rw [← hKk]
  have h : Kk (B true) [X1, X2, X3, X4] := by rw [hKk]; exact ⟨rfl, rfl⟩
  clear hKk
  obtain ⟨xn, hxn⟩ : ∃ ys, ys = nums.map I := ⟨_, rfl⟩
  obtain ⟨xs, hxs⟩ : ∃ xs, xs = cs.map sp := ⟨_, rfl⟩
  obtain ⟨ys, hys⟩ : ∃ ys, ys = os.map orV := ⟨_, rfl⟩
  rw [← hxn, ← hxs, ← hys]
  obtain ⟨A, hA⟩ : ∃ A, A = std := ⟨_, rfl⟩
  have hnr : ∀ x, A.ne x x = false := by subst hA; intro x; simp [std, iNe]
  have hnb : ∀ b, A.bnot b = !b := by subst hA; intro b; rfl
  have hsq : ∀ a, A.bnot (A.seq a a) = false := by subst hA; intro a; show (!sEq a a) = false; rw [seq_iff.2 rfl]; rfl
  refine go3 rfl (AGo.weaken (SGo_run (R := RetH _ [X1, X2, X3, X4] Kk) hA ⟨[], [], (6, eAwk) :: (5, eBigF) :: [], []⟩ (.cons eAwk_ok (.cons eBigF_ok .nil)) .nil 200 fun T TD hT hTD => ?_) (fun _ _ _ h => RetH.p hG.ltH h) (by simp))
  cbv
  refine Exists.intro cs (Exists.intro os (And.intro hxs (And.intro hys ?_)))
  intro q hq; cbv
  split <;> cbv
  · exact h
  split <;> cbv
  · split <;> cbv
    · exact h
    · rw [hT]
      refine AGo_drwN [] [.lit (.string tb)] 1 ?_
      refine SD_run hA ⟨[5], [], [], (8, eSeedF) :: (7, eDraw sFr) :: []⟩ .nil (.cons eSeedF_ok (.cons (eDraw_ok sFr_ok) .nil)) 200 200 stays_mk fun T TD hT hTD => ?_
      cbv
      refine Exists.intro nums (And.intro ⟨hxn, hn1⟩ ?_)
      intro w1
      cbv
      refine And.intro (by subst hA; exact .inr ⟨SubH.c4 (by simp [SubH]), by simp [ResK], .inr fun _ => SubH.c4 (by simp [SubH])⟩) ?_; cbv
      refine Exists.intro () (And.intro (by omega) ?_)
      rintro w2 _ ⟨a1, b1, c1, d1, xs1, ys1, cs1, os1, rfl, hxs1, hys1, hf1, _⟩
      have hV := checkF_ok hf1
      have ho2 := hV.o2
      have hc2 := hV.c2
      dsimp only at ho2 hc2
      cbv
      refine And.intro (by subst hA; exact .inr ⟨SubH.c4 (by simp [SubH]), by simp [ResK], .inr fun _ => SubH.c4 (by simp [SubH])⟩) ?_; cbv
      rw [hT]
      obtain ⟨F0, hF0⟩ : ∃ F : Frt, F = ⟨(a, b), (c, d), cs, os⟩ := ⟨_, rfl⟩
      obtain ⟨F1, hF1⟩ : ∃ F : Frt, F = ⟨(a1, b1), (c1, d1), cs1, os1⟩ := ⟨_, rfl⟩
      have hes : [frV a b c d (.vs 2 xs) (.vs 4 ys), frV a1 b1 c1 d1 (.vs 2 xs1) (.vs 4 ys1)] = [F0, F1].map frA := by
        rw [hF0, hF1, hxs, hys, hxs1, hys1]; rfl
      have hbF : ∀ F ∈ [F0, F1], F.caps.length ≤ 9223372036854775807 ∧ F.ords.length ≤ 9223372036854775807 := fun F hF => by
        rcases List.mem_cons.1 hF with rfl | hF
        · rw [hF0]; exact ⟨hcl, hol⟩
        · have hF := List.mem_singleton.1 hF
          rw [hF, hF1]
          constructor
          · show cs1.length ≤ 9223372036854775807
            omega
          · show os1.length ≤ 9223372036854775807
            omega
      refine AGo_upE [13, 3, 4, 5] 2 (fun j (_ : Unit) => True) (fun j _ i => [(15, I i), (14, .ms 1 5 j 0 (j + 1))]) (fun j _ => [X1, X2, X3, X4, .own 0 [I a, I b, I c, I d, .vs 2 xs, .vs 4 ys], .own j ((tb :: ([F0, F1].take j).map wrB).map strB), .own 0 [U w2]]) () trivial ⟨rfl, rfl, trivial⟩ (.inl rfl) fun j _ i hi hj _ Bk hB => ?_
      have hlt : A.lt i (A.vlen [frV a b c d (.vs 2 xs) (.vs 4 ys), frV a1 b1 c1 d1 (.vs 2 xs1) (.vs 4 ys1)]) = decide (j < 2) := by subst hA; exact lt_len rfl hi
      have hadd : ∀ N, j < N → N ≤ 9223372036854775807 → A.add .i64 i 1 = iLen (j + 1) := fun N hj hN => by subst hA; exact add_one hi hj hN
      obtain ⟨tc, htc⟩ : ∃ t, t = (tb :: ([F0, F1].take j).map wrB).map strB := ⟨_, rfl⟩
      rw [← htc]
      have htl : tc.length = (j + 1) * 1 := by rw [htc]; simp; omega
      have happ : ∀ t : ByteArray, A.app 1 1 16 tc 0 (j + 1) [.lit (.string t)] (tc ++ [.lit (.string t)]) (j + 1 + 1) := fun t => by subst hA; exact app_one htl rfl (by omega)
      refine SGo_run hA ⟨[5], [], (11, eDamage) :: [], (9, eWriteF) :: (10, eWriteF) :: []⟩ (.cons eDamage_ok .nil) (.cons eWriteF_ok (.cons eWriteR_ok .nil)) 200 fun T TD hT hTD => ?_
      cbv
      split <;> cbv
      · rename_i hk1
        have hlt1 : j < 2 := by have := hlt.symm.trans hk1; simpa using this
        obtain ⟨F, hF⟩ : ∃ F, [F0, F1][j]? = some F := ⟨_, List.getElem?_eq_getElem (by simpa using hlt1)⟩
        have hbb := hbF F (List.mem_of_getElem? hF)
        have htk : (tb :: ([F0, F1].take (j + 1)).map wrB).map strB = tc ++ [strB (wrB F)] := by
          rw [htc, List.take_add_one, hF]; simp
        obtain ⟨⟨a2, b2⟩, ⟨c2, d2⟩, cs2, os2⟩ := F
        obtain ⟨xs2, hxs2⟩ : ∃ z, z = cs2.map sp := ⟨_, rfl⟩
        obtain ⟨ys2, hys2⟩ : ∃ z, z = os2.map orV := ⟨_, rfl⟩
        have hix : A.ix 6 6 [frV a b c d (.vs 2 xs) (.vs 4 ys), frV a1 b1 c1 d1 (.vs 2 xs1) (.vs 4 ys1)] i [I a2, I b2, I c2, I d2, .vs 2 xs2, .vs 4 ys2] := by
          subst hA; rw [hxs2, hys2]; exact ix_map hes hi hF rfl
        have hadd := hadd 2 hlt1 (by omega)
        refine Exists.intro _ (And.intro hix ?_); cbv
        refine Exists.intro cs2 (Exists.intro os2 (And.intro ⟨hG.app [_, _, _], hxs2, hys2, hbb.1, hbb.2⟩ fun t1 q1 hw1 => ?_)); cbv
        refine Exists.intro _ (And.intro hix ?_); cbv
        refine Exists.intro cs2 (Exists.intro os2 (And.intro ⟨hG.app [_, _, _], hxs2, hys2, hbb.1, hbb.2⟩ fun t2 q2 hw2 => ?_))
        have e1 : t2 = t1 := hw2.t.trans hw1.t.symm
        have e2 : q2 = q1 := hw2.q.trans hw1.q.symm
        have hwt : t1 = wrB ⟨(a2, b2), (c2, d2), cs2, os2⟩ := hw1.t
        subst e1 e2
        clear hw1 hw2
        rw [← hwt] at htk
        obtain ⟨tc2, htc2⟩ : ∃ z, z = tc ++ [.lit (.string t2)] := ⟨_, rfl⟩
        have happ := happ t2
        rw [← htc2] at happ
        have htk : tc2 = (tb :: ([F0, F1].take (j + 1)).map wrB).map strB := by rw [htk, htc2]; rfl
        cbv
        split <;> cbv
        · rename_i hz; exact Bool.noConfusion (hz.symm.trans (hsq _))
        split <;> cbv
        · rename_i hz; exact Bool.noConfusion (hz.symm.trans (hnr _))
        refine And.intro (by subst hA; rfl) (Exists.intro _ (Exists.intro _ (And.intro happ (And.intro rfl ?_)))); cbv
        exact hB () _ _ hlt1 trivial ⟨congrArg I hadd, rfl, trivial⟩ ⟨rfl, rfl, rfl, rfl, trivial⟩ (.inl (by rw [htk]))
      rename_i hk1
      have hk1 : ¬ j < 2 := by have := hlt.symm.trans hk1; simpa using this
      obtain rfl : j = 2 := by omega
      obtain ⟨tw0, htw0⟩ : ∃ z, z = wrB F0 := ⟨_, rfl⟩
      obtain ⟨tw1, htw1⟩ : ∃ z, z = wrB F1 := ⟨_, rfl⟩
      have htc3 : tc = [.lit (.string tb), .lit (.string tw0), .lit (.string tw1)] := by rw [htc, htw0, htw1]; rfl
      have hw1l : tw1.data.toList.length ≤ 1000000 := by
        rw [htw1]; unfold wrB
        rw [hF1, if_pos hf1, bA_data]
        have := textS_len (checkF_ok hf1)
        omega
      have hixm : A.ixm 1 1 0 3 2 2 := by subst hA; exact ⟨rfl, by decide, by decide, rfl⟩
      have hget : A.get none tc 2 (.lit (.string tw1)) := by subst hA; rw [htc3]; rfl
      clear hlt hadd hB happ
      refine And.intro (by subst hA; rfl) (Exists.intro _ (And.intro hixm ?_)); cbv
      refine And.intro (by subst hA; rfl) (Exists.intro _ (And.intro hget ?_)); cbv
      refine And.intro ⟨hw1l, hat, hhow⟩ fun td => ?_
      obtain ⟨tc4, htc4⟩ : ∃ z, z = tc ++ [.lit (.string td)] := ⟨_, rfl⟩
      have happ : A.app 1 1 16 tc 0 3 [.lit (.string td)] tc4 4 := by subst hA; rw [htc4]; exact app_one htl rfl (by omega)
      have htc5 : tc4 = [tb, tw0, tw1, td].map strB := by rw [htc4, htc3]; rfl
      cbv
      refine And.intro (by subst hA; rfl) (Exists.intro _ (Exists.intro _ (And.intro happ (And.intro rfl ?_)))); cbv
      rw [hT]
      refine AGo_upE [14] 4 (fun j (_ : Unit) => True) (fun j _ i => [(20, I i)]) (fun j _ => [X1, X2, X3, X4, .own 0 [I a, I b, I c, I d, .vs 2 xs, .vs 4 ys], .own 3 tc4, .own 0 [U w2]]) () trivial ⟨rfl, trivial⟩ (.inl rfl) fun j _ i hi hj _ Bk hB => ?_
      have hlt : A.lt i (A.len 4) = decide (j < 4) := by subst hA; simp only [std, iLt, hi]; rw [Bool.eq_iff_iff]; unfold iLen; simp; omega
      have hadd : ∀ N, j < N → N ≤ 9223372036854775807 → A.add .i64 i 1 = iLen (j + 1) := fun N hj hN => by subst hA; exact add_one hi hj hN
      refine SGo_run hA ⟨[5], [], (14, eSameFr) :: (6, eAwk) :: [], (12, eReadF) :: (13, eReadF) :: []⟩ (.cons eSameFr_ok (.cons eAwk_ok .nil)) (.cons (eReadF_ok p12) (.cons (eReadF_ok fun t H _ {_} h => p13 t H h) .nil)) 200 fun T TD hT hTD => ?_
      cbv
      refine And.intro (by subst hA; rfl) ?_; cbv
      split <;> cbv
      · rename_i hk1
        have hlt1 : j < 4 := by have := hlt.symm.trans hk1; simpa using this
        have hadd := hadd 4 hlt1 (by omega)
        obtain ⟨t, ht⟩ : ∃ t, [tb, tw0, tw1, td][j]? = some t := ⟨_, List.getElem?_eq_getElem (by simpa using hlt1)⟩
        have hixm : A.ixm 1 1 0 4 i j := by subst hA; exact ⟨rfl, by rw [hi]; exact Int.natCast_nonneg j, by rw [hi]; unfold iLen; omega, by rw [hi]; simp [iLen]⟩
        have hget : A.get none tc4 j (.lit (.string t)) := by
          subst hA; rw [htc5]
          show getN none ([tb, tw0, tw1, td].map strB) j = _
          simp only [getN, List.getElem?_map, ht, Option.map_some]
          rfl
        have hsg : A.sg 3 3 := by subst hA; rfl
        refine And.intro hsg (Exists.intro _ (And.intro hixm ?_)); cbv
        refine And.intro hsg (Exists.intro _ (And.intro hget ?_)); cbv
        refine Exists.intro () (And.intro (hG.app [_, _, _]) ?_)
        intro a3 b3 c3 d3 cs3 os3 xs3 ys3 row3 q3 hr3
        cbv
        refine And.intro hsg (Exists.intro _ (And.intro hixm ?_)); cbv
        refine And.intro hsg (Exists.intro _ (And.intro hget ?_)); cbv
        refine Exists.intro () (And.intro (hG.app [_, _, _, _]) ?_)
        intro a4 b4 c4 d4 cs4 os4 xs4 ys4 row4 q4 hr4
        have hee := hr3.eq.symm.trans hr4.eq
        simp only [Prod.mk.injEq, Frt.mk.injEq] at hee
        obtain ⟨⟨⟨rfl, rfl⟩, ⟨rfl, rfl⟩, rfl, rfl⟩, rfl, rfl⟩ := hee
        have e1 : xs4 = xs3 := hr4.xs.trans hr3.xs.symm
        have e2 : ys4 = ys3 := hr4.ys.trans hr3.ys.symm
        have hx3 := hr3.xs
        have hy3 := hr3.ys
        have hsm := readF_small t.data.toList
        rw [hr3.eq] at hsm
        dsimp only at hsm
        obtain ⟨hsm1, hsm2⟩ := hsm
        subst e1 e2
        clear hr3 hr4
        cbv
        split <;> cbv
        · rename_i hz; exact Bool.noConfusion (hz.symm.trans (hnr _))
        split <;> cbv
        · rename_i hz; exact Bool.noConfusion (hz.symm.trans (hnr _))
        refine Exists.intro cs3 (Exists.intro os3 (And.intro rfl (And.intro rfl (And.intro rfl (And.intro rfl (And.intro rfl (And.intro rfl (And.intro hx3 (And.intro hy3 (And.intro hsm1 (And.intro hsm2 ?_))))))))))); cbv
        split <;> cbv
        · rename_i hz; exact Bool.noConfusion (hz.symm.trans (hnb true))
        exact hB () _ _ hlt1 trivial ⟨congrArg I hadd, trivial⟩ ⟨rfl, trivial⟩ (.inr ⟨⟨_, rfl⟩, by simp, by simp [ltG, keepS, look, gset, AV.lt, AV.ltL], glob_lt7 hG (by simp [AV.nidL, AV.nid]) (by rw [htc5]; exact nidL_strB _) (by simp [AV.nidL, AV.nid])⟩)
      · exact h
  · rw [hT]
    refine AGo_drwN [] [.lit (.string tb)] 1 ?_
    refine SD_run hA ⟨[5], [], [], (8, eSeedF) :: (7, eDraw sFr) :: []⟩ .nil (.cons eSeedF_ok (.cons (eDraw_ok sFr_ok) .nil)) 200 200 stays_mk fun T TD hT hTD => ?_
    cbv
    refine Exists.intro nums (And.intro ⟨hxn, hn1⟩ ?_)
    intro w1
    cbv
    refine And.intro (by subst hA; exact .inr ⟨SubH.c4 (by simp [SubH]), by simp [ResK], .inr fun _ => SubH.c4 (by simp [SubH])⟩) ?_; cbv
    refine Exists.intro () (And.intro (by omega) ?_)
    rintro w2 _ ⟨a1, b1, c1, d1, xs1, ys1, cs1, os1, rfl, hxs1, hys1, hf1, _⟩
    have hV := checkF_ok hf1
    have ho2 := hV.o2
    have hc2 := hV.c2
    dsimp only at ho2 hc2
    cbv
    refine And.intro (by subst hA; exact .inr ⟨SubH.c4 (by simp [SubH]), by simp [ResK], .inr fun _ => SubH.c4 (by simp [SubH])⟩) ?_; cbv
    rw [hT]
    obtain ⟨F0, hF0⟩ : ∃ F : Frt, F = ⟨(a, b), (c, d), cs, os⟩ := ⟨_, rfl⟩
    obtain ⟨F1, hF1⟩ : ∃ F : Frt, F = ⟨(a1, b1), (c1, d1), cs1, os1⟩ := ⟨_, rfl⟩
    have hes : [frV a b c d (.vs 2 xs) (.vs 4 ys), frV a1 b1 c1 d1 (.vs 2 xs1) (.vs 4 ys1)] = [F0, F1].map frA := by
      rw [hF0, hF1, hxs, hys, hxs1, hys1]; rfl
    have hbF : ∀ F ∈ [F0, F1], F.caps.length ≤ 9223372036854775807 ∧ F.ords.length ≤ 9223372036854775807 := fun F hF => by
      rcases List.mem_cons.1 hF with rfl | hF
      · rw [hF0]; exact ⟨hcl, hol⟩
      · have hF := List.mem_singleton.1 hF
        rw [hF, hF1]
        constructor
        · show cs1.length ≤ 9223372036854775807
          omega
        · show os1.length ≤ 9223372036854775807
          omega
    refine AGo_upE [13, 3, 4, 5] 2 (fun j (_ : Unit) => True) (fun j _ i => [(15, I i), (14, .ms 1 5 j 0 (j + 1))]) (fun j _ => [X1, X2, X3, X4, .own 0 [I a, I b, I c, I d, .vs 2 xs, .vs 4 ys], .own j ((tb :: ([F0, F1].take j).map wrB).map strB), .own 0 [U w2]]) () trivial ⟨rfl, rfl, trivial⟩ (.inl rfl) fun j _ i hi hj _ Bk hB => ?_
    have hlt : A.lt i (A.vlen [frV a b c d (.vs 2 xs) (.vs 4 ys), frV a1 b1 c1 d1 (.vs 2 xs1) (.vs 4 ys1)]) = decide (j < 2) := by subst hA; exact lt_len rfl hi
    have hadd : ∀ N, j < N → N ≤ 9223372036854775807 → A.add .i64 i 1 = iLen (j + 1) := fun N hj hN => by subst hA; exact add_one hi hj hN
    obtain ⟨tc, htc⟩ : ∃ t, t = (tb :: ([F0, F1].take j).map wrB).map strB := ⟨_, rfl⟩
    rw [← htc]
    have htl : tc.length = (j + 1) * 1 := by rw [htc]; simp; omega
    have happ : ∀ t : ByteArray, A.app 1 1 16 tc 0 (j + 1) [.lit (.string t)] (tc ++ [.lit (.string t)]) (j + 1 + 1) := fun t => by subst hA; exact app_one htl rfl (by omega)
    refine SGo_run hA ⟨[5], [], (11, eDamage) :: [], (9, eWriteF) :: (10, eWriteF) :: []⟩ (.cons eDamage_ok .nil) (.cons eWriteF_ok (.cons eWriteR_ok .nil)) 200 fun T TD hT hTD => ?_
    cbv
    split <;> cbv
    · rename_i hk1
      have hlt1 : j < 2 := by have := hlt.symm.trans hk1; simpa using this
      obtain ⟨F, hF⟩ : ∃ F, [F0, F1][j]? = some F := ⟨_, List.getElem?_eq_getElem (by simpa using hlt1)⟩
      have hbb := hbF F (List.mem_of_getElem? hF)
      have htk : (tb :: ([F0, F1].take (j + 1)).map wrB).map strB = tc ++ [strB (wrB F)] := by
        rw [htc, List.take_add_one, hF]; simp
      obtain ⟨⟨a2, b2⟩, ⟨c2, d2⟩, cs2, os2⟩ := F
      obtain ⟨xs2, hxs2⟩ : ∃ z, z = cs2.map sp := ⟨_, rfl⟩
      obtain ⟨ys2, hys2⟩ : ∃ z, z = os2.map orV := ⟨_, rfl⟩
      have hix : A.ix 6 6 [frV a b c d (.vs 2 xs) (.vs 4 ys), frV a1 b1 c1 d1 (.vs 2 xs1) (.vs 4 ys1)] i [I a2, I b2, I c2, I d2, .vs 2 xs2, .vs 4 ys2] := by
        subst hA; rw [hxs2, hys2]; exact ix_map hes hi hF rfl
      have hadd := hadd 2 hlt1 (by omega)
      refine Exists.intro _ (And.intro hix ?_); cbv
      refine Exists.intro cs2 (Exists.intro os2 (And.intro ⟨hG.app [_, _, _], hxs2, hys2, hbb.1, hbb.2⟩ fun t1 q1 hw1 => ?_)); cbv
      refine Exists.intro _ (And.intro hix ?_); cbv
      refine Exists.intro cs2 (Exists.intro os2 (And.intro ⟨hG.app [_, _, _], hxs2, hys2, hbb.1, hbb.2⟩ fun t2 q2 hw2 => ?_))
      have e1 : t2 = t1 := hw2.t.trans hw1.t.symm
      have e2 : q2 = q1 := hw2.q.trans hw1.q.symm
      have hwt : t1 = wrB ⟨(a2, b2), (c2, d2), cs2, os2⟩ := hw1.t
      subst e1 e2
      clear hw1 hw2
      rw [← hwt] at htk
      obtain ⟨tc2, htc2⟩ : ∃ z, z = tc ++ [.lit (.string t2)] := ⟨_, rfl⟩
      have happ := happ t2
      rw [← htc2] at happ
      have htk : tc2 = (tb :: ([F0, F1].take (j + 1)).map wrB).map strB := by rw [htk, htc2]; rfl
      cbv
      split <;> cbv
      · rename_i hz; exact Bool.noConfusion (hz.symm.trans (hsq _))
      split <;> cbv
      · rename_i hz; exact Bool.noConfusion (hz.symm.trans (hnr _))
      refine And.intro (by subst hA; rfl) (Exists.intro _ (Exists.intro _ (And.intro happ (And.intro rfl ?_)))); cbv
      exact hB () _ _ hlt1 trivial ⟨congrArg I hadd, rfl, trivial⟩ ⟨rfl, rfl, rfl, rfl, trivial⟩ (.inl (by rw [htk]))
    rename_i hk1
    have hk1 : ¬ j < 2 := by have := hlt.symm.trans hk1; simpa using this
    obtain rfl : j = 2 := by omega
    obtain ⟨tw0, htw0⟩ : ∃ z, z = wrB F0 := ⟨_, rfl⟩
    obtain ⟨tw1, htw1⟩ : ∃ z, z = wrB F1 := ⟨_, rfl⟩
    have htc3 : tc = [.lit (.string tb), .lit (.string tw0), .lit (.string tw1)] := by rw [htc, htw0, htw1]; rfl
    have hw1l : tw1.data.toList.length ≤ 1000000 := by
      rw [htw1]; unfold wrB
      rw [hF1, if_pos hf1, bA_data]
      have := textS_len (checkF_ok hf1)
      omega
    have hixm : A.ixm 1 1 0 3 2 2 := by subst hA; exact ⟨rfl, by decide, by decide, rfl⟩
    have hget : A.get none tc 2 (.lit (.string tw1)) := by subst hA; rw [htc3]; rfl
    clear hlt hadd hB happ
    refine And.intro (by subst hA; rfl) (Exists.intro _ (And.intro hixm ?_)); cbv
    refine And.intro (by subst hA; rfl) (Exists.intro _ (And.intro hget ?_)); cbv
    refine And.intro ⟨hw1l, hat, hhow⟩ fun td => ?_
    obtain ⟨tc4, htc4⟩ : ∃ z, z = tc ++ [.lit (.string td)] := ⟨_, rfl⟩
    have happ : A.app 1 1 16 tc 0 3 [.lit (.string td)] tc4 4 := by subst hA; rw [htc4]; exact app_one htl rfl (by omega)
    have htc5 : tc4 = [tb, tw0, tw1, td].map strB := by rw [htc4, htc3]; rfl
    cbv
    refine And.intro (by subst hA; rfl) (Exists.intro _ (Exists.intro _ (And.intro happ (And.intro rfl ?_)))); cbv
    rw [hT]
    refine AGo_upE [14] 4 (fun j (_ : Unit) => True) (fun j _ i => [(20, I i)]) (fun j _ => [X1, X2, X3, X4, .own 0 [I a, I b, I c, I d, .vs 2 xs, .vs 4 ys], .own 3 tc4, .own 0 [U w2]]) () trivial ⟨rfl, trivial⟩ (.inl rfl) fun j _ i hi hj _ Bk hB => ?_
    have hlt : A.lt i (A.len 4) = decide (j < 4) := by subst hA; simp only [std, iLt, hi]; rw [Bool.eq_iff_iff]; unfold iLen; simp; omega
    have hadd : ∀ N, j < N → N ≤ 9223372036854775807 → A.add .i64 i 1 = iLen (j + 1) := fun N hj hN => by subst hA; exact add_one hi hj hN
    refine SGo_run hA ⟨[5], [], (14, eSameFr) :: (6, eAwk) :: [], (12, eReadF) :: (13, eReadF) :: []⟩ (.cons eSameFr_ok (.cons eAwk_ok .nil)) (.cons (eReadF_ok p12) (.cons (eReadF_ok fun t H _ {_} h => p13 t H h) .nil)) 200 fun T TD hT hTD => ?_
    cbv
    refine And.intro (by subst hA; rfl) ?_; cbv
    split <;> cbv
    · rename_i hk1
      have hlt1 : j < 4 := by have := hlt.symm.trans hk1; simpa using this
      have hadd := hadd 4 hlt1 (by omega)
      obtain ⟨t, ht⟩ : ∃ t, [tb, tw0, tw1, td][j]? = some t := ⟨_, List.getElem?_eq_getElem (by simpa using hlt1)⟩
      have hixm : A.ixm 1 1 0 4 i j := by subst hA; exact ⟨rfl, by rw [hi]; exact Int.natCast_nonneg j, by rw [hi]; unfold iLen; omega, by rw [hi]; simp [iLen]⟩
      have hget : A.get none tc4 j (.lit (.string t)) := by
        subst hA; rw [htc5]
        show getN none ([tb, tw0, tw1, td].map strB) j = _
        simp only [getN, List.getElem?_map, ht, Option.map_some]
        rfl
      have hsg : A.sg 3 3 := by subst hA; rfl
      refine And.intro hsg (Exists.intro _ (And.intro hixm ?_)); cbv
      refine And.intro hsg (Exists.intro _ (And.intro hget ?_)); cbv
      refine Exists.intro () (And.intro (hG.app [_, _, _]) ?_)
      intro a3 b3 c3 d3 cs3 os3 xs3 ys3 row3 q3 hr3
      cbv
      refine And.intro hsg (Exists.intro _ (And.intro hixm ?_)); cbv
      refine And.intro hsg (Exists.intro _ (And.intro hget ?_)); cbv
      refine Exists.intro () (And.intro (hG.app [_, _, _, _]) ?_)
      intro a4 b4 c4 d4 cs4 os4 xs4 ys4 row4 q4 hr4
      have hee := hr3.eq.symm.trans hr4.eq
      simp only [Prod.mk.injEq, Frt.mk.injEq] at hee
      obtain ⟨⟨⟨rfl, rfl⟩, ⟨rfl, rfl⟩, rfl, rfl⟩, rfl, rfl⟩ := hee
      have e1 : xs4 = xs3 := hr4.xs.trans hr3.xs.symm
      have e2 : ys4 = ys3 := hr4.ys.trans hr3.ys.symm
      have hx3 := hr3.xs
      have hy3 := hr3.ys
      have hsm := readF_small t.data.toList
      rw [hr3.eq] at hsm
      dsimp only at hsm
      obtain ⟨hsm1, hsm2⟩ := hsm
      subst e1 e2
      clear hr3 hr4
      cbv
      split <;> cbv
      · rename_i hz; exact Bool.noConfusion (hz.symm.trans (hnr _))
      split <;> cbv
      · rename_i hz; exact Bool.noConfusion (hz.symm.trans (hnr _))
      refine Exists.intro cs3 (Exists.intro os3 (And.intro rfl (And.intro rfl (And.intro rfl (And.intro rfl (And.intro rfl (And.intro rfl (And.intro hx3 (And.intro hy3 (And.intro hsm1 (And.intro hsm2 ?_))))))))))); cbv
      split <;> cbv
      · rename_i hz; exact Bool.noConfusion (hz.symm.trans (hnb true))
      exact hB () _ _ hlt1 trivial ⟨congrArg I hadd, trivial⟩ ⟨rfl, trivial⟩ (.inr ⟨⟨_, rfl⟩, by simp, by simp [ltG, keepS, look, gset, AV.lt, AV.ltL], glob_lt7 hG (by simp [AV.nidL, AV.nid]) (by rw [htc5]; exact nidL_strB _) (by simp [AV.nidL, AV.nid])⟩)
    · exact h
end Go.Sas
