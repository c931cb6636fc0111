/-
Season files: numbers behind a word: contract of the program's function.
Conditions: none.
-/
import Derived.Test.YtpokfjhlilbpfaaGreatDoorQSG1
import Derived.Test.YtpokfjhlilbpfaaGreatDoorXCg
import Derived.Test.YtpokfjhlilbpfaaGreatDoorQPC1
set_option linter.unusedVariables false
set_option linter.unusedSimpArgs false
namespace Go.Sas
open Go.Proofs
set_option maxRecDepth 100000
def outA (l : List Int) : AV := .vs 1 (l.map I)
def numsA : Option (List Int) → AV
  | some l => .tup [outA l, B true]
  | none => .tup [.lit (.slice none 0 0), B false]
theorem Elems_ints (l : List Int) : Elems 1 (l.map I) (l.map I) := by
  have := Elems_map (f := I) (g := fun x => [I x]) (sz := 1) (fun _ => rfl) (fun _ => rfl) (fun _ => rfl) l
  have e : ∀ l : List Int, l.flatMap (fun x => [I x]) = l.map I := fun l => by induction l with | nil => rfl | cons a l ih => simp [ih]
  rw [e] at this
  exact this
theorem out_frees {X1 X2 X3 X4 : AObj} (hG : Globs [X1, X2, X3, X4]) {ns : List Int} {n : Nat} (hn : n = ns.length) {Kk : AV → AHeap → Prop} (h : Kk (.tup [outA ns, B true]) [X1, X2, X3, X4]) :
    Frees 4 Kk (.tup [.ms 1 4 n 0 n, B true]) [X1, X2, X3, X4, .own n (ns.map I)] := by
  obtain ⟨_, _, _, _, _, e, _, g2, m2, o2, g3, o3, g4, o4, e1, e2, e3, e4⟩ := hG.split
  cases e
  subst e1 e2 e3 e4
  refine Frees.frz 4 n 1 (ns.map I) rfl (Elems_ints ns) ?_
  have := Frees.self (m := 4) (Kk := Kk) (r := .tup [outA ns, B true]) (H := [.own 0 [], rawT 1 g2 m2 o2, rawG 2 g3 o3, rawG 3 g4 o4]) (T := [.gone]) rfl (by simp [AV.nid, AV.nidL, outA]) (Globs.ltH hG) h
  subst hn
  have e : (ns.map I).take ns.length = ns.map I := List.take_of_length_le (by simp)
  simpa [frzH, AObj.frz, AV.frzL, AV.frz, rawG, rawT, outA, e] using this
theorem atoi_i64 {l : List UInt8} {v : Int} (h : Lib.atoiAll l = .ok v) : I64 v := by
  unfold Lib.atoiAll at h
  split at h
  · cases h
  · simp only at h
    split at h
    · cases h
    · cases h
    · split at h
      · cases h
      · split at h
        · cases h
        · rename_i h1 h2
          cases h
          unfold I64
          split <;> omega
set_option maxHeartbeats 2000000 in
theorem p34 (rb wb : ByteArray) (many : Nat) (hm : 1 ≤ many ∧ many ≤ 10) (hrow : rb.data.toList.length ≤ 1000000) (H : AHeap) (hGH : Globs H) {Kk : AV → AHeap → Prop} (h : Kk (numsA (numsL wb.data.toList many rb.data.toList)) H) :
    ACalls Tryz.prog 34 [.lit (.string rb), .lit (.string wb), I (iLen many)] H Kk := by
  refine liftG hGH rfl (by unfold numsA; split <;> simp [AV.nid, AV.nidL, outA]) ?_ h
  clear h hGH
  intro X1 X2 X3 X4 hG Kk h
  refine ACalls.frees ?_
  obtain ⟨W, hW⟩ : ∃ W, W = numsL wb.data.toList many rb.data.toList := ⟨_, rfl⟩
  rw [← hW] at h
  obtain ⟨im, him⟩ : ∃ i : Int, i = iLen many := ⟨_, rfl⟩
  rw [← him]
  obtain ⟨A, hA⟩ : ∃ A, A = std := ⟨_, rfl⟩
  obtain ⟨F, hF⟩ : ∃ F, F = Frees 4 Kk := ⟨_, rfl⟩
  refine go34m rfl (AGo.weaken (SGo_run (R := RetH _ [X1, X2, X3, X4] F) hA ⟨[4], [], [], (33, eSplit) :: (52, eAtoi) :: (30, eItoa) :: []⟩ .nil (.cons eSplit_ok (.cons eAtoi_ok (.cons eItoa_ok .nil))) 200 fun T TD hT hTD => ?_) (fun _ _ _ h => by rw [hF] at h; exact RetH.p hG.ltH h) (by simp))
  have hnone : W = none → F (.tup [.lit (.slice none 0 0), B false]) [X1, X2, X3, X4] := fun hw => by
    rw [hw] at h; rw [hF]; exact Frees.now h
  cbv
  refine And.intro ⟨hG, hrow, _, rfl⟩ fun xs hxs => ?_
  cbv
  have hxs : xs = (splitL 32 rb.data.toList).map strA := hxs.eq 32 rfl
  obtain ⟨w0, ws, hsp⟩ : ∃ w0 ws, splitL 32 rb.data.toList = w0 :: ws := by
    cases hs : splitL 32 rb.data.toList with
    | nil => exact absurd hs (splitL_ne _)
    | cons a b => exact ⟨a, b, rfl⟩
  have hlens : ws.length ≤ 1000000 := by
    have := splitL_len (c := 32) rb.data.toList
    rw [hsp] at this
    have h2 := List.count_le_length (a := (32 : UInt8)) (l := rb.data.toList)
    rw [List.length_cons] at this
    have h3 := hrow
    generalize List.count 32 rb.data.toList = q at this h2
    generalize rb.data.toList.length = q2 at h2 h3
    omega
  have hparts : ∀ x ∈ ws, x.length ≤ 1000000 := fun x hx => by
    have := splitL_part (c := 32) (l := rb.data.toList) (x := x) (by rw [hsp]; exact List.mem_cons_of_mem _ hx)
    omega
  rw [hsp] at hxs
  obtain ⟨t0, ht0⟩ : ∃ t0, t0 = bA w0 := ⟨_, rfl⟩
  have hix : A.ix 1 1 xs 0 [.lit (.string t0)] := by
    subst hA; rw [hxs, ht0]
    exact ⟨rfl, Int.le_refl 0, strA w0, rfl, rfl⟩
  refine Exists.intro _ (And.intro hix ?_); cbv
  have hvl : A.vlen xs = iLen (ws.length + 1) := by subst hA; simp [std, hxs]
  have hadd1 : A.add .i64 im 1 = iLen (many + 1) := by
    subst hA him
    exact add_one (N := 11) rfl (by omega) (by decide)
  have hneq : A.ne (A.vlen xs) (A.add .i64 im 1) = decide (ws.length ≠ many) := by
    rw [hvl, hadd1]; subst hA; simp only [std, iNe, iLen]; rw [Bool.eq_iff_iff]; simp; omega
  have hsq : A.bnot (A.seq t0 wb) = decide (w0 ≠ wb.data.toList) := by
    subst hA ht0; simp only [std]
    rw [Bool.eq_iff_iff]
    simp only [Bool.not_eq_true', decide_eq_true_eq, ne_eq]
    rw [← Bool.not_eq_true, seq_iff, bA_data]
  split <;> cbv
  · rename_i hq
    have hq : w0 ≠ wb.data.toList := by have := hsq.symm.trans hq; simpa using this
    exact hnone (by rw [hW]; exact nums_none hsp (.inl hq))
  · rename_i hq
    have hq : w0 = wb.data.toList := by have := hsq.symm.trans hq; simpa using this
    split <;> cbv
    · rename_i hq2
      have hq2 : ws.length ≠ many := by have := hneq.symm.trans hq2; simpa using this
      exact hnone (by rw [hW]; exact nums_none hsp (.inr hq2))
    · rename_i hq2
      have hq2 : ws.length = many := by have := hneq.symm.trans hq2; simpa using this
      have hWs : W = (ws.mapM wordN).map (·.map fun n : Nat => (n : Int)) := by rw [hW]; exact nums_some (hq ▸ hsp) hq2
      obtain ⟨ys, hys⟩ : ∃ ys : List AV, ys = ws.map strA := ⟨_, rfl⟩
      have hsl : A.slv 1 1 xs (some 1) none ys := by
        subst hA; rw [hxs, hys]
        refine ⟨rfl, 1, ws.length + 1, rfl, by simp [bdI], by omega, by simp, ?_⟩
        simp [List.take_of_length_le]
      refine Exists.intro ys (And.intro hsl ?_); cbv
      clear hneq hsq hadd1 hix hsl hvl
      rw [hT]
      refine AGo_niltmp 9 1 rfl ?_
      refine AGo_upE [0, 1, 29, 30] ws.length (fun j (ns : List Int) => ns.length = j ∧ W = ((ws.drop j).mapM wordN).map fun l => ns ++ l.map fun n : Nat => (n : Int)) (fun j ns i => [(31, I i), (9, .ms 1 4 j 0 j)]) (fun j ns => [X1, X2, X3, X4, .own j (ns.map I)]) [] ⟨rfl, by rw [hWs]; simp⟩ ⟨rfl, rfl, trivial⟩ (.inl rfl) fun j ns i hi hj hP Bk hB => ?_
      obtain ⟨hnl, hWj⟩ := hP
      have hlt : A.lt i (A.vlen ys) = decide (j < ws.length) := by subst hA; exact lt_len (by simp [hys]) hi
      have hadd : ∀ N, j < N → N ≤ 9223372036854775807 → A.add .i64 i 1 = iLen (j + 1) := fun N hj hN => by subst hA; exact add_one hi hj hN
      have happ : ∀ v, A.app 1 1 8 (ns.map I) 0 j [I v] (ns.map I ++ [I v]) (j + 1) := fun v => by subst hA; exact app_one (by simp [hnl]) rfl (by omega)
      obtain ⟨nc, hnc⟩ : ∃ nc, nc = ns.map I := ⟨_, rfl⟩
      rw [← hnc] at happ ⊢
      refine SGo_run hA ⟨[4], [], [], (33, eSplit) :: (52, eAtoi) :: (30, eItoa) :: []⟩ .nil (.cons eSplit_ok (.cons eAtoi_ok (.cons eItoa_ok .nil))) 200 fun T TD hT hTD => ?_
      cbv
      split <;> cbv
      · rename_i hk1
        have hlt1 : j < ws.length := by have := hlt.symm.trans hk1; simpa using this
        obtain ⟨x, hx⟩ : ∃ x, ws[j]? = some x := ⟨_, List.getElem?_eq_getElem hlt1⟩
        obtain ⟨t, ht⟩ : ∃ t, t = bA x := ⟨_, rfl⟩
        have htd : t.data.toList = x := by rw [ht, bA_data]
        have hxl := hparts x (List.mem_of_getElem? hx)
        have hix2 : A.ix 1 1 ys i [.lit (.string t)] := by subst hA; exact ix_map hys hi hx (by rw [ht]; rfl)
        have hstop : wordN x = none → F (.tup [.lit (.slice none 0 0), B false]) [X1, X2, X3, X4] := fun hw => hnone (by rw [hWj, words_stop hx hw]; rfl)
        refine Exists.intro _ (And.intro hix2 ?_); cbv
        refine And.intro ⟨hG.app [_], by rw [htd]; exact hxl⟩ (And.intro (fun v hv => ?_) fun n hn => ?_) <;> cbv
        · have hv : Lib.atoiAll x = .ok v := by rw [← htd]; exact hv.eq
          have hl0 : A.lt v 0 = decide (v < 0) := by subst hA; rfl
          have hadd := hadd ws.length hlt1 (by omega)
          have hI := atoi_i64 hv
          split <;> cbv
          · rename_i hq
            have hq : v < 0 := by have := hl0.symm.trans hq; simpa using this
            exact hstop (prog_no hv fun hc => by omega)
          rename_i hq
          have hq : ¬ v < 0 := by have := hl0.symm.trans hq; simpa using this
          split <;> cbv
          · rename_i hq2
            have hq2 : 9 < x.length := by rw [htd] at hq2; subst hA; cases x <;> simp [std, iLt, iLen] at hq2 ⊢ <;> omega
            exact hstop (prog_no hv fun hc => by omega)
          rename_i hq2
          have hq2 : ¬ 9 < x.length := by rw [htd] at hq2; subst hA; cases x <;> simp [std, iLt, iLen] at hq2 ⊢ <;> omega
          refine And.intro ⟨hG.app [_], hI⟩ fun tt htt => ?_
          cbv
          have htt : tt = bA (Lib.itoa v) := htt.eq
          have hst : A.bnot (A.seq tt t) = decide (Lib.itoa v ≠ x) := by
            subst hA; rw [htt, ht]; simp only [std]
            rw [Bool.eq_iff_iff]
            simp only [Bool.not_eq_true', decide_eq_true_eq, ne_eq]
            rw [← Bool.not_eq_true, seq_iff, bA_data, bA_data]
          split <;> cbv
          · rename_i hq3
            have hq3 : Lib.itoa v ≠ x := by have := hst.symm.trans hq3; simpa using this
            exact hstop (prog_no hv fun hc => hq3 hc.2.2)
          rename_i hq3
          have hq3 : Lib.itoa v = x := by have := hst.symm.trans hq3; simpa using this
          have hw := prog_yes hv ⟨by omega, by omega, hq3⟩
          obtain ⟨nc2, hnc2⟩ : ∃ c, c = nc ++ [I v] := ⟨_, rfl⟩
          have happ := happ v
          rw [← hnc2] at happ
          refine And.intro (by subst hA; rfl) (Exists.intro _ (Exists.intro _ (And.intro happ (And.intro rfl ?_)))); cbv
          have hns : nc2 = (ns ++ [v]).map I := by rw [hnc2, hnc]; simp
          refine hB (ns ++ [v]) _ _ hlt1 ⟨by simp [hnl], ?_⟩ ⟨?_, rfl, trivial⟩ ⟨rfl, rfl, rfl, rfl, trivial⟩ (.inl ?_)
          · rw [hWj, words_go hx hw, show ((v.toNat : Nat) : Int) = v by omega]
          · exact congrArg I hadd
          · rw [← hns]
        · exact hstop (prog_bad fun v => by rw [← htd]; exact hn.ne v)
      · rename_i hk1
        have hk1 : ¬ j < ws.length := by have := hlt.symm.trans hk1; simpa using this
        have hWe : W = some ns := by rw [hWj, words_end hk1]; simp
        rw [hF, hnc]
        rw [hWe] at h
        exact out_frees hG hnl.symm h
end Go.Sas
