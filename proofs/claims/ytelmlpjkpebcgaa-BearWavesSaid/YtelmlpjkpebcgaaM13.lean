/-
The law of what may truly be answers true.
The law of what may truly be, and may not, answers true.
Conditions: none.
-/
import Derived.Test.YtelmlpjkpebcgaaM12
import Derived.Test.YtelmlpjkpebcgaaM6
set_option linter.unusedVariables false
set_option linter.unusedSimpArgs false
namespace Go.Sas
open Go.Proofs
set_option maxRecDepth 100000
theorem nidL_I : ∀ (l : List Int), AV.nidL (l.map I) = true
  | [] => rfl
  | _ :: l => nidL_I l
theorem p33 (hb : Bool) (l : List (Int × Int)) (hl : l.length < 1000000) (H : AHeap) {Kk : AV → AHeap → Prop} (h : Kk (.vs 1 ((l.map (hevS hb)).map I)) H) : ACalls Try.prog 33 [.vs 2 (l.map sp), B hb] H Kk := by
  cases hb
  all_goals
    refine (fun q => pureF (by rfl) (by rfl) q H h) ?_
    clear h
    intro Kk h
    obtain ⟨A, hA⟩ : ∃ A, A = std := ⟨_, rfl⟩
    obtain ⟨xs, hxs⟩ : ∃ xs, xs = l.map sp := ⟨_, rfl⟩
    rw [← hxs]
    have hsg : ∀ g, A.sg g g := by subst hA; exact fun _ => rfl
    obtain ⟨F, hF⟩ : ∃ F, F = Frees 0 Kk := ⟨_, rfl⟩
    rw [← hF]
    refine go33 rfl (SGo_run hA ⟨[], [], [], []⟩ .nil .nil 200 fun T TD hT hTD => ?_)
    cbv
    rw [hT]
    refine AGo_nilms 5 1 rfl ?_
  · refine AGo_up l.length (fun _ => True) (fun j i => [(0, .vs 2 xs), (1, B false), (5, .ms 1 0 j 0 j), (6, I i)]) (fun j => [.own j (((l.take j).map (hevS false)).map I)]) trivial ⟨rfl, rfl, rfl, rfl, trivial⟩ (.inl rfl) fun j i hi hj hP Bk hB => ?_
    have hlt : A.lt i (A.vlen xs) = decide (j < l.length) := by subst hA; exact lt_len (by simp [hxs]) hi
    have hadd : ∀ N, j < N → N ≤ 9223372036854775807 → A.add .i64 i 1 = iLen (j + 1) := fun N hj hN => by subst hA; exact add_one hi hj hN
    have hcl : (((l.take j).map (hevS false)).map I).length = j * 1 := by simp; omega
    obtain ⟨cs, hcs⟩ : ∃ cs, cs = ((l.take j).map (hevS false)).map I := ⟨_, rfl⟩
    rw [← hcs] at hcl
    rw [← hcs]
    refine SGo_run hA ⟨[0], [], [], []⟩ .nil .nil 200 fun T TD hT hTD => ?_
    cbv
    split <;> cbv
    · rename_i hk1
      have hk1 : j < l.length := by have := hlt.symm.trans hk1; simpa using this
      obtain ⟨⟨x1, x2⟩, hx⟩ : ∃ x, l[j]? = some x := ⟨_, List.getElem?_eq_getElem hk1⟩
      have hix : A.ix 2 2 xs i [I x1, I x2] := by subst hA; exact ix_map hxs hi hx rfl
      refine Exists.intro _ (And.intro hix ?_)
      cbv
      refine And.intro (hsg _) (Exists.intro (cs ++ [I (hevS false (x1, x2))]) (Exists.intro (j + 1) (And.intro (by subst hA; exact app_one hcl rfl (by omega)) (And.intro rfl ?_))))
      generalize hcs2 : cs ++ [I (hevS false (x1, x2))] = cs2
      cbv
      refine hB _ _ hk1 trivial ⟨rfl, rfl, rfl, congrArg I (hadd _ hk1 (by omega)), trivial⟩ (.inl ?_)
      rw [← hcs2, hcs, List.take_add_one, hx]; simp
    · rename_i hk1
      have hk1 : ¬ j < l.length := by have := hlt.symm.trans hk1; simpa using this
      rw [hF]
      rw [List.take_of_length_le (by omega)] at hcs
      have hj2 : j = l.length := by omega
      subst hcs
      refine Frees.frz 0 j 1 ((l.map (hevS false)).map I) rfl (Elems_I _) (Frees.drop0 ?_ ?_)
      · simp only [aTup]
        rw [frz_self (by simp [hj2])]; exact h
      · simp only [aTup]
        rw [frz_self (by simp [hj2])]; rfl
  · refine AGo_up l.length (fun _ => True) (fun j i => [(0, .vs 2 xs), (1, B true), (5, .ms 1 0 j 0 j), (6, I i)]) (fun j => [.own j (((l.take j).map (hevS true)).map I)]) trivial ⟨rfl, rfl, rfl, rfl, trivial⟩ (.inl rfl) fun j i hi hj hP Bk hB => ?_
    have hlt : A.lt i (A.vlen xs) = decide (j < l.length) := by subst hA; exact lt_len (by simp [hxs]) hi
    have hadd : ∀ N, j < N → N ≤ 9223372036854775807 → A.add .i64 i 1 = iLen (j + 1) := fun N hj hN => by subst hA; exact add_one hi hj hN
    have hcl : (((l.take j).map (hevS true)).map I).length = j * 1 := by simp; omega
    obtain ⟨cs, hcs⟩ : ∃ cs, cs = ((l.take j).map (hevS true)).map I := ⟨_, rfl⟩
    rw [← hcs] at hcl
    rw [← hcs]
    refine SGo_run hA ⟨[0], [], [], []⟩ .nil .nil 200 fun T TD hT hTD => ?_
    cbv
    split <;> cbv
    · rename_i hk1
      have hk1 : j < l.length := by have := hlt.symm.trans hk1; simpa using this
      obtain ⟨⟨x1, x2⟩, hx⟩ : ∃ x, l[j]? = some x := ⟨_, List.getElem?_eq_getElem hk1⟩
      have hix : A.ix 2 2 xs i [I x1, I x2] := by subst hA; exact ix_map hxs hi hx rfl
      refine Exists.intro _ (And.intro hix ?_)
      cbv
      refine And.intro (hsg _) (Exists.intro (cs ++ [I (hevS true (x1, x2))]) (Exists.intro (j + 1) (And.intro (by subst hA; exact app_one hcl rfl (by omega)) (And.intro rfl ?_))))
      generalize hcs2 : cs ++ [I (hevS true (x1, x2))] = cs2
      cbv
      refine hB _ _ hk1 trivial ⟨rfl, rfl, rfl, congrArg I (hadd _ hk1 (by omega)), trivial⟩ (.inl ?_)
      rw [← hcs2, hcs, List.take_add_one, hx]; simp
    · rename_i hk1
      have hk1 : ¬ j < l.length := by have := hlt.symm.trans hk1; simpa using this
      rw [hF]
      rw [List.take_of_length_le (by omega)] at hcs
      have hj2 : j = l.length := by omega
      subst hcs
      refine Frees.frz 0 j 1 ((l.map (hevS true)).map I) rfl (Elems_I _) (Frees.drop0 ?_ ?_)
      · simp only [aTup]
        rw [frz_self (by simp [hj2])]; exact h
      · simp only [aTup]
        rw [frz_self (by simp [hj2])]; rfl
theorem p34 (w : Bool) (l : List (Int × Int)) (m : Int) (hl : l.length < 1000000) (hb : ∀ x ∈ l, 0 ≤ x.1 ∧ x.1 ≤ x.2 ∧ x.2 ≤ 100000) (hm : 0 ≤ m ∧ m ≤ 100000) (H : AHeap) {Kk : AV → AHeap → Prop} (h : Kk (.vs 1 ((l.map (movS w m)).map I)) H) : ACalls Try.prog 34 [.vs 2 (l.map sp), I m, B w] H Kk := by
  cases w
  all_goals
    refine (fun q => pureF (by rfl) (by rfl) q H h) ?_
    clear h
    intro Kk h
    obtain ⟨A, hA⟩ : ∃ A, A = std := ⟨_, rfl⟩
    obtain ⟨xs, hxs⟩ : ∃ xs, xs = l.map sp := ⟨_, rfl⟩
    rw [← hxs]
    have hsg : ∀ g, A.sg g g := by subst hA; exact fun _ => rfl
    obtain ⟨F, hF⟩ : ∃ F, F = Frees 0 Kk := ⟨_, rfl⟩
    rw [← hF]
    refine go34 rfl (SGo_run hA ⟨[], [], [(40, eFarL)], []⟩ (.cons eFarL_ok .nil) .nil 200 fun T TD hT hTD => ?_)
    cbv
    rw [hT]
    refine AGo_nilms 7 1 rfl ?_
  · refine AGo_up l.length (fun _ => True) (fun j i => [(0, .vs 2 xs), (1, I m), (2, B false), (7, .ms 1 0 j 0 j), (8, I i)]) (fun j => [.own j (((l.take j).map (movS false m)).map I)]) trivial ⟨rfl, rfl, rfl, rfl, rfl, trivial⟩ (.inl rfl) fun j i hi hj hP Bk hB => ?_
    have hlt : A.lt i (A.vlen xs) = decide (j < l.length) := by subst hA; exact lt_len (by simp [hxs]) hi
    have hadd : ∀ N, j < N → N ≤ 9223372036854775807 → A.add .i64 i 1 = iLen (j + 1) := fun N hj hN => by subst hA; exact add_one hi hj hN
    have hcl : (((l.take j).map (movS false m)).map I).length = j * 1 := by simp; omega
    obtain ⟨cs, hcs⟩ : ∃ cs, cs = ((l.take j).map (movS false m)).map I := ⟨_, rfl⟩
    rw [← hcs] at hcl
    rw [← hcs]
    refine SGo_run hA ⟨[0], [], [(40, eFarL)], []⟩ (.cons eFarL_ok .nil) .nil 200 fun T TD hT hTD => ?_
    cbv
    split <;> cbv
    · rename_i hk1
      have hk1 : j < l.length := by have := hlt.symm.trans hk1; simpa using this
      obtain ⟨⟨x1, x2⟩, hx⟩ : ∃ x, l[j]? = some x := ⟨_, List.getElem?_eq_getElem hk1⟩
      have hxb := hb _ (List.mem_of_getElem? hx)
      simp only at hxb
      have hix : A.ix 2 2 xs i [I x1, I x2] := by subst hA; exact ix_map hxs hi hx rfl
      have hfin : ∀ v, v = movS false m (x1, x2) → cs ++ [I v] = ((l.take (j + 1)).map (movS false m)).map I := fun v hv => by rw [hv, hcs, List.take_add_one, hx]; simp
      refine Exists.intro _ (And.intro hix ?_)
      cbv
      repeat' (first | (refine Exists.intro () (And.intro (by unfold Sm; omega) ?_); rintro f hf; cbv) | (split <;> cbv))
      all_goals
        refine And.intro (hsg _) (Exists.intro (cs ++ [I (movS false m (x1, x2))]) (Exists.intro (j + 1) (And.intro ?_ (And.intro rfl ?_))))
        rotate_left
        generalize hcs2 : cs ++ [I (movS false m (x1, x2))] = cs2
        cbv
        refine hB _ _ hk1 trivial ⟨rfl, rfl, rfl, rfl, congrArg I (hadd _ hk1 (by omega)), trivial⟩ ?_
        first | exact (.inl (by rw [← hcs2]; exact congrArg (fun z => [AObj.own (j + 1) z]) (hfin _ rfl))) | exact (.inr ⟨⟨_, by rw [← hcs2, ← hfin _ rfl]; rfl⟩, Nat.zero_le _, by simp [ltG, AV.lt, AV.ltL], ⟨AV.ltL_nid (nidL_I _), trivial⟩⟩)
      all_goals refine (show ∀ v, v = movS false m (x1, x2) → A.app 1 1 8 cs 0 j [I v] (cs ++ [I (movS false m (x1, x2))]) (j + 1) from fun v hv => by subst hv; subst hA; exact app_one hcl rfl (by omega)) _ ?_
      all_goals
        clear hB hadd hlt hix hfin hsg
        subst hA
        simp only [std, iMin_eq, iMax_eq, iLt, decide_eq_true_eq, decide_eq_false_iff_not] at *
        simp only [movS, if_true, Bool.false_eq_true, if_false]
        try (simp only [← hf]; first | (rw [if_pos (by omega)]) | (rw [if_neg (by omega)]))
    · rename_i hk1
      have hk1 : ¬ j < l.length := by have := hlt.symm.trans hk1; simpa using this
      rw [hF]
      rw [List.take_of_length_le (by omega)] at hcs
      have hj2 : j = l.length := by omega
      subst hcs
      refine Frees.frz 0 j 1 ((l.map (movS false m)).map I) rfl (Elems_I _) (Frees.drop0 ?_ ?_)
      · simp only [aTup]
        rw [frz_self (by simp [hj2])]; exact h
      · simp only [aTup]
        rw [frz_self (by simp [hj2])]; rfl
  · refine AGo_up l.length (fun _ => True) (fun j i => [(0, .vs 2 xs), (1, I m), (2, B true), (7, .ms 1 0 j 0 j), (8, I i)]) (fun j => [.own j (((l.take j).map (movS true m)).map I)]) trivial ⟨rfl, rfl, rfl, rfl, rfl, trivial⟩ (.inl rfl) fun j i hi hj hP Bk hB => ?_
    have hlt : A.lt i (A.vlen xs) = decide (j < l.length) := by subst hA; exact lt_len (by simp [hxs]) hi
    have hadd : ∀ N, j < N → N ≤ 9223372036854775807 → A.add .i64 i 1 = iLen (j + 1) := fun N hj hN => by subst hA; exact add_one hi hj hN
    have hcl : (((l.take j).map (movS true m)).map I).length = j * 1 := by simp; omega
    obtain ⟨cs, hcs⟩ : ∃ cs, cs = ((l.take j).map (movS true m)).map I := ⟨_, rfl⟩
    rw [← hcs] at hcl
    rw [← hcs]
    refine SGo_run hA ⟨[0], [], [(40, eFarL)], []⟩ (.cons eFarL_ok .nil) .nil 200 fun T TD hT hTD => ?_
    cbv
    split <;> cbv
    · rename_i hk1
      have hk1 : j < l.length := by have := hlt.symm.trans hk1; simpa using this
      obtain ⟨⟨x1, x2⟩, hx⟩ : ∃ x, l[j]? = some x := ⟨_, List.getElem?_eq_getElem hk1⟩
      have hxb := hb _ (List.mem_of_getElem? hx)
      simp only at hxb
      have hix : A.ix 2 2 xs i [I x1, I x2] := by subst hA; exact ix_map hxs hi hx rfl
      have hfin : ∀ v, v = movS true m (x1, x2) → cs ++ [I v] = ((l.take (j + 1)).map (movS true m)).map I := fun v hv => by rw [hv, hcs, List.take_add_one, hx]; simp
      refine Exists.intro _ (And.intro hix ?_)
      cbv
      repeat' (first | (refine Exists.intro () (And.intro (by unfold Sm; omega) ?_); rintro f hf; cbv) | (split <;> cbv))
      all_goals
        refine And.intro (hsg _) (Exists.intro (cs ++ [I (movS true m (x1, x2))]) (Exists.intro (j + 1) (And.intro ?_ (And.intro rfl ?_))))
        rotate_left
        generalize hcs2 : cs ++ [I (movS true m (x1, x2))] = cs2
        cbv
        refine hB _ _ hk1 trivial ⟨rfl, rfl, rfl, rfl, congrArg I (hadd _ hk1 (by omega)), trivial⟩ ?_
        first | exact (.inl (by rw [← hcs2]; exact congrArg (fun z => [AObj.own (j + 1) z]) (hfin _ rfl))) | exact (.inr ⟨⟨_, by rw [← hcs2, ← hfin _ rfl]; rfl⟩, Nat.zero_le _, by simp [ltG, AV.lt, AV.ltL], ⟨AV.ltL_nid (nidL_I _), trivial⟩⟩)
      all_goals refine (show ∀ v, v = movS true m (x1, x2) → A.app 1 1 8 cs 0 j [I v] (cs ++ [I (movS true m (x1, x2))]) (j + 1) from fun v hv => by subst hv; subst hA; exact app_one hcl rfl (by omega)) _ ?_
      all_goals
        clear hB hadd hlt hix hfin hsg
        subst hA
        simp only [std, iMin_eq, iMax_eq, iLt, decide_eq_true_eq, decide_eq_false_iff_not] at *
        simp only [movS, if_true, Bool.false_eq_true, if_false]
        try (simp only [← hf]; first | (rw [if_pos (by omega)]) | (rw [if_neg (by omega)]))
    · rename_i hk1
      have hk1 : ¬ j < l.length := by have := hlt.symm.trans hk1; simpa using this
      rw [hF]
      rw [List.take_of_length_le (by omega)] at hcs
      have hj2 : j = l.length := by omega
      subst hcs
      refine Frees.frz 0 j 1 ((l.map (movS true m)).map I) rfl (Elems_I _) (Frees.drop0 ?_ ?_)
      · simp only [aTup]
        rw [frz_self (by simp [hj2])]; exact h
      · simp only [aTup]
        rw [frz_self (by simp [hj2])]; rfl
end Go.Sas
namespace Go.Sas
open Go.Proofs
set_option maxRecDepth 100000
def eEnd : List AV → Option ((AV → Prop) → Prop)
  | [x, .lit (.bool b)] => match asVs 2 x with
    | some xs => some fun K => ∃ l : List (Int × Int), (xs = l.map sp ∧ l.length < 1000000) ∧ ∀ ys, ys = (l.map (hevS b)).map I → K (.vs 1 ys)
    | none => none
  | _ => none
theorem eEnd_ok : ∀ args pt, eEnd args = some pt → ∀ (H : AHeap) (Kk : AV → AHeap → Prop), pt (fun r => Kk r H) → ACalls Try.prog 33 args H Kk := by
  intro args pt h H Kk hk
  unfold eEnd at h
  split at h
  · split at h
    · rename_i xs hx
      cases h
      obtain ⟨l, ⟨rfl, h1⟩, h2⟩ := hk
      exact (p33 _ l h1 H (h2 _ rfl)).wk ⟨asVs_wk hx, Wk.rfl, trivial⟩
    · cases h
  · cases h
def eMoved : List AV → Option ((AV → Prop) → Prop)
  | [x, .lit (.int .i64 m), .lit (.bool b)] => match asVs 2 x with
    | some xs => some fun K => ∃ l : List (Int × Int), (xs = l.map sp ∧ l.length < 1000000 ∧ (∀ x ∈ l, 0 ≤ x.1 ∧ x.1 ≤ x.2 ∧ x.2 ≤ 100000) ∧ (0 ≤ m ∧ m ≤ 100000)) ∧ ∀ ys, ys = (l.map (movS b m)).map I → K (.vs 1 ys)
    | none => none
  | _ => none
theorem eMoved_ok : ∀ args pt, eMoved args = some pt → ∀ (H : AHeap) (Kk : AV → AHeap → Prop), pt (fun r => Kk r H) → ACalls Try.prog 34 args H Kk := by
  intro args pt h H Kk hk
  unfold eMoved at h
  split at h
  · split at h
    · rename_i xs hx
      cases h
      obtain ⟨l, ⟨rfl, h1, h3, h4⟩, h2⟩ := hk
      exact (p34 _ l _ h1 h3 h4 H (h2 _ rfl)).wk ⟨asVs_wk hx, Wk.rfl, Wk.rfl, trivial⟩
    · cases h
  · cases h
set_option maxHeartbeats 4000000 in
theorem core5 (nums : List Int) (hn1 : BigL nums) : ACalls Try.prog 5 [.vs 1 (nums.map I)] [] fun r _ => r = B true := by
  obtain ⟨Kk, hKk⟩ : ∃ K : AV → AHeap → Prop, K = fun r _ => r = B true := ⟨_, rfl⟩
  rw [← hKk]
  have hk : ∀ H, Kk (B true) H := fun H => by rw [hKk]
  clear hKk
  obtain ⟨xn, hxn⟩ : ∃ ys, ys = nums.map I := ⟨_, rfl⟩
  rw [← hxn]
  obtain ⟨A, hA⟩ : ∃ A, A = std := ⟨_, rfl⟩
  have hne0 : A.ne 0 0 = false := by subst hA; rfl
  refine go5 rfl (SGo_run hA ⟨[], [0], (19, eTrue) :: (25, eHolds) :: (31, eWeights) :: (32, eBorne) :: (33, eEnd) :: (34, eMoved) :: [], (20, eSeed) :: (28, eDraw sMade) :: []⟩ (.cons eTrue_ok (.cons (eHolds_ok p25) (.cons eWeights_ok (.cons eBorne_ok (.cons eEnd_ok (.cons eMoved_ok .nil)))))) (.cons eSeed_ok (.cons (eDraw_ok sMade_ok) .nil)) 200 fun T TD hT hTD => ?_)
  cbv
  refine Exists.intro nums (And.intro ⟨hxn, hn1⟩ ?_)
  intro w1
  cbv
  refine Exists.intro () (And.intro trivial ?_)
  rintro w2 _ ⟨p, a, b, xs, ec, ne, ed, gr, lo, hi, sh, wi, ice, cr, l, xi, xc, xl, rfl, hp, hxi, hxc, hxl, hM⟩
  have hV := hM.road
  have hil := hM.il
  have hcl := hM.cl
  have hll := hM.ll
  have hib := hM.ib
  have hlb := hM.lb
  have hcb := hV.cb
  have hb1 : Big p.shares := by have := hV.p.sh.len; unfold Big; omega
  have hb2 : Big p.creep := by have := hV.p.cr.len; unfold Big; omega
  have hb3 : BigL ice := by unfold BigL; omega
  have hb4 : BigL cr := by unfold BigL; omega
  have hb5 : BigL l := by unfold BigL; omega
  have hH := hM.holds
  have hat : ∀ x ∈ l, 0 ≤ x.at_ ∧ x.at_ ≤ 100000 := fun x hx => by have := (hlb x hx).at1; have := (hlb x hx).at2; omega
  cbv
  refine Exists.intro p (Exists.intro ice (Exists.intro cr (Exists.intro l (And.intro hp (And.intro hb1 (And.intro hb2 (And.intro ⟨hxi, hb3⟩ (And.intro ⟨hxc, hb4⟩ (And.intro ⟨hxl, hb5⟩ ?_)))))))))
  rintro r e zs hre hzs
  rw [hH] at hre
  obtain ⟨rfl, rfl⟩ := Prod.mk.inj hre
  cbv
  split <;> cbv
  · rename_i hq; exact Bool.noConfusion (hq.symm.trans hne0)
  have hzl : A.ne (A.vlen zs) (A.vlen xl) = false := by subst hA hzs hxl; simp [std, iNe]
  split <;> cbv
  · rename_i hq; exact Bool.noConfusion (hq.symm.trans hzl)
  rw [hT]
  refine AGo_up l.length (fun _ => True) (fun _ i => [(2, B false), (4, .mp 1 0 0), (5, .vs 1 zs), (7, I i)])
    (fun _ => [.own 0 [U w2], .own 0 [I a, I b, .vs 2 xs, .vs 2 ec, I ne, I ed, I gr, I lo, I hi, I sh, I wi, .vs 2 xi, .vs 2 xc, .vs 4 xl]]) trivial ⟨rfl, rfl, rfl, rfl, trivial⟩ (.inl rfl) fun j i hij hj _ Bk hB => ?_
  have hlt : A.lt i (A.vlen zs) = decide (j < l.length) := by subst hA; exact lt_len (by simp [hzs]) hij
  have hadd : j < l.length → A.add .i64 i 1 = iLen (j + 1) := fun hj => by subst hA; exact add_one hij hj (by omega)
  refine SGo_run hA ⟨[], [], (19, eTrue) :: (31, eWeights) :: (32, eBorne) :: (33, eEnd) :: (34, eMoved) :: [], []⟩ (.cons eTrue_ok (.cons eWeights_ok (.cons eBorne_ok (.cons eEnd_ok (.cons eMoved_ok .nil))))) .nil 200 fun T TD hT hTD => ?_
  cbv
  split <;> cbv
  · rename_i hk1
    have hk1 : j < l.length := by have := hlt.symm.trans hk1; simpa using this
    obtain ⟨x0, hx⟩ : ∃ x, l[j]? = some x := ⟨_, List.getElem?_eq_getElem hk1⟩
    have hx0 := hlb x0 (List.mem_of_getElem? hx)
    have hext := ext_ve hV hlb hx0
    obtain ⟨vv, hvv⟩ : ∃ vv, vv = veS p ice cr l x0 := ⟨_, rfl⟩
    rw [← hvv] at hext
    have hixz : A.ix 1 1 zs i [I vv] := by subst hA; exact ix_map hzs hij (by rw [List.getElem?_map, hx]; rfl) (by rw [hvv]; rfl)
    have hixl : A.ix 4 4 xl i [I x0.at_, I x0.w.1, I x0.w.2, I x0.st] := by subst hA; exact ix_map hxl hij hx rfl
    have hqi : xi = ice.map sp ∧ ice.length < 1000000 := ⟨hxi, by omega⟩
    have hqc : xc = cr.map sp ∧ cr.length < 1000000 ∧ (∀ x ∈ cr, 0 ≤ x.1 ∧ x.1 ≤ x.2 ∧ x.2 ≤ 100000) ∧ (0 ≤ x0.at_ ∧ x0.at_ ≤ 100000) := ⟨hxc, by omega, hcb, hat x0 (List.mem_of_getElem? hx)⟩
    have hql : xl = l.map ldV ∧ l.length < 1000000 := ⟨hxl, by omega⟩
    have hqw : ∀ ys, ys = (l.map (·.w)).map sp → ys = (l.map (·.w)).map sp ∧ (l.map (·.w)).length < 1000000 := fun ys h => ⟨h, by simp; omega⟩
    have htw : TruB p ice.length l (extT true p ice cr l x0.at_) := (ext_tru hV hlb).b hM
    have htb : TruB p ice.length l (extT false p ice cr l x0.at_) := (ext_tru hV hlb).b hM
    have hload : LoadsV ice.length l := ⟨by omega, hlb⟩
    obtain ⟨tw, htw0⟩ : ∃ t, t = extT true p ice cr l x0.at_ := ⟨_, rfl⟩
    obtain ⟨tb, htb0⟩ : ∃ t, t = extT false p ice cr l x0.at_ := ⟨_, rfl⟩
    rw [← htw0] at htw hext
    rw [← htb0] at htb hext
    have hstw : p.str.1 = tw.st := by rw [htw0]; rfl
    have hstb : p.str.2 = tb.st := by rw [htb0]; rfl
    have hw1 : ∀ ys : List AV, ys = (ice.map (hevS false)).map I → ys = tw.ice.map I := fun ys h => by rw [h, htw0]; rfl
    have hw2 : ∀ ys : List AV, ys = (cr.map (movS true x0.at_)).map I → ys = tw.cr.map I := fun ys h => by rw [h, htw0]; rfl
    have hw3 : ∀ ys : List AV, ys = ((l.map (·.w)).map (hevS true)).map I → ys = tw.ws.map I := fun ys h => by rw [h, htw0]; rfl
    have hv1 : ∀ ys : List AV, ys = (ice.map (hevS true)).map I → ys = tb.ice.map I := fun ys h => by rw [h, htb0]; rfl
    have hv2 : ∀ ys : List AV, ys = (cr.map (movS false x0.at_)).map I → ys = tb.cr.map I := fun ys h => by rw [h, htb0]; rfl
    have hv3 : ∀ ys : List AV, ys = ((l.map (·.w)).map (hevS false)).map I → ys = tb.ws.map I := fun ys h => by rw [h, htb0]; rfl
    have hpw : a = tw.st := by rw [← hstw, hp.str]
    have hpb : b = tb.st := by rw [← hstb, hp.str]
    obtain ⟨bw, hbw⟩ : ∃ z, z = bornS p l tw x0 := ⟨_, rfl⟩
    obtain ⟨bb, hbb⟩ : ∃ z, z = bornS p l tb x0 := ⟨_, rfl⟩
    rw [← hbw, ← hbb] at hext
    refine Exists.intro _ (And.intro hixl ?_)
    cbv
    refine Exists.intro ice (And.intro hqi ?_)
    intro e1 he1
    cbv
    refine Exists.intro cr (And.intro hqc ?_)
    intro e2 he2
    cbv
    refine Exists.intro l (And.intro hql ?_)
    intro e3 he3
    cbv
    refine Exists.intro _ (And.intro (hqw _ he3) ?_)
    intro e4 he4
    cbv
    try refine And.intro (by subst hA; simp [std, Keep, SubH, ResK]) ?_
    refine Exists.intro ice (And.intro hqi ?_)
    intro g1 hg1
    cbv
    refine Exists.intro cr (And.intro hqc ?_)
    intro g2 hg2
    cbv
    refine Exists.intro l (And.intro hql ?_)
    intro g3 hg3
    cbv
    refine Exists.intro _ (And.intro (hqw _ hg3) ?_)
    intro g4 hg4
    cbv
    try refine And.intro (by subst hA; simp [std, Keep, SubH, ResK]) ?_
    refine Exists.intro _ (And.intro hixz ?_)
    cbv
    have hwt : a = tw.st ∧ e1 = tw.ice.map I ∧ e2 = tw.cr.map I ∧ e4 = tw.ws.map I := ⟨hpw, hw1 _ he1, hw2 _ he2, hw3 _ he4⟩
    have hbt : b = tb.st ∧ g1 = tb.ice.map I ∧ g2 = tb.cr.map I ∧ g4 = tb.ws.map I := ⟨hpb, hv1 _ hg1, hv2 _ hg2, hv3 _ hg4⟩
    clear hqi hqc hql hqw hw1 hw2 hw3 hv1 hv2 hv3
    repeat' (first
      | (refine Exists.intro _ (And.intro hixz ?_); cbv)
      | (refine Exists.intro p (Exists.intro l (Exists.intro tw (Exists.intro ice.length (Exists.intro j (Exists.intro x0 (And.intro hp (And.intro hxl (And.intro hwt (And.intro hV.p (And.intro hV.il (And.intro hload (And.intro htw (And.intro hij (And.intro hx ?_)))))))))))))); intro vw hvw; obtain rfl : vw = bw := hvw.trans hbw.symm; clear hvw; cbv)
      | (refine Exists.intro p (Exists.intro l (Exists.intro tb (Exists.intro ice.length (Exists.intro j (Exists.intro x0 (And.intro hp (And.intro hxl (And.intro hbt (And.intro hV.p (And.intro hV.il (And.intro hload (And.intro htb (And.intro hij (And.intro hx ?_)))))))))))))); intro vb hvb; obtain rfl : vb = bb := hvb.trans hbb.symm; clear hvb; cbv)
      | (split <;> cbv))
    all_goals try exact hB _ _ hk1 trivial ⟨rfl, rfl, rfl, congrArg I (hadd hk1), trivial⟩ (.inr ⟨⟨_, rfl⟩, Nat.zero_le _, by simp [ltG, AV.lt, AV.ltL], by simp [ltH, AObj.lt, AV.lt, AV.ltL]⟩)
    all_goals
      exfalso
      clear hB hadd hlt hixz hixl hzl hne0 htb htw hwt hbt hvv hbw hbb hxn hxi hxc hxl hp hM hV hil hcl hll hib hlb hcb hb1 hb2 hb3 hb4 hb5 hH hat hzs hre hx hx0 hload htw0 htb0 hstw hstb hpw hpb he1 he2 he3 he4 hg1 hg2 hg3 hg4 hk hT hTD
      subst hA
      simp only [std, iNe, bne_iff_ne, ne_eq, bne_eq_false_iff_eq, Bool.not_eq_true', Bool.not_eq_false'] at *
      simp_all
  · exact hk _
end Go.Sas
