/-
What the functions that ice rests on yield, part 8: the verdicts on loads.
Conditions: none.
-/
import Derived.Test.YtelmlpjkpebcgaaB7
import Derived.Test.YtelmlpjkpebcgaaK1
set_option linter.unusedVariables false
set_option linter.unusedSimpArgs false
namespace Go.Sas
open Go.Proofs
set_option maxRecDepth 100000
theorem p25 (p : Plate) {a b : Int} {xs ec : List AV} {ne ed gr lo hi sh wi : Int} (hp : PlateIs p a b xs ec ne ed gr lo hi sh wi) (h1 : p.shares.length ≤ 9223372036854775807) (h2 : p.creep.length ≤ 9223372036854775807) (ice cr : List (Int × Int)) (l : List Load) (h3 : ice.length ≤ 9223372036854775807) (h4 : cr.length ≤ 9223372036854775807) (h5 : l.length ≤ 9223372036854775807) (H : AHeap) {Kk : AV → AHeap → Prop} (h : Kk (.tup [.vs 1 ((holdsS p ice cr l).1.map I), I (holdsS p ice cr l).2]) H) :
    ACalls Try.prog 25 [plV a b (.vs 2 xs) (.vs 2 ec) ne ed gr lo hi sh wi, .vs 2 (ice.map sp), .vs 2 (cr.map sp), .vs 4 (l.map ldV)] H Kk := by
  refine (fun q => pureF (by rfl) (by rfl) q H h) ?_
  clear h
  intro Kk h
  obtain ⟨W, hW⟩ : ∃ W, W = holdsS p ice cr l := ⟨_, rfl⟩
  rw [← hW] at h
  obtain ⟨ys, hys⟩ : ∃ ys, ys = l.map ldV := ⟨_, rfl⟩
  obtain ⟨xi, hxi⟩ : ∃ xi, xi = ice.map sp := ⟨_, rfl⟩
  obtain ⟨xc, hxc⟩ : ∃ xc, xc = cr.map sp := ⟨_, rfl⟩
  rw [← hys, ← hxi, ← hxc]
  obtain ⟨A, hA⟩ : ∃ A, A = std := ⟨_, rfl⟩
  obtain ⟨S, hS⟩ : ∃ S, S = stS := ⟨_, rfl⟩
  obtain ⟨S2, hS2⟩ : ∃ S, S = st2 := ⟨_, rfl⟩
  have hv : A.vlen xi = iLen ice.length := by subst hA; simp [std, hxi]
  obtain ⟨F, hF⟩ : ∃ F, F = Frees 0 Kk := ⟨_, rfl⟩
  rw [← hF]
  refine go25 rfl (SGo_run hA ⟨[], [], (85, eCheckAll S) :: (87, eVe S2) :: tb5 S S2, []⟩ (.cons (eCheckAll_ok p85 hS) (.cons (eVe_ok p87 hS2) (tb5_ok hS hS2))) .nil 200 fun T TD hT hTD => ?_)
  cbv
  refine Exists.intro p (Exists.intro ice (Exists.intro cr (And.intro hp (And.intro h1 (And.intro h2 (And.intro hxi (And.intro hxc (And.intro (by omega) (And.intro h4 ?_)))))))))
  cbv
  split <;> cbv
  · rename_i hq
    have hq : checkAllS p ice cr ≠ 0 := by have hq : A.ne (S.checkAll p ice cr) 0 = true := hq; subst hA hS; simpa [std, stS, iNe] using hq
    have e1 : S.checkAll p ice cr = checkAllS p ice cr := by subst hS; rfl
    unfold holdsS at hW
    rw [if_pos hq] at hW
    rw [hF]
    refine Frees.wk (r' := .tup [.vs 1 [], I (S.checkAll p ice cr)]) (Wk.tup ⟨Wk.nil, Wk.rfl, trivial⟩) (Frees.drop0 ?_ rfl)
    rw [hW] at h
    rw [e1]; exact h
  rename_i hq
  have hq : checkAllS p ice cr = 0 := by have hq : A.ne (S.checkAll p ice cr) 0 = false := hq; subst hA hS; simpa [std, stS, iNe] using hq
  unfold holdsS at hW
  rw [if_neg (by simp [hq])] at hW
  have hV := checkAllS_ok hq
  have hil := hV.il
  refine Exists.intro l (And.intro hys (And.intro h5 (And.intro (by show 0 ≤ A.vlen xi ∧ A.vlen xi < 46116860184273879; rw [hv]; unfold iLen; omega) ?_)))
  cbv
  have e2 : S.loads (A.vlen xi) l = loadsS ice.length l := by rw [hv]; subst hS; rfl
  split <;> cbv
  · rename_i hq2
    have hq2 : loadsS ice.length l ≠ 0 := by have hq2 : A.ne (S.loads (A.vlen xi) l) 0 = true := hq2; rw [e2] at hq2; subst hA; simpa [std, iNe] using hq2
    rw [if_pos hq2] at hW
    rw [hF]
    refine Frees.wk (r' := .tup [.vs 1 [], I (S.loads (A.vlen xi) l)]) (Wk.tup ⟨Wk.nil, Wk.rfl, trivial⟩) (Frees.drop0 ?_ rfl)
    rw [hW] at h
    rw [e2]; exact h
  rename_i hq2
  have hq2 : loadsS ice.length l = 0 := by have hq2 : A.ne (S.loads (A.vlen xi) l) 0 = false := hq2; rw [e2] at hq2; subst hA; simpa [std, iNe] using hq2
  rw [if_neg (by simp [hq2])] at hW
  obtain ⟨hl1, hl2⟩ := loadsS_ok hq2
  have hl : LoadsV ice.length l := ⟨hl1, hl2⟩
  clear e2 hv
  have hsg : ∀ g, A.sg g g := by subst hA; exact fun _ => rfl
  rw [hT]
  refine AGo_nilms 12 1 rfl ?_
  refine AGo_upS l.length (fun j (s : List Int) => s = (l.take j).map (veS p ice cr l)) (fun j _ i => [(0, plV a b (.vs 2 xs) (.vs 2 ec) ne ed gr lo hi sh wi), (1, .vs 2 xi), (2, .vs 2 xc), (3, .vs 4 ys), (4, .mp 0 0 0), (12, .ms 1 1 j 0 j), (29, I (A.vlen ys)), (30, I i)]) (fun j s => [.own 0 [I a, I b, .vs 2 xs, .vs 2 ec, I ne, I ed, I gr, I lo, I hi, I sh, I wi], .own j (s.map I)]) [] rfl ⟨rfl, rfl, rfl, rfl, rfl, rfl, rfl, rfl,trivial⟩ (.inl rfl) fun j s i hi' hj hP Bk hB => ?_
  have hlt : A.lt i (A.vlen ys) = decide (j < l.length) := by subst hA; exact lt_len (by simp [hys]) hi'
  have hadd : ∀ N, j < N → N ≤ 9223372036854775807 → A.add .i64 i 1 = iLen (j + 1) := fun N hj hN => by subst hA; exact add_one hi' hj hN
  have hsl : s.length = j := by rw [hP]; simp; omega
  obtain ⟨cs, hcs⟩ : ∃ cs, cs = s.map I := ⟨_, rfl⟩
  rw [← hcs]
  refine SGo_run hA ⟨[1], [], (85, eCheckAll S) :: (87, eVe S2) :: tb5 S S2, []⟩ (.cons (eCheckAll_ok p85 hS) (.cons (eVe_ok p87 hS2) (tb5_ok hS hS2))) .nil 200 fun T TD hT hTD => ?_
  cbv
  split <;> cbv
  · rename_i hk1
    have hk1 : j < l.length := by have := hlt.symm.trans hk1; simpa using this
    obtain ⟨x, hx⟩ : ∃ x, l[j]? = some x := ⟨_, List.getElem?_eq_getElem hk1⟩
    refine Exists.intro p (Exists.intro ice (Exists.intro cr (Exists.intro l (Exists.intro j (Exists.intro x (And.intro hp (And.intro hxi (And.intro hxc (And.intro hys (And.intro hV (And.intro hl (And.intro hi' (And.intro hx ?_)))))))))))))
    cbv
    refine And.intro (hsg _) (Exists.intro ((s ++ [veS p ice cr l x]).map I) (Exists.intro (j + 1) (And.intro ?_ (And.intro rfl ?_))))
    · rw [List.map_append, ← hcs]
      subst hA hS2
      exact app_one (by rw [hcs]; simp [hsl]) rfl (by omega)
    generalize hcs2 : (s ++ [veS p ice cr l x]).map I = cs2
    cbv
    subst hcs2
    exact hB _ _ _ hk1 (by rw [hP, List.take_add_one, hx]; simp) ⟨rfl, rfl, rfl, rfl, rfl, rfl, rfl,congrArg I (hadd _ hk1 (by omega)), trivial⟩ (.inl rfl)
  · rename_i hk1
    have hk1 : ¬ j < l.length := by have := hlt.symm.trans hk1; simpa using this
    rw [hF]
    subst hcs
    refine Frees.frz 1 j 1 (s.map I) rfl (Elems_I s) (Frees.drop0 ?_ ?_)
    · rw [hW] at h
      have hP : s = l.map (veS p ice cr l) := by rw [hP, List.take_of_length_le (by omega)]
      rw [← hP] at h
      have : AV.frz 1 j 1 (s.map I) (.ms 1 1 j 0 j) = .vs 1 (s.map I) := by
        rw [← hsl]; exact frz_self (by simp)
      simp only [aTup, AV.frz, AV.frzL] at this ⊢
      rw [this]; exact h
    · simp only [aTup, AV.frz, AV.frzL, AV.nid, AV.nidL, if_true]
      split <;> rfl
theorem p26 (p : Plate) {a b : Int} {xs ec : List AV} {ne ed gr lo hi sh wi : Int} (hp : PlateIs p a b xs ec ne ed gr lo hi sh wi) (h1 : p.shares.length ≤ 9223372036854775807) (h2 : p.creep.length ≤ 9223372036854775807) (ice cr : List (Int × Int)) (l : List Load) (h3 : ice.length ≤ 9223372036854775807) (h4 : cr.length ≤ 9223372036854775807) (h5 : l.length ≤ 9223372036854775807) (H : AHeap) {Kk : AV → AHeap → Prop} (h : Kk (.tup [.vs 1 ((holdsS p ice cr l).1.map I), I (holdsS p ice cr l).2]) H) :
    ACalls Try.prog 26 [plV a b (.vs 2 xs) (.vs 2 ec) ne ed gr lo hi sh wi, .vs 2 (ice.map sp), .vs 2 (cr.map sp), .vs 4 (l.map ldV)] H Kk := by
  refine (fun q => pureF (by rfl) (by rfl) q H h) ?_
  clear h
  intro Kk h
  obtain ⟨W, hW⟩ : ∃ W, W = holdsS p ice cr l := ⟨_, rfl⟩
  rw [← hW] at h
  obtain ⟨ys, hys⟩ : ∃ ys, ys = l.map ldV := ⟨_, rfl⟩
  obtain ⟨xi, hxi⟩ : ∃ xi, xi = ice.map sp := ⟨_, rfl⟩
  obtain ⟨xc, hxc⟩ : ∃ xc, xc = cr.map sp := ⟨_, rfl⟩
  rw [← hys, ← hxi, ← hxc]
  obtain ⟨A, hA⟩ : ∃ A, A = std := ⟨_, rfl⟩
  obtain ⟨S, hS⟩ : ∃ S, S = stS := ⟨_, rfl⟩
  obtain ⟨S2, hS2⟩ : ∃ S, S = st2 := ⟨_, rfl⟩
  have hv : A.vlen xi = iLen ice.length := by subst hA; simp [std, hxi]
  obtain ⟨F, hF⟩ : ∃ F, F = Frees 0 Kk := ⟨_, rfl⟩
  rw [← hF]
  refine go26 rfl (SGo_run hA ⟨[], [], (88, eCheckAll S) :: (90, eVe S2) :: tb5 S S2, []⟩ (.cons (eCheckAll_ok p88 hS) (.cons (eVe_ok p90 hS2) (tb5_ok hS hS2))) .nil 200 fun T TD hT hTD => ?_)
  cbv
  refine Exists.intro p (Exists.intro ice (Exists.intro cr (And.intro hp (And.intro h1 (And.intro h2 (And.intro hxi (And.intro hxc (And.intro (by omega) (And.intro h4 ?_)))))))))
  cbv
  split <;> cbv
  · rename_i hq
    have hq : checkAllS p ice cr ≠ 0 := by have hq : A.ne (S.checkAll p ice cr) 0 = true := hq; subst hA hS; simpa [std, stS, iNe] using hq
    have e1 : S.checkAll p ice cr = checkAllS p ice cr := by subst hS; rfl
    unfold holdsS at hW
    rw [if_pos hq] at hW
    rw [hF]
    refine Frees.wk (r' := .tup [.vs 1 [], I (S.checkAll p ice cr)]) (Wk.tup ⟨Wk.nil, Wk.rfl, trivial⟩) (Frees.drop0 ?_ rfl)
    rw [hW] at h
    rw [e1]; exact h
  rename_i hq
  have hq : checkAllS p ice cr = 0 := by have hq : A.ne (S.checkAll p ice cr) 0 = false := hq; subst hA hS; simpa [std, stS, iNe] using hq
  unfold holdsS at hW
  rw [if_neg (by simp [hq])] at hW
  have hV := checkAllS_ok hq
  have hil := hV.il
  refine Exists.intro l (And.intro hys (And.intro h5 (And.intro (by show 0 ≤ A.vlen xi ∧ A.vlen xi < 46116860184273879; rw [hv]; unfold iLen; omega) ?_)))
  cbv
  have e2 : S.loads (A.vlen xi) l = loadsS ice.length l := by rw [hv]; subst hS; rfl
  split <;> cbv
  · rename_i hq2
    have hq2 : loadsS ice.length l ≠ 0 := by have hq2 : A.ne (S.loads (A.vlen xi) l) 0 = true := hq2; rw [e2] at hq2; subst hA; simpa [std, iNe] using hq2
    rw [if_pos hq2] at hW
    rw [hF]
    refine Frees.wk (r' := .tup [.vs 1 [], I (S.loads (A.vlen xi) l)]) (Wk.tup ⟨Wk.nil, Wk.rfl, trivial⟩) (Frees.drop0 ?_ rfl)
    rw [hW] at h
    rw [e2]; exact h
  rename_i hq2
  have hq2 : loadsS ice.length l = 0 := by have hq2 : A.ne (S.loads (A.vlen xi) l) 0 = false := hq2; rw [e2] at hq2; subst hA; simpa [std, iNe] using hq2
  rw [if_neg (by simp [hq2])] at hW
  obtain ⟨hl1, hl2⟩ := loadsS_ok hq2
  have hl : LoadsV ice.length l := ⟨hl1, hl2⟩
  clear e2 hv
  have hsg : ∀ g, A.sg g g := by subst hA; exact fun _ => rfl
  rw [hT]
  refine AGo_nilms 12 1 rfl ?_
  refine AGo_upS l.length (fun j (s : List Int) => s = (l.take j).map (veS p ice cr l)) (fun j _ i => [(0, plV a b (.vs 2 xs) (.vs 2 ec) ne ed gr lo hi sh wi), (1, .vs 2 xi), (2, .vs 2 xc), (3, .vs 4 ys), (4, .mp 0 0 0), (12, .ms 1 1 j 0 j), (13, I i)]) (fun j s => [.own 0 [I a, I b, .vs 2 xs, .vs 2 ec, I ne, I ed, I gr, I lo, I hi, I sh, I wi], .own j (s.map I)]) [] rfl ⟨rfl, rfl, rfl, rfl, rfl, rfl, rfl,trivial⟩ (.inl rfl) fun j s i hi' hj hP Bk hB => ?_
  have hlt : A.lt i (A.vlen ys) = decide (j < l.length) := by subst hA; exact lt_len (by simp [hys]) hi'
  have hadd : ∀ N, j < N → N ≤ 9223372036854775807 → A.add .i64 i 1 = iLen (j + 1) := fun N hj hN => by subst hA; exact add_one hi' hj hN
  have hsl : s.length = j := by rw [hP]; simp; omega
  obtain ⟨cs, hcs⟩ : ∃ cs, cs = s.map I := ⟨_, rfl⟩
  rw [← hcs]
  refine SGo_run hA ⟨[1], [], (88, eCheckAll S) :: (90, eVe S2) :: tb5 S S2, []⟩ (.cons (eCheckAll_ok p88 hS) (.cons (eVe_ok p90 hS2) (tb5_ok hS hS2))) .nil 200 fun T TD hT hTD => ?_
  cbv
  split <;> cbv
  · rename_i hk1
    have hk1 : j < l.length := by have := hlt.symm.trans hk1; simpa using this
    obtain ⟨x, hx⟩ : ∃ x, l[j]? = some x := ⟨_, List.getElem?_eq_getElem hk1⟩
    refine Exists.intro p (Exists.intro ice (Exists.intro cr (Exists.intro l (Exists.intro j (Exists.intro x (And.intro hp (And.intro hxi (And.intro hxc (And.intro hys (And.intro hV (And.intro hl (And.intro hi' (And.intro hx ?_)))))))))))))
    cbv
    refine And.intro (hsg _) (Exists.intro ((s ++ [veS p ice cr l x]).map I) (Exists.intro (j + 1) (And.intro ?_ (And.intro rfl ?_))))
    · rw [List.map_append, ← hcs]
      subst hA hS2
      exact app_one (by rw [hcs]; simp [hsl]) rfl (by omega)
    generalize hcs2 : (s ++ [veS p ice cr l x]).map I = cs2
    cbv
    subst hcs2
    exact hB _ _ _ hk1 (by rw [hP, List.take_add_one, hx]; simp) ⟨rfl, rfl, rfl, rfl, rfl, rfl, congrArg I (hadd _ hk1 (by omega)), trivial⟩ (.inl rfl)
  · rename_i hk1
    have hk1 : ¬ j < l.length := by have := hlt.symm.trans hk1; simpa using this
    rw [hF]
    subst hcs
    refine Frees.frz 1 j 1 (s.map I) rfl (Elems_I s) (Frees.drop0 ?_ ?_)
    · rw [hW] at h
      have hP : s = l.map (veS p ice cr l) := by rw [hP, List.take_of_length_le (by omega)]
      rw [← hP] at h
      have : AV.frz 1 j 1 (s.map I) (.ms 1 1 j 0 j) = .vs 1 (s.map I) := by
        rw [← hsl]; exact frz_self (by simp)
      simp only [aTup, AV.frz, AV.frzL] at this ⊢
      rw [this]; exact h
    · simp only [aTup, AV.frz, AV.frzL, AV.nid, AV.nidL, if_true]
      split <;> rfl
end Go.Sas
