/-
What the functions that ice rests on yield, part 8: the verdicts on loads.
What the functions that ice rests on yield, part 9: how much ice bears alone; waters.
What the functions that ice rests on yield, part 10: waves and speeds.
What the functions that ice rests on yield, part 11: the verdicts on speeds.
What the functions that ice rests on yield, part 12: comparisons, examples.
What the functions that ice rests on yield, part 13: the examples that each law looks at.
Conditions: none.
-/
import Derived.Test.YtelmlpjkpebcgaaM9
import Derived.Test.YtelmlpjkpebcgaaM7
import Derived.Test.YtelmlpjkpebcgaaM6
import Derived.Test.YtelmlpjkpebcgaaM8
set_option linter.unusedVariables false
set_option linter.unusedSimpArgs false
namespace Go.Sas
open Go.Proofs
set_option maxRecDepth 100000
theorem p25 (p : Plate) {a b : Int} {xs ec : List AV} {ne ed gr lo hi sh wi : Int} (hp : PlateIs p a b xs ec ne ed gr lo hi sh wi) (h1 : p.shares.length ≤ 9223372036854775807) (h2 : p.creep.length ≤ 9223372036854775807) (ice cr : List (Int × Int)) (l : List Load) (h3 : ice.length ≤ 9223372036854775807) (h4 : cr.length ≤ 9223372036854775807) (h5 : l.length ≤ 9223372036854775807) (H : AHeap) {Kk : AV → AHeap → Prop} (h : Kk (.tup [.vs 1 ((holdsS p ice cr l).1.map I), I (holdsS p ice cr l).2]) H) :
    ACalls Try.prog 25 [plV a b (.vs 2 xs) (.vs 2 ec) ne ed gr lo hi sh wi, .vs 2 (ice.map sp), .vs 2 (cr.map sp), .vs 4 (l.map ldV)] H Kk := by
  refine (fun q => pureF (by rfl) (by rfl) q H h) ?_
  clear h
  intro Kk h
  obtain ⟨W, hW⟩ : ∃ W, W = holdsS p ice cr l := ⟨_, rfl⟩
  rw [← hW] at h
  obtain ⟨ys, hys⟩ : ∃ ys, ys = l.map ldV := ⟨_, rfl⟩
  obtain ⟨xi, hxi⟩ : ∃ xi, xi = ice.map sp := ⟨_, rfl⟩
  obtain ⟨xc, hxc⟩ : ∃ xc, xc = cr.map sp := ⟨_, rfl⟩
  rw [← hys, ← hxi, ← hxc]
  obtain ⟨A, hA⟩ : ∃ A, A = std := ⟨_, rfl⟩
  obtain ⟨S, hS⟩ : ∃ S, S = stS := ⟨_, rfl⟩
  obtain ⟨S2, hS2⟩ : ∃ S, S = st2 := ⟨_, rfl⟩
  have hv : A.vlen xi = iLen ice.length := by subst hA; simp [std, hxi]
  obtain ⟨F, hF⟩ : ∃ F, F = Frees 0 Kk := ⟨_, rfl⟩
  rw [← hF]
  refine go25 rfl (SGo_run hA ⟨[], [], (85, eCheckAll S) :: (87, eVe S2) :: tb5 S S2, []⟩ (.cons (eCheckAll_ok p85 hS) (.cons (eVe_ok p87 hS2) (tb5_ok hS hS2))) .nil 200 fun T TD hT hTD => ?_)
  cbv
  refine Exists.intro p (Exists.intro ice (Exists.intro cr (And.intro hp (And.intro h1 (And.intro h2 (And.intro hxi (And.intro hxc (And.intro (by omega) (And.intro h4 ?_)))))))))
  cbv
  split <;> cbv
  · rename_i hq
    have hq : checkAllS p ice cr ≠ 0 := by have hq : A.ne (S.checkAll p ice cr) 0 = true := hq; subst hA hS; simpa [std, stS, iNe] using hq
    have e1 : S.checkAll p ice cr = checkAllS p ice cr := by subst hS; rfl
    unfold holdsS at hW
    rw [if_pos hq] at hW
    rw [hF]
    refine Frees.wk (r' := .tup [.vs 1 [], I (S.checkAll p ice cr)]) (Wk.tup ⟨Wk.nil, Wk.rfl, trivial⟩) (Frees.drop0 ?_ rfl)
    rw [hW] at h
    rw [e1]; exact h
  rename_i hq
  have hq : checkAllS p ice cr = 0 := by have hq : A.ne (S.checkAll p ice cr) 0 = false := hq; subst hA hS; simpa [std, stS, iNe] using hq
  unfold holdsS at hW
  rw [if_neg (by simp [hq])] at hW
  have hV := checkAllS_ok hq
  have hil := hV.il
  refine Exists.intro l (And.intro hys (And.intro h5 (And.intro (by show 0 ≤ A.vlen xi ∧ A.vlen xi < 46116860184273879; rw [hv]; unfold iLen; omega) ?_)))
  cbv
  have e2 : S.loads (A.vlen xi) l = loadsS ice.length l := by rw [hv]; subst hS; rfl
  split <;> cbv
  · rename_i hq2
    have hq2 : loadsS ice.length l ≠ 0 := by have hq2 : A.ne (S.loads (A.vlen xi) l) 0 = true := hq2; rw [e2] at hq2; subst hA; simpa [std, iNe] using hq2
    rw [if_pos hq2] at hW
    rw [hF]
    refine Frees.wk (r' := .tup [.vs 1 [], I (S.loads (A.vlen xi) l)]) (Wk.tup ⟨Wk.nil, Wk.rfl, trivial⟩) (Frees.drop0 ?_ rfl)
    rw [hW] at h
    rw [e2]; exact h
  rename_i hq2
  have hq2 : loadsS ice.length l = 0 := by have hq2 : A.ne (S.loads (A.vlen xi) l) 0 = false := hq2; rw [e2] at hq2; subst hA; simpa [std, iNe] using hq2
  rw [if_neg (by simp [hq2])] at hW
  obtain ⟨hl1, hl2⟩ := loadsS_ok hq2
  have hl : LoadsV ice.length l := ⟨hl1, hl2⟩
  clear e2 hv
  have hsg : ∀ g, A.sg g g := by subst hA; exact fun _ => rfl
  rw [hT]
  refine AGo_nilms 12 1 rfl ?_
  refine AGo_upS l.length (fun j (s : List Int) => s = (l.take j).map (veS p ice cr l)) (fun j _ i => [(0, plV a b (.vs 2 xs) (.vs 2 ec) ne ed gr lo hi sh wi), (1, .vs 2 xi), (2, .vs 2 xc), (3, .vs 4 ys), (4, .mp 0 0 0), (12, .ms 1 1 j 0 j), (29, I (A.vlen ys)), (30, I i)]) (fun j s => [.own 0 [I a, I b, .vs 2 xs, .vs 2 ec, I ne, I ed, I gr, I lo, I hi, I sh, I wi], .own j (s.map I)]) [] rfl ⟨rfl, rfl, rfl, rfl, rfl, rfl, rfl, rfl,trivial⟩ (.inl rfl) fun j s i hi' hj hP Bk hB => ?_
  have hlt : A.lt i (A.vlen ys) = decide (j < l.length) := by subst hA; exact lt_len (by simp [hys]) hi'
  have hadd : ∀ N, j < N → N ≤ 9223372036854775807 → A.add .i64 i 1 = iLen (j + 1) := fun N hj hN => by subst hA; exact add_one hi' hj hN
  have hsl : s.length = j := by rw [hP]; simp; omega
  obtain ⟨cs, hcs⟩ : ∃ cs, cs = s.map I := ⟨_, rfl⟩
  rw [← hcs]
  refine SGo_run hA ⟨[1], [], (85, eCheckAll S) :: (87, eVe S2) :: tb5 S S2, []⟩ (.cons (eCheckAll_ok p85 hS) (.cons (eVe_ok p87 hS2) (tb5_ok hS hS2))) .nil 200 fun T TD hT hTD => ?_
  cbv
  split <;> cbv
  · rename_i hk1
    have hk1 : j < l.length := by have := hlt.symm.trans hk1; simpa using this
    obtain ⟨x, hx⟩ : ∃ x, l[j]? = some x := ⟨_, List.getElem?_eq_getElem hk1⟩
    refine Exists.intro p (Exists.intro ice (Exists.intro cr (Exists.intro l (Exists.intro j (Exists.intro x (And.intro hp (And.intro hxi (And.intro hxc (And.intro hys (And.intro hV (And.intro hl (And.intro hi' (And.intro hx ?_)))))))))))))
    cbv
    refine And.intro (hsg _) (Exists.intro ((s ++ [veS p ice cr l x]).map I) (Exists.intro (j + 1) (And.intro ?_ (And.intro rfl ?_))))
    · rw [List.map_append, ← hcs]
      subst hA hS2
      exact app_one (by rw [hcs]; simp [hsl]) rfl (by omega)
    generalize hcs2 : (s ++ [veS p ice cr l x]).map I = cs2
    cbv
    subst hcs2
    exact hB _ _ _ hk1 (by rw [hP, List.take_add_one, hx]; simp) ⟨rfl, rfl, rfl, rfl, rfl, rfl, rfl,congrArg I (hadd _ hk1 (by omega)), trivial⟩ (.inl rfl)
  · rename_i hk1
    have hk1 : ¬ j < l.length := by have := hlt.symm.trans hk1; simpa using this
    rw [hF]
    subst hcs
    refine Frees.frz 1 j 1 (s.map I) rfl (Elems_I s) (Frees.drop0 ?_ ?_)
    · rw [hW] at h
      have hP : s = l.map (veS p ice cr l) := by rw [hP, List.take_of_length_le (by omega)]
      rw [← hP] at h
      have : AV.frz 1 j 1 (s.map I) (.ms 1 1 j 0 j) = .vs 1 (s.map I) := by
        rw [← hsl]; exact frz_self (by simp)
      simp only [aTup, AV.frz, AV.frzL] at this ⊢
      rw [this]; exact h
    · simp only [aTup, AV.frz, AV.frzL, AV.nid, AV.nidL, if_true]
      split <;> rfl
theorem p26 (p : Plate) {a b : Int} {xs ec : List AV} {ne ed gr lo hi sh wi : Int} (hp : PlateIs p a b xs ec ne ed gr lo hi sh wi) (h1 : p.shares.length ≤ 9223372036854775807) (h2 : p.creep.length ≤ 9223372036854775807) (ice cr : List (Int × Int)) (l : List Load) (h3 : ice.length ≤ 9223372036854775807) (h4 : cr.length ≤ 9223372036854775807) (h5 : l.length ≤ 9223372036854775807) (H : AHeap) {Kk : AV → AHeap → Prop} (h : Kk (.tup [.vs 1 ((holdsS p ice cr l).1.map I), I (holdsS p ice cr l).2]) H) :
    ACalls Try.prog 26 [plV a b (.vs 2 xs) (.vs 2 ec) ne ed gr lo hi sh wi, .vs 2 (ice.map sp), .vs 2 (cr.map sp), .vs 4 (l.map ldV)] H Kk := by
  refine (fun q => pureF (by rfl) (by rfl) q H h) ?_
  clear h
  intro Kk h
  obtain ⟨W, hW⟩ : ∃ W, W = holdsS p ice cr l := ⟨_, rfl⟩
  rw [← hW] at h
  obtain ⟨ys, hys⟩ : ∃ ys, ys = l.map ldV := ⟨_, rfl⟩
  obtain ⟨xi, hxi⟩ : ∃ xi, xi = ice.map sp := ⟨_, rfl⟩
  obtain ⟨xc, hxc⟩ : ∃ xc, xc = cr.map sp := ⟨_, rfl⟩
  rw [← hys, ← hxi, ← hxc]
  obtain ⟨A, hA⟩ : ∃ A, A = std := ⟨_, rfl⟩
  obtain ⟨S, hS⟩ : ∃ S, S = stS := ⟨_, rfl⟩
  obtain ⟨S2, hS2⟩ : ∃ S, S = st2 := ⟨_, rfl⟩
  have hv : A.vlen xi = iLen ice.length := by subst hA; simp [std, hxi]
  obtain ⟨F, hF⟩ : ∃ F, F = Frees 0 Kk := ⟨_, rfl⟩
  rw [← hF]
  refine go26 rfl (SGo_run hA ⟨[], [], (88, eCheckAll S) :: (90, eVe S2) :: tb5 S S2, []⟩ (.cons (eCheckAll_ok p88 hS) (.cons (eVe_ok p90 hS2) (tb5_ok hS hS2))) .nil 200 fun T TD hT hTD => ?_)
  cbv
  refine Exists.intro p (Exists.intro ice (Exists.intro cr (And.intro hp (And.intro h1 (And.intro h2 (And.intro hxi (And.intro hxc (And.intro (by omega) (And.intro h4 ?_)))))))))
  cbv
  split <;> cbv
  · rename_i hq
    have hq : checkAllS p ice cr ≠ 0 := by have hq : A.ne (S.checkAll p ice cr) 0 = true := hq; subst hA hS; simpa [std, stS, iNe] using hq
    have e1 : S.checkAll p ice cr = checkAllS p ice cr := by subst hS; rfl
    unfold holdsS at hW
    rw [if_pos hq] at hW
    rw [hF]
    refine Frees.wk (r' := .tup [.vs 1 [], I (S.checkAll p ice cr)]) (Wk.tup ⟨Wk.nil, Wk.rfl, trivial⟩) (Frees.drop0 ?_ rfl)
    rw [hW] at h
    rw [e1]; exact h
  rename_i hq
  have hq : checkAllS p ice cr = 0 := by have hq : A.ne (S.checkAll p ice cr) 0 = false := hq; subst hA hS; simpa [std, stS, iNe] using hq
  unfold holdsS at hW
  rw [if_neg (by simp [hq])] at hW
  have hV := checkAllS_ok hq
  have hil := hV.il
  refine Exists.intro l (And.intro hys (And.intro h5 (And.intro (by show 0 ≤ A.vlen xi ∧ A.vlen xi < 46116860184273879; rw [hv]; unfold iLen; omega) ?_)))
  cbv
  have e2 : S.loads (A.vlen xi) l = loadsS ice.length l := by rw [hv]; subst hS; rfl
  split <;> cbv
  · rename_i hq2
    have hq2 : loadsS ice.length l ≠ 0 := by have hq2 : A.ne (S.loads (A.vlen xi) l) 0 = true := hq2; rw [e2] at hq2; subst hA; simpa [std, iNe] using hq2
    rw [if_pos hq2] at hW
    rw [hF]
    refine Frees.wk (r' := .tup [.vs 1 [], I (S.loads (A.vlen xi) l)]) (Wk.tup ⟨Wk.nil, Wk.rfl, trivial⟩) (Frees.drop0 ?_ rfl)
    rw [hW] at h
    rw [e2]; exact h
  rename_i hq2
  have hq2 : loadsS ice.length l = 0 := by have hq2 : A.ne (S.loads (A.vlen xi) l) 0 = false := hq2; rw [e2] at hq2; subst hA; simpa [std, iNe] using hq2
  rw [if_neg (by simp [hq2])] at hW
  obtain ⟨hl1, hl2⟩ := loadsS_ok hq2
  have hl : LoadsV ice.length l := ⟨hl1, hl2⟩
  clear e2 hv
  have hsg : ∀ g, A.sg g g := by subst hA; exact fun _ => rfl
  rw [hT]
  refine AGo_nilms 12 1 rfl ?_
  refine AGo_upS l.length (fun j (s : List Int) => s = (l.take j).map (veS p ice cr l)) (fun j _ i => [(0, plV a b (.vs 2 xs) (.vs 2 ec) ne ed gr lo hi sh wi), (1, .vs 2 xi), (2, .vs 2 xc), (3, .vs 4 ys), (4, .mp 0 0 0), (12, .ms 1 1 j 0 j), (13, I i)]) (fun j s => [.own 0 [I a, I b, .vs 2 xs, .vs 2 ec, I ne, I ed, I gr, I lo, I hi, I sh, I wi], .own j (s.map I)]) [] rfl ⟨rfl, rfl, rfl, rfl, rfl, rfl, rfl,trivial⟩ (.inl rfl) fun j s i hi' hj hP Bk hB => ?_
  have hlt : A.lt i (A.vlen ys) = decide (j < l.length) := by subst hA; exact lt_len (by simp [hys]) hi'
  have hadd : ∀ N, j < N → N ≤ 9223372036854775807 → A.add .i64 i 1 = iLen (j + 1) := fun N hj hN => by subst hA; exact add_one hi' hj hN
  have hsl : s.length = j := by rw [hP]; simp; omega
  obtain ⟨cs, hcs⟩ : ∃ cs, cs = s.map I := ⟨_, rfl⟩
  rw [← hcs]
  refine SGo_run hA ⟨[1], [], (88, eCheckAll S) :: (90, eVe S2) :: tb5 S S2, []⟩ (.cons (eCheckAll_ok p88 hS) (.cons (eVe_ok p90 hS2) (tb5_ok hS hS2))) .nil 200 fun T TD hT hTD => ?_
  cbv
  split <;> cbv
  · rename_i hk1
    have hk1 : j < l.length := by have := hlt.symm.trans hk1; simpa using this
    obtain ⟨x, hx⟩ : ∃ x, l[j]? = some x := ⟨_, List.getElem?_eq_getElem hk1⟩
    refine Exists.intro p (Exists.intro ice (Exists.intro cr (Exists.intro l (Exists.intro j (Exists.intro x (And.intro hp (And.intro hxi (And.intro hxc (And.intro hys (And.intro hV (And.intro hl (And.intro hi' (And.intro hx ?_)))))))))))))
    cbv
    refine And.intro (hsg _) (Exists.intro ((s ++ [veS p ice cr l x]).map I) (Exists.intro (j + 1) (And.intro ?_ (And.intro rfl ?_))))
    · rw [List.map_append, ← hcs]
      subst hA hS2
      exact app_one (by rw [hcs]; simp [hsl]) rfl (by omega)
    generalize hcs2 : (s ++ [veS p ice cr l x]).map I = cs2
    cbv
    subst hcs2
    exact hB _ _ _ hk1 (by rw [hP, List.take_add_one, hx]; simp) ⟨rfl, rfl, rfl, rfl, rfl, rfl, congrArg I (hadd _ hk1 (by omega)), trivial⟩ (.inl rfl)
  · rename_i hk1
    have hk1 : ¬ j < l.length := by have := hlt.symm.trans hk1; simpa using this
    rw [hF]
    subst hcs
    refine Frees.frz 1 j 1 (s.map I) rfl (Elems_I s) (Frees.drop0 ?_ ?_)
    · rw [hW] at h
      have hP : s = l.map (veS p ice cr l) := by rw [hP, List.take_of_length_le (by omega)]
      rw [← hP] at h
      have : AV.frz 1 j 1 (s.map I) (.ms 1 1 j 0 j) = .vs 1 (s.map I) := by
        rw [← hsl]; exact frz_self (by simp)
      simp only [aTup, AV.frz, AV.frzL] at this ⊢
      rw [this]; exact h
    · simp only [aTup, AV.frz, AV.frzL, AV.nid, AV.nidL, if_true]
      split <;> rfl
end Go.Sas
namespace Go.Sas
open Go.Proofs
set_option maxRecDepth 100000
theorem p101 (p : Plate) {a b : Int} {xs ec : List AV} {ne ed gr lo hi sh wi : Int} (hp : PlateIs p a b xs ec ne ed gr lo hi sh wi) (hV : PlateV p) (t n : Int) (ht : 0 ≤ t ∧ t ≤ 5000) (H : AHeap) {Kk : AV → AHeap → Prop} (h : Kk (I (aloS p t n)) H) :
    ACalls Try.prog 101 [plV a b (.vs 2 xs) (.vs 2 ec) ne ed gr lo hi sh wi, I t, I n] H Kk := by
  refine (fun q => pureC (by rfl) (by rfl) q H h) ?_
  clear h
  intro Kk h
  obtain ⟨A, hA⟩ : ∃ A, A = std := ⟨_, rfl⟩
  obtain ⟨S, hS⟩ : ∃ S, S = stS := ⟨_, rfl⟩
  obtain ⟨S2, hS2⟩ : ∃ S, S = st2 := ⟨_, rfl⟩
  generalize hW : aloS p t n = W at h
  obtain ⟨cl, hcl⟩ : ∃ cl, cl = p.creep := ⟨_, rfl⟩
  have hc : ec = cl.map sp := by rw [hcl]; exact hp.hc
  refine go101 rfl (SGo_run hA ⟨[], [], tb3 S, []⟩ (tb3_ok hS) .nil 200 fun T TD hT hTD => ?_)
  clear hT hTD
  cbv
  refine Exists.intro cl (And.intro hc (And.intro (by rw [hcl]; exact hV.cr.ne) (And.intro (by rw [hcl]; have := hV.cr.len; omega) ?_)))
  cbv
  refine leaf h (congrArg I ?_) rfl
  have hs1 := hV.s1
  have hs2 := hV.s2
  have hs3 := hV.s3
  have hs : 0 ≤ p.str.1 ∧ p.str.1 ≤ 100000 := by omega
  have hq := hV.cr.part n
  obtain ⟨e1, l1, u1⟩ := mulB hs ht (by omega)
  obtain ⟨e2, l2, u2⟩ := mulB ⟨l1, u1⟩ ht (by omega)
  obtain ⟨e3, l3, u3⟩ := mulB ⟨l2, u2⟩ hq (by omega)
  subst hA hS hcl
  rw [hp.str] at e1 e2 e3 l3 u3
  simp only [std, stS, e1, e2, e3]
  rw [iQuo_id l3 (by omega) (by omega), ← hW, aloS, hp.str]
theorem p102 (p : Plate) {a b : Int} {xs ec : List AV} {ne ed gr lo hi sh wi : Int} (hp : PlateIs p a b xs ec ne ed gr lo hi sh wi) (hV : PlateV p) (t n : Int) (ht : 0 ≤ t ∧ t ≤ 5000) (H : AHeap) {Kk : AV → AHeap → Prop} (h : Kk (I (aloS p t n)) H) :
    ACalls Try.prog 102 [plV a b (.vs 2 xs) (.vs 2 ec) ne ed gr lo hi sh wi, I t, I n] H Kk := by
  refine (fun q => pureC (by rfl) (by rfl) q H h) ?_
  clear h
  intro Kk h
  obtain ⟨A, hA⟩ : ∃ A, A = std := ⟨_, rfl⟩
  obtain ⟨S, hS⟩ : ∃ S, S = stS := ⟨_, rfl⟩
  obtain ⟨S2, hS2⟩ : ∃ S, S = st2 := ⟨_, rfl⟩
  generalize hW : aloS p t n = W at h
  obtain ⟨cl, hcl⟩ : ∃ cl, cl = p.creep := ⟨_, rfl⟩
  have hc : ec = cl.map sp := by rw [hcl]; exact hp.hc
  refine go102 rfl (SGo_run hA ⟨[], [], tb3 S, []⟩ (tb3_ok hS) .nil 200 fun T TD hT hTD => ?_)
  clear hT hTD
  cbv
  refine Exists.intro cl (And.intro hc (And.intro (by rw [hcl]; exact hV.cr.ne) (And.intro (by rw [hcl]; have := hV.cr.len; omega) ?_)))
  cbv
  refine leaf h (congrArg I ?_) rfl
  have hs1 := hV.s1
  have hs2 := hV.s2
  have hs3 := hV.s3
  have hs : 0 ≤ p.str.1 ∧ p.str.1 ≤ 100000 := by omega
  have hq := hV.cr.part n
  obtain ⟨e1, l1, u1⟩ := mulB hs ht (by omega)
  obtain ⟨e2, l2, u2⟩ := mulB ⟨l1, u1⟩ ht (by omega)
  obtain ⟨e3, l3, u3⟩ := mulB ⟨l2, u2⟩ hq (by omega)
  subst hA hS hcl
  rw [hp.str] at e1 e2 e3 l3 u3
  simp only [std, stS, e1, e2, e3]
  rw [iQuo_id l3 (by omega) (by omega), ← hW, aloS, hp.str]
theorem eAlo_ok {f : Nat} (hf : ∀ (p : Plate) {a b : Int} {xs ec : List AV} {ne ed gr lo hi sh wi : Int}, PlateIs p a b xs ec ne ed gr lo hi sh wi → PlateV p → ∀ (t n : Int), 0 ≤ t ∧ t ≤ 5000 → ∀ (H : AHeap) {Kk : AV → AHeap → Prop}, Kk (I (aloS p t n)) H →
    ACalls Try.prog f [plV a b (.vs 2 xs) (.vs 2 ec) ne ed gr lo hi sh wi, I t, I n] H Kk) {S : Sp3} (hS : S = st3) : ∀ args pt, eAlo S args = some pt → ∀ (H : AHeap) (Kk : AV → AHeap → Prop), pt (fun r => Kk r H) → ACalls Try.prog f args H Kk := by
  intro args pt h H Kk hk
  subst hS
  unfold eAlo at h
  split at h
  · split at h
    · rename_i x hy
      cases h
      obtain ⟨p, h1, h2, h3, h4⟩ := hk
      obtain ⟨a, b, xs, ec, ne, ed, gr, lo, hi, sh, wi⟩ := x
      exact (hf p h1 h2 _ _ h3 H h4).wk ⟨asPl_wk hy, Wk.rfl, Wk.rfl, trivial⟩
    · cases h
  · cases h
theorem p54 (p : Plate) {a b : Int} {xs ec : List AV} {ne ed gr lo hi sh wi : Int} (hp : PlateIs p a b xs ec ne ed gr lo hi sh wi) (h1 : Big p.shares) (h2 : Big p.creep) (t n : Int) (H : AHeap) {Kk : AV → AHeap → Prop} (h : Kk (.tup [I (bearsS p t n).1, I (bearsS p t n).2]) H) :
    ACalls Try.prog 54 [plV a b (.vs 2 xs) (.vs 2 ec) ne ed gr lo hi sh wi, I t, I n] H Kk := by
  refine (fun q => pureC (by rfl) (by rfl) q H h) ?_
  clear h
  intro Kk h
  obtain ⟨A, hA⟩ : ∃ A, A = std := ⟨_, rfl⟩
  obtain ⟨S, hS⟩ : ∃ S, S = stS := ⟨_, rfl⟩
  obtain ⟨S3, hS3⟩ : ∃ S, S = st3 := ⟨_, rfl⟩
  obtain ⟨W, hW⟩ : ∃ W, W = bearsS p t n := ⟨_, rfl⟩
  rw [← hW] at h
  refine go54 rfl (SGo_run hA ⟨[], [], (102, eAlo S3) :: tb3 S, []⟩ (.cons (eAlo_ok p102 hS3) (tb3_ok hS)) .nil 200 fun T TD hT hTD => ?_)
  clear hT hTD
  cbv
  refine Exists.intro p (And.intro hp (And.intro h1 (And.intro h2 ?_)))
  cbv
  have e1 : S.check p = checkS p := by subst hS; rfl
  split <;> cbv
  · rename_i hq
    have hq : A.ne (S.check p) 0 = true := hq
    refine leaf h ?_ rfl
    rw [e1] at hq
    subst hA
    simp only [std, stS, iLt, iLe, iEq, iNe, iLen, wiS, ouS, bne_iff_ne, ne_eq, beq_iff_eq, Bool.and_eq_true, Bool.or_eq_true, Bool.or_eq_false_iff, Bool.and_eq_false_iff, decide_eq_true_eq, decide_eq_false_iff_not, bne_eq_false_iff_eq, beq_eq_false_iff_ne, Bool.not_eq_true', Bool.not_eq_false'] at *
    rw [hW, bearsS, if_pos hq, ← e1]; rfl
  rename_i hq
  have hq : A.ne (S.check p) 0 = false := hq
  rw [e1] at hq
  have hq : checkS p = 0 := by subst hA; simpa [std, iNe] using hq
  have hV := checkS_ok hq
  rw [bearsS, if_neg (by simp [hq])] at hW
  by_cases ht : t < 0 ∨ 5000 < t ∨ n < 0 ∨ 10000 < n
  · rw [if_pos ht] at hW
    repeat' (first | (refine Exists.intro p (And.intro hp (And.intro hV (And.intro ?_ ?_)))) | (split <;> cbv))
    all_goals first | (refine leaf h ?_ rfl; rw [hW]; rfl) | (exfalso; subst hA hS; clear hp; simp only [std, stS, iLt, iLe, iEq, iNe, iLen, wiS, ouS, bne_iff_ne, ne_eq, beq_iff_eq, Bool.and_eq_true, Bool.or_eq_true, Bool.or_eq_false_iff, Bool.and_eq_false_iff, decide_eq_true_eq, decide_eq_false_iff_not, bne_eq_false_iff_eq, beq_eq_false_iff_ne, Bool.not_eq_true', Bool.not_eq_false'] at *; omega) | skip
    all_goals (exfalso; subst hA hS; clear hp; simp only [std, stS, iLt, iLe, iEq, iNe, iLen, wiS, ouS, bne_iff_ne, ne_eq, beq_iff_eq, Bool.and_eq_true, Bool.or_eq_true, Bool.or_eq_false_iff, Bool.and_eq_false_iff, decide_eq_true_eq, decide_eq_false_iff_not, bne_eq_false_iff_eq, beq_eq_false_iff_ne, Bool.not_eq_true', Bool.not_eq_false'] at *; omega)
  · rw [if_neg ht] at hW
    have ht5 : 0 ≤ t ∧ t ≤ 5000 := by omega
    repeat' (first | (refine Exists.intro p (And.intro hp (And.intro hV (And.intro ht5 ?_))); cbv) | (split <;> cbv))
    all_goals first | (refine leaf h ?_ rfl; rw [hW]; subst hS3; rfl) | skip
    all_goals (exfalso; subst hA hS; clear hp; simp only [std, stS, iLt, iLe, iEq, iNe, iLen, wiS, ouS, bne_iff_ne, ne_eq, beq_iff_eq, Bool.and_eq_true, Bool.or_eq_true, Bool.or_eq_false_iff, Bool.and_eq_false_iff, decide_eq_true_eq, decide_eq_false_iff_not, bne_eq_false_iff_eq, beq_eq_false_iff_ne, Bool.not_eq_true', Bool.not_eq_false'] at *; omega)
theorem p53 (p : Plate) {a b : Int} {xs ec : List AV} {ne ed gr lo hi sh wi : Int} (hp : PlateIs p a b xs ec ne ed gr lo hi sh wi) (h1 : Big p.shares) (h2 : Big p.creep) (t n : Int) (H : AHeap) {Kk : AV → AHeap → Prop} (h : Kk (.tup [I (bearsS p t n).1, I (bearsS p t n).2]) H) :
    ACalls Try.prog 53 [plV a b (.vs 2 xs) (.vs 2 ec) ne ed gr lo hi sh wi, I t, I n] H Kk := by
  refine (fun q => pureC (by rfl) (by rfl) q H h) ?_
  clear h
  intro Kk h
  obtain ⟨A, hA⟩ : ∃ A, A = std := ⟨_, rfl⟩
  obtain ⟨S, hS⟩ : ∃ S, S = stS := ⟨_, rfl⟩
  obtain ⟨S3, hS3⟩ : ∃ S, S = st3 := ⟨_, rfl⟩
  obtain ⟨W, hW⟩ : ∃ W, W = bearsS p t n := ⟨_, rfl⟩
  rw [← hW] at h
  refine go53 rfl (SGo_run hA ⟨[], [], (101, eAlo S3) :: tb3 S, []⟩ (.cons (eAlo_ok p101 hS3) (tb3_ok hS)) .nil 200 fun T TD hT hTD => ?_)
  clear hT hTD
  cbv
  refine Exists.intro p (And.intro hp (And.intro h1 (And.intro h2 ?_)))
  cbv
  have e1 : S.check p = checkS p := by subst hS; rfl
  split <;> cbv
  · rename_i hq
    have hq : A.ne (S.check p) 0 = true := hq
    refine leaf h ?_ rfl
    rw [e1] at hq
    subst hA
    simp only [std, stS, iLt, iLe, iEq, iNe, iLen, wiS, ouS, bne_iff_ne, ne_eq, beq_iff_eq, Bool.and_eq_true, Bool.or_eq_true, Bool.or_eq_false_iff, Bool.and_eq_false_iff, decide_eq_true_eq, decide_eq_false_iff_not, bne_eq_false_iff_eq, beq_eq_false_iff_ne, Bool.not_eq_true', Bool.not_eq_false'] at *
    rw [hW, bearsS, if_pos hq, ← e1]; rfl
  rename_i hq
  have hq : A.ne (S.check p) 0 = false := hq
  rw [e1] at hq
  have hq : checkS p = 0 := by subst hA; simpa [std, iNe] using hq
  have hV := checkS_ok hq
  rw [bearsS, if_neg (by simp [hq])] at hW
  by_cases ht : t < 0 ∨ 5000 < t ∨ n < 0 ∨ 10000 < n
  · rw [if_pos ht] at hW
    repeat' (first | (refine Exists.intro p (And.intro hp (And.intro hV (And.intro ?_ ?_)))) | (split <;> cbv))
    all_goals first | (refine leaf h ?_ rfl; rw [hW]; rfl) | (exfalso; subst hA hS; clear hp; simp only [std, stS, iLt, iLe, iEq, iNe, iLen, wiS, ouS, bne_iff_ne, ne_eq, beq_iff_eq, Bool.and_eq_true, Bool.or_eq_true, Bool.or_eq_false_iff, Bool.and_eq_false_iff, decide_eq_true_eq, decide_eq_false_iff_not, bne_eq_false_iff_eq, beq_eq_false_iff_ne, Bool.not_eq_true', Bool.not_eq_false'] at *; omega) | skip
    all_goals (exfalso; subst hA hS; clear hp; simp only [std, stS, iLt, iLe, iEq, iNe, iLen, wiS, ouS, bne_iff_ne, ne_eq, beq_iff_eq, Bool.and_eq_true, Bool.or_eq_true, Bool.or_eq_false_iff, Bool.and_eq_false_iff, decide_eq_true_eq, decide_eq_false_iff_not, bne_eq_false_iff_eq, beq_eq_false_iff_ne, Bool.not_eq_true', Bool.not_eq_false'] at *; omega)
  · rw [if_neg ht] at hW
    have ht5 : 0 ≤ t ∧ t ≤ 5000 := by omega
    repeat' (first | (refine Exists.intro p (And.intro hp (And.intro hV (And.intro ht5 ?_))); cbv) | (split <;> cbv))
    all_goals first | (refine leaf h ?_ rfl; rw [hW]; subst hS3; rfl) | skip
    all_goals (exfalso; subst hA hS; clear hp; simp only [std, stS, iLt, iLe, iEq, iNe, iLen, wiS, ouS, bne_iff_ne, ne_eq, beq_iff_eq, Bool.and_eq_true, Bool.or_eq_true, Bool.or_eq_false_iff, Bool.and_eq_false_iff, decide_eq_true_eq, decide_eq_false_iff_not, bne_eq_false_iff_eq, beq_eq_false_iff_ne, Bool.not_eq_true', Bool.not_eq_false'] at *; omega)
theorem p93 (p : Plate) {a b : Int} {xs ec : List AV} {ne ed gr lo hi sh wi : Int} (hp : PlateIs p a b xs ec ne ed gr lo hi sh wi) (h1 : Big p.shares) (h2 : Big p.creep) (u v n : Int) (H : AHeap) {Kk : AV → AHeap → Prop} (h : Kk (I (waterS p u v n)) H) :
    ACalls Try.prog 93 [plV a b (.vs 2 xs) (.vs 2 ec) ne ed gr lo hi sh wi, .agg [I u, I v], I n] H Kk := by
  refine (fun q => pureC (by rfl) (by rfl) q H h) ?_
  clear h
  intro Kk h
  obtain ⟨A, hA⟩ : ∃ A, A = std := ⟨_, rfl⟩
  obtain ⟨S, hS⟩ : ∃ S, S = stS := ⟨_, rfl⟩
  obtain ⟨W, hW⟩ : ∃ W, W = waterS p u v n := ⟨_, rfl⟩
  rw [← hW] at h
  refine go93 rfl (SGo_run hA ⟨[], [], tb3 S, []⟩ (tb3_ok hS) .nil 200 fun T TD hT hTD => ?_)
  clear hT hTD
  cbv
  refine Exists.intro p (And.intro hp (And.intro h1 (And.intro h2 ?_)))
  cbv
  repeat' (split <;> cbv)
  all_goals
    refine leaf h (congrArg I ?_) rfl
    clear h
    subst hA hS hW
    clear hp
    simp only [std, stS, iLt, iLe, iEq, iNe, iLen, wiS, ouS, bne_iff_ne, ne_eq, beq_iff_eq, Bool.and_eq_true, Bool.or_eq_true, Bool.or_eq_false_iff, Bool.and_eq_false_iff, decide_eq_true_eq, decide_eq_false_iff_not, bne_eq_false_iff_eq, beq_eq_false_iff_ne, Bool.not_eq_true', Bool.not_eq_false'] at *
    simp only [waterS]
    repeat' split
    all_goals first | omega | rfl
theorem p97 (p : Plate) {a b : Int} {xs ec : List AV} {ne ed gr lo hi sh wi : Int} (hp : PlateIs p a b xs ec ne ed gr lo hi sh wi) (h1 : Big p.shares) (h2 : Big p.creep) (u v n : Int) (H : AHeap) {Kk : AV → AHeap → Prop} (h : Kk (I (waterS p u v n)) H) :
    ACalls Try.prog 97 [plV a b (.vs 2 xs) (.vs 2 ec) ne ed gr lo hi sh wi, .agg [I u, I v], I n] H Kk := by
  refine (fun q => pureC (by rfl) (by rfl) q H h) ?_
  clear h
  intro Kk h
  obtain ⟨A, hA⟩ : ∃ A, A = std := ⟨_, rfl⟩
  obtain ⟨S, hS⟩ : ∃ S, S = stS := ⟨_, rfl⟩
  obtain ⟨W, hW⟩ : ∃ W, W = waterS p u v n := ⟨_, rfl⟩
  rw [← hW] at h
  refine go97 rfl (SGo_run hA ⟨[], [], tb3 S, []⟩ (tb3_ok hS) .nil 200 fun T TD hT hTD => ?_)
  clear hT hTD
  cbv
  refine Exists.intro p (And.intro hp (And.intro h1 (And.intro h2 ?_)))
  cbv
  repeat' (split <;> cbv)
  all_goals
    refine leaf h (congrArg I ?_) rfl
    clear h
    subst hA hS hW
    clear hp
    simp only [std, stS, iLt, iLe, iEq, iNe, iLen, wiS, ouS, bne_iff_ne, ne_eq, beq_iff_eq, Bool.and_eq_true, Bool.or_eq_true, Bool.or_eq_false_iff, Bool.and_eq_false_iff, decide_eq_true_eq, decide_eq_false_iff_not, bne_eq_false_iff_eq, beq_eq_false_iff_ne, Bool.not_eq_true', Bool.not_eq_false'] at *
    simp only [waterS]
    repeat' split
    all_goals first | omega | rfl
end Go.Sas
namespace Go.Sas
open Go.Proofs
set_option maxRecDepth 100000
theorem p95 (p : Plate) {a b : Int} {xs ec : List AV} {ne ed gr lo hi sh wi : Int} (hp : PlateIs p a b xs ec ne ed gr lo hi sh wi) (hV : PlateV p) (n : Int) (H : AHeap) {Kk : AV → AHeap → Prop} (h : Kk (.agg [I gr, I (bandS p n).1, I (bandS p n).2]) H) :
    ACalls Try.prog 95 [plV a b (.vs 2 xs) (.vs 2 ec) ne ed gr lo hi sh wi, I n] H Kk := by
  refine (fun q => pureC (by rfl) (by rfl) q H h) ?_
  clear h
  intro Kk h
  obtain ⟨A, hA⟩ : ∃ A, A = std := ⟨_, rfl⟩
  obtain ⟨W, hW⟩ : ∃ W, W = bandS p n := ⟨_, rfl⟩
  rw [← hW] at h
  refine go95 rfl (SGo_run hA ⟨[], [2], [], []⟩ .nil .nil 200 fun T TD hT hTD => ?_)
  clear hT hTD
  cbv
  have h1 := hV.l1
  have h2 := hV.l2
  have h3 := hV.l3
  have h4 := hV.w1
  have h5 := hV.w2
  rw [hp.lo] at h1 h2
  rw [hp.hi] at h2 h3
  rw [hp.wi] at h4 h5
  rw [bandS, hp.sh, hp.lo, hp.hi, hp.wi] at hW
  clear hp hV
  obtain ⟨e1, l1, u1⟩ := mulB (a := lo) (b := 1000000 - wi) (A := 4000000) (B := 1000000) (by omega) (by omega) (by omega)
  obtain ⟨e2, l2, u2⟩ := mulB (a := hi) (b := 1000000 + wi) (A := 4000000) (B := 2000000) (by omega) (by omega) (by omega)
  have q1 : iSub .i64 1000000 wi = 1000000 - wi := iSub_id (by omega) (by omega)
  have q2 : iAdd .i64 1000000 wi = 1000000 + wi := iAdd_id (by omega) (by omega)
  have q3 : iAdd .i64 (hi * (1000000 + wi)) 1000000 = hi * (1000000 + wi) + 1000000 := iAdd_id (by omega) (by omega)
  have q4 : iSub .i64 (hi * (1000000 + wi) + 1000000) 1 = hi * (1000000 + wi) + 1000000 - 1 := iSub_id (by omega) (by omega)
  split <;> cbv
  all_goals rename_i hq
  all_goals try (refine And.intro (by subst hA; simp [std, Keep, SubH, ResK]) ?_; cbv)
  all_goals try (refine And.intro (by subst hA; simp [std, Keep, SubH, ResK]) ?_; cbv)
  all_goals
    refine leaf h ?_ rfl
    subst hA
    simp only [std, iLt, iLe, decide_eq_true_eq, decide_eq_false_iff_not] at hq
    try simp only [std, q1, q2, e1, e2, q3, q4]
    try rw [iQuo_id l1 (by omega) (by omega), iQuo_id (by omega) (by omega) (by omega)]
    rw [hW]
    first | rw [if_pos (by omega)] | rw [if_neg (by omega)]
    first | rfl | (rw [show hi * (1000000 + wi) + 1000000 - 1 = hi * (1000000 + wi) + 999999 by omega]; rfl)
theorem p157 (p : Plate) {a b : Int} {xs ec : List AV} {ne ed gr lo hi sh wi : Int} (hp : PlateIs p a b xs ec ne ed gr lo hi sh wi) (hV : PlateV p) (n : Int) (H : AHeap) {Kk : AV → AHeap → Prop} (h : Kk (.tup [I (bandS p n).1, I (bandS p n).2]) H) :
    ACalls Try.prog 157 [plV a b (.vs 2 xs) (.vs 2 ec) ne ed gr lo hi sh wi, I n] H Kk := by
  refine (fun q => pureC (by rfl) (by rfl) q H h) ?_
  clear h
  intro Kk h
  obtain ⟨A, hA⟩ : ∃ A, A = std := ⟨_, rfl⟩
  obtain ⟨W, hW⟩ : ∃ W, W = bandS p n := ⟨_, rfl⟩
  rw [← hW] at h
  refine go157 rfl (SGo_run hA ⟨[], [], [], []⟩ .nil .nil 200 fun T TD hT hTD => ?_)
  clear hT hTD
  cbv
  have h1 := hV.l1
  have h2 := hV.l2
  have h3 := hV.l3
  have h4 := hV.w1
  have h5 := hV.w2
  rw [hp.lo] at h1 h2
  rw [hp.hi] at h2 h3
  rw [hp.wi] at h4 h5
  rw [bandS, hp.sh, hp.lo, hp.hi, hp.wi] at hW
  clear hp hV
  obtain ⟨e1, l1, u1⟩ := mulB (a := lo) (b := 1000000 - wi) (A := 4000000) (B := 1000000) (by omega) (by omega) (by omega)
  obtain ⟨e2, l2, u2⟩ := mulB (a := hi) (b := 1000000 + wi) (A := 4000000) (B := 2000000) (by omega) (by omega) (by omega)
  have q1 : iSub .i64 1000000 wi = 1000000 - wi := iSub_id (by omega) (by omega)
  have q2 : iAdd .i64 1000000 wi = 1000000 + wi := iAdd_id (by omega) (by omega)
  have q3 : iAdd .i64 (hi * (1000000 + wi)) 1000000 = hi * (1000000 + wi) + 1000000 := iAdd_id (by omega) (by omega)
  have q4 : iSub .i64 (hi * (1000000 + wi) + 1000000) 1 = hi * (1000000 + wi) + 1000000 - 1 := iSub_id (by omega) (by omega)
  split <;> cbv
  all_goals rename_i hq
  all_goals try (refine And.intro (by subst hA; simp [std, Keep, SubH, ResK]) ?_; cbv)
  all_goals try (refine And.intro (by subst hA; simp [std, Keep, SubH, ResK]) ?_; cbv)
  all_goals
    refine leaf h ?_ rfl
    subst hA
    simp only [std, iLt, iLe, decide_eq_true_eq, decide_eq_false_iff_not] at hq
    try simp only [std, q1, q2, e1, e2, q3, q4]
    try rw [iQuo_id l1 (by omega) (by omega), iQuo_id (by omega) (by omega) (by omega)]
    rw [hW]
    first | rw [if_pos (by omega)] | rw [if_neg (by omega)]
    first | rfl | (rw [show hi * (1000000 + wi) + 1000000 - 1 = hi * (1000000 + wi) + 999999 by omega]; rfl)
theorem p136 (g lo hi v d : Int) (hw : WaveV g lo hi v) (hd : 0 ≤ d ∧ d ≤ 10000) (H : AHeap) {Kk : AV → AHeap → Prop} (h : Kk (B (critS g lo hi v d)) H) : ACalls Try.prog 136 [.agg [I g, I lo, I hi], I v, I d] H Kk := by
  obtain ⟨hg, hlo, hhi, hv⟩ := hw
  refine (fun q => pureC (by rfl) (by rfl) q H h) ?_
  clear h
  intro Kk h
  obtain ⟨A, hA⟩ : ∃ A, A = std := ⟨_, rfl⟩
  obtain ⟨W, hW⟩ : ∃ W, W = critS g lo hi v d := ⟨_, rfl⟩
  rw [← hW] at h
  refine go136 rfl (SGo_run hA ⟨[], [], [], []⟩ .nil .nil 200 fun T TD hT hTD => ?_)
  clear hT hTD
  cbv
  obtain ⟨e1, l1, u1⟩ := mulB hg hd (by omega)
  obtain ⟨e2, l2, u2⟩ := mulB hlo ⟨l1, u1⟩ (by omega)
  obtain ⟨e3, l3, u3⟩ := mulB hhi ⟨l1, u1⟩ (by omega)
  obtain ⟨e4, l4, u4⟩ := mulB hv hv (by omega)
  have e5 : iMul .i64 (v * v) 1000000 = v * v * 1000000 := iMul_id (by omega) (by omega)
  split <;> cbv
  all_goals
    refine leaf h (congrArg B (Bool.eq_iff_iff.2 ?_)) rfl
    rw [hW, critS]
    subst hA
    simp only [std, iLe, e1, e2, e3, e4, e5, decide_eq_true_eq, decide_eq_false_iff_not] at *
    try simp only [Bool.false_eq_true, iff_false, iff_true]
    omega
theorem eBand_ok {S : Sp3} (hS : S = st3) : ∀ args pt, eBand S args = some pt → ∀ (H : AHeap) (Kk : AV → AHeap → Prop), pt (fun r => Kk r H) → ACalls Try.prog 157 args H Kk := by
  intro args pt h H Kk hk
  subst hS
  unfold eBand at h
  split at h
  · split at h
    · rename_i x hy
      cases h
      obtain ⟨p, h1, h2, h3⟩ := hk
      obtain ⟨a, b, xs, ec, ne, ed, gr, lo, hi, sh, wi⟩ := x
      exact (p157 p h1 h2 _ H h3).wk ⟨asPl_wk hy, Wk.rfl, trivial⟩
    · cases h
  · cases h
theorem eWaves_ok {S : Sp3} (hS : S = st3) : ∀ args pt, eWaves S args = some pt → ∀ (H : AHeap) (Kk : AV → AHeap → Prop), pt (fun r => Kk r H) → ACalls Try.prog 95 args H Kk := by
  intro args pt h H Kk hk
  subst hS
  unfold eWaves at h
  split at h
  · split at h
    · rename_i x hy
      cases h
      obtain ⟨p, h1, h2, h3⟩ := hk
      obtain ⟨a, b, xs, ec, ne, ed, gr, lo, hi, sh, wi⟩ := x
      exact (p95 p h1 h2 _ H h3).wk ⟨asPl_wk hy, Wk.rfl, trivial⟩
    · cases h
  · cases h
theorem eCrit_ok {S : Sp3} (hS : S = st3) : ∀ args pt, eCrit S args = some pt → ∀ (H : AHeap) (Kk : AV → AHeap → Prop), pt (fun r => Kk r H) → ACalls Try.prog 136 args H Kk := by
  intro args pt h H Kk hk
  subst hS
  unfold eCrit at h
  split at h
  · cases h
    obtain ⟨_, h1, h2, h3⟩ := hk
    exact p136 _ _ _ _ _ h1 h2 H h3
  · cases h
theorem p137 (p : Plate) {a b : Int} {xs ec : List AV} {ne ed gr lo hi sh wi : Int} (hp : PlateIs p a b xs ec ne ed gr lo hi sh wi) (hV : PlateV p) (n v d : Int) (hv : 0 ≤ v ∧ v ≤ 1000) (hd : 0 ≤ d ∧ d ≤ 10000) (H : AHeap) {Kk : AV → AHeap → Prop} (h : Kk (B (critS p.grav (bandS p n).1 (bandS p n).2 v d)) H) :
    ACalls Try.prog 137 [plV a b (.vs 2 xs) (.vs 2 ec) ne ed gr lo hi sh wi, I d, I n, I v] H Kk := by
  refine (fun q => pureC (by rfl) (by rfl) q H h) ?_
  clear h
  intro Kk h
  obtain ⟨A, hA⟩ : ∃ A, A = std := ⟨_, rfl⟩
  obtain ⟨S3, hS3⟩ : ∃ S, S = st3 := ⟨_, rfl⟩
  obtain ⟨W, hW⟩ : ∃ W, W = critS p.grav (bandS p n).1 (bandS p n).2 v d := ⟨_, rfl⟩
  rw [← hW] at h
  refine go137 rfl (SGo_run hA ⟨[], [], [(157, eBand S3)], []⟩ (.cons (eBand_ok hS3) .nil) .nil 200 fun T TD hT hTD => ?_)
  clear hT hTD
  cbv
  refine Exists.intro p (And.intro hp (And.intro hV ?_))
  cbv
  have hb := bandS_bnd hV n
  have hg : 0 ≤ gr ∧ gr ≤ 1000 := by have h1 := hV.g1; have h2 := hV.g2; rw [hp.gr] at h1 h2; omega
  rw [hp.gr] at hW
  obtain ⟨e1, l1, u1⟩ := mulB (a := (bandS p n).1) (A := 4000000) ⟨hb.1, hb.2.1⟩ hg (by omega)
  obtain ⟨e2, l2, u2⟩ := mulB ⟨l1, u1⟩ hd (by omega)
  obtain ⟨e3, l3, u3⟩ := mulB (a := (bandS p n).2) (A := 8000001) ⟨hb.2.2.1, hb.2.2.2⟩ hg (by omega)
  obtain ⟨e6, l6, u6⟩ := mulB ⟨l3, u3⟩ hd (by omega)
  obtain ⟨e4, l4, u4⟩ := mulB hv hv (by omega)
  have e5 : iMul .i64 (v * v) 1000000 = v * v * 1000000 := iMul_id (by omega) (by omega)
  have a1 : (bandS p n).1 * gr * d = (bandS p n).1 * (gr * d) := Int.mul_assoc _ _ _
  have a2 : (bandS p n).2 * gr * d = (bandS p n).2 * (gr * d) := Int.mul_assoc _ _ _
  split <;> cbv
  all_goals
    refine leaf h (congrArg B (Bool.eq_iff_iff.2 ?_)) rfl
    rw [hW, critS]
    clear h hp
    subst hA hS3
    simp only [std, st3, iLe, e1, e2, e3, e4, e5, e6, decide_eq_true_eq, decide_eq_false_iff_not] at *
    try simp only [Bool.false_eq_true, iff_false, iff_true]
    omega
theorem eCrit2_ok {S : Sp3} (hS : S = st3) : ∀ args pt, eCrit2 S args = some pt → ∀ (H : AHeap) (Kk : AV → AHeap → Prop), pt (fun r => Kk r H) → ACalls Try.prog 137 args H Kk := by
  intro args pt h H Kk hk
  subst hS
  unfold eCrit2 at h
  split at h
  · split at h
    · rename_i x hy
      cases h
      obtain ⟨p, h1, h2, h3, h4, h5⟩ := hk
      obtain ⟨a, b, xs, ec, ne, ed, gr, lo, hi, sh, wi⟩ := x
      exact (p137 p h1 h2 _ _ _ h3 h4 H h5).wk ⟨asPl_wk hy, Wk.rfl, Wk.rfl, Wk.rfl, trivial⟩
    · cases h
  · cases h
theorem p96 (g lo hi v a b : Int) (hw : WaveV g lo hi v) (hab : 0 ≤ a ∧ a ≤ b ∧ b ≤ 10000) (H : AHeap) {Kk : AV → AHeap → Prop} (h : Kk (I (wverS g lo hi v a b)) H) : ACalls Try.prog 96 [.agg [I g, I lo, I hi], I v, .agg [I a, I b]] H Kk := by
  refine (fun q => pureC (by rfl) (by rfl) q H h) ?_
  clear h
  intro Kk h
  obtain ⟨A, hA⟩ : ∃ A, A = std := ⟨_, rfl⟩
  obtain ⟨S3, hS3⟩ : ∃ S, S = st3 := ⟨_, rfl⟩
  obtain ⟨W, hW⟩ : ∃ W, W = wverS g lo hi v a b := ⟨_, rfl⟩
  rw [← hW] at h
  have hcr : ∀ d, S3.crit g lo hi v d = critS g lo hi v d := by subst hS3; exact fun _ => rfl
  refine go96 rfl (SGo_run hA ⟨[], [], [(136, eCrit S3)], []⟩ (.cons (eCrit_ok hS3) .nil) .nil 200 fun T TD hT hTD => ?_)
  cbv
  rw [hT]
  refine AGo_upS (b - a + 1).toNat (fun j (s : Int) => s = cntS g lo hi v a j) (fun _ s i => [(0, .agg [I g, I lo, I hi]), (1, I v), (2, .agg [I a, I b]), (3, .mp 0 0 0), (5, .mp 1 0 0), (6, I 0), (7, I s), (8, I (a + i))]) (fun _ _ => [.own 0 [I g, I lo, I hi], .own 0 [I a, I b]]) 0 rfl ⟨rfl, rfl, rfl, rfl, rfl, rfl, rfl, congrArg I (show a = a + iLen 0 by simp [iLen]), trivial⟩ (.inl rfl) fun j s i hi' hj hP Bk hB => ?_
  have hle : A.le (a + i) b = decide (j < (b - a + 1).toNat) := by subst hA hi'; show decide (a + (j : Int) ≤ b) = _; rw [decide_eq_decide]; omega
  have hda : A.add .i64 (a + i) 1 = a + iLen (j + 1) := by subst hA hi'; show iAdd .i64 (a + (j : Int)) 1 = a + ((j + 1 : Nat) : Int); rw [iAdd_id] <;> omega
  have hdi : i = (j : Int) := hi'
  have hd0 : 0 ≤ a + i := by omega
  have hdd : a + i = a + (j : Int) := by omega
  obtain ⟨d, hd⟩ : ∃ d, d = a + i := ⟨_, rfl⟩
  rw [← hd] at hle hda hd0 hdd
  rw [← hd]
  have hcb := cntS_bnd (g := g) (lo := lo) (hi := hi) (v := v) (a := a) (n := j)
  rw [← hP] at hcb
  have hsa : A.add .i64 s 1 = s + 1 := by subst hA; exact iAdd_id (by omega) (by omega)
  have hba : A.add .i64 (A.sub .i64 b a) 1 = b - a + 1 := by subst hA; simp only [std]; rw [iSub_id (by omega) (by omega), iAdd_id (by omega) (by omega)]
  have hdm : j < (b - a + 1).toNat → d ≤ 10000 := by omega
  have hend : ¬ j < (b - a + 1).toNat → s = cntS g lo hi v a (b - a + 1).toNat := fun hq => by rw [hP]; congr 1; omega
  refine SGo_run hA ⟨[], [], [(136, eCrit S3)], []⟩ (.cons (eCrit_ok hS3) .nil) .nil 200 fun T TD hT hTD => ?_
  cbv
  split <;> cbv
  · rename_i hk1
    have hk1 : j < (b - a + 1).toNat := by have := hle.symm.trans hk1; simpa using this
    have hd1 := hdm hk1
    (refine Exists.intro () (And.intro hw (And.intro ⟨hd0, hd1⟩ ?_)); cbv)
    split <;> cbv
    · rename_i hq
      refine hB (s + 1) _ _ hk1 ?_ ⟨rfl, rfl, rfl, rfl, rfl, rfl, congrArg I hsa, congrArg I hda, trivial⟩ (.inl rfl)
      rw [cntS, ← hP, ← hdd, ← hcr, if_pos hq]
    · rename_i hq
      refine hB s _ _ hk1 ?_ ⟨rfl, rfl, rfl, rfl, rfl, rfl, rfl, congrArg I hda, trivial⟩ (.inl rfl)
      rw [cntS, ← hP, ← hdd, ← hcr, if_neg (by rw [Bool.not_eq_true]; exact hq)]; omega
  · rename_i hk1
    have hk1 : ¬ j < (b - a + 1).toNat := by have := hle.symm.trans hk1; simpa using this
    have hs := hend hk1
    rw [wverS, ← hs, ← hba] at hW
    repeat' (split <;> cbv)
    all_goals
      refine leaf h (congrArg I ?_) rfl
      rw [hW]
      clear h hs hP hcb hend hB hcr hW hda hsa hle
      subst hA
      simp only [std, iEq, beq_iff_eq, beq_eq_false_iff_ne, ne_eq] at *
      repeat' split
      all_goals omega
theorem p99 (p : Plate) {a' b' : Int} {xs ec : List AV} {ne ed gr lo' hi'' sh wi : Int} (hp : PlateIs p a' b' xs ec ne ed gr lo' hi'' sh wi) (hV : PlateV p) (n v a b : Int) (hv : 0 ≤ v ∧ v ≤ 1000) (hab : 0 ≤ a ∧ a ≤ b ∧ b ≤ 10000) (H : AHeap) {Kk : AV → AHeap → Prop} (h : Kk (I (wverS p.grav (bandS p n).1 (bandS p n).2 v a b)) H) :
    ACalls Try.prog 99 [plV a' b' (.vs 2 xs) (.vs 2 ec) ne ed gr lo' hi'' sh wi, .agg [I a, I b], I n, I v] H Kk := by
  refine (fun q => pureC (by rfl) (by rfl) q H h) ?_
  clear h
  intro Kk h
  obtain ⟨A, hA⟩ : ∃ A, A = std := ⟨_, rfl⟩
  obtain ⟨S3, hS3⟩ : ∃ S, S = st3 := ⟨_, rfl⟩
  obtain ⟨g, hg⟩ : ∃ g, g = p.grav := ⟨_, rfl⟩
  obtain ⟨lo, hlo⟩ : ∃ g, g = (bandS p n).1 := ⟨_, rfl⟩
  obtain ⟨hi, hhi⟩ : ∃ g, g = (bandS p n).2 := ⟨_, rfl⟩
  rw [← hg, ← hlo, ← hhi] at h
  obtain ⟨W, hW⟩ : ∃ W, W = wverS g lo hi v a b := ⟨_, rfl⟩
  rw [← hW] at h
  have hcr : ∀ d, S3.crit p.grav (S3.band p n).1 (S3.band p n).2 v d = critS g lo hi v d := by subst hS3 hg hlo hhi; exact fun _ => rfl
  refine go99 rfl (SGo_run hA ⟨[], [], [(137, eCrit2 S3)], []⟩ (.cons (eCrit2_ok hS3) .nil) .nil 200 fun T TD hT hTD => ?_)
  cbv
  rw [hT]
  refine AGo_upS (b - a + 1).toNat (fun j (s : Int) => s = cntS g lo hi v a j) (fun _ s i => [(0, plV a' b' (.vs 2 xs) (.vs 2 ec) ne ed gr lo' hi'' sh wi), (1, .agg [I a, I b]), (2, I n), (3, I v), (4, .mp 0 0 0), (5, .mp 1 0 0), (8, I 0), (9, I s), (10, I (a + i))]) (fun _ _ => [.own 0 [I a', I b', .vs 2 xs, .vs 2 ec, I ne, I ed, I gr, I lo', I hi'', I sh, I wi], .own 0 [I a, I b]]) 0 rfl ⟨rfl, rfl, rfl, rfl, rfl, rfl, rfl, rfl, congrArg I (show a = a + iLen 0 by simp [iLen]), trivial⟩ (.inl rfl) fun j s i hi' hj hP Bk hB => ?_
  have hle : A.le (a + i) b = decide (j < (b - a + 1).toNat) := by subst hA hi'; show decide (a + (j : Int) ≤ b) = _; rw [decide_eq_decide]; omega
  have hda : A.add .i64 (a + i) 1 = a + iLen (j + 1) := by subst hA hi'; show iAdd .i64 (a + (j : Int)) 1 = a + ((j + 1 : Nat) : Int); rw [iAdd_id] <;> omega
  have hdi : i = (j : Int) := hi'
  have hd0 : 0 ≤ a + i := by omega
  have hdd : a + i = a + (j : Int) := by omega
  obtain ⟨d, hd⟩ : ∃ d, d = a + i := ⟨_, rfl⟩
  rw [← hd] at hle hda hd0 hdd
  rw [← hd]
  have hcb := cntS_bnd (g := g) (lo := lo) (hi := hi) (v := v) (a := a) (n := j)
  rw [← hP] at hcb
  have hsa : A.add .i64 s 1 = s + 1 := by subst hA; exact iAdd_id (by omega) (by omega)
  have hba : A.add .i64 (A.sub .i64 b a) 1 = b - a + 1 := by subst hA; simp only [std]; rw [iSub_id (by omega) (by omega), iAdd_id (by omega) (by omega)]
  have hdm : j < (b - a + 1).toNat → d ≤ 10000 := by omega
  have hend : ¬ j < (b - a + 1).toNat → s = cntS g lo hi v a (b - a + 1).toNat := fun hq => by rw [hP]; congr 1; omega
  refine SGo_run hA ⟨[], [], [(137, eCrit2 S3)], []⟩ (.cons (eCrit2_ok hS3) .nil) .nil 200 fun T TD hT hTD => ?_
  cbv
  split <;> cbv
  · rename_i hk1
    have hk1 : j < (b - a + 1).toNat := by have := hle.symm.trans hk1; simpa using this
    have hd1 := hdm hk1
    (refine Exists.intro p (And.intro hp (And.intro hV (And.intro hv (And.intro ⟨hd0, hd1⟩ ?_)))); cbv)
    split <;> cbv
    · rename_i hq
      refine hB (s + 1) _ _ hk1 ?_ ⟨rfl, rfl, rfl, rfl, rfl, rfl, rfl, congrArg I hsa, congrArg I hda, trivial⟩ (.inl rfl)
      rw [cntS, ← hP, ← hdd, ← hcr, if_pos hq]
    · rename_i hq
      refine hB s _ _ hk1 ?_ ⟨rfl, rfl, rfl, rfl, rfl, rfl, rfl, rfl, congrArg I hda, trivial⟩ (.inl rfl)
      rw [cntS, ← hP, ← hdd, ← hcr, if_neg (by rw [Bool.not_eq_true]; exact hq)]; omega
  · rename_i hk1
    have hk1 : ¬ j < (b - a + 1).toNat := by have := hle.symm.trans hk1; simpa using this
    have hs := hend hk1
    rw [wverS, ← hs, ← hba] at hW
    repeat' (split <;> cbv)
    all_goals
      refine leaf h (congrArg I ?_) rfl
      rw [hW]
      clear h hs hP hcb hend hB hcr hW hda hsa hle
      subst hA
      simp only [std, iEq, beq_iff_eq, beq_eq_false_iff_ne, ne_eq] at *
      repeat' split
      all_goals omega
end Go.Sas
namespace Go.Sas
open Go.Proofs
set_option maxRecDepth 100000
theorem eWater_ok {f : Nat} (hf : ∀ (p : Plate) {a b : Int} {xs ec : List AV} {ne ed gr lo hi sh wi : Int}, PlateIs p a b xs ec ne ed gr lo hi sh wi → Big p.shares → Big p.creep → ∀ (u v n : Int) (H : AHeap) {Kk : AV → AHeap → Prop}, Kk (I (waterS p u v n)) H →
    ACalls Try.prog f [plV a b (.vs 2 xs) (.vs 2 ec) ne ed gr lo hi sh wi, .agg [I u, I v], I n] H Kk) {S : Sp3} (hS : S = st3) : ∀ args pt, eWater S args = some pt → ∀ (H : AHeap) (Kk : AV → AHeap → Prop), pt (fun r => Kk r H) → ACalls Try.prog f args H Kk := by
  intro args pt h H Kk hk
  subst hS
  unfold eWater at h
  split at h
  · split at h
    · rename_i x hy
      cases h
      obtain ⟨p, h1, h2, h3, h4⟩ := hk
      obtain ⟨a, b, xs, ec, ne, ed, gr, lo, hi, sh, wi⟩ := x
      exact (hf p h1 h2 h3 _ _ _ H h4).wk ⟨asPl_wk hy, Wk.rfl, Wk.rfl, trivial⟩
    · cases h
  · cases h
theorem eWver_ok {S : Sp3} (hS : S = st3) : ∀ args pt, eWver S args = some pt → ∀ (H : AHeap) (Kk : AV → AHeap → Prop), pt (fun r => Kk r H) → ACalls Try.prog 96 args H Kk := by
  intro args pt h H Kk hk
  subst hS
  unfold eWver at h
  split at h
  · cases h
    obtain ⟨_, h1, h2, h3⟩ := hk
    exact p96 _ _ _ _ _ _ h1 h2 H h3
  · cases h
theorem eWver2_ok {S : Sp3} (hS : S = st3) : ∀ args pt, eWver2 S args = some pt → ∀ (H : AHeap) (Kk : AV → AHeap → Prop), pt (fun r => Kk r H) → ACalls Try.prog 99 args H Kk := by
  intro args pt h H Kk hk
  subst hS
  unfold eWver2 at h
  split at h
  · split at h
    · rename_i x hy
      cases h
      obtain ⟨p, h1, h2, h3, h4, h5⟩ := hk
      obtain ⟨a, b, xs, ec, ne, ed, gr, lo, hi, sh, wi⟩ := x
      exact (p99 p h1 h2 _ _ _ _ h3 h4 H h5).wk ⟨asPl_wk hy, Wk.rfl, Wk.rfl, Wk.rfl, trivial⟩
    · cases h
  · cases h
theorem p46 (p : Plate) {a b : Int} {xs ec : List AV} {ne ed gr lo hi sh wi : Int} (hp : PlateIs p a b xs ec ne ed gr lo hi sh wi) (h1 : Big p.shares) (h2 : Big p.creep) (u v n w : Int) (H : AHeap) {Kk : AV → AHeap → Prop} (h : Kk (.tup [I (speedS p u v n w).1, I (speedS p u v n w).2]) H) :
    ACalls Try.prog 46 [plV a b (.vs 2 xs) (.vs 2 ec) ne ed gr lo hi sh wi, .agg [I u, I v], I n, I w] H Kk := by
  refine (fun q => pureC (by rfl) (by rfl) q H h) ?_
  clear h
  intro Kk h
  obtain ⟨A, hA⟩ : ∃ A, A = std := ⟨_, rfl⟩
  obtain ⟨S, hS⟩ : ∃ S, S = stS := ⟨_, rfl⟩
  obtain ⟨S3, hS3⟩ : ∃ S, S = st3 := ⟨_, rfl⟩
  obtain ⟨W, hW⟩ : ∃ W, W = speedS p u v n w := ⟨_, rfl⟩
  rw [← hW] at h
  refine go46 rfl (SGo_run hA ⟨[], [], (93, eWater S3) :: (95, eWaves S3) :: (96, eWver S3) :: tb3 S, []⟩ (.cons (eWater_ok p93 hS3) (.cons (eWaves_ok hS3) (.cons (eWver_ok hS3) (tb3_ok hS)))) .nil 200 fun T TD hT hTD => ?_)
  clear hT hTD
  cbv
  refine Exists.intro p (And.intro hp (And.intro h1 (And.intro h2 ?_)))
  cbv
  have e1 : S3.water p u v n = waterS p u v n := by subst hS3; rfl
  split <;> cbv
  · rename_i hq
    have hq : A.ne (S3.water p u v n) 0 = true := hq
    refine leaf h ?_ rfl
    rw [e1] at hq
    subst hA
    simp only [std, stS, iLt, iLe, iEq, iNe, iLen, wiS, ouS, bne_iff_ne, ne_eq, beq_iff_eq, Bool.and_eq_true, Bool.or_eq_true, Bool.or_eq_false_iff, Bool.and_eq_false_iff, decide_eq_true_eq, decide_eq_false_iff_not, bne_eq_false_iff_eq, beq_eq_false_iff_ne, Bool.not_eq_true', Bool.not_eq_false'] at *
    rw [hW, speedS, if_pos hq, ← e1]; rfl
  rename_i hq
  have hq : A.ne (S3.water p u v n) 0 = false := hq
  rw [e1] at hq
  have hq : waterS p u v n = 0 := by subst hA; simpa [std, iNe] using hq
  obtain ⟨hV, hd, hn1, hn2⟩ := waterS_ok hq
  rw [speedS, if_neg (by simp [hq])] at hW
  have hbn := bandS_bnd hV n
  have hg1 := hV.g1
  have hg2 := hV.g2
  rw [hp.gr] at hg1 hg2
  by_cases ht : w < 0 ∨ 1000 < w
  · rw [if_pos ht] at hW
    split <;> cbv
    · refine leaf h ?_ rfl
      rw [hW]; rfl
    · exfalso
      rename_i hz
      subst hA hS
      clear hp
      simp only [std, stS, wiS, ouS, Bool.not_eq_true', Bool.not_eq_false', decide_eq_true_eq, decide_eq_false_iff_not] at hz
      omega
  · rw [if_neg ht] at hW
    have ht5 : 0 ≤ w ∧ w ≤ 1000 := by omega
    split <;> cbv
    · exfalso
      rename_i hz
      subst hA hS
      clear hp
      simp only [std, stS, wiS, ouS, Bool.not_eq_true', Bool.not_eq_false', decide_eq_true_eq, decide_eq_false_iff_not] at hz
      omega
    · (refine Exists.intro p (And.intro hp (And.intro hV ?_)); cbv; refine Exists.intro () (And.intro (by subst hS3; exact ⟨by omega, by exact ⟨hbn.1, hbn.2.1⟩, ⟨hbn.2.2.1, hbn.2.2.2⟩, ht5⟩) (And.intro hd ?_)); cbv)
      refine leaf h ?_ rfl
      rw [hW]
      subst hS3
      first | rfl | (rw [hp.gr]; rfl)
theorem p47 (p : Plate) {a b : Int} {xs ec : List AV} {ne ed gr lo hi sh wi : Int} (hp : PlateIs p a b xs ec ne ed gr lo hi sh wi) (h1 : Big p.shares) (h2 : Big p.creep) (u v n w : Int) (H : AHeap) {Kk : AV → AHeap → Prop} (h : Kk (.tup [I (speedS p u v n w).1, I (speedS p u v n w).2]) H) :
    ACalls Try.prog 47 [plV a b (.vs 2 xs) (.vs 2 ec) ne ed gr lo hi sh wi, .agg [I u, I v], I n, I w] H Kk := by
  refine (fun q => pureC (by rfl) (by rfl) q H h) ?_
  clear h
  intro Kk h
  obtain ⟨A, hA⟩ : ∃ A, A = std := ⟨_, rfl⟩
  obtain ⟨S, hS⟩ : ∃ S, S = stS := ⟨_, rfl⟩
  obtain ⟨S3, hS3⟩ : ∃ S, S = st3 := ⟨_, rfl⟩
  obtain ⟨W, hW⟩ : ∃ W, W = speedS p u v n w := ⟨_, rfl⟩
  rw [← hW] at h
  refine go47 rfl (SGo_run hA ⟨[], [], (97, eWater S3) :: (99, eWver2 S3) :: tb3 S, []⟩ (.cons (eWater_ok p97 hS3) (.cons (eWver2_ok hS3) (tb3_ok hS))) .nil 200 fun T TD hT hTD => ?_)
  clear hT hTD
  cbv
  refine Exists.intro p (And.intro hp (And.intro h1 (And.intro h2 ?_)))
  cbv
  have e1 : S3.water p u v n = waterS p u v n := by subst hS3; rfl
  split <;> cbv
  · rename_i hq
    have hq : A.ne (S3.water p u v n) 0 = true := hq
    refine leaf h ?_ rfl
    rw [e1] at hq
    subst hA
    simp only [std, stS, iLt, iLe, iEq, iNe, iLen, wiS, ouS, bne_iff_ne, ne_eq, beq_iff_eq, Bool.and_eq_true, Bool.or_eq_true, Bool.or_eq_false_iff, Bool.and_eq_false_iff, decide_eq_true_eq, decide_eq_false_iff_not, bne_eq_false_iff_eq, beq_eq_false_iff_ne, Bool.not_eq_true', Bool.not_eq_false'] at *
    rw [hW, speedS, if_pos hq, ← e1]; rfl
  rename_i hq
  have hq : A.ne (S3.water p u v n) 0 = false := hq
  rw [e1] at hq
  have hq : waterS p u v n = 0 := by subst hA; simpa [std, iNe] using hq
  obtain ⟨hV, hd, hn1, hn2⟩ := waterS_ok hq
  rw [speedS, if_neg (by simp [hq])] at hW
  have hbn := bandS_bnd hV n
  have hg1 := hV.g1
  have hg2 := hV.g2
  rw [hp.gr] at hg1 hg2
  by_cases ht : w < 0 ∨ 1000 < w
  · rw [if_pos ht] at hW
    split <;> cbv
    · refine leaf h ?_ rfl
      rw [hW]; rfl
    · exfalso
      rename_i hz
      subst hA hS
      clear hp
      simp only [std, stS, wiS, ouS, Bool.not_eq_true', Bool.not_eq_false', decide_eq_true_eq, decide_eq_false_iff_not] at hz
      omega
  · rw [if_neg ht] at hW
    have ht5 : 0 ≤ w ∧ w ≤ 1000 := by omega
    split <;> cbv
    · exfalso
      rename_i hz
      subst hA hS
      clear hp
      simp only [std, stS, wiS, ouS, Bool.not_eq_true', Bool.not_eq_false', decide_eq_true_eq, decide_eq_false_iff_not] at hz
      omega
    · (refine Exists.intro p (And.intro hp (And.intro hV (And.intro ht5 (And.intro hd ?_)))); cbv)
      refine leaf h ?_ rfl
      rw [hW]
      subst hS3
      first | rfl | (rw [hp.gr]; rfl)
end Go.Sas
namespace Go.Sas
open Go.Proofs
set_option maxRecDepth 100000
theorem p61 (n : Int) (H : AHeap) {Kk : AV → AHeap → Prop} (h : Kk (.agg [I n, I n]) H) : ACalls Try.prog 61 [I n] H Kk := by
  refine (fun q => pureC (by rfl) (by rfl) q H h) ?_
  clear h
  intro Kk h
  obtain ⟨A, hA⟩ : ∃ A, A = std := ⟨_, rfl⟩
  have h51 : PTabOk Try.prog [(51, fun args => match args with | [.lit (.int .i64 a), .lit (.int .i64 b)] => some fun K => K (.agg [I a, I b]) | _ => none)] := by
    refine .cons (fun args pt hp H Kk hk => ?_) .nil
    split at hp
    · cases hp
      refine pureC (by rfl) (by rfl) (fun Kk h => ?_) H hk
      refine go51 rfl (SGo_run hA ⟨[], [], [], []⟩ .nil .nil 200 fun T TD hT hTD => ?_)
      cbv
      exact h
    · cases hp
  refine go61 rfl (SGo_run hA ⟨[], [], _, []⟩ h51 .nil 200 fun T TD hT hTD => ?_)
  cbv
  exact h
theorem p27 (l l' : List Int) (hl : l.length ≤ 9223372036854775807) (hl' : l'.length ≤ 9223372036854775807) (H : AHeap) {Kk : AV → AHeap → Prop} (h : Kk (B (decide (l = l'))) H) : ACalls Try.prog 27 [.vs 1 (l.map I), .vs 1 (l'.map I)] H Kk := by
  refine (fun q => pureC (by rfl) (by rfl) q H h) ?_
  clear h
  intro Kk h
  obtain ⟨A, hA⟩ : ∃ A, A = std := ⟨_, rfl⟩
  obtain ⟨xs, hxs⟩ : ∃ xs, xs = l.map I := ⟨_, rfl⟩
  obtain ⟨ys, hys⟩ : ∃ xs, xs = l'.map I := ⟨_, rfl⟩
  rw [← hxs, ← hys]
  obtain ⟨W, hW⟩ : ∃ W, W = decide (l = l') := ⟨_, rfl⟩
  rw [← hW] at h
  have hn : A.ne (A.vlen xs) (A.vlen ys) = decide (l.length ≠ l'.length) := by
    subst hA hxs hys
    show (((l.map I).length : Int) != ((l'.map I).length : Int)) = _
    rw [Bool.eq_iff_iff]; simp only [List.length_map, bne_iff_ne, ne_eq, decide_eq_true_eq]; omega
  refine go27 rfl (SGo_run hA ⟨[], [], [], []⟩ .nil .nil 200 fun T TD hT hTD => ?_)
  cbv
  split <;> cbv
  · rename_i hq
    have hq := hn.symm.trans hq
    simp only [ne_eq, decide_eq_true_eq] at hq
    refine leaf h (congrArg B ?_) rfl
    rw [hW, decide_eq_false_iff_not]
    rintro rfl; exact hq rfl
  rename_i hq
  have hq := hn.symm.trans hq
  simp only [ne_eq, decide_eq_false_iff_not, Decidable.not_not] at hq
  rw [hT]
  refine AGo_up l.length (fun j => W = decide (l.drop j = l'.drop j)) (fun _ i => [(0, .vs 1 xs), (1, .vs 1 ys), (4, B false), (5, I i)]) (fun _ => []) hW ⟨rfl, rfl, rfl, rfl, trivial⟩ (.inl rfl) fun j i hi hj hP Bk hB => ?_
  have hlt : A.lt i (A.vlen xs) = decide (j < l.length) := by subst hA; exact lt_len (by simp [hxs]) hi
  have hadd : ∀ N, j < N → N ≤ 9223372036854775807 → A.add .i64 i 1 = iLen (j + 1) := fun N hj hN => by subst hA; exact add_one hi hj hN
  refine SGo_run hA ⟨[], [], [], []⟩ .nil .nil 200 fun T TD hT hTD => ?_
  cbv
  split <;> cbv
  · rename_i hk1
    have hk1 : j < l.length := by have := hlt.symm.trans hk1; simpa using this
    obtain ⟨x, hx⟩ : ∃ x, l[j]? = some x := ⟨_, List.getElem?_eq_getElem hk1⟩
    obtain ⟨y, hy⟩ : ∃ y, l'[j]? = some y := ⟨_, List.getElem?_eq_getElem (by omega)⟩
    have hix : A.ix 1 1 xs i [I x] := by subst hA; exact ix_map hxs hi hx rfl
    have hiy : A.ix 1 1 ys i [I y] := by subst hA; exact ix_map hys hi hy rfl
    rw [drop_cons hx, drop_cons hy] at hP
    refine Exists.intro _ (And.intro hix ?_)
    cbv
    refine Exists.intro _ (And.intro hiy ?_)
    cbv
    split <;> cbv
    · rename_i hz
      refine leaf h (congrArg B ?_) rfl
      rw [hP, decide_eq_false_iff_not]
      intro he
      injection he with he _
      clear hP hadd hlt hix hiy hB
      subst hA
      simp [std, iNe, iEq] at hz
      try simp at he
      first | exact hz he | exact hz.elim (fun h => h he.1) (fun h => h he.2)
    · rename_i hz
      refine hB _ _ hk1 ?_ ⟨rfl, rfl, rfl, congrArg I (hadd _ hk1 (by omega)), trivial⟩ (.inl rfl)
      clear hadd hlt hix hiy hB
      subst hA
      simp [std, iNe, iEq] at hz
      rw [hP]
      simp [hz]
  · rename_i hk1
    have hk1 : ¬ j < l.length := by have := hlt.symm.trans hk1; simpa using this
    refine leaf h (congrArg B ?_) rfl
    rw [hP, List.drop_eq_nil_of_le (by omega), List.drop_eq_nil_of_le (by omega)]; rfl
theorem p50 (l l' : List (Int × Int)) (hl : l.length ≤ 9223372036854775807) (hl' : l'.length ≤ 9223372036854775807) (H : AHeap) {Kk : AV → AHeap → Prop} (h : Kk (B (decide (l = l'))) H) : ACalls Try.prog 50 [.vs 2 (l.map sp), .vs 2 (l'.map sp)] H Kk := by
  refine (fun q => pureC (by rfl) (by rfl) q H h) ?_
  clear h
  intro Kk h
  obtain ⟨A, hA⟩ : ∃ A, A = std := ⟨_, rfl⟩
  obtain ⟨xs, hxs⟩ : ∃ xs, xs = l.map sp := ⟨_, rfl⟩
  obtain ⟨ys, hys⟩ : ∃ xs, xs = l'.map sp := ⟨_, rfl⟩
  rw [← hxs, ← hys]
  obtain ⟨W, hW⟩ : ∃ W, W = decide (l = l') := ⟨_, rfl⟩
  rw [← hW] at h
  have hn : A.ne (A.vlen xs) (A.vlen ys) = decide (l.length ≠ l'.length) := by
    subst hA hxs hys
    show (((l.map sp).length : Int) != ((l'.map sp).length : Int)) = _
    rw [Bool.eq_iff_iff]; simp only [List.length_map, bne_iff_ne, ne_eq, decide_eq_true_eq]; omega
  refine go50 rfl (SGo_run hA ⟨[], [], [], []⟩ .nil .nil 200 fun T TD hT hTD => ?_)
  cbv
  split <;> cbv
  · rename_i hq
    have hq := hn.symm.trans hq
    simp only [ne_eq, decide_eq_true_eq] at hq
    refine leaf h (congrArg B ?_) rfl
    rw [hW, decide_eq_false_iff_not]
    rintro rfl; exact hq rfl
  rename_i hq
  have hq := hn.symm.trans hq
  simp only [ne_eq, decide_eq_false_iff_not, Decidable.not_not] at hq
  rw [hT]
  refine AGo_up l.length (fun j => W = decide (l.drop j = l'.drop j)) (fun _ i => [(0, .vs 2 xs), (1, .vs 2 ys), (4, B false), (5, I i)]) (fun _ => []) hW ⟨rfl, rfl, rfl, rfl, trivial⟩ (.inl rfl) fun j i hi hj hP Bk hB => ?_
  have hlt : A.lt i (A.vlen xs) = decide (j < l.length) := by subst hA; exact lt_len (by simp [hxs]) hi
  have hadd : ∀ N, j < N → N ≤ 9223372036854775807 → A.add .i64 i 1 = iLen (j + 1) := fun N hj hN => by subst hA; exact add_one hi hj hN
  refine SGo_run hA ⟨[], [], [], []⟩ .nil .nil 200 fun T TD hT hTD => ?_
  cbv
  split <;> cbv
  · rename_i hk1
    have hk1 : j < l.length := by have := hlt.symm.trans hk1; simpa using this
    obtain ⟨⟨x, x'⟩, hx⟩ : ∃ x, l[j]? = some x := ⟨_, List.getElem?_eq_getElem hk1⟩
    obtain ⟨⟨y, y'⟩, hy⟩ : ∃ y, l'[j]? = some y := ⟨_, List.getElem?_eq_getElem (by omega)⟩
    have hix : A.ix 2 2 xs i [I x, I x'] := by subst hA; exact ix_map hxs hi hx rfl
    have hiy : A.ix 2 2 ys i [I y, I y'] := by subst hA; exact ix_map hys hi hy rfl
    rw [drop_cons hx, drop_cons hy] at hP
    refine Exists.intro _ (And.intro hix ?_)
    cbv
    refine Exists.intro _ (And.intro hiy ?_)
    cbv
    split <;> cbv
    · rename_i hz
      refine leaf h (congrArg B ?_) rfl
      rw [hP, decide_eq_false_iff_not]
      intro he
      injection he with he _
      clear hP hadd hlt hix hiy hB
      subst hA
      simp [std, iNe, iEq] at hz
      try simp at he
      first | exact hz he | exact hz.elim (fun h => h he.1) (fun h => h he.2)
    · rename_i hz
      refine hB _ _ hk1 ?_ ⟨rfl, rfl, rfl, congrArg I (hadd _ hk1 (by omega)), trivial⟩ (.inl rfl)
      clear hadd hlt hix hiy hB
      subst hA
      simp [std, iNe, iEq] at hz
      rw [hP]
      simp [hz]
  · rename_i hk1
    have hk1 : ¬ j < l.length := by have := hlt.symm.trans hk1; simpa using this
    refine leaf h (congrArg B ?_) rfl
    rw [hP, List.drop_eq_nil_of_le (by omega), List.drop_eq_nil_of_le (by omega)]; rfl
end Go.Sas
namespace Go.Sas
open Go.Proofs
set_option maxRecDepth 100000
theorem p44 (u v : Int) (l : List Int) (hl : l.length < 1000000) (H : AHeap) {Kk : AV → AHeap → Prop} (h : Kk (.vs 4 ((l.map fun n => (⟨n, (u, v), 0⟩ : Load)).map ldV)) H) : ACalls Try.prog 44 [.agg [I u, I v], .vs 1 (l.map I)] H Kk := by
  refine (fun q => pureF (by rfl) (by rfl) q H h) ?_
  clear h
  intro Kk h
  obtain ⟨A, hA⟩ : ∃ A, A = std := ⟨_, rfl⟩
  obtain ⟨xs, hxs⟩ : ∃ xs, xs = l.map I := ⟨_, rfl⟩
  rw [← hxs]
  have hsg : ∀ g, A.sg g g := by subst hA; exact fun _ => rfl
  obtain ⟨F, hF⟩ : ∃ F, F = Frees 0 Kk := ⟨_, rfl⟩
  rw [← hF]
  refine go44 rfl (SGo_run hA ⟨[], [], [], []⟩ .nil .nil 200 fun T TD hT hTD => ?_)
  cbv
  rw [hT]
  refine AGo_nilms 5 4 rfl ?_
  refine AGo_up l.length (fun _ => True) (fun j i => [(0, .agg [I u, I v]), (1, .vs 1 xs), (2, .mp 0 0 0), (5, .ms 4 1 j 0 j), (6, I i)]) (fun j => [.own 0 [I u, I v], .own j ((l.take j).flatMap fun n => [I n, I u, I v, I 0])]) trivial ⟨rfl, rfl, rfl, rfl, rfl, trivial⟩ (.inl rfl) fun j i hi hj hP Bk hB => ?_
  have hlt : A.lt i (A.vlen xs) = decide (j < l.length) := by subst hA; exact lt_len (by simp [hxs]) hi
  have hadd : ∀ N, j < N → N ≤ 9223372036854775807 → A.add .i64 i 1 = iLen (j + 1) := fun N hj hN => by subst hA; exact add_one hi hj hN
  have hcl : ((l.take j).flatMap fun n => [I n, I u, I v, I 0]).length = j * 4 := by rw [len_flat (k := 4) (fun _ => rfl)]; simp; omega
  obtain ⟨cs, hcs⟩ : ∃ cs, cs = (l.take j).flatMap fun n => [I n, I u, I v, I 0] := ⟨_, rfl⟩
  rw [← hcs] at hcl
  rw [← hcs]
  refine SGo_run hA ⟨[1], [1001], [], []⟩ .nil .nil 200 fun T TD hT hTD => ?_
  cbv
  split <;> cbv
  · rename_i hk1
    have hk1 : j < l.length := by have := hlt.symm.trans hk1; simpa using this
    obtain ⟨x, hx⟩ : ∃ x, l[j]? = some x := ⟨_, List.getElem?_eq_getElem hk1⟩
    have hix : A.ix 1 1 xs i [I x] := by subst hA; exact ix_map hxs hi hx rfl
    refine Exists.intro _ (And.intro hix ?_)
    cbv
    refine And.intro (hsg _) (Exists.intro (cs ++ [I x, I u, I v, I 0]) (Exists.intro (j + 1) (And.intro ?_ (And.intro rfl ?_))))
    · subst hA
      exact app_one hcl rfl (by omega)
    generalize hcs2 : cs ++ [I x, I u, I v, I 0] = cs2
    cbv
    try refine And.intro (by subst hA; simp [std, Keep, SubH, ResK]) ?_
    refine hB _ _ hk1 trivial ⟨rfl, rfl, rfl, rfl, congrArg I (hadd _ hk1 (by omega)), trivial⟩ (.inl ?_)
    rw [← hcs2, hcs, List.take_add_one, hx]; simp
  · rename_i hk1
    have hk1 : ¬ j < l.length := by have := hlt.symm.trans hk1; simpa using this
    rw [hF]
    rw [List.take_of_length_le (by omega)] at hcs
    have hj2 : j = l.length := by omega
    subst hcs
    refine Frees.frz 1 j 4 ((l.map fun n => (⟨n, (u, v), 0⟩ : Load)).map ldV) rfl ?_ (Frees.drop0 ?_ ?_)
    · have := Elems_map (f := ldV) (g := fun x : Load => [I x.at_, I x.w.1, I x.w.2, I x.st]) (sz := 4) (fun _ => rfl) (fun _ => rfl) (fun _ => rfl) (l.map fun n => (⟨n, (u, v), 0⟩ : Load))
      rw [List.flatMap_map] at this
      exact this
    · simp only [aTup]
      rw [frz_self (by simp [hj2])]; exact h
    · simp only [aTup]
      rw [frz_self (by simp [hj2])]; rfl
def exP : Plate := ⟨(40000, 50000), [(0, 1000000), (20, 500000), (100, 0)], [(0, 1000000), (60, 640000), (600, 250000)], 5, 500000, 98, 640000, 1440000, 50, 250000⟩
abbrev exV : AV := plV 40000 50000 (.vs 2 [.agg [I 0, I 1000000], .agg [I 20, I 500000], .agg [I 100, I 0]]) (.vs 2 [.agg [I 0, I 1000000], .agg [I 60, I 640000], .agg [I 600, I 250000]]) 5 500000 98 640000 1440000 50 250000
theorem exP_is : PlIs exP (40000, 50000, [.agg [I 0, I 1000000], .agg [I 20, I 500000], .agg [I 100, I 0]], [.agg [I 0, I 1000000], .agg [I 60, I 640000], .agg [I 600, I 250000]], 5, 500000, 98, 640000, 1440000, 50, 250000) := ⟨rfl, rfl, rfl, rfl, rfl, rfl, rfl, rfl, rfl, rfl⟩
theorem p51 (a b : Int) (H : AHeap) {Kk : AV → AHeap → Prop} (h : Kk (.agg [I a, I b]) H) : ACalls Try.prog 51 [I a, I b] H Kk := by
  refine (fun q => pureC (by rfl) (by rfl) q H h) ?_
  clear h
  intro Kk h
  obtain ⟨A, hA⟩ : ∃ A, A = std := ⟨_, rfl⟩
  refine go51 rfl (SGo_run hA ⟨[], [], [], []⟩ .nil .nil 200 fun T TD hT hTD => ?_)
  cbv
  exact h
def eSpan : List AV → Option ((AV → Prop) → Prop)
  | [.lit (.int .i64 a), .lit (.int .i64 b)] => some fun K => K (.agg [I a, I b])
  | _ => none
def eOne : List AV → Option ((AV → Prop) → Prop)
  | [.lit (.int .i64 a)] => some fun K => K (.agg [I a, I a])
  | _ => none
theorem eSpan_ok : ∀ args pt, eSpan args = some pt → ∀ (H : AHeap) (Kk : AV → AHeap → Prop), pt (fun r => Kk r H) → ACalls Try.prog 51 args H Kk := by
  intro args pt h H Kk hk
  unfold eSpan at h
  split at h
  · cases h; exact p51 _ _ H hk
  · cases h
theorem eOne_ok : ∀ args pt, eOne args = some pt → ∀ (H : AHeap) (Kk : AV → AHeap → Prop), pt (fun r => Kk r H) → ACalls Try.prog 61 args H Kk := by
  intro args pt h H Kk hk
  unfold eOne at h
  split at h
  · cases h; exact p61 _ H hk
  · cases h
theorem p79 (H : AHeap) {Kk : AV → AHeap → Prop} (h : Kk exV H) : ACalls Try.prog 79 [] H Kk := by
  refine (fun q => pureC (by rfl) (by rfl) q H h) ?_
  clear h
  intro Kk h
  obtain ⟨A, hA⟩ : ∃ A, A = std := ⟨_, rfl⟩
  refine go79 rfl (SGo_run hA ⟨[], [], [(51, eSpan)], []⟩ (.cons eSpan_ok .nil) .nil 200 fun T TD hT hTD => ?_)
  cbv
  exact h
def ePlate : List AV → Option ((AV → Prop) → Prop)
  | [] => some fun K => K exV
  | _ => none
theorem ePlate_ok : ∀ args pt, ePlate args = some pt → ∀ (H : AHeap) (Kk : AV → AHeap → Prop), pt (fun r => Kk r H) → ACalls Try.prog 79 args H Kk := by
  intro args pt h H Kk hk
  unfold ePlate at h
  split at h
  · cases h; exact p79 H hk
  · cases h
theorem eHolds_ok {f : Nat} (hf : ∀ (p : Plate) {a b : Int} {xs ec : List AV} {ne ed gr lo hi sh wi : Int}, PlateIs p a b xs ec ne ed gr lo hi sh wi → p.shares.length ≤ 9223372036854775807 → p.creep.length ≤ 9223372036854775807 → ∀ (ice cr : List (Int × Int)) (l : List Load), ice.length ≤ 9223372036854775807 → cr.length ≤ 9223372036854775807 → l.length ≤ 9223372036854775807 → ∀ (H : AHeap) {Kk : AV → AHeap → Prop}, Kk (.tup [.vs 1 ((holdsS p ice cr l).1.map I), I (holdsS p ice cr l).2]) H →
    ACalls Try.prog f [plV a b (.vs 2 xs) (.vs 2 ec) ne ed gr lo hi sh wi, .vs 2 (ice.map sp), .vs 2 (cr.map sp), .vs 4 (l.map ldV)] H Kk) : ∀ args pt, eHolds args = some pt → ∀ (H : AHeap) (Kk : AV → AHeap → Prop), pt (fun r => Kk r H) → ACalls Try.prog f args H Kk := by
  intro args pt h H Kk hk
  unfold eHolds at h
  split at h
  · split at h
    · rename_i x xi xc xl hy h3 h4 h5
      cases h
      obtain ⟨p, ice, cr, l, h1, b1, b2, ⟨rfl, b3⟩, ⟨rfl, b4⟩, ⟨rfl, b5⟩, h6⟩ := hk
      obtain ⟨a, b, xs, ec, ne, ed, gr, lo, hi, sh, wi⟩ := x
      unfold BigL at b3 b4 b5
      exact (hf p h1 b1 b2 ice cr l (by omega) (by omega) (by omega) H (h6 _ _ _ rfl rfl)).wk ⟨asPl_wk hy, asVs_wk h3, asVs_wk h4, asVs_wk h5, trivial⟩
    · cases h
  · cases h
theorem eSame_ok : ∀ args pt, eSame args = some pt → ∀ (H : AHeap) (Kk : AV → AHeap → Prop), pt (fun r => Kk r H) → ACalls Try.prog 27 args H Kk := by
  intro args pt h H Kk hk
  unfold eSame at h
  split at h
  · split at h
    · rename_i xs ys hx hy
      cases h
      obtain ⟨l, l', ⟨rfl, b1⟩, ⟨rfl, b2⟩, h1⟩ := hk
      unfold BigL at b1 b2
      exact (p27 l l' (by omega) (by omega) H (h1 _ rfl)).wk ⟨asVs_wk hx, asVs_wk hy, trivial⟩
    · cases h
  · cases h
theorem eSameSp_ok : ∀ args pt, eSameSp args = some pt → ∀ (H : AHeap) (Kk : AV → AHeap → Prop), pt (fun r => Kk r H) → ACalls Try.prog 50 args H Kk := by
  intro args pt h H Kk hk
  unfold eSameSp at h
  split at h
  · split at h
    · rename_i xs ys hx hy
      cases h
      obtain ⟨l, l', ⟨rfl, b1⟩, ⟨rfl, b2⟩, h1⟩ := hk
      unfold BigL at b1 b2
      exact (p50 l l' (by omega) (by omega) H (h1 _ rfl)).wk ⟨asVs_wk hx, asVs_wk hy, trivial⟩
    · cases h
  · cases h
theorem eBearsA_ok {f : Nat} (hf : ∀ (p : Plate) {a b : Int} {xs ec : List AV} {ne ed gr lo hi sh wi : Int}, PlateIs p a b xs ec ne ed gr lo hi sh wi → Big p.shares → Big p.creep → ∀ (t n : Int) (H : AHeap) {Kk : AV → AHeap → Prop}, Kk (.tup [I (bearsS p t n).1, I (bearsS p t n).2]) H →
    ACalls Try.prog f [plV a b (.vs 2 xs) (.vs 2 ec) ne ed gr lo hi sh wi, I t, I n] H Kk) : ∀ args pt, eBearsA args = some pt → ∀ (H : AHeap) (Kk : AV → AHeap → Prop), pt (fun r => Kk r H) → ACalls Try.prog f args H Kk := by
  intro args pt h H Kk hk
  unfold eBearsA at h
  split at h
  · split at h
    · rename_i x hy
      cases h
      obtain ⟨p, h1, h2, h3, h4⟩ := hk
      obtain ⟨a, b, xs, ec, ne, ed, gr, lo, hi, sh, wi⟩ := x
      exact (hf p h1 h2 h3 _ _ H (h4 _ _ rfl)).wk ⟨asPl_wk hy, Wk.rfl, Wk.rfl, trivial⟩
    · cases h
  · cases h
theorem eSpeedA_ok {f : Nat} (hf : ∀ (p : Plate) {a b : Int} {xs ec : List AV} {ne ed gr lo hi sh wi : Int}, PlateIs p a b xs ec ne ed gr lo hi sh wi → Big p.shares → Big p.creep → ∀ (u v n w : Int) (H : AHeap) {Kk : AV → AHeap → Prop}, Kk (.tup [I (speedS p u v n w).1, I (speedS p u v n w).2]) H →
    ACalls Try.prog f [plV a b (.vs 2 xs) (.vs 2 ec) ne ed gr lo hi sh wi, .agg [I u, I v], I n, I w] H Kk) : ∀ args pt, eSpeedA args = some pt → ∀ (H : AHeap) (Kk : AV → AHeap → Prop), pt (fun r => Kk r H) → ACalls Try.prog f args H Kk := by
  intro args pt h H Kk hk
  unfold eSpeedA at h
  split at h
  · split at h
    · rename_i x hy
      cases h
      obtain ⟨p, h1, h2, h3, h4⟩ := hk
      obtain ⟨a, b, xs, ec, ne, ed, gr, lo, hi, sh, wi⟩ := x
      exact (hf p h1 h2 h3 _ _ _ _ H (h4 _ _ rfl)).wk ⟨asPl_wk hy, Wk.rfl, Wk.rfl, Wk.rfl, trivial⟩
    · cases h
  · cases h
theorem eMkLoads_ok : ∀ args pt, eMkLoads args = some pt → ∀ (H : AHeap) (Kk : AV → AHeap → Prop), pt (fun r => Kk r H) → ACalls Try.prog 44 args H Kk := by
  intro args pt h H Kk hk
  unfold eMkLoads at h
  split at h
  · split at h
    · rename_i xs hx
      cases h
      obtain ⟨l, ⟨rfl, b1⟩, h1⟩ := hk
      exact (p44 _ _ l b1 H (h1 _ rfl)).wk ⟨Wk.rfl, asVs_wk hx, trivial⟩
    · cases h
  · cases h
theorem exB : bearsS exP 500 60 = (6400, 0) := by decide +kernel
theorem exH : holdsS exP [(500, 500)] [] [⟨10, (8000, 8000), 0⟩, ⟨29, (8000, 8000), 0⟩] = ([2, 2], 0) := by decide +kernel
theorem exS : speedS exP 50 50 100 70 = (2, 0) := by decide +kernel
def tbw : PTab := [(79, ePlate), (54, eBearsA), (61, eOne), (44, eMkLoads), (25, eHolds), (46, eSpeedA), (27, eSame)]
theorem tbw_ok : PTabOk Try.prog tbw := .cons ePlate_ok (.cons (eBearsA_ok p54) (.cons eOne_ok (.cons eMkLoads_ok (.cons (eHolds_ok p25) (.cons (eSpeedA_ok p46) (.cons eSame_ok .nil))))))
theorem p19 (H : AHeap) {Kk : AV → AHeap → Prop} (h : Kk (B true) H) : ACalls Try.prog 19 [] H Kk := by
  refine (fun q => pureC (by rfl) (by rfl) q H h) ?_
  clear h
  intro Kk h
  obtain ⟨A, hA⟩ : ∃ A, A = std := ⟨_, rfl⟩
  refine go19 rfl (SGo_run hA ⟨[], [], tbw, []⟩ tbw_ok .nil 200 fun T TD hT hTD => ?_)
  clear hT hTD
  cbv
  refine Exists.intro exP (And.intro exP_is (And.intro (by decide) (And.intro (by decide) ?_)))
  rintro a e hae
  obtain ⟨rfl, rfl⟩ := Prod.mk.inj (hae.trans exB)
  cbv
  refine Exists.intro [10, 29] (And.intro ⟨rfl, by decide⟩ ?_)
  rintro ys hys
  cbv
  refine Exists.intro exP (Exists.intro [(500, 500)] (Exists.intro [] (Exists.intro [⟨10, (8000, 8000), 0⟩, ⟨29, (8000, 8000), 0⟩] (And.intro exP_is (And.intro (by decide) (And.intro (by decide) (And.intro ⟨rfl, by decide⟩ (And.intro ⟨rfl, by decide⟩ (And.intro ⟨hys, by decide⟩ ?_)))))))))
  rintro r e zs hre hzs
  obtain ⟨rfl, rfl⟩ := Prod.mk.inj (hre.trans exH)
  cbv
  refine Exists.intro exP (And.intro exP_is (And.intro (by decide) (And.intro (by decide) ?_)))
  rintro q e hqe
  obtain ⟨rfl, rfl⟩ := Prod.mk.inj (hqe.trans exS)
  cbv
  have he : ∀ n, A.eq n n = true := by subst hA; intro n; simp [std, iEq]
  repeat' (first | (split <;> first | (rename_i hq; exact Bool.noConfusion (hq.symm.trans (he _))) | cbv) | (refine Exists.intro [2, 2] (Exists.intro [2, 2] (And.intro ⟨hzs, by decide⟩ (And.intro ⟨rfl, by decide⟩ ?_))); rintro b rfl; cbv))
  all_goals first | exact h | exact leaf h (congrArg B (he _).symm) rfl
theorem eTrue_ok : ∀ args pt, eTrue args = some pt → ∀ (H : AHeap) (Kk : AV → AHeap → Prop), pt (fun r => Kk r H) → ACalls Try.prog 19 args H Kk := by
  intro args pt h H Kk hk
  unfold eTrue at h
  split at h
  · cases h; exact p19 H hk
  · cases h
end Go.Sas
