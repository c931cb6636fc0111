/-
What the functions that ice rests on yield, part 7: verdicts.
What the functions that ice rests on yield, part 8: the verdicts on loads.
What the functions that ice rests on yield, part 9: how much ice bears alone; waters.
Conditions: none.
-/
import Derived.Test.YtndnjmpebpampaaGreatDoorJ3
import Derived.Test.YtndnjmpebpampaaGreatDoorP7
import Derived.Test.YtndnjmpebpampaaGreatDoorJ1
set_option linter.unusedVariables false
set_option linter.unusedSimpArgs false
namespace Go.Sas
open Go.Proofs
set_option maxRecDepth 100000
theorem eEn_ok {S : Sp2} (hS : S = st2) : ∀ args pt, eEn S args = some pt → ∀ (H : AHeap) (Kk : AV → AHeap → Prop), pt (fun r => Kk r H) → ACalls Tryz.prog 33 args H Kk := by
  intro args pt h H Kk hk
  subst hS
  unfold eEn at h
  split at h
  · split at h
    · rename_i w x xi xc hy
      cases h
      obtain ⟨p, h1, h2, h3, h4, h5⟩ := hk
      obtain ⟨a, b, xs, ec, ne, ed, gr, lo, hi, sh, wi⟩ := x
      exact (p33 w p h1 h2 xi xc _ _ _ h3 h4 H h5).wk ⟨asSc_wk hy, Wk.rfl, Wk.rfl, Wk.rfl, trivial⟩
    · cases h
  · cases h
theorem eThick_ok {S : Sp2} (hS : S = st2) : ∀ args pt, eThick S args = some pt → ∀ (H : AHeap) (Kk : AV → AHeap → Prop), pt (fun r => Kk r H) → ACalls Tryz.prog 78 args H Kk := by
  intro args pt h H Kk hk
  subst hS
  unfold eThick at h
  split at h
  · split at h
    · rename_i w x xi xc hy
      cases h
      obtain ⟨p, ice, cr, h1, h2, h3, h4, h5, h6⟩ := hk
      obtain ⟨a, b, xs, ec, ne, ed, gr, lo, hi, sh, wi⟩ := x
      subst h2 h3
      exact (p78 w p h1 ice cr h4 _ h5 H h6).wk ⟨asSc_wk hy, Wk.rfl, trivial⟩
    · cases h
  · cases h
def tb5 (S : Sp) (S2 : Sp2) : PTab := (33, eEn S2) :: (78, eThick S2) :: tb4 S S2
theorem tb5_ok {S : Sp} (hS : S = stS) {S2 : Sp2} (hS2 : S2 = st2) : PTabOk Tryz.prog (tb5 S S2) :=.cons (eEn_ok hS2) (.cons (eThick_ok hS2) (tb4_ok hS hS2))
theorem p63 (w : Bool) (p : Plate) {a b : Int} {xs ec : List AV} {ne ed gr lo hi sh wi : Int} (hp : PlateIs p a b xs ec ne ed gr lo hi sh wi) (ice cr : List (Int × Int)) (l : List Load) (hV : RoadV p ice cr) (hl : LoadsV ice.length l) (k : Nat) (x0 : Load) (hx0 : l[k]? = some x0) (H : AHeap) {Kk : AV → AHeap → Prop} (h : Kk (B (beS w p ice cr l x0)) H) :
    ACalls Tryz.prog 63 [scV w a b (.vs 2 xs) (.vs 2 ec) ne ed gr lo hi sh wi (.vs 2 (ice.map sp)) (.vs 2 (cr.map sp)), .vs 4 (l.map ldV), I (iLen k)] H Kk := by
  refine (fun q => pureC (by rfl) (by rfl) q H h) ?_
  clear h
  intro Kk h
  have hil := hV.il
  have hall := hl.up (by omega)
  have hm0 := hall _ (List.mem_of_getElem? hx0)
  have hme := (hl.all _ (List.mem_of_getElem? hx0)).at2
  have hh := hl.len
  have hW : beS w p ice cr l x0 = enS w p (burdS w p l x0.at_) (thickS w p ice cr x0.at_) x0.st := rfl
  generalize beS w p ice cr l x0 = W at h hW
  obtain ⟨m, ⟨v1, v2⟩, st0⟩ := x0
  have hm1 := hm0.at1
  have hm2 := hm0.at2
  simp only at hm1 hm2 hW hme
  obtain ⟨ys, hys⟩ : ∃ ys, ys = l.map ldV := ⟨_, rfl⟩
  obtain ⟨xi, hxi⟩ : ∃ xi, xi = ice.map sp := ⟨_, rfl⟩
  obtain ⟨xc, hxc⟩ : ∃ xc, xc = cr.map sp := ⟨_, rfl⟩
  obtain ⟨q, hq⟩ : ∃ q : Int, q = iLen k := ⟨_, rfl⟩
  rw [← hys, ← hq, ← hxi, ← hxc]
  obtain ⟨A, hA⟩ : ∃ A, A = std := ⟨_, rfl⟩
  obtain ⟨S, hS⟩ : ∃ S, S = stS := ⟨_, rfl⟩
  obtain ⟨S2, hS2⟩ : ∃ S, S = st2 := ⟨_, rfl⟩
  obtain ⟨sl, hsl⟩ : ∃ sl, sl = p.shares := ⟨_, rfl⟩
  have hs : xs = sl.map sp := by rw [hsl]; exact hp.hs
  have hiy : A.ix 4 4 ys q [I m, I v1, I v2, I st0] := by subst hA; exact ix_map hys hq hx0 rfl
  refine go63 rfl (SGo_run hA ⟨[], [], tb5 S S2, []⟩ (tb5_ok hS hS2) .nil 200 fun T TD hT hTD => ?_)
  cbv
  rw [hT]
  refine AGo_upS l.length (fun j (s : Int) => s = burdS w p (l.take j) m) (fun _ s i => [(0, scV w a b (.vs 2 xs) (.vs 2 ec) ne ed gr lo hi sh wi (.vs 2 xi) (.vs 2 xc)), (1, .vs 4 ys), (2, I q), (3, .mp 0 0 0), (6, B false), (7, I s), (10, .vs 4 ys), (11, I (A.vlen ys)), (12, I i)])
    (fun _ _ => [.own 0 [B w, I a, I b, .vs 2 xs, .vs 2 ec, I ne, I ed, I gr, I lo, I hi, I sh, I wi, .vs 2 xi, .vs 2 xc]]) 0 rfl ⟨rfl, rfl, rfl, rfl, rfl, rfl, rfl, rfl, rfl, trivial⟩ (.inl rfl) fun j s i hi' hj hP Bk hB => ?_
  have hlt : A.lt i (A.vlen ys) = decide (j < l.length) := by subst hA; exact lt_len (by simp [hys]) hi'
  have hadd : ∀ N, j < N → N ≤ 9223372036854775807 → A.add .i64 i 1 = iLen (j + 1) := fun N hj hN => by subst hA; exact add_one hi' hj hN
  refine SGo_run hA ⟨[], [], tb5 S S2, []⟩ (tb5_ok hS hS2) .nil 200 fun T TD hT hTD => ?_
  cbv
  split <;> cbv
  · rename_i hk1
    have hk1 : j < l.length := by have := hlt.symm.trans hk1; simpa using this
    obtain ⟨x, hx⟩ : ∃ x, l[j]? = some x := ⟨_, List.getElem?_eq_getElem hk1⟩
    have hxv := hall _ (List.mem_of_getElem? hx)
    have e1 := (burdF_bnd (w := w) (m := m) hV.p hxv)
    have f1 := hl.burd (w := w) (m := m) hV.p j
    have g1 := burd_take (w := w) (p := p) (m := m) hx
    obtain ⟨x1, ⟨u1, u2⟩, t1⟩ := x
    have k1 := hxv.at1
    have k2 := hxv.at2
    have k3 := hxv.w1
    have k4 := hxv.w2
    have k5 := hxv.w3
    simp only at k1 k2 k3 k4 k5
    have hix : A.ix 4 4 ys i [I x1, I u1, I u2, I t1] := by subst hA; exact ix_map hys hi' hx rfl
    repeat' (first | (refine Exists.intro _ (And.intro hix ?_); cbv) | (refine Exists.intro _ (And.intro hiy ?_); cbv) |
      (refine Exists.intro sl (And.intro hs (And.intro (by rw [hsl]; exact hV.p.sh.ne) (And.intro (by rw [hsl]; have := hV.p.sh.len; omega) ?_))); cbv))
    have q1 : A.add .i64 s (A.mul .i64 (S2.hev w u1 u2) (S.part sl (A.max (A.sub .i64 m x1) (A.sub .i64 x1 m)))) = burdS w p (l.take (j + 1)) m := by
      subst hA hS hS2
      simp only [std, stS, st2]
      have hb := hevS_bnd (w := w) (x := (u1, u2)) ⟨k3, k4, k5⟩
      have hf : iMax (iSub .i64 m x1) (iSub .i64 x1 m) = farS m x1 := by
        simp (disch := omega) only [iSub_id, farS]
      rw [hf, hsl]
      obtain ⟨m1, -, -⟩ := mulB hb (hV.p.sh.part (farS m x1)) (by omega)
      rw [m1, g1, hP]
      exact iAdd_id (by simp only [burdF] at e1; omega) (by simp only [burdF] at e1; omega)
    exact hB _ _ _ hk1 q1 ⟨rfl, rfl, rfl, rfl, rfl, rfl, rfl, rfl, congrArg I (hadd _ hk1 (by omega)), trivial⟩ (.inr ⟨⟨_, rfl⟩, Nat.zero_le _, by simp [ltG, AV.lt, AV.ltL, scV], by simp [ltH, AObj.lt, AV.ltL, AV.lt]⟩)
  · rename_i hk1
    have hk1 : ¬ j < l.length := by have := hlt.symm.trans hk1; simpa using this
    rw [List.take_of_length_le (by omega)] at hP
    have hbb := hl.burd (w := w) (m := m) hV.p l.length
    rw [List.take_length, ← hP] at hbb
    repeat' (first | (refine Exists.intro _ (And.intro hiy ?_); cbv) |
      (refine Exists.intro p (Exists.intro ice (Exists.intro cr (And.intro hp (And.intro hxi (And.intro hxc (And.intro hV (And.intro ⟨hm1, hme⟩ ?_))))))); cbv) |
      (refine Exists.intro p (And.intro hp (And.intro hV.p (And.intro hbb (And.intro ?_ ?_)))); rotate_left; cbv))
    · refine leaf h (congrArg B ?_) rfl
      rw [hW, ← hP]; subst hS2; rfl
    · subst hS2; exact thickS_bnd hV m
theorem eBe_ok {S : Sp2} (hS : S = st2) : ∀ args pt, eBe S args = some pt → ∀ (H : AHeap) (Kk : AV → AHeap → Prop), pt (fun r => Kk r H) → ACalls Tryz.prog 63 args H Kk := by
  intro args pt h H Kk hk
  subst hS
  unfold eBe at h
  split at h
  · split at h
    · rename_i w x xi xc xl hy hz
      cases h
      obtain ⟨p, ice, cr, l, j, y, h1, h2, h3, h4, h5, h6, h7, h8, h9⟩ := hk
      obtain ⟨a, b, xs, ec, ne, ed, gr, lo, hi, sh, wi⟩ := x
      subst h2 h3 h4 h7
      exact (p63 w p h1 ice cr l h5 h6 j y h8 H h9).wk ⟨asSc_wk hy, asVs_wk hz, Wk.rfl, trivial⟩
    · cases h
  · cases h
theorem p40 (p : Plate) {a b : Int} {xs ec : List AV} {ne ed gr lo hi sh wi : Int} (hp : PlateIs p a b xs ec ne ed gr lo hi sh wi) (ice cr : List (Int × Int)) (l : List Load) (hV : RoadV p ice cr) (hl : LoadsV ice.length l) (k : Nat) (x0 : Load) (hx0 : l[k]? = some x0) (H : AHeap) {Kk : AV → AHeap → Prop} (h : Kk (I (veS p ice cr l x0)) H) :
    ACalls Tryz.prog 40 [plV a b (.vs 2 xs) (.vs 2 ec) ne ed gr lo hi sh wi, .vs 2 (ice.map sp), .vs 2 (cr.map sp), .vs 4 (l.map ldV), I (iLen k)] H Kk := by
  refine (fun q => pureC (by rfl) (by rfl) q H h) ?_
  clear h
  intro Kk h
  obtain ⟨W, hW⟩ : ∃ W, W = veS p ice cr l x0 := ⟨_, rfl⟩
  rw [← hW] at h
  obtain ⟨ys, hys⟩ : ∃ ys, ys = l.map ldV := ⟨_, rfl⟩
  obtain ⟨xi, hxi⟩ : ∃ xi, xi = ice.map sp := ⟨_, rfl⟩
  obtain ⟨xc, hxc⟩ : ∃ xc, xc = cr.map sp := ⟨_, rfl⟩
  obtain ⟨q, hq⟩ : ∃ q : Int, q = iLen k := ⟨_, rfl⟩
  rw [← hys, ← hq, ← hxi, ← hxc]
  obtain ⟨A, hA⟩ : ∃ A, A = std := ⟨_, rfl⟩
  obtain ⟨S2, hS2⟩ : ∃ S, S = st2 := ⟨_, rfl⟩
  refine go40 rfl (SGo_run hA ⟨[], [], [(63, eBe S2)], []⟩ (.cons (eBe_ok hS2) .nil) .nil 200 fun T TD hT hTD => ?_)
  cbv
  repeat' (first | (refine Exists.intro p (Exists.intro ice (Exists.intro cr (Exists.intro l (Exists.intro k (Exists.intro x0 (And.intro hp (And.intro hxi (And.intro hxc (And.intro hys (And.intro hV (And.intro hl (And.intro hq (And.intro hx0 ?_))))))))))))); cbv) | (split <;> cbv))
  all_goals
    refine leaf h (congrArg I ?_) rfl
    clear h
    subst hA hS2
    simp only [std, st2] at *
    rw [hW, veS]
    simp [*]
theorem eVe_ok {f : Nat} (hf : ∀ (p : Plate) {a b : Int} {xs ec : List AV} {ne ed gr lo hi sh wi : Int}, PlateIs p a b xs ec ne ed gr lo hi sh wi → ∀ (ice cr : List (Int × Int)) (l : List Load), RoadV p ice cr → LoadsV ice.length l → ∀ (k : Nat) (x0 : Load), l[k]? = some x0 → ∀ (H : AHeap) {Kk : AV → AHeap → Prop}, Kk (I (veS p ice cr l x0)) H →
    ACalls Tryz.prog f [plV a b (.vs 2 xs) (.vs 2 ec) ne ed gr lo hi sh wi, .vs 2 (ice.map sp), .vs 2 (cr.map sp), .vs 4 (l.map ldV), I (iLen k)] H Kk) {S : Sp2} (hS : S = st2) : ∀ args pt, eVe S args = some pt → ∀ (H : AHeap) (Kk : AV → AHeap → Prop), pt (fun r => Kk r H) → ACalls Tryz.prog f args H Kk := by
  intro args pt h H Kk hk
  subst hS
  unfold eVe at h
  split at h
  · split at h
    · rename_i x xi xc xl hy h3 h4 h5
      cases h
      obtain ⟨p, ice, cr, l, j, y, h1, rfl, rfl, rfl, h6, h7, rfl, h8, h9⟩ := hk
      obtain ⟨a, b, xs, ec, ne, ed, gr, lo, hi, sh, wi⟩ := x
      exact (hf p h1 ice cr l h6 h7 j y h8 H h9).wk ⟨asPl_wk hy, asVs_wk h3, asVs_wk h4, asVs_wk h5, Wk.rfl, trivial⟩
    · cases h
  · cases h

theorem eCheckAll_ok {f : Nat} (hf : ∀ (p : Plate) {a b : Int} {xs ec : List AV} {ne ed gr lo hi sh wi : Int}, PlateIs p a b xs ec ne ed gr lo hi sh wi → p.shares.length ≤ 9223372036854775807 → p.creep.length ≤ 9223372036854775807 → ∀ (ice cr : List (Int × Int)), ice.length ≤ 9223372036854775807 → cr.length ≤ 9223372036854775807 → ∀ (H : AHeap) {Kk : AV → AHeap → Prop}, Kk (I (checkAllS p ice cr)) H →
    ACalls Tryz.prog f [plV a b (.vs 2 xs) (.vs 2 ec) ne ed gr lo hi sh wi, .vs 2 (ice.map sp), .vs 2 (cr.map sp)] H Kk) {S : Sp} (hS : S = stS) : ∀ args pt, eCheckAll S args = some pt → ∀ (H : AHeap) (Kk : AV → AHeap → Prop), pt (fun r => Kk r H) → ACalls Tryz.prog f args H Kk := by
  intro args pt h H Kk hk
  subst hS
  unfold eCheckAll at h
  split at h
  · split at h
    · rename_i xs ec xi xc h1 h2 h3 h4
      cases h
      obtain ⟨p, ice, cr, g1, g2, g3, rfl, rfl, g6, g7, g8⟩ := hk
      exact (hf p g1 g2 g3 ice cr g6 g7 H g8).wk ⟨Wk.agg ⟨Wk.rfl, Wk.rfl, asVs_wk h1, asVs_wk h2, Wk.rfl, Wk.rfl, Wk.rfl, Wk.rfl, Wk.rfl, Wk.rfl, Wk.rfl, trivial⟩, asVs_wk h3, asVs_wk h4, trivial⟩
    · cases h
  · cases h
end Go.Sas
namespace Go.Sas
open Go.Proofs
set_option maxRecDepth 100000
theorem p17 (p : Plate) {a b : Int} {xs ec : List AV} {ne ed gr lo hi sh wi : Int} (hp : PlateIs p a b xs ec ne ed gr lo hi sh wi) (h1 : p.shares.length ≤ 9223372036854775807) (h2 : p.creep.length ≤ 9223372036854775807) (ice cr : List (Int × Int)) (l : List Load) (h3 : ice.length ≤ 9223372036854775807) (h4 : cr.length ≤ 9223372036854775807) (h5 : l.length ≤ 9223372036854775807) (H : AHeap) {Kk : AV → AHeap → Prop} (h : Kk (.tup [.vs 1 ((holdsS p ice cr l).1.map I), I (holdsS p ice cr l).2]) H) :
    ACalls Tryz.prog 17 [plV a b (.vs 2 xs) (.vs 2 ec) ne ed gr lo hi sh wi, .vs 2 (ice.map sp), .vs 2 (cr.map sp), .vs 4 (l.map ldV)] H Kk := by
  refine (fun q => pureF (by rfl) (by rfl) q H h) ?_
  clear h
  intro Kk h
  obtain ⟨W, hW⟩ : ∃ W, W = holdsS p ice cr l := ⟨_, rfl⟩
  rw [← hW] at h
  obtain ⟨ys, hys⟩ : ∃ ys, ys = l.map ldV := ⟨_, rfl⟩
  obtain ⟨xi, hxi⟩ : ∃ xi, xi = ice.map sp := ⟨_, rfl⟩
  obtain ⟨xc, hxc⟩ : ∃ xc, xc = cr.map sp := ⟨_, rfl⟩
  rw [← hys, ← hxi, ← hxc]
  obtain ⟨A, hA⟩ : ∃ A, A = std := ⟨_, rfl⟩
  obtain ⟨S, hS⟩ : ∃ S, S = stS := ⟨_, rfl⟩
  obtain ⟨S2, hS2⟩ : ∃ S, S = st2 := ⟨_, rfl⟩
  have hv : A.vlen xi = iLen ice.length := by subst hA; simp [std, hxi]
  obtain ⟨F, hF⟩ : ∃ F, F = Frees 0 Kk := ⟨_, rfl⟩
  rw [← hF]
  refine go17 rfl (SGo_run hA ⟨[], [], (38, eCheckAll S) :: (40, eVe S2) :: tb5 S S2, []⟩ (.cons (eCheckAll_ok p38 hS) (.cons (eVe_ok p40 hS2) (tb5_ok hS hS2))) .nil 200 fun T TD hT hTD => ?_)
  cbv
  refine Exists.intro p (Exists.intro ice (Exists.intro cr (And.intro hp (And.intro h1 (And.intro h2 (And.intro hxi (And.intro hxc (And.intro (by omega) (And.intro h4 ?_)))))))))
  cbv
  split <;> cbv
  · rename_i hq
    have hq : checkAllS p ice cr ≠ 0 := by have hq : A.ne (S.checkAll p ice cr) 0 = true := hq; subst hA hS; simpa [std, stS, iNe] using hq
    have e1 : S.checkAll p ice cr = checkAllS p ice cr := by subst hS; rfl
    unfold holdsS at hW
    rw [if_pos hq] at hW
    rw [hF]
    refine Frees.wk (r' := .tup [.vs 1 [], I (S.checkAll p ice cr)]) (Wk.tup ⟨Wk.nil, Wk.rfl, trivial⟩) (Frees.drop0 ?_ rfl)
    rw [hW] at h
    rw [e1]; exact h
  rename_i hq
  have hq : checkAllS p ice cr = 0 := by have hq : A.ne (S.checkAll p ice cr) 0 = false := hq; subst hA hS; simpa [std, stS, iNe] using hq
  unfold holdsS at hW
  rw [if_neg (by simp [hq])] at hW
  have hV := checkAllS_ok hq
  have hil := hV.il
  refine Exists.intro l (And.intro hys (And.intro h5 (And.intro (by show 0 ≤ A.vlen xi ∧ A.vlen xi < 46116860184273879; rw [hv]; unfold iLen; omega) ?_)))
  cbv
  have e2 : S.loads (A.vlen xi) l = loadsS ice.length l := by rw [hv]; subst hS; rfl
  split <;> cbv
  · rename_i hq2
    have hq2 : loadsS ice.length l ≠ 0 := by have hq2 : A.ne (S.loads (A.vlen xi) l) 0 = true := hq2; rw [e2] at hq2; subst hA; simpa [std, iNe] using hq2
    rw [if_pos hq2] at hW
    rw [hF]
    refine Frees.wk (r' := .tup [.vs 1 [], I (S.loads (A.vlen xi) l)]) (Wk.tup ⟨Wk.nil, Wk.rfl, trivial⟩) (Frees.drop0 ?_ rfl)
    rw [hW] at h
    rw [e2]; exact h
  rename_i hq2
  have hq2 : loadsS ice.length l = 0 := by have hq2 : A.ne (S.loads (A.vlen xi) l) 0 = false := hq2; rw [e2] at hq2; subst hA; simpa [std, iNe] using hq2
  rw [if_neg (by simp [hq2])] at hW
  obtain ⟨hl1, hl2⟩ := loadsS_ok hq2
  have hl : LoadsV ice.length l := ⟨hl1, hl2⟩
  clear e2 hv
  have hsg : ∀ g, A.sg g g := by subst hA; exact fun _ => rfl
  rw [hT]
  refine AGo_nilms 12 1 rfl ?_
  refine AGo_upS l.length (fun j (s : List Int) => s = (l.take j).map (veS p ice cr l)) (fun j _ i => [(0, plV a b (.vs 2 xs) (.vs 2 ec) ne ed gr lo hi sh wi), (1, .vs 2 xi), (2, .vs 2 xc), (3, .vs 4 ys), (4, .mp 0 0 0), (12, .ms 1 1 j 0 j), (29, I (A.vlen ys)), (30, I i)]) (fun j s => [.own 0 [I a, I b, .vs 2 xs, .vs 2 ec, I ne, I ed, I gr, I lo, I hi, I sh, I wi], .own j (s.map I)]) [] rfl ⟨rfl, rfl, rfl, rfl, rfl, rfl, rfl, rfl,trivial⟩ (.inl rfl) fun j s i hi' hj hP Bk hB => ?_
  have hlt : A.lt i (A.vlen ys) = decide (j < l.length) := by subst hA; exact lt_len (by simp [hys]) hi'
  have hadd : ∀ N, j < N → N ≤ 9223372036854775807 → A.add .i64 i 1 = iLen (j + 1) := fun N hj hN => by subst hA; exact add_one hi' hj hN
  have hsl : s.length = j := by rw [hP]; simp; omega
  obtain ⟨cs, hcs⟩ : ∃ cs, cs = s.map I := ⟨_, rfl⟩
  rw [← hcs]
  refine SGo_run hA ⟨[1], [], (38, eCheckAll S) :: (40, eVe S2) :: tb5 S S2, []⟩ (.cons (eCheckAll_ok p38 hS) (.cons (eVe_ok p40 hS2) (tb5_ok hS hS2))) .nil 200 fun T TD hT hTD => ?_
  cbv
  split <;> cbv
  · rename_i hk1
    have hk1 : j < l.length := by have := hlt.symm.trans hk1; simpa using this
    obtain ⟨x, hx⟩ : ∃ x, l[j]? = some x := ⟨_, List.getElem?_eq_getElem hk1⟩
    refine Exists.intro p (Exists.intro ice (Exists.intro cr (Exists.intro l (Exists.intro j (Exists.intro x (And.intro hp (And.intro hxi (And.intro hxc (And.intro hys (And.intro hV (And.intro hl (And.intro hi' (And.intro hx ?_)))))))))))))
    cbv
    refine And.intro (hsg _) (Exists.intro ((s ++ [veS p ice cr l x]).map I) (Exists.intro (j + 1) (And.intro ?_ (And.intro rfl ?_))))
    · rw [List.map_append, ← hcs]
      subst hA hS2
      exact app_one (by rw [hcs]; simp [hsl]) rfl (by omega)
    generalize hcs2 : (s ++ [veS p ice cr l x]).map I = cs2
    cbv
    subst hcs2
    exact hB _ _ _ hk1 (by rw [hP, List.take_add_one, hx]; simp) ⟨rfl, rfl, rfl, rfl, rfl, rfl, rfl,congrArg I (hadd _ hk1 (by omega)), trivial⟩ (.inl rfl)
  · rename_i hk1
    have hk1 : ¬ j < l.length := by have := hlt.symm.trans hk1; simpa using this
    rw [hF]
    subst hcs
    refine Frees.frz 1 j 1 (s.map I) rfl (Elems_I s) (Frees.drop0 ?_ ?_)
    · rw [hW] at h
      have hP : s = l.map (veS p ice cr l) := by rw [hP, List.take_of_length_le (by omega)]
      rw [← hP] at h
      have : AV.frz 1 j 1 (s.map I) (.ms 1 1 j 0 j) = .vs 1 (s.map I) := by
        rw [← hsl]; exact frz_self (by simp)
      simp only [aTup, AV.frz, AV.frzL] at this ⊢
      rw [this]; exact h
    · simp only [aTup, AV.frz, AV.frzL, AV.nid, AV.nidL, if_true]
      split <;> rfl
end Go.Sas
namespace Go.Sas
open Go.Proofs
set_option maxRecDepth 100000
theorem p74 (p : Plate) {a b : Int} {xs ec : List AV} {ne ed gr lo hi sh wi : Int} (hp : PlateIs p a b xs ec ne ed gr lo hi sh wi) (hV : PlateV p) (t n : Int) (ht : 0 ≤ t ∧ t ≤ 5000) (H : AHeap) {Kk : AV → AHeap → Prop} (h : Kk (I (aloS p t n)) H) :
    ACalls Tryz.prog 74 [plV a b (.vs 2 xs) (.vs 2 ec) ne ed gr lo hi sh wi, I t, I n] H Kk := by
  refine (fun q => pureC (by rfl) (by rfl) q H h) ?_
  clear h
  intro Kk h
  obtain ⟨A, hA⟩ : ∃ A, A = std := ⟨_, rfl⟩
  obtain ⟨S, hS⟩ : ∃ S, S = stS := ⟨_, rfl⟩
  obtain ⟨S2, hS2⟩ : ∃ S, S = st2 := ⟨_, rfl⟩
  generalize hW : aloS p t n = W at h
  obtain ⟨cl, hcl⟩ : ∃ cl, cl = p.creep := ⟨_, rfl⟩
  have hc : ec = cl.map sp := by rw [hcl]; exact hp.hc
  refine go74 rfl (SGo_run hA ⟨[], [], tb3 S, []⟩ (tb3_ok hS) .nil 200 fun T TD hT hTD => ?_)
  clear hT hTD
  cbv
  refine Exists.intro cl (And.intro hc (And.intro (by rw [hcl]; exact hV.cr.ne) (And.intro (by rw [hcl]; have := hV.cr.len; omega) ?_)))
  cbv
  refine leaf h (congrArg I ?_) rfl
  have hs1 := hV.s1
  have hs2 := hV.s2
  have hs3 := hV.s3
  have hs : 0 ≤ p.str.1 ∧ p.str.1 ≤ 100000 := by omega
  have hq := hV.cr.part n
  obtain ⟨e1, l1, u1⟩ := mulB hs ht (by omega)
  obtain ⟨e2, l2, u2⟩ := mulB ⟨l1, u1⟩ ht (by omega)
  obtain ⟨e3, l3, u3⟩ := mulB ⟨l2, u2⟩ hq (by omega)
  subst hA hS hcl
  rw [hp.str] at e1 e2 e3 l3 u3
  simp only [std, stS, e1, e2, e3]
  rw [iQuo_id l3 (by omega) (by omega), ← hW, aloS, hp.str]
theorem eAlo_ok {f : Nat} (hf : ∀ (p : Plate) {a b : Int} {xs ec : List AV} {ne ed gr lo hi sh wi : Int}, PlateIs p a b xs ec ne ed gr lo hi sh wi → PlateV p → ∀ (t n : Int), 0 ≤ t ∧ t ≤ 5000 → ∀ (H : AHeap) {Kk : AV → AHeap → Prop}, Kk (I (aloS p t n)) H →
    ACalls Tryz.prog f [plV a b (.vs 2 xs) (.vs 2 ec) ne ed gr lo hi sh wi, I t, I n] H Kk) {S : Sp3} (hS : S = st3) : ∀ args pt, eAlo S args = some pt → ∀ (H : AHeap) (Kk : AV → AHeap → Prop), pt (fun r => Kk r H) → ACalls Tryz.prog f args H Kk := by
  intro args pt h H Kk hk
  subst hS
  unfold eAlo at h
  split at h
  · split at h
    · rename_i x hy
      cases h
      obtain ⟨p, h1, h2, h3, h4⟩ := hk
      obtain ⟨a, b, xs, ec, ne, ed, gr, lo, hi, sh, wi⟩ := x
      exact (hf p h1 h2 _ _ h3 H h4).wk ⟨asPl_wk hy, Wk.rfl, Wk.rfl, trivial⟩
    · cases h
  · cases h
theorem p59 (p : Plate) {a b : Int} {xs ec : List AV} {ne ed gr lo hi sh wi : Int} (hp : PlateIs p a b xs ec ne ed gr lo hi sh wi) (h1 : Big p.shares) (h2 : Big p.creep) (t n : Int) (H : AHeap) {Kk : AV → AHeap → Prop} (h : Kk (.tup [I (bearsS p t n).1, I (bearsS p t n).2]) H) :
    ACalls Tryz.prog 59 [plV a b (.vs 2 xs) (.vs 2 ec) ne ed gr lo hi sh wi, I t, I n] H Kk := by
  refine (fun q => pureC (by rfl) (by rfl) q H h) ?_
  clear h
  intro Kk h
  obtain ⟨A, hA⟩ : ∃ A, A = std := ⟨_, rfl⟩
  obtain ⟨S, hS⟩ : ∃ S, S = stS := ⟨_, rfl⟩
  obtain ⟨S3, hS3⟩ : ∃ S, S = st3 := ⟨_, rfl⟩
  obtain ⟨W, hW⟩ : ∃ W, W = bearsS p t n := ⟨_, rfl⟩
  rw [← hW] at h
  refine go59 rfl (SGo_run hA ⟨[], [], (74, eAlo S3) :: tb3 S, []⟩ (.cons (eAlo_ok p74 hS3) (tb3_ok hS)) .nil 200 fun T TD hT hTD => ?_)
  clear hT hTD
  cbv
  refine Exists.intro p (And.intro hp (And.intro h1 (And.intro h2 ?_)))
  cbv
  have e1 : S.check p = checkS p := by subst hS; rfl
  split <;> cbv
  · rename_i hq
    have hq : A.ne (S.check p) 0 = true := hq
    refine leaf h ?_ rfl
    rw [e1] at hq
    subst hA
    simp only [std, stS, iLt, iLe, iEq, iNe, iLen, wiS, ouS, bne_iff_ne, ne_eq, beq_iff_eq, Bool.and_eq_true, Bool.or_eq_true, Bool.or_eq_false_iff, Bool.and_eq_false_iff, decide_eq_true_eq, decide_eq_false_iff_not, bne_eq_false_iff_eq, beq_eq_false_iff_ne, Bool.not_eq_true', Bool.not_eq_false'] at *
    rw [hW, bearsS, if_pos hq, ← e1]; rfl
  rename_i hq
  have hq : A.ne (S.check p) 0 = false := hq
  rw [e1] at hq
  have hq : checkS p = 0 := by subst hA; simpa [std, iNe] using hq
  have hV := checkS_ok hq
  rw [bearsS, if_neg (by simp [hq])] at hW
  by_cases ht : t < 0 ∨ 5000 < t ∨ n < 0 ∨ 10000 < n
  · rw [if_pos ht] at hW
    repeat' (first | (refine Exists.intro p (And.intro hp (And.intro hV (And.intro ?_ ?_)))) | (split <;> cbv))
    all_goals first | (refine leaf h ?_ rfl; rw [hW]; rfl) | (exfalso; subst hA hS; clear hp; simp only [std, stS, iLt, iLe, iEq, iNe, iLen, wiS, ouS, bne_iff_ne, ne_eq, beq_iff_eq, Bool.and_eq_true, Bool.or_eq_true, Bool.or_eq_false_iff, Bool.and_eq_false_iff, decide_eq_true_eq, decide_eq_false_iff_not, bne_eq_false_iff_eq, beq_eq_false_iff_ne, Bool.not_eq_true', Bool.not_eq_false'] at *; omega) | skip
    all_goals (exfalso; subst hA hS; clear hp; simp only [std, stS, iLt, iLe, iEq, iNe, iLen, wiS, ouS, bne_iff_ne, ne_eq, beq_iff_eq, Bool.and_eq_true, Bool.or_eq_true, Bool.or_eq_false_iff, Bool.and_eq_false_iff, decide_eq_true_eq, decide_eq_false_iff_not, bne_eq_false_iff_eq, beq_eq_false_iff_ne, Bool.not_eq_true', Bool.not_eq_false'] at *; omega)
  · rw [if_neg ht] at hW
    have ht5 : 0 ≤ t ∧ t ≤ 5000 := by omega
    repeat' (first | (refine Exists.intro p (And.intro hp (And.intro hV (And.intro ht5 ?_))); cbv) | (split <;> cbv))
    all_goals first | (refine leaf h ?_ rfl; rw [hW]; subst hS3; rfl) | skip
    all_goals (exfalso; subst hA hS; clear hp; simp only [std, stS, iLt, iLe, iEq, iNe, iLen, wiS, ouS, bne_iff_ne, ne_eq, beq_iff_eq, Bool.and_eq_true, Bool.or_eq_true, Bool.or_eq_false_iff, Bool.and_eq_false_iff, decide_eq_true_eq, decide_eq_false_iff_not, bne_eq_false_iff_eq, beq_eq_false_iff_ne, Bool.not_eq_true', Bool.not_eq_false'] at *; omega)
end Go.Sas
