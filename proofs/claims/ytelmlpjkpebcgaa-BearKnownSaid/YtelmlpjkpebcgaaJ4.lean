/-
What the functions that ice rests on yield, part 7: verdicts.
What the functions that ice rests on yield, part 8: the verdicts on loads.
What the functions that ice rests on yield, part 9: how much ice bears alone; waters.
Conditions: none.
-/
import Derived.Test.YtelmlpjkpebcgaaJ3
import Derived.Test.YtelmlpjkpebcgaaJ1
set_option linter.unusedVariables false
set_option linter.unusedSimpArgs false
namespace Go.Sas
open Go.Proofs
set_option maxRecDepth 100000
theorem eEn_ok {S : Sp2} (hS : S = st2) : ∀ args pt, eEn S args = some pt → ∀ (H : AHeap) (Kk : AV → AHeap → Prop), pt (fun r => Kk r H) → ACalls Try.prog 111 args H Kk := by
  intro args pt h H Kk hk
  subst hS
  unfold eEn at h
  split at h
  · split at h
    · rename_i w x xi xc hy
      cases h
      obtain ⟨p, h1, h2, h3, h4, h5⟩ := hk
      obtain ⟨a, b, xs, ec, ne, ed, gr, lo, hi, sh, wi⟩ := x
      exact (p111 w p h1 h2 xi xc _ _ _ h3 h4 H h5).wk ⟨asSc_wk hy, Wk.rfl, Wk.rfl, Wk.rfl, trivial⟩
    · cases h
  · cases h
theorem eThick_ok {S : Sp2} (hS : S = st2) : ∀ args pt, eThick S args = some pt → ∀ (H : AHeap) (Kk : AV → AHeap → Prop), pt (fun r => Kk r H) → ACalls Try.prog 156 args H Kk := by
  intro args pt h H Kk hk
  subst hS
  unfold eThick at h
  split at h
  · split at h
    · rename_i w x xi xc hy
      cases h
      obtain ⟨p, ice, cr, h1, h2, h3, h4, h5, h6⟩ := hk
      obtain ⟨a, b, xs, ec, ne, ed, gr, lo, hi, sh, wi⟩ := x
      subst h2 h3
      exact (p156 w p h1 ice cr h4 _ h5 H h6).wk ⟨asSc_wk hy, Wk.rfl, trivial⟩
    · cases h
  · cases h
theorem eBor_ok {S : Sp2} (hS : S = st2) : ∀ args pt, eBor S args = some pt → ∀ (H : AHeap) (Kk : AV → AHeap → Prop), pt (fun r => Kk r H) → ACalls Try.prog 132 args H Kk := by
  intro args pt h H Kk hk
  subst hS
  unfold eBor at h
  split at h
  · cases h
    obtain ⟨_, h1, h2, h3, h4, h5⟩ := hk
    exact p132 _ _ _ _ h1 h2 h3 h4 H h5
  · cases h
theorem eCut_ok {S : Sp2} (hS : S = st2) : ∀ args pt, eCut S args = some pt → ∀ (H : AHeap) (Kk : AV → AHeap → Prop), pt (fun r => Kk r H) → ACalls Try.prog 133 args H Kk := by
  intro args pt h H Kk hk
  subst hS
  unfold eCut at h
  split at h
  · split at h
    · rename_i x hy
      cases h
      obtain ⟨p, h1, h2, h3, h4⟩ := hk
      obtain ⟨a, b, xs, ec, ne, ed, gr, lo, hi, sh, wi⟩ := x
      exact (p133 p h1 h2 _ _ h3 H h4).wk ⟨asPl_wk hy, Wk.rfl, Wk.rfl, trivial⟩
    · cases h
  · cases h
theorem eAny1_ok {S : Sp2} (hS : S = st2) : ∀ args pt, eAny true S args = some pt → ∀ (H : AHeap) (Kk : AV → AHeap → Prop), pt (fun r => Kk r H) → ACalls Try.prog 134 args H Kk := by
  intro args pt h H Kk hk
  subst hS
  unfold eAny at h
  split at h
  · split at h
    · rename_i x xc hy hz
      cases h
      obtain ⟨p, cr, h1, h2, h3, h4, h5, h6⟩ := hk
      obtain ⟨a, b, xs, ec, ne, ed, gr, lo, hi, sh, wi⟩ := x
      subst h2
      exact (p134 p h1 h3 cr _ h4.1 h4.2 h5 H h6).wk ⟨asPl_wk hy, asVs_wk hz, Wk.rfl, trivial⟩
    · cases h
  · cases h
theorem eAny0_ok {S : Sp2} (hS : S = st2) : ∀ args pt, eAny false S args = some pt → ∀ (H : AHeap) (Kk : AV → AHeap → Prop), pt (fun r => Kk r H) → ACalls Try.prog 135 args H Kk := by
  intro args pt h H Kk hk
  subst hS
  unfold eAny at h
  split at h
  · split at h
    · rename_i x xc hy hz
      cases h
      obtain ⟨p, cr, h1, h2, h3, h4, h5, h6⟩ := hk
      obtain ⟨a, b, xs, ec, ne, ed, gr, lo, hi, sh, wi⟩ := x
      subst h2
      exact (p135 p h1 h3 cr _ h4.1 h4.2 h5 H h6).wk ⟨asPl_wk hy, asVs_wk hz, Wk.rfl, trivial⟩
    · cases h
  · cases h
theorem eBurd_ok {S : Sp2} (hS : S = st2) : ∀ args pt, eBurd S args = some pt → ∀ (H : AHeap) (Kk : AV → AHeap → Prop), pt (fun r => Kk r H) → ACalls Try.prog 131 args H Kk := by
  intro args pt h H Kk hk
  subst hS
  unfold eBurd at h
  split at h
  · split at h
    · rename_i x xc hy hz
      cases h
      obtain ⟨p, l, j, y, places, h1, h2, h3, h4, h5, h6, h7, h8⟩ := hk
      obtain ⟨a, b, xs, ec, ne, ed, gr, lo, hi, sh, wi⟩ := x
      subst h2 h6
      exact (p131 p h1 h3 l places h4 h5 j y h7 H h8).wk ⟨asPl_wk hy, asVs_wk hz, Wk.rfl, trivial⟩
    · cases h
  · cases h
def tb5 (S : Sp) (S2 : Sp2) : PTab := (111, eEn S2) :: (156, eThick S2) :: (132, eBor S2) :: (133, eCut S2) :: (134, eAny true S2) :: (135, eAny false S2) :: (131, eBurd S2) :: tb4 S S2
theorem tb5_ok {S : Sp} (hS : S = stS) {S2 : Sp2} (hS2 : S2 = st2) : PTabOk Try.prog (tb5 S S2) :=
  .cons (eEn_ok hS2) (.cons (eThick_ok hS2) (.cons (eBor_ok hS2) (.cons (eCut_ok hS2) (.cons (eAny1_ok hS2) (.cons (eAny0_ok hS2) (.cons (eBurd_ok hS2) (tb4_ok hS hS2)))))))
theorem p129 (w : Bool) (p : Plate) {a b : Int} {xs ec : List AV} {ne ed gr lo hi sh wi : Int} (hp : PlateIs p a b xs ec ne ed gr lo hi sh wi) (ice cr : List (Int × Int)) (l : List Load) (hV : RoadV p ice cr) (hl : LoadsV ice.length l) (k : Nat) (x0 : Load) (hx0 : l[k]? = some x0) (H : AHeap) {Kk : AV → AHeap → Prop} (h : Kk (B (beS w p ice cr l x0)) H) :
    ACalls Try.prog 129 [scV w a b (.vs 2 xs) (.vs 2 ec) ne ed gr lo hi sh wi (.vs 2 (ice.map sp)) (.vs 2 (cr.map sp)), .vs 4 (l.map ldV), I (iLen k)] H Kk := by
  refine (fun q => pureC (by rfl) (by rfl) q H h) ?_
  clear h
  intro Kk h
  have hil := hV.il
  have hall := hl.up (by omega)
  have hm0 := hall _ (List.mem_of_getElem? hx0)
  have hme := (hl.all _ (List.mem_of_getElem? hx0)).at2
  have hh := hl.len
  have hW : beS w p ice cr l x0 = enS w p (burdS w p l x0.at_) (thickS w p ice cr x0.at_) x0.st := rfl
  generalize beS w p ice cr l x0 = W at h hW
  obtain ⟨m, ⟨v1, v2⟩, st0⟩ := x0
  have hm1 := hm0.at1
  have hm2 := hm0.at2
  simp only at hm1 hm2 hW hme
  obtain ⟨ys, hys⟩ : ∃ ys, ys = l.map ldV := ⟨_, rfl⟩
  obtain ⟨xi, hxi⟩ : ∃ xi, xi = ice.map sp := ⟨_, rfl⟩
  obtain ⟨xc, hxc⟩ : ∃ xc, xc = cr.map sp := ⟨_, rfl⟩
  obtain ⟨q, hq⟩ : ∃ q : Int, q = iLen k := ⟨_, rfl⟩
  rw [← hys, ← hq, ← hxi, ← hxc]
  obtain ⟨A, hA⟩ : ∃ A, A = std := ⟨_, rfl⟩
  obtain ⟨S, hS⟩ : ∃ S, S = stS := ⟨_, rfl⟩
  obtain ⟨S2, hS2⟩ : ∃ S, S = st2 := ⟨_, rfl⟩
  obtain ⟨sl, hsl⟩ : ∃ sl, sl = p.shares := ⟨_, rfl⟩
  have hs : xs = sl.map sp := by rw [hsl]; exact hp.hs
  have hiy : A.ix 4 4 ys q [I m, I v1, I v2, I st0] := by subst hA; exact ix_map hys hq hx0 rfl
  refine go129 rfl (SGo_run hA ⟨[], [], tb5 S S2, []⟩ (tb5_ok hS hS2) .nil 200 fun T TD hT hTD => ?_)
  cbv
  rw [hT]
  refine AGo_upS l.length (fun j (s : Int) => s = burdS w p (l.take j) m) (fun _ s i => [(0, scV w a b (.vs 2 xs) (.vs 2 ec) ne ed gr lo hi sh wi (.vs 2 xi) (.vs 2 xc)), (1, .vs 4 ys), (2, I q), (3, .mp 0 0 0), (6, B false), (7, I s), (10, .vs 4 ys), (11, I (A.vlen ys)), (12, I i)])
    (fun _ _ => [.own 0 [B w, I a, I b, .vs 2 xs, .vs 2 ec, I ne, I ed, I gr, I lo, I hi, I sh, I wi, .vs 2 xi, .vs 2 xc]]) 0 rfl ⟨rfl, rfl, rfl, rfl, rfl, rfl, rfl, rfl, rfl, trivial⟩ (.inl rfl) fun j s i hi' hj hP Bk hB => ?_
  have hlt : A.lt i (A.vlen ys) = decide (j < l.length) := by subst hA; exact lt_len (by simp [hys]) hi'
  have hadd : ∀ N, j < N → N ≤ 9223372036854775807 → A.add .i64 i 1 = iLen (j + 1) := fun N hj hN => by subst hA; exact add_one hi' hj hN
  refine SGo_run hA ⟨[], [], tb5 S S2, []⟩ (tb5_ok hS hS2) .nil 200 fun T TD hT hTD => ?_
  cbv
  split <;> cbv
  · rename_i hk1
    have hk1 : j < l.length := by have := hlt.symm.trans hk1; simpa using this
    obtain ⟨x, hx⟩ : ∃ x, l[j]? = some x := ⟨_, List.getElem?_eq_getElem hk1⟩
    have hxv := hall _ (List.mem_of_getElem? hx)
    have e1 := (burdF_bnd (w := w) (m := m) hV.p hxv)
    have f1 := hl.burd (w := w) (m := m) hV.p j
    have g1 := burd_take (w := w) (p := p) (m := m) hx
    obtain ⟨x1, ⟨u1, u2⟩, t1⟩ := x
    have k1 := hxv.at1
    have k2 := hxv.at2
    have k3 := hxv.w1
    have k4 := hxv.w2
    have k5 := hxv.w3
    simp only at k1 k2 k3 k4 k5
    have hix : A.ix 4 4 ys i [I x1, I u1, I u2, I t1] := by subst hA; exact ix_map hys hi' hx rfl
    repeat' (first | (refine Exists.intro _ (And.intro hix ?_); cbv) | (refine Exists.intro _ (And.intro hiy ?_); cbv) |
      (refine Exists.intro sl (And.intro hs (And.intro (by rw [hsl]; exact hV.p.sh.ne) (And.intro (by rw [hsl]; have := hV.p.sh.len; omega) ?_))); cbv))
    have q1 : A.add .i64 s (A.mul .i64 (S2.hev w u1 u2) (S.part sl (A.max (A.sub .i64 m x1) (A.sub .i64 x1 m)))) = burdS w p (l.take (j + 1)) m := by
      subst hA hS hS2
      simp only [std, stS, st2]
      have hb := hevS_bnd (w := w) (x := (u1, u2)) ⟨k3, k4, k5⟩
      have hf : iMax (iSub .i64 m x1) (iSub .i64 x1 m) = farS m x1 := by
        simp (disch := omega) only [iSub_id, farS]
      rw [hf, hsl]
      obtain ⟨m1, -, -⟩ := mulB hb (hV.p.sh.part (farS m x1)) (by omega)
      rw [m1, g1, hP]
      exact iAdd_id (by simp only [burdF] at e1; omega) (by simp only [burdF] at e1; omega)
    exact hB _ _ _ hk1 q1 ⟨rfl, rfl, rfl, rfl, rfl, rfl, rfl, rfl, congrArg I (hadd _ hk1 (by omega)), trivial⟩ (.inr ⟨⟨_, rfl⟩, Nat.zero_le _, by simp [ltG, AV.lt, AV.ltL, scV], by simp [ltH, AObj.lt, AV.ltL, AV.lt]⟩)
  · rename_i hk1
    have hk1 : ¬ j < l.length := by have := hlt.symm.trans hk1; simpa using this
    rw [List.take_of_length_le (by omega)] at hP
    have hbb := hl.burd (w := w) (m := m) hV.p l.length
    rw [List.take_length, ← hP] at hbb
    repeat' (first | (refine Exists.intro _ (And.intro hiy ?_); cbv) |
      (refine Exists.intro p (Exists.intro ice (Exists.intro cr (And.intro hp (And.intro hxi (And.intro hxc (And.intro hV (And.intro ⟨hm1, hme⟩ ?_))))))); cbv) |
      (refine Exists.intro p (And.intro hp (And.intro hV.p (And.intro hbb (And.intro ?_ ?_)))); rotate_left; cbv))
    · refine leaf h (congrArg B ?_) rfl
      rw [hW, ← hP]; subst hS2; rfl
    · subst hS2; exact thickS_bnd hV m
theorem eBe_ok {S : Sp2} (hS : S = st2) : ∀ args pt, eBe S args = some pt → ∀ (H : AHeap) (Kk : AV → AHeap → Prop), pt (fun r => Kk r H) → ACalls Try.prog 129 args H Kk := by
  intro args pt h H Kk hk
  subst hS
  unfold eBe at h
  split at h
  · split at h
    · rename_i w x xi xc xl hy hz
      cases h
      obtain ⟨p, ice, cr, l, j, y, h1, h2, h3, h4, h5, h6, h7, h8, h9⟩ := hk
      obtain ⟨a, b, xs, ec, ne, ed, gr, lo, hi, sh, wi⟩ := x
      subst h2 h3 h4 h7
      exact (p129 w p h1 ice cr l h5 h6 j y h8 H h9).wk ⟨asSc_wk hy, asVs_wk hz, Wk.rfl, trivial⟩
    · cases h
  · cases h
theorem p87 (p : Plate) {a b : Int} {xs ec : List AV} {ne ed gr lo hi sh wi : Int} (hp : PlateIs p a b xs ec ne ed gr lo hi sh wi) (ice cr : List (Int × Int)) (l : List Load) (hV : RoadV p ice cr) (hl : LoadsV ice.length l) (k : Nat) (x0 : Load) (hx0 : l[k]? = some x0) (H : AHeap) {Kk : AV → AHeap → Prop} (h : Kk (I (veS p ice cr l x0)) H) :
    ACalls Try.prog 87 [plV a b (.vs 2 xs) (.vs 2 ec) ne ed gr lo hi sh wi, .vs 2 (ice.map sp), .vs 2 (cr.map sp), .vs 4 (l.map ldV), I (iLen k)] H Kk := by
  refine (fun q => pureC (by rfl) (by rfl) q H h) ?_
  clear h
  intro Kk h
  obtain ⟨W, hW⟩ : ∃ W, W = veS p ice cr l x0 := ⟨_, rfl⟩
  rw [← hW] at h
  obtain ⟨ys, hys⟩ : ∃ ys, ys = l.map ldV := ⟨_, rfl⟩
  obtain ⟨xi, hxi⟩ : ∃ xi, xi = ice.map sp := ⟨_, rfl⟩
  obtain ⟨xc, hxc⟩ : ∃ xc, xc = cr.map sp := ⟨_, rfl⟩
  obtain ⟨q, hq⟩ : ∃ q : Int, q = iLen k := ⟨_, rfl⟩
  rw [← hys, ← hq, ← hxi, ← hxc]
  obtain ⟨A, hA⟩ : ∃ A, A = std := ⟨_, rfl⟩
  obtain ⟨S2, hS2⟩ : ∃ S, S = st2 := ⟨_, rfl⟩
  refine go87 rfl (SGo_run hA ⟨[], [], [(129, eBe S2)], []⟩ (.cons (eBe_ok hS2) .nil) .nil 200 fun T TD hT hTD => ?_)
  cbv
  repeat' (first | (refine Exists.intro p (Exists.intro ice (Exists.intro cr (Exists.intro l (Exists.intro k (Exists.intro x0 (And.intro hp (And.intro hxi (And.intro hxc (And.intro hys (And.intro hV (And.intro hl (And.intro hq (And.intro hx0 ?_))))))))))))); cbv) | (split <;> cbv))
  all_goals
    refine leaf h (congrArg I ?_) rfl
    clear h
    subst hA hS2
    simp only [std, st2] at *
    rw [hW, veS]
    simp [*]
end Go.Sas
namespace Go.Sas
open Go.Proofs
set_option maxRecDepth 100000
end Go.Sas
namespace Go.Sas
open Go.Proofs
set_option maxRecDepth 100000
theorem p93 (p : Plate) {a b : Int} {xs ec : List AV} {ne ed gr lo hi sh wi : Int} (hp : PlateIs p a b xs ec ne ed gr lo hi sh wi) (h1 : Big p.shares) (h2 : Big p.creep) (u v n : Int) (H : AHeap) {Kk : AV → AHeap → Prop} (h : Kk (I (waterS p u v n)) H) :
    ACalls Try.prog 93 [plV a b (.vs 2 xs) (.vs 2 ec) ne ed gr lo hi sh wi, .agg [I u, I v], I n] H Kk := by
  refine (fun q => pureC (by rfl) (by rfl) q H h) ?_
  clear h
  intro Kk h
  obtain ⟨A, hA⟩ : ∃ A, A = std := ⟨_, rfl⟩
  obtain ⟨S, hS⟩ : ∃ S, S = stS := ⟨_, rfl⟩
  obtain ⟨W, hW⟩ : ∃ W, W = waterS p u v n := ⟨_, rfl⟩
  rw [← hW] at h
  refine go93 rfl (SGo_run hA ⟨[], [], tb3 S, []⟩ (tb3_ok hS) .nil 200 fun T TD hT hTD => ?_)
  clear hT hTD
  cbv
  refine Exists.intro p (And.intro hp (And.intro h1 (And.intro h2 ?_)))
  cbv
  repeat' (split <;> cbv)
  all_goals
    refine leaf h (congrArg I ?_) rfl
    clear h
    subst hA hS hW
    clear hp
    simp only [std, stS, iLt, iLe, iEq, iNe, iLen, wiS, ouS, bne_iff_ne, ne_eq, beq_iff_eq, Bool.and_eq_true, Bool.or_eq_true, Bool.or_eq_false_iff, Bool.and_eq_false_iff, decide_eq_true_eq, decide_eq_false_iff_not, bne_eq_false_iff_eq, beq_eq_false_iff_ne, Bool.not_eq_true', Bool.not_eq_false'] at *
    simp only [waterS]
    repeat' split
    all_goals first | omega | rfl
end Go.Sas
