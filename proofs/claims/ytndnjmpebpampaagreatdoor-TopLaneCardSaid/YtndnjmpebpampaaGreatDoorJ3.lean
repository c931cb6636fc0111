/-
What the functions that ice rests on yield, part 4: whole roads; a search; sides.
What the functions that ice rests on yield, part 5: burdens and thicknesses.
What the functions that ice rests on yield, part 6: thickness, burdens, verdicts.
Conditions: none.
-/
import Derived.Test.YtndnjmpebpampaaGreatDoorJ2
import Derived.Test.YtndnjmpebpampaaGreatDoorJ1
import Derived.Test.YtndnjmpebpampaaGreatDoorQT2
set_option linter.unusedVariables false
set_option linter.unusedSimpArgs false
namespace Go.Sas
open Go.Proofs
set_option maxRecDepth 100000
theorem eCheck_ok {f : Nat} (hf : ∀ (p : Plate) {a b : Int} {xs ec : List AV} {ne ed gr lo hi sh wi : Int}, PlateIs p a b xs ec ne ed gr lo hi sh wi → p.shares.length ≤ 9223372036854775807 → p.creep.length ≤ 9223372036854775807 → ∀ (H : AHeap) {Kk : AV → AHeap → Prop}, Kk (I (checkS p)) H →
    ACalls Tryz.prog f [plV a b (.vs 2 xs) (.vs 2 ec) ne ed gr lo hi sh wi] H Kk) {S : Sp} (hS : S = stS) : ∀ args pt, eCheck S args = some pt → ∀ (H : AHeap) (Kk : AV → AHeap → Prop), pt (fun r => Kk r H) → ACalls Tryz.prog f args H Kk := by
  intro args pt h H Kk hk
  subst hS
  unfold eCheck at h
  split at h
  · split at h
    · rename_i xs ec h1 h2
      cases h
      obtain ⟨p, g1, g2, g3, g4⟩ := hk
      exact (hf p g1 g2 g3 H g4).wk ⟨Wk.agg ⟨Wk.rfl, Wk.rfl, asVs_wk h1, asVs_wk h2, Wk.rfl, Wk.rfl, Wk.rfl, Wk.rfl, Wk.rfl, Wk.rfl, Wk.rfl, trivial⟩, trivial⟩
    · cases h
  · cases h
theorem eFaults_ok {f : Nat} (hf : ∀ (l : List (Int × Int)) (a b : Int), l.length ≤ 9223372036854775807 → ∀ (H : AHeap) {Kk : AV → AHeap → Prop}, Kk (I (faultsS l a b)) H → ACalls Tryz.prog f [.vs 2 (l.map sp), I a, I b] H Kk) {S : Sp} (hS : S = stS) :
    ∀ args pt, eFaults S args = some pt → ∀ (H : AHeap) (Kk : AV → AHeap → Prop), pt (fun r => Kk r H) → ACalls Tryz.prog f args H Kk := by
  intro args pt h H Kk hk
  subst hS
  unfold eFaults at h
  split at h
  · split at h
    · rename_i ys hy
      cases h
      obtain ⟨l, h1, h2, h3⟩ := hk
      subst h1
      exact (hf l _ _ h2 H h3).wk ⟨asVs_wk hy, Wk.rfl, Wk.rfl, trivial⟩
    · cases h
  · cases h
theorem eLoads1_ok {f : Nat} (hf : ∀ (l : List Load) (a : Int), l.length ≤ 9223372036854775807 → 0 ≤ a ∧ a < 46116860184273879 → ∀ (H : AHeap) {Kk : AV → AHeap → Prop}, Kk (I (loadsS a l)) H → ACalls Tryz.prog f [.vs 4 (l.map ldV), I a] H Kk) {S : Sp} (hS : S = stS) :
    ∀ args pt, eLoads1 S args = some pt → ∀ (H : AHeap) (Kk : AV → AHeap → Prop), pt (fun r => Kk r H) → ACalls Tryz.prog f args H Kk := by
  intro args pt h H Kk hk
  subst hS
  unfold eLoads1 at h
  split at h
  · split at h
    · rename_i ys hy
      cases h
      obtain ⟨l, h1, h2, h3, h4⟩ := hk
      subst h1
      exact (hf l _ h2 h3 H h4).wk ⟨asVs_wk hy, Wk.rfl, trivial⟩
    · cases h
  · cases h
theorem ePart_ok {f : Nat} (hf : ∀ (l : List (Int × Int)) (n : Int), l ≠ [] → l.length ≤ 9223372036854775807 → ∀ (H : AHeap) {Kk : AV → AHeap → Prop}, Kk (I (partS l n)) H → ACalls Tryz.prog f [.vs 2 (l.map sp), I n] H Kk) {S : Sp} (hS : S = stS) :
    ∀ args pt, ePart S args = some pt → ∀ (H : AHeap) (Kk : AV → AHeap → Prop), pt (fun r => Kk r H) → ACalls Tryz.prog f args H Kk := by
  intro args pt h H Kk hk
  subst hS
  unfold ePart at h
  split at h
  · split at h
    · rename_i ys hy
      cases h
      obtain ⟨l, h1, h2, h3, h4⟩ := hk
      subst h1
      exact (hf l _ h2 h3 H h4).wk ⟨asVs_wk hy, Wk.rfl, trivial⟩
    · cases h
  · cases h
def tb3 (S : Sp) : PTab := (27, eCheck S) :: (29, eFaults S) :: (39, eLoads1 S) :: (32, ePart S) :: tb2 S
theorem tb3_ok {S : Sp} (hS : S = stS) : PTabOk Tryz.prog (tb3 S) := .cons (eCheck_ok p27 hS) (.cons (eFaults_ok p29 hS) (.cons (eLoads1_ok p39 hS) (.cons (ePart_ok p32 hS) (tb2_ok hS))))
theorem p38 (p : Plate) {a b : Int} {xs ec : List AV} {ne ed gr lo hi sh wi : Int} (hp : PlateIs p a b xs ec ne ed gr lo hi sh wi) (h1 : p.shares.length ≤ 9223372036854775807) (h2 : p.creep.length ≤ 9223372036854775807) (ice cr : List (Int × Int)) (h3 : ice.length ≤ 9223372036854775807) (h4 : cr.length ≤ 9223372036854775807) (H : AHeap) {Kk : AV → AHeap → Prop} (h : Kk (I (checkAllS p ice cr)) H) :
    ACalls Tryz.prog 38 [plV a b (.vs 2 xs) (.vs 2 ec) ne ed gr lo hi sh wi, .vs 2 (ice.map sp), .vs 2 (cr.map sp)] H Kk := by
  refine pureC (by rfl) (by rfl) (fun Kk h => ?_) H h
  obtain ⟨xi, hxi⟩ : ∃ xi, xi = ice.map sp := ⟨_, rfl⟩
  obtain ⟨xc, hxc⟩ : ∃ xc, xc = cr.map sp := ⟨_, rfl⟩
  rw [← hxi, ← hxc]
  obtain ⟨A, hA⟩ : ∃ A, A = std := ⟨_, rfl⟩
  obtain ⟨S, hS⟩ : ∃ S, S = stS := ⟨_, rfl⟩
  obtain ⟨W, hW⟩ : ∃ W, W = checkAllS p ice cr := ⟨_, rfl⟩
  rw [← hW] at h
  refine go38 rfl (SGo_run hA ⟨[], [], tb3 S, []⟩ (tb3_ok hS) .nil 200 fun T TD hT hTD => ?_)
  clear hT hTD
  cbv
  repeat' (first | (refine ⟨p, hp, h1, h2, ?_⟩; cbv) | (refine ⟨ice, hxi, h3, ?_⟩; cbv) | (refine ⟨cr, hxc, h4, ?_⟩; cbv) | (split <;> cbv))
  all_goals
    refine leaf h (congrArg I ?_) rfl
    clear h
    subst hA hS hW
    clear hp
    simp only [std, stS, iLt, iLe, iEq, iNe, iLen, wiS, ouS, bne_iff_ne, ne_eq, beq_iff_eq, Bool.and_eq_true, Bool.or_eq_true, Bool.or_eq_false_iff, Bool.and_eq_false_iff, decide_eq_true_eq, decide_eq_false_iff_not, bne_eq_false_iff_eq, beq_eq_false_iff_ne, Bool.not_eq_true', Bool.not_eq_false'] at *
    simp only [checkAllS]
    repeat' split
    all_goals first | omega | rfl
theorem p57 (w : Bool) (a b : Int) (H : AHeap) {Kk : AV → AHeap → Prop} (h : Kk (I (strS w (a, b))) H) : ACalls Tryz.prog 57 [.agg [B w], .agg [I a, I b]] H Kk := by
  refine pureC (by rfl) (by rfl) (fun Kk h => ?_) H h
  obtain ⟨A, hA⟩ : ∃ A, A = std := ⟨_, rfl⟩
  refine go57 rfl (SGo_run hA ⟨[], [], [], []⟩ .nil .nil 200 fun T TD hT hTD => ?_)
  cases w
  all_goals
    cbv
    exact h
theorem p77 (w : Bool) (a b : Int) (H : AHeap) {Kk : AV → AHeap → Prop} (h : Kk (I (hevS w (a, b))) H) : ACalls Tryz.prog 77 [.agg [B w], .agg [I a, I b]] H Kk := by
  refine pureC (by rfl) (by rfl) (fun Kk h => ?_) H h
  obtain ⟨A, hA⟩ : ∃ A, A = std := ⟨_, rfl⟩
  refine go77 rfl (SGo_run hA ⟨[], [], [], []⟩ .nil .nil 200 fun T TD hT hTD => ?_)
  cases w
  all_goals
    cbv
    exact h
theorem p87 (w : Bool) (a b m n : Int) (hs : Sm a ∧ Sm b ∧ Sm m ∧ Sm n) (H : AHeap) {Kk : AV → AHeap → Prop} (h : Kk (B (nearS w (a, b) m n)) H) : ACalls Tryz.prog 87 [.agg [B w], .agg [I a, I b], I m, I n] H Kk := by
  cases w
  all_goals
    refine pureC (by rfl) (by rfl) (fun Kk h => ?_) H h
    obtain ⟨A, hA⟩ : ∃ A, A = std := ⟨_, rfl⟩
    generalize hW : nearS _ (a, b) m n = W at h
    refine go87 rfl (SGo_run hA ⟨[], [], [], []⟩ .nil .nil 200 fun T TD hT hTD => ?_)
    clear hT hTD
    cbv
    split <;> cbv
    all_goals
      refine leaf h (congrArg B (Bool.eq_iff_iff.2 ?_)) rfl
      subst hA hW
      unfold Sm at hs
      simp only [std, stS, iLt, iLe, iEq, iNe, iLen, wiS, ouS, bne_iff_ne, ne_eq, beq_iff_eq, Bool.and_eq_true, Bool.or_eq_true, Bool.or_eq_false_iff, Bool.and_eq_false_iff, decide_eq_true_eq, decide_eq_false_iff_not, bne_eq_false_iff_eq, beq_eq_false_iff_ne, Bool.not_eq_true', Bool.not_eq_false'] at *
      simp (disch := omega) only [iSub_id, iAdd_id] at *
      simp [nearS]
      try omega
end Go.Sas
namespace Go.Sas
open Go.Proofs
set_option maxRecDepth 100000
theorem eStr_ok {S : Sp2} (hS : S = st2) : ∀ args pt, eStr S args = some pt → ∀ (H : AHeap) (Kk : AV → AHeap → Prop), pt (fun r => Kk r H) → ACalls Tryz.prog 57 args H Kk := by
  intro args pt h H Kk hk
  subst hS
  unfold eStr at h
  split at h
  · cases h; exact p57 _ _ _ H hk
  · cases h
theorem eHev_ok {S : Sp2} (hS : S = st2) : ∀ args pt, eHev S args = some pt → ∀ (H : AHeap) (Kk : AV → AHeap → Prop), pt (fun r => Kk r H) → ACalls Tryz.prog 77 args H Kk := by
  intro args pt h H Kk hk
  subst hS
  unfold eHev at h
  split at h
  · cases h; exact p77 _ _ _ H hk
  · cases h
theorem eNear_ok {S : Sp2} (hS : S = st2) : ∀ args pt, eNear S args = some pt → ∀ (H : AHeap) (Kk : AV → AHeap → Prop), pt (fun r => Kk r H) → ACalls Tryz.prog 87 args H Kk := by
  intro args pt h H Kk hk
  subst hS
  unfold eNear at h
  split at h
  · cases h; obtain ⟨_, h1, h2⟩ := hk; exact p87 _ _ _ _ _ h1 H h2
  · cases h
def tb4 (S : Sp) (S2 : Sp2) : PTab := (57, eStr S2) :: (77, eHev S2) :: (87, eNear S2) :: tb3 S
theorem tb4_ok {S : Sp} (hS : S = stS) {S2 : Sp2} (hS2 : S2 = st2) : PTabOk Tryz.prog (tb4 S S2) := .cons (eStr_ok hS2) (.cons (eHev_ok hS2) (.cons (eNear_ok hS2) (tb3_ok hS)))
theorem p33 (w : Bool) (p : Plate) {a b : Int} {xs ec : List AV} {ne ed gr lo hi sh wi : Int} (hp : PlateIs p a b xs ec ne ed gr lo hi sh wi) (hV : PlateV p) (xi xc : List AV) (u t n : Int) (hu : 0 ≤ u ∧ u ≤ 6000000000000) (ht : 0 ≤ t ∧ t ≤ 5000) (H : AHeap) {Kk : AV → AHeap → Prop} (h : Kk (B (enS w p u t n)) H) :
    ACalls Tryz.prog 33 [scV w a b (.vs 2 xs) (.vs 2 ec) ne ed gr lo hi sh wi (.vs 2 xi) (.vs 2 xc), I u, I t, I n] H Kk := by
  refine pureC (by rfl) (by rfl) (fun Kk h => ?_) H h
  obtain ⟨A, hA⟩ : ∃ A, A = std := ⟨_, rfl⟩
  obtain ⟨S, hS⟩ : ∃ S, S = stS := ⟨_, rfl⟩
  obtain ⟨S2, hS2⟩ : ∃ S, S = st2 := ⟨_, rfl⟩
  generalize hW : enS w p u t n = W at h
  obtain ⟨cl, hcl⟩ : ∃ cl, cl = p.creep := ⟨_, rfl⟩
  have hc : ec = cl.map sp := by rw [hcl]; exact hp.hc
  refine go33 rfl (SGo_run hA ⟨[], [], tb4 S S2, []⟩ (tb4_ok hS hS2) .nil 200 fun T TD hT hTD => ?_)
  clear hT hTD
  cbv
  refine ⟨cl, hc, by rw [hcl]; exact hV.cr.ne, by rw [hcl]; have := hV.cr.len; omega, ?_⟩
  cbv
  refine leaf h (congrArg B ?_) rfl
  subst hA hS hS2
  have hs := strS_bnd (w := w) (x := p.str) ⟨hV.s1, hV.s2, hV.s3⟩
  have hq := hV.cr.part n
  obtain ⟨e1, l1, u1⟩ := mulB ⟨by omega, hs.2⟩ ht (by omega)
  obtain ⟨e2, l2, u2⟩ := mulB ⟨l1, u1⟩ ht (by omega)
  obtain ⟨e3, l3, u3⟩ := mulB ⟨l2, u2⟩ hq (by omega)
  have e4 : iMul .i64 u 1000000 = u * 1000000 := iMul_id (by omega) (by omega)
  rw [hp.str] at e1 e2 e3
  rw [← hcl] at e3
  simp only [std, stS, st2, e1, e2, e3, e4, iLe]
  rw [← hW, enS, hp.str, ← hcl]
end Go.Sas
namespace Go.Sas
open Go.Proofs
set_option maxRecDepth 100000
theorem burd_take {w : Bool} {p : Plate} {l : List Load} {m : Int} {j : Nat} {x : Load} (hx : l[j]? = some x) : burdS w p (l.take (j + 1)) m = burdS w p (l.take j) m + burdF w p m x := by
  unfold burdS; rw [List.take_add_one, hx]; simp
theorem LoadsV.take {places : Int} {l : List Load} (h : LoadsV places l) (j : Nat) : ∀ x ∈ l.take j, LoadV places x := fun x hx => h.all x (List.mem_of_mem_take hx)
theorem LoadsV.burd {w : Bool} {p : Plate} {places m : Int} {l : List Load} (hp : PlateV p) (h : LoadsV places l) (j : Nat) : 0 ≤ burdS w p (l.take j) m ∧ burdS w p (l.take j) m ≤ 6000000000000 := by
  have h1 := burdS_bnd (w := w) (m := m) hp (h.take j)
  have h2 := h.len
  have h3 : (l.take j).length ≤ l.length := by simp; omega
  omega
theorem p78 (w : Bool) (p : Plate) {a b : Int} {xs ec : List AV} {ne ed gr lo hi sh wi : Int} (hp : PlateIs p a b xs ec ne ed gr lo hi sh wi) (ice l : List (Int × Int)) (hV : RoadV p ice l) (m : Int) (hm : 0 ≤ m ∧ m ≤ 100 * iLen ice.length - 1) (H : AHeap) {Kk : AV → AHeap → Prop} (h : Kk (I (thickS w p ice l m)) H) :
    ACalls Tryz.prog 78 [scV w a b (.vs 2 xs) (.vs 2 ec) ne ed gr lo hi sh wi (.vs 2 (ice.map sp)) (.vs 2 (l.map sp)), I m] H Kk := by
  have hn : 0 ≤ ne ∧ ne ≤ 10000 := by have h1 := hV.p.n1; have h2 := hV.p.n2; rw [hp.ne] at h1 h2; exact ⟨h1, h2⟩
  have he : 0 ≤ ed ∧ ed ≤ 1000000 := by have h1 := hV.p.e1; have h2 := hV.p.e2; rw [hp.ed] at h1 h2; exact ⟨h1, h2⟩
  have hpn := hp.ne
  have hpe := hp.ed
  refine pureC (by rfl) (by rfl) (fun Kk h => ?_) H h
  have hil := hV.il
  have hll := hV.cl
  have hlt0 : (m / 100).toNat < ice.length := by unfold iLen at hm; omega
  obtain ⟨⟨h1, h2⟩, hh⟩ : ∃ x, ice[(m / 100).toNat]? = some x := ⟨_, List.getElem?_eq_getElem hlt0⟩
  have hb := hV.ib _ (List.mem_of_getElem? hh)
  have hW : thickS w p ice l m = cutS p (strS w (h1, h2)) (l.any fun c => nearS w c m p.near) := by unfold thickS; rw [List.getD_eq_getElem?_getD, hh]; rfl
  generalize thickS w p ice l m = W at h hW
  obtain ⟨xi, hxi⟩ : ∃ xi, xi = ice.map sp := ⟨_, rfl⟩
  obtain ⟨ys, hys⟩ : ∃ ys, ys = l.map sp := ⟨_, rfl⟩
  rw [← hxi, ← hys]
  obtain ⟨A, hA⟩ : ∃ A, A = std := ⟨_, rfl⟩
  obtain ⟨S, hS⟩ : ∃ S, S = stS := ⟨_, rfl⟩
  obtain ⟨S2, hS2⟩ : ∃ S, S = st2 := ⟨_, rfl⟩
  have hq : A.quo .i64 m 100 = iLen (m / 100).toNat := by
    subst hA; simp only [std]; unfold iLen at hm; rw [iQuo_id (by omega) (by omega) (by omega)]; unfold iLen; omega
  have hii : A.ix 2 2 xi (A.quo .i64 m 100) [I h1, I h2] := by subst hA; exact ix_map hxi hq hh rfl
  refine go78 rfl (SGo_run hA ⟨[], [], tb4 S S2, []⟩ (tb4_ok hS hS2) .nil 200 fun T TD hT hTD => ?_)
  cbv
  refine Exists.intro _ (And.intro hii ?_)
  cbv
  rw [hT]
  have hst : S2.str w h1 h2 = strS w (h1, h2) := by subst hS2; rfl
  have hsb : 0 ≤ S2.str w h1 h2 ∧ S2.str w h1 h2 ≤ 5000 := by rw [hst]; exact strS_bnd hb
  rw [← hst] at hW
  refine AGo_up l.length (fun j => W = cutS p (S2.str w h1 h2) ((l.drop j).any fun c => nearS w c m p.near)) (fun _ i => [(0, scV w a b (.vs 2 xs) (.vs 2 ec) ne ed gr lo hi sh wi (.vs 2 xi) (.vs 2 ys)), (1, I m), (2, .mp 0 0 0), (4, I 0), (5, I (S2.str w h1 h2)), (18, .vs 2 ys), (19, I (A.vlen ys)), (20, I i)]) (fun _ => [.own 0 [B w, I a, I b, .vs 2 xs, .vs 2 ec, I ne, I ed, I gr, I lo, I hi, I sh, I wi, .vs 2 xi, .vs 2 ys]]) hW ⟨rfl, rfl, rfl, rfl, rfl, rfl, rfl, rfl, trivial⟩ (.inl rfl) fun j i hi' hj hP Bk hB => ?_
  have hlt : A.lt i (A.vlen ys) = decide (j < l.length) := by subst hA; exact lt_len (by simp [hys]) hi'
  have hadd : ∀ N, j < N → N ≤ 9223372036854775807 → A.add .i64 i 1 = iLen (j + 1) := fun N hj hN => by subst hA; exact add_one hi' hj hN
  refine SGo_run hA ⟨[], [], tb4 S S2, []⟩ (tb4_ok hS hS2) .nil 200 fun T TD hT hTD => ?_
  cbv
  split <;> cbv
  · rename_i hk1
    have hk1 : j < l.length := by have := hlt.symm.trans hk1; simpa using this
    obtain ⟨⟨x, y⟩, hx⟩ : ∃ x, l[j]? = some x := ⟨_, List.getElem?_eq_getElem hk1⟩
    have hix : A.ix 2 2 ys i [I x, I y] := by subst hA; exact ix_map hys hi' hx rfl
    have hc := hV.cb (x, y) (List.mem_of_getElem? hx)
    simp only at hc
    rw [drop_cons hx, List.any_cons] at hP
    refine Exists.intro _ (And.intro hix ?_)
    cbv
    refine Exists.intro () (And.intro (by unfold Sm; unfold iLen at hm; omega) ?_)
    cbv
    have hnr : S2.near w x y m ne = nearS w (x, y) m p.near := by subst hS2; rw [hpn]; rfl
    split <;> cbv
    · rename_i hq2
      have hq2 : S2.near w x y m ne = true := hq2
      refine leaf h (congrArg I ?_) rfl
      rw [hP, ← hnr, hq2]
      subst hA
      obtain ⟨e1, l1, u1⟩ := mulB hsb he (by omega)
      simp only [std, e1]
      rw [iQuo_id l1 (by omega) (by omega), Bool.true_or, ← hpe]; rfl
    · rename_i hq2
      have hq2 : S2.near w x y m ne = false := hq2
      rw [← hnr, hq2, Bool.false_or] at hP
      exact hB _ _ hk1 hP ⟨rfl, rfl, rfl, rfl, rfl, rfl, rfl, congrArg I (hadd _ hk1 (by omega)), trivial⟩ (.inr ⟨⟨_, rfl⟩, Nat.zero_le _, by simp [ltG, AV.lt, AV.ltL, scV], by simp [ltH, AObj.lt, AV.ltL, AV.lt]⟩)
  · rename_i hk1
    have hk1 : ¬ j < l.length := by have := hlt.symm.trans hk1; simpa using this
    refine leaf h (congrArg I ?_) rfl
    rw [hP, List.drop_eq_nil_of_le (by omega)]; rfl
end Go.Sas
