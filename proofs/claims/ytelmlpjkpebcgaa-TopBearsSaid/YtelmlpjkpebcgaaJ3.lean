/-
What the functions that ice rests on yield, part 4: whole roads; a search; sides.
What the functions that ice rests on yield, part 5: burdens and thicknesses.
What the functions that ice rests on yield, part 6: thickness, burdens, verdicts.
Conditions: none.
-/
import Derived.Test.YtelmlpjkpebcgaaJ2
import Derived.Test.YtelmlpjkpebcgaaJ1
import Derived.Test.YtelmlpjkpebcgaaQT2
set_option linter.unusedVariables false
set_option linter.unusedSimpArgs false
namespace Go.Sas
open Go.Proofs
set_option maxRecDepth 100000
theorem eCheck_ok {f : Nat} (hf : ∀ (p : Plate) {a b : Int} {xs ec : List AV} {ne ed gr lo hi sh wi : Int}, PlateIs p a b xs ec ne ed gr lo hi sh wi → p.shares.length ≤ 9223372036854775807 → p.creep.length ≤ 9223372036854775807 → ∀ (H : AHeap) {Kk : AV → AHeap → Prop}, Kk (I (checkS p)) H →
    ACalls Try.prog f [plV a b (.vs 2 xs) (.vs 2 ec) ne ed gr lo hi sh wi] H Kk) {S : Sp} (hS : S = stS) : ∀ args pt, eCheck S args = some pt → ∀ (H : AHeap) (Kk : AV → AHeap → Prop), pt (fun r => Kk r H) → ACalls Try.prog f args H Kk := by
  intro args pt h H Kk hk
  subst hS
  unfold eCheck at h
  split at h
  · split at h
    · rename_i xs ec h1 h2
      cases h
      obtain ⟨p, g1, g2, g3, g4⟩ := hk
      exact (hf p g1 g2 g3 H g4).wk ⟨Wk.agg ⟨Wk.rfl, Wk.rfl, asVs_wk h1, asVs_wk h2, Wk.rfl, Wk.rfl, Wk.rfl, Wk.rfl, Wk.rfl, Wk.rfl, Wk.rfl, trivial⟩, trivial⟩
    · cases h
  · cases h
theorem eFaults_ok {f : Nat} (hf : ∀ (l : List (Int × Int)) (a b : Int), l.length ≤ 9223372036854775807 → ∀ (H : AHeap) {Kk : AV → AHeap → Prop}, Kk (I (faultsS l a b)) H → ACalls Try.prog f [.vs 2 (l.map sp), I a, I b] H Kk) {S : Sp} (hS : S = stS) :
    ∀ args pt, eFaults S args = some pt → ∀ (H : AHeap) (Kk : AV → AHeap → Prop), pt (fun r => Kk r H) → ACalls Try.prog f args H Kk := by
  intro args pt h H Kk hk
  subst hS
  unfold eFaults at h
  split at h
  · split at h
    · rename_i ys hy
      cases h
      obtain ⟨l, h1, h2, h3⟩ := hk
      subst h1
      exact (hf l _ _ h2 H h3).wk ⟨asVs_wk hy, Wk.rfl, Wk.rfl, trivial⟩
    · cases h
  · cases h
theorem eLoads1_ok {f : Nat} (hf : ∀ (l : List Load) (a : Int), l.length ≤ 9223372036854775807 → 0 ≤ a ∧ a < 46116860184273879 → ∀ (H : AHeap) {Kk : AV → AHeap → Prop}, Kk (I (loadsS a l)) H → ACalls Try.prog f [.vs 4 (l.map ldV), I a] H Kk) {S : Sp} (hS : S = stS) :
    ∀ args pt, eLoads1 S args = some pt → ∀ (H : AHeap) (Kk : AV → AHeap → Prop), pt (fun r => Kk r H) → ACalls Try.prog f args H Kk := by
  intro args pt h H Kk hk
  subst hS
  unfold eLoads1 at h
  split at h
  · split at h
    · rename_i ys hy
      cases h
      obtain ⟨l, h1, h2, h3, h4⟩ := hk
      subst h1
      exact (hf l _ h2 h3 H h4).wk ⟨asVs_wk hy, Wk.rfl, trivial⟩
    · cases h
  · cases h
theorem eLoads2_ok {f : Nat} (hf : ∀ (l : List Load) (a : Int), l.length ≤ 9223372036854775807 → 0 ≤ a ∧ a < 46116860184273879 → ∀ (H : AHeap) {Kk : AV → AHeap → Prop}, Kk (I (loadsS a l)) H → ACalls Try.prog f [I a, .vs 4 (l.map ldV)] H Kk) {S : Sp} (hS : S = stS) :
    ∀ args pt, eLoads2 S args = some pt → ∀ (H : AHeap) (Kk : AV → AHeap → Prop), pt (fun r => Kk r H) → ACalls Try.prog f args H Kk := by
  intro args pt h H Kk hk
  subst hS
  unfold eLoads2 at h
  split at h
  · split at h
    · rename_i ys hy
      cases h
      obtain ⟨l, h1, h2, h3, h4⟩ := hk
      subst h1
      exact (hf l _ h2 h3 H h4).wk ⟨Wk.rfl, asVs_wk hy, trivial⟩
    · cases h
  · cases h
theorem ePart_ok {f : Nat} (hf : ∀ (l : List (Int × Int)) (n : Int), l ≠ [] → l.length ≤ 9223372036854775807 → ∀ (H : AHeap) {Kk : AV → AHeap → Prop}, Kk (I (partS l n)) H → ACalls Try.prog f [.vs 2 (l.map sp), I n] H Kk) {S : Sp} (hS : S = stS) :
    ∀ args pt, ePart S args = some pt → ∀ (H : AHeap) (Kk : AV → AHeap → Prop), pt (fun r => Kk r H) → ACalls Try.prog f args H Kk := by
  intro args pt h H Kk hk
  subst hS
  unfold ePart at h
  split at h
  · split at h
    · rename_i ys hy
      cases h
      obtain ⟨l, h1, h2, h3, h4⟩ := hk
      subst h1
      exact (hf l _ h2 h3 H h4).wk ⟨asVs_wk hy, Wk.rfl, trivial⟩
    · cases h
  · cases h
def tb3 (S : Sp) : PTab := (59, eCheck S) :: (60, eCheck S) :: (108, eFaults S) :: (112, eFaults S) :: (86, eLoads1 S) :: (89, eLoads2 S) :: (110, ePart S) :: (130, ePart S) :: tb2 S
theorem tb3_ok {S : Sp} (hS : S = stS) : PTabOk Try.prog (tb3 S) := .cons (eCheck_ok p59 hS) (.cons (eCheck_ok p60 hS) (.cons (eFaults_ok p108 hS) (.cons (eFaults_ok p112 hS) (.cons (eLoads1_ok p86 hS) (.cons (eLoads2_ok p89 hS) (.cons (ePart_ok p110 hS) (.cons (ePart_ok p130 hS) (tb2_ok hS))))))))
theorem p85 (p : Plate) {a b : Int} {xs ec : List AV} {ne ed gr lo hi sh wi : Int} (hp : PlateIs p a b xs ec ne ed gr lo hi sh wi) (h1 : p.shares.length ≤ 9223372036854775807) (h2 : p.creep.length ≤ 9223372036854775807) (ice cr : List (Int × Int)) (h3 : ice.length ≤ 9223372036854775807) (h4 : cr.length ≤ 9223372036854775807) (H : AHeap) {Kk : AV → AHeap → Prop} (h : Kk (I (checkAllS p ice cr)) H) :
    ACalls Try.prog 85 [plV a b (.vs 2 xs) (.vs 2 ec) ne ed gr lo hi sh wi, .vs 2 (ice.map sp), .vs 2 (cr.map sp)] H Kk := by
  refine pureC (by rfl) (by rfl) (fun Kk h => ?_) H h
  obtain ⟨xi, hxi⟩ : ∃ xi, xi = ice.map sp := ⟨_, rfl⟩
  obtain ⟨xc, hxc⟩ : ∃ xc, xc = cr.map sp := ⟨_, rfl⟩
  rw [← hxi, ← hxc]
  obtain ⟨A, hA⟩ : ∃ A, A = std := ⟨_, rfl⟩
  obtain ⟨S, hS⟩ : ∃ S, S = stS := ⟨_, rfl⟩
  obtain ⟨W, hW⟩ : ∃ W, W = checkAllS p ice cr := ⟨_, rfl⟩
  rw [← hW] at h
  refine go85 rfl (SGo_run hA ⟨[], [], tb3 S, []⟩ (tb3_ok hS) .nil 200 fun T TD hT hTD => ?_)
  clear hT hTD
  cbv
  repeat' (first | (refine ⟨p, hp, h1, h2, ?_⟩; cbv) | (refine ⟨ice, hxi, h3, ?_⟩; cbv) | (refine ⟨cr, hxc, h4, ?_⟩; cbv) | (split <;> cbv))
  all_goals
    refine leaf h (congrArg I ?_) rfl
    clear h
    subst hA hS hW
    clear hp
    simp only [std, stS, iLt, iLe, iEq, iNe, iLen, wiS, ouS, bne_iff_ne, ne_eq, beq_iff_eq, Bool.and_eq_true, Bool.or_eq_true, Bool.or_eq_false_iff, Bool.and_eq_false_iff, decide_eq_true_eq, decide_eq_false_iff_not, bne_eq_false_iff_eq, beq_eq_false_iff_ne, Bool.not_eq_true', Bool.not_eq_false'] at *
    simp only [checkAllS]
    repeat' split
    all_goals first | omega | rfl
theorem p141 (w : Bool) (a b : Int) (H : AHeap) {Kk : AV → AHeap → Prop} (h : Kk (I (strS w (a, b))) H) : ACalls Try.prog 141 [.agg [B w], .agg [I a, I b]] H Kk := by
  refine pureC (by rfl) (by rfl) (fun Kk h => ?_) H h
  obtain ⟨A, hA⟩ : ∃ A, A = std := ⟨_, rfl⟩
  refine go141 rfl (SGo_run hA ⟨[], [], [], []⟩ .nil .nil 200 fun T TD hT hTD => ?_)
  cases w
  all_goals
    cbv
    exact h
theorem p155 (w : Bool) (a b : Int) (H : AHeap) {Kk : AV → AHeap → Prop} (h : Kk (I (hevS w (a, b))) H) : ACalls Try.prog 155 [.agg [B w], .agg [I a, I b]] H Kk := by
  refine pureC (by rfl) (by rfl) (fun Kk h => ?_) H h
  obtain ⟨A, hA⟩ : ∃ A, A = std := ⟨_, rfl⟩
  refine go155 rfl (SGo_run hA ⟨[], [], [], []⟩ .nil .nil 200 fun T TD hT hTD => ?_)
  cases w
  all_goals
    cbv
    exact h
theorem p164 (w : Bool) (a b m n : Int) (hs : Sm a ∧ Sm b ∧ Sm m ∧ Sm n) (H : AHeap) {Kk : AV → AHeap → Prop} (h : Kk (B (nearS w (a, b) m n)) H) : ACalls Try.prog 164 [.agg [B w], .agg [I a, I b], I m, I n] H Kk := by
  cases w
  all_goals
    refine pureC (by rfl) (by rfl) (fun Kk h => ?_) H h
    obtain ⟨A, hA⟩ : ∃ A, A = std := ⟨_, rfl⟩
    generalize hW : nearS _ (a, b) m n = W at h
    refine go164 rfl (SGo_run hA ⟨[], [], [], []⟩ .nil .nil 200 fun T TD hT hTD => ?_)
    clear hT hTD
    cbv
    split <;> cbv
    all_goals
      refine leaf h (congrArg B (Bool.eq_iff_iff.2 ?_)) rfl
      subst hA hW
      unfold Sm at hs
      simp only [std, stS, iLt, iLe, iEq, iNe, iLen, wiS, ouS, bne_iff_ne, ne_eq, beq_iff_eq, Bool.and_eq_true, Bool.or_eq_true, Bool.or_eq_false_iff, Bool.and_eq_false_iff, decide_eq_true_eq, decide_eq_false_iff_not, bne_eq_false_iff_eq, beq_eq_false_iff_ne, Bool.not_eq_true', Bool.not_eq_false'] at *
      simp (disch := omega) only [iSub_id, iAdd_id] at *
      simp [nearS]
      try omega
theorem p142 (a b : Int) (H : AHeap) {Kk : AV → AHeap → Prop} (hs : Sm a ∧ Sm b) (h : Kk (I (farS a b)) H) : ACalls Try.prog 142 [I a, I b] H Kk := by
  refine pureC (by rfl) (by rfl) (fun Kk h => ?_) H h
  obtain ⟨A, hA⟩ : ∃ A, A = std := ⟨_, rfl⟩
  obtain ⟨W, hW⟩ : ∃ W, W = farS a b := ⟨_, rfl⟩
  rw [← hW] at h
  refine go142 rfl (SGo_run hA ⟨[], [], [], []⟩ .nil .nil 200 fun T TD hT hTD => ?_)
  clear hT hTD
  cbv
  refine leaf h (congrArg I ?_) rfl
  subst hA hW
  unfold Sm at hs
  simp (disch := omega) only [std, iSub_id, farS]
end Go.Sas
namespace Go.Sas
open Go.Proofs
set_option maxRecDepth 100000
theorem eStr_ok {S : Sp2} (hS : S = st2) : ∀ args pt, eStr S args = some pt → ∀ (H : AHeap) (Kk : AV → AHeap → Prop), pt (fun r => Kk r H) → ACalls Try.prog 141 args H Kk := by
  intro args pt h H Kk hk
  subst hS
  unfold eStr at h
  split at h
  · cases h; exact p141 _ _ _ H hk
  · cases h
theorem eHev_ok {S : Sp2} (hS : S = st2) : ∀ args pt, eHev S args = some pt → ∀ (H : AHeap) (Kk : AV → AHeap → Prop), pt (fun r => Kk r H) → ACalls Try.prog 155 args H Kk := by
  intro args pt h H Kk hk
  subst hS
  unfold eHev at h
  split at h
  · cases h; exact p155 _ _ _ H hk
  · cases h
theorem eNear_ok {S : Sp2} (hS : S = st2) : ∀ args pt, eNear S args = some pt → ∀ (H : AHeap) (Kk : AV → AHeap → Prop), pt (fun r => Kk r H) → ACalls Try.prog 164 args H Kk := by
  intro args pt h H Kk hk
  subst hS
  unfold eNear at h
  split at h
  · cases h; obtain ⟨_, h1, h2⟩ := hk; exact p164 _ _ _ _ _ h1 H h2
  · cases h
theorem eFar_ok {S : Sp2} (hS : S = st2) : ∀ args pt, eFar S args = some pt → ∀ (H : AHeap) (Kk : AV → AHeap → Prop), pt (fun r => Kk r H) → ACalls Try.prog 142 args H Kk := by
  intro args pt h H Kk hk
  subst hS
  unfold eFar at h
  split at h
  · cases h; obtain ⟨_, h1, h2⟩ := hk; exact p142 _ _ H h1 h2
  · cases h
def tb4 (S : Sp) (S2 : Sp2) : PTab := (141, eStr S2) :: (155, eHev S2) :: (164, eNear S2) :: (142, eFar S2) :: tb3 S
theorem tb4_ok {S : Sp} (hS : S = stS) {S2 : Sp2} (hS2 : S2 = st2) : PTabOk Try.prog (tb4 S S2) := .cons (eStr_ok hS2) (.cons (eHev_ok hS2) (.cons (eNear_ok hS2) (.cons (eFar_ok hS2) (tb3_ok hS))))
theorem p111 (w : Bool) (p : Plate) {a b : Int} {xs ec : List AV} {ne ed gr lo hi sh wi : Int} (hp : PlateIs p a b xs ec ne ed gr lo hi sh wi) (hV : PlateV p) (xi xc : List AV) (u t n : Int) (hu : 0 ≤ u ∧ u ≤ 6000000000000) (ht : 0 ≤ t ∧ t ≤ 5000) (H : AHeap) {Kk : AV → AHeap → Prop} (h : Kk (B (enS w p u t n)) H) :
    ACalls Try.prog 111 [scV w a b (.vs 2 xs) (.vs 2 ec) ne ed gr lo hi sh wi (.vs 2 xi) (.vs 2 xc), I u, I t, I n] H Kk := by
  refine pureC (by rfl) (by rfl) (fun Kk h => ?_) H h
  obtain ⟨A, hA⟩ : ∃ A, A = std := ⟨_, rfl⟩
  obtain ⟨S, hS⟩ : ∃ S, S = stS := ⟨_, rfl⟩
  obtain ⟨S2, hS2⟩ : ∃ S, S = st2 := ⟨_, rfl⟩
  generalize hW : enS w p u t n = W at h
  obtain ⟨cl, hcl⟩ : ∃ cl, cl = p.creep := ⟨_, rfl⟩
  have hc : ec = cl.map sp := by rw [hcl]; exact hp.hc
  refine go111 rfl (SGo_run hA ⟨[], [], tb4 S S2, []⟩ (tb4_ok hS hS2) .nil 200 fun T TD hT hTD => ?_)
  clear hT hTD
  cbv
  refine ⟨cl, hc, by rw [hcl]; exact hV.cr.ne, by rw [hcl]; have := hV.cr.len; omega, ?_⟩
  cbv
  refine leaf h (congrArg B ?_) rfl
  subst hA hS hS2
  have hs := strS_bnd (w := w) (x := p.str) ⟨hV.s1, hV.s2, hV.s3⟩
  have hq := hV.cr.part n
  obtain ⟨e1, l1, u1⟩ := mulB ⟨by omega, hs.2⟩ ht (by omega)
  obtain ⟨e2, l2, u2⟩ := mulB ⟨l1, u1⟩ ht (by omega)
  obtain ⟨e3, l3, u3⟩ := mulB ⟨l2, u2⟩ hq (by omega)
  have e4 : iMul .i64 u 1000000 = u * 1000000 := iMul_id (by omega) (by omega)
  rw [hp.str] at e1 e2 e3
  rw [← hcl] at e3
  simp only [std, stS, st2, e1, e2, e3, e4, iLe]
  rw [← hW, enS, hp.str, ← hcl]
theorem p132 (u s t c : Int) (hu : 0 ≤ u ∧ u ≤ 6000000000000) (hs : 0 ≤ s ∧ s ≤ 100000) (ht : 0 ≤ t ∧ t ≤ 5000) (hc : 0 ≤ c ∧ c ≤ 1000000) (H : AHeap) {Kk : AV → AHeap → Prop} (h : Kk (B (borS u s t c)) H) : ACalls Try.prog 132 [I u, I s, I t, I c] H Kk := by
  refine pureC (by rfl) (by rfl) (fun Kk h => ?_) H h
  obtain ⟨A, hA⟩ : ∃ A, A = std := ⟨_, rfl⟩
  generalize hW : borS u s t c = W at h
  refine go132 rfl (SGo_run hA ⟨[], [], [], []⟩ .nil .nil 200 fun T TD hT hTD => ?_)
  clear hT hTD
  cbv
  refine leaf h (congrArg B ?_) rfl
  subst hA
  obtain ⟨e1, l1, u1⟩ := mulB hs ht (by omega)
  obtain ⟨e2, l2, u2⟩ := mulB ⟨l1, u1⟩ ht (by omega)
  obtain ⟨e3, l3, u3⟩ := mulB ⟨l2, u2⟩ hc (by omega)
  have e4 : iMul .i64 u 1000000 = u * 1000000 := iMul_id (by omega) (by omega)
  simp only [std, e1, e2, e3, e4, iLe]
  rw [← hW, borS]
theorem p133 (p : Plate) {a b : Int} {xs ec : List AV} {ne ed gr lo hi sh wi : Int} (hp : PlateIs p a b xs ec ne ed gr lo hi sh wi) (hV : PlateV p) (t : Int) (c : Bool) (ht : 0 ≤ t ∧ t ≤ 5000) (H : AHeap) {Kk : AV → AHeap → Prop} (h : Kk (I (cutS p t c)) H) :
    ACalls Try.prog 133 [plV a b (.vs 2 xs) (.vs 2 ec) ne ed gr lo hi sh wi, I t, B c] H Kk := by
  cases c
  all_goals
    refine pureC (by rfl) (by rfl) (fun Kk h => ?_) H h
    obtain ⟨A, hA⟩ : ∃ A, A = std := ⟨_, rfl⟩
    generalize hW : cutS p t _ = W at h
    refine go133 rfl (SGo_run hA ⟨[], [], [], []⟩ .nil .nil 200 fun T TD hT hTD => ?_)
    clear hT hTD
    cbv
    refine leaf h (congrArg I ?_) rfl
  · rw [← hW]; rfl
  · subst hA
    have he : 0 ≤ ed ∧ ed ≤ 1000000 := by have h1 := hV.e1; have h2 := hV.e2; rw [hp.ed] at h1 h2; exact ⟨h1, h2⟩
    obtain ⟨e1, l1, u1⟩ := mulB ht he (by omega)
    simp only [std, e1]
    rw [iQuo_id l1 (by omega) (by omega), ← hW, ← hp.ed]; rfl
theorem p134 (p : Plate) {a b : Int} {xs ec : List AV} {ne ed gr lo hi sh wi : Int} (hp : PlateIs p a b xs ec ne ed gr lo hi sh wi) (hV : PlateV p) (l : List (Int × Int)) (m : Int) (hl : l.length ≤ 50) (hc : ∀ x ∈ l, 0 ≤ x.1 ∧ x.1 ≤ x.2 ∧ x.2 ≤ 100000) (hm : 0 ≤ m ∧ m ≤ 100000) (H : AHeap) {Kk : AV → AHeap → Prop} (h : Kk (B (anyS true p l m)) H) :
    ACalls Try.prog 134 [plV a b (.vs 2 xs) (.vs 2 ec) ne ed gr lo hi sh wi, .vs 2 (l.map sp), I m] H Kk := by
  have hn : 0 ≤ ne ∧ ne ≤ 10000 := by have h1 := hV.n1; have h2 := hV.n2; rw [hp.ne] at h1 h2; exact ⟨h1, h2⟩
  have hpn := hp.ne
  refine pureC (by rfl) (by rfl) (fun Kk h => ?_) H h
  generalize hW : anyS true p l m = W at h
  obtain ⟨ys, hys⟩ : ∃ ys, ys = l.map sp := ⟨_, rfl⟩
  rw [← hys]
  obtain ⟨A, hA⟩ : ∃ A, A = std := ⟨_, rfl⟩
  obtain ⟨S, hS⟩ : ∃ S, S = stS := ⟨_, rfl⟩
  obtain ⟨S2, hS2⟩ : ∃ S, S = st2 := ⟨_, rfl⟩
  refine go134 rfl (SGo_run hA ⟨[], [], tb4 S S2, []⟩ (tb4_ok hS hS2) .nil 200 fun T TD hT hTD => ?_)
  cbv
  rw [hT]
  refine AGo_up l.length (fun j => W = (l.drop j).any fun c => nearS true c m ne) (fun _ i => [(0, plV a b (.vs 2 xs) (.vs 2 ec) ne ed gr lo hi sh wi), (1, .vs 2 ys), (2, I m), (3, .mp 0 0 0), (6, B false), (7, I i)]) (fun _ => [.own 0 [I a, I b, .vs 2 xs, .vs 2 ec, I ne, I ed, I gr, I lo, I hi, I sh, I wi]]) (by rw [← hW, anyS, hpn]; rfl) ⟨rfl, rfl, rfl, rfl, rfl, rfl, trivial⟩ (.inl rfl) fun j i hi' hj hP Bk hB => ?_
  have hlt : A.lt i (A.vlen ys) = decide (j < l.length) := by subst hA; exact lt_len (by simp [hys]) hi'
  have hadd : ∀ N, j < N → N ≤ 9223372036854775807 → A.add .i64 i 1 = iLen (j + 1) := fun N hj hN => by subst hA; exact add_one hi' hj hN
  refine SGo_run hA ⟨[], [], tb4 S S2, []⟩ (tb4_ok hS hS2) .nil 200 fun T TD hT hTD => ?_
  cbv
  split <;> cbv
  · rename_i hk1
    have hk1 : j < l.length := by have := hlt.symm.trans hk1; simpa using this
    obtain ⟨⟨x, y⟩, hx⟩ : ∃ x, l[j]? = some x := ⟨_, List.getElem?_eq_getElem hk1⟩
    have hix : A.ix 2 2 ys i [I x, I y] := by subst hA; exact ix_map hys hi' hx rfl
    have hb := hc (x, y) (List.mem_of_getElem? hx)
    simp only at hb
    rw [drop_cons hx, List.any_cons] at hP
    repeat' (first | (refine Exists.intro _ (And.intro hix ?_); cbv) | (refine Exists.intro () (And.intro (by unfold Sm; omega) ?_); cbv) | (split <;> cbv))
    all_goals first | refine leaf h (congrArg B ?_) rfl | refine hB _ _ hk1 ?_ ⟨rfl, rfl, rfl, rfl, rfl, congrArg I (hadd _ hk1 (by omega)), trivial⟩ (.inl rfl)
    all_goals clear hadd hlt hix h
    all_goals
      subst hA hS2
      simp only [std, st2, farS, iMax_eq, iLe, decide_eq_true_eq, decide_eq_false_iff_not] at *
      try simp (disch := omega) only [iAdd_id, iSub_id] at *
      rw [hP]
      simp only [nearS]
      try simp
      try omega
  · rename_i hk1
    have hk1 : ¬ j < l.length := by have := hlt.symm.trans hk1; simpa using this
    refine leaf h (congrArg B ?_) rfl
    rw [hP, List.drop_eq_nil_of_le (by omega)]; rfl
theorem p135 (p : Plate) {a b : Int} {xs ec : List AV} {ne ed gr lo hi sh wi : Int} (hp : PlateIs p a b xs ec ne ed gr lo hi sh wi) (hV : PlateV p) (l : List (Int × Int)) (m : Int) (hl : l.length ≤ 50) (hc : ∀ x ∈ l, 0 ≤ x.1 ∧ x.1 ≤ x.2 ∧ x.2 ≤ 100000) (hm : 0 ≤ m ∧ m ≤ 100000) (H : AHeap) {Kk : AV → AHeap → Prop} (h : Kk (B (anyS false p l m)) H) :
    ACalls Try.prog 135 [plV a b (.vs 2 xs) (.vs 2 ec) ne ed gr lo hi sh wi, .vs 2 (l.map sp), I m] H Kk := by
  have hn : 0 ≤ ne ∧ ne ≤ 10000 := by have h1 := hV.n1; have h2 := hV.n2; rw [hp.ne] at h1 h2; exact ⟨h1, h2⟩
  have hpn := hp.ne
  refine pureC (by rfl) (by rfl) (fun Kk h => ?_) H h
  generalize hW : anyS false p l m = W at h
  obtain ⟨ys, hys⟩ : ∃ ys, ys = l.map sp := ⟨_, rfl⟩
  rw [← hys]
  obtain ⟨A, hA⟩ : ∃ A, A = std := ⟨_, rfl⟩
  obtain ⟨S, hS⟩ : ∃ S, S = stS := ⟨_, rfl⟩
  obtain ⟨S2, hS2⟩ : ∃ S, S = st2 := ⟨_, rfl⟩
  refine go135 rfl (SGo_run hA ⟨[], [], tb4 S S2, []⟩ (tb4_ok hS hS2) .nil 200 fun T TD hT hTD => ?_)
  cbv
  rw [hT]
  refine AGo_up l.length (fun j => W = (l.drop j).any fun c => nearS false c m ne) (fun _ i => [(0, plV a b (.vs 2 xs) (.vs 2 ec) ne ed gr lo hi sh wi), (1, .vs 2 ys), (2, I m), (3, .mp 0 0 0), (6, B false), (7, I i)]) (fun _ => [.own 0 [I a, I b, .vs 2 xs, .vs 2 ec, I ne, I ed, I gr, I lo, I hi, I sh, I wi]]) (by rw [← hW, anyS, hpn]; rfl) ⟨rfl, rfl, rfl, rfl, rfl, rfl, trivial⟩ (.inl rfl) fun j i hi' hj hP Bk hB => ?_
  have hlt : A.lt i (A.vlen ys) = decide (j < l.length) := by subst hA; exact lt_len (by simp [hys]) hi'
  have hadd : ∀ N, j < N → N ≤ 9223372036854775807 → A.add .i64 i 1 = iLen (j + 1) := fun N hj hN => by subst hA; exact add_one hi' hj hN
  refine SGo_run hA ⟨[], [], tb4 S S2, []⟩ (tb4_ok hS hS2) .nil 200 fun T TD hT hTD => ?_
  cbv
  split <;> cbv
  · rename_i hk1
    have hk1 : j < l.length := by have := hlt.symm.trans hk1; simpa using this
    obtain ⟨⟨x, y⟩, hx⟩ : ∃ x, l[j]? = some x := ⟨_, List.getElem?_eq_getElem hk1⟩
    have hix : A.ix 2 2 ys i [I x, I y] := by subst hA; exact ix_map hys hi' hx rfl
    have hb := hc (x, y) (List.mem_of_getElem? hx)
    simp only at hb
    rw [drop_cons hx, List.any_cons] at hP
    repeat' (first | (refine Exists.intro _ (And.intro hix ?_); cbv) | (refine Exists.intro () (And.intro (by unfold Sm; omega) ?_); cbv) | (split <;> cbv))
    all_goals first | refine leaf h (congrArg B ?_) rfl | refine hB _ _ hk1 ?_ ⟨rfl, rfl, rfl, rfl, rfl, congrArg I (hadd _ hk1 (by omega)), trivial⟩ (.inl rfl)
    all_goals clear hadd hlt hix h
    all_goals
      subst hA hS2
      simp only [std, st2, farS, iMax_eq, iLe, decide_eq_true_eq, decide_eq_false_iff_not] at *
      try simp (disch := omega) only [iAdd_id, iSub_id] at *
      rw [hP]
      simp only [nearS]
      try simp
      try omega
  · rename_i hk1
    have hk1 : ¬ j < l.length := by have := hlt.symm.trans hk1; simpa using this
    refine leaf h (congrArg B ?_) rfl
    rw [hP, List.drop_eq_nil_of_le (by omega)]; rfl
end Go.Sas
namespace Go.Sas
open Go.Proofs
set_option maxRecDepth 100000
theorem farS_comm (a b : Int) : farS a b = farS b a := by simp only [farS, iMax_eq]; omega
theorem burd_take {w : Bool} {p : Plate} {l : List Load} {m : Int} {j : Nat} {x : Load} (hx : l[j]? = some x) : burdS w p (l.take (j + 1)) m = burdS w p (l.take j) m + burdF w p m x := by
  unfold burdS; rw [List.take_add_one, hx]; simp
theorem LoadsV.take {places : Int} {l : List Load} (h : LoadsV places l) (j : Nat) : ∀ x ∈ l.take j, LoadV places x := fun x hx => h.all x (List.mem_of_mem_take hx)
theorem LoadsV.burd {w : Bool} {p : Plate} {places m : Int} {l : List Load} (hp : PlateV p) (h : LoadsV places l) (j : Nat) : 0 ≤ burdS w p (l.take j) m ∧ burdS w p (l.take j) m ≤ 6000000000000 := by
  have h1 := burdS_bnd (w := w) (m := m) hp (h.take j)
  have h2 := h.len
  have h3 : (l.take j).length ≤ l.length := by simp; omega
  omega
theorem p156 (w : Bool) (p : Plate) {a b : Int} {xs ec : List AV} {ne ed gr lo hi sh wi : Int} (hp : PlateIs p a b xs ec ne ed gr lo hi sh wi) (ice l : List (Int × Int)) (hV : RoadV p ice l) (m : Int) (hm : 0 ≤ m ∧ m ≤ 100 * iLen ice.length - 1) (H : AHeap) {Kk : AV → AHeap → Prop} (h : Kk (I (thickS w p ice l m)) H) :
    ACalls Try.prog 156 [scV w a b (.vs 2 xs) (.vs 2 ec) ne ed gr lo hi sh wi (.vs 2 (ice.map sp)) (.vs 2 (l.map sp)), I m] H Kk := by
  have hn : 0 ≤ ne ∧ ne ≤ 10000 := by have h1 := hV.p.n1; have h2 := hV.p.n2; rw [hp.ne] at h1 h2; exact ⟨h1, h2⟩
  have he : 0 ≤ ed ∧ ed ≤ 1000000 := by have h1 := hV.p.e1; have h2 := hV.p.e2; rw [hp.ed] at h1 h2; exact ⟨h1, h2⟩
  have hpn := hp.ne
  have hpe := hp.ed
  refine pureC (by rfl) (by rfl) (fun Kk h => ?_) H h
  have hil := hV.il
  have hll := hV.cl
  have hlt0 : (m / 100).toNat < ice.length := by unfold iLen at hm; omega
  obtain ⟨⟨h1, h2⟩, hh⟩ : ∃ x, ice[(m / 100).toNat]? = some x := ⟨_, List.getElem?_eq_getElem hlt0⟩
  have hb := hV.ib _ (List.mem_of_getElem? hh)
  have hW : thickS w p ice l m = cutS p (strS w (h1, h2)) (l.any fun c => nearS w c m p.near) := by unfold thickS; rw [List.getD_eq_getElem?_getD, hh]; rfl
  generalize thickS w p ice l m = W at h hW
  obtain ⟨xi, hxi⟩ : ∃ xi, xi = ice.map sp := ⟨_, rfl⟩
  obtain ⟨ys, hys⟩ : ∃ ys, ys = l.map sp := ⟨_, rfl⟩
  rw [← hxi, ← hys]
  obtain ⟨A, hA⟩ : ∃ A, A = std := ⟨_, rfl⟩
  obtain ⟨S, hS⟩ : ∃ S, S = stS := ⟨_, rfl⟩
  obtain ⟨S2, hS2⟩ : ∃ S, S = st2 := ⟨_, rfl⟩
  have hq : A.quo .i64 m 100 = iLen (m / 100).toNat := by
    subst hA; simp only [std]; unfold iLen at hm; rw [iQuo_id (by omega) (by omega) (by omega)]; unfold iLen; omega
  have hii : A.ix 2 2 xi (A.quo .i64 m 100) [I h1, I h2] := by subst hA; exact ix_map hxi hq hh rfl
  refine go156 rfl (SGo_run hA ⟨[], [], tb4 S S2, []⟩ (tb4_ok hS hS2) .nil 200 fun T TD hT hTD => ?_)
  cbv
  refine Exists.intro _ (And.intro hii ?_)
  cbv
  rw [hT]
  have hst : S2.str w h1 h2 = strS w (h1, h2) := by subst hS2; rfl
  have hsb : 0 ≤ S2.str w h1 h2 ∧ S2.str w h1 h2 ≤ 5000 := by rw [hst]; exact strS_bnd hb
  rw [← hst] at hW
  refine AGo_up l.length (fun j => W = cutS p (S2.str w h1 h2) ((l.drop j).any fun c => nearS w c m p.near)) (fun _ i => [(0, scV w a b (.vs 2 xs) (.vs 2 ec) ne ed gr lo hi sh wi (.vs 2 xi) (.vs 2 ys)), (1, I m), (2, .mp 0 0 0), (4, I 0), (5, I (S2.str w h1 h2)), (18, .vs 2 ys), (19, I (A.vlen ys)), (20, I i)]) (fun _ => [.own 0 [B w, I a, I b, .vs 2 xs, .vs 2 ec, I ne, I ed, I gr, I lo, I hi, I sh, I wi, .vs 2 xi, .vs 2 ys]]) hW ⟨rfl, rfl, rfl, rfl, rfl, rfl, rfl, rfl, trivial⟩ (.inl rfl) fun j i hi' hj hP Bk hB => ?_
  have hlt : A.lt i (A.vlen ys) = decide (j < l.length) := by subst hA; exact lt_len (by simp [hys]) hi'
  have hadd : ∀ N, j < N → N ≤ 9223372036854775807 → A.add .i64 i 1 = iLen (j + 1) := fun N hj hN => by subst hA; exact add_one hi' hj hN
  refine SGo_run hA ⟨[], [], tb4 S S2, []⟩ (tb4_ok hS hS2) .nil 200 fun T TD hT hTD => ?_
  cbv
  split <;> cbv
  · rename_i hk1
    have hk1 : j < l.length := by have := hlt.symm.trans hk1; simpa using this
    obtain ⟨⟨x, y⟩, hx⟩ : ∃ x, l[j]? = some x := ⟨_, List.getElem?_eq_getElem hk1⟩
    have hix : A.ix 2 2 ys i [I x, I y] := by subst hA; exact ix_map hys hi' hx rfl
    have hc := hV.cb (x, y) (List.mem_of_getElem? hx)
    simp only at hc
    rw [drop_cons hx, List.any_cons] at hP
    refine Exists.intro _ (And.intro hix ?_)
    cbv
    refine Exists.intro () (And.intro (by unfold Sm; unfold iLen at hm; omega) ?_)
    cbv
    have hnr : S2.near w x y m ne = nearS w (x, y) m p.near := by subst hS2; rw [hpn]; rfl
    split <;> cbv
    · rename_i hq2
      have hq2 : S2.near w x y m ne = true := hq2
      refine leaf h (congrArg I ?_) rfl
      rw [hP, ← hnr, hq2]
      subst hA
      obtain ⟨e1, l1, u1⟩ := mulB hsb he (by omega)
      simp only [std, e1]
      rw [iQuo_id l1 (by omega) (by omega), Bool.true_or, ← hpe]; rfl
    · rename_i hq2
      have hq2 : S2.near w x y m ne = false := hq2
      rw [← hnr, hq2, Bool.false_or] at hP
      exact hB _ _ hk1 hP ⟨rfl, rfl, rfl, rfl, rfl, rfl, rfl, congrArg I (hadd _ hk1 (by omega)), trivial⟩ (.inr ⟨⟨_, rfl⟩, Nat.zero_le _, by simp [ltG, AV.lt, AV.ltL, scV], by simp [ltH, AObj.lt, AV.ltL, AV.lt]⟩)
  · rename_i hk1
    have hk1 : ¬ j < l.length := by have := hlt.symm.trans hk1; simpa using this
    refine leaf h (congrArg I ?_) rfl
    rw [hP, List.drop_eq_nil_of_le (by omega)]; rfl
theorem p131 (p : Plate) {a b : Int} {xs ec : List AV} {ne ed gr lo hi sh wi : Int} (hp : PlateIs p a b xs ec ne ed gr lo hi sh wi) (hV : PlateV p) (l : List Load) (places : Int) (hl : LoadsV places l) (hpl : places ≤ 1000) (k : Nat) (x0 : Load) (hx0 : l[k]? = some x0) (H : AHeap) {Kk : AV → AHeap → Prop} (h : Kk (.agg [I (burdS false p l x0.at_), I (burdS true p l x0.at_)]) H) :
    ACalls Try.prog 131 [plV a b (.vs 2 xs) (.vs 2 ec) ne ed gr lo hi sh wi, .vs 4 (l.map ldV), I (iLen k)] H Kk := by
  refine pureC (by rfl) (by rfl) (fun Kk h => ?_) H h
  have hm0 := hl.all _ (List.mem_of_getElem? hx0)
  have hh := hl.len
  obtain ⟨m, ⟨v1, v2⟩, st0⟩ := x0
  simp only at h
  have hm1 := hm0.at1
  have hm2 := hm0.at2
  simp only at hm1 hm2
  obtain ⟨ys, hys⟩ : ∃ ys, ys = l.map ldV := ⟨_, rfl⟩
  obtain ⟨q, hq⟩ : ∃ q : Int, q = iLen k := ⟨_, rfl⟩
  rw [← hys, ← hq]
  obtain ⟨A, hA⟩ : ∃ A, A = std := ⟨_, rfl⟩
  obtain ⟨S, hS⟩ : ∃ S, S = stS := ⟨_, rfl⟩
  obtain ⟨S2, hS2⟩ : ∃ S, S = st2 := ⟨_, rfl⟩
  obtain ⟨sl, hsl⟩ : ∃ sl, sl = p.shares := ⟨_, rfl⟩
  have hs : xs = sl.map sp := by rw [hsl]; exact hp.hs
  have hiy : A.ix 4 4 ys q [I m, I v1, I v2, I st0] := by subst hA; exact ix_map hys hq hx0 rfl
  refine go131 rfl (SGo_run hA ⟨[], [], tb4 S S2, []⟩ (tb4_ok hS hS2) .nil 200 fun T TD hT hTD => ?_)
  cbv
  rw [hT]
  refine AGo_upS l.length (fun j (s : Int × Int) => s = (burdS false p (l.take j) m, burdS true p (l.take j) m)) (fun _ _ i => [(0, plV a b (.vs 2 xs) (.vs 2 ec) ne ed gr lo hi sh wi), (1, .vs 4 ys), (2, I q), (3, .mp 0 0 0), (6, .mp 1 0 0), (7, .mp 2 0 0), (8, I i)])
    (fun _ s => [.own 0 [I a, I b, .vs 2 xs, .vs 2 ec, I ne, I ed, I gr, I lo, I hi, I sh, I wi], .own 0 [I 0, I 0], .own 0 [I s.1, I s.2]]) (0, 0) rfl ⟨rfl, rfl, rfl, rfl, rfl, rfl, rfl, trivial⟩ (.inl rfl) fun j s i hi' hj hP Bk hB => ?_
  obtain ⟨s1, s2⟩ := s
  have hlt : A.lt i (A.vlen ys) = decide (j < l.length) := by subst hA; exact lt_len (by simp [hys]) hi'
  have hadd : ∀ N, j < N → N ≤ 9223372036854775807 → A.add .i64 i 1 = iLen (j + 1) := fun N hj hN => by subst hA; exact add_one hi' hj hN
  refine SGo_run hA ⟨[], [], tb4 S S2, []⟩ (tb4_ok hS hS2) .nil 200 fun T TD hT hTD => ?_
  cbv
  split <;> cbv
  · rename_i hk1
    have hk1 : j < l.length := by have := hlt.symm.trans hk1; simpa using this
    obtain ⟨x, hx⟩ : ∃ x, l[j]? = some x := ⟨_, List.getElem?_eq_getElem hk1⟩
    have hxv := hl.all _ (List.mem_of_getElem? hx)
    have e1 := (burdF_bnd (w := false) (m := m) hV hxv)
    have e2 := (burdF_bnd (w := true) (m := m) hV hxv)
    have f1 := hl.burd (w := false) (m := m) hV j
    have f2 := hl.burd (w := true) (m := m) hV j
    have g1 := burd_take (w := false) (p := p) (m := m) hx
    have g2 := burd_take (w := true) (p := p) (m := m) hx
    obtain ⟨x1, ⟨u1, u2⟩, t1⟩ := x
    have k1 := hxv.at1
    have k2 := hxv.at2
    have k3 := hxv.w1
    have k4 := hxv.w2
    have k5 := hxv.w3
    simp only at k1 k2 k3 k4 k5
    have hix : A.ix 4 4 ys i [I x1, I u1, I u2, I t1] := by subst hA; exact ix_map hys hi' hx rfl
    repeat' (first | (refine Exists.intro _ (And.intro hix ?_); cbv) | (refine Exists.intro _ (And.intro hiy ?_); cbv) | (refine Exists.intro () (And.intro (by unfold Sm; omega) ?_); cbv) |
      (refine Exists.intro sl (And.intro hs (And.intro (by rw [hsl]; exact hV.sh.ne) (And.intro (by rw [hsl]; have := hV.sh.len; omega) ?_))); cbv) | (split <;> cbv))
    have hpt : S.part sl (S2.far x1 m) = partS p.shares (farS m x1) := by subst hS hS2; rw [hsl, farS_comm]; rfl
    have hpb := hV.sh.part (farS m x1)
    injection hP with hP1 hP2
    refine hB (burdS false p (l.take (j + 1)) m, burdS true p (l.take (j + 1)) m) _ _ hk1 rfl ⟨rfl, rfl, rfl, rfl, rfl, rfl, congrArg I (hadd _ hk1 (by omega)), trivial⟩ (.inl ?_)
    obtain ⟨m1, -, -⟩ := mulB (a := u1) (b := partS p.shares (farS m x1)) ⟨k3, Int.le_trans k4 k5⟩ hpb (by omega)
    obtain ⟨m2, -, -⟩ := mulB (a := u2) (b := partS p.shares (farS m x1)) ⟨Int.le_trans k3 k4, k5⟩ hpb (by omega)
    have q1 : A.add .i64 s1 (A.mul .i64 u1 (S.part sl (S2.far x1 m))) = burdS false p (l.take (j + 1)) m := by
      rw [hpt]; subst hA; simp only [std]; rw [m1, g1, hP1]; exact iAdd_id (by simp only [burdF, hevS] at e1; simp at e1; omega) (by simp only [burdF, hevS] at e1; simp at e1; omega)
    have q2 : A.add .i64 s2 (A.mul .i64 u2 (S.part sl (S2.far x1 m))) = burdS true p (l.take (j + 1)) m := by
      rw [hpt]; subst hA; simp only [std]; rw [m2, g2, hP2]; exact iAdd_id (by simp only [burdF, hevS] at e2; simp at e2; omega) (by simp only [burdF, hevS] at e2; simp at e2; omega)
    rw [← q1, ← q2]
  · rename_i hk1
    have hk1 : ¬ j < l.length := by have := hlt.symm.trans hk1; simpa using this
    rw [List.take_of_length_le (by omega)] at hP
    injection hP with hP1 hP2
    rw [← hP1, ← hP2] at h
    exact h
end Go.Sas
