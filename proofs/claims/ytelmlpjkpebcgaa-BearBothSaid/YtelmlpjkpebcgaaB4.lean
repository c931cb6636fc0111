/-
What the functions that ice rests on yield, part 4: whole roads; a search; sides.
Conditions: none.
-/
import Derived.Test.YtelmlpjkpebcgaaB3
import Derived.Test.YtelmlpjkpebcgaaS3
import Derived.Test.YtelmlpjkpebcgaaT2
set_option linter.unusedVariables false
set_option linter.unusedSimpArgs false
namespace Go.Sas
open Go.Proofs
set_option maxRecDepth 100000
theorem eCheck_ok {f : Nat} (hf : ∀ (p : Plate) {a b : Int} {xs ec : List AV} {ne ed gr lo hi sh wi : Int}, PlateIs p a b xs ec ne ed gr lo hi sh wi → p.shares.length ≤ 9223372036854775807 → p.creep.length ≤ 9223372036854775807 → ∀ (H : AHeap) {Kk : AV → AHeap → Prop}, Kk (I (checkS p)) H →
    ACalls Try.prog f [plV a b (.vs 2 xs) (.vs 2 ec) ne ed gr lo hi sh wi] H Kk) {S : Sp} (hS : S = stS) : ∀ args pt, eCheck S args = some pt → ∀ (H : AHeap) (Kk : AV → AHeap → Prop), pt (fun r => Kk r H) → ACalls Try.prog f args H Kk := by
  intro args pt h H Kk hk
  subst hS
  unfold eCheck at h
  split at h
  · split at h
    · rename_i xs ec h1 h2
      cases h
      obtain ⟨p, g1, g2, g3, g4⟩ := hk
      exact (hf p g1 g2 g3 H g4).wk ⟨Wk.agg ⟨Wk.rfl, Wk.rfl, asVs_wk h1, asVs_wk h2, Wk.rfl, Wk.rfl, Wk.rfl, Wk.rfl, Wk.rfl, Wk.rfl, Wk.rfl, trivial⟩, trivial⟩
    · cases h
  · cases h
theorem eFaults_ok {f : Nat} (hf : ∀ (l : List (Int × Int)) (a b : Int), l.length ≤ 9223372036854775807 → ∀ (H : AHeap) {Kk : AV → AHeap → Prop}, Kk (I (faultsS l a b)) H → ACalls Try.prog f [.vs 2 (l.map sp), I a, I b] H Kk) {S : Sp} (hS : S = stS) :
    ∀ args pt, eFaults S args = some pt → ∀ (H : AHeap) (Kk : AV → AHeap → Prop), pt (fun r => Kk r H) → ACalls Try.prog f args H Kk := by
  intro args pt h H Kk hk
  subst hS
  unfold eFaults at h
  split at h
  · split at h
    · rename_i ys hy
      cases h
      obtain ⟨l, h1, h2, h3⟩ := hk
      subst h1
      exact (hf l _ _ h2 H h3).wk ⟨asVs_wk hy, Wk.rfl, Wk.rfl, trivial⟩
    · cases h
  · cases h
theorem eLoads1_ok {f : Nat} (hf : ∀ (l : List Load) (a : Int), l.length ≤ 9223372036854775807 → 0 ≤ a ∧ a < 46116860184273879 → ∀ (H : AHeap) {Kk : AV → AHeap → Prop}, Kk (I (loadsS a l)) H → ACalls Try.prog f [.vs 4 (l.map ldV), I a] H Kk) {S : Sp} (hS : S = stS) :
    ∀ args pt, eLoads1 S args = some pt → ∀ (H : AHeap) (Kk : AV → AHeap → Prop), pt (fun r => Kk r H) → ACalls Try.prog f args H Kk := by
  intro args pt h H Kk hk
  subst hS
  unfold eLoads1 at h
  split at h
  · split at h
    · rename_i ys hy
      cases h
      obtain ⟨l, h1, h2, h3, h4⟩ := hk
      subst h1
      exact (hf l _ h2 h3 H h4).wk ⟨asVs_wk hy, Wk.rfl, trivial⟩
    · cases h
  · cases h
theorem eLoads2_ok {f : Nat} (hf : ∀ (l : List Load) (a : Int), l.length ≤ 9223372036854775807 → 0 ≤ a ∧ a < 46116860184273879 → ∀ (H : AHeap) {Kk : AV → AHeap → Prop}, Kk (I (loadsS a l)) H → ACalls Try.prog f [I a, .vs 4 (l.map ldV)] H Kk) {S : Sp} (hS : S = stS) :
    ∀ args pt, eLoads2 S args = some pt → ∀ (H : AHeap) (Kk : AV → AHeap → Prop), pt (fun r => Kk r H) → ACalls Try.prog f args H Kk := by
  intro args pt h H Kk hk
  subst hS
  unfold eLoads2 at h
  split at h
  · split at h
    · rename_i ys hy
      cases h
      obtain ⟨l, h1, h2, h3, h4⟩ := hk
      subst h1
      exact (hf l _ h2 h3 H h4).wk ⟨Wk.rfl, asVs_wk hy, trivial⟩
    · cases h
  · cases h
theorem ePart_ok {f : Nat} (hf : ∀ (l : List (Int × Int)) (n : Int), l ≠ [] → l.length ≤ 9223372036854775807 → ∀ (H : AHeap) {Kk : AV → AHeap → Prop}, Kk (I (partS l n)) H → ACalls Try.prog f [.vs 2 (l.map sp), I n] H Kk) {S : Sp} (hS : S = stS) :
    ∀ args pt, ePart S args = some pt → ∀ (H : AHeap) (Kk : AV → AHeap → Prop), pt (fun r => Kk r H) → ACalls Try.prog f args H Kk := by
  intro args pt h H Kk hk
  subst hS
  unfold ePart at h
  split at h
  · split at h
    · rename_i ys hy
      cases h
      obtain ⟨l, h1, h2, h3, h4⟩ := hk
      subst h1
      exact (hf l _ h2 h3 H h4).wk ⟨asVs_wk hy, Wk.rfl, trivial⟩
    · cases h
  · cases h
def tb3 (S : Sp) : PTab := (59, eCheck S) :: (60, eCheck S) :: (108, eFaults S) :: (112, eFaults S) :: (86, eLoads1 S) :: (89, eLoads2 S) :: (110, ePart S) :: (130, ePart S) :: tb2 S
theorem tb3_ok {S : Sp} (hS : S = stS) : PTabOk Try.prog (tb3 S) := .cons (eCheck_ok p59 hS) (.cons (eCheck_ok p60 hS) (.cons (eFaults_ok p108 hS) (.cons (eFaults_ok p112 hS) (.cons (eLoads1_ok p86 hS) (.cons (eLoads2_ok p89 hS) (.cons (ePart_ok p110 hS) (.cons (ePart_ok p130 hS) (tb2_ok hS))))))))
theorem p85 (p : Plate) {a b : Int} {xs ec : List AV} {ne ed gr lo hi sh wi : Int} (hp : PlateIs p a b xs ec ne ed gr lo hi sh wi) (h1 : p.shares.length ≤ 9223372036854775807) (h2 : p.creep.length ≤ 9223372036854775807) (ice cr : List (Int × Int)) (h3 : ice.length ≤ 9223372036854775807) (h4 : cr.length ≤ 9223372036854775807) (H : AHeap) {Kk : AV → AHeap → Prop} (h : Kk (I (checkAllS p ice cr)) H) :
    ACalls Try.prog 85 [plV a b (.vs 2 xs) (.vs 2 ec) ne ed gr lo hi sh wi, .vs 2 (ice.map sp), .vs 2 (cr.map sp)] H Kk := by
  refine pureC (by rfl) (by rfl) (fun Kk h => ?_) H h
  obtain ⟨xi, hxi⟩ : ∃ xi, xi = ice.map sp := ⟨_, rfl⟩
  obtain ⟨xc, hxc⟩ : ∃ xc, xc = cr.map sp := ⟨_, rfl⟩
  rw [← hxi, ← hxc]
  obtain ⟨A, hA⟩ : ∃ A, A = std := ⟨_, rfl⟩
  obtain ⟨S, hS⟩ : ∃ S, S = stS := ⟨_, rfl⟩
  obtain ⟨W, hW⟩ : ∃ W, W = checkAllS p ice cr := ⟨_, rfl⟩
  rw [← hW] at h
  refine go85 rfl (SGo_run hA ⟨[], [], tb3 S, []⟩ (tb3_ok hS) .nil 200 fun T TD hT hTD => ?_)
  clear hT hTD
  cbv
  repeat' (first | (refine ⟨p, hp, h1, h2, ?_⟩; cbv) | (refine ⟨ice, hxi, h3, ?_⟩; cbv) | (refine ⟨cr, hxc, h4, ?_⟩; cbv) | (split <;> cbv))
  all_goals
    refine leaf h (congrArg I ?_) rfl
    clear h
    subst hA hS hW
    clear hp
    simp only [std, stS, iLt, iLe, iEq, iNe, iLen, wiS, ouS, bne_iff_ne, ne_eq, beq_iff_eq, Bool.and_eq_true, Bool.or_eq_true, Bool.or_eq_false_iff, Bool.and_eq_false_iff, decide_eq_true_eq, decide_eq_false_iff_not, bne_eq_false_iff_eq, beq_eq_false_iff_ne, Bool.not_eq_true', Bool.not_eq_false'] at *
    simp only [checkAllS]
    repeat' split
    all_goals first | omega | rfl
theorem p88 (p : Plate) {a b : Int} {xs ec : List AV} {ne ed gr lo hi sh wi : Int} (hp : PlateIs p a b xs ec ne ed gr lo hi sh wi) (h1 : p.shares.length ≤ 9223372036854775807) (h2 : p.creep.length ≤ 9223372036854775807) (ice cr : List (Int × Int)) (h3 : ice.length ≤ 9223372036854775807) (h4 : cr.length ≤ 9223372036854775807) (H : AHeap) {Kk : AV → AHeap → Prop} (h : Kk (I (checkAllS p ice cr)) H) :
    ACalls Try.prog 88 [plV a b (.vs 2 xs) (.vs 2 ec) ne ed gr lo hi sh wi, .vs 2 (ice.map sp), .vs 2 (cr.map sp)] H Kk := by
  refine pureC (by rfl) (by rfl) (fun Kk h => ?_) H h
  obtain ⟨xi, hxi⟩ : ∃ xi, xi = ice.map sp := ⟨_, rfl⟩
  obtain ⟨xc, hxc⟩ : ∃ xc, xc = cr.map sp := ⟨_, rfl⟩
  rw [← hxi, ← hxc]
  obtain ⟨A, hA⟩ : ∃ A, A = std := ⟨_, rfl⟩
  obtain ⟨S, hS⟩ : ∃ S, S = stS := ⟨_, rfl⟩
  obtain ⟨W, hW⟩ : ∃ W, W = checkAllS p ice cr := ⟨_, rfl⟩
  rw [← hW] at h
  refine go88 rfl (SGo_run hA ⟨[], [], tb3 S, []⟩ (tb3_ok hS) .nil 200 fun T TD hT hTD => ?_)
  clear hT hTD
  cbv
  repeat' (first | (refine ⟨p, hp, h1, h2, ?_⟩; cbv) | (refine ⟨ice, hxi, h3, ?_⟩; cbv) | (refine ⟨cr, hxc, h4, ?_⟩; cbv) | (split <;> cbv))
  all_goals
    refine leaf h (congrArg I ?_) rfl
    clear h
    subst hA hS hW
    clear hp
    simp only [std, stS, iLt, iLe, iEq, iNe, iLen, wiS, ouS, bne_iff_ne, ne_eq, beq_iff_eq, Bool.and_eq_true, Bool.or_eq_true, Bool.or_eq_false_iff, Bool.and_eq_false_iff, decide_eq_true_eq, decide_eq_false_iff_not, bne_eq_false_iff_eq, beq_eq_false_iff_ne, Bool.not_eq_true', Bool.not_eq_false'] at *
    simp only [checkAllS]
    repeat' split
    all_goals first | omega | rfl
theorem p141 (w : Bool) (a b : Int) (H : AHeap) {Kk : AV → AHeap → Prop} (h : Kk (I (strS w (a, b))) H) : ACalls Try.prog 141 [.agg [B w], .agg [I a, I b]] H Kk := by
  refine pureC (by rfl) (by rfl) (fun Kk h => ?_) H h
  obtain ⟨A, hA⟩ : ∃ A, A = std := ⟨_, rfl⟩
  refine go141 rfl (SGo_run hA ⟨[], [], [], []⟩ .nil .nil 200 fun T TD hT hTD => ?_)
  cases w
  all_goals
    cbv
    exact h
theorem p155 (w : Bool) (a b : Int) (H : AHeap) {Kk : AV → AHeap → Prop} (h : Kk (I (hevS w (a, b))) H) : ACalls Try.prog 155 [.agg [B w], .agg [I a, I b]] H Kk := by
  refine pureC (by rfl) (by rfl) (fun Kk h => ?_) H h
  obtain ⟨A, hA⟩ : ∃ A, A = std := ⟨_, rfl⟩
  refine go155 rfl (SGo_run hA ⟨[], [], [], []⟩ .nil .nil 200 fun T TD hT hTD => ?_)
  cases w
  all_goals
    cbv
    exact h
theorem p164 (w : Bool) (a b m n : Int) (hs : Sm a ∧ Sm b ∧ Sm m ∧ Sm n) (H : AHeap) {Kk : AV → AHeap → Prop} (h : Kk (B (nearS w (a, b) m n)) H) : ACalls Try.prog 164 [.agg [B w], .agg [I a, I b], I m, I n] H Kk := by
  cases w
  all_goals
    refine pureC (by rfl) (by rfl) (fun Kk h => ?_) H h
    obtain ⟨A, hA⟩ : ∃ A, A = std := ⟨_, rfl⟩
    generalize hW : nearS _ (a, b) m n = W at h
    refine go164 rfl (SGo_run hA ⟨[], [], [], []⟩ .nil .nil 200 fun T TD hT hTD => ?_)
    clear hT hTD
    cbv
    split <;> cbv
    all_goals
      refine leaf h (congrArg B (Bool.eq_iff_iff.2 ?_)) rfl
      subst hA hW
      unfold Sm at hs
      simp only [std, stS, iLt, iLe, iEq, iNe, iLen, wiS, ouS, bne_iff_ne, ne_eq, beq_iff_eq, Bool.and_eq_true, Bool.or_eq_true, Bool.or_eq_false_iff, Bool.and_eq_false_iff, decide_eq_true_eq, decide_eq_false_iff_not, bne_eq_false_iff_eq, beq_eq_false_iff_ne, Bool.not_eq_true', Bool.not_eq_false'] at *
      simp (disch := omega) only [iSub_id, iAdd_id] at *
      simp [nearS]
      try omega
theorem p142 (a b : Int) (H : AHeap) {Kk : AV → AHeap → Prop} (hs : Sm a ∧ Sm b) (h : Kk (I (farS a b)) H) : ACalls Try.prog 142 [I a, I b] H Kk := by
  refine pureC (by rfl) (by rfl) (fun Kk h => ?_) H h
  obtain ⟨A, hA⟩ : ∃ A, A = std := ⟨_, rfl⟩
  obtain ⟨W, hW⟩ : ∃ W, W = farS a b := ⟨_, rfl⟩
  rw [← hW] at h
  refine go142 rfl (SGo_run hA ⟨[], [], [], []⟩ .nil .nil 200 fun T TD hT hTD => ?_)
  clear hT hTD
  cbv
  refine leaf h (congrArg I ?_) rfl
  subst hA hW
  unfold Sm at hs
  simp (disch := omega) only [std, iSub_id, farS]
end Go.Sas
