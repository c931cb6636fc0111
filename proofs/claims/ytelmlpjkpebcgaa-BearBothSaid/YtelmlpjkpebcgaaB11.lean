/-
What the functions that ice rests on yield, part 11: the verdicts on speeds.
Conditions: none.
-/
import Derived.Test.YtelmlpjkpebcgaaB10
set_option linter.unusedVariables false
set_option linter.unusedSimpArgs false
namespace Go.Sas
open Go.Proofs
set_option maxRecDepth 100000
theorem eWater_ok {f : Nat} (hf : ∀ (p : Plate) {a b : Int} {xs ec : List AV} {ne ed gr lo hi sh wi : Int}, PlateIs p a b xs ec ne ed gr lo hi sh wi → Big p.shares → Big p.creep → ∀ (u v n : Int) (H : AHeap) {Kk : AV → AHeap → Prop}, Kk (I (waterS p u v n)) H →
    ACalls Try.prog f [plV a b (.vs 2 xs) (.vs 2 ec) ne ed gr lo hi sh wi, .agg [I u, I v], I n] H Kk) {S : Sp3} (hS : S = st3) : ∀ args pt, eWater S args = some pt → ∀ (H : AHeap) (Kk : AV → AHeap → Prop), pt (fun r => Kk r H) → ACalls Try.prog f args H Kk := by
  intro args pt h H Kk hk
  subst hS
  unfold eWater at h
  split at h
  · split at h
    · rename_i x hy
      cases h
      obtain ⟨p, h1, h2, h3, h4⟩ := hk
      obtain ⟨a, b, xs, ec, ne, ed, gr, lo, hi, sh, wi⟩ := x
      exact (hf p h1 h2 h3 _ _ _ H h4).wk ⟨asPl_wk hy, Wk.rfl, Wk.rfl, trivial⟩
    · cases h
  · cases h
theorem eWver_ok {S : Sp3} (hS : S = st3) : ∀ args pt, eWver S args = some pt → ∀ (H : AHeap) (Kk : AV → AHeap → Prop), pt (fun r => Kk r H) → ACalls Try.prog 96 args H Kk := by
  intro args pt h H Kk hk
  subst hS
  unfold eWver at h
  split at h
  · cases h
    obtain ⟨_, h1, h2, h3⟩ := hk
    exact p96 _ _ _ _ _ _ h1 h2 H h3
  · cases h
theorem eWver2_ok {S : Sp3} (hS : S = st3) : ∀ args pt, eWver2 S args = some pt → ∀ (H : AHeap) (Kk : AV → AHeap → Prop), pt (fun r => Kk r H) → ACalls Try.prog 99 args H Kk := by
  intro args pt h H Kk hk
  subst hS
  unfold eWver2 at h
  split at h
  · split at h
    · rename_i x hy
      cases h
      obtain ⟨p, h1, h2, h3, h4, h5⟩ := hk
      obtain ⟨a, b, xs, ec, ne, ed, gr, lo, hi, sh, wi⟩ := x
      exact (p99 p h1 h2 _ _ _ _ h3 h4 H h5).wk ⟨asPl_wk hy, Wk.rfl, Wk.rfl, Wk.rfl, trivial⟩
    · cases h
  · cases h
theorem p46 (p : Plate) {a b : Int} {xs ec : List AV} {ne ed gr lo hi sh wi : Int} (hp : PlateIs p a b xs ec ne ed gr lo hi sh wi) (h1 : Big p.shares) (h2 : Big p.creep) (u v n w : Int) (H : AHeap) {Kk : AV → AHeap → Prop} (h : Kk (.tup [I (speedS p u v n w).1, I (speedS p u v n w).2]) H) :
    ACalls Try.prog 46 [plV a b (.vs 2 xs) (.vs 2 ec) ne ed gr lo hi sh wi, .agg [I u, I v], I n, I w] H Kk := by
  refine (fun q => pureC (by rfl) (by rfl) q H h) ?_
  clear h
  intro Kk h
  obtain ⟨A, hA⟩ : ∃ A, A = std := ⟨_, rfl⟩
  obtain ⟨S, hS⟩ : ∃ S, S = stS := ⟨_, rfl⟩
  obtain ⟨S3, hS3⟩ : ∃ S, S = st3 := ⟨_, rfl⟩
  obtain ⟨W, hW⟩ : ∃ W, W = speedS p u v n w := ⟨_, rfl⟩
  rw [← hW] at h
  refine go46 rfl (SGo_run hA ⟨[], [], (93, eWater S3) :: (95, eWaves S3) :: (96, eWver S3) :: tb3 S, []⟩ (.cons (eWater_ok p93 hS3) (.cons (eWaves_ok hS3) (.cons (eWver_ok hS3) (tb3_ok hS)))) .nil 200 fun T TD hT hTD => ?_)
  clear hT hTD
  cbv
  refine Exists.intro p (And.intro hp (And.intro h1 (And.intro h2 ?_)))
  cbv
  have e1 : S3.water p u v n = waterS p u v n := by subst hS3; rfl
  split <;> cbv
  · rename_i hq
    have hq : A.ne (S3.water p u v n) 0 = true := hq
    refine leaf h ?_ rfl
    rw [e1] at hq
    subst hA
    simp only [std, stS, iLt, iLe, iEq, iNe, iLen, wiS, ouS, bne_iff_ne, ne_eq, beq_iff_eq, Bool.and_eq_true, Bool.or_eq_true, Bool.or_eq_false_iff, Bool.and_eq_false_iff, decide_eq_true_eq, decide_eq_false_iff_not, bne_eq_false_iff_eq, beq_eq_false_iff_ne, Bool.not_eq_true', Bool.not_eq_false'] at *
    rw [hW, speedS, if_pos hq, ← e1]; rfl
  rename_i hq
  have hq : A.ne (S3.water p u v n) 0 = false := hq
  rw [e1] at hq
  have hq : waterS p u v n = 0 := by subst hA; simpa [std, iNe] using hq
  obtain ⟨hV, hd, hn1, hn2⟩ := waterS_ok hq
  rw [speedS, if_neg (by simp [hq])] at hW
  have hbn := bandS_bnd hV n
  have hg1 := hV.g1
  have hg2 := hV.g2
  rw [hp.gr] at hg1 hg2
  by_cases ht : w < 0 ∨ 1000 < w
  · rw [if_pos ht] at hW
    split <;> cbv
    · refine leaf h ?_ rfl
      rw [hW]; rfl
    · exfalso
      rename_i hz
      subst hA hS
      clear hp
      simp only [std, stS, wiS, ouS, Bool.not_eq_true', Bool.not_eq_false', decide_eq_true_eq, decide_eq_false_iff_not] at hz
      omega
  · rw [if_neg ht] at hW
    have ht5 : 0 ≤ w ∧ w ≤ 1000 := by omega
    split <;> cbv
    · exfalso
      rename_i hz
      subst hA hS
      clear hp
      simp only [std, stS, wiS, ouS, Bool.not_eq_true', Bool.not_eq_false', decide_eq_true_eq, decide_eq_false_iff_not] at hz
      omega
    · (refine Exists.intro p (And.intro hp (And.intro hV ?_)); cbv; refine Exists.intro () (And.intro (by subst hS3; exact ⟨by omega, by exact ⟨hbn.1, hbn.2.1⟩, ⟨hbn.2.2.1, hbn.2.2.2⟩, ht5⟩) (And.intro hd ?_)); cbv)
      refine leaf h ?_ rfl
      rw [hW]
      subst hS3
      first | rfl | (rw [hp.gr]; rfl)
theorem p47 (p : Plate) {a b : Int} {xs ec : List AV} {ne ed gr lo hi sh wi : Int} (hp : PlateIs p a b xs ec ne ed gr lo hi sh wi) (h1 : Big p.shares) (h2 : Big p.creep) (u v n w : Int) (H : AHeap) {Kk : AV → AHeap → Prop} (h : Kk (.tup [I (speedS p u v n w).1, I (speedS p u v n w).2]) H) :
    ACalls Try.prog 47 [plV a b (.vs 2 xs) (.vs 2 ec) ne ed gr lo hi sh wi, .agg [I u, I v], I n, I w] H Kk := by
  refine (fun q => pureC (by rfl) (by rfl) q H h) ?_
  clear h
  intro Kk h
  obtain ⟨A, hA⟩ : ∃ A, A = std := ⟨_, rfl⟩
  obtain ⟨S, hS⟩ : ∃ S, S = stS := ⟨_, rfl⟩
  obtain ⟨S3, hS3⟩ : ∃ S, S = st3 := ⟨_, rfl⟩
  obtain ⟨W, hW⟩ : ∃ W, W = speedS p u v n w := ⟨_, rfl⟩
  rw [← hW] at h
  refine go47 rfl (SGo_run hA ⟨[], [], (97, eWater S3) :: (99, eWver2 S3) :: tb3 S, []⟩ (.cons (eWater_ok p97 hS3) (.cons (eWver2_ok hS3) (tb3_ok hS))) .nil 200 fun T TD hT hTD => ?_)
  clear hT hTD
  cbv
  refine Exists.intro p (And.intro hp (And.intro h1 (And.intro h2 ?_)))
  cbv
  have e1 : S3.water p u v n = waterS p u v n := by subst hS3; rfl
  split <;> cbv
  · rename_i hq
    have hq : A.ne (S3.water p u v n) 0 = true := hq
    refine leaf h ?_ rfl
    rw [e1] at hq
    subst hA
    simp only [std, stS, iLt, iLe, iEq, iNe, iLen, wiS, ouS, bne_iff_ne, ne_eq, beq_iff_eq, Bool.and_eq_true, Bool.or_eq_true, Bool.or_eq_false_iff, Bool.and_eq_false_iff, decide_eq_true_eq, decide_eq_false_iff_not, bne_eq_false_iff_eq, beq_eq_false_iff_ne, Bool.not_eq_true', Bool.not_eq_false'] at *
    rw [hW, speedS, if_pos hq, ← e1]; rfl
  rename_i hq
  have hq : A.ne (S3.water p u v n) 0 = false := hq
  rw [e1] at hq
  have hq : waterS p u v n = 0 := by subst hA; simpa [std, iNe] using hq
  obtain ⟨hV, hd, hn1, hn2⟩ := waterS_ok hq
  rw [speedS, if_neg (by simp [hq])] at hW
  have hbn := bandS_bnd hV n
  have hg1 := hV.g1
  have hg2 := hV.g2
  rw [hp.gr] at hg1 hg2
  by_cases ht : w < 0 ∨ 1000 < w
  · rw [if_pos ht] at hW
    split <;> cbv
    · refine leaf h ?_ rfl
      rw [hW]; rfl
    · exfalso
      rename_i hz
      subst hA hS
      clear hp
      simp only [std, stS, wiS, ouS, Bool.not_eq_true', Bool.not_eq_false', decide_eq_true_eq, decide_eq_false_iff_not] at hz
      omega
  · rw [if_neg ht] at hW
    have ht5 : 0 ≤ w ∧ w ≤ 1000 := by omega
    split <;> cbv
    · exfalso
      rename_i hz
      subst hA hS
      clear hp
      simp only [std, stS, wiS, ouS, Bool.not_eq_true', Bool.not_eq_false', decide_eq_true_eq, decide_eq_false_iff_not] at hz
      omega
    · (refine Exists.intro p (And.intro hp (And.intro hV (And.intro ht5 (And.intro hd ?_)))); cbv)
      refine leaf h ?_ rfl
      rw [hW]
      subst hS3
      first | rfl | (rw [hp.gr]; rfl)
end Go.Sas
