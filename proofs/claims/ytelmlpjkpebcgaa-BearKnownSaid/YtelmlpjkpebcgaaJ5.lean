/-
What the functions that ice rests on yield, part 10: waves and speeds.
What the functions that ice rests on yield, part 11: the verdicts on speeds.
What the functions that ice rests on yield, part 12: comparisons, examples.
Conditions: none.
-/
import Derived.Test.YtelmlpjkpebcgaaJ4
import Derived.Test.YtelmlpjkpebcgaaQT3
set_option linter.unusedVariables false
set_option linter.unusedSimpArgs false
namespace Go.Sas
open Go.Proofs
set_option maxRecDepth 100000
theorem p95 (p : Plate) {a b : Int} {xs ec : List AV} {ne ed gr lo hi sh wi : Int} (hp : PlateIs p a b xs ec ne ed gr lo hi sh wi) (hV : PlateV p) (n : Int) (H : AHeap) {Kk : AV → AHeap → Prop} (h : Kk (.agg [I gr, I (bandS p n).1, I (bandS p n).2]) H) :
    ACalls Try.prog 95 [plV a b (.vs 2 xs) (.vs 2 ec) ne ed gr lo hi sh wi, I n] H Kk := by
  refine (fun q => pureC (by rfl) (by rfl) q H h) ?_
  clear h
  intro Kk h
  obtain ⟨A, hA⟩ : ∃ A, A = std := ⟨_, rfl⟩
  obtain ⟨W, hW⟩ : ∃ W, W = bandS p n := ⟨_, rfl⟩
  rw [← hW] at h
  refine go95 rfl (SGo_run hA ⟨[], [2], [], []⟩ .nil .nil 200 fun T TD hT hTD => ?_)
  clear hT hTD
  cbv
  have h1 := hV.l1
  have h2 := hV.l2
  have h3 := hV.l3
  have h4 := hV.w1
  have h5 := hV.w2
  rw [hp.lo] at h1 h2
  rw [hp.hi] at h2 h3
  rw [hp.wi] at h4 h5
  rw [bandS, hp.sh, hp.lo, hp.hi, hp.wi] at hW
  clear hp hV
  obtain ⟨e1, l1, u1⟩ := mulB (a := lo) (b := 1000000 - wi) (A := 4000000) (B := 1000000) (by omega) (by omega) (by omega)
  obtain ⟨e2, l2, u2⟩ := mulB (a := hi) (b := 1000000 + wi) (A := 4000000) (B := 2000000) (by omega) (by omega) (by omega)
  have q1 : iSub .i64 1000000 wi = 1000000 - wi := iSub_id (by omega) (by omega)
  have q2 : iAdd .i64 1000000 wi = 1000000 + wi := iAdd_id (by omega) (by omega)
  have q3 : iAdd .i64 (hi * (1000000 + wi)) 1000000 = hi * (1000000 + wi) + 1000000 := iAdd_id (by omega) (by omega)
  have q4 : iSub .i64 (hi * (1000000 + wi) + 1000000) 1 = hi * (1000000 + wi) + 1000000 - 1 := iSub_id (by omega) (by omega)
  split <;> cbv
  all_goals rename_i hq
  all_goals try (refine And.intro (by subst hA; simp [std, Keep, SubH, ResK]) ?_; cbv)
  all_goals try (refine And.intro (by subst hA; simp [std, Keep, SubH, ResK]) ?_; cbv)
  all_goals
    refine leaf h ?_ rfl
    subst hA
    simp only [std, iLt, iLe, decide_eq_true_eq, decide_eq_false_iff_not] at hq
    try simp only [std, q1, q2, e1, e2, q3, q4]
    try rw [iQuo_id l1 (by omega) (by omega), iQuo_id (by omega) (by omega) (by omega)]
    rw [hW]
    first | rw [if_pos (by omega)] | rw [if_neg (by omega)]
    first | rfl | (rw [show hi * (1000000 + wi) + 1000000 - 1 = hi * (1000000 + wi) + 999999 by omega]; rfl)
theorem p136 (g lo hi v d : Int) (hw : WaveV g lo hi v) (hd : 0 ≤ d ∧ d ≤ 10000) (H : AHeap) {Kk : AV → AHeap → Prop} (h : Kk (B (critS g lo hi v d)) H) : ACalls Try.prog 136 [.agg [I g, I lo, I hi], I v, I d] H Kk := by
  obtain ⟨hg, hlo, hhi, hv⟩ := hw
  refine (fun q => pureC (by rfl) (by rfl) q H h) ?_
  clear h
  intro Kk h
  obtain ⟨A, hA⟩ : ∃ A, A = std := ⟨_, rfl⟩
  obtain ⟨W, hW⟩ : ∃ W, W = critS g lo hi v d := ⟨_, rfl⟩
  rw [← hW] at h
  refine go136 rfl (SGo_run hA ⟨[], [], [], []⟩ .nil .nil 200 fun T TD hT hTD => ?_)
  clear hT hTD
  cbv
  obtain ⟨e1, l1, u1⟩ := mulB hg hd (by omega)
  obtain ⟨e2, l2, u2⟩ := mulB hlo ⟨l1, u1⟩ (by omega)
  obtain ⟨e3, l3, u3⟩ := mulB hhi ⟨l1, u1⟩ (by omega)
  obtain ⟨e4, l4, u4⟩ := mulB hv hv (by omega)
  have e5 : iMul .i64 (v * v) 1000000 = v * v * 1000000 := iMul_id (by omega) (by omega)
  split <;> cbv
  all_goals
    refine leaf h (congrArg B (Bool.eq_iff_iff.2 ?_)) rfl
    rw [hW, critS]
    subst hA
    simp only [std, iLe, e1, e2, e3, e4, e5, decide_eq_true_eq, decide_eq_false_iff_not] at *
    try simp only [Bool.false_eq_true, iff_false, iff_true]
    omega
theorem eWaves_ok {S : Sp3} (hS : S = st3) : ∀ args pt, eWaves S args = some pt → ∀ (H : AHeap) (Kk : AV → AHeap → Prop), pt (fun r => Kk r H) → ACalls Try.prog 95 args H Kk := by
  intro args pt h H Kk hk
  subst hS
  unfold eWaves at h
  split at h
  · split at h
    · rename_i x hy
      cases h
      obtain ⟨p, h1, h2, h3⟩ := hk
      obtain ⟨a, b, xs, ec, ne, ed, gr, lo, hi, sh, wi⟩ := x
      exact (p95 p h1 h2 _ H h3).wk ⟨asPl_wk hy, Wk.rfl, trivial⟩
    · cases h
  · cases h
theorem eCrit_ok {S : Sp3} (hS : S = st3) : ∀ args pt, eCrit S args = some pt → ∀ (H : AHeap) (Kk : AV → AHeap → Prop), pt (fun r => Kk r H) → ACalls Try.prog 136 args H Kk := by
  intro args pt h H Kk hk
  subst hS
  unfold eCrit at h
  split at h
  · cases h
    obtain ⟨_, h1, h2, h3⟩ := hk
    exact p136 _ _ _ _ _ h1 h2 H h3
  · cases h
theorem p96 (g lo hi v a b : Int) (hw : WaveV g lo hi v) (hab : 0 ≤ a ∧ a ≤ b ∧ b ≤ 10000) (H : AHeap) {Kk : AV → AHeap → Prop} (h : Kk (I (wverS g lo hi v a b)) H) : ACalls Try.prog 96 [.agg [I g, I lo, I hi], I v, .agg [I a, I b]] H Kk := by
  refine (fun q => pureC (by rfl) (by rfl) q H h) ?_
  clear h
  intro Kk h
  obtain ⟨A, hA⟩ : ∃ A, A = std := ⟨_, rfl⟩
  obtain ⟨S3, hS3⟩ : ∃ S, S = st3 := ⟨_, rfl⟩
  obtain ⟨W, hW⟩ : ∃ W, W = wverS g lo hi v a b := ⟨_, rfl⟩
  rw [← hW] at h
  have hcr : ∀ d, S3.crit g lo hi v d = critS g lo hi v d := by subst hS3; exact fun _ => rfl
  refine go96 rfl (SGo_run hA ⟨[], [], [(136, eCrit S3)], []⟩ (.cons (eCrit_ok hS3) .nil) .nil 200 fun T TD hT hTD => ?_)
  cbv
  rw [hT]
  refine AGo_upS (b - a + 1).toNat (fun j (s : Int) => s = cntS g lo hi v a j) (fun _ s i => [(0, .agg [I g, I lo, I hi]), (1, I v), (2, .agg [I a, I b]), (3, .mp 0 0 0), (5, .mp 1 0 0), (6, I 0), (7, I s), (8, I (a + i))]) (fun _ _ => [.own 0 [I g, I lo, I hi], .own 0 [I a, I b]]) 0 rfl ⟨rfl, rfl, rfl, rfl, rfl, rfl, rfl, congrArg I (show a = a + iLen 0 by simp [iLen]), trivial⟩ (.inl rfl) fun j s i hi' hj hP Bk hB => ?_
  have hle : A.le (a + i) b = decide (j < (b - a + 1).toNat) := by subst hA hi'; show decide (a + (j : Int) ≤ b) = _; rw [decide_eq_decide]; omega
  have hda : A.add .i64 (a + i) 1 = a + iLen (j + 1) := by subst hA hi'; show iAdd .i64 (a + (j : Int)) 1 = a + ((j + 1 : Nat) : Int); rw [iAdd_id] <;> omega
  have hdi : i = (j : Int) := hi'
  have hd0 : 0 ≤ a + i := by omega
  have hdd : a + i = a + (j : Int) := by omega
  obtain ⟨d, hd⟩ : ∃ d, d = a + i := ⟨_, rfl⟩
  rw [← hd] at hle hda hd0 hdd
  rw [← hd]
  have hcb := cntS_bnd (g := g) (lo := lo) (hi := hi) (v := v) (a := a) (n := j)
  rw [← hP] at hcb
  have hsa : A.add .i64 s 1 = s + 1 := by subst hA; exact iAdd_id (by omega) (by omega)
  have hba : A.add .i64 (A.sub .i64 b a) 1 = b - a + 1 := by subst hA; simp only [std]; rw [iSub_id (by omega) (by omega), iAdd_id (by omega) (by omega)]
  have hdm : j < (b - a + 1).toNat → d ≤ 10000 := by omega
  have hend : ¬ j < (b - a + 1).toNat → s = cntS g lo hi v a (b - a + 1).toNat := fun hq => by rw [hP]; congr 1; omega
  refine SGo_run hA ⟨[], [], [(136, eCrit S3)], []⟩ (.cons (eCrit_ok hS3) .nil) .nil 200 fun T TD hT hTD => ?_
  cbv
  split <;> cbv
  · rename_i hk1
    have hk1 : j < (b - a + 1).toNat := by have := hle.symm.trans hk1; simpa using this
    have hd1 := hdm hk1
    (refine Exists.intro () (And.intro hw (And.intro ⟨hd0, hd1⟩ ?_)); cbv)
    split <;> cbv
    · rename_i hq
      refine hB (s + 1) _ _ hk1 ?_ ⟨rfl, rfl, rfl, rfl, rfl, rfl, congrArg I hsa, congrArg I hda, trivial⟩ (.inl rfl)
      rw [cntS, ← hP, ← hdd, ← hcr, if_pos hq]
    · rename_i hq
      refine hB s _ _ hk1 ?_ ⟨rfl, rfl, rfl, rfl, rfl, rfl, rfl, congrArg I hda, trivial⟩ (.inl rfl)
      rw [cntS, ← hP, ← hdd, ← hcr, if_neg (by rw [Bool.not_eq_true]; exact hq)]; omega
  · rename_i hk1
    have hk1 : ¬ j < (b - a + 1).toNat := by have := hle.symm.trans hk1; simpa using this
    have hs := hend hk1
    rw [wverS, ← hs, ← hba] at hW
    repeat' (split <;> cbv)
    all_goals
      refine leaf h (congrArg I ?_) rfl
      rw [hW]
      clear h hs hP hcb hend hB hcr hW hda hsa hle
      subst hA
      simp only [std, iEq, beq_iff_eq, beq_eq_false_iff_ne, ne_eq] at *
      repeat' split
      all_goals omega
end Go.Sas
namespace Go.Sas
open Go.Proofs
set_option maxRecDepth 100000
theorem eWater_ok {f : Nat} (hf : ∀ (p : Plate) {a b : Int} {xs ec : List AV} {ne ed gr lo hi sh wi : Int}, PlateIs p a b xs ec ne ed gr lo hi sh wi → Big p.shares → Big p.creep → ∀ (u v n : Int) (H : AHeap) {Kk : AV → AHeap → Prop}, Kk (I (waterS p u v n)) H →
    ACalls Try.prog f [plV a b (.vs 2 xs) (.vs 2 ec) ne ed gr lo hi sh wi, .agg [I u, I v], I n] H Kk) {S : Sp3} (hS : S = st3) : ∀ args pt, eWater S args = some pt → ∀ (H : AHeap) (Kk : AV → AHeap → Prop), pt (fun r => Kk r H) → ACalls Try.prog f args H Kk := by
  intro args pt h H Kk hk
  subst hS
  unfold eWater at h
  split at h
  · split at h
    · rename_i x hy
      cases h
      obtain ⟨p, h1, h2, h3, h4⟩ := hk
      obtain ⟨a, b, xs, ec, ne, ed, gr, lo, hi, sh, wi⟩ := x
      exact (hf p h1 h2 h3 _ _ _ H h4).wk ⟨asPl_wk hy, Wk.rfl, Wk.rfl, trivial⟩
    · cases h
  · cases h
theorem eWver_ok {S : Sp3} (hS : S = st3) : ∀ args pt, eWver S args = some pt → ∀ (H : AHeap) (Kk : AV → AHeap → Prop), pt (fun r => Kk r H) → ACalls Try.prog 96 args H Kk := by
  intro args pt h H Kk hk
  subst hS
  unfold eWver at h
  split at h
  · cases h
    obtain ⟨_, h1, h2, h3⟩ := hk
    exact p96 _ _ _ _ _ _ h1 h2 H h3
  · cases h
end Go.Sas
namespace Go.Sas
open Go.Proofs
set_option maxRecDepth 100000
end Go.Sas
