/-
Probe: looks made of numbers at a course that is written to: contract; entries of tables.
Conditions: none.
-/
import Derived.Test.YtajegdbljldakaaQR46
import Derived.Test.YtajegdbljldakaaPP
set_option linter.unusedVariables false
set_option linter.unusedSimpArgs false
namespace Go.Sas
open Go.Proofs
set_option maxRecDepth 100000
def crsH (R : List Rch) (T : Nat → Nat → Int) (b : Nat) : AHeap := [.own 4 [.ms 1 b R.length 0 R.length, .ms 1 (b + 1) R.length 0 R.length, .ms 1 (b + 2) R.length 0 R.length, .ms 1 (b + 3) R.length 0 R.length], .own R.length (crsRow T R.length 0), .own R.length (crsRow T R.length 1), .own R.length (crsRow T R.length 2), .own R.length (crsRow T R.length 3)]
set_option maxHeartbeats 8000000 in
theorem d20b (R : List Rch) (TC : Nat → Nat → Int) (first most : Int) (hP : PlcOk R) (hT0 : CrsOk R TC 4) (hf : 0 ≤ first ∧ first ≤ 100) (hm : 0 ≤ most ∧ most ≤ 100) (w : Int) {Kk : AV → AHeap → Prop}
    (h : ∀ w' r, LkQ R TC first 4 most r → Kk r (.own 0 [U w'] :: crsH R TC 2)) : ACalls Try.prog 20 [.mp 0 0 0, I first, .ms 1 1 4 0 4, I most] (.own 0 [U w] :: crsH R TC 2) Kk := by
  refine ACalls.frees ?_
  unfold crsH at h ⊢
  obtain ⟨N, hN⟩ : ∃ N, N = R.length := ⟨_, rfl⟩
  rw [← hN]
  have hN1 : 1 ≤ N := by rw [hN]; exact hP.pos
  have hN2 : N ≤ 1000 := by rw [hN]; exact hP.le
  rw [← hN] at h
  obtain ⟨ro0, hro0⟩ : ∃ x, x = crsRow TC N 0 := ⟨_, rfl⟩
  obtain ⟨ro1, hro1⟩ : ∃ x, x = crsRow TC N 1 := ⟨_, rfl⟩
  obtain ⟨ro2, hro2⟩ : ∃ x, x = crsRow TC N 2 := ⟨_, rfl⟩
  obtain ⟨ro3, hro3⟩ : ∃ x, x = crsRow TC N 3 := ⟨_, rfl⟩
  rw [← hro0, ← hro1, ← hro2, ← hro3] at h ⊢
  have hn0 : AV.nidL ro0 = true := by rw [hro0]; exact nidL_row _ _ _
  have hn1 : AV.nidL ro1 = true := by rw [hro1]; exact nidL_row _ _ _
  have hn2 : AV.nidL ro2 = true := by rw [hro2]; exact nidL_row _ _ _
  have hn3 : AV.nidL ro3 = true := by rw [hro3]; exact nidL_row _ _ _
  have hr0 : ∀ n, AV.ltL n ro0 := fun n => AV.ltL_nid hn0
  have hr1 : ∀ n, AV.ltL n ro1 := fun n => AV.ltL_nid hn1
  have hr2 : ∀ n, AV.ltL n ro2 := fun n => AV.ltL_nid hn2
  have hr3 : ∀ n, AV.ltL n ro3 := fun n => AV.ltL_nid hn3
  obtain ⟨A, hA⟩ : ∃ A, A = std := ⟨_, rfl⟩
  have hsg : ∀ g, A.sg g g := by subst hA; exact fun _ => rfl
  obtain ⟨F, hF⟩ : ∃ F, F = Frees 6 Kk := ⟨_, rfl⟩
  show ACalls Try.prog 20 _ _ (Frees 6 Kk)
  rw [← hF]
  have hm1 : A.add .i64 most 1 = most + 1 := by subst hA; exact iAdd_id (by omega) (by omega)
  have hrv : A.len N = iLen N := by subst hA; rfl
  refine go20 rfl (SGo_run hA ⟨[1, 2, 3, 4, 5], [], [], ed2⟩ .nil ed2_ok 200 fun T TD hT hTD => ?_)
  cbv
  refine Exists.intro () (And.intro (by show A.add .i64 most 1 ≤ _; rw [hm1]; omega) ?_)
  rintro w1 _ ⟨d0, rfl, hd1, hd2⟩
  have hd2 : d0 < A.add .i64 most 1 ∨ d0 = 0 := hd2
  rw [hm1] at hd2
  cbv
  rw [hT]
  refine AGo_nilms 9 5 rfl ?_
  refine AGo_whileE (σ := Int × Int × List Lk) [0, 1, 2] (fun s => s.2.1.toNat) (fun s => 0 ≤ s.2.1 ∧ s.2.1 + iLen s.2.2.length ≤ most ∧ ∀ x ∈ s.2.2, LkFit R TC first 4 x) (fun s => [(9, .ms 5 6 s.2.2.length 0 s.2.2.length), (10, I s.2.1)])
    (fun s => [.own 0 [U s.1], .own 4 [.ms 1 2 N 0 N, .ms 1 3 N 0 N, .ms 1 4 N 0 N, .ms 1 5 N 0 N], .own N ro0, .own N ro1, .own N ro2, .own N ro3, .own s.2.2.length (s.2.2.flatMap lkC)]) (w1, d0, []) ⟨by dsimp only; omega, by show d0 + iLen 0 ≤ most; unfold iLen; omega, by simp⟩ ⟨rfl, rfl, trivial⟩ (.inl rfl) fun s hP Bk hB => ?_
  obtain ⟨w2, d, l⟩ := s
  obtain ⟨hP1, hP2, hP3⟩ := hP
  dsimp only at hP1 hP2 hP3 ⊢
  obtain ⟨n, hn⟩ : ∃ n, n = l.length := ⟨_, rfl⟩
  obtain ⟨cc, hcc⟩ : ∃ c, c = l.flatMap lkC := ⟨_, rfl⟩
  rw [← hn, ← hcc]
  rw [← hn] at hP2
  have hn4 : n ≤ 100 := by unfold iLen at hP2; omega
  have hd4 : d ≤ 100 := by unfold iLen at hP2; omega
  have hcl : cc.length = n * 5 := by rw [hcc, hn, len_flat (k := 5) (fun _ => rfl)]
  have hgt : A.lt 0 d = decide (0 < d) := by subst hA; rfl
  refine SGo_run hA ⟨[1, 2, 3, 4, 5, 6], [0, 1002, 1003, 1004, 1005, 1006], [], ed2⟩ .nil ed2_ok 200 fun T TD hT hTD => ?_
  cbv
  split <;> cbv
  · rename_i hz
    have hz : 0 < d := by have hz := hgt.symm.trans hz; simpa using hz
    refine And.intro (hsg _) ?_; cbv
    have hl4 : A.len 4 = 4 := by subst hA; rfl
    refine Exists.intro () (And.intro (by show A.len 4 ≤ _; rw [hl4]; omega) ?_)
    rintro w3 _ ⟨q1, rfl, hq1, hq1'⟩
    have hq1' : q1 < A.len 4 ∨ q1 = 0 := hq1'
    rw [hl4] at hq1'
    cbv
    obtain ⟨i, hi⟩ : ∃ i : Nat, q1 = iLen i := ⟨q1.toNat, by unfold iLen; omega⟩
    have hih : i < 4 := by unfold iLen at hi; omega
    have hq1b : 0 ≤ q1 ∧ q1 ≤ 100 := by omega
    have hix : A.ixm 1 1 0 4 q1 i := by subst hA; exact ⟨rfl, by omega, by show q1 < 4; omega, by rw [hi]; show i = 0 + i * 1; omega⟩
    have hic : i = 0 ∨ i = 1 ∨ i = 2 ∨ i = 3 := by omega
    rcases hic with rfl | rfl | rfl | rfl
    · refine And.intro (hsg _) (Exists.intro 0 (And.intro hix ?_)); cbv
      refine And.intro (hsg _) (Exists.intro (.ms 1 2 N 0 N) (And.intro (by subst hA; rfl) ?_)); cbv
      refine And.intro (hsg _) ?_; cbv
      refine Exists.intro () (And.intro (by show A.len N ≤ _; rw [hrv]; unfold iLen; omega) ?_)
      rintro w4 _ ⟨q2, rfl, hq2, hq2'⟩
      have hq2' : q2 < A.len N ∨ q2 = 0 := hq2'
      rw [hrv] at hq2'
      cbv
      obtain ⟨p, hp⟩ : ∃ p : Nat, q2 = iLen p := ⟨q2.toNat, by unfold iLen; omega⟩
      have hpN : p < N := by unfold iLen at hp hq2'; omega
      have hTb := hT0.rng 0 p hih (by omega)
      obtain ⟨t, ht⟩ : ∃ t, t = TC 0 p := ⟨_, rfl⟩
      rw [← ht] at hTb
      have hixp : A.ixm 1 1 0 N q2 p := by subst hA; exact ⟨rfl, by omega, by rw [hp]; unfold iLen; omega, by rw [hp]; show p = 0 + p * 1; omega⟩
      have hgp : A.get none ro0 p (I t) := by subst hA; rw [hro0, ht]; show getN none _ _ = _; simp [getN, crsRow, hpN]
      refine And.intro (hsg _) (Exists.intro 0 (And.intro hix ?_)); cbv
      refine And.intro (hsg _) (Exists.intro (.ms 1 2 N 0 N) (And.intro (by subst hA; rfl) ?_)); cbv
      refine And.intro (hsg _) (Exists.intro p (And.intro hixp ?_)); cbv
      refine And.intro (hsg _) (Exists.intro (I t) (And.intro hgp ?_)); cbv
      refine Exists.intro () (And.intro (by omega) ?_)
      rintro w5 _ ⟨s1, rfl, hs1⟩
      cbv
      refine Exists.intro () (And.intro (by omega) ?_)
      rintro w6 _ ⟨s2, rfl, hs2⟩
      cbv
      refine Exists.intro () (And.intro ⟨by simp, by simp, by exact AllI_lits (l := [0, s1, s2])⟩ ?_)
      rintro w7 _ ⟨u, rfl, hu⟩
      simp at hu
      cbv
      refine Exists.intro () (And.intro (by omega) ?_)
      rintro w8 _ ⟨s3, rfl, hs3⟩
      cbv
      refine Exists.intro () (And.intro (by omega) ?_)
      rintro w9 _ ⟨s4, rfl, hs4⟩
      cbv
      refine Exists.intro () (And.intro ⟨by simp, by simp, by exact AllI_lits (l := [0, s3, s4])⟩ ?_)
      rintro w10 _ ⟨v, rfl, hv⟩
      simp at hv
      cbv
      refine Exists.intro () (And.intro (by omega) ?_)
      rintro w11 _ ⟨k, rfl, hk⟩
      cbv
      refine And.intro (by subst hA; first | (simp [std, Keep, SubH, ResK]; done) | exact .inr ⟨⟨rfl, SubH.self _⟩, trivial, .inr fun _ => ⟨rfl, SubH.self _⟩⟩ | exact .inr ⟨SubH.self _, trivial, .inr fun _ => SubH.self _⟩ | exact .inr ⟨by simp [SubH], trivial, .inl rfl⟩ | exact .inr ⟨by simp [SubH], trivial, .inr fun _ => by simp [SubH]⟩) ?_
      cbv
      have hsub : A.sub .i64 d 1 = d - 1 := by subst hA; exact iSub_id (by omega) (by omega)
      have hlo : A.max 0 (A.sub .i64 t u) = max 0 (t - u) := by subst hA; simp only [std, iMax_eq]; rw [iSub_id (by omega) (by omega)]
      have hhi : A.min 3000 (A.add .i64 t v) = min 3000 (t + v) := by subst hA; simp only [std, iMin_eq]; rw [iAdd_id (by omega) (by omega)]
      have hhr : A.add .i64 first q1 = first + q1 := by subst hA; exact iAdd_id (by omega) (by omega)
      obtain ⟨cc2, hcc2⟩ : ∃ x, x = cc ++ lkC ⟨k, q2, A.add .i64 first q1, A.max 0 (A.sub .i64 t u), A.min 3000 (A.add .i64 t v)⟩ := ⟨_, rfl⟩
      refine And.intro (hsg _) (Exists.intro cc2 (Exists.intro (n + 1) (And.intro (by subst hA; rw [hcc2]; exact app_one hcl rfl (by omega)) (And.intro rfl ?_))))
      cbv
      refine And.intro (by subst hA; first | (simp [std, Keep, SubH, ResK]; done) | exact .inr ⟨⟨rfl, SubH.self _⟩, trivial, .inr fun _ => ⟨rfl, SubH.self _⟩⟩ | exact .inr ⟨SubH.self _, trivial, .inr fun _ => SubH.self _⟩ | exact .inr ⟨by simp [SubH], trivial, .inl rfl⟩ | exact .inr ⟨by simp [SubH], trivial, .inr fun _ => by simp [SubH]⟩) ?_
      cbv
      rw [hlo, hhi, hhr] at hcc2
      have hcl2 : ∀ n (l : List Lk), AV.ltL n (l.flatMap lkC) := fun n l => AV.ltL_nid (nidL_flat (fun _ => rfl) l)
      refine hB (w11, d - 1, l ++ [⟨k, q2, first + q1, max 0 (t - u), min 3000 (t + v)⟩]) _ _ (by dsimp only; omega) ⟨by dsimp only; omega, by dsimp only; rw [List.length_append, ← hn]; unfold iLen at hP2 ⊢; simp; omega, ?_⟩ ?_ ⟨rfl, rfl, rfl, trivial⟩ (.inr ⟨⟨_, by dsimp only; rw [List.flatMap_append, List.length_append, ← hn, ← hcc]; rw [show cc ++ [Lk.mk k q2 (first + q1) (max 0 (t - u)) (min 3000 (t + v))].flatMap lkC = cc2 from hcc2.symm]; rfl⟩, by simp, by simp [ltG, AV.lt, AV.ltL, keepS, look, gset], by simp [ltH, AObj.lt, AV.lt, AV.ltL, hr0, hr1, hr2, hr3, hcl2, -List.flatMap_append]⟩)
      · intro x hx
        rcases List.mem_append.1 hx with hx | hx
        · exact hP3 x hx
        · simp only [List.mem_singleton] at hx; subst hx
          refine ⟨by dsimp only; omega, 0, p, hih, by omega, hp, congrArg (first + ·) hi, ?_⟩
          dsimp only
          rw [← ht]; omega
      · rw [List.length_append, ← hn]; exact ⟨rfl, congrArg I hsub, trivial⟩
    · refine And.intro (hsg _) (Exists.intro 1 (And.intro hix ?_)); cbv
      refine And.intro (hsg _) (Exists.intro (.ms 1 3 N 0 N) (And.intro (by subst hA; rfl) ?_)); cbv
      refine And.intro (hsg _) ?_; cbv
      refine Exists.intro () (And.intro (by show A.len N ≤ _; rw [hrv]; unfold iLen; omega) ?_)
      rintro w4 _ ⟨q2, rfl, hq2, hq2'⟩
      have hq2' : q2 < A.len N ∨ q2 = 0 := hq2'
      rw [hrv] at hq2'
      cbv
      obtain ⟨p, hp⟩ : ∃ p : Nat, q2 = iLen p := ⟨q2.toNat, by unfold iLen; omega⟩
      have hpN : p < N := by unfold iLen at hp hq2'; omega
      have hTb := hT0.rng 1 p hih (by omega)
      obtain ⟨t, ht⟩ : ∃ t, t = TC 1 p := ⟨_, rfl⟩
      rw [← ht] at hTb
      have hixp : A.ixm 1 1 0 N q2 p := by subst hA; exact ⟨rfl, by omega, by rw [hp]; unfold iLen; omega, by rw [hp]; show p = 0 + p * 1; omega⟩
      have hgp : A.get none ro1 p (I t) := by subst hA; rw [hro1, ht]; show getN none _ _ = _; simp [getN, crsRow, hpN]
      refine And.intro (hsg _) (Exists.intro 1 (And.intro hix ?_)); cbv
      refine And.intro (hsg _) (Exists.intro (.ms 1 3 N 0 N) (And.intro (by subst hA; rfl) ?_)); cbv
      refine And.intro (hsg _) (Exists.intro p (And.intro hixp ?_)); cbv
      refine And.intro (hsg _) (Exists.intro (I t) (And.intro hgp ?_)); cbv
      refine Exists.intro () (And.intro (by omega) ?_)
      rintro w5 _ ⟨s1, rfl, hs1⟩
      cbv
      refine Exists.intro () (And.intro (by omega) ?_)
      rintro w6 _ ⟨s2, rfl, hs2⟩
      cbv
      refine Exists.intro () (And.intro ⟨by simp, by simp, by exact AllI_lits (l := [0, s1, s2])⟩ ?_)
      rintro w7 _ ⟨u, rfl, hu⟩
      simp at hu
      cbv
      refine Exists.intro () (And.intro (by omega) ?_)
      rintro w8 _ ⟨s3, rfl, hs3⟩
      cbv
      refine Exists.intro () (And.intro (by omega) ?_)
      rintro w9 _ ⟨s4, rfl, hs4⟩
      cbv
      refine Exists.intro () (And.intro ⟨by simp, by simp, by exact AllI_lits (l := [0, s3, s4])⟩ ?_)
      rintro w10 _ ⟨v, rfl, hv⟩
      simp at hv
      cbv
      refine Exists.intro () (And.intro (by omega) ?_)
      rintro w11 _ ⟨k, rfl, hk⟩
      cbv
      refine And.intro (by subst hA; first | (simp [std, Keep, SubH, ResK]; done) | exact .inr ⟨⟨rfl, SubH.self _⟩, trivial, .inr fun _ => ⟨rfl, SubH.self _⟩⟩ | exact .inr ⟨SubH.self _, trivial, .inr fun _ => SubH.self _⟩ | exact .inr ⟨by simp [SubH], trivial, .inl rfl⟩ | exact .inr ⟨by simp [SubH], trivial, .inr fun _ => by simp [SubH]⟩) ?_
      cbv
      have hsub : A.sub .i64 d 1 = d - 1 := by subst hA; exact iSub_id (by omega) (by omega)
      have hlo : A.max 0 (A.sub .i64 t u) = max 0 (t - u) := by subst hA; simp only [std, iMax_eq]; rw [iSub_id (by omega) (by omega)]
      have hhi : A.min 3000 (A.add .i64 t v) = min 3000 (t + v) := by subst hA; simp only [std, iMin_eq]; rw [iAdd_id (by omega) (by omega)]
      have hhr : A.add .i64 first q1 = first + q1 := by subst hA; exact iAdd_id (by omega) (by omega)
      obtain ⟨cc2, hcc2⟩ : ∃ x, x = cc ++ lkC ⟨k, q2, A.add .i64 first q1, A.max 0 (A.sub .i64 t u), A.min 3000 (A.add .i64 t v)⟩ := ⟨_, rfl⟩
      refine And.intro (hsg _) (Exists.intro cc2 (Exists.intro (n + 1) (And.intro (by subst hA; rw [hcc2]; exact app_one hcl rfl (by omega)) (And.intro rfl ?_))))
      cbv
      refine And.intro (by subst hA; first | (simp [std, Keep, SubH, ResK]; done) | exact .inr ⟨⟨rfl, SubH.self _⟩, trivial, .inr fun _ => ⟨rfl, SubH.self _⟩⟩ | exact .inr ⟨SubH.self _, trivial, .inr fun _ => SubH.self _⟩ | exact .inr ⟨by simp [SubH], trivial, .inl rfl⟩ | exact .inr ⟨by simp [SubH], trivial, .inr fun _ => by simp [SubH]⟩) ?_
      cbv
      rw [hlo, hhi, hhr] at hcc2
      have hcl2 : ∀ n (l : List Lk), AV.ltL n (l.flatMap lkC) := fun n l => AV.ltL_nid (nidL_flat (fun _ => rfl) l)
      refine hB (w11, d - 1, l ++ [⟨k, q2, first + q1, max 0 (t - u), min 3000 (t + v)⟩]) _ _ (by dsimp only; omega) ⟨by dsimp only; omega, by dsimp only; rw [List.length_append, ← hn]; unfold iLen at hP2 ⊢; simp; omega, ?_⟩ ?_ ⟨rfl, rfl, rfl, trivial⟩ (.inr ⟨⟨_, by dsimp only; rw [List.flatMap_append, List.length_append, ← hn, ← hcc]; rw [show cc ++ [Lk.mk k q2 (first + q1) (max 0 (t - u)) (min 3000 (t + v))].flatMap lkC = cc2 from hcc2.symm]; rfl⟩, by simp, by simp [ltG, AV.lt, AV.ltL, keepS, look, gset], by simp [ltH, AObj.lt, AV.lt, AV.ltL, hr0, hr1, hr2, hr3, hcl2, -List.flatMap_append]⟩)
      · intro x hx
        rcases List.mem_append.1 hx with hx | hx
        · exact hP3 x hx
        · simp only [List.mem_singleton] at hx; subst hx
          refine ⟨by dsimp only; omega, 1, p, hih, by omega, hp, congrArg (first + ·) hi, ?_⟩
          dsimp only
          rw [← ht]; omega
      · rw [List.length_append, ← hn]; exact ⟨rfl, congrArg I hsub, trivial⟩
    · refine And.intro (hsg _) (Exists.intro 2 (And.intro hix ?_)); cbv
      refine And.intro (hsg _) (Exists.intro (.ms 1 4 N 0 N) (And.intro (by subst hA; rfl) ?_)); cbv
      refine And.intro (hsg _) ?_; cbv
      refine Exists.intro () (And.intro (by show A.len N ≤ _; rw [hrv]; unfold iLen; omega) ?_)
      rintro w4 _ ⟨q2, rfl, hq2, hq2'⟩
      have hq2' : q2 < A.len N ∨ q2 = 0 := hq2'
      rw [hrv] at hq2'
      cbv
      obtain ⟨p, hp⟩ : ∃ p : Nat, q2 = iLen p := ⟨q2.toNat, by unfold iLen; omega⟩
      have hpN : p < N := by unfold iLen at hp hq2'; omega
      have hTb := hT0.rng 2 p hih (by omega)
      obtain ⟨t, ht⟩ : ∃ t, t = TC 2 p := ⟨_, rfl⟩
      rw [← ht] at hTb
      have hixp : A.ixm 1 1 0 N q2 p := by subst hA; exact ⟨rfl, by omega, by rw [hp]; unfold iLen; omega, by rw [hp]; show p = 0 + p * 1; omega⟩
      have hgp : A.get none ro2 p (I t) := by subst hA; rw [hro2, ht]; show getN none _ _ = _; simp [getN, crsRow, hpN]
      refine And.intro (hsg _) (Exists.intro 2 (And.intro hix ?_)); cbv
      refine And.intro (hsg _) (Exists.intro (.ms 1 4 N 0 N) (And.intro (by subst hA; rfl) ?_)); cbv
      refine And.intro (hsg _) (Exists.intro p (And.intro hixp ?_)); cbv
      refine And.intro (hsg _) (Exists.intro (I t) (And.intro hgp ?_)); cbv
      refine Exists.intro () (And.intro (by omega) ?_)
      rintro w5 _ ⟨s1, rfl, hs1⟩
      cbv
      refine Exists.intro () (And.intro (by omega) ?_)
      rintro w6 _ ⟨s2, rfl, hs2⟩
      cbv
      refine Exists.intro () (And.intro ⟨by simp, by simp, by exact AllI_lits (l := [0, s1, s2])⟩ ?_)
      rintro w7 _ ⟨u, rfl, hu⟩
      simp at hu
      cbv
      refine Exists.intro () (And.intro (by omega) ?_)
      rintro w8 _ ⟨s3, rfl, hs3⟩
      cbv
      refine Exists.intro () (And.intro (by omega) ?_)
      rintro w9 _ ⟨s4, rfl, hs4⟩
      cbv
      refine Exists.intro () (And.intro ⟨by simp, by simp, by exact AllI_lits (l := [0, s3, s4])⟩ ?_)
      rintro w10 _ ⟨v, rfl, hv⟩
      simp at hv
      cbv
      refine Exists.intro () (And.intro (by omega) ?_)
      rintro w11 _ ⟨k, rfl, hk⟩
      cbv
      refine And.intro (by subst hA; first | (simp [std, Keep, SubH, ResK]; done) | exact .inr ⟨⟨rfl, SubH.self _⟩, trivial, .inr fun _ => ⟨rfl, SubH.self _⟩⟩ | exact .inr ⟨SubH.self _, trivial, .inr fun _ => SubH.self _⟩ | exact .inr ⟨by simp [SubH], trivial, .inl rfl⟩ | exact .inr ⟨by simp [SubH], trivial, .inr fun _ => by simp [SubH]⟩) ?_
      cbv
      have hsub : A.sub .i64 d 1 = d - 1 := by subst hA; exact iSub_id (by omega) (by omega)
      have hlo : A.max 0 (A.sub .i64 t u) = max 0 (t - u) := by subst hA; simp only [std, iMax_eq]; rw [iSub_id (by omega) (by omega)]
      have hhi : A.min 3000 (A.add .i64 t v) = min 3000 (t + v) := by subst hA; simp only [std, iMin_eq]; rw [iAdd_id (by omega) (by omega)]
      have hhr : A.add .i64 first q1 = first + q1 := by subst hA; exact iAdd_id (by omega) (by omega)
      obtain ⟨cc2, hcc2⟩ : ∃ x, x = cc ++ lkC ⟨k, q2, A.add .i64 first q1, A.max 0 (A.sub .i64 t u), A.min 3000 (A.add .i64 t v)⟩ := ⟨_, rfl⟩
      refine And.intro (hsg _) (Exists.intro cc2 (Exists.intro (n + 1) (And.intro (by subst hA; rw [hcc2]; exact app_one hcl rfl (by omega)) (And.intro rfl ?_))))
      cbv
      refine And.intro (by subst hA; first | (simp [std, Keep, SubH, ResK]; done) | exact .inr ⟨⟨rfl, SubH.self _⟩, trivial, .inr fun _ => ⟨rfl, SubH.self _⟩⟩ | exact .inr ⟨SubH.self _, trivial, .inr fun _ => SubH.self _⟩ | exact .inr ⟨by simp [SubH], trivial, .inl rfl⟩ | exact .inr ⟨by simp [SubH], trivial, .inr fun _ => by simp [SubH]⟩) ?_
      cbv
      rw [hlo, hhi, hhr] at hcc2
      have hcl2 : ∀ n (l : List Lk), AV.ltL n (l.flatMap lkC) := fun n l => AV.ltL_nid (nidL_flat (fun _ => rfl) l)
      refine hB (w11, d - 1, l ++ [⟨k, q2, first + q1, max 0 (t - u), min 3000 (t + v)⟩]) _ _ (by dsimp only; omega) ⟨by dsimp only; omega, by dsimp only; rw [List.length_append, ← hn]; unfold iLen at hP2 ⊢; simp; omega, ?_⟩ ?_ ⟨rfl, rfl, rfl, trivial⟩ (.inr ⟨⟨_, by dsimp only; rw [List.flatMap_append, List.length_append, ← hn, ← hcc]; rw [show cc ++ [Lk.mk k q2 (first + q1) (max 0 (t - u)) (min 3000 (t + v))].flatMap lkC = cc2 from hcc2.symm]; rfl⟩, by simp, by simp [ltG, AV.lt, AV.ltL, keepS, look, gset], by simp [ltH, AObj.lt, AV.lt, AV.ltL, hr0, hr1, hr2, hr3, hcl2, -List.flatMap_append]⟩)
      · intro x hx
        rcases List.mem_append.1 hx with hx | hx
        · exact hP3 x hx
        · simp only [List.mem_singleton] at hx; subst hx
          refine ⟨by dsimp only; omega, 2, p, hih, by omega, hp, congrArg (first + ·) hi, ?_⟩
          dsimp only
          rw [← ht]; omega
      · rw [List.length_append, ← hn]; exact ⟨rfl, congrArg I hsub, trivial⟩
    · refine And.intro (hsg _) (Exists.intro 3 (And.intro hix ?_)); cbv
      refine And.intro (hsg _) (Exists.intro (.ms 1 5 N 0 N) (And.intro (by subst hA; rfl) ?_)); cbv
      refine And.intro (hsg _) ?_; cbv
      refine Exists.intro () (And.intro (by show A.len N ≤ _; rw [hrv]; unfold iLen; omega) ?_)
      rintro w4 _ ⟨q2, rfl, hq2, hq2'⟩
      have hq2' : q2 < A.len N ∨ q2 = 0 := hq2'
      rw [hrv] at hq2'
      cbv
      obtain ⟨p, hp⟩ : ∃ p : Nat, q2 = iLen p := ⟨q2.toNat, by unfold iLen; omega⟩
      have hpN : p < N := by unfold iLen at hp hq2'; omega
      have hTb := hT0.rng 3 p hih (by omega)
      obtain ⟨t, ht⟩ : ∃ t, t = TC 3 p := ⟨_, rfl⟩
      rw [← ht] at hTb
      have hixp : A.ixm 1 1 0 N q2 p := by subst hA; exact ⟨rfl, by omega, by rw [hp]; unfold iLen; omega, by rw [hp]; show p = 0 + p * 1; omega⟩
      have hgp : A.get none ro3 p (I t) := by subst hA; rw [hro3, ht]; show getN none _ _ = _; simp [getN, crsRow, hpN]
      refine And.intro (hsg _) (Exists.intro 3 (And.intro hix ?_)); cbv
      refine And.intro (hsg _) (Exists.intro (.ms 1 5 N 0 N) (And.intro (by subst hA; rfl) ?_)); cbv
      refine And.intro (hsg _) (Exists.intro p (And.intro hixp ?_)); cbv
      refine And.intro (hsg _) (Exists.intro (I t) (And.intro hgp ?_)); cbv
      refine Exists.intro () (And.intro (by omega) ?_)
      rintro w5 _ ⟨s1, rfl, hs1⟩
      cbv
      refine Exists.intro () (And.intro (by omega) ?_)
      rintro w6 _ ⟨s2, rfl, hs2⟩
      cbv
      refine Exists.intro () (And.intro ⟨by simp, by simp, by exact AllI_lits (l := [0, s1, s2])⟩ ?_)
      rintro w7 _ ⟨u, rfl, hu⟩
      simp at hu
      cbv
      refine Exists.intro () (And.intro (by omega) ?_)
      rintro w8 _ ⟨s3, rfl, hs3⟩
      cbv
      refine Exists.intro () (And.intro (by omega) ?_)
      rintro w9 _ ⟨s4, rfl, hs4⟩
      cbv
      refine Exists.intro () (And.intro ⟨by simp, by simp, by exact AllI_lits (l := [0, s3, s4])⟩ ?_)
      rintro w10 _ ⟨v, rfl, hv⟩
      simp at hv
      cbv
      refine Exists.intro () (And.intro (by omega) ?_)
      rintro w11 _ ⟨k, rfl, hk⟩
      cbv
      refine And.intro (by subst hA; first | (simp [std, Keep, SubH, ResK]; done) | exact .inr ⟨⟨rfl, SubH.self _⟩, trivial, .inr fun _ => ⟨rfl, SubH.self _⟩⟩ | exact .inr ⟨SubH.self _, trivial, .inr fun _ => SubH.self _⟩ | exact .inr ⟨by simp [SubH], trivial, .inl rfl⟩ | exact .inr ⟨by simp [SubH], trivial, .inr fun _ => by simp [SubH]⟩) ?_
      cbv
      have hsub : A.sub .i64 d 1 = d - 1 := by subst hA; exact iSub_id (by omega) (by omega)
      have hlo : A.max 0 (A.sub .i64 t u) = max 0 (t - u) := by subst hA; simp only [std, iMax_eq]; rw [iSub_id (by omega) (by omega)]
      have hhi : A.min 3000 (A.add .i64 t v) = min 3000 (t + v) := by subst hA; simp only [std, iMin_eq]; rw [iAdd_id (by omega) (by omega)]
      have hhr : A.add .i64 first q1 = first + q1 := by subst hA; exact iAdd_id (by omega) (by omega)
      obtain ⟨cc2, hcc2⟩ : ∃ x, x = cc ++ lkC ⟨k, q2, A.add .i64 first q1, A.max 0 (A.sub .i64 t u), A.min 3000 (A.add .i64 t v)⟩ := ⟨_, rfl⟩
      refine And.intro (hsg _) (Exists.intro cc2 (Exists.intro (n + 1) (And.intro (by subst hA; rw [hcc2]; exact app_one hcl rfl (by omega)) (And.intro rfl ?_))))
      cbv
      refine And.intro (by subst hA; first | (simp [std, Keep, SubH, ResK]; done) | exact .inr ⟨⟨rfl, SubH.self _⟩, trivial, .inr fun _ => ⟨rfl, SubH.self _⟩⟩ | exact .inr ⟨SubH.self _, trivial, .inr fun _ => SubH.self _⟩ | exact .inr ⟨by simp [SubH], trivial, .inl rfl⟩ | exact .inr ⟨by simp [SubH], trivial, .inr fun _ => by simp [SubH]⟩) ?_
      cbv
      rw [hlo, hhi, hhr] at hcc2
      have hcl2 : ∀ n (l : List Lk), AV.ltL n (l.flatMap lkC) := fun n l => AV.ltL_nid (nidL_flat (fun _ => rfl) l)
      refine hB (w11, d - 1, l ++ [⟨k, q2, first + q1, max 0 (t - u), min 3000 (t + v)⟩]) _ _ (by dsimp only; omega) ⟨by dsimp only; omega, by dsimp only; rw [List.length_append, ← hn]; unfold iLen at hP2 ⊢; simp; omega, ?_⟩ ?_ ⟨rfl, rfl, rfl, trivial⟩ (.inr ⟨⟨_, by dsimp only; rw [List.flatMap_append, List.length_append, ← hn, ← hcc]; rw [show cc ++ [Lk.mk k q2 (first + q1) (max 0 (t - u)) (min 3000 (t + v))].flatMap lkC = cc2 from hcc2.symm]; rfl⟩, by simp, by simp [ltG, AV.lt, AV.ltL, keepS, look, gset], by simp [ltH, AObj.lt, AV.lt, AV.ltL, hr0, hr1, hr2, hr3, hcl2, -List.flatMap_append]⟩)
      · intro x hx
        rcases List.mem_append.1 hx with hx | hx
        · exact hP3 x hx
        · simp only [List.mem_singleton] at hx; subst hx
          refine ⟨by dsimp only; omega, 3, p, hih, by omega, hp, congrArg (first + ·) hi, ?_⟩
          dsimp only
          rw [← ht]; omega
      · rw [List.length_append, ← hn]; exact ⟨rfl, congrArg I hsub, trivial⟩
  · rename_i hz
    have hE : Elems 5 (l.map lkV) cc := by rw [hcc]; exact Elems_map (f := lkV) (g := lkC) (sz := 5) (fun _ => rfl) (fun _ => rfl) (fun _ => rfl) l
    rw [hF]
    refine Frees.frz 6 n 5 (l.map lkV) rfl hE ?_
    have e1 : AV.frz 6 n 5 (l.map lkV) (aTup [.ms 5 6 n 0 n]) = .vs 5 (l.map lkV) := frz_self (by simp [hn])
    rw [e1]
    have hH : frzH 6 n 5 (l.map lkV) [.own 0 [U w2], .own 4 [.ms 1 2 N 0 N, .ms 1 3 N 0 N, .ms 1 4 N 0 N, .ms 1 5 N 0 N], .own N ro0, .own N ro1, .own N ro2, .own N ro3, .gone] = [.own 0 [U w2], .own 4 [.ms 1 2 N 0 N, .ms 1 3 N 0 N, .ms 1 4 N 0 N, .ms 1 5 N 0 N], .own N ro0, .own N ro1, .own N ro2, .own N ro3] ++ [.gone] := by
      simp [frzH, AObj.frz, AV.frzL, AV.frz, AV.frzL_nid hn0, AV.frzL_nid hn1, AV.frzL_nid hn2, AV.frzL_nid hn3]
    show Frees 6 Kk _ (frzH 6 n 5 (l.map lkV) [.own 0 [U w2], .own 4 [.ms 1 2 N 0 N, .ms 1 3 N 0 N, .ms 1 4 N 0 N, .ms 1 5 N 0 N], .own N ro0, .own N ro1, .own N ro2, .own N ro3, .gone])
    rw [hH]
    refine Frees.drop (by simp) (by rfl) (by simp [ltHB, AV.ltLB, AV.ltB, nidL_ltBn hn0, nidL_ltBn hn1, nidL_ltBn hn2, nidL_ltBn hn3]) (Frees.now (h w2 _ ⟨l, _, rfl, rfl, ?_, hP3⟩))
    rw [← hn]; unfold iLen at hP2; omega
end Go.Sas
