/-
ProbeBreaks: the law's core.
Conditions: none.
-/
import Derived.Test.YtajegdbljldakaaQR36
import Derived.Test.YtajegdbljldakaaQR48
import Derived.Test.YtajegdbljldakaaQRL14
set_option linter.unusedVariables false
set_option linter.unusedSimpArgs false
namespace Go.Sas
open Go.Proofs
set_option maxRecDepth 100000
def edB : ETab := (31, eCrsM) :: (20, eLksM) :: edP
def eSameW : List AV → Option ((AV → Prop) → Prop)
  | [.vs 1 xs, .vs 1 ys] => some fun K => ∃ (l l' : List Int), xs = l.map I ∧ ys = l'.map I ∧ l.length ≤ 9223372036854775807 ∧ l'.length ≤ 9223372036854775807 ∧ ∀ r, r = decide (l = l') → K (B r)
  | _ => none
theorem eSameW_ok : ∀ args pt, eSameW args = some pt → ∀ (H : AHeap) (Kk : AV → AHeap → Prop), pt (fun r => Kk r H) → ACalls Try.prog 62 args H Kk := by
  intro args pt h H Kk hk
  unfold eSameW at h
  split at h
  · cases h
    obtain ⟨l, l', rfl, rfl, h1, h2, h3⟩ := hk
    exact p62 _ _ h1 h2 H (h3 _ rfl)
  · cases h
theorem SubH_own {g : Nat} {cs : List AV} {M H : AHeap} : SubH (.own g cs :: M) (.own g cs :: H) = SubH M H := by
  cases cs <;> simp [SubH]
theorem edB_ok : ETabOk Try.prog edB := .cons eCrsM_ok (.cons eLksM_ok edP_ok)
set_option maxHeartbeats 8000000 in
theorem core14 (rs0 : List Rch) (a0 b0 c0 : Int) (l0 : List Lk) (ff : Int) (cs0 : List (List Int)) (nums : List Int) (hr0 : rs0.length ≤ 9223372036854775807) (hl0 : l0.length ≤ 9223372036854775807) (hfb : -9223372036854775808 ≤ ff ∧ ff ≤ 9223372036854775807) (hcs0 : cs0.length ≤ 9223372036854775807) (hn1 : nums.length ≤ 9223372036854775807) :
    ACalls Try.prog 14 [svV (.vs 5 (rs0.map rcV)) a0 b0 c0, .vs 5 (l0.map lkV), I ff, .vs 1 (csV cs0), .vs 1 (nums.map I)] [] fun r _ => r = .lit (.bool true) := by
  obtain ⟨Kk, hKk⟩ : ∃ K : AV → AHeap → Prop, K = fun r _ => r = .lit (.bool true) := ⟨_, rfl⟩
  rw [← hKk]
  have h : ∀ H, Kk (B true) H := fun H => by rw [hKk]
  clear hKk
  obtain ⟨xn, hxn⟩ : ∃ ys, ys = nums.map I := ⟨_, rfl⟩
  obtain ⟨xs0, hxs0⟩ : ∃ ys, ys = rs0.map rcV := ⟨_, rfl⟩
  obtain ⟨ls0, hls0⟩ : ∃ ys, ys = l0.map lkV := ⟨_, rfl⟩
  obtain ⟨vs0, hvs0⟩ : ∃ ys, ys = csV cs0 := ⟨_, rfl⟩
  rw [← hxn, ← hxs0, ← hls0, ← hvs0]
  obtain ⟨M0, hM0⟩ : ∃ M, M = cs0.length := ⟨_, rfl⟩
  obtain ⟨A, hA⟩ : ∃ A, A = std := ⟨_, rfl⟩
  have hne : ∀ x y, A.ne x y = decide (x ≠ y) := by subst hA; intro x y; simp only [std, iNe]; rw [Bool.eq_iff_iff]; simp
  have hee : ∀ x y, A.eq x y = decide (x = y) := by subst hA; intro x y; exact iEq_dec _ _
  have hll : ∀ x y, A.lt x y = decide (x < y) := by subst hA; intro x y; rfl
  have hle : ∀ x y, A.le x y = decide (x ≤ y) := by subst hA; intro x y; rfl
  have hnb : ∀ b, A.bnot b = !b := by subst hA; intro b; rfl
  have hbd : ∀ x y, A.band x y = (x && y) := by subst hA; intro x y; rfl
  have hsg : ∀ g, A.sg g g := by subst hA; exact fun _ => rfl
  have hvv : A.vlen vs0 = iLen M0 := by subst hA; rw [hvs0, hM0]; simp [std]
  refine go14 rfl (SGo_run hA ⟨[], [], (29, eNil [0, 0, 5] eBig) :: (28, eAwake) :: [], []⟩ (.cons (eNil_ok eBig_ok) (.cons eAwake_ok .nil)) .nil 200 fun T TD hT hTD => ?_)
  cbv
  refine Exists.intro rs0 (And.intro hxs0 (And.intro hr0 (And.intro (by rw [hls0]; exact nidL_map (g := lkV) (fun _ => rfl) _) (And.intro rfl ?_))))
  intro bg hbg; cbv
  clear hbg
  cases bg with
  | true => cbv; exact h _
  | false =>
  cbv
  split <;> cbv
  · exact h _
  rename_i hz
  have hM20 : M0 ≤ 20 := by
    have := hz
    rw [hll, hvv, decide_eq_false_iff_not] at this; unfold iLen at this; omega
  clear hz
  rw [hT]
  refine AGo_upE [1, 2, 3, 4, 5] M0 (fun j (_ : Unit) => ∀ i, i < j → (cs0.getD i []).length ≤ 40) (fun j _ i => [(11, I i)]) (fun j _ => [.own 0 [.vs 5 xs0, I a0, I b0, I c0]]) () (fun i hi => by omega) ⟨rfl, trivial⟩ (.inl rfl) fun j _ i hi hj hP Bk hB => ?_
  have hlt : A.lt i (A.vlen vs0) = decide (j < M0) := by rw [hvv, hll, hi, decide_eq_decide]; unfold iLen; omega
  have hadd : ∀ N, j < N → N ≤ 9223372036854775807 → A.add .i64 i 1 = iLen (j + 1) := fun N hj hN => by subst hA; exact add_one hi hj hN
  refine SGo_run hA ⟨[], [1000063], (28, eAwake) :: [], edB⟩ (.cons eAwake_ok .nil) edB_ok 200 fun T TD hT hTD => ?_
  cbv
  split <;> cbv
  · rename_i hk0
    have hk1 : j < M0 := by have hz := hlt.symm.trans hk0; simpa using hz
    clear hk0
    obtain ⟨row, hrow⟩ : ∃ x, x = (cs0.getD j []).map I := ⟨_, rfl⟩
    have hri : A.ix 1 1 vs0 i [.vs 1 row] := by subst hA; exact ix_map (f := fun r : List Int => AV.vs 1 (r.map I)) hvs0 hi (cs_get (by omega)) (by rw [hrow]; rfl)
    refine Exists.intro _ (And.intro hri ?_); cbv
    split <;> cbv
    · exact h _
    · rename_i hz
      have hr40 : (cs0.getD j []).length ≤ 40 := by
        have := hz
        have hrv : A.vlen row = iLen (cs0.getD j []).length := by subst hA; rw [hrow]; simp only [std, List.length_map]
        rw [hll, hrv, decide_eq_false_iff_not] at this; unfold iLen at this; omega
      exact hB () _ _ hk1 (fun i hi => by
        by_cases h : i < j
        · exact hP i h
        · rw [show i = j by omega]; exact hr40) ⟨congrArg I (hadd _ hk1 (by omega)), trivial⟩ ⟨rfl, rfl, rfl, rfl, rfl, trivial⟩ (.inl rfl)
  rename_i hk0
  have hk1 : ¬ j < M0 := by have hz := hlt.symm.trans hk0; simpa using hz
  clear hk0
  have hrows0 : ∀ r ∈ cs0, r.length ≤ 40 := fun r hr => by
    obtain ⟨i, hi⟩ := List.mem_iff_getElem?.1 hr
    have hil := (List.getElem?_eq_some_iff.1 hi).1
    have := hP i (by omega)
    rw [cs_get hil, Option.some.injEq] at hi
    rw [← hi]; exact this
  clear hB hP hlt hadd
  refine Exists.intro nums (And.intro ⟨hxn, hn1⟩ ?_)
  intro w1
  cbv
  refine Exists.intro () (And.intro (by omega) ?_)
  rintro w2 _ ⟨rs, a, b, c, xs, rfl, hxs, hD⟩
  cbv
  have ho := hD.road (by omega)
  have hs := hD.sgt
  have hPl := ho.plc
  refine Exists.intro rs (And.intro ⟨hxs, ho, by omega, rfl⟩ ?_)
  intro w3 T4 N c0' c1' c2' c3' hC ⟨hNN, hc0, hc1, hc2, hc3⟩
  cbv
  have hN1 : 1 ≤ N := by rw [hNN]; exact hPl.pos
  have hN2 : N ≤ 1000 := by rw [hNN]; exact hPl.le
  refine Exists.intro (plc rs) (Exists.intro T4 (Exists.intro 6 (Exists.intro 7 (Exists.intro 8 (Exists.intro 9 (Exists.intro N (Exists.intro c0' (Exists.intro c1' (Exists.intro c2' (Exists.intro c3' (And.intro ⟨hPl, hC, by omega, by omega⟩ (And.intro ⟨hNN, hc0, hc1, hc2, hc3⟩ (And.intro rfl (And.intro rfl (And.intro rfl (And.intro rfl (And.intro rfl (And.intro rfl ?_))))))))))))))))))
  rintro w4 _ ⟨l, ls, rfl, hls, hll4, hfit⟩
  have hl4n : l.length ≤ 4 := by omega
  cbv
  rw [hT]
  refine AGo_cut (k1 := [_, _]) (fun e H => Fits e [(1, .vs 5 ls0), (2, I ff), (3, .vs 1 vs0), (5, .mp 0 0 0), (13, .mp 2 0 0), (14, .ms 1 5 4 0 4), (15, .vs 5 ls)] ∧ ∃ (w' : Int) (r0 r1 r2 r3 : List Int), (r0.length = N ∧ r1.length = N ∧ r2.length = N ∧ r3.length = N) ∧ H = [.own 0 [.vs 5 xs0, I a0, I b0, I c0], .own 0 [U w'], .own 0 [.vs 5 xs, I a, I b, I c], .own 0 [], .gone, .own 4 [.ms 1 6 N 0 N, .ms 1 7 N 0 N, .ms 1 8 N 0 N, .ms 1 9 N 0 N], .own N (r0.map I), .own N (r1.map I), .own N (r2.map I), .own N (r3.map I)]) ?_ (fun e1 H1 hP1 => ?_)
  · refine SGo_run hA ⟨[6, 7, 8, 9], [1, 2000006, 2000007, 2000008, 2000009], [], edB⟩ .nil edB_ok 200 fun T TD hT hTD => ?_
    cbv
    refine Exists.intro () (And.intro (by omega) ?_)
    rintro w5 _ ⟨coin, rfl⟩
    cbv
    cases coin with
    | true =>
      cbv
      have hl4 : A.len 4 = 4 := by subst hA; rfl
      have hlN : A.len N = iLen N := by subst hA; rfl
      refine Exists.intro () (And.intro (by show A.len 4 ≤ _; rw [hl4]; omega) ?_)
      rintro w6 _ ⟨q1, rfl, hq1, hq1'⟩
      have hq1' : q1 < A.len 4 ∨ q1 = 0 := hq1'
      rw [hl4] at hq1'
      have hqc : q1 = 0 ∨ q1 = 1 ∨ q1 = 2 ∨ q1 = 3 := by omega
      clear hq1 hq1'
      rcases hqc with rfl | rfl | rfl | rfl
      · cbv
        refine And.intro (hsg _) ?_; cbv
        refine Exists.intro () (And.intro (by show A.len N ≤ _; rw [hlN]; unfold iLen; omega) ?_)
        rintro w7 _ ⟨q2, rfl, hq2, hq2'⟩
        have hq2' : q2 < A.len N ∨ q2 = 0 := hq2'
        rw [hlN] at hq2'
        cbv
        obtain ⟨p, hp⟩ : ∃ p : Nat, q2 = iLen p := ⟨q2.toNat, by unfold iLen; omega⟩
        have hpN : p < N := by unfold iLen at hp hq2'; omega
        have hixp : A.ixm 1 1 0 N q2 p := by subst hA; exact ⟨rfl, by omega, by rw [hp]; unfold iLen; omega, by rw [hp]; show p = 0 + p * 1; omega⟩
        obtain ⟨t, ht⟩ : ∃ t, t = T4 0 p := ⟨_, rfl⟩
        have hgp : A.get none c0' p (I t) := by subst hA; rw [hc0, ht]; show getN none _ _ = _; simp [getN, crsRow, hpN]
        refine And.intro (hsg _) (Exists.intro p (And.intro hixp ?_)); cbv
        refine And.intro (hsg _) (Exists.intro (I t) (And.intro hgp ?_)); cbv
        refine Exists.intro () (And.intro (by omega) ?_)
        rintro w8 _ ⟨u1, rfl, hu1⟩
        cbv
        refine And.intro (by subst hA; exact .inr ⟨by simp [SubH, SubH_own], trivial, .inr fun _ => by simp [SubH, SubH_own]⟩) ?_; cbv
        refine Exists.intro () (And.intro ⟨by simp, by simp, by exact AllI_lits (l := [1, -1, u1])⟩ ?_)
        rintro w9 _ ⟨u2, rfl, hu2⟩
        cbv
        refine And.intro (by subst hA; exact .inr ⟨by simp [SubH, SubH_own], trivial, .inr fun _ => by simp [SubH, SubH_own]⟩) ?_; cbv
        refine And.intro (hsg _) (Exists.intro p (And.intro hixp ?_)); cbv
        obtain ⟨v, hv⟩ : ∃ v, v = A.add .i64 t u2 := ⟨_, rfl⟩
        obtain ⟨rn, hrn⟩ : ∃ r, r = ((List.range N).map (T4 0)).take p ++ [v] ++ ((List.range N).map (T4 0)).drop (p + 1) := ⟨_, rfl⟩
        have hrl : rn.length = N := by rw [hrn]; simp; omega
        have hup : A.upd 1 c0' p [I v] (rn.map I) := by subst hA; rw [hc0, hrn]; exact ⟨rfl, by simp [crsRow]; omega, by simp [crsRow, List.map_take, List.map_drop]⟩
        rw [hv] at hup
        obtain ⟨cn, hcn⟩ : ∃ c, c = rn.map I := ⟨_, rfl⟩
        rw [← hcn] at hup
        refine And.intro (hsg _) (Exists.intro cn (And.intro hup ?_)); cbv
        refine ⟨w9, rn, (List.range N).map (T4 1), (List.range N).map (T4 2), (List.range N).map (T4 3), ⟨hrl, by simp, by simp, by simp⟩, ?_⟩
        rw [hcn, hc1, hc2, hc3]; rfl
      · cbv
        refine And.intro (hsg _) ?_; cbv
        refine Exists.intro () (And.intro (by show A.len N ≤ _; rw [hlN]; unfold iLen; omega) ?_)
        rintro w7 _ ⟨q2, rfl, hq2, hq2'⟩
        have hq2' : q2 < A.len N ∨ q2 = 0 := hq2'
        rw [hlN] at hq2'
        cbv
        obtain ⟨p, hp⟩ : ∃ p : Nat, q2 = iLen p := ⟨q2.toNat, by unfold iLen; omega⟩
        have hpN : p < N := by unfold iLen at hp hq2'; omega
        have hixp : A.ixm 1 1 0 N q2 p := by subst hA; exact ⟨rfl, by omega, by rw [hp]; unfold iLen; omega, by rw [hp]; show p = 0 + p * 1; omega⟩
        obtain ⟨t, ht⟩ : ∃ t, t = T4 1 p := ⟨_, rfl⟩
        have hgp : A.get none c1' p (I t) := by subst hA; rw [hc1, ht]; show getN none _ _ = _; simp [getN, crsRow, hpN]
        refine And.intro (hsg _) (Exists.intro p (And.intro hixp ?_)); cbv
        refine And.intro (hsg _) (Exists.intro (I t) (And.intro hgp ?_)); cbv
        refine Exists.intro () (And.intro (by omega) ?_)
        rintro w8 _ ⟨u1, rfl, hu1⟩
        cbv
        refine And.intro (by subst hA; exact .inr ⟨by simp [SubH, SubH_own], trivial, .inr fun _ => by simp [SubH, SubH_own]⟩) ?_; cbv
        refine Exists.intro () (And.intro ⟨by simp, by simp, by exact AllI_lits (l := [1, -1, u1])⟩ ?_)
        rintro w9 _ ⟨u2, rfl, hu2⟩
        cbv
        refine And.intro (by subst hA; exact .inr ⟨by simp [SubH, SubH_own], trivial, .inr fun _ => by simp [SubH, SubH_own]⟩) ?_; cbv
        refine And.intro (hsg _) (Exists.intro p (And.intro hixp ?_)); cbv
        obtain ⟨v, hv⟩ : ∃ v, v = A.add .i64 t u2 := ⟨_, rfl⟩
        obtain ⟨rn, hrn⟩ : ∃ r, r = ((List.range N).map (T4 1)).take p ++ [v] ++ ((List.range N).map (T4 1)).drop (p + 1) := ⟨_, rfl⟩
        have hrl : rn.length = N := by rw [hrn]; simp; omega
        have hup : A.upd 1 c1' p [I v] (rn.map I) := by subst hA; rw [hc1, hrn]; exact ⟨rfl, by simp [crsRow]; omega, by simp [crsRow, List.map_take, List.map_drop]⟩
        rw [hv] at hup
        obtain ⟨cn, hcn⟩ : ∃ c, c = rn.map I := ⟨_, rfl⟩
        rw [← hcn] at hup
        refine And.intro (hsg _) (Exists.intro cn (And.intro hup ?_)); cbv
        refine ⟨w9, (List.range N).map (T4 0), rn, (List.range N).map (T4 2), (List.range N).map (T4 3), ⟨by simp, hrl, by simp, by simp⟩, ?_⟩
        rw [hcn, hc0, hc2, hc3]; rfl
      · cbv
        refine And.intro (hsg _) ?_; cbv
        refine Exists.intro () (And.intro (by show A.len N ≤ _; rw [hlN]; unfold iLen; omega) ?_)
        rintro w7 _ ⟨q2, rfl, hq2, hq2'⟩
        have hq2' : q2 < A.len N ∨ q2 = 0 := hq2'
        rw [hlN] at hq2'
        cbv
        obtain ⟨p, hp⟩ : ∃ p : Nat, q2 = iLen p := ⟨q2.toNat, by unfold iLen; omega⟩
        have hpN : p < N := by unfold iLen at hp hq2'; omega
        have hixp : A.ixm 1 1 0 N q2 p := by subst hA; exact ⟨rfl, by omega, by rw [hp]; unfold iLen; omega, by rw [hp]; show p = 0 + p * 1; omega⟩
        obtain ⟨t, ht⟩ : ∃ t, t = T4 2 p := ⟨_, rfl⟩
        have hgp : A.get none c2' p (I t) := by subst hA; rw [hc2, ht]; show getN none _ _ = _; simp [getN, crsRow, hpN]
        refine And.intro (hsg _) (Exists.intro p (And.intro hixp ?_)); cbv
        refine And.intro (hsg _) (Exists.intro (I t) (And.intro hgp ?_)); cbv
        refine Exists.intro () (And.intro (by omega) ?_)
        rintro w8 _ ⟨u1, rfl, hu1⟩
        cbv
        refine And.intro (by subst hA; exact .inr ⟨by simp [SubH, SubH_own], trivial, .inr fun _ => by simp [SubH, SubH_own]⟩) ?_; cbv
        refine Exists.intro () (And.intro ⟨by simp, by simp, by exact AllI_lits (l := [1, -1, u1])⟩ ?_)
        rintro w9 _ ⟨u2, rfl, hu2⟩
        cbv
        refine And.intro (by subst hA; exact .inr ⟨by simp [SubH, SubH_own], trivial, .inr fun _ => by simp [SubH, SubH_own]⟩) ?_; cbv
        refine And.intro (hsg _) (Exists.intro p (And.intro hixp ?_)); cbv
        obtain ⟨v, hv⟩ : ∃ v, v = A.add .i64 t u2 := ⟨_, rfl⟩
        obtain ⟨rn, hrn⟩ : ∃ r, r = ((List.range N).map (T4 2)).take p ++ [v] ++ ((List.range N).map (T4 2)).drop (p + 1) := ⟨_, rfl⟩
        have hrl : rn.length = N := by rw [hrn]; simp; omega
        have hup : A.upd 1 c2' p [I v] (rn.map I) := by subst hA; rw [hc2, hrn]; exact ⟨rfl, by simp [crsRow]; omega, by simp [crsRow, List.map_take, List.map_drop]⟩
        rw [hv] at hup
        obtain ⟨cn, hcn⟩ : ∃ c, c = rn.map I := ⟨_, rfl⟩
        rw [← hcn] at hup
        refine And.intro (hsg _) (Exists.intro cn (And.intro hup ?_)); cbv
        refine ⟨w9, (List.range N).map (T4 0), (List.range N).map (T4 1), rn, (List.range N).map (T4 3), ⟨by simp, by simp, hrl, by simp⟩, ?_⟩
        rw [hcn, hc0, hc1, hc3]; rfl
      · cbv
        refine And.intro (hsg _) ?_; cbv
        refine Exists.intro () (And.intro (by show A.len N ≤ _; rw [hlN]; unfold iLen; omega) ?_)
        rintro w7 _ ⟨q2, rfl, hq2, hq2'⟩
        have hq2' : q2 < A.len N ∨ q2 = 0 := hq2'
        rw [hlN] at hq2'
        cbv
        obtain ⟨p, hp⟩ : ∃ p : Nat, q2 = iLen p := ⟨q2.toNat, by unfold iLen; omega⟩
        have hpN : p < N := by unfold iLen at hp hq2'; omega
        have hixp : A.ixm 1 1 0 N q2 p := by subst hA; exact ⟨rfl, by omega, by rw [hp]; unfold iLen; omega, by rw [hp]; show p = 0 + p * 1; omega⟩
        obtain ⟨t, ht⟩ : ∃ t, t = T4 3 p := ⟨_, rfl⟩
        have hgp : A.get none c3' p (I t) := by subst hA; rw [hc3, ht]; show getN none _ _ = _; simp [getN, crsRow, hpN]
        refine And.intro (hsg _) (Exists.intro p (And.intro hixp ?_)); cbv
        refine And.intro (hsg _) (Exists.intro (I t) (And.intro hgp ?_)); cbv
        refine Exists.intro () (And.intro (by omega) ?_)
        rintro w8 _ ⟨u1, rfl, hu1⟩
        cbv
        refine And.intro (by subst hA; exact .inr ⟨by simp [SubH, SubH_own], trivial, .inr fun _ => by simp [SubH, SubH_own]⟩) ?_; cbv
        refine Exists.intro () (And.intro ⟨by simp, by simp, by exact AllI_lits (l := [1, -1, u1])⟩ ?_)
        rintro w9 _ ⟨u2, rfl, hu2⟩
        cbv
        refine And.intro (by subst hA; exact .inr ⟨by simp [SubH, SubH_own], trivial, .inr fun _ => by simp [SubH, SubH_own]⟩) ?_; cbv
        refine And.intro (hsg _) (Exists.intro p (And.intro hixp ?_)); cbv
        obtain ⟨v, hv⟩ : ∃ v, v = A.add .i64 t u2 := ⟨_, rfl⟩
        obtain ⟨rn, hrn⟩ : ∃ r, r = ((List.range N).map (T4 3)).take p ++ [v] ++ ((List.range N).map (T4 3)).drop (p + 1) := ⟨_, rfl⟩
        have hrl : rn.length = N := by rw [hrn]; simp; omega
        have hup : A.upd 1 c3' p [I v] (rn.map I) := by subst hA; rw [hc3, hrn]; exact ⟨rfl, by simp [crsRow]; omega, by simp [crsRow, List.map_take, List.map_drop]⟩
        rw [hv] at hup
        obtain ⟨cn, hcn⟩ : ∃ c, c = rn.map I := ⟨_, rfl⟩
        rw [← hcn] at hup
        refine And.intro (hsg _) (Exists.intro cn (And.intro hup ?_)); cbv
        refine ⟨w9, (List.range N).map (T4 0), (List.range N).map (T4 1), (List.range N).map (T4 2), rn, ⟨by simp, by simp, by simp, hrl⟩, ?_⟩
        rw [hcn, hc0, hc1, hc2]; rfl
    | false =>
      cbv
      refine ⟨w5, (List.range N).map (T4 0), (List.range N).map (T4 1), (List.range N).map (T4 2), (List.range N).map (T4 3), ⟨by simp, by simp, by simp, by simp⟩, ?_⟩
      rw [hc0, hc1, hc2, hc3]; rfl
  obtain ⟨hf1, w5, r0, r1, r2, r3, ⟨hl0', hl1', hl2', hl3'⟩, rfl⟩ := hP1
  clear hc0 hc1 hc2 hc3
  have hq0 : AV.nidL (r0.map I) = true := nidL_map (g := I) (fun _ => rfl) _
  have hq1 : AV.nidL (r1.map I) = true := nidL_map (g := I) (fun _ => rfl) _
  have hq2 : AV.nidL (r2.map I) = true := nidL_map (g := I) (fun _ => rfl) _
  have hq3 : AV.nidL (r3.map I) = true := nidL_map (g := I) (fun _ => rfl) _
  refine AGo_forget [(1, .vs 5 ls0), (2, I ff), (3, .vs 1 vs0), (5, .mp 0 0 0), (13, .mp 2 0 0), (14, .ms 1 5 4 0 4), (15, .vs 5 ls)] _ hf1 (.inl rfl) ?_ (by simp)
  have hq : ∀ id (r : List Int), r.length = N → AV.frz id N 1 (r.map I) (.ms 1 id N 0 N) = .vs 1 (r.map I) := fun id r h => frz_self (by rw [List.length_map]; exact h)
  refine AGo_frz 6 N 1 (r0.map I) rfl (Elems_I r0) ?_
  have e6 : frzH 6 N 1 (r0.map I) ([.own 0 [.vs 5 xs0, I a0, I b0, I c0], .own 0 [U w5], .own 0 [.vs 5 xs, I a, I b, I c], .own 0 [], .gone, .own 4 [.ms 1 6 N 0 N, .ms 1 7 N 0 N, .ms 1 8 N 0 N, .ms 1 9 N 0 N], .gone, .own N (r1.map I), .own N (r2.map I), .own N (r3.map I)] : AHeap) = [.own 0 [.vs 5 xs0, I a0, I b0, I c0], .own 0 [U w5], .own 0 [.vs 5 xs, I a, I b, I c], .own 0 [], .gone, .own 4 [.vs 1 (r0.map I), .ms 1 7 N 0 N, .ms 1 8 N 0 N, .ms 1 9 N 0 N], .gone, .own N (r1.map I), .own N (r2.map I), .own N (r3.map I)] := by
    have := hq 6 r0 hl0'
    simp only [frzH, AObj.frz, AV.frzL, this, AV.frzL_nid hq0, AV.frzL_nid hq1, AV.frzL_nid hq2, AV.frzL_nid hq3]
    simp [AV.frz]
  show AGo _ _ _ _ ⟨[], [(1, .vs 5 ls0), (2, I ff), (3, .vs 1 vs0), (5, .mp 0 0 0), (13, .mp 2 0 0), (14, .ms 1 5 4 0 4), (15, .vs 5 ls)]⟩ (frzH 6 N 1 (r0.map I) [.own 0 [.vs 5 xs0, I a0, I b0, I c0], .own 0 [U w5], .own 0 [.vs 5 xs, I a, I b, I c], .own 0 [], .gone, .own 4 [.ms 1 6 N 0 N, .ms 1 7 N 0 N, .ms 1 8 N 0 N, .ms 1 9 N 0 N], .gone, .own N (r1.map I), .own N (r2.map I), .own N (r3.map I)])
  rw [e6]
  refine AGo_frz 7 N 1 (r1.map I) rfl (Elems_I r1) ?_
  have e7 : frzH 7 N 1 (r1.map I) ([.own 0 [.vs 5 xs0, I a0, I b0, I c0], .own 0 [U w5], .own 0 [.vs 5 xs, I a, I b, I c], .own 0 [], .gone, .own 4 [.vs 1 (r0.map I), .ms 1 7 N 0 N, .ms 1 8 N 0 N, .ms 1 9 N 0 N], .gone, .gone, .own N (r2.map I), .own N (r3.map I)] : AHeap) = [.own 0 [.vs 5 xs0, I a0, I b0, I c0], .own 0 [U w5], .own 0 [.vs 5 xs, I a, I b, I c], .own 0 [], .gone, .own 4 [.vs 1 (r0.map I), .vs 1 (r1.map I), .ms 1 8 N 0 N, .ms 1 9 N 0 N], .gone, .gone, .own N (r2.map I), .own N (r3.map I)] := by
    have := hq 7 r1 hl1'
    simp only [frzH, AObj.frz, AV.frzL, this, AV.frzL_nid hq0, AV.frzL_nid hq1, AV.frzL_nid hq2, AV.frzL_nid hq3]
    simp [AV.frz]
  show AGo _ _ _ _ ⟨[], [(1, .vs 5 ls0), (2, I ff), (3, .vs 1 vs0), (5, .mp 0 0 0), (13, .mp 2 0 0), (14, .ms 1 5 4 0 4), (15, .vs 5 ls)]⟩ (frzH 7 N 1 (r1.map I) [.own 0 [.vs 5 xs0, I a0, I b0, I c0], .own 0 [U w5], .own 0 [.vs 5 xs, I a, I b, I c], .own 0 [], .gone, .own 4 [.vs 1 (r0.map I), .ms 1 7 N 0 N, .ms 1 8 N 0 N, .ms 1 9 N 0 N], .gone, .gone, .own N (r2.map I), .own N (r3.map I)])
  rw [e7]
  refine AGo_frz 8 N 1 (r2.map I) rfl (Elems_I r2) ?_
  have e8 : frzH 8 N 1 (r2.map I) ([.own 0 [.vs 5 xs0, I a0, I b0, I c0], .own 0 [U w5], .own 0 [.vs 5 xs, I a, I b, I c], .own 0 [], .gone, .own 4 [.vs 1 (r0.map I), .vs 1 (r1.map I), .ms 1 8 N 0 N, .ms 1 9 N 0 N], .gone, .gone, .gone, .own N (r3.map I)] : AHeap) = [.own 0 [.vs 5 xs0, I a0, I b0, I c0], .own 0 [U w5], .own 0 [.vs 5 xs, I a, I b, I c], .own 0 [], .gone, .own 4 [.vs 1 (r0.map I), .vs 1 (r1.map I), .vs 1 (r2.map I), .ms 1 9 N 0 N], .gone, .gone, .gone, .own N (r3.map I)] := by
    have := hq 8 r2 hl2'
    simp only [frzH, AObj.frz, AV.frzL, this, AV.frzL_nid hq0, AV.frzL_nid hq1, AV.frzL_nid hq2, AV.frzL_nid hq3]
    simp [AV.frz]
  show AGo _ _ _ _ ⟨[], [(1, .vs 5 ls0), (2, I ff), (3, .vs 1 vs0), (5, .mp 0 0 0), (13, .mp 2 0 0), (14, .ms 1 5 4 0 4), (15, .vs 5 ls)]⟩ (frzH 8 N 1 (r2.map I) [.own 0 [.vs 5 xs0, I a0, I b0, I c0], .own 0 [U w5], .own 0 [.vs 5 xs, I a, I b, I c], .own 0 [], .gone, .own 4 [.vs 1 (r0.map I), .vs 1 (r1.map I), .ms 1 8 N 0 N, .ms 1 9 N 0 N], .gone, .gone, .gone, .own N (r3.map I)])
  rw [e8]
  refine AGo_frz 9 N 1 (r3.map I) rfl (Elems_I r3) ?_
  have e9 : frzH 9 N 1 (r3.map I) ([.own 0 [.vs 5 xs0, I a0, I b0, I c0], .own 0 [U w5], .own 0 [.vs 5 xs, I a, I b, I c], .own 0 [], .gone, .own 4 [.vs 1 (r0.map I), .vs 1 (r1.map I), .vs 1 (r2.map I), .ms 1 9 N 0 N], .gone, .gone, .gone, .gone] : AHeap) = [.own 0 [.vs 5 xs0, I a0, I b0, I c0], .own 0 [U w5], .own 0 [.vs 5 xs, I a, I b, I c], .own 0 [], .gone, .own 4 [.vs 1 (r0.map I), .vs 1 (r1.map I), .vs 1 (r2.map I), .vs 1 (r3.map I)], .gone, .gone, .gone, .gone] := by
    have := hq 9 r3 hl3'
    simp only [frzH, AObj.frz, AV.frzL, this, AV.frzL_nid hq0, AV.frzL_nid hq1, AV.frzL_nid hq2, AV.frzL_nid hq3]
    simp [AV.frz]
  show AGo _ _ _ _ ⟨[], [(1, .vs 5 ls0), (2, I ff), (3, .vs 1 vs0), (5, .mp 0 0 0), (13, .mp 2 0 0), (14, .ms 1 5 4 0 4), (15, .vs 5 ls)]⟩ (frzH 9 N 1 (r3.map I) [.own 0 [.vs 5 xs0, I a0, I b0, I c0], .own 0 [U w5], .own 0 [.vs 5 xs, I a, I b, I c], .own 0 [], .gone, .own 4 [.vs 1 (r0.map I), .vs 1 (r1.map I), .vs 1 (r2.map I), .ms 1 9 N 0 N], .gone, .gone, .gone, .gone])
  rw [e9]
  obtain ⟨csw, hcsw⟩ : ∃ c, c = [r0, r1, r2, r3] := ⟨_, rfl⟩
  have hEw : Elems 1 (csV csw) (csV csw) := Elems_one (F := fun r : List Int => AV.vs 1 (r.map I)) (fun _ => rfl) (fun _ => rfl) _
  refine AGo_frzS 14 (id := 5) (g := 4) (sz := 1) (n := 4) (xs := csV csw) (cs := csV csw) (by rw [hcsw]; rfl) rfl (by rw [hcsw]; rfl) hEw ?_
  have hrw : csw.length ≤ 20 ∧ ∀ r ∈ csw, r.length ≤ 1000 := by
    rw [hcsw]; refine ⟨by simp, fun r hr => ?_⟩
    simp only [List.mem_cons, List.not_mem_nil, or_false] at hr
    rcases hr with rfl | rfl | rfl | rfl <;> omega
  clear hcsw
  obtain ⟨vw, hvw⟩ : ∃ c, c = csV csw := ⟨_, rfl⟩
  rw [← hvw]
  have hnc : AV.nidL vw = true := by rw [hvw]; exact nidL_csV csw
  have hxl : ∀ n, AV.ltL n xs := fun n => AV.ltL_nid (by rw [hxs]; exact nidL_rc rs)
  have hxl0 : ∀ n, AV.ltL n xs0 := fun n => AV.ltL_nid (by rw [hxs0]; exact nidL_rc rs0)
  show AGo _ _ _ _ _ [.own 0 [.vs 5 xs0, I a0, I b0, I c0], .own 0 [U w5], .own 0 [.vs 5 xs, I a, I b, I c], .own 0 [], .gone, .gone, .gone, .gone, .gone, .gone]
  refine AGo_forget [(1, .vs 5 ls0), (2, I ff), (3, .vs 1 vs0), (5, .mp 0 0 0), (13, .mp 2 0 0), (14, .vs 1 vw), (15, .vs 5 ls)] [.own 0 [.vs 5 xs0, I a0, I b0, I c0], .own 0 [U w5], .own 0 [.vs 5 xs, I a, I b, I c]] ⟨rfl, rfl, rfl, rfl, rfl, rfl, rfl, trivial⟩ (.inr ⟨⟨_, rfl⟩, by simp, by simp [ltG, AV.lt], by simp [ltH, AObj.lt, AV.lt, AV.ltL, hxl, hxl0]⟩) ?_ (by simp)
  refine SGo_run hA ⟨[], [], [], []⟩ .nil .nil 200 fun T TD hT hTD => ?_
  cbv
  obtain ⟨SV, hSV⟩ : ∃ x, x = [AV.agg [.vs 5 xs0, I a0, I b0, I c0], .agg [.vs 5 xs, I a, I b, I c], .agg [.vs 5 xs, I a, I b, I c]] := ⟨_, rfl⟩
  obtain ⟨LV, hLV⟩ : ∃ x, x = [AV.vs 5 ls0, .vs 5 ls, .vs 5 ls] := ⟨_, rfl⟩
  obtain ⟨UV, hUV⟩ : ∃ x, x = [I ff, I 3, I ff] := ⟨_, rfl⟩
  obtain ⟨TV, hTV⟩ : ∃ x, x = [AV.vs 1 vs0, .vs 1 vw, .vs 1 vw] := ⟨_, rfl⟩
  have hsel : ∀ j i, i = iLen j → j < 3 → ∃ (rs' : List Rch) (a' b' c' : Int) (xs' : List AV) (l' : List Lk) (ls' : List AV) (f' : Int) (cs' : List (List Int)) (vs' : List AV), (xs' = rs'.map rcV ∧ ls' = l'.map lkV ∧ vs' = csV cs' ∧ rs'.length ≤ 9223372036854775807 ∧ l'.length ≤ 9223372036854775807 ∧ cs'.length ≤ 20 ∧ ∀ r ∈ cs', r.length ≤ 1000) ∧
      A.ix 4 4 SV i [.vs 5 xs', I a', I b', I c'] ∧ A.ix 1 1 LV i [.vs 5 ls'] ∧ A.ix 1 1 UV i [I f'] ∧ A.ix 1 1 TV i [.vs 1 vs'] := by
    intro j i hi hj
    have hlr : rs.length ≤ 9223372036854775807 := by have := ho.n2; omega
    have hlln : l.length ≤ 9223372036854775807 := by omega
    have hr0' : ∀ r ∈ cs0, r.length ≤ 1000 := fun r hr => by have := hrows0 r hr; omega
    have hc0' : cs0.length ≤ 20 := by omega
    subst hA hSV hLV hUV hTV hi
    have : j = 0 ∨ j = 1 ∨ j = 2 := by omega
    rcases this with rfl | rfl | rfl
    · exact ⟨rs0, a0, b0, c0, xs0, l0, ls0, ff, cs0, vs0, ⟨hxs0, hls0, hvs0, hr0, hl0, hc0', hr0'⟩, ⟨rfl, by decide, _, rfl, rfl⟩, ⟨rfl, by decide, _, rfl, rfl⟩, ⟨rfl, by decide, _, rfl, rfl⟩, ⟨rfl, by decide, _, rfl, rfl⟩⟩
    · exact ⟨rs, a, b, c, xs, l, ls, 3, csw, vw, ⟨hxs, hls, hvw, hlr, hlln, hrw.1, hrw.2⟩, ⟨rfl, by decide, _, rfl, rfl⟩, ⟨rfl, by decide, _, rfl, rfl⟩, ⟨rfl, by decide, _, rfl, rfl⟩, ⟨rfl, by decide, _, rfl, rfl⟩⟩
    · exact ⟨rs, a, b, c, xs, l, ls, ff, csw, vw, ⟨hxs, hls, hvw, hlr, hlln, hrw.1, hrw.2⟩, ⟨rfl, by decide, _, rfl, rfl⟩, ⟨rfl, by decide, _, rfl, rfl⟩, ⟨rfl, by decide, _, rfl, rfl⟩, ⟨rfl, by decide, _, rfl, rfl⟩⟩
  have hvS : A.vlen SV = 3 := by subst hA hSV; rfl
  rw [hT]
  refine AGo_forget [(18, .vs 4 SV), (19, .vs 1 LV), (20, .vs 1 UV), (21, .vs 1 TV), (22, I 0)] _ ⟨by rw [hSV]; rfl, by rw [hLV]; rfl, by rw [hUV]; rfl, by rw [hTV]; rfl, rfl, trivial⟩ (.inl rfl) ?_ (by simp)
  refine AGo_whileE (σ := Nat) [18, 19, 20, 21] (fun j => 3 - j) (fun j => j ≤ 3) (fun j => [(22, I (iLen j))]) (fun _ => [.own 0 [.vs 5 xs0, I a0, I b0, I c0], .own 0 [U w5], .own 0 [.vs 5 xs, I a, I b, I c]]) 0 (Nat.zero_le _) ⟨rfl, trivial⟩ (.inl rfl) fun j hj Bk hB => ?_
  dsimp only
  obtain ⟨jj, hjj⟩ : ∃ x, x = iLen j := ⟨_, rfl⟩
  have hadd : j < 3 → A.add .i64 jj 1 = iLen (j + 1) := fun h3 => by subst hA; show iAdd .i64 jj 1 = _; rw [hjj, iAdd_id (by unfold iLen; omega) (by unfold iLen; omega)]; unfold iLen; omega
  have hlt3 : A.lt jj (A.vlen SV) = decide (j < 3) := by rw [hvS, hjj]; subst hA; show decide (_ < _) = _; rw [decide_eq_decide]; unfold iLen; omega
  rw [← hjj]
  refine SGo_run hA ⟨[], [], (64, eOwnCs) :: (65, eBreaks) :: (66, eBreaks) :: (28, eAwake) :: [], []⟩ (.cons eOwnCs_ok (.cons eBreaks_ok (.cons eBreaksF_ok (.cons eAwake_ok .nil)))) .nil 200 fun T TD hT hTD => ?_
  cbv
  split <;> cbv
  · rename_i hz
    have hj3 : j < 3 := of_decide_eq_true (hlt3.symm.trans hz)
    obtain ⟨rs', a', b', c', xs', l', ls', f', cs', vs', ⟨hx', hl', hv', hrb, hlb, hcb, hrwb⟩, g1, g2, g4, g5⟩ := hsel j jj hjj hj3
    have hj1 := hadd hj3
    clear hsel hadd hlt3
    refine Exists.intro _ (And.intro g5 ?_); cbv
    refine Exists.intro cs' (And.intro hv' (And.intro (by omega) (And.intro (fun r hr => by have := hrwb r hr; omega) ?_))); cbv
    refine Exists.intro _ (And.intro g1 ?_); cbv
    refine Exists.intro _ (And.intro g2 ?_); cbv
    refine Exists.intro _ (And.intro g4 ?_); cbv
    refine Exists.intro rs' (Exists.intro l' (Exists.intro cs' (And.intro hx' (And.intro hl' (And.intro hv' (And.intro hrb (And.intro hlb (And.intro (by omega) (And.intro (fun r hr => by have := hrwb r hr; omega) ?_)))))))))
    intro u1 v1 e1 he1; cbv
    refine Exists.intro _ (And.intro g1 ?_); cbv
    refine Exists.intro _ (And.intro g2 ?_); cbv
    refine Exists.intro _ (And.intro g4 ?_); cbv
    refine Exists.intro _ (And.intro g5 ?_); cbv
    refine Exists.intro rs' (Exists.intro l' (Exists.intro cs' (And.intro hx' (And.intro hl' (And.intro hv' (And.intro hrb (And.intro hlb (And.intro (by omega) (And.intro (fun r hr => by have := hrwb r hr; omega) ?_)))))))))
    intro u2 v2 e2 he2; cbv
    have h12 := he1.trans he2.symm
    simp only [Prod.mk.injEq] at h12
    obtain ⟨⟨hu12, hv12⟩, he12⟩ := h12
    have z2 : ∀ x x', x = x' → A.ne x x' = false := fun x x' h1 => by rw [hne, h1]; simp
    have z3 : A.bnot true = false := by rw [hnb]; rfl
    have zz1 := z2 u1 u2 hu12
    have zz2 := z2 v1 v2 hv12
    have zz3 := z2 e1 e2 he12
    split <;> first | (rename_i hz; exact Bool.noConfusion (hz.symm.trans zz1)) | cbv
    split <;> first | (rename_i hz; exact Bool.noConfusion (hz.symm.trans zz2)) | cbv
    split <;> first | (rename_i hz; exact Bool.noConfusion (hz.symm.trans zz3)) | cbv
    rw [hT]
    obtain ⟨M, hM⟩ : ∃ M, M = cs'.length := ⟨_, rfl⟩
    refine AGo_upE [18, 19, 20, 21, 22, 23] M (fun _ (_ : Unit) => True) (fun k _ i => [(30, I i)]) (fun _ _ => [.own 0 [.vs 5 xs0, I a0, I b0, I c0], .own 0 [U w5], .own 0 [.vs 5 xs, I a, I b, I c]]) () trivial ⟨rfl, trivial⟩ (.inl rfl) fun k _ i2 hi2 hk _ Bk2 hB2 => ?_
    have hvl : A.vlen vs' = iLen M := by subst hA; rw [hv', hM]; simp [std]
    have hlt2 : A.lt i2 (A.vlen vs') = decide (k < M) := by rw [hvl, hll, hi2, decide_eq_decide]; unfold iLen; omega
    have hadd2 : ∀ N, k < N → N ≤ 9223372036854775807 → A.add .i64 i2 1 = iLen (k + 1) := fun N hj hN => by subst hA; exact add_one hi2 hj hN
    refine SGo_run hA ⟨[], [], (62, eSameW) :: [], []⟩ (.cons eSameW_ok .nil) .nil 200 fun T TD hT hTD => ?_
    cbv
    split <;> cbv
    · rename_i hz2
      have hkM : k < M := of_decide_eq_true (hlt2.symm.trans hz2)
      obtain ⟨rr, hrr⟩ : ∃ x, x = cs'.getD k [] := ⟨_, rfl⟩
      obtain ⟨row, hrow⟩ : ∃ x, x = rr.map I := ⟨_, rfl⟩
      have hri : A.ix 1 1 vs' i2 [.vs 1 row] := by subst hA; exact ix_map (f := fun r : List Int => AV.vs 1 (r.map I)) hv' hi2 (cs_get (by omega)) (by rw [hrow, hrr]; rfl)
      have hrl : rr.length ≤ 9223372036854775807 := by have := hrwb rr (by rw [hrr]; exact List.mem_of_getElem? (cs_get (by omega))); omega
      refine Exists.intro _ (And.intro hri ?_); cbv
      refine Exists.intro _ (And.intro g5 ?_); cbv
      refine Exists.intro _ (And.intro hri ?_); cbv
      refine Exists.intro rr (Exists.intro rr (And.intro hrow (And.intro hrow (And.intro hrl (And.intro hrl ?_)))))
      intro b1 hb1; cbv
      have hb1 : b1 = true := hb1.trans (decide_eq_true rfl)
      subst hb1
      split <;> first | (rename_i hz; exact Bool.noConfusion (hz.symm.trans z3)) | cbv
      exact hB2 () _ _ hkM trivial ⟨congrArg I (hadd2 _ hkM (by omega)), trivial⟩ ⟨rfl, rfl, rfl, rfl, rfl, rfl, trivial⟩ (.inl rfl)
    · refine hB (j + 1) _ _ (by omega) (by omega) ⟨congrArg I hj1, trivial⟩ ⟨rfl, rfl, rfl, rfl, trivial⟩ (.inl rfl)
  · exact h _
end Go.Sas
