/-
Valid trucks and convoys: contracts of the reference's functions.
Conditions: none.
-/
import Derived.Test.YtndnjmpebpampaaGreatDoorWA
set_option linter.unusedVariables false
set_option linter.unusedSimpArgs false
namespace Go.Sas
open Go.Proofs
set_option maxRecDepth 100000
/-- the loop over holds: what is to be shown of one -/
theorem hldE_bad {L way : Int} {l : List Hld} {j : Nat} {x : Hld} (hx : l[j]? = some x) (h : ¬ ((1 ≤ x.a ∧ x.a ≤ L - 1) ∧ 0 ≤ x.u ∧ x.u ≤ 10000)) : hldE L way l j = 2 := by
  have e : l.getD j ⟨0, 0⟩ = x := by rw [List.getD_eq_getElem?_getD, hx]; rfl
  unfold hldE; rw [e, if_pos h]
theorem hldE_ord {L way : Int} {l : List Hld} {j : Nat} {x y : Hld} (hx : l[j]? = some x) (hy : l[j - 1]? = some y) (h0 : 0 < j) (h : (1 ≤ x.a ∧ x.a ≤ L - 1) ∧ 0 ≤ x.u ∧ x.u ≤ 10000) : hldE L way l j = if aloC L way x.a ≤ aloC L way y.a then 11 else 0 := by
  have e : l.getD j ⟨0, 0⟩ = x := by rw [List.getD_eq_getElem?_getD, hx]; rfl
  have e2 : l.getD (j - 1) ⟨0, 0⟩ = y := by rw [List.getD_eq_getElem?_getD, hy]; rfl
  unfold hldE hldA; rw [e, e2, if_neg (Decidable.not_not.2 h)]
  by_cases hc : aloC L way x.a ≤ aloC L way y.a
  · rw [if_pos ⟨h0, hc⟩, if_pos hc]
  · rw [if_neg (fun h => hc h.2), if_neg hc]
theorem hldE_fst {L way : Int} {l : List Hld} {x : Hld} (hx : l[0]? = some x) (h : (1 ≤ x.a ∧ x.a ≤ L - 1) ∧ 0 ≤ x.u ∧ x.u ≤ 10000) : hldE L way l 0 = 0 := by
  have e : l.getD 0 ⟨0, 0⟩ = x := by rw [List.getD_eq_getElem?_getD, hx]; rfl
  unfold hldE; rw [e, if_neg (Decidable.not_not.2 h), if_neg (fun h => by omega)]
set_option maxHeartbeats 4000000 in
theorem p65 (L gp f : Int) (ts : List AV) (t : Tck) (hL : (-1000000000 ≤ L ∧ L ≤ 1000000000) ∧ -1000000000 ≤ gp ∧ gp ≤ 1000000000) (hS : HldS t.hs) (hl : t.hs.length ≤ 1000) (H : AHeap) {Kk : AV → AHeap → Prop} (h : Kk (I (tckE L gp t)) H) :
    ACalls Tryz.prog 65 [cvyV L gp f (.vs 5 ts), tckV t.way t.st t.lo t.hi (.vs 2 (t.hs.map hdV))] H Kk := by
  refine (fun q => pureC (by rfl) (by rfl) q H h) ?_
  clear h
  intro Kk h
  obtain ⟨w, s, lo, hi, hs⟩ := t
  dsimp only at hS hl ⊢
  obtain ⟨ys, hys⟩ : ∃ ys, ys = hs.map hdV := ⟨_, rfl⟩
  rw [← hys]
  obtain ⟨W, hW⟩ : ∃ W, W = tckE L gp ⟨w, s, lo, hi, hs⟩ := ⟨_, rfl⟩
  rw [← hW] at h
  unfold tckE at hW
  dsimp only at hW
  have w1 : ¬ (w = 1 ∨ w = 2) → W = 4 := fun c => by rw [hW, if_pos c]
  have w2 : (w = 1 ∨ w = 2) → ¬ ((0 ≤ s ∧ s ≤ 10000) ∧ (1 ≤ lo ∧ lo ≤ 1000) ∧ 1 ≤ hi ∧ hi ≤ 1000) → W = 2 := fun c c2 => by rw [hW, if_neg (Decidable.not_not.2 c), if_pos c2]
  have w3 : (w = 1 ∨ w = 2) → ((0 ≤ s ∧ s ≤ 10000) ∧ (1 ≤ lo ∧ lo ≤ 1000) ∧ 1 ≤ hi ∧ hi ≤ 1000) → hi < lo → W = 11 := fun c c2 c3 => by rw [hW, if_neg (Decidable.not_not.2 c), if_neg (Decidable.not_not.2 c2), if_pos c3]
  have w4 : (w = 1 ∨ w = 2) → ((0 ≤ s ∧ s ≤ 10000) ∧ (1 ≤ lo ∧ lo ≤ 1000) ∧ 1 ≤ hi ∧ hi ≤ 1000) → ¬ hi < lo → 1000 * lo < L → W = 13 := fun c c2 c3 c4 => by rw [hW, if_neg (Decidable.not_not.2 c), if_neg (Decidable.not_not.2 c2), if_neg c3, if_pos c4]
  have w5 : (w = 1 ∨ w = 2) → ((0 ≤ s ∧ s ≤ 10000) ∧ (1 ≤ lo ∧ lo ≤ 1000) ∧ 1 ≤ hi ∧ hi ≤ 1000) → ¬ hi < lo → ¬ 1000 * lo < L → gp < 2 * hi → W = 12 := fun c c2 c3 c4 c5 => by rw [hW, if_neg (Decidable.not_not.2 c), if_neg (Decidable.not_not.2 c2), if_neg c3, if_neg c4, if_pos c5]
  have w6 : (w = 1 ∨ w = 2) → ((0 ≤ s ∧ s ≤ 10000) ∧ (1 ≤ lo ∧ lo ≤ 1000) ∧ 1 ≤ hi ∧ hi ≤ 1000) → ¬ hi < lo → ¬ 1000 * lo < L → ¬ gp < 2 * hi → 8 < hs.length → W = 8 := fun c c2 c3 c4 c5 c6 => by rw [hW, if_neg (Decidable.not_not.2 c), if_neg (Decidable.not_not.2 c2), if_neg c3, if_neg c4, if_neg c5, if_pos c6]
  have w7 : (w = 1 ∨ w = 2) → ((0 ≤ s ∧ s ≤ 10000) ∧ (1 ≤ lo ∧ lo ≤ 1000) ∧ 1 ≤ hi ∧ hi ≤ 1000) → ¬ hi < lo → ¬ 1000 * lo < L → ¬ gp < 2 * hi → ¬ 8 < hs.length → W = fstE (hldE L w hs) hs.length := fun c c2 c3 c4 c5 c6 => by rw [hW, if_neg (Decidable.not_not.2 c), if_neg (Decidable.not_not.2 c2), if_neg c3, if_neg c4, if_neg c5, if_neg c6]
  clear hW
  obtain ⟨X, hX⟩ : ∃ X, X = fstE (hldE L w hs) hs.length := ⟨_, rfl⟩
  rw [← hX] at w7
  obtain ⟨A, hA⟩ : ∃ A, A = std := ⟨_, rfl⟩
  have hll : ∀ x y, A.lt x y = decide (x < y) := by subst hA; intro x y; rfl
  have hle : ∀ x y, A.le x y = decide (x ≤ y) := by subst hA; intro x y; rfl
  have hne : ∀ x y, A.ne x y = decide (x ≠ y) := by subst hA; intro x y; simp only [std, iNe]; rw [Bool.eq_iff_iff]; simp
  have hnb : ∀ b, A.bnot b = !b := by subst hA; intro b; rfl
  obtain ⟨M1, hM1⟩ : ∃ M, M = A.mul .i64 1000 lo := ⟨_, rfl⟩
  obtain ⟨M2, hM2⟩ : ∃ M, M = A.mul .i64 2 hi := ⟨_, rfl⟩
  have e1 : (1 ≤ lo ∧ lo ≤ 1000) → M1 = 1000 * lo := fun hh => by rw [hM1]; subst hA; exact iMul_id (by omega) (by omega)
  have e2 : (1 ≤ hi ∧ hi ≤ 1000) → M2 = 2 * hi := fun hh => by rw [hM2]; subst hA; exact iMul_id (by omega) (by omega)
  have hsb : A.sub .i64 L 1 = L - 1 := by subst hA; exact iSub_id (by omega) (by omega)
  have hv8 : A.lt 8 (A.vlen ys) = decide (8 < hs.length) := by subst hA; simp only [std, iLt, hys, List.length_map, iLen]; rw [decide_eq_decide]; omega
  refine go65 rfl (SGo_run hA ⟨[], [], (64, eIn) :: [], []⟩ (.cons (eIn_ok p64) .nil) .nil 200 fun T TD hT hTD => ?_)
  cbv
  repeat' (first | (intro qq hfq; cbv) | (split <;> cbv))
  all_goals try
    refine leaf h (congrArg I ?_) rfl
    clear hT hTD hA hys h w7
    simp only [hv8, hll, hne, hnb, ← hM1, ← hM2] at *
    subst_vars
    simp only [Bool.not_eq_true', Bool.not_eq_false', decide_eq_true_eq, decide_eq_false_iff_not, ne_eq, Decidable.not_not] at *
    first | exact w1 (by omega) | exact w2 (by omega) (by omega) | exact w3 (by omega) (by omega) (by omega) | exact w4 (by omega) (by omega) (by omega) (by omega) | exact w5 (by omega) (by omega) (by omega) (by omega) (by omega) | exact w6 (by omega) (by omega) (by omega) (by omega) (by omega) (by omega)
  all_goals
    have hWX : W = X ∧ hs.length ≤ 8 := by
      clear hT hTD hA hys h
      simp only [hv8, hll, hne, hnb, ← hM1, ← hM2] at *
      subst_vars
      simp only [Bool.not_eq_true', Bool.not_eq_false', decide_eq_true_eq, decide_eq_false_iff_not, ne_eq, Decidable.not_not] at *
      exact ⟨w7 (by omega) (by omega) (by omega) (by omega) (by omega) (by omega), by omega⟩
    obtain ⟨hWX, h8⟩ := hWX
    rw [hWX] at h
    rw [hT]
    refine AGo_upE [0, 1, 2, 3, 4] hs.length (fun j (_ : Unit) => ∀ i, i < j → hldE L w hs i = 0) (fun j _ i => [(5, I i)]) (fun _ _ => [.own 0 [I L, I gp, I f, .vs 5 ts], .own 0 [I w, I s, I lo, I hi, .vs 2 ys]]) () (fun i hi => by omega) ⟨rfl, trivial⟩ (.inl rfl) fun j _ i hi2 hj hP Bk hB => ?_
    have hlt : A.lt i (A.vlen ys) = decide (j < hs.length) := by subst hA; exact lt_len (by simp [hys]) hi2
    have hadd : ∀ N, j < N → N ≤ 9223372036854775807 → A.add .i64 i 1 = iLen (j + 1) := fun N hj hN => by subst hA; exact add_one hi2 hj hN
    refine SGo_run hA ⟨[], [], (64, eIn) :: (62, eAloR) :: [], []⟩ (.cons (eIn_ok p64) (.cons eAloR_ok .nil)) .nil 200 fun T TD hT hTD => ?_
    cbv
    split <;> cbv
    · rename_i hk0
      have hk1 : j < hs.length := by have hz := hlt.symm.trans hk0; simpa using hz
      clear hk0
      obtain ⟨⟨a, u⟩, hx⟩ : ∃ x, hs[j]? = some x := ⟨_, List.getElem?_eq_getElem hk1⟩
      have hix : A.ix 2 2 ys i [I a, I u] := by subst hA; exact ix_map hys hi2 hx rfl
      have hb := hS _ (List.mem_of_getElem? hx)
      dsimp only at hb
      have hbad := hldE_bad (L := L) (way := w) hx
      dsimp only at hbad
      refine Exists.intro _ (And.intro hix ?_); cbv
      intro q1 hq1; cbv
      have hq1 : q1 = decide (1 ≤ a ∧ a ≤ L - 1) := by rw [← hsb]; exact hq1
      split <;> cbv
      · rename_i hz
        have hz : q1 = false := by simpa using (hnb _).symm.trans hz
        rw [hz] at hq1
        have hq1 : ¬ (1 ≤ a ∧ a ≤ L - 1) := by simpa using hq1.symm
        refine leaf h (congrArg I ?_) rfl
        rw [hX]; exact fstE_at hP (hbad (fun c => hq1 c.1)) (by omega) hk1
      rename_i hz
      have hz : q1 = true := by simpa using (hnb _).symm.trans hz
      rw [hz] at hq1
      have hb1 : 1 ≤ a ∧ a ≤ L - 1 := by simpa using hq1.symm
      clear hz hq1
      intro q2 hq2; cbv
      split <;> cbv
      · rename_i hz
        have hz : q2 = false := by simpa using (hnb _).symm.trans hz
        rw [hz] at hq2
        have hq2 : ¬ (0 ≤ u ∧ u ≤ 10000) := by simpa using hq2.symm
        refine leaf h (congrArg I ?_) rfl
        rw [hX]; exact fstE_at hP (hbad (fun c => hq2 c.2)) (by omega) hk1
      rename_i hz
      have hz : q2 = true := by simpa using (hnb _).symm.trans hz
      rw [hz] at hq2
      have hb2 : 0 ≤ u ∧ u ≤ 10000 := by simpa using hq2.symm
      clear hz hq2 hbad
      split <;> cbv
      · rename_i hz
        have hz : A.lt 0 i = true := hz
        rw [hll, hi2] at hz
        have hj0 : 0 < j := by unfold iLen at hz; simp only [decide_eq_true_eq] at hz; omega
        have hsj : A.sub .i64 i 1 = iLen (j - 1) := by subst hA; rw [hi2]; show iSub .i64 _ _ = _; rw [iSub_id (by unfold iLen; omega) (by unfold iLen; omega)]; unfold iLen; omega
        obtain ⟨⟨a3, u3⟩, hx3⟩ : ∃ x, hs[j - 1]? = some x := ⟨_, List.getElem?_eq_getElem (by omega)⟩
        have hix3 : A.ix 2 2 ys (A.sub .i64 i 1) [I a3, I u3] := by rw [hsj]; subst hA; exact ix_map hys rfl hx3 rfl
        have hb3 := hS _ (List.mem_of_getElem? hx3)
        dsimp only at hb3
        have hor := hldE_ord (L := L) (way := w) hx hx3 hj0 ⟨hb1, hb2⟩
        dsimp only at hor
        refine Exists.intro _ (And.intro hix3 ?_); cbv
        refine Exists.intro () (And.intro ⟨by omega, hb⟩ ?_)
        intro q3 hq3; cbv
        refine Exists.intro () (And.intro ⟨by omega, hb3⟩ ?_)
        intro q4 hq4; cbv
        rw [← hq3, ← hq4] at hor
        split <;> cbv
        · rename_i hz
          have hz : q3 ≤ q4 := by simpa using (hle _ _).symm.trans hz
          rw [if_pos hz] at hor
          refine leaf h (congrArg I ?_) rfl
          rw [hX]; exact fstE_at hP hor (by omega) hk1
        · rename_i hz
          have hz : ¬ q3 ≤ q4 := by simpa using (hle _ _).symm.trans hz
          rw [if_neg hz] at hor
          refine hB () _ _ hk1 (fun k hk => ?_) ⟨congrArg I (hadd _ hk1 (by omega)), trivial⟩ ⟨rfl, rfl, rfl, rfl, rfl, trivial⟩ (.inr ⟨⟨_, rfl⟩, Nat.zero_le _, by simp [ltG, AV.lt, AV.ltL, keepS, look, gset], ⟨by simp [AObj.lt, AV.ltL, AV.lt], by simp [AObj.lt, AV.ltL, AV.lt], trivial⟩⟩)
          rcases Nat.lt_or_ge k j with h1 | h1
          · exact hP k h1
          · rw [show k = j by omega]; exact hor
      · rename_i hz
        have hz : A.lt 0 i = false := hz
        rw [hll, hi2] at hz
        have hj0 : j = 0 := by unfold iLen at hz; simp only [decide_eq_false_iff_not] at hz; omega
        refine hB () _ _ hk1 (fun k hk => ?_) ⟨congrArg I (hadd _ hk1 (by omega)), trivial⟩ ⟨rfl, rfl, rfl, rfl, rfl, trivial⟩ (.inr ⟨⟨_, rfl⟩, Nat.zero_le _, by simp [ltG, AV.lt, AV.ltL, keepS, look, gset], ⟨by simp [AObj.lt, AV.ltL, AV.lt], by simp [AObj.lt, AV.ltL, AV.lt], trivial⟩⟩)
        subst hj0
        rw [show k = 0 by omega]; exact hldE_fst hx ⟨hb1, hb2⟩
    · rename_i hk0
      have hk1 : ¬ j < hs.length := by have hz := hlt.symm.trans hk0; simpa using hz
      clear hk0
      have hjn : j = hs.length := by omega
      subst hjn
      have : X = 0 := by rw [hX]; exact fstE_zero.2 hP
      exact leaf h (congrArg I this) rfl
def eCkTR : List AV → Option ((AV → Prop) → Prop)
  | [.agg [.lit (.int .i64 L), .lit (.int .i64 gp), .lit (.int .i64 _), .vs 5 _], .agg [.lit (.int .i64 w), .lit (.int .i64 s), .lit (.int .i64 lo), .lit (.int .i64 hi), .vs 2 ys]] =>
    some fun K => ∃ (hs : List Hld), (ys = hs.map hdV ∧ ((-1000000000 ≤ L ∧ L ≤ 1000000000) ∧ -1000000000 ≤ gp ∧ gp ≤ 1000000000) ∧ HldS hs ∧ hs.length ≤ 1000) ∧ ∀ q, q = tckE L gp ⟨w, s, lo, hi, hs⟩ → K (I q)
  | _ => none
theorem eCkTR_ok : ∀ args pt, eCkTR args = some pt → ∀ (H : AHeap) (Kk : AV → AHeap → Prop), pt (fun r => Kk r H) → ACalls Tryz.prog 65 args H Kk := by
  intro args pt h H Kk hk
  unfold eCkTR at h
  split at h
  · cases h
    obtain ⟨hs, ⟨rfl, h1, h2, h4⟩, h3⟩ := hk
    exact p65 _ _ _ _ ⟨_, _, _, _, hs⟩ h1 h2 h4 H (h3 _ rfl)
  · cases h
/-- trucks whose numbers are small -/
def TrsS (l : List Tck) : Prop := ∀ t ∈ l, HldS t.hs ∧ t.hs.length ≤ 1000
abbrev tkA (t : Tck) : AV := tckV t.way t.st t.lo t.hi (.vs 2 (t.hs.map hdV))
theorem p41 (c : Cvy) (hL : (-1000000000 ≤ c.len ∧ c.len ≤ 1000000000) ∧ -1000000000 ≤ c.gap ∧ c.gap ≤ 1000000000) (hS : TrsS c.trs) (hl : c.trs.length ≤ 1000) (H : AHeap) {Kk : AV → AHeap → Prop} (h : Kk (I (cvyE c)) H) :
    ACalls Tryz.prog 41 [cvyV c.len c.gap c.fails (.vs 5 (c.trs.map tkA))] H Kk := by
  refine (fun q => pureC (by rfl) (by rfl) q H h) ?_
  clear h
  intro Kk h
  obtain ⟨L, gp, f, trs⟩ := c
  dsimp only at hL hS hl ⊢
  obtain ⟨ys, hys⟩ : ∃ ys, ys = trs.map tkA := ⟨_, rfl⟩
  rw [← hys]
  obtain ⟨W, hW⟩ : ∃ W, W = cvyE ⟨L, gp, f, trs⟩ := ⟨_, rfl⟩
  rw [← hW] at h
  unfold cvyE at hW
  dsimp only at hW
  have w1 : ¬ ((1 ≤ L ∧ L ≤ 100000) ∧ (1 ≤ gp ∧ gp ≤ 100000) ∧ 0 ≤ f ∧ f ≤ 20) → W = 2 := fun c => by rw [hW, if_pos c]
  have w2 : ((1 ≤ L ∧ L ≤ 100000) ∧ (1 ≤ gp ∧ gp ≤ 100000) ∧ 0 ≤ f ∧ f ≤ 20) → 20 < trs.length → W = 8 := fun c c2 => by rw [hW, if_neg (Decidable.not_not.2 c), if_pos c2]
  have w3 : ((1 ≤ L ∧ L ≤ 100000) ∧ (1 ≤ gp ∧ gp ≤ 100000) ∧ 0 ≤ f ∧ f ≤ 20) → ¬ 20 < trs.length → W = fstE (fun i => tckE L gp (trs.getD i ⟨0, 0, 0, 0, []⟩)) trs.length := fun c c2 => by rw [hW, if_neg (Decidable.not_not.2 c), if_neg c2]
  clear hW
  obtain ⟨X, hX⟩ : ∃ X, X = fstE (fun i => tckE L gp (trs.getD i ⟨0, 0, 0, 0, []⟩)) trs.length := ⟨_, rfl⟩
  rw [← hX] at w3
  obtain ⟨A, hA⟩ : ∃ A, A = std := ⟨_, rfl⟩
  have hll : ∀ x y, A.lt x y = decide (x < y) := by subst hA; intro x y; rfl
  have hne : ∀ x y, A.ne x y = decide (x ≠ y) := by subst hA; intro x y; simp only [std, iNe]; rw [Bool.eq_iff_iff]; simp
  have hnb : ∀ b, A.bnot b = !b := by subst hA; intro b; rfl
  have hv8 : A.lt 20 (A.vlen ys) = decide (20 < trs.length) := by subst hA; simp only [std, iLt, hys, List.length_map, iLen]; rw [decide_eq_decide]; omega
  refine go41 rfl (SGo_run hA ⟨[], [], (64, eIn) :: [], []⟩ (.cons (eIn_ok p64) .nil) .nil 200 fun T TD hT hTD => ?_)
  cbv
  repeat' (first | (intro qq hfq; cbv) | (split <;> cbv))
  all_goals try
    refine leaf h (congrArg I ?_) rfl
    clear hT hTD hA hys h w3
    simp only [hv8, hll, hne, hnb] at *
    subst_vars
    simp only [Bool.not_eq_true', Bool.not_eq_false', decide_eq_true_eq, decide_eq_false_iff_not, ne_eq, Decidable.not_not] at *
    first | exact w1 (by omega) | exact w2 (by omega) (by omega)
  all_goals
    have hWX : W = X := by
      clear hT hTD hA hys h
      simp only [hv8, hll, hne, hnb] at *
      subst_vars
      simp only [Bool.not_eq_true', Bool.not_eq_false', decide_eq_true_eq, decide_eq_false_iff_not, ne_eq, Decidable.not_not] at *
      exact w3 (by omega) (by omega)
    rw [hWX] at h
    rw [hT]
    refine AGo_upE [0, 1, 2] trs.length (fun j (_ : Unit) => ∀ i, i < j → tckE L gp (trs.getD i ⟨0, 0, 0, 0, []⟩) = 0) (fun j _ i => [(3, I i)]) (fun _ _ => [.own 0 [I L, I gp, I f, .vs 5 ys]]) () (fun i hi => by omega) ⟨rfl, trivial⟩ (.inl rfl) fun j _ i hi2 hj hP Bk hB => ?_
    have hlt : A.lt i (A.vlen ys) = decide (j < trs.length) := by subst hA; exact lt_len (by simp [hys]) hi2
    have hadd : ∀ N, j < N → N ≤ 9223372036854775807 → A.add .i64 i 1 = iLen (j + 1) := fun N hj hN => by subst hA; exact add_one hi2 hj hN
    refine SGo_run hA ⟨[], [], (65, eCkTR) :: [], []⟩ (.cons eCkTR_ok .nil) .nil 200 fun T TD hT hTD => ?_
    cbv
    split <;> cbv
    · rename_i hk0
      have hk1 : j < trs.length := by have hz := hlt.symm.trans hk0; simpa using hz
      clear hk0
      obtain ⟨t, hx⟩ : ∃ x, trs[j]? = some x := ⟨_, List.getElem?_eq_getElem hk1⟩
      have hgd : trs.getD j ⟨0, 0, 0, 0, []⟩ = t := by rw [List.getD_eq_getElem?_getD, hx]; rfl
      have hb := hS _ (List.mem_of_getElem? hx)
      have hEt : (fun i => tckE L gp (trs.getD i ⟨0, 0, 0, 0, []⟩)) j = tckE L gp t := by dsimp only; rw [hgd]
      obtain ⟨w, s, lo, hi, hs⟩ := t
      dsimp only at hb
      obtain ⟨zs, hzs⟩ : ∃ z, z = hs.map hdV := ⟨_, rfl⟩
      have hix : A.ix 5 5 ys i [I w, I s, I lo, I hi, .vs 2 zs] := by subst hA; rw [hzs]; exact ix_map hys hi2 hx rfl
      refine Exists.intro _ (And.intro hix ?_); cbv
      refine Exists.intro hs (And.intro ⟨hzs, hL, hb.1, hb.2⟩ ?_)
      intro q hq; cbv
      rw [← hq] at hEt
      split <;> cbv
      · rename_i hz
        have hz : q ≠ 0 := by simpa using (hne _ _).symm.trans hz
        refine leaf h (congrArg I ?_) rfl
        rw [hX]; exact fstE_at hP hEt hz hk1
      · rename_i hz
        have hz : q = 0 := by simpa using (hne _ _).symm.trans hz
        refine hB () _ _ hk1 (fun k hk => ?_) ⟨congrArg I (hadd _ hk1 (by omega)), trivial⟩ ⟨rfl, rfl, rfl, trivial⟩ (.inl rfl)
        rcases Nat.lt_or_ge k j with h1 | h1
        · exact hP k h1
        · rw [show k = j by omega]; exact hEt.trans hz
    · rename_i hk0
      have hk1 : ¬ j < trs.length := by have hz := hlt.symm.trans hk0; simpa using hz
      clear hk0
      have hjn : j = trs.length := by omega
      subst hjn
      have : X = 0 := by rw [hX]; exact fstE_zero.2 hP
      exact leaf h (congrArg I this) rfl
def eCkR : List AV → Option ((AV → Prop) → Prop)
  | [.agg [.lit (.int .i64 L), .lit (.int .i64 gp), .lit (.int .i64 f), .vs 5 ys]] =>
    some fun K => ∃ (trs : List Tck), (ys = trs.map tkA ∧ ((-1000000000 ≤ L ∧ L ≤ 1000000000) ∧ -1000000000 ≤ gp ∧ gp ≤ 1000000000) ∧ TrsS trs ∧ trs.length ≤ 1000) ∧ ∀ q, q = cvyE ⟨L, gp, f, trs⟩ → K (I q)
  | _ => none
theorem eCkR_ok {n : Nat} (hf : ∀ (c : Cvy), ((-1000000000 ≤ c.len ∧ c.len ≤ 1000000000) ∧ -1000000000 ≤ c.gap ∧ c.gap ≤ 1000000000) → TrsS c.trs → c.trs.length ≤ 1000 → ∀ (H : AHeap) {Kk : AV → AHeap → Prop}, Kk (I (cvyE c)) H → ACalls Tryz.prog n [cvyV c.len c.gap c.fails (.vs 5 (c.trs.map tkA))] H Kk) :
    ∀ args pt, eCkR args = some pt → ∀ (H : AHeap) (Kk : AV → AHeap → Prop), pt (fun r => Kk r H) → ACalls Tryz.prog n args H Kk := by
  intro args pt h H Kk hk
  unfold eCkR at h
  split at h
  · cases h
    obtain ⟨trs, ⟨rfl, h1, h2, h4⟩, h3⟩ := hk
    exact hf ⟨_, _, _, trs⟩ h1 h2 h4 H (h3 _ rfl)
  · cases h
end Go.Sas
