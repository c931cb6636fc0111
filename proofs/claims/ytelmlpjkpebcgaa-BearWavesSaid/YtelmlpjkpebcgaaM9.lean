/-
What the functions that ice rests on yield, part 1: spans and numbers in bounds.
What the functions that ice rests on yield, part 2: plates, lists of spans and of loads.
What the functions that ice rests on yield, part 3: parts of tables, a search.
What the functions that ice rests on yield, part 4: whole roads; a search; sides.
What the functions that ice rests on yield, part 5: burdens and thicknesses.
What the functions that ice rests on yield, part 6: thickness, burdens, verdicts.
What the functions that ice rests on yield, part 7: verdicts.
Conditions: none.
-/
import Derived.Test.YtelmlpjkpebcgaaM6
import Derived.Test.YtelmlpjkpebcgaaNT1
import Derived.Test.YtelmlpjkpebcgaaM8
set_option linter.unusedVariables false
set_option linter.unusedSimpArgs false
namespace Go.Sas
open Go.Proofs
set_option maxRecDepth 100000
theorem p94 (a b c : Int) (H : AHeap) {Kk : AV → AHeap → Prop} (h : Kk (B (wiS a b c)) H) : ACalls Try.prog 94 [I a, I b, I c] H Kk := by
  refine pureC (by rfl) (by rfl) (fun Kk h => ?_) H h
  obtain ⟨A, hA⟩ : ∃ A, A = std := ⟨_, rfl⟩
  obtain ⟨W, hW⟩ : ∃ W, W = wiS a b c := ⟨_, rfl⟩
  rw [← hW] at h
  refine go94 rfl (SGo_run hA ⟨[], [], [], []⟩ .nil .nil 200 fun T TD hT hTD => ?_)
  clear hT hTD
  cbv
  split <;> cbv
  all_goals
    refine leaf h (congrArg B ?_) rfl
    subst hA hW
    simp only [std, iLe, decide_eq_true_eq, decide_eq_false_iff_not] at *
    simp [wiS, *]
theorem p98 (a b c : Int) (H : AHeap) {Kk : AV → AHeap → Prop} (h : Kk (B (ouS a b c)) H) : ACalls Try.prog 98 [I a, I b, I c] H Kk := by
  refine pureC (by rfl) (by rfl) (fun Kk h => ?_) H h
  obtain ⟨A, hA⟩ : ∃ A, A = std := ⟨_, rfl⟩
  obtain ⟨W, hW⟩ : ∃ W, W = ouS a b c := ⟨_, rfl⟩
  rw [← hW] at h
  refine go98 rfl (SGo_run hA ⟨[], [], [], []⟩ .nil .nil 200 fun T TD hT hTD => ?_)
  clear hT hTD
  cbv
  split <;> cbv
  all_goals
    refine leaf h (congrArg B ?_) rfl
    subst hA hW
    simp only [std, iLt, decide_eq_true_eq, decide_eq_false_iff_not] at *
    simp [ouS, *]
theorem eWi_ok {f : Nat} (hf : ∀ (a b c : Int) (H : AHeap) {Kk : AV → AHeap → Prop}, Kk (B (wiS a b c)) H → ACalls Try.prog f [I a, I b, I c] H Kk) {S : Sp} (hS : S = stS) :
    ∀ args pt, eWi S args = some pt → ∀ (H : AHeap) (Kk : AV → AHeap → Prop), pt (fun r => Kk r H) → ACalls Try.prog f args H Kk := by
  intro args pt h H Kk hk
  subst hS
  unfold eWi at h
  split at h
  · cases h; exact hf _ _ _ H hk
  · cases h
theorem eOu_ok {f : Nat} (hf : ∀ (a b c : Int) (H : AHeap) {Kk : AV → AHeap → Prop}, Kk (B (ouS a b c)) H → ACalls Try.prog f [I a, I b, I c] H Kk) {S : Sp} (hS : S = stS) :
    ∀ args pt, eOu S args = some pt → ∀ (H : AHeap) (Kk : AV → AHeap → Prop), pt (fun r => Kk r H) → ACalls Try.prog f args H Kk := by
  intro args pt h H Kk hk
  subst hS
  unfold eOu at h
  split at h
  · cases h; exact hf _ _ _ H hk
  · cases h
def tb1 (S : Sp) : PTab := [(94, eWi S), (98, eOu S)]
theorem tb1_ok {S : Sp} (hS : S = stS) : PTabOk Try.prog (tb1 S) := .cons (eWi_ok p94 hS) (.cons (eOu_ok p98 hS) .nil)
theorem p92 (a b c d : Int) (H : AHeap) {Kk : AV → AHeap → Prop} (h : Kk (I (faultS a b c d)) H) : ACalls Try.prog 92 [.agg [I a, I b], I c, I d] H Kk := by
  refine pureC (by rfl) (by rfl) (fun Kk h => ?_) H h
  obtain ⟨A, hA⟩ : ∃ A, A = std := ⟨_, rfl⟩
  obtain ⟨S, hS⟩ : ∃ S, S = stS := ⟨_, rfl⟩
  obtain ⟨W, hW⟩ : ∃ W, W = faultS a b c d := ⟨_, rfl⟩
  rw [← hW] at h
  refine go92 rfl (SGo_run hA ⟨[], [], tb1 S, []⟩ (tb1_ok hS) .nil 200 fun T TD hT hTD => ?_)
  clear hT hTD
  cbv
  repeat' (split <;> cbv)
  all_goals
    refine leaf h (congrArg I ?_) rfl
    subst hA hS hW
    simp only [std, stS, iLt, iLe, iEq, iNe, iLen, wiS, ouS, bne_iff_ne, ne_eq, beq_iff_eq, Bool.and_eq_true, Bool.or_eq_true, Bool.or_eq_false_iff, Bool.and_eq_false_iff, decide_eq_true_eq, decide_eq_false_iff_not, bne_eq_false_iff_eq, beq_eq_false_iff_ne, Bool.not_eq_true', Bool.not_eq_false'] at *
    simp only [faultS]
    repeat' split
    all_goals omega
theorem p91 (a b c d : Int) (H : AHeap) {Kk : AV → AHeap → Prop} (h : Kk (I (faultS a b c d)) H) : ACalls Try.prog 91 [.agg [I a, I b], I c, I d] H Kk := by
  refine pureC (by rfl) (by rfl) (fun Kk h => ?_) H h
  obtain ⟨A, hA⟩ : ∃ A, A = std := ⟨_, rfl⟩
  obtain ⟨S, hS⟩ : ∃ S, S = stS := ⟨_, rfl⟩
  obtain ⟨W, hW⟩ : ∃ W, W = faultS a b c d := ⟨_, rfl⟩
  rw [← hW] at h
  refine go91 rfl (SGo_run hA ⟨[], [], tb1 S, []⟩ (tb1_ok hS) .nil 200 fun T TD hT hTD => ?_)
  clear hT hTD
  cbv
  repeat' (split <;> cbv)
  all_goals
    refine leaf h (congrArg I ?_) rfl
    subst hA hS hW
    simp only [std, stS, iLt, iLe, iEq, iNe, iLen, wiS, ouS, bne_iff_ne, ne_eq, beq_iff_eq, Bool.and_eq_true, Bool.or_eq_true, Bool.or_eq_false_iff, Bool.and_eq_false_iff, decide_eq_true_eq, decide_eq_false_iff_not, bne_eq_false_iff_eq, beq_eq_false_iff_ne, Bool.not_eq_true', Bool.not_eq_false'] at *
    simp only [faultS]
    repeat' split
    all_goals omega
def ahead (l : List (Int × Int)) : Nat → Option (Int × Int)
  | 0 => none
  | k + 1 => l[k]?
theorem tabGo_err {p : Option (Int × Int)} {x : Int × Int} {l : List (Int × Int)} {c : Int} (h : entE p x = c) (hc : c ≠ 0) : tabGo p (x :: l) = c := by simp [tabGo, h, hc]
theorem tabGo_ok {p : Option (Int × Int)} {x : Int × Int} {l : List (Int × Int)} (h : entE p x = 0) : tabGo p (x :: l) = tabGo (some x) l := by simp [tabGo, h]
theorem p107 (l : List (Int × Int)) (hl : l.length ≤ 9223372036854775807) (H : AHeap) {Kk : AV → AHeap → Prop} (h : Kk (I (tabS l)) H) : ACalls Try.prog 107 [.vs 2 (l.map sp)] H Kk := by
  refine pureC (by rfl) (by rfl) (fun Kk h => ?_) H h
  obtain ⟨xs, hxs⟩ : ∃ xs, xs = l.map sp := ⟨_, rfl⟩
  rw [← hxs]
  obtain ⟨A, hA⟩ : ∃ A, A = std := ⟨_, rfl⟩
  obtain ⟨S, hS⟩ : ∃ S, S = stS := ⟨_, rfl⟩
  obtain ⟨W, hW⟩ : ∃ W, W = tabS l := ⟨_, rfl⟩
  rw [← hW] at h
  have hv : A.vlen xs = iLen l.length := by subst hA; simp [std, hxs]
  refine go107 rfl (SGo_run hA ⟨[], [], tb1 S, []⟩ (tb1_ok hS) .nil 200 fun T TD hT hTD => ?_)
  cbv
  split <;> cbv
  · refine leaf h (congrArg I ?_) rfl
    rename_i hq; have hq : A.eq (A.vlen xs) 0 = true := hq
    rw [hv] at hq
    subst hA hW
    simp only [std, stS, iLt, iLe, iEq, iNe, iLen, wiS, ouS, bne_iff_ne, ne_eq, beq_iff_eq, Bool.and_eq_true, Bool.or_eq_true, Bool.or_eq_false_iff, Bool.and_eq_false_iff, decide_eq_true_eq, decide_eq_false_iff_not, bne_eq_false_iff_eq, beq_eq_false_iff_ne, Bool.not_eq_true', Bool.not_eq_false'] at *
    simp only [tabS]; rw [if_pos (by omega)]
  rename_i hq; have hq : A.eq (A.vlen xs) 0 = false := hq
  split <;> cbv
  · refine leaf h (congrArg I ?_) rfl
    rename_i hr; have hr : A.lt 20 (A.vlen xs) = true := hr
    rw [hv] at hq hr
    subst hA hW
    simp only [std, stS, iLt, iLe, iEq, iNe, iLen, wiS, ouS, bne_iff_ne, ne_eq, beq_iff_eq, Bool.and_eq_true, Bool.or_eq_true, Bool.or_eq_false_iff, Bool.and_eq_false_iff, decide_eq_true_eq, decide_eq_false_iff_not, bne_eq_false_iff_eq, beq_eq_false_iff_ne, Bool.not_eq_true', Bool.not_eq_false'] at *
    simp only [tabS]; rw [if_neg (by omega), if_pos (by omega)]
  rename_i hr; have hr : A.lt 20 (A.vlen xs) = false := hr
  have hW : W = tabGo none l := by
    rw [hv] at hq hr
    subst hA hW
    simp only [std, stS, iLt, iLe, iEq, iNe, iLen, wiS, ouS, bne_iff_ne, ne_eq, beq_iff_eq, Bool.and_eq_true, Bool.or_eq_true, Bool.or_eq_false_iff, Bool.and_eq_false_iff, decide_eq_true_eq, decide_eq_false_iff_not, bne_eq_false_iff_eq, beq_eq_false_iff_ne, Bool.not_eq_true', Bool.not_eq_false'] at *
    simp only [tabS]; rw [if_neg (by omega), if_neg (by omega)]
  clear hq hr
  rw [hT]
  refine AGo_up l.length (fun j => W = tabGo (ahead l j) (l.drop j)) (fun _ i => [(0, .vs 2 xs), (2, I 0), (3, I i)]) (fun _ => []) hW ⟨rfl, rfl, rfl, trivial⟩ (.inl rfl) fun j i hi hj hP Bk hB => ?_
  have hlt : A.lt i (A.vlen xs) = decide (j < l.length) := by subst hA; exact lt_len (by simp [hxs]) hi
  have hadd : ∀ N, j < N → N ≤ 9223372036854775807 → A.add .i64 i 1 = iLen (j + 1) := fun N hj hN => by subst hA; exact add_one hi hj hN
  refine SGo_run hA ⟨[], [], tb1 S, []⟩ (tb1_ok hS) .nil 200 fun T TD hT hTD => ?_
  cbv
  split <;> cbv
  · rename_i hk1
    have hk1 : j < l.length := by have := hlt.symm.trans hk1; simpa using this
    obtain ⟨⟨x, y⟩, hx⟩ : ∃ x, l[j]? = some x := ⟨_, List.getElem?_eq_getElem hk1⟩
    have hix : A.ix 2 2 xs i [I x, I y] := by subst hA; exact ix_map hxs hi hx rfl
    rw [drop_cons hx] at hP
    cases j with
    | zero =>
      have h0 : A.eq i 0 = true := by subst hA hi; rfl
      have h0' : A.lt 0 i = false := by subst hA hi; rfl
      have hR : ∀ c, c ≠ 0 → entE none (x, y) = c → W = c := fun c hc h => hP.trans (tabGo_err h hc)
      have hN : entE none (x, y) = 0 → W = tabGo (ahead l 1) (l.drop 1) := fun h => by rw [hP]; simp only [ahead, hx]; exact tabGo_ok h
      repeat' (first | (refine Exists.intro _ (And.intro hix ?_); cbv) | (split <;> first | (rename_i hq; exact Bool.noConfusion (hq.symm.trans h0)) | (rename_i hq; exact Bool.noConfusion (hq.symm.trans h0')) | cbv))
      case' h_2 => refine hB _ _ hk1 (hN ?_) ⟨rfl, rfl, congrArg I (hadd _ hk1 (by omega)), trivial⟩ (.inl rfl)
      all_goals clear hadd hlt hix hv h0 h0' hN hP
      all_goals try refine leaf h (congrArg I (hR _ (by decide) ?_)) rfl
      all_goals clear hR
      all_goals subst hA hS
      all_goals clear hxs
      all_goals
        simp only [std, stS, iLt, iLe, iEq, iNe, iLen, wiS, ouS, bne_iff_ne, ne_eq, beq_iff_eq, Bool.and_eq_true, Bool.or_eq_true, Bool.or_eq_false_iff, Bool.and_eq_false_iff, decide_eq_true_eq, decide_eq_false_iff_not, bne_eq_false_iff_eq, beq_eq_false_iff_ne, Bool.not_eq_true', Bool.not_eq_false'] at *
        simp only [entE]
        repeat' split
        all_goals omega
    | succ k =>
      obtain ⟨⟨u, v⟩, hy⟩ : ∃ y, l[k]? = some y := ⟨_, List.getElem?_eq_getElem (by omega)⟩
      have hsub : A.sub .i64 i 1 = iLen k := by
        subst hA hi
        show iSub .i64 ((k + 1 : Nat) : Int) 1 = (k : Int)
        rw [iSub_id] <;> omega
      have hiy : A.ix 2 2 xs (A.sub .i64 i 1) [I u, I v] := by subst hA; exact ix_map hxs hsub hy rfl
      have h0 : A.eq i 0 = false := by
        subst hA hi
        show (((k + 1 : Nat) : Int) == 0) = false
        rw [beq_eq_false_iff_ne]; omega
      have h0' : A.lt 0 i = true := by
        subst hA hi
        show decide ((0 : Int) < ((k + 1 : Nat) : Int)) = true
        rw [decide_eq_true_eq]; omega
      have hR : ∀ c, c ≠ 0 → entE (some (u, v)) (x, y) = c → W = c := fun c hc h => hP.trans (by simp only [ahead, hy]; exact tabGo_err h hc)
      have hN : entE (some (u, v)) (x, y) = 0 → W = tabGo (ahead l (k + 2)) (l.drop (k + 2)) := fun h => by rw [hP]; simp only [ahead, hx, hy]; exact tabGo_ok h
      repeat' (first | (refine Exists.intro _ (And.intro hix ?_); cbv) | (refine Exists.intro _ (And.intro hiy ?_); cbv) | (split <;> first | (rename_i hq; exact Bool.noConfusion (hq.symm.trans h0)) | (rename_i hq; exact Bool.noConfusion (hq.symm.trans h0')) | cbv))
      case' h_2 => refine hB _ _ hk1 (hN ?_) ⟨rfl, rfl, congrArg I (hadd _ hk1 (by omega)), trivial⟩ (.inl rfl)
      all_goals clear hadd hlt hix hv h0 h0' hN hP hiy hsub
      all_goals try refine leaf h (congrArg I (hR _ (by decide) ?_)) rfl
      all_goals clear hR
      all_goals subst hA hS
      all_goals clear hxs
      all_goals
        simp only [std, stS, iLt, iLe, iEq, iNe, iLen, wiS, ouS, bne_iff_ne, ne_eq, beq_iff_eq, Bool.and_eq_true, Bool.or_eq_true, Bool.or_eq_false_iff, Bool.and_eq_false_iff, decide_eq_true_eq, decide_eq_false_iff_not, bne_eq_false_iff_eq, beq_eq_false_iff_ne, Bool.not_eq_true', Bool.not_eq_false'] at *
        simp only [entE]
        repeat' split
        all_goals omega
  · rename_i hk1
    have hk1 : ¬ j < l.length := by have := hlt.symm.trans hk1; simpa using this
    refine leaf h (congrArg I ?_) rfl
    rw [hP, List.drop_eq_nil_of_le (by omega)]; cases j <;> rfl
theorem p106 (l : List (Int × Int)) (hl : l.length ≤ 9223372036854775807) (H : AHeap) {Kk : AV → AHeap → Prop} (h : Kk (I (tabS l)) H) : ACalls Try.prog 106 [.vs 2 (l.map sp)] H Kk := by
  refine pureC (by rfl) (by rfl) (fun Kk h => ?_) H h
  obtain ⟨xs, hxs⟩ : ∃ xs, xs = l.map sp := ⟨_, rfl⟩
  rw [← hxs]
  obtain ⟨A, hA⟩ : ∃ A, A = std := ⟨_, rfl⟩
  obtain ⟨S, hS⟩ : ∃ S, S = stS := ⟨_, rfl⟩
  obtain ⟨W, hW⟩ : ∃ W, W = tabS l := ⟨_, rfl⟩
  rw [← hW] at h
  have hv : A.vlen xs = iLen l.length := by subst hA; simp [std, hxs]
  refine go106 rfl (SGo_run hA ⟨[], [], tb1 S, []⟩ (tb1_ok hS) .nil 200 fun T TD hT hTD => ?_)
  cbv
  split <;> cbv
  · refine leaf h (congrArg I ?_) rfl
    rename_i hq; have hq : A.eq (A.vlen xs) 0 = true := hq
    rw [hv] at hq
    subst hA hW
    simp only [std, stS, iLt, iLe, iEq, iNe, iLen, wiS, ouS, bne_iff_ne, ne_eq, beq_iff_eq, Bool.and_eq_true, Bool.or_eq_true, Bool.or_eq_false_iff, Bool.and_eq_false_iff, decide_eq_true_eq, decide_eq_false_iff_not, bne_eq_false_iff_eq, beq_eq_false_iff_ne, Bool.not_eq_true', Bool.not_eq_false'] at *
    simp only [tabS]; rw [if_pos (by omega)]
  rename_i hq; have hq : A.eq (A.vlen xs) 0 = false := hq
  split <;> cbv
  · refine leaf h (congrArg I ?_) rfl
    rename_i hr; have hr : A.lt 20 (A.vlen xs) = true := hr
    rw [hv] at hq hr
    subst hA hW
    simp only [std, stS, iLt, iLe, iEq, iNe, iLen, wiS, ouS, bne_iff_ne, ne_eq, beq_iff_eq, Bool.and_eq_true, Bool.or_eq_true, Bool.or_eq_false_iff, Bool.and_eq_false_iff, decide_eq_true_eq, decide_eq_false_iff_not, bne_eq_false_iff_eq, beq_eq_false_iff_ne, Bool.not_eq_true', Bool.not_eq_false'] at *
    simp only [tabS]; rw [if_neg (by omega), if_pos (by omega)]
  rename_i hr; have hr : A.lt 20 (A.vlen xs) = false := hr
  have hW : W = tabGo none l := by
    rw [hv] at hq hr
    subst hA hW
    simp only [std, stS, iLt, iLe, iEq, iNe, iLen, wiS, ouS, bne_iff_ne, ne_eq, beq_iff_eq, Bool.and_eq_true, Bool.or_eq_true, Bool.or_eq_false_iff, Bool.and_eq_false_iff, decide_eq_true_eq, decide_eq_false_iff_not, bne_eq_false_iff_eq, beq_eq_false_iff_ne, Bool.not_eq_true', Bool.not_eq_false'] at *
    simp only [tabS]; rw [if_neg (by omega), if_neg (by omega)]
  clear hq hr
  rw [hT]
  refine AGo_up l.length (fun j => W = tabGo (ahead l j) (l.drop j)) (fun _ i => [(0, .vs 2 xs), (2, I 0), (13, .vs 2 xs), (14, I (A.vlen xs)), (15, I i)]) (fun _ => []) hW ⟨rfl, rfl, rfl, rfl, rfl, trivial⟩ (.inl rfl) fun j i hi hj hP Bk hB => ?_
  have hlt : A.lt i (A.vlen xs) = decide (j < l.length) := by subst hA; exact lt_len (by simp [hxs]) hi
  have hadd : ∀ N, j < N → N ≤ 9223372036854775807 → A.add .i64 i 1 = iLen (j + 1) := fun N hj hN => by subst hA; exact add_one hi hj hN
  refine SGo_run hA ⟨[], [], tb1 S, []⟩ (tb1_ok hS) .nil 200 fun T TD hT hTD => ?_
  cbv
  split <;> cbv
  · rename_i hk1
    have hk1 : j < l.length := by have := hlt.symm.trans hk1; simpa using this
    obtain ⟨⟨x, y⟩, hx⟩ : ∃ x, l[j]? = some x := ⟨_, List.getElem?_eq_getElem hk1⟩
    have hix : A.ix 2 2 xs i [I x, I y] := by subst hA; exact ix_map hxs hi hx rfl
    rw [drop_cons hx] at hP
    cases j with
    | zero =>
      have h0 : A.eq i 0 = true := by subst hA hi; rfl
      have h0' : A.lt 0 i = false := by subst hA hi; rfl
      have hR : ∀ c, c ≠ 0 → entE none (x, y) = c → W = c := fun c hc h => hP.trans (tabGo_err h hc)
      have hN : entE none (x, y) = 0 → W = tabGo (ahead l 1) (l.drop 1) := fun h => by rw [hP]; simp only [ahead, hx]; exact tabGo_ok h
      repeat' (first | (refine Exists.intro _ (And.intro hix ?_); cbv) | (split <;> first | (rename_i hq; exact Bool.noConfusion (hq.symm.trans h0)) | (rename_i hq; exact Bool.noConfusion (hq.symm.trans h0')) | cbv))
      case' h_2 => refine hB _ _ hk1 (hN ?_) ⟨rfl, rfl, rfl, rfl, congrArg I (hadd _ hk1 (by omega)), trivial⟩ (.inr ⟨⟨_, rfl⟩, Nat.le_refl _, by simp [ltG, AV.lt], trivial⟩)
      all_goals clear hadd hlt hix hv h0 h0' hN hP
      all_goals try refine leaf h (congrArg I (hR _ (by decide) ?_)) rfl
      all_goals clear hR
      all_goals subst hA hS
      all_goals clear hxs
      all_goals
        simp only [std, stS, iLt, iLe, iEq, iNe, iLen, wiS, ouS, bne_iff_ne, ne_eq, beq_iff_eq, Bool.and_eq_true, Bool.or_eq_true, Bool.or_eq_false_iff, Bool.and_eq_false_iff, decide_eq_true_eq, decide_eq_false_iff_not, bne_eq_false_iff_eq, beq_eq_false_iff_ne, Bool.not_eq_true', Bool.not_eq_false'] at *
        simp only [entE]
        repeat' split
        all_goals omega
    | succ k =>
      obtain ⟨⟨u, v⟩, hy⟩ : ∃ y, l[k]? = some y := ⟨_, List.getElem?_eq_getElem (by omega)⟩
      have hsub : A.sub .i64 i 1 = iLen k := by
        subst hA hi
        show iSub .i64 ((k + 1 : Nat) : Int) 1 = (k : Int)
        rw [iSub_id] <;> omega
      have hiy : A.ix 2 2 xs (A.sub .i64 i 1) [I u, I v] := by subst hA; exact ix_map hxs hsub hy rfl
      have h0 : A.eq i 0 = false := by
        subst hA hi
        show (((k + 1 : Nat) : Int) == 0) = false
        rw [beq_eq_false_iff_ne]; omega
      have h0' : A.lt 0 i = true := by
        subst hA hi
        show decide ((0 : Int) < ((k + 1 : Nat) : Int)) = true
        rw [decide_eq_true_eq]; omega
      have hR : ∀ c, c ≠ 0 → entE (some (u, v)) (x, y) = c → W = c := fun c hc h => hP.trans (by simp only [ahead, hy]; exact tabGo_err h hc)
      have hN : entE (some (u, v)) (x, y) = 0 → W = tabGo (ahead l (k + 2)) (l.drop (k + 2)) := fun h => by rw [hP]; simp only [ahead, hx, hy]; exact tabGo_ok h
      repeat' (first | (refine Exists.intro _ (And.intro hix ?_); cbv) | (refine Exists.intro _ (And.intro hiy ?_); cbv) | (split <;> first | (rename_i hq; exact Bool.noConfusion (hq.symm.trans h0)) | (rename_i hq; exact Bool.noConfusion (hq.symm.trans h0')) | cbv))
      case' h_2 => refine hB _ _ hk1 (hN ?_) ⟨rfl, rfl, rfl, rfl, congrArg I (hadd _ hk1 (by omega)), trivial⟩ (.inr ⟨⟨_, rfl⟩, Nat.le_refl _, by simp [ltG, AV.lt], trivial⟩)
      all_goals clear hadd hlt hix hv h0 h0' hN hP hiy hsub
      all_goals try refine leaf h (congrArg I (hR _ (by decide) ?_)) rfl
      all_goals clear hR
      all_goals subst hA hS
      all_goals clear hxs
      all_goals
        simp only [std, stS, iLt, iLe, iEq, iNe, iLen, wiS, ouS, bne_iff_ne, ne_eq, beq_iff_eq, Bool.and_eq_true, Bool.or_eq_true, Bool.or_eq_false_iff, Bool.and_eq_false_iff, decide_eq_true_eq, decide_eq_false_iff_not, bne_eq_false_iff_eq, beq_eq_false_iff_ne, Bool.not_eq_true', Bool.not_eq_false'] at *
        simp only [entE]
        repeat' split
        all_goals omega
  · rename_i hk1
    have hk1 : ¬ j < l.length := by have := hlt.symm.trans hk1; simpa using this
    refine leaf h (congrArg I ?_) rfl
    rw [hP, List.drop_eq_nil_of_le (by omega)]; cases j <;> rfl
theorem eFault_ok {f : Nat} (hf : ∀ (a b c d : Int) (H : AHeap) {Kk : AV → AHeap → Prop}, Kk (I (faultS a b c d)) H → ACalls Try.prog f [.agg [I a, I b], I c, I d] H Kk) {S : Sp} (hS : S = stS) :
    ∀ args pt, eFault S args = some pt → ∀ (H : AHeap) (Kk : AV → AHeap → Prop), pt (fun r => Kk r H) → ACalls Try.prog f args H Kk := by
  intro args pt h H Kk hk
  subst hS
  unfold eFault at h
  split at h
  · cases h; exact hf _ _ _ _ H hk
  · cases h
theorem eTab_ok {f : Nat} (hf : ∀ (l : List (Int × Int)), l.length ≤ 9223372036854775807 → ∀ (H : AHeap) {Kk : AV → AHeap → Prop}, Kk (I (tabS l)) H → ACalls Try.prog f [.vs 2 (l.map sp)] H Kk) {S : Sp} (hS : S = stS) :
    ∀ args pt, eTab S args = some pt → ∀ (H : AHeap) (Kk : AV → AHeap → Prop), pt (fun r => Kk r H) → ACalls Try.prog f args H Kk := by
  intro args pt h H Kk hk
  subst hS
  unfold eTab at h
  split at h
  · split at h
    · rename_i ys hy
      cases h
      obtain ⟨l, h1, h2, h3⟩ := hk
      subst h1
      exact (hf _ h2 H h3).wk ⟨asVs_wk hy, trivial⟩
    · cases h
  · cases h
def tb2 (S : Sp) : PTab := (91, eFault S) :: (92, eFault S) :: (106, eTab S) :: (107, eTab S) :: tb1 S
theorem tb2_ok {S : Sp} (hS : S = stS) : PTabOk Try.prog (tb2 S) := .cons (eFault_ok p91 hS) (.cons (eFault_ok p92 hS) (.cons (eTab_ok p106 hS) (.cons (eTab_ok p107 hS) (tb1_ok hS))))
end Go.Sas
namespace Go.Sas
open Go.Proofs
set_option maxRecDepth 100000
theorem p60 (p : Plate) {a b : Int} {xs ec : List AV} {ne ed gr lo hi sh wi : Int} (hp : PlateIs p a b xs ec ne ed gr lo hi sh wi) (h1 : p.shares.length ≤ 9223372036854775807) (h2 : p.creep.length ≤ 9223372036854775807) (H : AHeap) {Kk : AV → AHeap → Prop} (h : Kk (I (checkS p)) H) :
    ACalls Try.prog 60 [plV a b (.vs 2 xs) (.vs 2 ec) ne ed gr lo hi sh wi] H Kk := by
  obtain ⟨pst, l1, l2, q1, q2, q3, q4, q5, q6, q7⟩ := p
  obtain ⟨hs, hc, e1, e2, e3, e4, e5, e6, e7, e8⟩ := hp
  simp only at hs hc e1 e2 e3 e4 e5 e6 e7 e8 h1 h2
  subst e1 e2 e3 e4 e5 e6 e7 e8
  refine pureC (by rfl) (by rfl) (fun Kk h => ?_) H h
  obtain ⟨A, hA⟩ : ∃ A, A = std := ⟨_, rfl⟩
  obtain ⟨S, hS⟩ : ∃ S, S = stS := ⟨_, rfl⟩
  obtain ⟨W, hW⟩ : ∃ W, W = checkS ⟨(a, b), l1, l2, q1, q2, q3, q4, q5, q6, q7⟩ := ⟨_, rfl⟩
  rw [← hW] at h
  refine go60 rfl (SGo_run hA ⟨[], [], tb2 S, []⟩ (tb2_ok hS) .nil 200 fun T TD hT hTD => ?_)
  clear hT hTD
  cbv
  repeat' (first | (refine ⟨l1, hs, h1, ?_⟩; cbv) | (refine ⟨l2, hc, h2, ?_⟩; cbv) | (split <;> cbv))
  all_goals
    refine leaf h (congrArg I ?_) rfl
    clear h
    subst hA hS hW
    clear h1 h2 hs hc
    simp only [std, stS, iLt, iLe, iEq, iNe, iLen, wiS, ouS, bne_iff_ne, ne_eq, beq_iff_eq, Bool.and_eq_true, Bool.or_eq_true, Bool.or_eq_false_iff, Bool.and_eq_false_iff, decide_eq_true_eq, decide_eq_false_iff_not, bne_eq_false_iff_eq, beq_eq_false_iff_ne, Bool.not_eq_true', Bool.not_eq_false'] at *
    simp only [checkS]
    repeat' split
    all_goals omega
theorem p59 (p : Plate) {a b : Int} {xs ec : List AV} {ne ed gr lo hi sh wi : Int} (hp : PlateIs p a b xs ec ne ed gr lo hi sh wi) (h1 : p.shares.length ≤ 9223372036854775807) (h2 : p.creep.length ≤ 9223372036854775807) (H : AHeap) {Kk : AV → AHeap → Prop} (h : Kk (I (checkS p)) H) :
    ACalls Try.prog 59 [plV a b (.vs 2 xs) (.vs 2 ec) ne ed gr lo hi sh wi] H Kk := by
  obtain ⟨pst, l1, l2, q1, q2, q3, q4, q5, q6, q7⟩ := p
  obtain ⟨hs, hc, e1, e2, e3, e4, e5, e6, e7, e8⟩ := hp
  simp only at hs hc e1 e2 e3 e4 e5 e6 e7 e8 h1 h2
  subst e1 e2 e3 e4 e5 e6 e7 e8
  refine pureC (by rfl) (by rfl) (fun Kk h => ?_) H h
  obtain ⟨A, hA⟩ : ∃ A, A = std := ⟨_, rfl⟩
  obtain ⟨S, hS⟩ : ∃ S, S = stS := ⟨_, rfl⟩
  obtain ⟨W, hW⟩ : ∃ W, W = checkS ⟨(a, b), l1, l2, q1, q2, q3, q4, q5, q6, q7⟩ := ⟨_, rfl⟩
  rw [← hW] at h
  refine go59 rfl (SGo_run hA ⟨[], [], tb2 S, []⟩ (tb2_ok hS) .nil 200 fun T TD hT hTD => ?_)
  clear hT hTD
  cbv
  repeat' (first | (refine ⟨l1, hs, h1, ?_⟩; cbv) | (refine ⟨l2, hc, h2, ?_⟩; cbv) | (split <;> cbv))
  all_goals
    refine leaf h (congrArg I ?_) rfl
    clear h
    subst hA hS hW
    clear h1 h2 hs hc
    simp only [std, stS, iLt, iLe, iEq, iNe, iLen, wiS, ouS, bne_iff_ne, ne_eq, beq_iff_eq, Bool.and_eq_true, Bool.or_eq_true, Bool.or_eq_false_iff, Bool.and_eq_false_iff, decide_eq_true_eq, decide_eq_false_iff_not, bne_eq_false_iff_eq, beq_eq_false_iff_ne, Bool.not_eq_true', Bool.not_eq_false'] at *
    simp only [checkS]
    repeat' split
    all_goals omega
theorem firstE_err {α : Type} {f : α → Int} {x : α} {l : List α} {c : Int} (h : f x = c) (hc : c ≠ 0) : firstE f (x :: l) = c := by simp [firstE, h, hc]
theorem firstE_ok {α : Type} {f : α → Int} {x : α} {l : List α} (h : f x = 0) : firstE f (x :: l) = firstE f l := by simp [firstE, h]
theorem p112 (l : List (Int × Int)) (a b : Int) (hl : l.length ≤ 9223372036854775807) (H : AHeap) {Kk : AV → AHeap → Prop} (h : Kk (I (faultsS l a b)) H) : ACalls Try.prog 112 [.vs 2 (l.map sp), I a, I b] H Kk := by
  refine pureC (by rfl) (by rfl) (fun Kk h => ?_) H h
  obtain ⟨xs, hxs⟩ : ∃ xs, xs = l.map sp := ⟨_, rfl⟩
  rw [← hxs]
  obtain ⟨A, hA⟩ : ∃ A, A = std := ⟨_, rfl⟩
  obtain ⟨S, hS⟩ : ∃ S, S = stS := ⟨_, rfl⟩
  obtain ⟨W, hW⟩ : ∃ W, W = faultsS l a b := ⟨_, rfl⟩
  rw [← hW] at h
  have hv : A.vlen xs = iLen l.length := by subst hA; simp [std, hxs]
  refine go112 rfl (SGo_run hA ⟨[], [], tb2 S, []⟩ (tb2_ok hS) .nil 200 fun T TD hT hTD => ?_)
  cbv
  split <;> cbv
  · refine leaf h (congrArg I ?_) rfl
    rename_i hr; have hr : A.lt a (A.vlen xs) = true := hr
    rw [hv] at hr
    subst hA hW
    simp only [std, stS, iLt, iLe, iEq, iNe, iLen, wiS, ouS, bne_iff_ne, ne_eq, beq_iff_eq, Bool.and_eq_true, Bool.or_eq_true, Bool.or_eq_false_iff, Bool.and_eq_false_iff, decide_eq_true_eq, decide_eq_false_iff_not, bne_eq_false_iff_eq, beq_eq_false_iff_ne, Bool.not_eq_true', Bool.not_eq_false'] at *
    simp only [faultsS]; rw [if_pos (by omega)]
  rename_i hr; have hr : A.lt a (A.vlen xs) = false := hr
  have hW : W = firstE (fun x => faultS x.1 x.2 0 b) l := by
    rw [hv] at hr
    subst hA hW
    simp only [std, stS, iLt, iLe, iEq, iNe, iLen, wiS, ouS, bne_iff_ne, ne_eq, beq_iff_eq, Bool.and_eq_true, Bool.or_eq_true, Bool.or_eq_false_iff, Bool.and_eq_false_iff, decide_eq_true_eq, decide_eq_false_iff_not, bne_eq_false_iff_eq, beq_eq_false_iff_ne, Bool.not_eq_true', Bool.not_eq_false'] at *
    simp only [faultsS]; rw [if_neg (by omega)]
  clear hr
  rw [hT]
  refine AGo_up l.length (fun j => W = firstE (fun x : Int × Int => faultS x.1 x.2 0 b) (l.drop j)) (fun _ i => [(0, .vs 2 xs), (1, I a), (2, I b), (6, I 0), (7, I i)]) (fun _ => []) hW ⟨rfl, rfl, rfl, rfl, rfl, trivial⟩ (.inl rfl) fun j i hi hj hP Bk hB => ?_
  have hlt : A.lt i (A.vlen xs) = decide (j < l.length) := by subst hA; exact lt_len (by simp [hxs]) hi
  have hadd : ∀ N, j < N → N ≤ 9223372036854775807 → A.add .i64 i 1 = iLen (j + 1) := fun N hj hN => by subst hA; exact add_one hi hj hN
  refine SGo_run hA ⟨[], [], tb2 S, []⟩ (tb2_ok hS) .nil 200 fun T TD hT hTD => ?_
  cbv
  split <;> cbv
  · rename_i hk1
    have hk1 : j < l.length := by have := hlt.symm.trans hk1; simpa using this
    obtain ⟨⟨x, y⟩, hx⟩ : ∃ x, l[j]? = some x := ⟨_, List.getElem?_eq_getElem hk1⟩
    have hix : A.ix 2 2 xs i [I x, I y] := by subst hA; exact ix_map hxs hi hx rfl
    rw [drop_cons hx] at hP
    have hR : ∀ c, c ≠ 0 → (fun x : Int × Int => faultS x.1 x.2 0 b) ⟨x, y⟩ = c → W = c := fun c hc h => hP.trans (firstE_err h hc)
    have hN : (fun x : Int × Int => faultS x.1 x.2 0 b) ⟨x, y⟩ = 0 → W = firstE (fun x : Int × Int => faultS x.1 x.2 0 b) (l.drop (j + 1)) := fun h => hP.trans (firstE_ok h)
    repeat' (first | (refine Exists.intro _ (And.intro hix ?_); cbv) | (split <;> cbv))
    all_goals first | refine leaf h (congrArg I (hR _ ?_ ?_)) rfl | refine hB _ _ hk1 (hN ?_) ⟨rfl, rfl, rfl, rfl, congrArg I (hadd _ hk1 (by omega)), trivial⟩ (.inl rfl)
    all_goals clear hadd hlt hix hv hN hP hR
    all_goals
      subst hA hS
      clear hxs
      simp only [std, stS, iLt, iLe, iEq, iNe, iLen, wiS, ouS, bne_iff_ne, ne_eq, beq_iff_eq, Bool.and_eq_true, Bool.or_eq_true, Bool.or_eq_false_iff, Bool.and_eq_false_iff, decide_eq_true_eq, decide_eq_false_iff_not, bne_eq_false_iff_eq, beq_eq_false_iff_ne, Bool.not_eq_true', Bool.not_eq_false'] at *
      try simp only [id_eq]
      repeat' split
      all_goals omega
  · rename_i hk1
    have hk1 : ¬ j < l.length := by have := hlt.symm.trans hk1; simpa using this
    refine leaf h (congrArg I ?_) rfl
    rw [hP, List.drop_eq_nil_of_le (by omega)]; rfl
theorem p108 (l : List (Int × Int)) (a b : Int) (hl : l.length ≤ 9223372036854775807) (H : AHeap) {Kk : AV → AHeap → Prop} (h : Kk (I (faultsS l a b)) H) : ACalls Try.prog 108 [.vs 2 (l.map sp), I a, I b] H Kk := by
  refine pureC (by rfl) (by rfl) (fun Kk h => ?_) H h
  obtain ⟨xs, hxs⟩ : ∃ xs, xs = l.map sp := ⟨_, rfl⟩
  rw [← hxs]
  obtain ⟨A, hA⟩ : ∃ A, A = std := ⟨_, rfl⟩
  obtain ⟨S, hS⟩ : ∃ S, S = stS := ⟨_, rfl⟩
  obtain ⟨W, hW⟩ : ∃ W, W = faultsS l a b := ⟨_, rfl⟩
  rw [← hW] at h
  have hv : A.vlen xs = iLen l.length := by subst hA; simp [std, hxs]
  refine go108 rfl (SGo_run hA ⟨[], [], tb2 S, []⟩ (tb2_ok hS) .nil 200 fun T TD hT hTD => ?_)
  cbv
  split <;> cbv
  · refine leaf h (congrArg I ?_) rfl
    rename_i hr; have hr : A.lt a (A.vlen xs) = true := hr
    rw [hv] at hr
    subst hA hW
    simp only [std, stS, iLt, iLe, iEq, iNe, iLen, wiS, ouS, bne_iff_ne, ne_eq, beq_iff_eq, Bool.and_eq_true, Bool.or_eq_true, Bool.or_eq_false_iff, Bool.and_eq_false_iff, decide_eq_true_eq, decide_eq_false_iff_not, bne_eq_false_iff_eq, beq_eq_false_iff_ne, Bool.not_eq_true', Bool.not_eq_false'] at *
    simp only [faultsS]; rw [if_pos (by omega)]
  rename_i hr; have hr : A.lt a (A.vlen xs) = false := hr
  have hW : W = firstE (fun x => faultS x.1 x.2 0 b) l := by
    rw [hv] at hr
    subst hA hW
    simp only [std, stS, iLt, iLe, iEq, iNe, iLen, wiS, ouS, bne_iff_ne, ne_eq, beq_iff_eq, Bool.and_eq_true, Bool.or_eq_true, Bool.or_eq_false_iff, Bool.and_eq_false_iff, decide_eq_true_eq, decide_eq_false_iff_not, bne_eq_false_iff_eq, beq_eq_false_iff_ne, Bool.not_eq_true', Bool.not_eq_false'] at *
    simp only [faultsS]; rw [if_neg (by omega)]
  clear hr
  rw [hT]
  refine AGo_up l.length (fun j => W = firstE (fun x : Int × Int => faultS x.1 x.2 0 b) (l.drop j)) (fun _ i => [(0, .vs 2 xs), (1, I a), (2, I b), (6, I 0), (14, .vs 2 xs), (15, I (A.vlen xs)), (16, I i)]) (fun _ => []) hW ⟨rfl, rfl, rfl, rfl, rfl, rfl, rfl, trivial⟩ (.inl rfl) fun j i hi hj hP Bk hB => ?_
  have hlt : A.lt i (A.vlen xs) = decide (j < l.length) := by subst hA; exact lt_len (by simp [hxs]) hi
  have hadd : ∀ N, j < N → N ≤ 9223372036854775807 → A.add .i64 i 1 = iLen (j + 1) := fun N hj hN => by subst hA; exact add_one hi hj hN
  refine SGo_run hA ⟨[], [], tb2 S, []⟩ (tb2_ok hS) .nil 200 fun T TD hT hTD => ?_
  cbv
  split <;> cbv
  · rename_i hk1
    have hk1 : j < l.length := by have := hlt.symm.trans hk1; simpa using this
    obtain ⟨⟨x, y⟩, hx⟩ : ∃ x, l[j]? = some x := ⟨_, List.getElem?_eq_getElem hk1⟩
    have hix : A.ix 2 2 xs i [I x, I y] := by subst hA; exact ix_map hxs hi hx rfl
    rw [drop_cons hx] at hP
    have hR : ∀ c, c ≠ 0 → (fun x : Int × Int => faultS x.1 x.2 0 b) ⟨x, y⟩ = c → W = c := fun c hc h => hP.trans (firstE_err h hc)
    have hN : (fun x : Int × Int => faultS x.1 x.2 0 b) ⟨x, y⟩ = 0 → W = firstE (fun x : Int × Int => faultS x.1 x.2 0 b) (l.drop (j + 1)) := fun h => hP.trans (firstE_ok h)
    repeat' (first | (refine Exists.intro _ (And.intro hix ?_); cbv) | (split <;> cbv))
    all_goals first | refine leaf h (congrArg I (hR _ ?_ ?_)) rfl | refine hB _ _ hk1 (hN ?_) ⟨rfl, rfl, rfl, rfl, rfl, rfl, congrArg I (hadd _ hk1 (by omega)), trivial⟩ (.inr ⟨⟨_, rfl⟩, Nat.le_refl _, by simp [ltG, AV.lt], trivial⟩)
    all_goals clear hadd hlt hix hv hN hP hR
    all_goals
      subst hA hS
      clear hxs
      simp only [std, stS, iLt, iLe, iEq, iNe, iLen, wiS, ouS, bne_iff_ne, ne_eq, beq_iff_eq, Bool.and_eq_true, Bool.or_eq_true, Bool.or_eq_false_iff, Bool.and_eq_false_iff, decide_eq_true_eq, decide_eq_false_iff_not, bne_eq_false_iff_eq, beq_eq_false_iff_ne, Bool.not_eq_true', Bool.not_eq_false'] at *
      try simp only [id_eq]
      repeat' split
      all_goals omega
  · rename_i hk1
    have hk1 : ¬ j < l.length := by have := hlt.symm.trans hk1; simpa using this
    refine leaf h (congrArg I ?_) rfl
    rw [hP, List.drop_eq_nil_of_le (by omega)]; rfl
theorem p89 (l : List Load) (a : Int) (hl : l.length ≤ 9223372036854775807) (ha : 0 ≤ a ∧ a < 46116860184273879) (H : AHeap) {Kk : AV → AHeap → Prop} (h : Kk (I (loadsS a l)) H) : ACalls Try.prog 89 [I a, .vs 4 (l.map ldV)] H Kk := by
  refine pureC (by rfl) (by rfl) (fun Kk h => ?_) H h
  obtain ⟨xs, hxs⟩ : ∃ xs, xs = l.map ldV := ⟨_, rfl⟩
  rw [← hxs]
  obtain ⟨A, hA⟩ : ∃ A, A = std := ⟨_, rfl⟩
  obtain ⟨S, hS⟩ : ∃ S, S = stS := ⟨_, rfl⟩
  obtain ⟨W, hW⟩ : ∃ W, W = loadsS a l := ⟨_, rfl⟩
  rw [← hW] at h
  have hv : A.vlen xs = iLen l.length := by subst hA; simp [std, hxs]
  have hm : A.sub .i64 (A.mul .i64 100 a) 1 = 100 * a - 1 := by subst hA; simp only [std]; rw [iMul_id (by omega) (by omega), iSub_id (by omega) (by omega)]
  refine go89 rfl (SGo_run hA ⟨[], [], tb2 S, []⟩ (tb2_ok hS) .nil 200 fun T TD hT hTD => ?_)
  cbv
  split <;> cbv
  · refine leaf h (congrArg I ?_) rfl
    rename_i hr; have hr : A.lt 30 (A.vlen xs) = true := hr
    rw [hv] at hr
    subst hA hW
    simp only [std, stS, iLt, iLe, iEq, iNe, iLen, wiS, ouS, bne_iff_ne, ne_eq, beq_iff_eq, Bool.and_eq_true, Bool.or_eq_true, Bool.or_eq_false_iff, Bool.and_eq_false_iff, decide_eq_true_eq, decide_eq_false_iff_not, bne_eq_false_iff_eq, beq_eq_false_iff_ne, Bool.not_eq_true', Bool.not_eq_false'] at *
    simp only [loadsS]; rw [if_pos (by omega)]
  rename_i hr; have hr : A.lt 30 (A.vlen xs) = false := hr
  have hW : W = firstE (loadE a) l := by
    rw [hv] at hr
    subst hA hW
    simp only [std, stS, iLt, iLe, iEq, iNe, iLen, wiS, ouS, bne_iff_ne, ne_eq, beq_iff_eq, Bool.and_eq_true, Bool.or_eq_true, Bool.or_eq_false_iff, Bool.and_eq_false_iff, decide_eq_true_eq, decide_eq_false_iff_not, bne_eq_false_iff_eq, beq_eq_false_iff_ne, Bool.not_eq_true', Bool.not_eq_false'] at *
    simp only [loadsS]; rw [if_neg (by omega)]
  clear hr
  rw [hT]
  refine AGo_up l.length (fun j => W = firstE (loadE a) (l.drop j)) (fun _ i => [(0, I a), (1, .vs 4 xs), (4, I 0), (5, I i)]) (fun _ => []) hW ⟨rfl, rfl, rfl, rfl, trivial⟩ (.inl rfl) fun j i hi hj hP Bk hB => ?_
  have hlt : A.lt i (A.vlen xs) = decide (j < l.length) := by subst hA; exact lt_len (by simp [hxs]) hi
  have hadd : ∀ N, j < N → N ≤ 9223372036854775807 → A.add .i64 i 1 = iLen (j + 1) := fun N hj hN => by subst hA; exact add_one hi hj hN
  refine SGo_run hA ⟨[], [], tb2 S, []⟩ (tb2_ok hS) .nil 200 fun T TD hT hTD => ?_
  cbv
  split <;> cbv
  · rename_i hk1
    have hk1 : j < l.length := by have := hlt.symm.trans hk1; simpa using this
    obtain ⟨⟨x, ⟨y, z⟩, t⟩, hx⟩ : ∃ x, l[j]? = some x := ⟨_, List.getElem?_eq_getElem hk1⟩
    have hix : A.ix 4 4 xs i [I x, I y, I z, I t] := by subst hA; exact ix_map hxs hi hx rfl
    rw [drop_cons hx] at hP
    have hR : ∀ c, c ≠ 0 → (loadE a) ⟨x, ⟨y, z⟩, t⟩ = c → W = c := fun c hc h => hP.trans (firstE_err h hc)
    have hN : (loadE a) ⟨x, ⟨y, z⟩, t⟩ = 0 → W = firstE (loadE a) (l.drop (j + 1)) := fun h => hP.trans (firstE_ok h)
    repeat' (first | (refine Exists.intro _ (And.intro hix ?_); cbv) | (split <;> cbv))
    all_goals first | refine leaf h (congrArg I (hR _ ?_ ?_)) rfl | refine hB _ _ hk1 (hN ?_) ⟨rfl, rfl, rfl, congrArg I (hadd _ hk1 (by omega)), trivial⟩ (.inl rfl)
    all_goals clear hadd hlt hix hv hN hP hR
    all_goals
      subst hA hS
      clear hxs
      simp only [std, stS, iLt, iLe, iEq, iNe, iLen, wiS, ouS, bne_iff_ne, ne_eq, beq_iff_eq, Bool.and_eq_true, Bool.or_eq_true, Bool.or_eq_false_iff, Bool.and_eq_false_iff, decide_eq_true_eq, decide_eq_false_iff_not, bne_eq_false_iff_eq, beq_eq_false_iff_ne, Bool.not_eq_true', Bool.not_eq_false'] at *
      try simp only [loadE]
      repeat' split
      all_goals omega
  · rename_i hk1
    have hk1 : ¬ j < l.length := by have := hlt.symm.trans hk1; simpa using this
    refine leaf h (congrArg I ?_) rfl
    rw [hP, List.drop_eq_nil_of_le (by omega)]; rfl
theorem p86 (l : List Load) (a : Int) (hl : l.length ≤ 9223372036854775807) (ha : 0 ≤ a ∧ a < 46116860184273879) (H : AHeap) {Kk : AV → AHeap → Prop} (h : Kk (I (loadsS a l)) H) : ACalls Try.prog 86 [.vs 4 (l.map ldV), I a] H Kk := by
  refine pureC (by rfl) (by rfl) (fun Kk h => ?_) H h
  obtain ⟨xs, hxs⟩ : ∃ xs, xs = l.map ldV := ⟨_, rfl⟩
  rw [← hxs]
  obtain ⟨A, hA⟩ : ∃ A, A = std := ⟨_, rfl⟩
  obtain ⟨S, hS⟩ : ∃ S, S = stS := ⟨_, rfl⟩
  obtain ⟨W, hW⟩ : ∃ W, W = loadsS a l := ⟨_, rfl⟩
  rw [← hW] at h
  have hv : A.vlen xs = iLen l.length := by subst hA; simp [std, hxs]
  have hm : A.sub .i64 (A.mul .i64 100 a) 1 = 100 * a - 1 := by subst hA; simp only [std]; rw [iMul_id (by omega) (by omega), iSub_id (by omega) (by omega)]
  refine go86 rfl (SGo_run hA ⟨[], [], tb2 S, []⟩ (tb2_ok hS) .nil 200 fun T TD hT hTD => ?_)
  cbv
  split <;> cbv
  · refine leaf h (congrArg I ?_) rfl
    rename_i hr; have hr : A.lt 30 (A.vlen xs) = true := hr
    rw [hv] at hr
    subst hA hW
    simp only [std, stS, iLt, iLe, iEq, iNe, iLen, wiS, ouS, bne_iff_ne, ne_eq, beq_iff_eq, Bool.and_eq_true, Bool.or_eq_true, Bool.or_eq_false_iff, Bool.and_eq_false_iff, decide_eq_true_eq, decide_eq_false_iff_not, bne_eq_false_iff_eq, beq_eq_false_iff_ne, Bool.not_eq_true', Bool.not_eq_false'] at *
    simp only [loadsS]; rw [if_pos (by omega)]
  rename_i hr; have hr : A.lt 30 (A.vlen xs) = false := hr
  have hW : W = firstE (loadE a) l := by
    rw [hv] at hr
    subst hA hW
    simp only [std, stS, iLt, iLe, iEq, iNe, iLen, wiS, ouS, bne_iff_ne, ne_eq, beq_iff_eq, Bool.and_eq_true, Bool.or_eq_true, Bool.or_eq_false_iff, Bool.and_eq_false_iff, decide_eq_true_eq, decide_eq_false_iff_not, bne_eq_false_iff_eq, beq_eq_false_iff_ne, Bool.not_eq_true', Bool.not_eq_false'] at *
    simp only [loadsS]; rw [if_neg (by omega)]
  clear hr
  rw [hT]
  refine AGo_up l.length (fun j => W = firstE (loadE a) (l.drop j)) (fun _ i => [(0, .vs 4 xs), (1, I a), (4, I 0), (11, .vs 4 xs), (12, I (A.vlen xs)), (13, I i)]) (fun _ => []) hW ⟨rfl, rfl, rfl, rfl, rfl, rfl, trivial⟩ (.inl rfl) fun j i hi hj hP Bk hB => ?_
  have hlt : A.lt i (A.vlen xs) = decide (j < l.length) := by subst hA; exact lt_len (by simp [hxs]) hi
  have hadd : ∀ N, j < N → N ≤ 9223372036854775807 → A.add .i64 i 1 = iLen (j + 1) := fun N hj hN => by subst hA; exact add_one hi hj hN
  refine SGo_run hA ⟨[], [], tb2 S, []⟩ (tb2_ok hS) .nil 200 fun T TD hT hTD => ?_
  cbv
  split <;> cbv
  · rename_i hk1
    have hk1 : j < l.length := by have := hlt.symm.trans hk1; simpa using this
    obtain ⟨⟨x, ⟨y, z⟩, t⟩, hx⟩ : ∃ x, l[j]? = some x := ⟨_, List.getElem?_eq_getElem hk1⟩
    have hix : A.ix 4 4 xs i [I x, I y, I z, I t] := by subst hA; exact ix_map hxs hi hx rfl
    rw [drop_cons hx] at hP
    have hR : ∀ c, c ≠ 0 → (loadE a) ⟨x, ⟨y, z⟩, t⟩ = c → W = c := fun c hc h => hP.trans (firstE_err h hc)
    have hN : (loadE a) ⟨x, ⟨y, z⟩, t⟩ = 0 → W = firstE (loadE a) (l.drop (j + 1)) := fun h => hP.trans (firstE_ok h)
    repeat' (first | (refine Exists.intro _ (And.intro hix ?_); cbv) | (split <;> cbv))
    all_goals first | refine leaf h (congrArg I (hR _ ?_ ?_)) rfl | refine hB _ _ hk1 (hN ?_) ⟨rfl, rfl, rfl, rfl, rfl, congrArg I (hadd _ hk1 (by omega)), trivial⟩ (.inr ⟨⟨_, rfl⟩, Nat.le_refl _, by simp [ltG, AV.lt], trivial⟩)
    all_goals clear hadd hlt hix hv hN hP hR
    all_goals
      subst hA hS
      clear hxs
      simp only [std, stS, iLt, iLe, iEq, iNe, iLen, wiS, ouS, bne_iff_ne, ne_eq, beq_iff_eq, Bool.and_eq_true, Bool.or_eq_true, Bool.or_eq_false_iff, Bool.and_eq_false_iff, decide_eq_true_eq, decide_eq_false_iff_not, bne_eq_false_iff_eq, beq_eq_false_iff_ne, Bool.not_eq_true', Bool.not_eq_false'] at *
      try simp only [loadE]
      repeat' split
      all_goals omega
  · rename_i hk1
    have hk1 : ¬ j < l.length := by have := hlt.symm.trans hk1; simpa using this
    refine leaf h (congrArg I ?_) rfl
    rw [hP, List.drop_eq_nil_of_le (by omega)]; rfl
end Go.Sas
namespace Go.Sas
open Go.Proofs
set_option maxRecDepth 100000
theorem lastF_take {l : List (Int × Int)} {n : Int} {o x : Int × Int} {j : Nat} (hx : l[j]? = some x) : (l.take (j + 1)).foldl (lastF n) o = lastF n ((l.take j).foldl (lastF n) o) x := by
  rw [List.take_add_one, hx]; simp
theorem p130 (l : List (Int × Int)) (n : Int) (h0 : l ≠ []) (hl : l.length ≤ 9223372036854775807) (H : AHeap) {Kk : AV → AHeap → Prop} (h : Kk (I (partS l n)) H) : ACalls Try.prog 130 [.vs 2 (l.map sp), I n] H Kk := by
  obtain ⟨⟨x0, y0⟩, hx0⟩ : ∃ x, l[0]? = some x := by cases l with | nil => exact absurd rfl h0 | cons x l' => exact ⟨x, rfl⟩
  have hd : l.headD (0, 0) = (x0, y0) := by cases l with | nil => cases hx0 | cons x l' => simpa using hx0
  refine pureC (by rfl) (by rfl) (fun Kk h => ?_) H h
  obtain ⟨xs, hxs⟩ : ∃ xs, xs = l.map sp := ⟨_, rfl⟩
  rw [← hxs]
  obtain ⟨A, hA⟩ : ∃ A, A = std := ⟨_, rfl⟩
  obtain ⟨S, hS⟩ : ∃ S, S = stS := ⟨_, rfl⟩
  obtain ⟨W, hW⟩ : ∃ W, W = partS l n := ⟨_, rfl⟩
  rw [← hW] at h
  have hv : A.vlen xs = iLen l.length := by subst hA; simp [std, hxs]
  have hi0 : A.ix 2 2 xs 0 [I x0, I y0] := by subst hA; exact ix_map (j := 0) hxs rfl hx0 rfl
  refine go130 rfl (SGo_run hA ⟨[], [], [], []⟩ .nil .nil 200 fun T TD hT hTD => ?_)
  cbv
  refine ⟨_, hi0, ?_⟩
  cbv
  rw [hT]
  refine AGo_upS l.length (fun j (o : Int) => o = ((l.take j).foldl (lastF n) (x0, y0)).2) (fun _ o i => [(0, .vs 2 xs), (1, I n), (4, I 0), (5, I o), (6, I i)]) (fun _ _ => []) y0 rfl ⟨rfl, rfl, rfl, rfl, rfl, trivial⟩ (.inl rfl) fun j o i hi hj hP Bk hB => ?_
  have hlt : A.lt i (A.vlen xs) = decide (j < l.length) := by subst hA; exact lt_len (by simp [hxs]) hi
  have hadd : ∀ N, j < N → N ≤ 9223372036854775807 → A.add .i64 i 1 = iLen (j + 1) := fun N hj hN => by subst hA; exact add_one hi hj hN
  refine SGo_run hA ⟨[], [], [], []⟩ .nil .nil 200 fun T TD hT hTD => ?_
  cbv
  split <;> cbv
  · rename_i hk1
    have hk1 : j < l.length := by have := hlt.symm.trans hk1; simpa using this
    obtain ⟨⟨x, y⟩, hx⟩ : ∃ x, l[j]? = some x := ⟨_, List.getElem?_eq_getElem hk1⟩
    have hix : A.ix 2 2 xs i [I x, I y] := by subst hA; exact ix_map hxs hi hx rfl
    repeat' (first | (refine Exists.intro _ (And.intro hix ?_); cbv) | (split <;> cbv))
    · rename_i hq
      have hq : x ≤ n := by have hq : A.le x n = true := hq; subst hA; simpa [std, iLe] using hq
      exact hB y _ _ hk1 (by rw [lastF_take hx]; simp [lastF, hq]) ⟨rfl, rfl, rfl, rfl, congrArg I (hadd _ hk1 (by omega)), trivial⟩ (.inl rfl)
    · rename_i hq
      have hq : ¬ x ≤ n := by have hq : A.le x n = false := hq; subst hA; simpa [std, iLe] using hq
      exact hB o _ _ hk1 (by rw [lastF_take hx]; simp only [lastF]; rw [if_neg (by simpa using hq)]; exact hP) ⟨rfl, rfl, rfl, rfl, congrArg I (hadd _ hk1 (by omega)), trivial⟩ (.inl rfl)
  · rename_i hk1
    have hk1 : ¬ j < l.length := by have := hlt.symm.trans hk1; simpa using this
    refine leaf h (congrArg I ?_) rfl
    rw [hP, hW, partS, lastS, hd, List.take_of_length_le (by omega)]
theorem p140 (a b : Int) (H : AHeap) {Kk : AV → AHeap → Prop} (h : Kk (I a) H) : ACalls Try.prog 140 [.agg [I a, I b]] H Kk := by
  refine pureC (by rfl) (by rfl) (fun Kk h => ?_) H h
  obtain ⟨A, hA⟩ : ∃ A, A = std := ⟨_, rfl⟩
  refine go140 rfl (SGo_run hA ⟨[], [], [], []⟩ .nil .nil 200 fun T TD hT hTD => ?_)
  cbv
  exact h
def eFrom : List AV → Option ((AV → Prop) → Prop)
  | [.agg [.lit (.int .i64 a), .lit (.int .i64 _)]] => some fun K => K (I a)
  | _ => none
theorem eFrom_ok : ∀ args pt, eFrom args = some pt → ∀ (H : AHeap) (Kk : AV → AHeap → Prop), pt (fun r => Kk r H) → ACalls Try.prog 140 args H Kk := by
  intro args pt h H Kk hk
  unfold eFrom at h
  split at h
  · cases h; exact p140 _ _ H hk
  · cases h
theorem p139 (l : List (Int × Int)) (n : Int) (h0 : l ≠ []) (hl : l.length ≤ 9223372036854775807) (H : AHeap) {Kk : AV → AHeap → Prop} (h : Kk (.agg [I (lastS l n).1, I (lastS l n).2]) H) : ACalls Try.prog 139 [.vs 2 (l.map sp), I n, .fn 140 []] H Kk := by
  obtain ⟨⟨x0, y0⟩, hx0⟩ : ∃ x, l[0]? = some x := by cases l with | nil => exact absurd rfl h0 | cons x l' => exact ⟨x, rfl⟩
  have hd : l.headD (0, 0) = (x0, y0) := by cases l with | nil => cases hx0 | cons x l' => simpa using hx0
  refine pureC (by rfl) (by rfl) (fun Kk h => ?_) H h
  obtain ⟨xs, hxs⟩ : ∃ xs, xs = l.map sp := ⟨_, rfl⟩
  rw [← hxs]
  obtain ⟨A, hA⟩ : ∃ A, A = std := ⟨_, rfl⟩
  have hv : A.vlen xs = iLen l.length := by subst hA; simp [std, hxs]
  have hi0 : A.ix 2 2 xs 0 [I x0, I y0] := by subst hA; exact ix_map (j := 0) hxs rfl hx0 rfl
  refine go139 rfl (SGo_run hA ⟨[], [], [(140, eFrom)], []⟩ (.cons eFrom_ok .nil) .nil 200 fun T TD hT hTD => ?_)
  cbv
  refine ⟨_, hi0, ?_⟩
  cbv
  rw [hT]
  refine AGo_upS l.length (fun j (o : Int × Int) => o = (l.take j).foldl (lastF n) (x0, y0)) (fun _ o i => [(0, .vs 2 xs), (1, I n), (2, .fn 140 []), (6, .mp 0 0 0), (7, .mp 1 0 0), (13, .vs 2 xs), (14, I (A.vlen xs)), (15, I i)]) (fun _ o => [.own 0 [I 0, I 0], .own 0 [I o.1, I o.2]]) (x0, y0) rfl ⟨rfl, rfl, rfl, rfl, rfl, rfl, rfl, rfl, trivial⟩ (.inl rfl) fun j o i hi hj hP Bk hB => ?_
  obtain ⟨o1, o2⟩ := o
  have hlt : A.lt i (A.vlen xs) = decide (j < l.length) := by subst hA; exact lt_len (by simp [hxs]) hi
  have hadd : ∀ N, j < N → N ≤ 9223372036854775807 → A.add .i64 i 1 = iLen (j + 1) := fun N hj hN => by subst hA; exact add_one hi hj hN
  refine SGo_run hA ⟨[], [], [(140, eFrom)], []⟩ (.cons eFrom_ok .nil) .nil 200 fun T TD hT hTD => ?_
  cbv
  split <;> cbv
  · rename_i hk1
    have hk1 : j < l.length := by have := hlt.symm.trans hk1; simpa using this
    obtain ⟨⟨x, y⟩, hx⟩ : ∃ x, l[j]? = some x := ⟨_, List.getElem?_eq_getElem hk1⟩
    have hix : A.ix 2 2 xs i [I x, I y] := by subst hA; exact ix_map hxs hi hx rfl
    repeat' (first | (refine Exists.intro _ (And.intro hix ?_); cbv) | (split <;> cbv))
    · rename_i hq
      have hq : x ≤ n := by have hq : A.le x n = true := hq; subst hA; simpa [std, iLe] using hq
      exact hB (x, y) _ _ hk1 (by rw [lastF_take hx]; simp [lastF, hq]) ⟨rfl, rfl, rfl, rfl, rfl, rfl, rfl, congrArg I (hadd _ hk1 (by omega)), trivial⟩ (.inr ⟨⟨_, rfl⟩, Nat.zero_le _, by simp [ltG, AV.lt, AV.ltL], by simp [ltH, AObj.lt, AV.ltL, AV.lt]⟩)
    · rename_i hq
      have hq : ¬ x ≤ n := by have hq : A.le x n = false := hq; subst hA; simpa [std, iLe] using hq
      exact hB (o1, o2) _ _ hk1 (by rw [lastF_take hx]; simp only [lastF]; rw [if_neg (by simpa using hq)]; exact hP) ⟨rfl, rfl, rfl, rfl, rfl, rfl, rfl, congrArg I (hadd _ hk1 (by omega)), trivial⟩ (.inr ⟨⟨_, rfl⟩, Nat.zero_le _, by simp [ltG, AV.lt, AV.ltL], by simp [ltH, AObj.lt, AV.ltL, AV.lt]⟩)
  · rename_i hk1
    have hk1 : ¬ j < l.length := by have := hlt.symm.trans hk1; simpa using this
    have : (o1, o2) = lastS l n := by rw [hP, lastS, hd, List.take_of_length_le (by omega)]
    rw [← this] at h
    exact h
def eLast (S : Sp) : List AV → Option ((AV → Prop) → Prop)
  | [x, .lit (.int .i64 n), .fn 140 []] => match asVs 2 x with
    | some xs => some fun K => ∃ l, xs = l.map sp ∧ l ≠ [] ∧ l.length ≤ 9223372036854775807 ∧ ∀ q, K (.agg [I q, I (S.part l n)])
    | none => none
  | _ => none
theorem eLast_ok {S : Sp} (hS : S = stS) : ∀ args pt, eLast S args = some pt → ∀ (H : AHeap) (Kk : AV → AHeap → Prop), pt (fun r => Kk r H) → ACalls Try.prog 139 args H Kk := by
  intro args pt h H Kk hk
  subst hS
  unfold eLast at h
  split at h
  · split at h
    · rename_i ys hy
      cases h
      obtain ⟨l, h1, h2, h3, h4⟩ := hk
      subst h1
      exact (p139 _ _ h2 h3 H (h4 _)).wk ⟨asVs_wk hy, Wk.rfl, Wk.rfl, trivial⟩
    · cases h
  · cases h
theorem p110 (l : List (Int × Int)) (n : Int) (h0 : l ≠ []) (hl : l.length ≤ 9223372036854775807) (H : AHeap) {Kk : AV → AHeap → Prop} (h : Kk (I (partS l n)) H) : ACalls Try.prog 110 [.vs 2 (l.map sp), I n] H Kk := by
  refine pureC (by rfl) (by rfl) (fun Kk h => ?_) H h
  obtain ⟨xs, hxs⟩ : ∃ xs, xs = l.map sp := ⟨_, rfl⟩
  rw [← hxs]
  obtain ⟨A, hA⟩ : ∃ A, A = std := ⟨_, rfl⟩
  obtain ⟨S, hS⟩ : ∃ S, S = stS := ⟨_, rfl⟩
  obtain ⟨W, hW⟩ : ∃ W, W = partS l n := ⟨_, rfl⟩
  rw [← hW] at h
  have hv : A.vlen xs = iLen l.length := by subst hA; simp [std, hxs]
  refine go110 rfl (SGo_run hA ⟨[], [], [(139, eLast S)], []⟩ (.cons (eLast_ok hS) .nil) .nil 200 fun T TD hT hTD => ?_)
  cbv
  refine ⟨l, hxs, h0, hl, fun q => ?_⟩
  cbv
  refine leaf h (congrArg I ?_) rfl
  subst hS; exact hW
end Go.Sas
namespace Go.Sas
open Go.Proofs
set_option maxRecDepth 100000
theorem eCheck_ok {f : Nat} (hf : ∀ (p : Plate) {a b : Int} {xs ec : List AV} {ne ed gr lo hi sh wi : Int}, PlateIs p a b xs ec ne ed gr lo hi sh wi → p.shares.length ≤ 9223372036854775807 → p.creep.length ≤ 9223372036854775807 → ∀ (H : AHeap) {Kk : AV → AHeap → Prop}, Kk (I (checkS p)) H →
    ACalls Try.prog f [plV a b (.vs 2 xs) (.vs 2 ec) ne ed gr lo hi sh wi] H Kk) {S : Sp} (hS : S = stS) : ∀ args pt, eCheck S args = some pt → ∀ (H : AHeap) (Kk : AV → AHeap → Prop), pt (fun r => Kk r H) → ACalls Try.prog f args H Kk := by
  intro args pt h H Kk hk
  subst hS
  unfold eCheck at h
  split at h
  · split at h
    · rename_i xs ec h1 h2
      cases h
      obtain ⟨p, g1, g2, g3, g4⟩ := hk
      exact (hf p g1 g2 g3 H g4).wk ⟨Wk.agg ⟨Wk.rfl, Wk.rfl, asVs_wk h1, asVs_wk h2, Wk.rfl, Wk.rfl, Wk.rfl, Wk.rfl, Wk.rfl, Wk.rfl, Wk.rfl, trivial⟩, trivial⟩
    · cases h
  · cases h
theorem eFaults_ok {f : Nat} (hf : ∀ (l : List (Int × Int)) (a b : Int), l.length ≤ 9223372036854775807 → ∀ (H : AHeap) {Kk : AV → AHeap → Prop}, Kk (I (faultsS l a b)) H → ACalls Try.prog f [.vs 2 (l.map sp), I a, I b] H Kk) {S : Sp} (hS : S = stS) :
    ∀ args pt, eFaults S args = some pt → ∀ (H : AHeap) (Kk : AV → AHeap → Prop), pt (fun r => Kk r H) → ACalls Try.prog f args H Kk := by
  intro args pt h H Kk hk
  subst hS
  unfold eFaults at h
  split at h
  · split at h
    · rename_i ys hy
      cases h
      obtain ⟨l, h1, h2, h3⟩ := hk
      subst h1
      exact (hf l _ _ h2 H h3).wk ⟨asVs_wk hy, Wk.rfl, Wk.rfl, trivial⟩
    · cases h
  · cases h
theorem eLoads1_ok {f : Nat} (hf : ∀ (l : List Load) (a : Int), l.length ≤ 9223372036854775807 → 0 ≤ a ∧ a < 46116860184273879 → ∀ (H : AHeap) {Kk : AV → AHeap → Prop}, Kk (I (loadsS a l)) H → ACalls Try.prog f [.vs 4 (l.map ldV), I a] H Kk) {S : Sp} (hS : S = stS) :
    ∀ args pt, eLoads1 S args = some pt → ∀ (H : AHeap) (Kk : AV → AHeap → Prop), pt (fun r => Kk r H) → ACalls Try.prog f args H Kk := by
  intro args pt h H Kk hk
  subst hS
  unfold eLoads1 at h
  split at h
  · split at h
    · rename_i ys hy
      cases h
      obtain ⟨l, h1, h2, h3, h4⟩ := hk
      subst h1
      exact (hf l _ h2 h3 H h4).wk ⟨asVs_wk hy, Wk.rfl, trivial⟩
    · cases h
  · cases h
theorem eLoads2_ok {f : Nat} (hf : ∀ (l : List Load) (a : Int), l.length ≤ 9223372036854775807 → 0 ≤ a ∧ a < 46116860184273879 → ∀ (H : AHeap) {Kk : AV → AHeap → Prop}, Kk (I (loadsS a l)) H → ACalls Try.prog f [I a, .vs 4 (l.map ldV)] H Kk) {S : Sp} (hS : S = stS) :
    ∀ args pt, eLoads2 S args = some pt → ∀ (H : AHeap) (Kk : AV → AHeap → Prop), pt (fun r => Kk r H) → ACalls Try.prog f args H Kk := by
  intro args pt h H Kk hk
  subst hS
  unfold eLoads2 at h
  split at h
  · split at h
    · rename_i ys hy
      cases h
      obtain ⟨l, h1, h2, h3, h4⟩ := hk
      subst h1
      exact (hf l _ h2 h3 H h4).wk ⟨Wk.rfl, asVs_wk hy, trivial⟩
    · cases h
  · cases h
theorem ePart_ok {f : Nat} (hf : ∀ (l : List (Int × Int)) (n : Int), l ≠ [] → l.length ≤ 9223372036854775807 → ∀ (H : AHeap) {Kk : AV → AHeap → Prop}, Kk (I (partS l n)) H → ACalls Try.prog f [.vs 2 (l.map sp), I n] H Kk) {S : Sp} (hS : S = stS) :
    ∀ args pt, ePart S args = some pt → ∀ (H : AHeap) (Kk : AV → AHeap → Prop), pt (fun r => Kk r H) → ACalls Try.prog f args H Kk := by
  intro args pt h H Kk hk
  subst hS
  unfold ePart at h
  split at h
  · split at h
    · rename_i ys hy
      cases h
      obtain ⟨l, h1, h2, h3, h4⟩ := hk
      subst h1
      exact (hf l _ h2 h3 H h4).wk ⟨asVs_wk hy, Wk.rfl, trivial⟩
    · cases h
  · cases h
def tb3 (S : Sp) : PTab := (59, eCheck S) :: (60, eCheck S) :: (108, eFaults S) :: (112, eFaults S) :: (86, eLoads1 S) :: (89, eLoads2 S) :: (110, ePart S) :: (130, ePart S) :: tb2 S
theorem tb3_ok {S : Sp} (hS : S = stS) : PTabOk Try.prog (tb3 S) := .cons (eCheck_ok p59 hS) (.cons (eCheck_ok p60 hS) (.cons (eFaults_ok p108 hS) (.cons (eFaults_ok p112 hS) (.cons (eLoads1_ok p86 hS) (.cons (eLoads2_ok p89 hS) (.cons (ePart_ok p110 hS) (.cons (ePart_ok p130 hS) (tb2_ok hS))))))))
theorem p85 (p : Plate) {a b : Int} {xs ec : List AV} {ne ed gr lo hi sh wi : Int} (hp : PlateIs p a b xs ec ne ed gr lo hi sh wi) (h1 : p.shares.length ≤ 9223372036854775807) (h2 : p.creep.length ≤ 9223372036854775807) (ice cr : List (Int × Int)) (h3 : ice.length ≤ 9223372036854775807) (h4 : cr.length ≤ 9223372036854775807) (H : AHeap) {Kk : AV → AHeap → Prop} (h : Kk (I (checkAllS p ice cr)) H) :
    ACalls Try.prog 85 [plV a b (.vs 2 xs) (.vs 2 ec) ne ed gr lo hi sh wi, .vs 2 (ice.map sp), .vs 2 (cr.map sp)] H Kk := by
  refine pureC (by rfl) (by rfl) (fun Kk h => ?_) H h
  obtain ⟨xi, hxi⟩ : ∃ xi, xi = ice.map sp := ⟨_, rfl⟩
  obtain ⟨xc, hxc⟩ : ∃ xc, xc = cr.map sp := ⟨_, rfl⟩
  rw [← hxi, ← hxc]
  obtain ⟨A, hA⟩ : ∃ A, A = std := ⟨_, rfl⟩
  obtain ⟨S, hS⟩ : ∃ S, S = stS := ⟨_, rfl⟩
  obtain ⟨W, hW⟩ : ∃ W, W = checkAllS p ice cr := ⟨_, rfl⟩
  rw [← hW] at h
  refine go85 rfl (SGo_run hA ⟨[], [], tb3 S, []⟩ (tb3_ok hS) .nil 200 fun T TD hT hTD => ?_)
  clear hT hTD
  cbv
  repeat' (first | (refine ⟨p, hp, h1, h2, ?_⟩; cbv) | (refine ⟨ice, hxi, h3, ?_⟩; cbv) | (refine ⟨cr, hxc, h4, ?_⟩; cbv) | (split <;> cbv))
  all_goals
    refine leaf h (congrArg I ?_) rfl
    clear h
    subst hA hS hW
    clear hp
    simp only [std, stS, iLt, iLe, iEq, iNe, iLen, wiS, ouS, bne_iff_ne, ne_eq, beq_iff_eq, Bool.and_eq_true, Bool.or_eq_true, Bool.or_eq_false_iff, Bool.and_eq_false_iff, decide_eq_true_eq, decide_eq_false_iff_not, bne_eq_false_iff_eq, beq_eq_false_iff_ne, Bool.not_eq_true', Bool.not_eq_false'] at *
    simp only [checkAllS]
    repeat' split
    all_goals first | omega | rfl
theorem p88 (p : Plate) {a b : Int} {xs ec : List AV} {ne ed gr lo hi sh wi : Int} (hp : PlateIs p a b xs ec ne ed gr lo hi sh wi) (h1 : p.shares.length ≤ 9223372036854775807) (h2 : p.creep.length ≤ 9223372036854775807) (ice cr : List (Int × Int)) (h3 : ice.length ≤ 9223372036854775807) (h4 : cr.length ≤ 9223372036854775807) (H : AHeap) {Kk : AV → AHeap → Prop} (h : Kk (I (checkAllS p ice cr)) H) :
    ACalls Try.prog 88 [plV a b (.vs 2 xs) (.vs 2 ec) ne ed gr lo hi sh wi, .vs 2 (ice.map sp), .vs 2 (cr.map sp)] H Kk := by
  refine pureC (by rfl) (by rfl) (fun Kk h => ?_) H h
  obtain ⟨xi, hxi⟩ : ∃ xi, xi = ice.map sp := ⟨_, rfl⟩
  obtain ⟨xc, hxc⟩ : ∃ xc, xc = cr.map sp := ⟨_, rfl⟩
  rw [← hxi, ← hxc]
  obtain ⟨A, hA⟩ : ∃ A, A = std := ⟨_, rfl⟩
  obtain ⟨S, hS⟩ : ∃ S, S = stS := ⟨_, rfl⟩
  obtain ⟨W, hW⟩ : ∃ W, W = checkAllS p ice cr := ⟨_, rfl⟩
  rw [← hW] at h
  refine go88 rfl (SGo_run hA ⟨[], [], tb3 S, []⟩ (tb3_ok hS) .nil 200 fun T TD hT hTD => ?_)
  clear hT hTD
  cbv
  repeat' (first | (refine ⟨p, hp, h1, h2, ?_⟩; cbv) | (refine ⟨ice, hxi, h3, ?_⟩; cbv) | (refine ⟨cr, hxc, h4, ?_⟩; cbv) | (split <;> cbv))
  all_goals
    refine leaf h (congrArg I ?_) rfl
    clear h
    subst hA hS hW
    clear hp
    simp only [std, stS, iLt, iLe, iEq, iNe, iLen, wiS, ouS, bne_iff_ne, ne_eq, beq_iff_eq, Bool.and_eq_true, Bool.or_eq_true, Bool.or_eq_false_iff, Bool.and_eq_false_iff, decide_eq_true_eq, decide_eq_false_iff_not, bne_eq_false_iff_eq, beq_eq_false_iff_ne, Bool.not_eq_true', Bool.not_eq_false'] at *
    simp only [checkAllS]
    repeat' split
    all_goals first | omega | rfl
theorem p141 (w : Bool) (a b : Int) (H : AHeap) {Kk : AV → AHeap → Prop} (h : Kk (I (strS w (a, b))) H) : ACalls Try.prog 141 [.agg [B w], .agg [I a, I b]] H Kk := by
  refine pureC (by rfl) (by rfl) (fun Kk h => ?_) H h
  obtain ⟨A, hA⟩ : ∃ A, A = std := ⟨_, rfl⟩
  refine go141 rfl (SGo_run hA ⟨[], [], [], []⟩ .nil .nil 200 fun T TD hT hTD => ?_)
  cases w
  all_goals
    cbv
    exact h
theorem p155 (w : Bool) (a b : Int) (H : AHeap) {Kk : AV → AHeap → Prop} (h : Kk (I (hevS w (a, b))) H) : ACalls Try.prog 155 [.agg [B w], .agg [I a, I b]] H Kk := by
  refine pureC (by rfl) (by rfl) (fun Kk h => ?_) H h
  obtain ⟨A, hA⟩ : ∃ A, A = std := ⟨_, rfl⟩
  refine go155 rfl (SGo_run hA ⟨[], [], [], []⟩ .nil .nil 200 fun T TD hT hTD => ?_)
  cases w
  all_goals
    cbv
    exact h
theorem p164 (w : Bool) (a b m n : Int) (hs : Sm a ∧ Sm b ∧ Sm m ∧ Sm n) (H : AHeap) {Kk : AV → AHeap → Prop} (h : Kk (B (nearS w (a, b) m n)) H) : ACalls Try.prog 164 [.agg [B w], .agg [I a, I b], I m, I n] H Kk := by
  cases w
  all_goals
    refine pureC (by rfl) (by rfl) (fun Kk h => ?_) H h
    obtain ⟨A, hA⟩ : ∃ A, A = std := ⟨_, rfl⟩
    generalize hW : nearS _ (a, b) m n = W at h
    refine go164 rfl (SGo_run hA ⟨[], [], [], []⟩ .nil .nil 200 fun T TD hT hTD => ?_)
    clear hT hTD
    cbv
    split <;> cbv
    all_goals
      refine leaf h (congrArg B (Bool.eq_iff_iff.2 ?_)) rfl
      subst hA hW
      unfold Sm at hs
      simp only [std, stS, iLt, iLe, iEq, iNe, iLen, wiS, ouS, bne_iff_ne, ne_eq, beq_iff_eq, Bool.and_eq_true, Bool.or_eq_true, Bool.or_eq_false_iff, Bool.and_eq_false_iff, decide_eq_true_eq, decide_eq_false_iff_not, bne_eq_false_iff_eq, beq_eq_false_iff_ne, Bool.not_eq_true', Bool.not_eq_false'] at *
      simp (disch := omega) only [iSub_id, iAdd_id] at *
      simp [nearS]
      try omega
theorem p142 (a b : Int) (H : AHeap) {Kk : AV → AHeap → Prop} (hs : Sm a ∧ Sm b) (h : Kk (I (farS a b)) H) : ACalls Try.prog 142 [I a, I b] H Kk := by
  refine pureC (by rfl) (by rfl) (fun Kk h => ?_) H h
  obtain ⟨A, hA⟩ : ∃ A, A = std := ⟨_, rfl⟩
  obtain ⟨W, hW⟩ : ∃ W, W = farS a b := ⟨_, rfl⟩
  rw [← hW] at h
  refine go142 rfl (SGo_run hA ⟨[], [], [], []⟩ .nil .nil 200 fun T TD hT hTD => ?_)
  clear hT hTD
  cbv
  refine leaf h (congrArg I ?_) rfl
  subst hA hW
  unfold Sm at hs
  simp (disch := omega) only [std, iSub_id, farS]
end Go.Sas
namespace Go.Sas
open Go.Proofs
set_option maxRecDepth 100000
theorem eStr_ok {S : Sp2} (hS : S = st2) : ∀ args pt, eStr S args = some pt → ∀ (H : AHeap) (Kk : AV → AHeap → Prop), pt (fun r => Kk r H) → ACalls Try.prog 141 args H Kk := by
  intro args pt h H Kk hk
  subst hS
  unfold eStr at h
  split at h
  · cases h; exact p141 _ _ _ H hk
  · cases h
theorem eHev_ok {S : Sp2} (hS : S = st2) : ∀ args pt, eHev S args = some pt → ∀ (H : AHeap) (Kk : AV → AHeap → Prop), pt (fun r => Kk r H) → ACalls Try.prog 155 args H Kk := by
  intro args pt h H Kk hk
  subst hS
  unfold eHev at h
  split at h
  · cases h; exact p155 _ _ _ H hk
  · cases h
theorem eNear_ok {S : Sp2} (hS : S = st2) : ∀ args pt, eNear S args = some pt → ∀ (H : AHeap) (Kk : AV → AHeap → Prop), pt (fun r => Kk r H) → ACalls Try.prog 164 args H Kk := by
  intro args pt h H Kk hk
  subst hS
  unfold eNear at h
  split at h
  · cases h; obtain ⟨_, h1, h2⟩ := hk; exact p164 _ _ _ _ _ h1 H h2
  · cases h
theorem eFar_ok {S : Sp2} (hS : S = st2) : ∀ args pt, eFar S args = some pt → ∀ (H : AHeap) (Kk : AV → AHeap → Prop), pt (fun r => Kk r H) → ACalls Try.prog 142 args H Kk := by
  intro args pt h H Kk hk
  subst hS
  unfold eFar at h
  split at h
  · cases h; obtain ⟨_, h1, h2⟩ := hk; exact p142 _ _ H h1 h2
  · cases h
def tb4 (S : Sp) (S2 : Sp2) : PTab := (141, eStr S2) :: (155, eHev S2) :: (164, eNear S2) :: (142, eFar S2) :: tb3 S
theorem tb4_ok {S : Sp} (hS : S = stS) {S2 : Sp2} (hS2 : S2 = st2) : PTabOk Try.prog (tb4 S S2) := .cons (eStr_ok hS2) (.cons (eHev_ok hS2) (.cons (eNear_ok hS2) (.cons (eFar_ok hS2) (tb3_ok hS))))
theorem p111 (w : Bool) (p : Plate) {a b : Int} {xs ec : List AV} {ne ed gr lo hi sh wi : Int} (hp : PlateIs p a b xs ec ne ed gr lo hi sh wi) (hV : PlateV p) (xi xc : List AV) (u t n : Int) (hu : 0 ≤ u ∧ u ≤ 6000000000000) (ht : 0 ≤ t ∧ t ≤ 5000) (H : AHeap) {Kk : AV → AHeap → Prop} (h : Kk (B (enS w p u t n)) H) :
    ACalls Try.prog 111 [scV w a b (.vs 2 xs) (.vs 2 ec) ne ed gr lo hi sh wi (.vs 2 xi) (.vs 2 xc), I u, I t, I n] H Kk := by
  refine pureC (by rfl) (by rfl) (fun Kk h => ?_) H h
  obtain ⟨A, hA⟩ : ∃ A, A = std := ⟨_, rfl⟩
  obtain ⟨S, hS⟩ : ∃ S, S = stS := ⟨_, rfl⟩
  obtain ⟨S2, hS2⟩ : ∃ S, S = st2 := ⟨_, rfl⟩
  generalize hW : enS w p u t n = W at h
  obtain ⟨cl, hcl⟩ : ∃ cl, cl = p.creep := ⟨_, rfl⟩
  have hc : ec = cl.map sp := by rw [hcl]; exact hp.hc
  refine go111 rfl (SGo_run hA ⟨[], [], tb4 S S2, []⟩ (tb4_ok hS hS2) .nil 200 fun T TD hT hTD => ?_)
  clear hT hTD
  cbv
  refine ⟨cl, hc, by rw [hcl]; exact hV.cr.ne, by rw [hcl]; have := hV.cr.len; omega, ?_⟩
  cbv
  refine leaf h (congrArg B ?_) rfl
  subst hA hS hS2
  have hs := strS_bnd (w := w) (x := p.str) ⟨hV.s1, hV.s2, hV.s3⟩
  have hq := hV.cr.part n
  obtain ⟨e1, l1, u1⟩ := mulB ⟨by omega, hs.2⟩ ht (by omega)
  obtain ⟨e2, l2, u2⟩ := mulB ⟨l1, u1⟩ ht (by omega)
  obtain ⟨e3, l3, u3⟩ := mulB ⟨l2, u2⟩ hq (by omega)
  have e4 : iMul .i64 u 1000000 = u * 1000000 := iMul_id (by omega) (by omega)
  rw [hp.str] at e1 e2 e3
  rw [← hcl] at e3
  simp only [std, stS, st2, e1, e2, e3, e4, iLe]
  rw [← hW, enS, hp.str, ← hcl]
theorem p132 (u s t c : Int) (hu : 0 ≤ u ∧ u ≤ 6000000000000) (hs : 0 ≤ s ∧ s ≤ 100000) (ht : 0 ≤ t ∧ t ≤ 5000) (hc : 0 ≤ c ∧ c ≤ 1000000) (H : AHeap) {Kk : AV → AHeap → Prop} (h : Kk (B (borS u s t c)) H) : ACalls Try.prog 132 [I u, I s, I t, I c] H Kk := by
  refine pureC (by rfl) (by rfl) (fun Kk h => ?_) H h
  obtain ⟨A, hA⟩ : ∃ A, A = std := ⟨_, rfl⟩
  generalize hW : borS u s t c = W at h
  refine go132 rfl (SGo_run hA ⟨[], [], [], []⟩ .nil .nil 200 fun T TD hT hTD => ?_)
  clear hT hTD
  cbv
  refine leaf h (congrArg B ?_) rfl
  subst hA
  obtain ⟨e1, l1, u1⟩ := mulB hs ht (by omega)
  obtain ⟨e2, l2, u2⟩ := mulB ⟨l1, u1⟩ ht (by omega)
  obtain ⟨e3, l3, u3⟩ := mulB ⟨l2, u2⟩ hc (by omega)
  have e4 : iMul .i64 u 1000000 = u * 1000000 := iMul_id (by omega) (by omega)
  simp only [std, e1, e2, e3, e4, iLe]
  rw [← hW, borS]
theorem p133 (p : Plate) {a b : Int} {xs ec : List AV} {ne ed gr lo hi sh wi : Int} (hp : PlateIs p a b xs ec ne ed gr lo hi sh wi) (hV : PlateV p) (t : Int) (c : Bool) (ht : 0 ≤ t ∧ t ≤ 5000) (H : AHeap) {Kk : AV → AHeap → Prop} (h : Kk (I (cutS p t c)) H) :
    ACalls Try.prog 133 [plV a b (.vs 2 xs) (.vs 2 ec) ne ed gr lo hi sh wi, I t, B c] H Kk := by
  cases c
  all_goals
    refine pureC (by rfl) (by rfl) (fun Kk h => ?_) H h
    obtain ⟨A, hA⟩ : ∃ A, A = std := ⟨_, rfl⟩
    generalize hW : cutS p t _ = W at h
    refine go133 rfl (SGo_run hA ⟨[], [], [], []⟩ .nil .nil 200 fun T TD hT hTD => ?_)
    clear hT hTD
    cbv
    refine leaf h (congrArg I ?_) rfl
  · rw [← hW]; rfl
  · subst hA
    have he : 0 ≤ ed ∧ ed ≤ 1000000 := by have h1 := hV.e1; have h2 := hV.e2; rw [hp.ed] at h1 h2; exact ⟨h1, h2⟩
    obtain ⟨e1, l1, u1⟩ := mulB ht he (by omega)
    simp only [std, e1]
    rw [iQuo_id l1 (by omega) (by omega), ← hW, ← hp.ed]; rfl
theorem p134 (p : Plate) {a b : Int} {xs ec : List AV} {ne ed gr lo hi sh wi : Int} (hp : PlateIs p a b xs ec ne ed gr lo hi sh wi) (hV : PlateV p) (l : List (Int × Int)) (m : Int) (hl : l.length ≤ 50) (hc : ∀ x ∈ l, 0 ≤ x.1 ∧ x.1 ≤ x.2 ∧ x.2 ≤ 100000) (hm : 0 ≤ m ∧ m ≤ 100000) (H : AHeap) {Kk : AV → AHeap → Prop} (h : Kk (B (anyS true p l m)) H) :
    ACalls Try.prog 134 [plV a b (.vs 2 xs) (.vs 2 ec) ne ed gr lo hi sh wi, .vs 2 (l.map sp), I m] H Kk := by
  have hn : 0 ≤ ne ∧ ne ≤ 10000 := by have h1 := hV.n1; have h2 := hV.n2; rw [hp.ne] at h1 h2; exact ⟨h1, h2⟩
  have hpn := hp.ne
  refine pureC (by rfl) (by rfl) (fun Kk h => ?_) H h
  generalize hW : anyS true p l m = W at h
  obtain ⟨ys, hys⟩ : ∃ ys, ys = l.map sp := ⟨_, rfl⟩
  rw [← hys]
  obtain ⟨A, hA⟩ : ∃ A, A = std := ⟨_, rfl⟩
  obtain ⟨S, hS⟩ : ∃ S, S = stS := ⟨_, rfl⟩
  obtain ⟨S2, hS2⟩ : ∃ S, S = st2 := ⟨_, rfl⟩
  refine go134 rfl (SGo_run hA ⟨[], [], tb4 S S2, []⟩ (tb4_ok hS hS2) .nil 200 fun T TD hT hTD => ?_)
  cbv
  rw [hT]
  refine AGo_up l.length (fun j => W = (l.drop j).any fun c => nearS true c m ne) (fun _ i => [(0, plV a b (.vs 2 xs) (.vs 2 ec) ne ed gr lo hi sh wi), (1, .vs 2 ys), (2, I m), (3, .mp 0 0 0), (6, B false), (7, I i)]) (fun _ => [.own 0 [I a, I b, .vs 2 xs, .vs 2 ec, I ne, I ed, I gr, I lo, I hi, I sh, I wi]]) (by rw [← hW, anyS, hpn]; rfl) ⟨rfl, rfl, rfl, rfl, rfl, rfl, trivial⟩ (.inl rfl) fun j i hi' hj hP Bk hB => ?_
  have hlt : A.lt i (A.vlen ys) = decide (j < l.length) := by subst hA; exact lt_len (by simp [hys]) hi'
  have hadd : ∀ N, j < N → N ≤ 9223372036854775807 → A.add .i64 i 1 = iLen (j + 1) := fun N hj hN => by subst hA; exact add_one hi' hj hN
  refine SGo_run hA ⟨[], [], tb4 S S2, []⟩ (tb4_ok hS hS2) .nil 200 fun T TD hT hTD => ?_
  cbv
  split <;> cbv
  · rename_i hk1
    have hk1 : j < l.length := by have := hlt.symm.trans hk1; simpa using this
    obtain ⟨⟨x, y⟩, hx⟩ : ∃ x, l[j]? = some x := ⟨_, List.getElem?_eq_getElem hk1⟩
    have hix : A.ix 2 2 ys i [I x, I y] := by subst hA; exact ix_map hys hi' hx rfl
    have hb := hc (x, y) (List.mem_of_getElem? hx)
    simp only at hb
    rw [drop_cons hx, List.any_cons] at hP
    repeat' (first | (refine Exists.intro _ (And.intro hix ?_); cbv) | (refine Exists.intro () (And.intro (by unfold Sm; omega) ?_); cbv) | (split <;> cbv))
    all_goals first | refine leaf h (congrArg B ?_) rfl | refine hB _ _ hk1 ?_ ⟨rfl, rfl, rfl, rfl, rfl, congrArg I (hadd _ hk1 (by omega)), trivial⟩ (.inl rfl)
    all_goals clear hadd hlt hix h
    all_goals
      subst hA hS2
      simp only [std, st2, farS, iMax_eq, iLe, decide_eq_true_eq, decide_eq_false_iff_not] at *
      try simp (disch := omega) only [iAdd_id, iSub_id] at *
      rw [hP]
      simp only [nearS]
      try simp
      try omega
  · rename_i hk1
    have hk1 : ¬ j < l.length := by have := hlt.symm.trans hk1; simpa using this
    refine leaf h (congrArg B ?_) rfl
    rw [hP, List.drop_eq_nil_of_le (by omega)]; rfl
theorem p135 (p : Plate) {a b : Int} {xs ec : List AV} {ne ed gr lo hi sh wi : Int} (hp : PlateIs p a b xs ec ne ed gr lo hi sh wi) (hV : PlateV p) (l : List (Int × Int)) (m : Int) (hl : l.length ≤ 50) (hc : ∀ x ∈ l, 0 ≤ x.1 ∧ x.1 ≤ x.2 ∧ x.2 ≤ 100000) (hm : 0 ≤ m ∧ m ≤ 100000) (H : AHeap) {Kk : AV → AHeap → Prop} (h : Kk (B (anyS false p l m)) H) :
    ACalls Try.prog 135 [plV a b (.vs 2 xs) (.vs 2 ec) ne ed gr lo hi sh wi, .vs 2 (l.map sp), I m] H Kk := by
  have hn : 0 ≤ ne ∧ ne ≤ 10000 := by have h1 := hV.n1; have h2 := hV.n2; rw [hp.ne] at h1 h2; exact ⟨h1, h2⟩
  have hpn := hp.ne
  refine pureC (by rfl) (by rfl) (fun Kk h => ?_) H h
  generalize hW : anyS false p l m = W at h
  obtain ⟨ys, hys⟩ : ∃ ys, ys = l.map sp := ⟨_, rfl⟩
  rw [← hys]
  obtain ⟨A, hA⟩ : ∃ A, A = std := ⟨_, rfl⟩
  obtain ⟨S, hS⟩ : ∃ S, S = stS := ⟨_, rfl⟩
  obtain ⟨S2, hS2⟩ : ∃ S, S = st2 := ⟨_, rfl⟩
  refine go135 rfl (SGo_run hA ⟨[], [], tb4 S S2, []⟩ (tb4_ok hS hS2) .nil 200 fun T TD hT hTD => ?_)
  cbv
  rw [hT]
  refine AGo_up l.length (fun j => W = (l.drop j).any fun c => nearS false c m ne) (fun _ i => [(0, plV a b (.vs 2 xs) (.vs 2 ec) ne ed gr lo hi sh wi), (1, .vs 2 ys), (2, I m), (3, .mp 0 0 0), (6, B false), (7, I i)]) (fun _ => [.own 0 [I a, I b, .vs 2 xs, .vs 2 ec, I ne, I ed, I gr, I lo, I hi, I sh, I wi]]) (by rw [← hW, anyS, hpn]; rfl) ⟨rfl, rfl, rfl, rfl, rfl, rfl, trivial⟩ (.inl rfl) fun j i hi' hj hP Bk hB => ?_
  have hlt : A.lt i (A.vlen ys) = decide (j < l.length) := by subst hA; exact lt_len (by simp [hys]) hi'
  have hadd : ∀ N, j < N → N ≤ 9223372036854775807 → A.add .i64 i 1 = iLen (j + 1) := fun N hj hN => by subst hA; exact add_one hi' hj hN
  refine SGo_run hA ⟨[], [], tb4 S S2, []⟩ (tb4_ok hS hS2) .nil 200 fun T TD hT hTD => ?_
  cbv
  split <;> cbv
  · rename_i hk1
    have hk1 : j < l.length := by have := hlt.symm.trans hk1; simpa using this
    obtain ⟨⟨x, y⟩, hx⟩ : ∃ x, l[j]? = some x := ⟨_, List.getElem?_eq_getElem hk1⟩
    have hix : A.ix 2 2 ys i [I x, I y] := by subst hA; exact ix_map hys hi' hx rfl
    have hb := hc (x, y) (List.mem_of_getElem? hx)
    simp only at hb
    rw [drop_cons hx, List.any_cons] at hP
    repeat' (first | (refine Exists.intro _ (And.intro hix ?_); cbv) | (refine Exists.intro () (And.intro (by unfold Sm; omega) ?_); cbv) | (split <;> cbv))
    all_goals first | refine leaf h (congrArg B ?_) rfl | refine hB _ _ hk1 ?_ ⟨rfl, rfl, rfl, rfl, rfl, congrArg I (hadd _ hk1 (by omega)), trivial⟩ (.inl rfl)
    all_goals clear hadd hlt hix h
    all_goals
      subst hA hS2
      simp only [std, st2, farS, iMax_eq, iLe, decide_eq_true_eq, decide_eq_false_iff_not] at *
      try simp (disch := omega) only [iAdd_id, iSub_id] at *
      rw [hP]
      simp only [nearS]
      try simp
      try omega
  · rename_i hk1
    have hk1 : ¬ j < l.length := by have := hlt.symm.trans hk1; simpa using this
    refine leaf h (congrArg B ?_) rfl
    rw [hP, List.drop_eq_nil_of_le (by omega)]; rfl
end Go.Sas
namespace Go.Sas
open Go.Proofs
set_option maxRecDepth 100000
theorem farS_comm (a b : Int) : farS a b = farS b a := by simp only [farS, iMax_eq]; omega
theorem burd_take {w : Bool} {p : Plate} {l : List Load} {m : Int} {j : Nat} {x : Load} (hx : l[j]? = some x) : burdS w p (l.take (j + 1)) m = burdS w p (l.take j) m + burdF w p m x := by
  unfold burdS; rw [List.take_add_one, hx]; simp
theorem LoadsV.take {places : Int} {l : List Load} (h : LoadsV places l) (j : Nat) : ∀ x ∈ l.take j, LoadV places x := fun x hx => h.all x (List.mem_of_mem_take hx)
theorem LoadsV.burd {w : Bool} {p : Plate} {places m : Int} {l : List Load} (hp : PlateV p) (h : LoadsV places l) (j : Nat) : 0 ≤ burdS w p (l.take j) m ∧ burdS w p (l.take j) m ≤ 6000000000000 := by
  have h1 := burdS_bnd (w := w) (m := m) hp (h.take j)
  have h2 := h.len
  have h3 : (l.take j).length ≤ l.length := by simp; omega
  omega
theorem p156 (w : Bool) (p : Plate) {a b : Int} {xs ec : List AV} {ne ed gr lo hi sh wi : Int} (hp : PlateIs p a b xs ec ne ed gr lo hi sh wi) (ice l : List (Int × Int)) (hV : RoadV p ice l) (m : Int) (hm : 0 ≤ m ∧ m ≤ 100 * iLen ice.length - 1) (H : AHeap) {Kk : AV → AHeap → Prop} (h : Kk (I (thickS w p ice l m)) H) :
    ACalls Try.prog 156 [scV w a b (.vs 2 xs) (.vs 2 ec) ne ed gr lo hi sh wi (.vs 2 (ice.map sp)) (.vs 2 (l.map sp)), I m] H Kk := by
  have hn : 0 ≤ ne ∧ ne ≤ 10000 := by have h1 := hV.p.n1; have h2 := hV.p.n2; rw [hp.ne] at h1 h2; exact ⟨h1, h2⟩
  have he : 0 ≤ ed ∧ ed ≤ 1000000 := by have h1 := hV.p.e1; have h2 := hV.p.e2; rw [hp.ed] at h1 h2; exact ⟨h1, h2⟩
  have hpn := hp.ne
  have hpe := hp.ed
  refine pureC (by rfl) (by rfl) (fun Kk h => ?_) H h
  have hil := hV.il
  have hll := hV.cl
  have hlt0 : (m / 100).toNat < ice.length := by unfold iLen at hm; omega
  obtain ⟨⟨h1, h2⟩, hh⟩ : ∃ x, ice[(m / 100).toNat]? = some x := ⟨_, List.getElem?_eq_getElem hlt0⟩
  have hb := hV.ib _ (List.mem_of_getElem? hh)
  have hW : thickS w p ice l m = cutS p (strS w (h1, h2)) (l.any fun c => nearS w c m p.near) := by unfold thickS; rw [List.getD_eq_getElem?_getD, hh]; rfl
  generalize thickS w p ice l m = W at h hW
  obtain ⟨xi, hxi⟩ : ∃ xi, xi = ice.map sp := ⟨_, rfl⟩
  obtain ⟨ys, hys⟩ : ∃ ys, ys = l.map sp := ⟨_, rfl⟩
  rw [← hxi, ← hys]
  obtain ⟨A, hA⟩ : ∃ A, A = std := ⟨_, rfl⟩
  obtain ⟨S, hS⟩ : ∃ S, S = stS := ⟨_, rfl⟩
  obtain ⟨S2, hS2⟩ : ∃ S, S = st2 := ⟨_, rfl⟩
  have hq : A.quo .i64 m 100 = iLen (m / 100).toNat := by
    subst hA; simp only [std]; unfold iLen at hm; rw [iQuo_id (by omega) (by omega) (by omega)]; unfold iLen; omega
  have hii : A.ix 2 2 xi (A.quo .i64 m 100) [I h1, I h2] := by subst hA; exact ix_map hxi hq hh rfl
  refine go156 rfl (SGo_run hA ⟨[], [], tb4 S S2, []⟩ (tb4_ok hS hS2) .nil 200 fun T TD hT hTD => ?_)
  cbv
  refine Exists.intro _ (And.intro hii ?_)
  cbv
  rw [hT]
  have hst : S2.str w h1 h2 = strS w (h1, h2) := by subst hS2; rfl
  have hsb : 0 ≤ S2.str w h1 h2 ∧ S2.str w h1 h2 ≤ 5000 := by rw [hst]; exact strS_bnd hb
  rw [← hst] at hW
  refine AGo_up l.length (fun j => W = cutS p (S2.str w h1 h2) ((l.drop j).any fun c => nearS w c m p.near)) (fun _ i => [(0, scV w a b (.vs 2 xs) (.vs 2 ec) ne ed gr lo hi sh wi (.vs 2 xi) (.vs 2 ys)), (1, I m), (2, .mp 0 0 0), (4, I 0), (5, I (S2.str w h1 h2)), (18, .vs 2 ys), (19, I (A.vlen ys)), (20, I i)]) (fun _ => [.own 0 [B w, I a, I b, .vs 2 xs, .vs 2 ec, I ne, I ed, I gr, I lo, I hi, I sh, I wi, .vs 2 xi, .vs 2 ys]]) hW ⟨rfl, rfl, rfl, rfl, rfl, rfl, rfl, rfl, trivial⟩ (.inl rfl) fun j i hi' hj hP Bk hB => ?_
  have hlt : A.lt i (A.vlen ys) = decide (j < l.length) := by subst hA; exact lt_len (by simp [hys]) hi'
  have hadd : ∀ N, j < N → N ≤ 9223372036854775807 → A.add .i64 i 1 = iLen (j + 1) := fun N hj hN => by subst hA; exact add_one hi' hj hN
  refine SGo_run hA ⟨[], [], tb4 S S2, []⟩ (tb4_ok hS hS2) .nil 200 fun T TD hT hTD => ?_
  cbv
  split <;> cbv
  · rename_i hk1
    have hk1 : j < l.length := by have := hlt.symm.trans hk1; simpa using this
    obtain ⟨⟨x, y⟩, hx⟩ : ∃ x, l[j]? = some x := ⟨_, List.getElem?_eq_getElem hk1⟩
    have hix : A.ix 2 2 ys i [I x, I y] := by subst hA; exact ix_map hys hi' hx rfl
    have hc := hV.cb (x, y) (List.mem_of_getElem? hx)
    simp only at hc
    rw [drop_cons hx, List.any_cons] at hP
    refine Exists.intro _ (And.intro hix ?_)
    cbv
    refine Exists.intro () (And.intro (by unfold Sm; unfold iLen at hm; omega) ?_)
    cbv
    have hnr : S2.near w x y m ne = nearS w (x, y) m p.near := by subst hS2; rw [hpn]; rfl
    split <;> cbv
    · rename_i hq2
      have hq2 : S2.near w x y m ne = true := hq2
      refine leaf h (congrArg I ?_) rfl
      rw [hP, ← hnr, hq2]
      subst hA
      obtain ⟨e1, l1, u1⟩ := mulB hsb he (by omega)
      simp only [std, e1]
      rw [iQuo_id l1 (by omega) (by omega), Bool.true_or, ← hpe]; rfl
    · rename_i hq2
      have hq2 : S2.near w x y m ne = false := hq2
      rw [← hnr, hq2, Bool.false_or] at hP
      exact hB _ _ hk1 hP ⟨rfl, rfl, rfl, rfl, rfl, rfl, rfl, congrArg I (hadd _ hk1 (by omega)), trivial⟩ (.inr ⟨⟨_, rfl⟩, Nat.zero_le _, by simp [ltG, AV.lt, AV.ltL, scV], by simp [ltH, AObj.lt, AV.ltL, AV.lt]⟩)
  · rename_i hk1
    have hk1 : ¬ j < l.length := by have := hlt.symm.trans hk1; simpa using this
    refine leaf h (congrArg I ?_) rfl
    rw [hP, List.drop_eq_nil_of_le (by omega)]; rfl
theorem p131 (p : Plate) {a b : Int} {xs ec : List AV} {ne ed gr lo hi sh wi : Int} (hp : PlateIs p a b xs ec ne ed gr lo hi sh wi) (hV : PlateV p) (l : List Load) (places : Int) (hl : LoadsV places l) (hpl : places ≤ 1000) (k : Nat) (x0 : Load) (hx0 : l[k]? = some x0) (H : AHeap) {Kk : AV → AHeap → Prop} (h : Kk (.agg [I (burdS false p l x0.at_), I (burdS true p l x0.at_)]) H) :
    ACalls Try.prog 131 [plV a b (.vs 2 xs) (.vs 2 ec) ne ed gr lo hi sh wi, .vs 4 (l.map ldV), I (iLen k)] H Kk := by
  refine pureC (by rfl) (by rfl) (fun Kk h => ?_) H h
  have hm0 := hl.all _ (List.mem_of_getElem? hx0)
  have hh := hl.len
  obtain ⟨m, ⟨v1, v2⟩, st0⟩ := x0
  simp only at h
  have hm1 := hm0.at1
  have hm2 := hm0.at2
  simp only at hm1 hm2
  obtain ⟨ys, hys⟩ : ∃ ys, ys = l.map ldV := ⟨_, rfl⟩
  obtain ⟨q, hq⟩ : ∃ q : Int, q = iLen k := ⟨_, rfl⟩
  rw [← hys, ← hq]
  obtain ⟨A, hA⟩ : ∃ A, A = std := ⟨_, rfl⟩
  obtain ⟨S, hS⟩ : ∃ S, S = stS := ⟨_, rfl⟩
  obtain ⟨S2, hS2⟩ : ∃ S, S = st2 := ⟨_, rfl⟩
  obtain ⟨sl, hsl⟩ : ∃ sl, sl = p.shares := ⟨_, rfl⟩
  have hs : xs = sl.map sp := by rw [hsl]; exact hp.hs
  have hiy : A.ix 4 4 ys q [I m, I v1, I v2, I st0] := by subst hA; exact ix_map hys hq hx0 rfl
  refine go131 rfl (SGo_run hA ⟨[], [], tb4 S S2, []⟩ (tb4_ok hS hS2) .nil 200 fun T TD hT hTD => ?_)
  cbv
  rw [hT]
  refine AGo_upS l.length (fun j (s : Int × Int) => s = (burdS false p (l.take j) m, burdS true p (l.take j) m)) (fun _ _ i => [(0, plV a b (.vs 2 xs) (.vs 2 ec) ne ed gr lo hi sh wi), (1, .vs 4 ys), (2, I q), (3, .mp 0 0 0), (6, .mp 1 0 0), (7, .mp 2 0 0), (8, I i)])
    (fun _ s => [.own 0 [I a, I b, .vs 2 xs, .vs 2 ec, I ne, I ed, I gr, I lo, I hi, I sh, I wi], .own 0 [I 0, I 0], .own 0 [I s.1, I s.2]]) (0, 0) rfl ⟨rfl, rfl, rfl, rfl, rfl, rfl, rfl, trivial⟩ (.inl rfl) fun j s i hi' hj hP Bk hB => ?_
  obtain ⟨s1, s2⟩ := s
  have hlt : A.lt i (A.vlen ys) = decide (j < l.length) := by subst hA; exact lt_len (by simp [hys]) hi'
  have hadd : ∀ N, j < N → N ≤ 9223372036854775807 → A.add .i64 i 1 = iLen (j + 1) := fun N hj hN => by subst hA; exact add_one hi' hj hN
  refine SGo_run hA ⟨[], [], tb4 S S2, []⟩ (tb4_ok hS hS2) .nil 200 fun T TD hT hTD => ?_
  cbv
  split <;> cbv
  · rename_i hk1
    have hk1 : j < l.length := by have := hlt.symm.trans hk1; simpa using this
    obtain ⟨x, hx⟩ : ∃ x, l[j]? = some x := ⟨_, List.getElem?_eq_getElem hk1⟩
    have hxv := hl.all _ (List.mem_of_getElem? hx)
    have e1 := (burdF_bnd (w := false) (m := m) hV hxv)
    have e2 := (burdF_bnd (w := true) (m := m) hV hxv)
    have f1 := hl.burd (w := false) (m := m) hV j
    have f2 := hl.burd (w := true) (m := m) hV j
    have g1 := burd_take (w := false) (p := p) (m := m) hx
    have g2 := burd_take (w := true) (p := p) (m := m) hx
    obtain ⟨x1, ⟨u1, u2⟩, t1⟩ := x
    have k1 := hxv.at1
    have k2 := hxv.at2
    have k3 := hxv.w1
    have k4 := hxv.w2
    have k5 := hxv.w3
    simp only at k1 k2 k3 k4 k5
    have hix : A.ix 4 4 ys i [I x1, I u1, I u2, I t1] := by subst hA; exact ix_map hys hi' hx rfl
    repeat' (first | (refine Exists.intro _ (And.intro hix ?_); cbv) | (refine Exists.intro _ (And.intro hiy ?_); cbv) | (refine Exists.intro () (And.intro (by unfold Sm; omega) ?_); cbv) |
      (refine Exists.intro sl (And.intro hs (And.intro (by rw [hsl]; exact hV.sh.ne) (And.intro (by rw [hsl]; have := hV.sh.len; omega) ?_))); cbv) | (split <;> cbv))
    have hpt : S.part sl (S2.far x1 m) = partS p.shares (farS m x1) := by subst hS hS2; rw [hsl, farS_comm]; rfl
    have hpb := hV.sh.part (farS m x1)
    injection hP with hP1 hP2
    refine hB (burdS false p (l.take (j + 1)) m, burdS true p (l.take (j + 1)) m) _ _ hk1 rfl ⟨rfl, rfl, rfl, rfl, rfl, rfl, congrArg I (hadd _ hk1 (by omega)), trivial⟩ (.inl ?_)
    obtain ⟨m1, -, -⟩ := mulB (a := u1) (b := partS p.shares (farS m x1)) ⟨k3, Int.le_trans k4 k5⟩ hpb (by omega)
    obtain ⟨m2, -, -⟩ := mulB (a := u2) (b := partS p.shares (farS m x1)) ⟨Int.le_trans k3 k4, k5⟩ hpb (by omega)
    have q1 : A.add .i64 s1 (A.mul .i64 u1 (S.part sl (S2.far x1 m))) = burdS false p (l.take (j + 1)) m := by
      rw [hpt]; subst hA; simp only [std]; rw [m1, g1, hP1]; exact iAdd_id (by simp only [burdF, hevS] at e1; simp at e1; omega) (by simp only [burdF, hevS] at e1; simp at e1; omega)
    have q2 : A.add .i64 s2 (A.mul .i64 u2 (S.part sl (S2.far x1 m))) = burdS true p (l.take (j + 1)) m := by
      rw [hpt]; subst hA; simp only [std]; rw [m2, g2, hP2]; exact iAdd_id (by simp only [burdF, hevS] at e2; simp at e2; omega) (by simp only [burdF, hevS] at e2; simp at e2; omega)
    rw [← q1, ← q2]
  · rename_i hk1
    have hk1 : ¬ j < l.length := by have := hlt.symm.trans hk1; simpa using this
    rw [List.take_of_length_le (by omega)] at hP
    injection hP with hP1 hP2
    rw [← hP1, ← hP2] at h
    exact h
end Go.Sas
namespace Go.Sas
open Go.Proofs
set_option maxRecDepth 100000
theorem eEn_ok {S : Sp2} (hS : S = st2) : ∀ args pt, eEn S args = some pt → ∀ (H : AHeap) (Kk : AV → AHeap → Prop), pt (fun r => Kk r H) → ACalls Try.prog 111 args H Kk := by
  intro args pt h H Kk hk
  subst hS
  unfold eEn at h
  split at h
  · split at h
    · rename_i w x xi xc hy
      cases h
      obtain ⟨p, h1, h2, h3, h4, h5⟩ := hk
      obtain ⟨a, b, xs, ec, ne, ed, gr, lo, hi, sh, wi⟩ := x
      exact (p111 w p h1 h2 xi xc _ _ _ h3 h4 H h5).wk ⟨asSc_wk hy, Wk.rfl, Wk.rfl, Wk.rfl, trivial⟩
    · cases h
  · cases h
theorem eThick_ok {S : Sp2} (hS : S = st2) : ∀ args pt, eThick S args = some pt → ∀ (H : AHeap) (Kk : AV → AHeap → Prop), pt (fun r => Kk r H) → ACalls Try.prog 156 args H Kk := by
  intro args pt h H Kk hk
  subst hS
  unfold eThick at h
  split at h
  · split at h
    · rename_i w x xi xc hy
      cases h
      obtain ⟨p, ice, cr, h1, h2, h3, h4, h5, h6⟩ := hk
      obtain ⟨a, b, xs, ec, ne, ed, gr, lo, hi, sh, wi⟩ := x
      subst h2 h3
      exact (p156 w p h1 ice cr h4 _ h5 H h6).wk ⟨asSc_wk hy, Wk.rfl, trivial⟩
    · cases h
  · cases h
theorem eBor_ok {S : Sp2} (hS : S = st2) : ∀ args pt, eBor S args = some pt → ∀ (H : AHeap) (Kk : AV → AHeap → Prop), pt (fun r => Kk r H) → ACalls Try.prog 132 args H Kk := by
  intro args pt h H Kk hk
  subst hS
  unfold eBor at h
  split at h
  · cases h
    obtain ⟨_, h1, h2, h3, h4, h5⟩ := hk
    exact p132 _ _ _ _ h1 h2 h3 h4 H h5
  · cases h
theorem eCut_ok {S : Sp2} (hS : S = st2) : ∀ args pt, eCut S args = some pt → ∀ (H : AHeap) (Kk : AV → AHeap → Prop), pt (fun r => Kk r H) → ACalls Try.prog 133 args H Kk := by
  intro args pt h H Kk hk
  subst hS
  unfold eCut at h
  split at h
  · split at h
    · rename_i x hy
      cases h
      obtain ⟨p, h1, h2, h3, h4⟩ := hk
      obtain ⟨a, b, xs, ec, ne, ed, gr, lo, hi, sh, wi⟩ := x
      exact (p133 p h1 h2 _ _ h3 H h4).wk ⟨asPl_wk hy, Wk.rfl, Wk.rfl, trivial⟩
    · cases h
  · cases h
theorem eAny1_ok {S : Sp2} (hS : S = st2) : ∀ args pt, eAny true S args = some pt → ∀ (H : AHeap) (Kk : AV → AHeap → Prop), pt (fun r => Kk r H) → ACalls Try.prog 134 args H Kk := by
  intro args pt h H Kk hk
  subst hS
  unfold eAny at h
  split at h
  · split at h
    · rename_i x xc hy hz
      cases h
      obtain ⟨p, cr, h1, h2, h3, h4, h5, h6⟩ := hk
      obtain ⟨a, b, xs, ec, ne, ed, gr, lo, hi, sh, wi⟩ := x
      subst h2
      exact (p134 p h1 h3 cr _ h4.1 h4.2 h5 H h6).wk ⟨asPl_wk hy, asVs_wk hz, Wk.rfl, trivial⟩
    · cases h
  · cases h
theorem eAny0_ok {S : Sp2} (hS : S = st2) : ∀ args pt, eAny false S args = some pt → ∀ (H : AHeap) (Kk : AV → AHeap → Prop), pt (fun r => Kk r H) → ACalls Try.prog 135 args H Kk := by
  intro args pt h H Kk hk
  subst hS
  unfold eAny at h
  split at h
  · split at h
    · rename_i x xc hy hz
      cases h
      obtain ⟨p, cr, h1, h2, h3, h4, h5, h6⟩ := hk
      obtain ⟨a, b, xs, ec, ne, ed, gr, lo, hi, sh, wi⟩ := x
      subst h2
      exact (p135 p h1 h3 cr _ h4.1 h4.2 h5 H h6).wk ⟨asPl_wk hy, asVs_wk hz, Wk.rfl, trivial⟩
    · cases h
  · cases h
theorem eBurd_ok {S : Sp2} (hS : S = st2) : ∀ args pt, eBurd S args = some pt → ∀ (H : AHeap) (Kk : AV → AHeap → Prop), pt (fun r => Kk r H) → ACalls Try.prog 131 args H Kk := by
  intro args pt h H Kk hk
  subst hS
  unfold eBurd at h
  split at h
  · split at h
    · rename_i x xc hy hz
      cases h
      obtain ⟨p, l, j, y, places, h1, h2, h3, h4, h5, h6, h7, h8⟩ := hk
      obtain ⟨a, b, xs, ec, ne, ed, gr, lo, hi, sh, wi⟩ := x
      subst h2 h6
      exact (p131 p h1 h3 l places h4 h5 j y h7 H h8).wk ⟨asPl_wk hy, asVs_wk hz, Wk.rfl, trivial⟩
    · cases h
  · cases h
def tb5 (S : Sp) (S2 : Sp2) : PTab := (111, eEn S2) :: (156, eThick S2) :: (132, eBor S2) :: (133, eCut S2) :: (134, eAny true S2) :: (135, eAny false S2) :: (131, eBurd S2) :: tb4 S S2
theorem tb5_ok {S : Sp} (hS : S = stS) {S2 : Sp2} (hS2 : S2 = st2) : PTabOk Try.prog (tb5 S S2) :=
  .cons (eEn_ok hS2) (.cons (eThick_ok hS2) (.cons (eBor_ok hS2) (.cons (eCut_ok hS2) (.cons (eAny1_ok hS2) (.cons (eAny0_ok hS2) (.cons (eBurd_ok hS2) (tb4_ok hS hS2)))))))
theorem p129 (w : Bool) (p : Plate) {a b : Int} {xs ec : List AV} {ne ed gr lo hi sh wi : Int} (hp : PlateIs p a b xs ec ne ed gr lo hi sh wi) (ice cr : List (Int × Int)) (l : List Load) (hV : RoadV p ice cr) (hl : LoadsV ice.length l) (k : Nat) (x0 : Load) (hx0 : l[k]? = some x0) (H : AHeap) {Kk : AV → AHeap → Prop} (h : Kk (B (beS w p ice cr l x0)) H) :
    ACalls Try.prog 129 [scV w a b (.vs 2 xs) (.vs 2 ec) ne ed gr lo hi sh wi (.vs 2 (ice.map sp)) (.vs 2 (cr.map sp)), .vs 4 (l.map ldV), I (iLen k)] H Kk := by
  refine (fun q => pureC (by rfl) (by rfl) q H h) ?_
  clear h
  intro Kk h
  have hil := hV.il
  have hall := hl.up (by omega)
  have hm0 := hall _ (List.mem_of_getElem? hx0)
  have hme := (hl.all _ (List.mem_of_getElem? hx0)).at2
  have hh := hl.len
  have hW : beS w p ice cr l x0 = enS w p (burdS w p l x0.at_) (thickS w p ice cr x0.at_) x0.st := rfl
  generalize beS w p ice cr l x0 = W at h hW
  obtain ⟨m, ⟨v1, v2⟩, st0⟩ := x0
  have hm1 := hm0.at1
  have hm2 := hm0.at2
  simp only at hm1 hm2 hW hme
  obtain ⟨ys, hys⟩ : ∃ ys, ys = l.map ldV := ⟨_, rfl⟩
  obtain ⟨xi, hxi⟩ : ∃ xi, xi = ice.map sp := ⟨_, rfl⟩
  obtain ⟨xc, hxc⟩ : ∃ xc, xc = cr.map sp := ⟨_, rfl⟩
  obtain ⟨q, hq⟩ : ∃ q : Int, q = iLen k := ⟨_, rfl⟩
  rw [← hys, ← hq, ← hxi, ← hxc]
  obtain ⟨A, hA⟩ : ∃ A, A = std := ⟨_, rfl⟩
  obtain ⟨S, hS⟩ : ∃ S, S = stS := ⟨_, rfl⟩
  obtain ⟨S2, hS2⟩ : ∃ S, S = st2 := ⟨_, rfl⟩
  obtain ⟨sl, hsl⟩ : ∃ sl, sl = p.shares := ⟨_, rfl⟩
  have hs : xs = sl.map sp := by rw [hsl]; exact hp.hs
  have hiy : A.ix 4 4 ys q [I m, I v1, I v2, I st0] := by subst hA; exact ix_map hys hq hx0 rfl
  refine go129 rfl (SGo_run hA ⟨[], [], tb5 S S2, []⟩ (tb5_ok hS hS2) .nil 200 fun T TD hT hTD => ?_)
  cbv
  rw [hT]
  refine AGo_upS l.length (fun j (s : Int) => s = burdS w p (l.take j) m) (fun _ s i => [(0, scV w a b (.vs 2 xs) (.vs 2 ec) ne ed gr lo hi sh wi (.vs 2 xi) (.vs 2 xc)), (1, .vs 4 ys), (2, I q), (3, .mp 0 0 0), (6, B false), (7, I s), (10, .vs 4 ys), (11, I (A.vlen ys)), (12, I i)])
    (fun _ _ => [.own 0 [B w, I a, I b, .vs 2 xs, .vs 2 ec, I ne, I ed, I gr, I lo, I hi, I sh, I wi, .vs 2 xi, .vs 2 xc]]) 0 rfl ⟨rfl, rfl, rfl, rfl, rfl, rfl, rfl, rfl, rfl, trivial⟩ (.inl rfl) fun j s i hi' hj hP Bk hB => ?_
  have hlt : A.lt i (A.vlen ys) = decide (j < l.length) := by subst hA; exact lt_len (by simp [hys]) hi'
  have hadd : ∀ N, j < N → N ≤ 9223372036854775807 → A.add .i64 i 1 = iLen (j + 1) := fun N hj hN => by subst hA; exact add_one hi' hj hN
  refine SGo_run hA ⟨[], [], tb5 S S2, []⟩ (tb5_ok hS hS2) .nil 200 fun T TD hT hTD => ?_
  cbv
  split <;> cbv
  · rename_i hk1
    have hk1 : j < l.length := by have := hlt.symm.trans hk1; simpa using this
    obtain ⟨x, hx⟩ : ∃ x, l[j]? = some x := ⟨_, List.getElem?_eq_getElem hk1⟩
    have hxv := hall _ (List.mem_of_getElem? hx)
    have e1 := (burdF_bnd (w := w) (m := m) hV.p hxv)
    have f1 := hl.burd (w := w) (m := m) hV.p j
    have g1 := burd_take (w := w) (p := p) (m := m) hx
    obtain ⟨x1, ⟨u1, u2⟩, t1⟩ := x
    have k1 := hxv.at1
    have k2 := hxv.at2
    have k3 := hxv.w1
    have k4 := hxv.w2
    have k5 := hxv.w3
    simp only at k1 k2 k3 k4 k5
    have hix : A.ix 4 4 ys i [I x1, I u1, I u2, I t1] := by subst hA; exact ix_map hys hi' hx rfl
    repeat' (first | (refine Exists.intro _ (And.intro hix ?_); cbv) | (refine Exists.intro _ (And.intro hiy ?_); cbv) |
      (refine Exists.intro sl (And.intro hs (And.intro (by rw [hsl]; exact hV.p.sh.ne) (And.intro (by rw [hsl]; have := hV.p.sh.len; omega) ?_))); cbv))
    have q1 : A.add .i64 s (A.mul .i64 (S2.hev w u1 u2) (S.part sl (A.max (A.sub .i64 m x1) (A.sub .i64 x1 m)))) = burdS w p (l.take (j + 1)) m := by
      subst hA hS hS2
      simp only [std, stS, st2]
      have hb := hevS_bnd (w := w) (x := (u1, u2)) ⟨k3, k4, k5⟩
      have hf : iMax (iSub .i64 m x1) (iSub .i64 x1 m) = farS m x1 := by
        simp (disch := omega) only [iSub_id, farS]
      rw [hf, hsl]
      obtain ⟨m1, -, -⟩ := mulB hb (hV.p.sh.part (farS m x1)) (by omega)
      rw [m1, g1, hP]
      exact iAdd_id (by simp only [burdF] at e1; omega) (by simp only [burdF] at e1; omega)
    exact hB _ _ _ hk1 q1 ⟨rfl, rfl, rfl, rfl, rfl, rfl, rfl, rfl, congrArg I (hadd _ hk1 (by omega)), trivial⟩ (.inr ⟨⟨_, rfl⟩, Nat.zero_le _, by simp [ltG, AV.lt, AV.ltL, scV], by simp [ltH, AObj.lt, AV.ltL, AV.lt]⟩)
  · rename_i hk1
    have hk1 : ¬ j < l.length := by have := hlt.symm.trans hk1; simpa using this
    rw [List.take_of_length_le (by omega)] at hP
    have hbb := hl.burd (w := w) (m := m) hV.p l.length
    rw [List.take_length, ← hP] at hbb
    repeat' (first | (refine Exists.intro _ (And.intro hiy ?_); cbv) |
      (refine Exists.intro p (Exists.intro ice (Exists.intro cr (And.intro hp (And.intro hxi (And.intro hxc (And.intro hV (And.intro ⟨hm1, hme⟩ ?_))))))); cbv) |
      (refine Exists.intro p (And.intro hp (And.intro hV.p (And.intro hbb (And.intro ?_ ?_)))); rotate_left; cbv))
    · refine leaf h (congrArg B ?_) rfl
      rw [hW, ← hP]; subst hS2; rfl
    · subst hS2; exact thickS_bnd hV m
theorem eBe_ok {S : Sp2} (hS : S = st2) : ∀ args pt, eBe S args = some pt → ∀ (H : AHeap) (Kk : AV → AHeap → Prop), pt (fun r => Kk r H) → ACalls Try.prog 129 args H Kk := by
  intro args pt h H Kk hk
  subst hS
  unfold eBe at h
  split at h
  · split at h
    · rename_i w x xi xc xl hy hz
      cases h
      obtain ⟨p, ice, cr, l, j, y, h1, h2, h3, h4, h5, h6, h7, h8, h9⟩ := hk
      obtain ⟨a, b, xs, ec, ne, ed, gr, lo, hi, sh, wi⟩ := x
      subst h2 h3 h4 h7
      exact (p129 w p h1 ice cr l h5 h6 j y h8 H h9).wk ⟨asSc_wk hy, asVs_wk hz, Wk.rfl, trivial⟩
    · cases h
  · cases h
theorem p87 (p : Plate) {a b : Int} {xs ec : List AV} {ne ed gr lo hi sh wi : Int} (hp : PlateIs p a b xs ec ne ed gr lo hi sh wi) (ice cr : List (Int × Int)) (l : List Load) (hV : RoadV p ice cr) (hl : LoadsV ice.length l) (k : Nat) (x0 : Load) (hx0 : l[k]? = some x0) (H : AHeap) {Kk : AV → AHeap → Prop} (h : Kk (I (veS p ice cr l x0)) H) :
    ACalls Try.prog 87 [plV a b (.vs 2 xs) (.vs 2 ec) ne ed gr lo hi sh wi, .vs 2 (ice.map sp), .vs 2 (cr.map sp), .vs 4 (l.map ldV), I (iLen k)] H Kk := by
  refine (fun q => pureC (by rfl) (by rfl) q H h) ?_
  clear h
  intro Kk h
  obtain ⟨W, hW⟩ : ∃ W, W = veS p ice cr l x0 := ⟨_, rfl⟩
  rw [← hW] at h
  obtain ⟨ys, hys⟩ : ∃ ys, ys = l.map ldV := ⟨_, rfl⟩
  obtain ⟨xi, hxi⟩ : ∃ xi, xi = ice.map sp := ⟨_, rfl⟩
  obtain ⟨xc, hxc⟩ : ∃ xc, xc = cr.map sp := ⟨_, rfl⟩
  obtain ⟨q, hq⟩ : ∃ q : Int, q = iLen k := ⟨_, rfl⟩
  rw [← hys, ← hq, ← hxi, ← hxc]
  obtain ⟨A, hA⟩ : ∃ A, A = std := ⟨_, rfl⟩
  obtain ⟨S2, hS2⟩ : ∃ S, S = st2 := ⟨_, rfl⟩
  refine go87 rfl (SGo_run hA ⟨[], [], [(129, eBe S2)], []⟩ (.cons (eBe_ok hS2) .nil) .nil 200 fun T TD hT hTD => ?_)
  cbv
  repeat' (first | (refine Exists.intro p (Exists.intro ice (Exists.intro cr (Exists.intro l (Exists.intro k (Exists.intro x0 (And.intro hp (And.intro hxi (And.intro hxc (And.intro hys (And.intro hV (And.intro hl (And.intro hq (And.intro hx0 ?_))))))))))))); cbv) | (split <;> cbv))
  all_goals
    refine leaf h (congrArg I ?_) rfl
    clear h
    subst hA hS2
    simp only [std, st2] at *
    rw [hW, veS]
    simp [*]
theorem p90 (p : Plate) {a b : Int} {xs ec : List AV} {ne ed gr lo hi sh wi : Int} (hp : PlateIs p a b xs ec ne ed gr lo hi sh wi) (ice cr : List (Int × Int)) (l : List Load) (hV : RoadV p ice cr) (hl : LoadsV ice.length l) (k : Nat) (x0 : Load) (hx0 : l[k]? = some x0) (H : AHeap) {Kk : AV → AHeap → Prop} (h : Kk (I (veS p ice cr l x0)) H) :
    ACalls Try.prog 90 [plV a b (.vs 2 xs) (.vs 2 ec) ne ed gr lo hi sh wi, .vs 2 (ice.map sp), .vs 2 (cr.map sp), .vs 4 (l.map ldV), I (iLen k)] H Kk := by
  refine (fun q => pureC (by rfl) (by rfl) q H h) ?_
  clear h
  intro Kk h
  have hil := hV.il
  have hall := hl.up (by omega)
  have hm0 := hall _ (List.mem_of_getElem? hx0)
  have hme := (hl.all _ (List.mem_of_getElem? hx0)).at2
  have hm1 := hm0.at1
  have hm2 := hm0.at2
  have hb0 := hl.burd (w := false) (m := x0.at_) hV.p l.length
  have hb1 := hl.burd (w := true) (m := x0.at_) hV.p l.length
  rw [List.take_length] at hb0 hb1
  have hlt0 : (x0.at_ / 100).toNat < ice.length := by omega
  obtain ⟨⟨h1, h2⟩, hh⟩ : ∃ x, ice[(x0.at_ / 100).toNat]? = some x := ⟨_, List.getElem?_eq_getElem hlt0⟩
  have hpl : (ice.length : Int) ≤ 1000 := by omega
  have hib := hV.ib _ (List.mem_of_getElem? hh)
  have hcb := hV.cb
  have hcl := hV.cl
  have hth : ∀ w, thickS w p ice cr x0.at_ = cutS p (strS w (h1, h2)) (anyS w p cr x0.at_) := fun w => by unfold thickS anyS; rw [List.getD_eq_getElem?_getD, hh]; rfl
  have hbn : ∀ w, 0 ≤ thickS w p ice cr x0.at_ ∧ thickS w p ice cr x0.at_ ≤ 5000 := fun w => thickS_bnd hV x0.at_
  have hpt := hV.p.cr.part x0.st
  have hps1 := hV.p.s1
  have hps2 := hV.p.s2
  have hps3 := hV.p.s3
  rw [hp.str] at hps1 hps2 hps3
  simp only at hps1 hps2 hps3 hib
  obtain ⟨W, hW⟩ : ∃ W, W = veS p ice cr l x0 := ⟨_, rfl⟩
  rw [← hW] at h
  unfold veS beS enS at hW
  rw [hth, hth, hp.str] at hW
  simp only [hth] at hbn
  have hx0' := hx0
  obtain ⟨m, ⟨v1, v2⟩, st0⟩ := x0
  simp only at hm1 hm2 hme hW hb0 hb1 hbn hth hpt hh
  obtain ⟨ys, hys⟩ : ∃ ys, ys = l.map ldV := ⟨_, rfl⟩
  obtain ⟨xi, hxi⟩ : ∃ xi, xi = ice.map sp := ⟨_, rfl⟩
  obtain ⟨xc, hxc⟩ : ∃ xc, xc = cr.map sp := ⟨_, rfl⟩
  obtain ⟨q, hq⟩ : ∃ q : Int, q = iLen k := ⟨_, rfl⟩
  rw [← hys, ← hq, ← hxi, ← hxc]
  obtain ⟨A, hA⟩ : ∃ A, A = std := ⟨_, rfl⟩
  obtain ⟨S, hS⟩ : ∃ S, S = stS := ⟨_, rfl⟩
  obtain ⟨S2, hS2⟩ : ∃ S, S = st2 := ⟨_, rfl⟩
  obtain ⟨cl, hcc⟩ : ∃ cl, cl = p.creep := ⟨_, rfl⟩
  have hc : ec = cl.map sp := by rw [hcc]; exact hp.hc
  have hiy : A.ix 4 4 ys q [I m, I v1, I v2, I st0] := by subst hA; exact ix_map hys hq hx0 rfl
  have hqq : A.quo .i64 m 100 = iLen (m / 100).toNat := by
    subst hA; simp only [std]; rw [iQuo_id (by omega) (by omega) (by omega)]; unfold iLen; omega
  have hii : A.ix 2 2 xi (A.quo .i64 m 100) [I h1, I h2] := by subst hA; exact ix_map hxi hqq hh rfl
  refine go90 rfl (SGo_run hA ⟨[], [], tb5 S S2, []⟩ (tb5_ok hS hS2) .nil 200 fun T TD hT hTD => ?_)
  cbv
  have hel : 0 ≤ h1 ∧ h1 ≤ 5000 := by omega
  have heh : 0 ≤ h2 ∧ h2 ≤ 5000 := by omega
  have hmm : 0 ≤ m ∧ m ≤ 100000 := by omega
  have hbt := hbn true
  have hbf := hbn false
  have hcc3 : 0 ≤ S.part cl st0 ∧ S.part cl st0 ≤ 1000000 := by rw [hcc]; subst hS; exact hpt
  repeat' (first | (refine Exists.intro _ (And.intro hiy ?_); cbv) | (refine Exists.intro _ (And.intro hii ?_); cbv) |
    (refine Exists.intro cl (And.intro hc (And.intro (by rw [hcc]; exact hV.p.cr.ne) (And.intro (by rw [hcc]; have := hV.p.cr.len; omega) ?_))); cbv) |
    (refine Exists.intro p (Exists.intro l (Exists.intro k (Exists.intro ⟨m, (v1, v2), st0⟩ (Exists.intro (ice.length : Int) (And.intro hp (And.intro hys (And.intro hV.p (And.intro hl (And.intro hpl (And.intro hq (And.intro hx0 ?_))))))))))); cbv) |
    (refine Exists.intro p (Exists.intro cr (And.intro hp (And.intro hxc (And.intro hV.p (And.intro ⟨hcl, hcb⟩ (And.intro hmm ?_)))))); cbv) |
    (refine Exists.intro p (And.intro hp (And.intro hV.p (And.intro hel ?_))); cbv) |
    (refine Exists.intro p (And.intro hp (And.intro hV.p (And.intro heh ?_))); cbv) |
    (refine Exists.intro () (And.intro (by subst hS2; first | exact hb0 | exact hb1) (And.intro (by omega) (And.intro (by subst hS2; first | exact hbt | exact hbf) (And.intro hcc3 ?_)))); cbv) | (refine And.intro (by subst hA; simp [std, Keep, SubH, ResK]) ?_; cbv) | (split <;> cbv))
  all_goals
    refine leaf h (congrArg I ?_) rfl
    clear h hbt hbf hbn hth hcc3
    subst hA hS hS2
    rw [hW]
    clear hW
    subst hcc
    simp only [std, stS, st2, borS, Bool.not_eq_true', Bool.not_eq_false', decide_eq_true_eq, decide_eq_false_iff_not] at *
    simp [*, strS]
theorem eVe_ok {f : Nat} (hf : ∀ (p : Plate) {a b : Int} {xs ec : List AV} {ne ed gr lo hi sh wi : Int}, PlateIs p a b xs ec ne ed gr lo hi sh wi → ∀ (ice cr : List (Int × Int)) (l : List Load), RoadV p ice cr → LoadsV ice.length l → ∀ (k : Nat) (x0 : Load), l[k]? = some x0 → ∀ (H : AHeap) {Kk : AV → AHeap → Prop}, Kk (I (veS p ice cr l x0)) H →
    ACalls Try.prog f [plV a b (.vs 2 xs) (.vs 2 ec) ne ed gr lo hi sh wi, .vs 2 (ice.map sp), .vs 2 (cr.map sp), .vs 4 (l.map ldV), I (iLen k)] H Kk) {S : Sp2} (hS : S = st2) : ∀ args pt, eVe S args = some pt → ∀ (H : AHeap) (Kk : AV → AHeap → Prop), pt (fun r => Kk r H) → ACalls Try.prog f args H Kk := by
  intro args pt h H Kk hk
  subst hS
  unfold eVe at h
  split at h
  · split at h
    · rename_i x xi xc xl hy h3 h4 h5
      cases h
      obtain ⟨p, ice, cr, l, j, y, h1, rfl, rfl, rfl, h6, h7, rfl, h8, h9⟩ := hk
      obtain ⟨a, b, xs, ec, ne, ed, gr, lo, hi, sh, wi⟩ := x
      exact (hf p h1 ice cr l h6 h7 j y h8 H h9).wk ⟨asPl_wk hy, asVs_wk h3, asVs_wk h4, asVs_wk h5, Wk.rfl, trivial⟩
    · cases h
  · cases h

theorem eCheckAll_ok {f : Nat} (hf : ∀ (p : Plate) {a b : Int} {xs ec : List AV} {ne ed gr lo hi sh wi : Int}, PlateIs p a b xs ec ne ed gr lo hi sh wi → p.shares.length ≤ 9223372036854775807 → p.creep.length ≤ 9223372036854775807 → ∀ (ice cr : List (Int × Int)), ice.length ≤ 9223372036854775807 → cr.length ≤ 9223372036854775807 → ∀ (H : AHeap) {Kk : AV → AHeap → Prop}, Kk (I (checkAllS p ice cr)) H →
    ACalls Try.prog f [plV a b (.vs 2 xs) (.vs 2 ec) ne ed gr lo hi sh wi, .vs 2 (ice.map sp), .vs 2 (cr.map sp)] H Kk) {S : Sp} (hS : S = stS) : ∀ args pt, eCheckAll S args = some pt → ∀ (H : AHeap) (Kk : AV → AHeap → Prop), pt (fun r => Kk r H) → ACalls Try.prog f args H Kk := by
  intro args pt h H Kk hk
  subst hS
  unfold eCheckAll at h
  split at h
  · split at h
    · rename_i xs ec xi xc h1 h2 h3 h4
      cases h
      obtain ⟨p, ice, cr, g1, g2, g3, rfl, rfl, g6, g7, g8⟩ := hk
      exact (hf p g1 g2 g3 ice cr g6 g7 H g8).wk ⟨Wk.agg ⟨Wk.rfl, Wk.rfl, asVs_wk h1, asVs_wk h2, Wk.rfl, Wk.rfl, Wk.rfl, Wk.rfl, Wk.rfl, Wk.rfl, Wk.rfl, trivial⟩, asVs_wk h3, asVs_wk h4, trivial⟩
    · cases h
  · cases h
end Go.Sas
