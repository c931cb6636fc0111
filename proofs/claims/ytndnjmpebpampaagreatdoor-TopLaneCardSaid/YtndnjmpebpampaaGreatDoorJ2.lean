/-
What the functions that ice rests on yield, part 1: spans and numbers in bounds.
What the functions that ice rests on yield, part 2: plates, lists of spans and of loads.
What the functions that ice rests on yield, part 3: parts of tables, a search.
Conditions: none.
-/
import Derived.Test.YtndnjmpebpampaaGreatDoorJ1
import Derived.Test.YtndnjmpebpampaaGreatDoorQT1
set_option linter.unusedVariables false
set_option linter.unusedSimpArgs false
namespace Go.Sas
open Go.Proofs
set_option maxRecDepth 100000
theorem p28 (a b c : Int) (H : AHeap) {Kk : AV → AHeap → Prop} (h : Kk (B (wiS a b c)) H) : ACalls Tryz.prog 28 [I a, I b, I c] H Kk := by
  refine pureC (by rfl) (by rfl) (fun Kk h => ?_) H h
  obtain ⟨A, hA⟩ : ∃ A, A = std := ⟨_, rfl⟩
  obtain ⟨W, hW⟩ : ∃ W, W = wiS a b c := ⟨_, rfl⟩
  rw [← hW] at h
  refine go28 rfl (SGo_run hA ⟨[], [], [], []⟩ .nil .nil 200 fun T TD hT hTD => ?_)
  clear hT hTD
  cbv
  split <;> cbv
  all_goals
    refine leaf h (congrArg B ?_) rfl
    subst hA hW
    simp only [std, iLe, decide_eq_true_eq, decide_eq_false_iff_not] at *
    simp [wiS, *]
theorem eWi_ok {f : Nat} (hf : ∀ (a b c : Int) (H : AHeap) {Kk : AV → AHeap → Prop}, Kk (B (wiS a b c)) H → ACalls Tryz.prog f [I a, I b, I c] H Kk) {S : Sp} (hS : S = stS) :
    ∀ args pt, eWi S args = some pt → ∀ (H : AHeap) (Kk : AV → AHeap → Prop), pt (fun r => Kk r H) → ACalls Tryz.prog f args H Kk := by
  intro args pt h H Kk hk
  subst hS
  unfold eWi at h
  split at h
  · cases h; exact hf _ _ _ H hk
  · cases h
def tb1 (S : Sp) : PTab := [(28, eWi S)]
theorem tb1_ok {S : Sp} (hS : S = stS) : PTabOk Tryz.prog (tb1 S) := .cons (eWi_ok p28 hS) .nil
theorem p53 (a b c d : Int) (H : AHeap) {Kk : AV → AHeap → Prop} (h : Kk (I (faultS a b c d)) H) : ACalls Tryz.prog 53 [.agg [I a, I b], I c, I d] H Kk := by
  refine pureC (by rfl) (by rfl) (fun Kk h => ?_) H h
  obtain ⟨A, hA⟩ : ∃ A, A = std := ⟨_, rfl⟩
  obtain ⟨S, hS⟩ : ∃ S, S = stS := ⟨_, rfl⟩
  obtain ⟨W, hW⟩ : ∃ W, W = faultS a b c d := ⟨_, rfl⟩
  rw [← hW] at h
  refine go53 rfl (SGo_run hA ⟨[], [], tb1 S, []⟩ (tb1_ok hS) .nil 200 fun T TD hT hTD => ?_)
  clear hT hTD
  cbv
  repeat' (split <;> cbv)
  all_goals
    refine leaf h (congrArg I ?_) rfl
    subst hA hS hW
    simp only [std, stS, iLt, iLe, iEq, iNe, iLen, wiS, ouS, bne_iff_ne, ne_eq, beq_iff_eq, Bool.and_eq_true, Bool.or_eq_true, Bool.or_eq_false_iff, Bool.and_eq_false_iff, decide_eq_true_eq, decide_eq_false_iff_not, bne_eq_false_iff_eq, beq_eq_false_iff_ne, Bool.not_eq_true', Bool.not_eq_false'] at *
    simp only [faultS]
    repeat' split
    all_goals omega
def ahead (l : List (Int × Int)) : Nat → Option (Int × Int)
  | 0 => none
  | k + 1 => l[k]?
theorem tabGo_err {p : Option (Int × Int)} {x : Int × Int} {l : List (Int × Int)} {c : Int} (h : entE p x = c) (hc : c ≠ 0) : tabGo p (x :: l) = c := by simp [tabGo, h, hc]
theorem tabGo_ok {p : Option (Int × Int)} {x : Int × Int} {l : List (Int × Int)} (h : entE p x = 0) : tabGo p (x :: l) = tabGo (some x) l := by simp [tabGo, h]
theorem p54 (l : List (Int × Int)) (hl : l.length ≤ 9223372036854775807) (H : AHeap) {Kk : AV → AHeap → Prop} (h : Kk (I (tabS l)) H) : ACalls Tryz.prog 54 [.vs 2 (l.map sp)] H Kk := by
  refine pureC (by rfl) (by rfl) (fun Kk h => ?_) H h
  obtain ⟨xs, hxs⟩ : ∃ xs, xs = l.map sp := ⟨_, rfl⟩
  rw [← hxs]
  obtain ⟨A, hA⟩ : ∃ A, A = std := ⟨_, rfl⟩
  obtain ⟨S, hS⟩ : ∃ S, S = stS := ⟨_, rfl⟩
  obtain ⟨W, hW⟩ : ∃ W, W = tabS l := ⟨_, rfl⟩
  rw [← hW] at h
  have hv : A.vlen xs = iLen l.length := by subst hA; simp [std, hxs]
  refine go54 rfl (SGo_run hA ⟨[], [], tb1 S, []⟩ (tb1_ok hS) .nil 200 fun T TD hT hTD => ?_)
  cbv
  split <;> cbv
  · refine leaf h (congrArg I ?_) rfl
    rename_i hq; have hq : A.eq (A.vlen xs) 0 = true := hq
    rw [hv] at hq
    subst hA hW
    simp only [std, stS, iLt, iLe, iEq, iNe, iLen, wiS, ouS, bne_iff_ne, ne_eq, beq_iff_eq, Bool.and_eq_true, Bool.or_eq_true, Bool.or_eq_false_iff, Bool.and_eq_false_iff, decide_eq_true_eq, decide_eq_false_iff_not, bne_eq_false_iff_eq, beq_eq_false_iff_ne, Bool.not_eq_true', Bool.not_eq_false'] at *
    simp only [tabS]; rw [if_pos (by omega)]
  rename_i hq; have hq : A.eq (A.vlen xs) 0 = false := hq
  split <;> cbv
  · refine leaf h (congrArg I ?_) rfl
    rename_i hr; have hr : A.lt 20 (A.vlen xs) = true := hr
    rw [hv] at hq hr
    subst hA hW
    simp only [std, stS, iLt, iLe, iEq, iNe, iLen, wiS, ouS, bne_iff_ne, ne_eq, beq_iff_eq, Bool.and_eq_true, Bool.or_eq_true, Bool.or_eq_false_iff, Bool.and_eq_false_iff, decide_eq_true_eq, decide_eq_false_iff_not, bne_eq_false_iff_eq, beq_eq_false_iff_ne, Bool.not_eq_true', Bool.not_eq_false'] at *
    simp only [tabS]; rw [if_neg (by omega), if_pos (by omega)]
  rename_i hr; have hr : A.lt 20 (A.vlen xs) = false := hr
  have hW : W = tabGo none l := by
    rw [hv] at hq hr
    subst hA hW
    simp only [std, stS, iLt, iLe, iEq, iNe, iLen, wiS, ouS, bne_iff_ne, ne_eq, beq_iff_eq, Bool.and_eq_true, Bool.or_eq_true, Bool.or_eq_false_iff, Bool.and_eq_false_iff, decide_eq_true_eq, decide_eq_false_iff_not, bne_eq_false_iff_eq, beq_eq_false_iff_ne, Bool.not_eq_true', Bool.not_eq_false'] at *
    simp only [tabS]; rw [if_neg (by omega), if_neg (by omega)]
  clear hq hr
  rw [hT]
  refine AGo_up l.length (fun j => W = tabGo (ahead l j) (l.drop j)) (fun _ i => [(0, .vs 2 xs), (2, I 0), (13, .vs 2 xs), (14, I (A.vlen xs)), (15, I i)]) (fun _ => []) hW ⟨rfl, rfl, rfl, rfl, rfl, trivial⟩ (.inl rfl) fun j i hi hj hP Bk hB => ?_
  have hlt : A.lt i (A.vlen xs) = decide (j < l.length) := by subst hA; exact lt_len (by simp [hxs]) hi
  have hadd : ∀ N, j < N → N ≤ 9223372036854775807 → A.add .i64 i 1 = iLen (j + 1) := fun N hj hN => by subst hA; exact add_one hi hj hN
  refine SGo_run hA ⟨[], [], tb1 S, []⟩ (tb1_ok hS) .nil 200 fun T TD hT hTD => ?_
  cbv
  split <;> cbv
  · rename_i hk1
    have hk1 : j < l.length := by have := hlt.symm.trans hk1; simpa using this
    obtain ⟨⟨x, y⟩, hx⟩ : ∃ x, l[j]? = some x := ⟨_, List.getElem?_eq_getElem hk1⟩
    have hix : A.ix 2 2 xs i [I x, I y] := by subst hA; exact ix_map hxs hi hx rfl
    rw [drop_cons hx] at hP
    cases j with
    | zero =>
      have h0 : A.eq i 0 = true := by subst hA hi; rfl
      have h0' : A.lt 0 i = false := by subst hA hi; rfl
      have hR : ∀ c, c ≠ 0 → entE none (x, y) = c → W = c := fun c hc h => hP.trans (tabGo_err h hc)
      have hN : entE none (x, y) = 0 → W = tabGo (ahead l 1) (l.drop 1) := fun h => by rw [hP]; simp only [ahead, hx]; exact tabGo_ok h
      repeat' (first | (refine Exists.intro _ (And.intro hix ?_); cbv) | (split <;> first | (rename_i hq; exact Bool.noConfusion (hq.symm.trans h0)) | (rename_i hq; exact Bool.noConfusion (hq.symm.trans h0')) | cbv))
      case' h_2 => refine hB _ _ hk1 (hN ?_) ⟨rfl, rfl, rfl, rfl, congrArg I (hadd _ hk1 (by omega)), trivial⟩ (.inr ⟨⟨_, rfl⟩, Nat.le_refl _, by simp [ltG, AV.lt], trivial⟩)
      all_goals clear hadd hlt hix hv h0 h0' hN hP
      all_goals try refine leaf h (congrArg I (hR _ (by decide) ?_)) rfl
      all_goals clear hR
      all_goals subst hA hS
      all_goals clear hxs
      all_goals
        simp only [std, stS, iLt, iLe, iEq, iNe, iLen, wiS, ouS, bne_iff_ne, ne_eq, beq_iff_eq, Bool.and_eq_true, Bool.or_eq_true, Bool.or_eq_false_iff, Bool.and_eq_false_iff, decide_eq_true_eq, decide_eq_false_iff_not, bne_eq_false_iff_eq, beq_eq_false_iff_ne, Bool.not_eq_true', Bool.not_eq_false'] at *
        simp only [entE]
        repeat' split
        all_goals omega
    | succ k =>
      obtain ⟨⟨u, v⟩, hy⟩ : ∃ y, l[k]? = some y := ⟨_, List.getElem?_eq_getElem (by omega)⟩
      have hsub : A.sub .i64 i 1 = iLen k := by
        subst hA hi
        show iSub .i64 ((k + 1 : Nat) : Int) 1 = (k : Int)
        rw [iSub_id] <;> omega
      have hiy : A.ix 2 2 xs (A.sub .i64 i 1) [I u, I v] := by subst hA; exact ix_map hxs hsub hy rfl
      have h0 : A.eq i 0 = false := by
        subst hA hi
        show (((k + 1 : Nat) : Int) == 0) = false
        rw [beq_eq_false_iff_ne]; omega
      have h0' : A.lt 0 i = true := by
        subst hA hi
        show decide ((0 : Int) < ((k + 1 : Nat) : Int)) = true
        rw [decide_eq_true_eq]; omega
      have hR : ∀ c, c ≠ 0 → entE (some (u, v)) (x, y) = c → W = c := fun c hc h => hP.trans (by simp only [ahead, hy]; exact tabGo_err h hc)
      have hN : entE (some (u, v)) (x, y) = 0 → W = tabGo (ahead l (k + 2)) (l.drop (k + 2)) := fun h => by rw [hP]; simp only [ahead, hx, hy]; exact tabGo_ok h
      repeat' (first | (refine Exists.intro _ (And.intro hix ?_); cbv) | (refine Exists.intro _ (And.intro hiy ?_); cbv) | (split <;> first | (rename_i hq; exact Bool.noConfusion (hq.symm.trans h0)) | (rename_i hq; exact Bool.noConfusion (hq.symm.trans h0')) | cbv))
      case' h_2 => refine hB _ _ hk1 (hN ?_) ⟨rfl, rfl, rfl, rfl, congrArg I (hadd _ hk1 (by omega)), trivial⟩ (.inr ⟨⟨_, rfl⟩, Nat.le_refl _, by simp [ltG, AV.lt], trivial⟩)
      all_goals clear hadd hlt hix hv h0 h0' hN hP hiy hsub
      all_goals try refine leaf h (congrArg I (hR _ (by decide) ?_)) rfl
      all_goals clear hR
      all_goals subst hA hS
      all_goals clear hxs
      all_goals
        simp only [std, stS, iLt, iLe, iEq, iNe, iLen, wiS, ouS, bne_iff_ne, ne_eq, beq_iff_eq, Bool.and_eq_true, Bool.or_eq_true, Bool.or_eq_false_iff, Bool.and_eq_false_iff, decide_eq_true_eq, decide_eq_false_iff_not, bne_eq_false_iff_eq, beq_eq_false_iff_ne, Bool.not_eq_true', Bool.not_eq_false'] at *
        simp only [entE]
        repeat' split
        all_goals omega
  · rename_i hk1
    have hk1 : ¬ j < l.length := by have := hlt.symm.trans hk1; simpa using this
    refine leaf h (congrArg I ?_) rfl
    rw [hP, List.drop_eq_nil_of_le (by omega)]; cases j <;> rfl
theorem eFault_ok {f : Nat} (hf : ∀ (a b c d : Int) (H : AHeap) {Kk : AV → AHeap → Prop}, Kk (I (faultS a b c d)) H → ACalls Tryz.prog f [.agg [I a, I b], I c, I d] H Kk) {S : Sp} (hS : S = stS) :
    ∀ args pt, eFault S args = some pt → ∀ (H : AHeap) (Kk : AV → AHeap → Prop), pt (fun r => Kk r H) → ACalls Tryz.prog f args H Kk := by
  intro args pt h H Kk hk
  subst hS
  unfold eFault at h
  split at h
  · cases h; exact hf _ _ _ _ H hk
  · cases h
theorem eTab_ok {f : Nat} (hf : ∀ (l : List (Int × Int)), l.length ≤ 9223372036854775807 → ∀ (H : AHeap) {Kk : AV → AHeap → Prop}, Kk (I (tabS l)) H → ACalls Tryz.prog f [.vs 2 (l.map sp)] H Kk) {S : Sp} (hS : S = stS) :
    ∀ args pt, eTab S args = some pt → ∀ (H : AHeap) (Kk : AV → AHeap → Prop), pt (fun r => Kk r H) → ACalls Tryz.prog f args H Kk := by
  intro args pt h H Kk hk
  subst hS
  unfold eTab at h
  split at h
  · split at h
    · rename_i ys hy
      cases h
      obtain ⟨l, h1, h2, h3⟩ := hk
      subst h1
      exact (hf _ h2 H h3).wk ⟨asVs_wk hy, trivial⟩
    · cases h
  · cases h
def tb2 (S : Sp) : PTab := (53, eFault S) :: (54, eTab S) :: tb1 S
theorem tb2_ok {S : Sp} (hS : S = stS) : PTabOk Tryz.prog (tb2 S) := .cons (eFault_ok p53 hS) (.cons (eTab_ok p54 hS) (tb1_ok hS))
end Go.Sas
namespace Go.Sas
open Go.Proofs
set_option maxRecDepth 100000
theorem p27 (p : Plate) {a b : Int} {xs ec : List AV} {ne ed gr lo hi sh wi : Int} (hp : PlateIs p a b xs ec ne ed gr lo hi sh wi) (h1 : p.shares.length ≤ 9223372036854775807) (h2 : p.creep.length ≤ 9223372036854775807) (H : AHeap) {Kk : AV → AHeap → Prop} (h : Kk (I (checkS p)) H) :
    ACalls Tryz.prog 27 [plV a b (.vs 2 xs) (.vs 2 ec) ne ed gr lo hi sh wi] H Kk := by
  obtain ⟨pst, l1, l2, q1, q2, q3, q4, q5, q6, q7⟩ := p
  obtain ⟨hs, hc, e1, e2, e3, e4, e5, e6, e7, e8⟩ := hp
  simp only at hs hc e1 e2 e3 e4 e5 e6 e7 e8 h1 h2
  subst e1 e2 e3 e4 e5 e6 e7 e8
  refine pureC (by rfl) (by rfl) (fun Kk h => ?_) H h
  obtain ⟨A, hA⟩ : ∃ A, A = std := ⟨_, rfl⟩
  obtain ⟨S, hS⟩ : ∃ S, S = stS := ⟨_, rfl⟩
  obtain ⟨W, hW⟩ : ∃ W, W = checkS ⟨(a, b), l1, l2, q1, q2, q3, q4, q5, q6, q7⟩ := ⟨_, rfl⟩
  rw [← hW] at h
  refine go27 rfl (SGo_run hA ⟨[], [], tb2 S, []⟩ (tb2_ok hS) .nil 200 fun T TD hT hTD => ?_)
  clear hT hTD
  cbv
  repeat' (first | (refine ⟨l1, hs, h1, ?_⟩; cbv) | (refine ⟨l2, hc, h2, ?_⟩; cbv) | (split <;> cbv))
  all_goals
    refine leaf h (congrArg I ?_) rfl
    clear h
    subst hA hS hW
    clear h1 h2 hs hc
    simp only [std, stS, iLt, iLe, iEq, iNe, iLen, wiS, ouS, bne_iff_ne, ne_eq, beq_iff_eq, Bool.and_eq_true, Bool.or_eq_true, Bool.or_eq_false_iff, Bool.and_eq_false_iff, decide_eq_true_eq, decide_eq_false_iff_not, bne_eq_false_iff_eq, beq_eq_false_iff_ne, Bool.not_eq_true', Bool.not_eq_false'] at *
    simp only [checkS]
    repeat' split
    all_goals omega
theorem firstE_err {α : Type} {f : α → Int} {x : α} {l : List α} {c : Int} (h : f x = c) (hc : c ≠ 0) : firstE f (x :: l) = c := by simp [firstE, h, hc]
theorem firstE_ok {α : Type} {f : α → Int} {x : α} {l : List α} (h : f x = 0) : firstE f (x :: l) = firstE f l := by simp [firstE, h]
theorem p29 (l : List (Int × Int)) (a b : Int) (hl : l.length ≤ 9223372036854775807) (H : AHeap) {Kk : AV → AHeap → Prop} (h : Kk (I (faultsS l a b)) H) : ACalls Tryz.prog 29 [.vs 2 (l.map sp), I a, I b] H Kk := by
  refine pureC (by rfl) (by rfl) (fun Kk h => ?_) H h
  obtain ⟨xs, hxs⟩ : ∃ xs, xs = l.map sp := ⟨_, rfl⟩
  rw [← hxs]
  obtain ⟨A, hA⟩ : ∃ A, A = std := ⟨_, rfl⟩
  obtain ⟨S, hS⟩ : ∃ S, S = stS := ⟨_, rfl⟩
  obtain ⟨W, hW⟩ : ∃ W, W = faultsS l a b := ⟨_, rfl⟩
  rw [← hW] at h
  have hv : A.vlen xs = iLen l.length := by subst hA; simp [std, hxs]
  refine go29 rfl (SGo_run hA ⟨[], [], tb2 S, []⟩ (tb2_ok hS) .nil 200 fun T TD hT hTD => ?_)
  cbv
  split <;> cbv
  · refine leaf h (congrArg I ?_) rfl
    rename_i hr; have hr : A.lt a (A.vlen xs) = true := hr
    rw [hv] at hr
    subst hA hW
    simp only [std, stS, iLt, iLe, iEq, iNe, iLen, wiS, ouS, bne_iff_ne, ne_eq, beq_iff_eq, Bool.and_eq_true, Bool.or_eq_true, Bool.or_eq_false_iff, Bool.and_eq_false_iff, decide_eq_true_eq, decide_eq_false_iff_not, bne_eq_false_iff_eq, beq_eq_false_iff_ne, Bool.not_eq_true', Bool.not_eq_false'] at *
    simp only [faultsS]; rw [if_pos (by omega)]
  rename_i hr; have hr : A.lt a (A.vlen xs) = false := hr
  have hW : W = firstE (fun x => faultS x.1 x.2 0 b) l := by
    rw [hv] at hr
    subst hA hW
    simp only [std, stS, iLt, iLe, iEq, iNe, iLen, wiS, ouS, bne_iff_ne, ne_eq, beq_iff_eq, Bool.and_eq_true, Bool.or_eq_true, Bool.or_eq_false_iff, Bool.and_eq_false_iff, decide_eq_true_eq, decide_eq_false_iff_not, bne_eq_false_iff_eq, beq_eq_false_iff_ne, Bool.not_eq_true', Bool.not_eq_false'] at *
    simp only [faultsS]; rw [if_neg (by omega)]
  clear hr
  rw [hT]
  refine AGo_up l.length (fun j => W = firstE (fun x : Int × Int => faultS x.1 x.2 0 b) (l.drop j)) (fun _ i => [(0, .vs 2 xs), (1, I a), (2, I b), (6, I 0), (14, .vs 2 xs), (15, I (A.vlen xs)), (16, I i)]) (fun _ => []) hW ⟨rfl, rfl, rfl, rfl, rfl, rfl, rfl, trivial⟩ (.inl rfl) fun j i hi hj hP Bk hB => ?_
  have hlt : A.lt i (A.vlen xs) = decide (j < l.length) := by subst hA; exact lt_len (by simp [hxs]) hi
  have hadd : ∀ N, j < N → N ≤ 9223372036854775807 → A.add .i64 i 1 = iLen (j + 1) := fun N hj hN => by subst hA; exact add_one hi hj hN
  refine SGo_run hA ⟨[], [], tb2 S, []⟩ (tb2_ok hS) .nil 200 fun T TD hT hTD => ?_
  cbv
  split <;> cbv
  · rename_i hk1
    have hk1 : j < l.length := by have := hlt.symm.trans hk1; simpa using this
    obtain ⟨⟨x, y⟩, hx⟩ : ∃ x, l[j]? = some x := ⟨_, List.getElem?_eq_getElem hk1⟩
    have hix : A.ix 2 2 xs i [I x, I y] := by subst hA; exact ix_map hxs hi hx rfl
    rw [drop_cons hx] at hP
    have hR : ∀ c, c ≠ 0 → (fun x : Int × Int => faultS x.1 x.2 0 b) ⟨x, y⟩ = c → W = c := fun c hc h => hP.trans (firstE_err h hc)
    have hN : (fun x : Int × Int => faultS x.1 x.2 0 b) ⟨x, y⟩ = 0 → W = firstE (fun x : Int × Int => faultS x.1 x.2 0 b) (l.drop (j + 1)) := fun h => hP.trans (firstE_ok h)
    repeat' (first | (refine Exists.intro _ (And.intro hix ?_); cbv) | (split <;> cbv))
    all_goals first | refine leaf h (congrArg I (hR _ ?_ ?_)) rfl | refine hB _ _ hk1 (hN ?_) ⟨rfl, rfl, rfl, rfl, rfl, rfl, congrArg I (hadd _ hk1 (by omega)), trivial⟩ (.inr ⟨⟨_, rfl⟩, Nat.le_refl _, by simp [ltG, AV.lt], trivial⟩)
    all_goals clear hadd hlt hix hv hN hP hR
    all_goals
      subst hA hS
      clear hxs
      simp only [std, stS, iLt, iLe, iEq, iNe, iLen, wiS, ouS, bne_iff_ne, ne_eq, beq_iff_eq, Bool.and_eq_true, Bool.or_eq_true, Bool.or_eq_false_iff, Bool.and_eq_false_iff, decide_eq_true_eq, decide_eq_false_iff_not, bne_eq_false_iff_eq, beq_eq_false_iff_ne, Bool.not_eq_true', Bool.not_eq_false'] at *
      try simp only [id_eq]
      repeat' split
      all_goals omega
  · rename_i hk1
    have hk1 : ¬ j < l.length := by have := hlt.symm.trans hk1; simpa using this
    refine leaf h (congrArg I ?_) rfl
    rw [hP, List.drop_eq_nil_of_le (by omega)]; rfl
theorem p39 (l : List Load) (a : Int) (hl : l.length ≤ 9223372036854775807) (ha : 0 ≤ a ∧ a < 46116860184273879) (H : AHeap) {Kk : AV → AHeap → Prop} (h : Kk (I (loadsS a l)) H) : ACalls Tryz.prog 39 [.vs 4 (l.map ldV), I a] H Kk := by
  refine pureC (by rfl) (by rfl) (fun Kk h => ?_) H h
  obtain ⟨xs, hxs⟩ : ∃ xs, xs = l.map ldV := ⟨_, rfl⟩
  rw [← hxs]
  obtain ⟨A, hA⟩ : ∃ A, A = std := ⟨_, rfl⟩
  obtain ⟨S, hS⟩ : ∃ S, S = stS := ⟨_, rfl⟩
  obtain ⟨W, hW⟩ : ∃ W, W = loadsS a l := ⟨_, rfl⟩
  rw [← hW] at h
  have hv : A.vlen xs = iLen l.length := by subst hA; simp [std, hxs]
  have hm : A.sub .i64 (A.mul .i64 100 a) 1 = 100 * a - 1 := by subst hA; simp only [std]; rw [iMul_id (by omega) (by omega), iSub_id (by omega) (by omega)]
  refine go39 rfl (SGo_run hA ⟨[], [], tb2 S, []⟩ (tb2_ok hS) .nil 200 fun T TD hT hTD => ?_)
  cbv
  split <;> cbv
  · refine leaf h (congrArg I ?_) rfl
    rename_i hr; have hr : A.lt 30 (A.vlen xs) = true := hr
    rw [hv] at hr
    subst hA hW
    simp only [std, stS, iLt, iLe, iEq, iNe, iLen, wiS, ouS, bne_iff_ne, ne_eq, beq_iff_eq, Bool.and_eq_true, Bool.or_eq_true, Bool.or_eq_false_iff, Bool.and_eq_false_iff, decide_eq_true_eq, decide_eq_false_iff_not, bne_eq_false_iff_eq, beq_eq_false_iff_ne, Bool.not_eq_true', Bool.not_eq_false'] at *
    simp only [loadsS]; rw [if_pos (by omega)]
  rename_i hr; have hr : A.lt 30 (A.vlen xs) = false := hr
  have hW : W = firstE (loadE a) l := by
    rw [hv] at hr
    subst hA hW
    simp only [std, stS, iLt, iLe, iEq, iNe, iLen, wiS, ouS, bne_iff_ne, ne_eq, beq_iff_eq, Bool.and_eq_true, Bool.or_eq_true, Bool.or_eq_false_iff, Bool.and_eq_false_iff, decide_eq_true_eq, decide_eq_false_iff_not, bne_eq_false_iff_eq, beq_eq_false_iff_ne, Bool.not_eq_true', Bool.not_eq_false'] at *
    simp only [loadsS]; rw [if_neg (by omega)]
  clear hr
  rw [hT]
  refine AGo_up l.length (fun j => W = firstE (loadE a) (l.drop j)) (fun _ i => [(0, .vs 4 xs), (1, I a), (4, I 0), (11, .vs 4 xs), (12, I (A.vlen xs)), (13, I i)]) (fun _ => []) hW ⟨rfl, rfl, rfl, rfl, rfl, rfl, trivial⟩ (.inl rfl) fun j i hi hj hP Bk hB => ?_
  have hlt : A.lt i (A.vlen xs) = decide (j < l.length) := by subst hA; exact lt_len (by simp [hxs]) hi
  have hadd : ∀ N, j < N → N ≤ 9223372036854775807 → A.add .i64 i 1 = iLen (j + 1) := fun N hj hN => by subst hA; exact add_one hi hj hN
  refine SGo_run hA ⟨[], [], tb2 S, []⟩ (tb2_ok hS) .nil 200 fun T TD hT hTD => ?_
  cbv
  split <;> cbv
  · rename_i hk1
    have hk1 : j < l.length := by have := hlt.symm.trans hk1; simpa using this
    obtain ⟨⟨x, ⟨y, z⟩, t⟩, hx⟩ : ∃ x, l[j]? = some x := ⟨_, List.getElem?_eq_getElem hk1⟩
    have hix : A.ix 4 4 xs i [I x, I y, I z, I t] := by subst hA; exact ix_map hxs hi hx rfl
    rw [drop_cons hx] at hP
    have hR : ∀ c, c ≠ 0 → (loadE a) ⟨x, ⟨y, z⟩, t⟩ = c → W = c := fun c hc h => hP.trans (firstE_err h hc)
    have hN : (loadE a) ⟨x, ⟨y, z⟩, t⟩ = 0 → W = firstE (loadE a) (l.drop (j + 1)) := fun h => hP.trans (firstE_ok h)
    repeat' (first | (refine Exists.intro _ (And.intro hix ?_); cbv) | (split <;> cbv))
    all_goals first | refine leaf h (congrArg I (hR _ ?_ ?_)) rfl | refine hB _ _ hk1 (hN ?_) ⟨rfl, rfl, rfl, rfl, rfl, congrArg I (hadd _ hk1 (by omega)), trivial⟩ (.inr ⟨⟨_, rfl⟩, Nat.le_refl _, by simp [ltG, AV.lt], trivial⟩)
    all_goals clear hadd hlt hix hv hN hP hR
    all_goals
      subst hA hS
      clear hxs
      simp only [std, stS, iLt, iLe, iEq, iNe, iLen, wiS, ouS, bne_iff_ne, ne_eq, beq_iff_eq, Bool.and_eq_true, Bool.or_eq_true, Bool.or_eq_false_iff, Bool.and_eq_false_iff, decide_eq_true_eq, decide_eq_false_iff_not, bne_eq_false_iff_eq, beq_eq_false_iff_ne, Bool.not_eq_true', Bool.not_eq_false'] at *
      try simp only [loadE]
      repeat' split
      all_goals omega
  · rename_i hk1
    have hk1 : ¬ j < l.length := by have := hlt.symm.trans hk1; simpa using this
    refine leaf h (congrArg I ?_) rfl
    rw [hP, List.drop_eq_nil_of_le (by omega)]; rfl
end Go.Sas
namespace Go.Sas
open Go.Proofs
set_option maxRecDepth 100000
theorem lastF_take {l : List (Int × Int)} {n : Int} {o x : Int × Int} {j : Nat} (hx : l[j]? = some x) : (l.take (j + 1)).foldl (lastF n) o = lastF n ((l.take j).foldl (lastF n) o) x := by
  rw [List.take_add_one, hx]; simp
theorem p56 (a b : Int) (H : AHeap) {Kk : AV → AHeap → Prop} (h : Kk (I a) H) : ACalls Tryz.prog 56 [.agg [I a, I b]] H Kk := by
  refine pureC (by rfl) (by rfl) (fun Kk h => ?_) H h
  obtain ⟨A, hA⟩ : ∃ A, A = std := ⟨_, rfl⟩
  refine go56 rfl (SGo_run hA ⟨[], [], [], []⟩ .nil .nil 200 fun T TD hT hTD => ?_)
  cbv
  exact h
def eFrom : List AV → Option ((AV → Prop) → Prop)
  | [.agg [.lit (.int .i64 a), .lit (.int .i64 _)]] => some fun K => K (I a)
  | _ => none
theorem eFrom_ok : ∀ args pt, eFrom args = some pt → ∀ (H : AHeap) (Kk : AV → AHeap → Prop), pt (fun r => Kk r H) → ACalls Tryz.prog 56 args H Kk := by
  intro args pt h H Kk hk
  unfold eFrom at h
  split at h
  · cases h; exact p56 _ _ H hk
  · cases h
theorem p55 (l : List (Int × Int)) (n : Int) (h0 : l ≠ []) (hl : l.length ≤ 9223372036854775807) (H : AHeap) {Kk : AV → AHeap → Prop} (h : Kk (.agg [I (lastS l n).1, I (lastS l n).2]) H) : ACalls Tryz.prog 55 [.vs 2 (l.map sp), I n, .fn 56 []] H Kk := by
  obtain ⟨⟨x0, y0⟩, hx0⟩ : ∃ x, l[0]? = some x := by cases l with | nil => exact absurd rfl h0 | cons x l' => exact ⟨x, rfl⟩
  have hd : l.headD (0, 0) = (x0, y0) := by cases l with | nil => cases hx0 | cons x l' => simpa using hx0
  refine pureC (by rfl) (by rfl) (fun Kk h => ?_) H h
  obtain ⟨xs, hxs⟩ : ∃ xs, xs = l.map sp := ⟨_, rfl⟩
  rw [← hxs]
  obtain ⟨A, hA⟩ : ∃ A, A = std := ⟨_, rfl⟩
  have hv : A.vlen xs = iLen l.length := by subst hA; simp [std, hxs]
  have hi0 : A.ix 2 2 xs 0 [I x0, I y0] := by subst hA; exact ix_map (j := 0) hxs rfl hx0 rfl
  refine go55 rfl (SGo_run hA ⟨[], [], [(56, eFrom)], []⟩ (.cons eFrom_ok .nil) .nil 200 fun T TD hT hTD => ?_)
  cbv
  refine ⟨_, hi0, ?_⟩
  cbv
  rw [hT]
  refine AGo_upS l.length (fun j (o : Int × Int) => o = (l.take j).foldl (lastF n) (x0, y0)) (fun _ o i => [(0, .vs 2 xs), (1, I n), (2, .fn 56 []), (6, .mp 0 0 0), (7, .mp 1 0 0), (13, .vs 2 xs), (14, I (A.vlen xs)), (15, I i)]) (fun _ o => [.own 0 [I 0, I 0], .own 0 [I o.1, I o.2]]) (x0, y0) rfl ⟨rfl, rfl, rfl, rfl, rfl, rfl, rfl, rfl, trivial⟩ (.inl rfl) fun j o i hi hj hP Bk hB => ?_
  obtain ⟨o1, o2⟩ := o
  have hlt : A.lt i (A.vlen xs) = decide (j < l.length) := by subst hA; exact lt_len (by simp [hxs]) hi
  have hadd : ∀ N, j < N → N ≤ 9223372036854775807 → A.add .i64 i 1 = iLen (j + 1) := fun N hj hN => by subst hA; exact add_one hi hj hN
  refine SGo_run hA ⟨[], [], [(56, eFrom)], []⟩ (.cons eFrom_ok .nil) .nil 200 fun T TD hT hTD => ?_
  cbv
  split <;> cbv
  · rename_i hk1
    have hk1 : j < l.length := by have := hlt.symm.trans hk1; simpa using this
    obtain ⟨⟨x, y⟩, hx⟩ : ∃ x, l[j]? = some x := ⟨_, List.getElem?_eq_getElem hk1⟩
    have hix : A.ix 2 2 xs i [I x, I y] := by subst hA; exact ix_map hxs hi hx rfl
    repeat' (first | (refine Exists.intro _ (And.intro hix ?_); cbv) | (split <;> cbv))
    · rename_i hq
      have hq : x ≤ n := by have hq : A.le x n = true := hq; subst hA; simpa [std, iLe] using hq
      exact hB (x, y) _ _ hk1 (by rw [lastF_take hx]; simp [lastF, hq]) ⟨rfl, rfl, rfl, rfl, rfl, rfl, rfl, congrArg I (hadd _ hk1 (by omega)), trivial⟩ (.inr ⟨⟨_, rfl⟩, Nat.zero_le _, by simp [ltG, AV.lt, AV.ltL], by simp [ltH, AObj.lt, AV.ltL, AV.lt]⟩)
    · rename_i hq
      have hq : ¬ x ≤ n := by have hq : A.le x n = false := hq; subst hA; simpa [std, iLe] using hq
      exact hB (o1, o2) _ _ hk1 (by rw [lastF_take hx]; simp only [lastF]; rw [if_neg (by simpa using hq)]; exact hP) ⟨rfl, rfl, rfl, rfl, rfl, rfl, rfl, congrArg I (hadd _ hk1 (by omega)), trivial⟩ (.inr ⟨⟨_, rfl⟩, Nat.zero_le _, by simp [ltG, AV.lt, AV.ltL], by simp [ltH, AObj.lt, AV.ltL, AV.lt]⟩)
  · rename_i hk1
    have hk1 : ¬ j < l.length := by have := hlt.symm.trans hk1; simpa using this
    have : (o1, o2) = lastS l n := by rw [hP, lastS, hd, List.take_of_length_le (by omega)]
    rw [← this] at h
    exact h
def eLast (S : Sp) : List AV → Option ((AV → Prop) → Prop)
  | [x, .lit (.int .i64 n), .fn 56 []] => match asVs 2 x with
    | some xs => some fun K => ∃ l, xs = l.map sp ∧ l ≠ [] ∧ l.length ≤ 9223372036854775807 ∧ ∀ q, K (.agg [I q, I (S.part l n)])
    | none => none
  | _ => none
theorem eLast_ok {S : Sp} (hS : S = stS) : ∀ args pt, eLast S args = some pt → ∀ (H : AHeap) (Kk : AV → AHeap → Prop), pt (fun r => Kk r H) → ACalls Tryz.prog 55 args H Kk := by
  intro args pt h H Kk hk
  subst hS
  unfold eLast at h
  split at h
  · split at h
    · rename_i ys hy
      cases h
      obtain ⟨l, h1, h2, h3, h4⟩ := hk
      subst h1
      exact (p55 _ _ h2 h3 H (h4 _)).wk ⟨asVs_wk hy, Wk.rfl, Wk.rfl, trivial⟩
    · cases h
  · cases h
theorem p32 (l : List (Int × Int)) (n : Int) (h0 : l ≠ []) (hl : l.length ≤ 9223372036854775807) (H : AHeap) {Kk : AV → AHeap → Prop} (h : Kk (I (partS l n)) H) : ACalls Tryz.prog 32 [.vs 2 (l.map sp), I n] H Kk := by
  refine pureC (by rfl) (by rfl) (fun Kk h => ?_) H h
  obtain ⟨xs, hxs⟩ : ∃ xs, xs = l.map sp := ⟨_, rfl⟩
  rw [← hxs]
  obtain ⟨A, hA⟩ : ∃ A, A = std := ⟨_, rfl⟩
  obtain ⟨S, hS⟩ : ∃ S, S = stS := ⟨_, rfl⟩
  obtain ⟨W, hW⟩ : ∃ W, W = partS l n := ⟨_, rfl⟩
  rw [← hW] at h
  have hv : A.vlen xs = iLen l.length := by subst hA; simp [std, hxs]
  refine go32 rfl (SGo_run hA ⟨[], [], [(55, eLast S)], []⟩ (.cons (eLast_ok hS) .nil) .nil 200 fun T TD hT hTD => ?_)
  cbv
  refine ⟨l, hxs, h0, hl, fun q => ?_⟩
  cbv
  refine leaf h (congrArg I ?_) rfl
  subst hS; exact hW
end Go.Sas
