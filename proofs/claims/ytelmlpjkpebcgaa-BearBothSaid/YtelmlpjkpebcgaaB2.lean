/-
What the functions that ice rests on yield, part 2: plates, lists of spans and of loads.
Conditions: none.
-/
import Derived.Test.YtelmlpjkpebcgaaB1
set_option linter.unusedVariables false
set_option linter.unusedSimpArgs false
namespace Go.Sas
open Go.Proofs
set_option maxRecDepth 100000
theorem p60 (p : Plate) {a b : Int} {xs ec : List AV} {ne ed gr lo hi sh wi : Int} (hp : PlateIs p a b xs ec ne ed gr lo hi sh wi) (h1 : p.shares.length ≤ 9223372036854775807) (h2 : p.creep.length ≤ 9223372036854775807) (H : AHeap) {Kk : AV → AHeap → Prop} (h : Kk (I (checkS p)) H) :
    ACalls Try.prog 60 [plV a b (.vs 2 xs) (.vs 2 ec) ne ed gr lo hi sh wi] H Kk := by
  obtain ⟨pst, l1, l2, q1, q2, q3, q4, q5, q6, q7⟩ := p
  obtain ⟨hs, hc, e1, e2, e3, e4, e5, e6, e7, e8⟩ := hp
  simp only at hs hc e1 e2 e3 e4 e5 e6 e7 e8 h1 h2
  subst e1 e2 e3 e4 e5 e6 e7 e8
  refine pureC (by rfl) (by rfl) (fun Kk h => ?_) H h
  obtain ⟨A, hA⟩ : ∃ A, A = std := ⟨_, rfl⟩
  obtain ⟨S, hS⟩ : ∃ S, S = stS := ⟨_, rfl⟩
  obtain ⟨W, hW⟩ : ∃ W, W = checkS ⟨(a, b), l1, l2, q1, q2, q3, q4, q5, q6, q7⟩ := ⟨_, rfl⟩
  rw [← hW] at h
  refine go60 rfl (SGo_run hA ⟨[], [], tb2 S, []⟩ (tb2_ok hS) .nil 200 fun T TD hT hTD => ?_)
  clear hT hTD
  cbv
  repeat' (first | (refine ⟨l1, hs, h1, ?_⟩; cbv) | (refine ⟨l2, hc, h2, ?_⟩; cbv) | (split <;> cbv))
  all_goals
    refine leaf h (congrArg I ?_) rfl
    clear h
    subst hA hS hW
    clear h1 h2 hs hc
    simp only [std, stS, iLt, iLe, iEq, iNe, iLen, wiS, ouS, bne_iff_ne, ne_eq, beq_iff_eq, Bool.and_eq_true, Bool.or_eq_true, Bool.or_eq_false_iff, Bool.and_eq_false_iff, decide_eq_true_eq, decide_eq_false_iff_not, bne_eq_false_iff_eq, beq_eq_false_iff_ne, Bool.not_eq_true', Bool.not_eq_false'] at *
    simp only [checkS]
    repeat' split
    all_goals omega
theorem p59 (p : Plate) {a b : Int} {xs ec : List AV} {ne ed gr lo hi sh wi : Int} (hp : PlateIs p a b xs ec ne ed gr lo hi sh wi) (h1 : p.shares.length ≤ 9223372036854775807) (h2 : p.creep.length ≤ 9223372036854775807) (H : AHeap) {Kk : AV → AHeap → Prop} (h : Kk (I (checkS p)) H) :
    ACalls Try.prog 59 [plV a b (.vs 2 xs) (.vs 2 ec) ne ed gr lo hi sh wi] H Kk := by
  obtain ⟨pst, l1, l2, q1, q2, q3, q4, q5, q6, q7⟩ := p
  obtain ⟨hs, hc, e1, e2, e3, e4, e5, e6, e7, e8⟩ := hp
  simp only at hs hc e1 e2 e3 e4 e5 e6 e7 e8 h1 h2
  subst e1 e2 e3 e4 e5 e6 e7 e8
  refine pureC (by rfl) (by rfl) (fun Kk h => ?_) H h
  obtain ⟨A, hA⟩ : ∃ A, A = std := ⟨_, rfl⟩
  obtain ⟨S, hS⟩ : ∃ S, S = stS := ⟨_, rfl⟩
  obtain ⟨W, hW⟩ : ∃ W, W = checkS ⟨(a, b), l1, l2, q1, q2, q3, q4, q5, q6, q7⟩ := ⟨_, rfl⟩
  rw [← hW] at h
  refine go59 rfl (SGo_run hA ⟨[], [], tb2 S, []⟩ (tb2_ok hS) .nil 200 fun T TD hT hTD => ?_)
  clear hT hTD
  cbv
  repeat' (first | (refine ⟨l1, hs, h1, ?_⟩; cbv) | (refine ⟨l2, hc, h2, ?_⟩; cbv) | (split <;> cbv))
  all_goals
    refine leaf h (congrArg I ?_) rfl
    clear h
    subst hA hS hW
    clear h1 h2 hs hc
    simp only [std, stS, iLt, iLe, iEq, iNe, iLen, wiS, ouS, bne_iff_ne, ne_eq, beq_iff_eq, Bool.and_eq_true, Bool.or_eq_true, Bool.or_eq_false_iff, Bool.and_eq_false_iff, decide_eq_true_eq, decide_eq_false_iff_not, bne_eq_false_iff_eq, beq_eq_false_iff_ne, Bool.not_eq_true', Bool.not_eq_false'] at *
    simp only [checkS]
    repeat' split
    all_goals omega
theorem firstE_err {α : Type} {f : α → Int} {x : α} {l : List α} {c : Int} (h : f x = c) (hc : c ≠ 0) : firstE f (x :: l) = c := by simp [firstE, h, hc]
theorem firstE_ok {α : Type} {f : α → Int} {x : α} {l : List α} (h : f x = 0) : firstE f (x :: l) = firstE f l := by simp [firstE, h]
theorem p112 (l : List (Int × Int)) (a b : Int) (hl : l.length ≤ 9223372036854775807) (H : AHeap) {Kk : AV → AHeap → Prop} (h : Kk (I (faultsS l a b)) H) : ACalls Try.prog 112 [.vs 2 (l.map sp), I a, I b] H Kk := by
  refine pureC (by rfl) (by rfl) (fun Kk h => ?_) H h
  obtain ⟨xs, hxs⟩ : ∃ xs, xs = l.map sp := ⟨_, rfl⟩
  rw [← hxs]
  obtain ⟨A, hA⟩ : ∃ A, A = std := ⟨_, rfl⟩
  obtain ⟨S, hS⟩ : ∃ S, S = stS := ⟨_, rfl⟩
  obtain ⟨W, hW⟩ : ∃ W, W = faultsS l a b := ⟨_, rfl⟩
  rw [← hW] at h
  have hv : A.vlen xs = iLen l.length := by subst hA; simp [std, hxs]
  refine go112 rfl (SGo_run hA ⟨[], [], tb2 S, []⟩ (tb2_ok hS) .nil 200 fun T TD hT hTD => ?_)
  cbv
  split <;> cbv
  · refine leaf h (congrArg I ?_) rfl
    rename_i hr; have hr : A.lt a (A.vlen xs) = true := hr
    rw [hv] at hr
    subst hA hW
    simp only [std, stS, iLt, iLe, iEq, iNe, iLen, wiS, ouS, bne_iff_ne, ne_eq, beq_iff_eq, Bool.and_eq_true, Bool.or_eq_true, Bool.or_eq_false_iff, Bool.and_eq_false_iff, decide_eq_true_eq, decide_eq_false_iff_not, bne_eq_false_iff_eq, beq_eq_false_iff_ne, Bool.not_eq_true', Bool.not_eq_false'] at *
    simp only [faultsS]; rw [if_pos (by omega)]
  rename_i hr; have hr : A.lt a (A.vlen xs) = false := hr
  have hW : W = firstE (fun x => faultS x.1 x.2 0 b) l := by
    rw [hv] at hr
    subst hA hW
    simp only [std, stS, iLt, iLe, iEq, iNe, iLen, wiS, ouS, bne_iff_ne, ne_eq, beq_iff_eq, Bool.and_eq_true, Bool.or_eq_true, Bool.or_eq_false_iff, Bool.and_eq_false_iff, decide_eq_true_eq, decide_eq_false_iff_not, bne_eq_false_iff_eq, beq_eq_false_iff_ne, Bool.not_eq_true', Bool.not_eq_false'] at *
    simp only [faultsS]; rw [if_neg (by omega)]
  clear hr
  rw [hT]
  refine AGo_up l.length (fun j => W = firstE (fun x : Int × Int => faultS x.1 x.2 0 b) (l.drop j)) (fun _ i => [(0, .vs 2 xs), (1, I a), (2, I b), (6, I 0), (7, I i)]) (fun _ => []) hW ⟨rfl, rfl, rfl, rfl, rfl, trivial⟩ (.inl rfl) fun j i hi hj hP Bk hB => ?_
  have hlt : A.lt i (A.vlen xs) = decide (j < l.length) := by subst hA; exact lt_len (by simp [hxs]) hi
  have hadd : ∀ N, j < N → N ≤ 9223372036854775807 → A.add .i64 i 1 = iLen (j + 1) := fun N hj hN => by subst hA; exact add_one hi hj hN
  refine SGo_run hA ⟨[], [], tb2 S, []⟩ (tb2_ok hS) .nil 200 fun T TD hT hTD => ?_
  cbv
  split <;> cbv
  · rename_i hk1
    have hk1 : j < l.length := by have := hlt.symm.trans hk1; simpa using this
    obtain ⟨⟨x, y⟩, hx⟩ : ∃ x, l[j]? = some x := ⟨_, List.getElem?_eq_getElem hk1⟩
    have hix : A.ix 2 2 xs i [I x, I y] := by subst hA; exact ix_map hxs hi hx rfl
    rw [drop_cons hx] at hP
    have hR : ∀ c, c ≠ 0 → (fun x : Int × Int => faultS x.1 x.2 0 b) ⟨x, y⟩ = c → W = c := fun c hc h => hP.trans (firstE_err h hc)
    have hN : (fun x : Int × Int => faultS x.1 x.2 0 b) ⟨x, y⟩ = 0 → W = firstE (fun x : Int × Int => faultS x.1 x.2 0 b) (l.drop (j + 1)) := fun h => hP.trans (firstE_ok h)
    repeat' (first | (refine Exists.intro _ (And.intro hix ?_); cbv) | (split <;> cbv))
    all_goals first | refine leaf h (congrArg I (hR _ ?_ ?_)) rfl | refine hB _ _ hk1 (hN ?_) ⟨rfl, rfl, rfl, rfl, congrArg I (hadd _ hk1 (by omega)), trivial⟩ (.inl rfl)
    all_goals clear hadd hlt hix hv hN hP hR
    all_goals
      subst hA hS
      clear hxs
      simp only [std, stS, iLt, iLe, iEq, iNe, iLen, wiS, ouS, bne_iff_ne, ne_eq, beq_iff_eq, Bool.and_eq_true, Bool.or_eq_true, Bool.or_eq_false_iff, Bool.and_eq_false_iff, decide_eq_true_eq, decide_eq_false_iff_not, bne_eq_false_iff_eq, beq_eq_false_iff_ne, Bool.not_eq_true', Bool.not_eq_false'] at *
      try simp only [id_eq]
      repeat' split
      all_goals omega
  · rename_i hk1
    have hk1 : ¬ j < l.length := by have := hlt.symm.trans hk1; simpa using this
    refine leaf h (congrArg I ?_) rfl
    rw [hP, List.drop_eq_nil_of_le (by omega)]; rfl
theorem p108 (l : List (Int × Int)) (a b : Int) (hl : l.length ≤ 9223372036854775807) (H : AHeap) {Kk : AV → AHeap → Prop} (h : Kk (I (faultsS l a b)) H) : ACalls Try.prog 108 [.vs 2 (l.map sp), I a, I b] H Kk := by
  refine pureC (by rfl) (by rfl) (fun Kk h => ?_) H h
  obtain ⟨xs, hxs⟩ : ∃ xs, xs = l.map sp := ⟨_, rfl⟩
  rw [← hxs]
  obtain ⟨A, hA⟩ : ∃ A, A = std := ⟨_, rfl⟩
  obtain ⟨S, hS⟩ : ∃ S, S = stS := ⟨_, rfl⟩
  obtain ⟨W, hW⟩ : ∃ W, W = faultsS l a b := ⟨_, rfl⟩
  rw [← hW] at h
  have hv : A.vlen xs = iLen l.length := by subst hA; simp [std, hxs]
  refine go108 rfl (SGo_run hA ⟨[], [], tb2 S, []⟩ (tb2_ok hS) .nil 200 fun T TD hT hTD => ?_)
  cbv
  split <;> cbv
  · refine leaf h (congrArg I ?_) rfl
    rename_i hr; have hr : A.lt a (A.vlen xs) = true := hr
    rw [hv] at hr
    subst hA hW
    simp only [std, stS, iLt, iLe, iEq, iNe, iLen, wiS, ouS, bne_iff_ne, ne_eq, beq_iff_eq, Bool.and_eq_true, Bool.or_eq_true, Bool.or_eq_false_iff, Bool.and_eq_false_iff, decide_eq_true_eq, decide_eq_false_iff_not, bne_eq_false_iff_eq, beq_eq_false_iff_ne, Bool.not_eq_true', Bool.not_eq_false'] at *
    simp only [faultsS]; rw [if_pos (by omega)]
  rename_i hr; have hr : A.lt a (A.vlen xs) = false := hr
  have hW : W = firstE (fun x => faultS x.1 x.2 0 b) l := by
    rw [hv] at hr
    subst hA hW
    simp only [std, stS, iLt, iLe, iEq, iNe, iLen, wiS, ouS, bne_iff_ne, ne_eq, beq_iff_eq, Bool.and_eq_true, Bool.or_eq_true, Bool.or_eq_false_iff, Bool.and_eq_false_iff, decide_eq_true_eq, decide_eq_false_iff_not, bne_eq_false_iff_eq, beq_eq_false_iff_ne, Bool.not_eq_true', Bool.not_eq_false'] at *
    simp only [faultsS]; rw [if_neg (by omega)]
  clear hr
  rw [hT]
  refine AGo_up l.length (fun j => W = firstE (fun x : Int × Int => faultS x.1 x.2 0 b) (l.drop j)) (fun _ i => [(0, .vs 2 xs), (1, I a), (2, I b), (6, I 0), (14, .vs 2 xs), (15, I (A.vlen xs)), (16, I i)]) (fun _ => []) hW ⟨rfl, rfl, rfl, rfl, rfl, rfl, rfl, trivial⟩ (.inl rfl) fun j i hi hj hP Bk hB => ?_
  have hlt : A.lt i (A.vlen xs) = decide (j < l.length) := by subst hA; exact lt_len (by simp [hxs]) hi
  have hadd : ∀ N, j < N → N ≤ 9223372036854775807 → A.add .i64 i 1 = iLen (j + 1) := fun N hj hN => by subst hA; exact add_one hi hj hN
  refine SGo_run hA ⟨[], [], tb2 S, []⟩ (tb2_ok hS) .nil 200 fun T TD hT hTD => ?_
  cbv
  split <;> cbv
  · rename_i hk1
    have hk1 : j < l.length := by have := hlt.symm.trans hk1; simpa using this
    obtain ⟨⟨x, y⟩, hx⟩ : ∃ x, l[j]? = some x := ⟨_, List.getElem?_eq_getElem hk1⟩
    have hix : A.ix 2 2 xs i [I x, I y] := by subst hA; exact ix_map hxs hi hx rfl
    rw [drop_cons hx] at hP
    have hR : ∀ c, c ≠ 0 → (fun x : Int × Int => faultS x.1 x.2 0 b) ⟨x, y⟩ = c → W = c := fun c hc h => hP.trans (firstE_err h hc)
    have hN : (fun x : Int × Int => faultS x.1 x.2 0 b) ⟨x, y⟩ = 0 → W = firstE (fun x : Int × Int => faultS x.1 x.2 0 b) (l.drop (j + 1)) := fun h => hP.trans (firstE_ok h)
    repeat' (first | (refine Exists.intro _ (And.intro hix ?_); cbv) | (split <;> cbv))
    all_goals first | refine leaf h (congrArg I (hR _ ?_ ?_)) rfl | refine hB _ _ hk1 (hN ?_) ⟨rfl, rfl, rfl, rfl, rfl, rfl, congrArg I (hadd _ hk1 (by omega)), trivial⟩ (.inr ⟨⟨_, rfl⟩, Nat.le_refl _, by simp [ltG, AV.lt], trivial⟩)
    all_goals clear hadd hlt hix hv hN hP hR
    all_goals
      subst hA hS
      clear hxs
      simp only [std, stS, iLt, iLe, iEq, iNe, iLen, wiS, ouS, bne_iff_ne, ne_eq, beq_iff_eq, Bool.and_eq_true, Bool.or_eq_true, Bool.or_eq_false_iff, Bool.and_eq_false_iff, decide_eq_true_eq, decide_eq_false_iff_not, bne_eq_false_iff_eq, beq_eq_false_iff_ne, Bool.not_eq_true', Bool.not_eq_false'] at *
      try simp only [id_eq]
      repeat' split
      all_goals omega
  · rename_i hk1
    have hk1 : ¬ j < l.length := by have := hlt.symm.trans hk1; simpa using this
    refine leaf h (congrArg I ?_) rfl
    rw [hP, List.drop_eq_nil_of_le (by omega)]; rfl
theorem p89 (l : List Load) (a : Int) (hl : l.length ≤ 9223372036854775807) (ha : 0 ≤ a ∧ a < 46116860184273879) (H : AHeap) {Kk : AV → AHeap → Prop} (h : Kk (I (loadsS a l)) H) : ACalls Try.prog 89 [I a, .vs 4 (l.map ldV)] H Kk := by
  refine pureC (by rfl) (by rfl) (fun Kk h => ?_) H h
  obtain ⟨xs, hxs⟩ : ∃ xs, xs = l.map ldV := ⟨_, rfl⟩
  rw [← hxs]
  obtain ⟨A, hA⟩ : ∃ A, A = std := ⟨_, rfl⟩
  obtain ⟨S, hS⟩ : ∃ S, S = stS := ⟨_, rfl⟩
  obtain ⟨W, hW⟩ : ∃ W, W = loadsS a l := ⟨_, rfl⟩
  rw [← hW] at h
  have hv : A.vlen xs = iLen l.length := by subst hA; simp [std, hxs]
  have hm : A.sub .i64 (A.mul .i64 100 a) 1 = 100 * a - 1 := by subst hA; simp only [std]; rw [iMul_id (by omega) (by omega), iSub_id (by omega) (by omega)]
  refine go89 rfl (SGo_run hA ⟨[], [], tb2 S, []⟩ (tb2_ok hS) .nil 200 fun T TD hT hTD => ?_)
  cbv
  split <;> cbv
  · refine leaf h (congrArg I ?_) rfl
    rename_i hr; have hr : A.lt 30 (A.vlen xs) = true := hr
    rw [hv] at hr
    subst hA hW
    simp only [std, stS, iLt, iLe, iEq, iNe, iLen, wiS, ouS, bne_iff_ne, ne_eq, beq_iff_eq, Bool.and_eq_true, Bool.or_eq_true, Bool.or_eq_false_iff, Bool.and_eq_false_iff, decide_eq_true_eq, decide_eq_false_iff_not, bne_eq_false_iff_eq, beq_eq_false_iff_ne, Bool.not_eq_true', Bool.not_eq_false'] at *
    simp only [loadsS]; rw [if_pos (by omega)]
  rename_i hr; have hr : A.lt 30 (A.vlen xs) = false := hr
  have hW : W = firstE (loadE a) l := by
    rw [hv] at hr
    subst hA hW
    simp only [std, stS, iLt, iLe, iEq, iNe, iLen, wiS, ouS, bne_iff_ne, ne_eq, beq_iff_eq, Bool.and_eq_true, Bool.or_eq_true, Bool.or_eq_false_iff, Bool.and_eq_false_iff, decide_eq_true_eq, decide_eq_false_iff_not, bne_eq_false_iff_eq, beq_eq_false_iff_ne, Bool.not_eq_true', Bool.not_eq_false'] at *
    simp only [loadsS]; rw [if_neg (by omega)]
  clear hr
  rw [hT]
  refine AGo_up l.length (fun j => W = firstE (loadE a) (l.drop j)) (fun _ i => [(0, I a), (1, .vs 4 xs), (4, I 0), (5, I i)]) (fun _ => []) hW ⟨rfl, rfl, rfl, rfl, trivial⟩ (.inl rfl) fun j i hi hj hP Bk hB => ?_
  have hlt : A.lt i (A.vlen xs) = decide (j < l.length) := by subst hA; exact lt_len (by simp [hxs]) hi
  have hadd : ∀ N, j < N → N ≤ 9223372036854775807 → A.add .i64 i 1 = iLen (j + 1) := fun N hj hN => by subst hA; exact add_one hi hj hN
  refine SGo_run hA ⟨[], [], tb2 S, []⟩ (tb2_ok hS) .nil 200 fun T TD hT hTD => ?_
  cbv
  split <;> cbv
  · rename_i hk1
    have hk1 : j < l.length := by have := hlt.symm.trans hk1; simpa using this
    obtain ⟨⟨x, ⟨y, z⟩, t⟩, hx⟩ : ∃ x, l[j]? = some x := ⟨_, List.getElem?_eq_getElem hk1⟩
    have hix : A.ix 4 4 xs i [I x, I y, I z, I t] := by subst hA; exact ix_map hxs hi hx rfl
    rw [drop_cons hx] at hP
    have hR : ∀ c, c ≠ 0 → (loadE a) ⟨x, ⟨y, z⟩, t⟩ = c → W = c := fun c hc h => hP.trans (firstE_err h hc)
    have hN : (loadE a) ⟨x, ⟨y, z⟩, t⟩ = 0 → W = firstE (loadE a) (l.drop (j + 1)) := fun h => hP.trans (firstE_ok h)
    repeat' (first | (refine Exists.intro _ (And.intro hix ?_); cbv) | (split <;> cbv))
    all_goals first | refine leaf h (congrArg I (hR _ ?_ ?_)) rfl | refine hB _ _ hk1 (hN ?_) ⟨rfl, rfl, rfl, congrArg I (hadd _ hk1 (by omega)), trivial⟩ (.inl rfl)
    all_goals clear hadd hlt hix hv hN hP hR
    all_goals
      subst hA hS
      clear hxs
      simp only [std, stS, iLt, iLe, iEq, iNe, iLen, wiS, ouS, bne_iff_ne, ne_eq, beq_iff_eq, Bool.and_eq_true, Bool.or_eq_true, Bool.or_eq_false_iff, Bool.and_eq_false_iff, decide_eq_true_eq, decide_eq_false_iff_not, bne_eq_false_iff_eq, beq_eq_false_iff_ne, Bool.not_eq_true', Bool.not_eq_false'] at *
      try simp only [loadE]
      repeat' split
      all_goals omega
  · rename_i hk1
    have hk1 : ¬ j < l.length := by have := hlt.symm.trans hk1; simpa using this
    refine leaf h (congrArg I ?_) rfl
    rw [hP, List.drop_eq_nil_of_le (by omega)]; rfl
theorem p86 (l : List Load) (a : Int) (hl : l.length ≤ 9223372036854775807) (ha : 0 ≤ a ∧ a < 46116860184273879) (H : AHeap) {Kk : AV → AHeap → Prop} (h : Kk (I (loadsS a l)) H) : ACalls Try.prog 86 [.vs 4 (l.map ldV), I a] H Kk := by
  refine pureC (by rfl) (by rfl) (fun Kk h => ?_) H h
  obtain ⟨xs, hxs⟩ : ∃ xs, xs = l.map ldV := ⟨_, rfl⟩
  rw [← hxs]
  obtain ⟨A, hA⟩ : ∃ A, A = std := ⟨_, rfl⟩
  obtain ⟨S, hS⟩ : ∃ S, S = stS := ⟨_, rfl⟩
  obtain ⟨W, hW⟩ : ∃ W, W = loadsS a l := ⟨_, rfl⟩
  rw [← hW] at h
  have hv : A.vlen xs = iLen l.length := by subst hA; simp [std, hxs]
  have hm : A.sub .i64 (A.mul .i64 100 a) 1 = 100 * a - 1 := by subst hA; simp only [std]; rw [iMul_id (by omega) (by omega), iSub_id (by omega) (by omega)]
  refine go86 rfl (SGo_run hA ⟨[], [], tb2 S, []⟩ (tb2_ok hS) .nil 200 fun T TD hT hTD => ?_)
  cbv
  split <;> cbv
  · refine leaf h (congrArg I ?_) rfl
    rename_i hr; have hr : A.lt 30 (A.vlen xs) = true := hr
    rw [hv] at hr
    subst hA hW
    simp only [std, stS, iLt, iLe, iEq, iNe, iLen, wiS, ouS, bne_iff_ne, ne_eq, beq_iff_eq, Bool.and_eq_true, Bool.or_eq_true, Bool.or_eq_false_iff, Bool.and_eq_false_iff, decide_eq_true_eq, decide_eq_false_iff_not, bne_eq_false_iff_eq, beq_eq_false_iff_ne, Bool.not_eq_true', Bool.not_eq_false'] at *
    simp only [loadsS]; rw [if_pos (by omega)]
  rename_i hr; have hr : A.lt 30 (A.vlen xs) = false := hr
  have hW : W = firstE (loadE a) l := by
    rw [hv] at hr
    subst hA hW
    simp only [std, stS, iLt, iLe, iEq, iNe, iLen, wiS, ouS, bne_iff_ne, ne_eq, beq_iff_eq, Bool.and_eq_true, Bool.or_eq_true, Bool.or_eq_false_iff, Bool.and_eq_false_iff, decide_eq_true_eq, decide_eq_false_iff_not, bne_eq_false_iff_eq, beq_eq_false_iff_ne, Bool.not_eq_true', Bool.not_eq_false'] at *
    simp only [loadsS]; rw [if_neg (by omega)]
  clear hr
  rw [hT]
  refine AGo_up l.length (fun j => W = firstE (loadE a) (l.drop j)) (fun _ i => [(0, .vs 4 xs), (1, I a), (4, I 0), (11, .vs 4 xs), (12, I (A.vlen xs)), (13, I i)]) (fun _ => []) hW ⟨rfl, rfl, rfl, rfl, rfl, rfl, trivial⟩ (.inl rfl) fun j i hi hj hP Bk hB => ?_
  have hlt : A.lt i (A.vlen xs) = decide (j < l.length) := by subst hA; exact lt_len (by simp [hxs]) hi
  have hadd : ∀ N, j < N → N ≤ 9223372036854775807 → A.add .i64 i 1 = iLen (j + 1) := fun N hj hN => by subst hA; exact add_one hi hj hN
  refine SGo_run hA ⟨[], [], tb2 S, []⟩ (tb2_ok hS) .nil 200 fun T TD hT hTD => ?_
  cbv
  split <;> cbv
  · rename_i hk1
    have hk1 : j < l.length := by have := hlt.symm.trans hk1; simpa using this
    obtain ⟨⟨x, ⟨y, z⟩, t⟩, hx⟩ : ∃ x, l[j]? = some x := ⟨_, List.getElem?_eq_getElem hk1⟩
    have hix : A.ix 4 4 xs i [I x, I y, I z, I t] := by subst hA; exact ix_map hxs hi hx rfl
    rw [drop_cons hx] at hP
    have hR : ∀ c, c ≠ 0 → (loadE a) ⟨x, ⟨y, z⟩, t⟩ = c → W = c := fun c hc h => hP.trans (firstE_err h hc)
    have hN : (loadE a) ⟨x, ⟨y, z⟩, t⟩ = 0 → W = firstE (loadE a) (l.drop (j + 1)) := fun h => hP.trans (firstE_ok h)
    repeat' (first | (refine Exists.intro _ (And.intro hix ?_); cbv) | (split <;> cbv))
    all_goals first | refine leaf h (congrArg I (hR _ ?_ ?_)) rfl | refine hB _ _ hk1 (hN ?_) ⟨rfl, rfl, rfl, rfl, rfl, congrArg I (hadd _ hk1 (by omega)), trivial⟩ (.inr ⟨⟨_, rfl⟩, Nat.le_refl _, by simp [ltG, AV.lt], trivial⟩)
    all_goals clear hadd hlt hix hv hN hP hR
    all_goals
      subst hA hS
      clear hxs
      simp only [std, stS, iLt, iLe, iEq, iNe, iLen, wiS, ouS, bne_iff_ne, ne_eq, beq_iff_eq, Bool.and_eq_true, Bool.or_eq_true, Bool.or_eq_false_iff, Bool.and_eq_false_iff, decide_eq_true_eq, decide_eq_false_iff_not, bne_eq_false_iff_eq, beq_eq_false_iff_ne, Bool.not_eq_true', Bool.not_eq_false'] at *
      try simp only [loadE]
      repeat' split
      all_goals omega
  · rename_i hk1
    have hk1 : ¬ j < l.length := by have := hlt.symm.trans hk1; simpa using this
    refine leaf h (congrArg I ?_) rfl
    rw [hP, List.drop_eq_nil_of_le (by omega)]; rfl
end Go.Sas
