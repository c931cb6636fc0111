/-
What the functions that ice rests on yield, part 9: how much ice bears alone; waters.
Conditions: none.
-/
import Derived.Test.YtelmlpjkpebcgaaB7
import Derived.Test.YtelmlpjkpebcgaaS4
set_option linter.unusedVariables false
set_option linter.unusedSimpArgs false
namespace Go.Sas
open Go.Proofs
set_option maxRecDepth 100000
theorem p101 (p : Plate) {a b : Int} {xs ec : List AV} {ne ed gr lo hi sh wi : Int} (hp : PlateIs p a b xs ec ne ed gr lo hi sh wi) (hV : PlateV p) (t n : Int) (ht : 0 ≤ t ∧ t ≤ 5000) (H : AHeap) {Kk : AV → AHeap → Prop} (h : Kk (I (aloS p t n)) H) :
    ACalls Try.prog 101 [plV a b (.vs 2 xs) (.vs 2 ec) ne ed gr lo hi sh wi, I t, I n] H Kk := by
  refine (fun q => pureC (by rfl) (by rfl) q H h) ?_
  clear h
  intro Kk h
  obtain ⟨A, hA⟩ : ∃ A, A = std := ⟨_, rfl⟩
  obtain ⟨S, hS⟩ : ∃ S, S = stS := ⟨_, rfl⟩
  obtain ⟨S2, hS2⟩ : ∃ S, S = st2 := ⟨_, rfl⟩
  generalize hW : aloS p t n = W at h
  obtain ⟨cl, hcl⟩ : ∃ cl, cl = p.creep := ⟨_, rfl⟩
  have hc : ec = cl.map sp := by rw [hcl]; exact hp.hc
  refine go101 rfl (SGo_run hA ⟨[], [], tb3 S, []⟩ (tb3_ok hS) .nil 200 fun T TD hT hTD => ?_)
  clear hT hTD
  cbv
  refine Exists.intro cl (And.intro hc (And.intro (by rw [hcl]; exact hV.cr.ne) (And.intro (by rw [hcl]; have := hV.cr.len; omega) ?_)))
  cbv
  refine leaf h (congrArg I ?_) rfl
  have hs1 := hV.s1
  have hs2 := hV.s2
  have hs3 := hV.s3
  have hs : 0 ≤ p.str.1 ∧ p.str.1 ≤ 100000 := by omega
  have hq := hV.cr.part n
  obtain ⟨e1, l1, u1⟩ := mulB hs ht (by omega)
  obtain ⟨e2, l2, u2⟩ := mulB ⟨l1, u1⟩ ht (by omega)
  obtain ⟨e3, l3, u3⟩ := mulB ⟨l2, u2⟩ hq (by omega)
  subst hA hS hcl
  rw [hp.str] at e1 e2 e3 l3 u3
  simp only [std, stS, e1, e2, e3]
  rw [iQuo_id l3 (by omega) (by omega), ← hW, aloS, hp.str]
theorem p102 (p : Plate) {a b : Int} {xs ec : List AV} {ne ed gr lo hi sh wi : Int} (hp : PlateIs p a b xs ec ne ed gr lo hi sh wi) (hV : PlateV p) (t n : Int) (ht : 0 ≤ t ∧ t ≤ 5000) (H : AHeap) {Kk : AV → AHeap → Prop} (h : Kk (I (aloS p t n)) H) :
    ACalls Try.prog 102 [plV a b (.vs 2 xs) (.vs 2 ec) ne ed gr lo hi sh wi, I t, I n] H Kk := by
  refine (fun q => pureC (by rfl) (by rfl) q H h) ?_
  clear h
  intro Kk h
  obtain ⟨A, hA⟩ : ∃ A, A = std := ⟨_, rfl⟩
  obtain ⟨S, hS⟩ : ∃ S, S = stS := ⟨_, rfl⟩
  obtain ⟨S2, hS2⟩ : ∃ S, S = st2 := ⟨_, rfl⟩
  generalize hW : aloS p t n = W at h
  obtain ⟨cl, hcl⟩ : ∃ cl, cl = p.creep := ⟨_, rfl⟩
  have hc : ec = cl.map sp := by rw [hcl]; exact hp.hc
  refine go102 rfl (SGo_run hA ⟨[], [], tb3 S, []⟩ (tb3_ok hS) .nil 200 fun T TD hT hTD => ?_)
  clear hT hTD
  cbv
  refine Exists.intro cl (And.intro hc (And.intro (by rw [hcl]; exact hV.cr.ne) (And.intro (by rw [hcl]; have := hV.cr.len; omega) ?_)))
  cbv
  refine leaf h (congrArg I ?_) rfl
  have hs1 := hV.s1
  have hs2 := hV.s2
  have hs3 := hV.s3
  have hs : 0 ≤ p.str.1 ∧ p.str.1 ≤ 100000 := by omega
  have hq := hV.cr.part n
  obtain ⟨e1, l1, u1⟩ := mulB hs ht (by omega)
  obtain ⟨e2, l2, u2⟩ := mulB ⟨l1, u1⟩ ht (by omega)
  obtain ⟨e3, l3, u3⟩ := mulB ⟨l2, u2⟩ hq (by omega)
  subst hA hS hcl
  rw [hp.str] at e1 e2 e3 l3 u3
  simp only [std, stS, e1, e2, e3]
  rw [iQuo_id l3 (by omega) (by omega), ← hW, aloS, hp.str]
theorem eAlo_ok {f : Nat} (hf : ∀ (p : Plate) {a b : Int} {xs ec : List AV} {ne ed gr lo hi sh wi : Int}, PlateIs p a b xs ec ne ed gr lo hi sh wi → PlateV p → ∀ (t n : Int), 0 ≤ t ∧ t ≤ 5000 → ∀ (H : AHeap) {Kk : AV → AHeap → Prop}, Kk (I (aloS p t n)) H →
    ACalls Try.prog f [plV a b (.vs 2 xs) (.vs 2 ec) ne ed gr lo hi sh wi, I t, I n] H Kk) {S : Sp3} (hS : S = st3) : ∀ args pt, eAlo S args = some pt → ∀ (H : AHeap) (Kk : AV → AHeap → Prop), pt (fun r => Kk r H) → ACalls Try.prog f args H Kk := by
  intro args pt h H Kk hk
  subst hS
  unfold eAlo at h
  split at h
  · split at h
    · rename_i x hy
      cases h
      obtain ⟨p, h1, h2, h3, h4⟩ := hk
      obtain ⟨a, b, xs, ec, ne, ed, gr, lo, hi, sh, wi⟩ := x
      exact (hf p h1 h2 _ _ h3 H h4).wk ⟨asPl_wk hy, Wk.rfl, Wk.rfl, trivial⟩
    · cases h
  · cases h
theorem p54 (p : Plate) {a b : Int} {xs ec : List AV} {ne ed gr lo hi sh wi : Int} (hp : PlateIs p a b xs ec ne ed gr lo hi sh wi) (h1 : Big p.shares) (h2 : Big p.creep) (t n : Int) (H : AHeap) {Kk : AV → AHeap → Prop} (h : Kk (.tup [I (bearsS p t n).1, I (bearsS p t n).2]) H) :
    ACalls Try.prog 54 [plV a b (.vs 2 xs) (.vs 2 ec) ne ed gr lo hi sh wi, I t, I n] H Kk := by
  refine (fun q => pureC (by rfl) (by rfl) q H h) ?_
  clear h
  intro Kk h
  obtain ⟨A, hA⟩ : ∃ A, A = std := ⟨_, rfl⟩
  obtain ⟨S, hS⟩ : ∃ S, S = stS := ⟨_, rfl⟩
  obtain ⟨S3, hS3⟩ : ∃ S, S = st3 := ⟨_, rfl⟩
  obtain ⟨W, hW⟩ : ∃ W, W = bearsS p t n := ⟨_, rfl⟩
  rw [← hW] at h
  refine go54 rfl (SGo_run hA ⟨[], [], (102, eAlo S3) :: tb3 S, []⟩ (.cons (eAlo_ok p102 hS3) (tb3_ok hS)) .nil 200 fun T TD hT hTD => ?_)
  clear hT hTD
  cbv
  refine Exists.intro p (And.intro hp (And.intro h1 (And.intro h2 ?_)))
  cbv
  have e1 : S.check p = checkS p := by subst hS; rfl
  split <;> cbv
  · rename_i hq
    have hq : A.ne (S.check p) 0 = true := hq
    refine leaf h ?_ rfl
    rw [e1] at hq
    subst hA
    simp only [std, stS, iLt, iLe, iEq, iNe, iLen, wiS, ouS, bne_iff_ne, ne_eq, beq_iff_eq, Bool.and_eq_true, Bool.or_eq_true, Bool.or_eq_false_iff, Bool.and_eq_false_iff, decide_eq_true_eq, decide_eq_false_iff_not, bne_eq_false_iff_eq, beq_eq_false_iff_ne, Bool.not_eq_true', Bool.not_eq_false'] at *
    rw [hW, bearsS, if_pos hq, ← e1]; rfl
  rename_i hq
  have hq : A.ne (S.check p) 0 = false := hq
  rw [e1] at hq
  have hq : checkS p = 0 := by subst hA; simpa [std, iNe] using hq
  have hV := checkS_ok hq
  rw [bearsS, if_neg (by simp [hq])] at hW
  by_cases ht : t < 0 ∨ 5000 < t ∨ n < 0 ∨ 10000 < n
  · rw [if_pos ht] at hW
    repeat' (first | (refine Exists.intro p (And.intro hp (And.intro hV (And.intro ?_ ?_)))) | (split <;> cbv))
    all_goals first | (refine leaf h ?_ rfl; rw [hW]; rfl) | (exfalso; subst hA hS; clear hp; simp only [std, stS, iLt, iLe, iEq, iNe, iLen, wiS, ouS, bne_iff_ne, ne_eq, beq_iff_eq, Bool.and_eq_true, Bool.or_eq_true, Bool.or_eq_false_iff, Bool.and_eq_false_iff, decide_eq_true_eq, decide_eq_false_iff_not, bne_eq_false_iff_eq, beq_eq_false_iff_ne, Bool.not_eq_true', Bool.not_eq_false'] at *; omega) | skip
    all_goals (exfalso; subst hA hS; clear hp; simp only [std, stS, iLt, iLe, iEq, iNe, iLen, wiS, ouS, bne_iff_ne, ne_eq, beq_iff_eq, Bool.and_eq_true, Bool.or_eq_true, Bool.or_eq_false_iff, Bool.and_eq_false_iff, decide_eq_true_eq, decide_eq_false_iff_not, bne_eq_false_iff_eq, beq_eq_false_iff_ne, Bool.not_eq_true', Bool.not_eq_false'] at *; omega)
  · rw [if_neg ht] at hW
    have ht5 : 0 ≤ t ∧ t ≤ 5000 := by omega
    repeat' (first | (refine Exists.intro p (And.intro hp (And.intro hV (And.intro ht5 ?_))); cbv) | (split <;> cbv))
    all_goals first | (refine leaf h ?_ rfl; rw [hW]; subst hS3; rfl) | skip
    all_goals (exfalso; subst hA hS; clear hp; simp only [std, stS, iLt, iLe, iEq, iNe, iLen, wiS, ouS, bne_iff_ne, ne_eq, beq_iff_eq, Bool.and_eq_true, Bool.or_eq_true, Bool.or_eq_false_iff, Bool.and_eq_false_iff, decide_eq_true_eq, decide_eq_false_iff_not, bne_eq_false_iff_eq, beq_eq_false_iff_ne, Bool.not_eq_true', Bool.not_eq_false'] at *; omega)
theorem p53 (p : Plate) {a b : Int} {xs ec : List AV} {ne ed gr lo hi sh wi : Int} (hp : PlateIs p a b xs ec ne ed gr lo hi sh wi) (h1 : Big p.shares) (h2 : Big p.creep) (t n : Int) (H : AHeap) {Kk : AV → AHeap → Prop} (h : Kk (.tup [I (bearsS p t n).1, I (bearsS p t n).2]) H) :
    ACalls Try.prog 53 [plV a b (.vs 2 xs) (.vs 2 ec) ne ed gr lo hi sh wi, I t, I n] H Kk := by
  refine (fun q => pureC (by rfl) (by rfl) q H h) ?_
  clear h
  intro Kk h
  obtain ⟨A, hA⟩ : ∃ A, A = std := ⟨_, rfl⟩
  obtain ⟨S, hS⟩ : ∃ S, S = stS := ⟨_, rfl⟩
  obtain ⟨S3, hS3⟩ : ∃ S, S = st3 := ⟨_, rfl⟩
  obtain ⟨W, hW⟩ : ∃ W, W = bearsS p t n := ⟨_, rfl⟩
  rw [← hW] at h
  refine go53 rfl (SGo_run hA ⟨[], [], (101, eAlo S3) :: tb3 S, []⟩ (.cons (eAlo_ok p101 hS3) (tb3_ok hS)) .nil 200 fun T TD hT hTD => ?_)
  clear hT hTD
  cbv
  refine Exists.intro p (And.intro hp (And.intro h1 (And.intro h2 ?_)))
  cbv
  have e1 : S.check p = checkS p := by subst hS; rfl
  split <;> cbv
  · rename_i hq
    have hq : A.ne (S.check p) 0 = true := hq
    refine leaf h ?_ rfl
    rw [e1] at hq
    subst hA
    simp only [std, stS, iLt, iLe, iEq, iNe, iLen, wiS, ouS, bne_iff_ne, ne_eq, beq_iff_eq, Bool.and_eq_true, Bool.or_eq_true, Bool.or_eq_false_iff, Bool.and_eq_false_iff, decide_eq_true_eq, decide_eq_false_iff_not, bne_eq_false_iff_eq, beq_eq_false_iff_ne, Bool.not_eq_true', Bool.not_eq_false'] at *
    rw [hW, bearsS, if_pos hq, ← e1]; rfl
  rename_i hq
  have hq : A.ne (S.check p) 0 = false := hq
  rw [e1] at hq
  have hq : checkS p = 0 := by subst hA; simpa [std, iNe] using hq
  have hV := checkS_ok hq
  rw [bearsS, if_neg (by simp [hq])] at hW
  by_cases ht : t < 0 ∨ 5000 < t ∨ n < 0 ∨ 10000 < n
  · rw [if_pos ht] at hW
    repeat' (first | (refine Exists.intro p (And.intro hp (And.intro hV (And.intro ?_ ?_)))) | (split <;> cbv))
    all_goals first | (refine leaf h ?_ rfl; rw [hW]; rfl) | (exfalso; subst hA hS; clear hp; simp only [std, stS, iLt, iLe, iEq, iNe, iLen, wiS, ouS, bne_iff_ne, ne_eq, beq_iff_eq, Bool.and_eq_true, Bool.or_eq_true, Bool.or_eq_false_iff, Bool.and_eq_false_iff, decide_eq_true_eq, decide_eq_false_iff_not, bne_eq_false_iff_eq, beq_eq_false_iff_ne, Bool.not_eq_true', Bool.not_eq_false'] at *; omega) | skip
    all_goals (exfalso; subst hA hS; clear hp; simp only [std, stS, iLt, iLe, iEq, iNe, iLen, wiS, ouS, bne_iff_ne, ne_eq, beq_iff_eq, Bool.and_eq_true, Bool.or_eq_true, Bool.or_eq_false_iff, Bool.and_eq_false_iff, decide_eq_true_eq, decide_eq_false_iff_not, bne_eq_false_iff_eq, beq_eq_false_iff_ne, Bool.not_eq_true', Bool.not_eq_false'] at *; omega)
  · rw [if_neg ht] at hW
    have ht5 : 0 ≤ t ∧ t ≤ 5000 := by omega
    repeat' (first | (refine Exists.intro p (And.intro hp (And.intro hV (And.intro ht5 ?_))); cbv) | (split <;> cbv))
    all_goals first | (refine leaf h ?_ rfl; rw [hW]; subst hS3; rfl) | skip
    all_goals (exfalso; subst hA hS; clear hp; simp only [std, stS, iLt, iLe, iEq, iNe, iLen, wiS, ouS, bne_iff_ne, ne_eq, beq_iff_eq, Bool.and_eq_true, Bool.or_eq_true, Bool.or_eq_false_iff, Bool.and_eq_false_iff, decide_eq_true_eq, decide_eq_false_iff_not, bne_eq_false_iff_eq, beq_eq_false_iff_ne, Bool.not_eq_true', Bool.not_eq_false'] at *; omega)
theorem p93 (p : Plate) {a b : Int} {xs ec : List AV} {ne ed gr lo hi sh wi : Int} (hp : PlateIs p a b xs ec ne ed gr lo hi sh wi) (h1 : Big p.shares) (h2 : Big p.creep) (u v n : Int) (H : AHeap) {Kk : AV → AHeap → Prop} (h : Kk (I (waterS p u v n)) H) :
    ACalls Try.prog 93 [plV a b (.vs 2 xs) (.vs 2 ec) ne ed gr lo hi sh wi, .agg [I u, I v], I n] H Kk := by
  refine (fun q => pureC (by rfl) (by rfl) q H h) ?_
  clear h
  intro Kk h
  obtain ⟨A, hA⟩ : ∃ A, A = std := ⟨_, rfl⟩
  obtain ⟨S, hS⟩ : ∃ S, S = stS := ⟨_, rfl⟩
  obtain ⟨W, hW⟩ : ∃ W, W = waterS p u v n := ⟨_, rfl⟩
  rw [← hW] at h
  refine go93 rfl (SGo_run hA ⟨[], [], tb3 S, []⟩ (tb3_ok hS) .nil 200 fun T TD hT hTD => ?_)
  clear hT hTD
  cbv
  refine Exists.intro p (And.intro hp (And.intro h1 (And.intro h2 ?_)))
  cbv
  repeat' (split <;> cbv)
  all_goals
    refine leaf h (congrArg I ?_) rfl
    clear h
    subst hA hS hW
    clear hp
    simp only [std, stS, iLt, iLe, iEq, iNe, iLen, wiS, ouS, bne_iff_ne, ne_eq, beq_iff_eq, Bool.and_eq_true, Bool.or_eq_true, Bool.or_eq_false_iff, Bool.and_eq_false_iff, decide_eq_true_eq, decide_eq_false_iff_not, bne_eq_false_iff_eq, beq_eq_false_iff_ne, Bool.not_eq_true', Bool.not_eq_false'] at *
    simp only [waterS]
    repeat' split
    all_goals first | omega | rfl
theorem p97 (p : Plate) {a b : Int} {xs ec : List AV} {ne ed gr lo hi sh wi : Int} (hp : PlateIs p a b xs ec ne ed gr lo hi sh wi) (h1 : Big p.shares) (h2 : Big p.creep) (u v n : Int) (H : AHeap) {Kk : AV → AHeap → Prop} (h : Kk (I (waterS p u v n)) H) :
    ACalls Try.prog 97 [plV a b (.vs 2 xs) (.vs 2 ec) ne ed gr lo hi sh wi, .agg [I u, I v], I n] H Kk := by
  refine (fun q => pureC (by rfl) (by rfl) q H h) ?_
  clear h
  intro Kk h
  obtain ⟨A, hA⟩ : ∃ A, A = std := ⟨_, rfl⟩
  obtain ⟨S, hS⟩ : ∃ S, S = stS := ⟨_, rfl⟩
  obtain ⟨W, hW⟩ : ∃ W, W = waterS p u v n := ⟨_, rfl⟩
  rw [← hW] at h
  refine go97 rfl (SGo_run hA ⟨[], [], tb3 S, []⟩ (tb3_ok hS) .nil 200 fun T TD hT hTD => ?_)
  clear hT hTD
  cbv
  refine Exists.intro p (And.intro hp (And.intro h1 (And.intro h2 ?_)))
  cbv
  repeat' (split <;> cbv)
  all_goals
    refine leaf h (congrArg I ?_) rfl
    clear h
    subst hA hS hW
    clear hp
    simp only [std, stS, iLt, iLe, iEq, iNe, iLen, wiS, ouS, bne_iff_ne, ne_eq, beq_iff_eq, Bool.and_eq_true, Bool.or_eq_true, Bool.or_eq_false_iff, Bool.and_eq_false_iff, decide_eq_true_eq, decide_eq_false_iff_not, bne_eq_false_iff_eq, beq_eq_false_iff_ne, Bool.not_eq_true', Bool.not_eq_false'] at *
    simp only [waterS]
    repeat' split
    all_goals first | omega | rfl
end Go.Sas
