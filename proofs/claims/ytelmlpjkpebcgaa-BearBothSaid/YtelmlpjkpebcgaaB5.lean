/-
What the functions that ice rests on yield, part 5: burdens and thicknesses.
Conditions: none.
-/
import Derived.Test.YtelmlpjkpebcgaaB4
set_option linter.unusedVariables false
set_option linter.unusedSimpArgs false
namespace Go.Sas
open Go.Proofs
set_option maxRecDepth 100000
theorem eStr_ok {S : Sp2} (hS : S = st2) : ∀ args pt, eStr S args = some pt → ∀ (H : AHeap) (Kk : AV → AHeap → Prop), pt (fun r => Kk r H) → ACalls Try.prog 141 args H Kk := by
  intro args pt h H Kk hk
  subst hS
  unfold eStr at h
  split at h
  · cases h; exact p141 _ _ _ H hk
  · cases h
theorem eHev_ok {S : Sp2} (hS : S = st2) : ∀ args pt, eHev S args = some pt → ∀ (H : AHeap) (Kk : AV → AHeap → Prop), pt (fun r => Kk r H) → ACalls Try.prog 155 args H Kk := by
  intro args pt h H Kk hk
  subst hS
  unfold eHev at h
  split at h
  · cases h; exact p155 _ _ _ H hk
  · cases h
theorem eNear_ok {S : Sp2} (hS : S = st2) : ∀ args pt, eNear S args = some pt → ∀ (H : AHeap) (Kk : AV → AHeap → Prop), pt (fun r => Kk r H) → ACalls Try.prog 164 args H Kk := by
  intro args pt h H Kk hk
  subst hS
  unfold eNear at h
  split at h
  · cases h; obtain ⟨_, h1, h2⟩ := hk; exact p164 _ _ _ _ _ h1 H h2
  · cases h
theorem eFar_ok {S : Sp2} (hS : S = st2) : ∀ args pt, eFar S args = some pt → ∀ (H : AHeap) (Kk : AV → AHeap → Prop), pt (fun r => Kk r H) → ACalls Try.prog 142 args H Kk := by
  intro args pt h H Kk hk
  subst hS
  unfold eFar at h
  split at h
  · cases h; obtain ⟨_, h1, h2⟩ := hk; exact p142 _ _ H h1 h2
  · cases h
def tb4 (S : Sp) (S2 : Sp2) : PTab := (141, eStr S2) :: (155, eHev S2) :: (164, eNear S2) :: (142, eFar S2) :: tb3 S
theorem tb4_ok {S : Sp} (hS : S = stS) {S2 : Sp2} (hS2 : S2 = st2) : PTabOk Try.prog (tb4 S S2) := .cons (eStr_ok hS2) (.cons (eHev_ok hS2) (.cons (eNear_ok hS2) (.cons (eFar_ok hS2) (tb3_ok hS))))
theorem p111 (w : Bool) (p : Plate) {a b : Int} {xs ec : List AV} {ne ed gr lo hi sh wi : Int} (hp : PlateIs p a b xs ec ne ed gr lo hi sh wi) (hV : PlateV p) (xi xc : List AV) (u t n : Int) (hu : 0 ≤ u ∧ u ≤ 6000000000000) (ht : 0 ≤ t ∧ t ≤ 5000) (H : AHeap) {Kk : AV → AHeap → Prop} (h : Kk (B (enS w p u t n)) H) :
    ACalls Try.prog 111 [scV w a b (.vs 2 xs) (.vs 2 ec) ne ed gr lo hi sh wi (.vs 2 xi) (.vs 2 xc), I u, I t, I n] H Kk := by
  refine pureC (by rfl) (by rfl) (fun Kk h => ?_) H h
  obtain ⟨A, hA⟩ : ∃ A, A = std := ⟨_, rfl⟩
  obtain ⟨S, hS⟩ : ∃ S, S = stS := ⟨_, rfl⟩
  obtain ⟨S2, hS2⟩ : ∃ S, S = st2 := ⟨_, rfl⟩
  generalize hW : enS w p u t n = W at h
  obtain ⟨cl, hcl⟩ : ∃ cl, cl = p.creep := ⟨_, rfl⟩
  have hc : ec = cl.map sp := by rw [hcl]; exact hp.hc
  refine go111 rfl (SGo_run hA ⟨[], [], tb4 S S2, []⟩ (tb4_ok hS hS2) .nil 200 fun T TD hT hTD => ?_)
  clear hT hTD
  cbv
  refine ⟨cl, hc, by rw [hcl]; exact hV.cr.ne, by rw [hcl]; have := hV.cr.len; omega, ?_⟩
  cbv
  refine leaf h (congrArg B ?_) rfl
  subst hA hS hS2
  have hs := strS_bnd (w := w) (x := p.str) ⟨hV.s1, hV.s2, hV.s3⟩
  have hq := hV.cr.part n
  obtain ⟨e1, l1, u1⟩ := mulB ⟨by omega, hs.2⟩ ht (by omega)
  obtain ⟨e2, l2, u2⟩ := mulB ⟨l1, u1⟩ ht (by omega)
  obtain ⟨e3, l3, u3⟩ := mulB ⟨l2, u2⟩ hq (by omega)
  have e4 : iMul .i64 u 1000000 = u * 1000000 := iMul_id (by omega) (by omega)
  rw [hp.str] at e1 e2 e3
  rw [← hcl] at e3
  simp only [std, stS, st2, e1, e2, e3, e4, iLe]
  rw [← hW, enS, hp.str, ← hcl]
theorem p132 (u s t c : Int) (hu : 0 ≤ u ∧ u ≤ 6000000000000) (hs : 0 ≤ s ∧ s ≤ 100000) (ht : 0 ≤ t ∧ t ≤ 5000) (hc : 0 ≤ c ∧ c ≤ 1000000) (H : AHeap) {Kk : AV → AHeap → Prop} (h : Kk (B (borS u s t c)) H) : ACalls Try.prog 132 [I u, I s, I t, I c] H Kk := by
  refine pureC (by rfl) (by rfl) (fun Kk h => ?_) H h
  obtain ⟨A, hA⟩ : ∃ A, A = std := ⟨_, rfl⟩
  generalize hW : borS u s t c = W at h
  refine go132 rfl (SGo_run hA ⟨[], [], [], []⟩ .nil .nil 200 fun T TD hT hTD => ?_)
  clear hT hTD
  cbv
  refine leaf h (congrArg B ?_) rfl
  subst hA
  obtain ⟨e1, l1, u1⟩ := mulB hs ht (by omega)
  obtain ⟨e2, l2, u2⟩ := mulB ⟨l1, u1⟩ ht (by omega)
  obtain ⟨e3, l3, u3⟩ := mulB ⟨l2, u2⟩ hc (by omega)
  have e4 : iMul .i64 u 1000000 = u * 1000000 := iMul_id (by omega) (by omega)
  simp only [std, e1, e2, e3, e4, iLe]
  rw [← hW, borS]
theorem p133 (p : Plate) {a b : Int} {xs ec : List AV} {ne ed gr lo hi sh wi : Int} (hp : PlateIs p a b xs ec ne ed gr lo hi sh wi) (hV : PlateV p) (t : Int) (c : Bool) (ht : 0 ≤ t ∧ t ≤ 5000) (H : AHeap) {Kk : AV → AHeap → Prop} (h : Kk (I (cutS p t c)) H) :
    ACalls Try.prog 133 [plV a b (.vs 2 xs) (.vs 2 ec) ne ed gr lo hi sh wi, I t, B c] H Kk := by
  cases c
  all_goals
    refine pureC (by rfl) (by rfl) (fun Kk h => ?_) H h
    obtain ⟨A, hA⟩ : ∃ A, A = std := ⟨_, rfl⟩
    generalize hW : cutS p t _ = W at h
    refine go133 rfl (SGo_run hA ⟨[], [], [], []⟩ .nil .nil 200 fun T TD hT hTD => ?_)
    clear hT hTD
    cbv
    refine leaf h (congrArg I ?_) rfl
  · rw [← hW]; rfl
  · subst hA
    have he : 0 ≤ ed ∧ ed ≤ 1000000 := by have h1 := hV.e1; have h2 := hV.e2; rw [hp.ed] at h1 h2; exact ⟨h1, h2⟩
    obtain ⟨e1, l1, u1⟩ := mulB ht he (by omega)
    simp only [std, e1]
    rw [iQuo_id l1 (by omega) (by omega), ← hW, ← hp.ed]; rfl
theorem p134 (p : Plate) {a b : Int} {xs ec : List AV} {ne ed gr lo hi sh wi : Int} (hp : PlateIs p a b xs ec ne ed gr lo hi sh wi) (hV : PlateV p) (l : List (Int × Int)) (m : Int) (hl : l.length ≤ 50) (hc : ∀ x ∈ l, 0 ≤ x.1 ∧ x.1 ≤ x.2 ∧ x.2 ≤ 100000) (hm : 0 ≤ m ∧ m ≤ 100000) (H : AHeap) {Kk : AV → AHeap → Prop} (h : Kk (B (anyS true p l m)) H) :
    ACalls Try.prog 134 [plV a b (.vs 2 xs) (.vs 2 ec) ne ed gr lo hi sh wi, .vs 2 (l.map sp), I m] H Kk := by
  have hn : 0 ≤ ne ∧ ne ≤ 10000 := by have h1 := hV.n1; have h2 := hV.n2; rw [hp.ne] at h1 h2; exact ⟨h1, h2⟩
  have hpn := hp.ne
  refine pureC (by rfl) (by rfl) (fun Kk h => ?_) H h
  generalize hW : anyS true p l m = W at h
  obtain ⟨ys, hys⟩ : ∃ ys, ys = l.map sp := ⟨_, rfl⟩
  rw [← hys]
  obtain ⟨A, hA⟩ : ∃ A, A = std := ⟨_, rfl⟩
  obtain ⟨S, hS⟩ : ∃ S, S = stS := ⟨_, rfl⟩
  obtain ⟨S2, hS2⟩ : ∃ S, S = st2 := ⟨_, rfl⟩
  refine go134 rfl (SGo_run hA ⟨[], [], tb4 S S2, []⟩ (tb4_ok hS hS2) .nil 200 fun T TD hT hTD => ?_)
  cbv
  rw [hT]
  refine AGo_up l.length (fun j => W = (l.drop j).any fun c => nearS true c m ne) (fun _ i => [(0, plV a b (.vs 2 xs) (.vs 2 ec) ne ed gr lo hi sh wi), (1, .vs 2 ys), (2, I m), (3, .mp 0 0 0), (6, B false), (7, I i)]) (fun _ => [.own 0 [I a, I b, .vs 2 xs, .vs 2 ec, I ne, I ed, I gr, I lo, I hi, I sh, I wi]]) (by rw [← hW, anyS, hpn]; rfl) ⟨rfl, rfl, rfl, rfl, rfl, rfl, trivial⟩ (.inl rfl) fun j i hi' hj hP Bk hB => ?_
  have hlt : A.lt i (A.vlen ys) = decide (j < l.length) := by subst hA; exact lt_len (by simp [hys]) hi'
  have hadd : ∀ N, j < N → N ≤ 9223372036854775807 → A.add .i64 i 1 = iLen (j + 1) := fun N hj hN => by subst hA; exact add_one hi' hj hN
  refine SGo_run hA ⟨[], [], tb4 S S2, []⟩ (tb4_ok hS hS2) .nil 200 fun T TD hT hTD => ?_
  cbv
  split <;> cbv
  · rename_i hk1
    have hk1 : j < l.length := by have := hlt.symm.trans hk1; simpa using this
    obtain ⟨⟨x, y⟩, hx⟩ : ∃ x, l[j]? = some x := ⟨_, List.getElem?_eq_getElem hk1⟩
    have hix : A.ix 2 2 ys i [I x, I y] := by subst hA; exact ix_map hys hi' hx rfl
    have hb := hc (x, y) (List.mem_of_getElem? hx)
    simp only at hb
    rw [drop_cons hx, List.any_cons] at hP
    repeat' (first | (refine Exists.intro _ (And.intro hix ?_); cbv) | (refine Exists.intro () (And.intro (by unfold Sm; omega) ?_); cbv) | (split <;> cbv))
    all_goals first | refine leaf h (congrArg B ?_) rfl | refine hB _ _ hk1 ?_ ⟨rfl, rfl, rfl, rfl, rfl, congrArg I (hadd _ hk1 (by omega)), trivial⟩ (.inl rfl)
    all_goals clear hadd hlt hix h
    all_goals
      subst hA hS2
      simp only [std, st2, farS, iMax_eq, iLe, decide_eq_true_eq, decide_eq_false_iff_not] at *
      try simp (disch := omega) only [iAdd_id, iSub_id] at *
      rw [hP]
      simp only [nearS]
      try simp
      try omega
  · rename_i hk1
    have hk1 : ¬ j < l.length := by have := hlt.symm.trans hk1; simpa using this
    refine leaf h (congrArg B ?_) rfl
    rw [hP, List.drop_eq_nil_of_le (by omega)]; rfl
theorem p135 (p : Plate) {a b : Int} {xs ec : List AV} {ne ed gr lo hi sh wi : Int} (hp : PlateIs p a b xs ec ne ed gr lo hi sh wi) (hV : PlateV p) (l : List (Int × Int)) (m : Int) (hl : l.length ≤ 50) (hc : ∀ x ∈ l, 0 ≤ x.1 ∧ x.1 ≤ x.2 ∧ x.2 ≤ 100000) (hm : 0 ≤ m ∧ m ≤ 100000) (H : AHeap) {Kk : AV → AHeap → Prop} (h : Kk (B (anyS false p l m)) H) :
    ACalls Try.prog 135 [plV a b (.vs 2 xs) (.vs 2 ec) ne ed gr lo hi sh wi, .vs 2 (l.map sp), I m] H Kk := by
  have hn : 0 ≤ ne ∧ ne ≤ 10000 := by have h1 := hV.n1; have h2 := hV.n2; rw [hp.ne] at h1 h2; exact ⟨h1, h2⟩
  have hpn := hp.ne
  refine pureC (by rfl) (by rfl) (fun Kk h => ?_) H h
  generalize hW : anyS false p l m = W at h
  obtain ⟨ys, hys⟩ : ∃ ys, ys = l.map sp := ⟨_, rfl⟩
  rw [← hys]
  obtain ⟨A, hA⟩ : ∃ A, A = std := ⟨_, rfl⟩
  obtain ⟨S, hS⟩ : ∃ S, S = stS := ⟨_, rfl⟩
  obtain ⟨S2, hS2⟩ : ∃ S, S = st2 := ⟨_, rfl⟩
  refine go135 rfl (SGo_run hA ⟨[], [], tb4 S S2, []⟩ (tb4_ok hS hS2) .nil 200 fun T TD hT hTD => ?_)
  cbv
  rw [hT]
  refine AGo_up l.length (fun j => W = (l.drop j).any fun c => nearS false c m ne) (fun _ i => [(0, plV a b (.vs 2 xs) (.vs 2 ec) ne ed gr lo hi sh wi), (1, .vs 2 ys), (2, I m), (3, .mp 0 0 0), (6, B false), (7, I i)]) (fun _ => [.own 0 [I a, I b, .vs 2 xs, .vs 2 ec, I ne, I ed, I gr, I lo, I hi, I sh, I wi]]) (by rw [← hW, anyS, hpn]; rfl) ⟨rfl, rfl, rfl, rfl, rfl, rfl, trivial⟩ (.inl rfl) fun j i hi' hj hP Bk hB => ?_
  have hlt : A.lt i (A.vlen ys) = decide (j < l.length) := by subst hA; exact lt_len (by simp [hys]) hi'
  have hadd : ∀ N, j < N → N ≤ 9223372036854775807 → A.add .i64 i 1 = iLen (j + 1) := fun N hj hN => by subst hA; exact add_one hi' hj hN
  refine SGo_run hA ⟨[], [], tb4 S S2, []⟩ (tb4_ok hS hS2) .nil 200 fun T TD hT hTD => ?_
  cbv
  split <;> cbv
  · rename_i hk1
    have hk1 : j < l.length := by have := hlt.symm.trans hk1; simpa using this
    obtain ⟨⟨x, y⟩, hx⟩ : ∃ x, l[j]? = some x := ⟨_, List.getElem?_eq_getElem hk1⟩
    have hix : A.ix 2 2 ys i [I x, I y] := by subst hA; exact ix_map hys hi' hx rfl
    have hb := hc (x, y) (List.mem_of_getElem? hx)
    simp only at hb
    rw [drop_cons hx, List.any_cons] at hP
    repeat' (first | (refine Exists.intro _ (And.intro hix ?_); cbv) | (refine Exists.intro () (And.intro (by unfold Sm; omega) ?_); cbv) | (split <;> cbv))
    all_goals first | refine leaf h (congrArg B ?_) rfl | refine hB _ _ hk1 ?_ ⟨rfl, rfl, rfl, rfl, rfl, congrArg I (hadd _ hk1 (by omega)), trivial⟩ (.inl rfl)
    all_goals clear hadd hlt hix h
    all_goals
      subst hA hS2
      simp only [std, st2, farS, iMax_eq, iLe, decide_eq_true_eq, decide_eq_false_iff_not] at *
      try simp (disch := omega) only [iAdd_id, iSub_id] at *
      rw [hP]
      simp only [nearS]
      try simp
      try omega
  · rename_i hk1
    have hk1 : ¬ j < l.length := by have := hlt.symm.trans hk1; simpa using this
    refine leaf h (congrArg B ?_) rfl
    rw [hP, List.drop_eq_nil_of_le (by omega)]; rfl
end Go.Sas
