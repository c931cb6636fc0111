/-
Probe: what a mark covers: contract.
Conditions: none.
-/
import Derived.Test.YtajegdbljldakaaQR51
import Derived.Test.YtajegdbljldakaaQR53
set_option linter.unusedVariables false
set_option linter.unusedSimpArgs false
namespace Go.Sas
open Go.Proofs
set_option maxRecDepth 100000
/-- few marks that may be, on a road with so many places -/
def CovM (m : List Mrk) (h N : Int) : Prop := m.length ≤ 19 ∧ (∀ x ∈ m, MkOk N x) ∧ (0 ≤ h ∧ h ≤ 10000) ∧ 1 ≤ N ∧ N ≤ 1000
theorem mendS_mem {m : List Mrk} {k : Nat} {h : Int} {x : Mrk} (hx : x ∈ mendS m k h) : x ∈ m := by
  unfold mendS sortM at hx
  rw [sortV_mem] at hx
  unfold mendL at hx
  obtain ⟨p, hp, rfl⟩ := List.mem_map.1 hx
  have := (List.mem_filter.1 hp).1
  exact List.fst_mem_of_mem_zipIdx this
theorem mendS_len {m : List Mrk} {k : Nat} {h : Int} : (mendS m k h).length ≤ m.length := by
  unfold mendS sortM
  rw [sortV_len]
  unfold mendL
  rw [List.length_map]
  refine Nat.le_trans (List.length_filter_le _ _) ?_
  simp
abbrev Cst := Sps × Sps × Int
/-- what is known of may, sure and the hour after j mends -/
structure CovI (N : Int) (j : Nat) (s : Cst) : Prop where
  l1 : s.1.length ≤ 2 ^ j
  l2 : s.2.1.length ≤ 2 ^ j
  b1 : SpB N (1001 + 1000000 * iLen j) s.1
  b2 : SpB N 1001 s.2.1
  t : 0 ≤ s.2.2 ∧ s.2.2 ≤ 10000
theorem CovI.step {N sp0 : Int} {j : Nat} {s : Cst} (h : CovI N j s) (hN : 1 ≤ N ∧ N ≤ 1000) (hs : 0 ≤ sp0 ∧ sp0 ≤ 100) {y : Mrk} (hy : MkOk N y) : CovI N (j + 1) (covStep N sp0 s y) := by
  obtain ⟨h1, h2, h3, h4, h5⟩ := h
  obtain ⟨_, y1, y2, y3, y4, y5, y6⟩ := hy
  have hm : -1000000 ≤ (y.h - s.2.2) * sp0 ∧ (y.h - s.2.2) * sp0 ≤ 1000000 := by
    have e1 : (y.h - s.2.2) * sp0 ≤ 10000 * sp0 := Int.mul_le_mul_of_nonneg_right (by omega) hs.1
    have e2 : -10000 * sp0 ≤ (y.h - s.2.2) * sp0 := Int.mul_le_mul_of_nonneg_right (by omega) hs.1
    omega
  have hp : 2 ^ (j + 1) = 2 * 2 ^ j := by rw [Nat.pow_succ]; omega
  refine ⟨?_, ?_, ?_, ?_, y4⟩
  · refine Nat.le_trans withoutS_len ?_
    simp only [spreadS, List.length_map]; omega
  · refine Nat.le_trans withoutS_len ?_
    omega
  · have hj : (1001 : Int) + 1000000 * iLen (j + 1) = 1001 + 1000000 * iLen j + 1000000 := by unfold iLen; omega
    rw [hj]
    exact SpB.without (SpB.spread h3 hN (by unfold iLen; omega) hm) (by unfold iLen; omega) (by omega) (by omega)
  · exact SpB.without h4 (by omega) (by omega) (by omega)
theorem pow19 {j : Nat} (h : j ≤ 19) : 2 ^ j ≤ 524288 := by
  have : 2 ^ j ≤ 2 ^ 19 := Nat.pow_le_pow_right (by decide) h
  simpa using this
theorem SpB.big {N b : Int} {l : Sps} (h : SpB N b l) (hN : N ≤ 1000) (hb : b ≤ 100000000) : ∀ s ∈ l, (-1000000000 ≤ s.1 ∧ s.1 ≤ 1000000000) ∧ -1000000000 ≤ s.2 ∧ s.2 ≤ 1000000000 := fun s hs => by
  have := h s hs; omega
set_option maxHeartbeats 4000000 in
theorem p110 (m : List Mrk) (k : Nat) (h0 N : Int) (hC : CovM m h0 N) (hk : k < m.length) (H : AHeap) {Kk : AV → AHeap → Prop}
    (h : ∀ may sure, (may, sure) = covS m k h0 N → SpOk N may → SpOk N sure → ∀ ys zs, ys = may.map sp → zs = sure.map sp → Kk (.tup [.vs 2 ys, .vs 2 zs]) H) :
    ACalls Try.prog 110 [.vs 5 (m.map mkV), I (iLen k), I h0, I N] H Kk := by
  obtain ⟨hm, hmk, hh0, hN⟩ := hC
  obtain ⟨mk, hmk0⟩ : ∃ x, x = m.getD k mk0 := ⟨_, rfl⟩
  have hmk' : m[k]? = some mk := by rw [hmk0, List.getD_eq_getElem?_getD, List.getElem?_eq_getElem hk]; rfl
  have hmo := hmk _ (List.mem_of_getElem? hmk')
  obtain ⟨ms, hms⟩ : ∃ x, x = mendS m k h0 := ⟨_, rfl⟩
  have hmsl : ms.length ≤ 19 := by rw [hms]; exact Nat.le_trans mendS_len hm
  have hmso : ∀ x ∈ ms, MkOk N x := fun x hx => hmk x (mendS_mem (by rw [← hms]; exact hx))
  -- the states
  obtain ⟨ST, hST⟩ : ∃ f : Nat → Cst, f = fun j => (ms.take j).foldl (covStep N mk.s) ([(mk.f, mk.t)], [(mk.f, mk.t)], mk.h) := ⟨_, rfl⟩
  have hSTs : ∀ j y, ms[j]? = some y → ST (j + 1) = covStep N mk.s (ST j) y := fun j y hy => by
    rw [hST]; dsimp only
    obtain ⟨h8, he⟩ := List.getElem?_eq_some_iff.1 hy
    rw [List.take_succ_eq_append_getElem h8, he, List.foldl_append]; rfl
  have hI : ∀ j, j ≤ ms.length → CovI N j (ST j) := fun j => by
    induction j with
    | zero =>
      intro _
      obtain ⟨_, y1, y2, y3, y4, y5, y6⟩ := hmo
      rw [hST]
      refine ⟨by simp, by simp, fun s hs => ?_, fun s hs => ?_, y4⟩
      · simp only [List.take_zero, List.foldl_nil, List.mem_singleton] at hs; subst hs; dsimp only; unfold iLen; omega
      · simp only [List.take_zero, List.foldl_nil, List.mem_singleton] at hs; subst hs; dsimp only; omega
    | succ j ih =>
      intro hj
      obtain ⟨y, hy⟩ : ∃ y, ms[j]? = some y := ⟨_, List.getElem?_eq_getElem (by omega)⟩
      rw [hSTs j y hy]
      exact (ih (by omega)).step hN ⟨hmo.2.2.2.2.2.1, hmo.2.2.2.2.2.2⟩ (hmso _ (List.mem_of_getElem? hy))
  have hcov : covS m k h0 N = if mk.k = 4 ∨ h0 < mk.h then ([], []) else (spreadS N ((h0 - (ST ms.length).2.2) * mk.s) (ST ms.length).1, (ST ms.length).2.1) := by
    unfold covS; rw [← hmk0, ← hms, hST]; dsimp only; rw [List.take_length]
  obtain ⟨W, hW⟩ : ∃ W, W = covS m k h0 N := ⟨_, rfl⟩
  rw [← hW] at hcov
  have hok : SpOk N W.1 ∧ SpOk N W.2 := by
    rw [hcov]
    split
    · exact ⟨⟨by simp, by simp⟩, by simp, by simp⟩
    · have hi := hI _ (Nat.le_refl _)
      have hp := pow19 hmsl
      refine ⟨⟨?_, fun s hs => ?_⟩, ?_, fun s hs => ?_⟩
      · simp only [spreadS, List.length_map]; have := hi.l1; omega
      · unfold spreadS at hs
        obtain ⟨u, hu, rfl⟩ := List.mem_map.1 hs
        dsimp only; omega
      · have := hi.l2; dsimp only at this ⊢; omega
      · have := hi.b2 s hs; omega
  have h : Kk (.tup [.vs 2 (W.1.map sp), .vs 2 (W.2.map sp)]) H := h W.1 W.2 hW hok.1 hok.2 _ _ rfl rfl
  have hnw : AV.nidL (m.map mkV) = true := nidL_map (g := mkV) (fun _ => rfl) m
  refine (fun q => pureF (by simp [AV.nidL, AV.nid, hnw]) (by simp [AV.nid, AV.nidL]) q H h) ?_
  clear h hok
  intro Kk h
  obtain ⟨xs, hxs⟩ : ∃ xs, xs = m.map mkV := ⟨_, rfl⟩
  obtain ⟨ik, hik⟩ : ∃ i, i = iLen k := ⟨_, rfl⟩
  rw [← hxs, ← hik]
  obtain ⟨F, hF⟩ : ∃ F, F = Frees 0 Kk := ⟨_, rfl⟩
  rw [← hF]
  obtain ⟨A, hA⟩ : ∃ A, A = std := ⟨_, rfl⟩
  have hne : ∀ x y, A.ne x y = decide (x ≠ y) := by subst hA; intro x y; simp only [std, iNe]; rw [Bool.eq_iff_iff]; simp
  have hee : ∀ x y, A.eq x y = decide (x = y) := by subst hA; intro x y; exact iEq_dec _ _
  have hll : ∀ x y, A.lt x y = decide (x < y) := by subst hA; intro x y; rfl
  have hle : ∀ x y, A.le x y = decide (x ≤ y) := by subst hA; intro x y; rfl
  have hnb : ∀ b, A.bnot b = !b := by subst hA; intro b; rfl
  have hbd : ∀ x y, A.band x y = (x && y) := by subst hA; intro x y; rfl
  have hsg : ∀ g, A.sg g g := by subst hA; exact fun _ => rfl
  obtain ⟨xk, xf, xt, xh, xp⟩ := mk
  have hix : A.ix 5 5 xs ik (mkC ⟨xk, xf, xt, xh, xp⟩) := by subst hA; exact ix_map hxs hik hmk' rfl
  obtain ⟨_, y1, y2, y3, y4, y5, y6⟩ := hmo
  dsimp only at y1 y2 y3 y4 y5 y6 hcov hSTs hST
  refine go110 rfl (SGo_run hA ⟨[], [], (120, eMends) :: [], []⟩ (.cons eMends_ok .nil) .nil 200 fun T TD hT hTD => ?_)
  cbv
  refine Exists.intro _ (And.intro hix ?_); cbv
  have he4 : A.eq xk 4 = decide (xk = 4) := hee _ _
  have hl4 : A.lt h0 xh = decide (h0 < xh) := hll _ _
  have hno : (xk = 4 ∨ h0 < xh) → ∀ H1, F (.tup [NS, NS]) H1 := fun hq H1 => by
    rw [if_pos hq] at hcov
    rw [hF]
    rw [hcov] at h
    exact Frees.wk (r' := .tup [.vs 2 [], .vs 2 []]) (Wk.tup ⟨Wk.nil, Wk.nil, trivial⟩) (Frees.drop0 h rfl)
  split <;> cbv
  · rename_i z1
    exact hno (.inl (of_decide_eq_true (he4.symm.trans z1))) _
  rename_i z1
  have z1 := of_decide_eq_false (he4.symm.trans z1)
  split <;> cbv
  · rename_i z2
    exact hno (.inr (of_decide_eq_true (hl4.symm.trans z2))) _
  rename_i z2
  have z2 := of_decide_eq_false (hl4.symm.trans z2)
  clear hno he4 hl4
  rw [if_neg (fun hh => hh.elim z1 z2)] at hcov
  refine Exists.intro m (Exists.intro k (And.intro ⟨hxs, hik, hm, hk⟩ ?_))
  intro ys hys; cbv
  have hys : ys = ms.map mkV := by rw [hms]; exact hys
  have hvv : A.vlen ys = iLen ms.length := by subst hA; rw [hys]; simp [std]
  rw [hT]
  refine AGo_upE [2, 8, 12, 41, 42] ms.length (fun _ (_ : Unit) => True) (fun j _ i => [(9, .vs 2 ((ST j).2.1.map sp)), (43, I i)]) (fun j _ => [.own 0 [I N], .own 0 [.vs 2 ((ST j).1.map sp)], .own 0 [I xk, I xf, I xt, I xh, I xp], .own 0 [I (ST j).2.2]]) () trivial ⟨by rw [hST]; rfl, rfl, trivial⟩ (.inl (by rw [hST]; rfl)) fun j _ i hi hj _ Bk hB => ?_
  have hlt : A.lt i (A.vlen ys) = decide (j < ms.length) := by rw [hvv, hll, hi, decide_eq_decide]; unfold iLen; omega
  have hadd : ∀ N, j < N → N ≤ 9223372036854775807 → A.add .i64 i 1 = iLen (j + 1) := fun N hj hN => by subst hA; exact add_one hi hj hN
  obtain ⟨hi1, hi2, hi3, hi4, hi5⟩ := hI j hj
  have hS1 := hSTs j
  obtain ⟨s, hs⟩ : ∃ s, s = ST j := ⟨_, rfl⟩
  rw [← hs] at hi1 hi2 hi3 hi4 hi5 hS1
  rw [← hs]
  obtain ⟨may, sure, at0⟩ := s
  dsimp only at hi1 hi2 hi3 hi4 hi5
  have hpw := pow19 (j := j) (by omega)
  obtain ⟨bj, hbj⟩ : ∃ b : Int, b = 1001 + 1000000 * iLen j := ⟨_, rfl⟩
  have hbb : 1001 ≤ bj ∧ bj ≤ 20000000 := by rw [hbj]; unfold iLen; omega
  rw [← hbj] at hi3
  obtain ⟨vm, hvm⟩ : ∃ v, v = may.map sp := ⟨_, rfl⟩
  obtain ⟨vs, hvs⟩ : ∃ v, v = sure.map sp := ⟨_, rfl⟩
  rw [← hvm, ← hvs]
  refine SGo_run hA ⟨[], [2000001], (121, eWithout) :: [], (119, eSpread) :: []⟩ (.cons eWithout_ok .nil) (.cons eSpread_ok .nil) 200 fun T TD hT hTD => ?_
  cbv
  split <;> cbv
  · rename_i hk0
    have hk1 : j < ms.length := by have hz := hlt.symm.trans hk0; simpa using hz
    clear hk0
    obtain ⟨⟨yk, yf, yt, yh, yp⟩, hy⟩ : ∃ y, ms[j]? = some y := ⟨_, List.getElem?_eq_getElem (by omega)⟩
    have hS1 := hS1 _ hy
    obtain ⟨_, w1, w2, w3, w4, w5, w6⟩ := hmso _ (List.mem_of_getElem? hy)
    dsimp only at w1 w2 w3 w4 w5 w6
    have hiy : A.ix 5 5 ys i (mkC ⟨yk, yf, yt, yh, yp⟩) := by subst hA; exact ix_map hys hi hy rfl
    have hadj := hadd _ hk1 (by omega)
    have hmul : -1000000 ≤ (yh - at0) * xp ∧ (yh - at0) * xp ≤ 1000000 := by
      have e1 : (yh - at0) * xp ≤ 10000 * xp := Int.mul_le_mul_of_nonneg_right (by omega) y5
      have e2 : -10000 * xp ≤ (yh - at0) * xp := Int.mul_le_mul_of_nonneg_right (by omega) y5
      omega
    have hspr := SpB.spread hi3 hN (by omega) hmul
    have hspb := SpB.big hspr hN.2 (by omega)
    have hsub := SpB.big hi4 hN.2 (by omega)
    have hsl : (spreadS N ((yh - at0) * xp) may).length ≤ 1000000 := by simp only [spreadS, List.length_map]; omega
    refine Exists.intro _ (And.intro hiy ?_); cbv
    refine Exists.intro may (Exists.intro bj (And.intro ⟨hvm, by omega, by omega, hi3⟩ (And.intro hN (And.intro ⟨w4, hi5⟩ (And.intro ⟨y5, y6⟩ ?_)))))
    intro z hz; cbv
    refine Exists.intro _ (And.intro ⟨hz, hsl, hspb⟩ (And.intro ⟨by omega, by omega⟩ (And.intro ⟨by omega, by omega⟩ ?_)))
    intro u hu; cbv
    refine Exists.intro sure (And.intro ⟨hvs, by omega, hsub⟩ (And.intro ⟨by omega, by omega⟩ (And.intro ⟨by omega, by omega⟩ ?_)))
    intro v hv; cbv
    refine And.intro (by subst hA; first | (simp [std, Keep, SubH, ResK]; done) | exact .inr ⟨⟨rfl, SubH.self _⟩, trivial, .inr fun _ => ⟨rfl, SubH.self _⟩⟩ | exact .inr ⟨SubH.self _, trivial, .inr fun _ => SubH.self _⟩ | exact .inr ⟨by simp [SubH], trivial, .inl rfl⟩ | exact .inr ⟨by simp [SubH], trivial, .inr fun _ => by simp [SubH]⟩) ?_
    cbv
    unfold covStep at hS1
    dsimp only at hS1
    exact hB () _ _ hk1 trivial ⟨by rw [hS1, hv]; rfl, congrArg I hadj, trivial⟩ ⟨rfl, rfl, rfl, rfl, rfl, trivial⟩ (.inr ⟨⟨_, by rw [hS1]; dsimp only; rw [← hu]; rfl⟩, by simp, by simp [ltG, AV.lt, AV.ltL, keepS, look, gset], by simp [ltH, AObj.lt, AV.lt, AV.ltL]⟩)
  · rename_i hk0
    have hk1 : ¬ j < ms.length := by have hz := hlt.symm.trans hk0; simpa using hz
    clear hk0
    have hjM : j = ms.length := by omega
    rw [← hjM, ← hs] at hcov
    dsimp only at hcov
    refine Exists.intro may (Exists.intro bj (And.intro ⟨hvm, by omega, by omega, hi3⟩ (And.intro hN (And.intro ⟨hh0, hi5⟩ (And.intro ⟨y5, y6⟩ ?_)))))
    intro zs hzs; cbv
    rw [hcov] at h
    dsimp only at h
    rw [← hzs, ← hvs] at h
    rw [hF]
    exact Frees.drop0 h rfl
theorem CovM.ok : CovOk CovM := by
  intro args pt h H Kk hk
  unfold eCov at h
  split at h
  · cases h
    obtain ⟨m, k, rfl, rfl, h1, h2, h3⟩ := hk
    exact p110 m k _ _ h2 h1 H h3
  · cases h
end Go.Sas
