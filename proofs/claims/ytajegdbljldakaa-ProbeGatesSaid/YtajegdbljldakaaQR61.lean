/-
ProbeGates: the law's core.
Conditions: none.
-/
import Derived.Test.YtajegdbljldakaaQR59
import Derived.Test.YtajegdbljldakaaQR60
import Derived.Test.YtajegdbljldakaaQRM14
import Derived.Test.YtajegdbljldakaaPS
import Derived.Test.YtajegdbljldakaaQRL11
set_option linter.unusedVariables false
set_option linter.unusedSimpArgs false
namespace Go.Sas
open Go.Proofs
set_option maxRecDepth 100000
set_option maxHeartbeats 8000000 in
theorem core11 (nums : List Int) (hn1 : nums.length ≤ 9223372036854775807) : ACalls Try.prog 11 [.vs 1 (nums.map I)] [] fun r _ => r = .lit (.bool true) := by
  obtain ⟨Kk, hKk⟩ : ∃ K : AV → AHeap → Prop, K = fun r _ => r = .lit (.bool true) := ⟨_, rfl⟩
  rw [← hKk]
  have h : ∀ H, Kk (B true) H := fun H => by rw [hKk]
  clear hKk
  obtain ⟨xn, hxn⟩ : ∃ ys, ys = nums.map I := ⟨_, rfl⟩
  rw [← hxn]
  obtain ⟨A, hA⟩ : ∃ A, A = std := ⟨_, rfl⟩
  have hne : ∀ x y, A.ne x y = decide (x ≠ y) := by subst hA; intro x y; simp only [std, iNe]; rw [Bool.eq_iff_iff]; simp
  have hee : ∀ x y, A.eq x y = decide (x = y) := by subst hA; intro x y; exact iEq_dec _ _
  have hll : ∀ x y, A.lt x y = decide (x < y) := by subst hA; intro x y; rfl
  have hle : ∀ x y, A.le x y = decide (x ≤ y) := by subst hA; intro x y; rfl
  have hnb : ∀ b, A.bnot b = !b := by subst hA; intro b; rfl
  have hbd : ∀ x y, A.band x y = (x && y) := by subst hA; intro x y; rfl
  have hsg : ∀ g, A.sg g g := by subst hA; exact fun _ => rfl
  refine go11 rfl (SGo_run hA ⟨[], [0], (24, eClose CovM) :: (57, eStaleR) :: (41, eCover CovM) :: [], edM⟩ (.cons (eClose_ok CovM.ok) (.cons (eStaleR_ok p57) (.cons (eCover_ok CovM.ok) .nil))) edM_ok 200 fun T TD hT hTD => ?_)
  cbv
  refine Exists.intro nums (And.intro ⟨hxn, hn1⟩ ?_)
  intro w1
  cbv
  refine Exists.intro () (And.intro (by omega) ?_)
  rintro w2 _ ⟨rs, a, b, c, TC, l, xs, cr, ls, rfl, hxs, hcr, hls, hD⟩
  cbv
  obtain ⟨ho, hs, hlo⟩ := hD.lks (by omega) (by omega)
  have hPl := ho.plc
  have hRl := ho.ilen
  obtain ⟨R, hR⟩ : ∃ R, R = plc rs := ⟨_, rfl⟩
  rw [← hR] at hcr hlo hPl hRl
  have hcrs : CrsOk R TC 6 := hR ▸ hD.crs
  have hfit : ∀ x ∈ l, LkFit R TC 3 6 x := hR ▸ hD.fit
  obtain ⟨N, hN⟩ : ∃ N, N = R.length := ⟨_, rfl⟩
  rw [← hN] at hcr hRl
  have hN1 : 1 ≤ N := by rw [hN]; exact hPl.pos
  have hN2 : N ≤ 1000 := by rw [hN]; exact hPl.le
  have hlb : l.length ≤ 200 := hlo.le
  have hrl : rs.length ≤ 20 := ho.n2
  have hcv : A.vlen cr = 6 := by subst hA; rw [hcr]; rfl
  have hrow : ∀ i q, q = iLen i → i < 6 → A.ix 1 1 cr q [.vs 1 (crsRow TC N i)] := fun i q hq hi => by subst hA; exact ix_map (f := fun i => AV.vs 1 (crsRow TC N i)) hcr hq (by simp [hi]) rfl
  have hrv : ∀ i, A.vlen (crsRow TC N i) = iLen N := fun i => by subst hA; simp [std, crsRow]
  have hcell : ∀ i p q, q = iLen p → p < N → A.ix 1 1 (crsRow TC N i) q [I (TC i p)] := fun i p q hq hp => by subst hA; exact ix_map (f := I) rfl hq (by simp [hp]) rfl
  have hsur : surE rs a b c l = 0 := surE_ok.2 ⟨ho, hs, hR ▸ hlo⟩
  have hkn : ∀ (p : Nat) (t : Int), p < N → (0 ≤ t ∧ t ≤ 10000) → knownR rs a b c l (iLen p) t = (knowS R l p t, 0) := fun p t hp ht => by
    have : knownE rs a b c l (iLen p) t = 0 := by
      unfold knownE orElse; rw [hsur, if_pos rfl, if_neg (by rw [← hRl]; unfold iLen; omega), if_neg (by omega)]
    unfold knownR; rw [if_pos this, ← hR]; rfl
  refine Exists.intro (rs, 2, 9) (And.intro ⟨hxs, rfl, rfl, ho, by omega, by omega⟩ ?_)
  rintro w3 _ ⟨m, ms, rfl, hms, hml, hmk⟩
  cbv
  have hml2 : m.length ≤ 2 := by
    have h9 : iLen m.length ≤ 2 := hml
    unfold iLen at h9; omega
  refine Exists.intro () (And.intro (by show A.vlen cr ≤ _; rw [hcv]; omega) ?_)
  rintro w4 _ ⟨q1, rfl, hq1, hq1'⟩
  have hq1' : q1 < A.vlen cr ∨ q1 = 0 := hq1'
  rw [hcv] at hq1'
  cbv
  obtain ⟨i, hi⟩ : ∃ i : Nat, q1 = iLen i := ⟨q1.toNat, by unfold iLen; omega⟩
  have hi6 : i < 6 := by unfold iLen at hi; omega
  have hq1b : 0 ≤ q1 ∧ q1 ≤ 5 := by unfold iLen at hi; omega
  have hri := hrow i q1 hi hi6
  have hrvi := hrv i
  have hcelli := hcell i
  obtain ⟨row, hrowe⟩ : ∃ x, x = crsRow TC N i := ⟨_, rfl⟩
  rw [← hrowe] at hri hrvi
  refine Exists.intro _ (And.intro hri ?_); cbv
  refine Exists.intro _ (And.intro hri ?_); cbv
  refine Exists.intro () (And.intro (by show A.vlen row ≤ _; rw [hrvi]; unfold iLen; omega) ?_)
  rintro w5 _ ⟨q2, rfl, hq2, hq2'⟩
  have hq2' : q2 < A.vlen row ∨ q2 = 0 := hq2'
  rw [hrvi] at hq2'
  cbv
  refine And.intro (by subst hA; first | (simp [std, Keep, SubH, ResK]; done) | exact .inr ⟨⟨rfl, SubH.self _⟩, trivial, .inr fun _ => ⟨rfl, SubH.self _⟩⟩ | exact .inr ⟨SubH.self _, trivial, .inr fun _ => SubH.self _⟩ | exact .inr ⟨by simp [SubH], trivial, .inl rfl⟩ | exact .inr ⟨by simp [SubH], trivial, .inr fun _ => by simp [SubH]⟩) ?_
  cbv
  obtain ⟨p0, hp0⟩ : ∃ p : Nat, q2 = iLen p := ⟨q2.toNat, by unfold iLen; omega⟩
  have hp0N : p0 < N := by unfold iLen at hp0 hq2'; omega
  have hci0 : A.ix 1 1 row q2 [I (TC i p0)] := by rw [hrowe]; exact hcelli p0 q2 hp0 hp0N
  have hTb := hcrs.rng i p0 hi6 (by omega)
  obtain ⟨t0, ht0⟩ : ∃ t, t = TC i p0 := ⟨_, rfl⟩
  rw [← ht0] at hci0 hTb
  refine Exists.intro _ (And.intro hci0 ?_); cbv
  refine Exists.intro () (And.intro (by omega) ?_)
  rintro w6 _ ⟨q3, rfl, hq3, hq3'⟩
  cbv
  refine And.intro (by subst hA; first | (simp [std, Keep, SubH, ResK]; done) | exact .inr ⟨⟨rfl, SubH.self _⟩, trivial, .inr fun _ => ⟨rfl, SubH.self _⟩⟩ | exact .inr ⟨SubH.self _, trivial, .inr fun _ => SubH.self _⟩ | exact .inr ⟨by simp [SubH], trivial, .inl rfl⟩ | exact .inr ⟨by simp [SubH], trivial, .inr fun _ => by simp [SubH]⟩) ?_
  cbv
  refine Exists.intro () (And.intro ⟨by simp, by simp, by exact AllI_lits (l := [0, q3])⟩ ?_)
  rintro w7 _ ⟨d, rfl, hd⟩
  simp at hd
  cbv
  refine And.intro (by subst hA; first | (simp [std, Keep, SubH, ResK]; done) | exact .inr ⟨⟨rfl, SubH.self _⟩, trivial, .inr fun _ => ⟨rfl, SubH.self _⟩⟩ | exact .inr ⟨SubH.self _, trivial, .inr fun _ => SubH.self _⟩ | exact .inr ⟨by simp [SubH], trivial, .inl rfl⟩ | exact .inr ⟨by simp [SubH], trivial, .inr fun _ => by simp [SubH]⟩) ?_
  cbv
  obtain ⟨nd, hnd⟩ : ∃ x, x = max 0 (t0 - d) := ⟨_, rfl⟩
  obtain ⟨th, hthe⟩ : ∃ x, x = 3 + q1 := ⟨_, rfl⟩
  have hmx : A.max 0 (A.sub .i64 t0 d) = nd := by rw [hnd]; subst hA; simp only [std, iMax_eq]; rw [iSub_id (by omega) (by omega)]
  have hth : A.add .i64 3 q1 = th := by rw [hthe]; subst hA; exact iAdd_id (by omega) (by omega)
  have hndb : 0 ≤ nd ∧ nd ≤ 3000 := by rw [hnd]; omega
  have hthb : 3 ≤ th ∧ th ≤ 8 := by rw [hthe]; omega
  have hmo : ∀ x ∈ m, MkOk (sumLg rs) x := fun x hx => (hmk x hx).1
  have hsumb := sumLg_bnd' ho
  have hask : askE rs a b c l m nd th = 0 := askE_ok.2 ⟨ho, hs, hR ▸ hlo, by omega, hmo, hndb, by omega, by omega⟩
  have hcov : CovM (pastM m th) th (sumLg rs) := ⟨by have := pastM_len (l := m) (h := th); omega, fun x hx => hmo x (pastM_mem hx), by omega, by omega, by omega⟩
  have hcov2 : CovM m th (sumLg rs) := ⟨by omega, hmo, by omega, by omega, by omega⟩
  have hcvE : coverE rs a b c m th = 0 := by
    unfold coverE orElse; rw [if_pos (marksS_ok.2 ⟨⟨ho, hs⟩, by omega, hmo⟩), if_neg (by omega)]
  have hstE : staleE rs a b c l th = 0 := by
    unfold staleE orElse; rw [if_pos hsur, if_neg (by omega)]
  refine Exists.intro rs (Exists.intro l (Exists.intro m (And.intro hxs (And.intro hls (And.intro hms (And.intro (by omega) (And.intro (by omega) (And.intro (by omega) (And.intro (fun _ => by show CovM (pastM m (A.add .i64 3 q1)) (A.add .i64 3 q1) (sumLg rs); rw [hth]; exact hcov) ?_)))))))))
  intro e1 y1 he1 hy1; cbv
  have he1 : e1 = 0 := by
    have : e1 = askE rs a b c l m nd th := by rw [← hmx, ← hth]; exact he1
    rw [this, hask]
  obtain ⟨CL, hCL⟩ : ∃ x, x = cloS (whyS R a b c (pastL l th) (pastM m th) nd th) N := ⟨_, rfl⟩
  have hY1 : y1 = CL.map cloV := by
    have : y1 = (closeL rs a b c l m nd th).map cloV := by rw [← hmx, ← hth]; exact hy1
    rw [this, hCL]; unfold closeL; rw [if_pos hask, hN, hR]
  subst he1
  refine Exists.intro rs (Exists.intro l (And.intro hxs (And.intro hls (And.intro (by omega) (And.intro (by omega) ?_)))))
  intro y2 e2 he2 hy2; cbv
  have he2 : e2 = 0 := by
    have : e2 = staleE rs a b c l th := by rw [← hth]; exact he2
    rw [this, hstE]
  obtain ⟨SL, hSL⟩ : ∃ x, x = spaS (staleS R a b c l th) N := ⟨_, rfl⟩
  have hY2 : y2 = SL.map spaV := by
    have : y2 = (stalR rs a b c l th).map spaV := by rw [← hth]; exact hy2
    rw [this, hSL]; unfold stalR; rw [if_pos hstE, hN, hR]
  subst he2
  refine Exists.intro rs (Exists.intro m (And.intro ⟨hxs, hms, by omega, by omega⟩ (And.intro (fun _ => by show CovM m (A.add .i64 3 q1) (sumLg rs); rw [hth]; exact hcov2) ?_)))
  intro e3 y3 he3 hy3; cbv
  have he3 : e3 = 0 := by
    have : e3 = coverE rs a b c m th := by rw [← hth]; exact he3
    rw [this, hcvE]
  obtain ⟨PL, hPL⟩ : ∃ x, x = runsN (verdS m th (sumLg rs)) N := ⟨_, rfl⟩
  have hY3 : y3 = PL.map cloV := by
    have : y3 = (coverL rs a b c m th).map cloV := by rw [← hth]; exact hy3
    rw [this, hPL]; unfold coverL; rw [if_pos hcvE, hN, hR]
  subst he3
  have hn0 : A.ne 0 0 = false := by subst hA; rfl
  split <;> first | (rename_i hz; exact Bool.noConfusion (hz.symm.trans hn0)) | cbv
  split <;> first | (rename_i hz; exact Bool.noConfusion (hz.symm.trans hn0)) | cbv
  split <;> first | (rename_i hz; exact Bool.noConfusion (hz.symm.trans hn0)) | cbv
  have hCLl : CL.length ≤ 1000000 := by rw [hCL]; exact Nat.le_trans (List.length_filter_le _ _) (Nat.le_trans runsN_len (by omega))
  have hPLl : PL.length ≤ 1000000 := by rw [hPL]; exact Nat.le_trans runsN_len (by omega)
  have hy2v : A.vlen y2 = iLen SL.length := by subst hA; rw [hY2]; simp [std]
  have hSLl : SL.length ≤ 1000000 := by rw [hSL]; exact Nat.le_trans spaS_len (by omega)
  rw [hT]
  refine AGo_whileE (σ := Nat) [5, 8, 9, 10, 12, 14] (fun p => N - p) (fun p => p ≤ N) (fun p => [(16, I (iLen p))]) (fun _ => [.own 0 [U w7], .own 0 [.vs 5 xs, I a, I b, I c]]) 0 (Nat.zero_le _) ⟨rfl, trivial⟩ (.inl rfl) fun p hp Bk hB => ?_
  obtain ⟨ip, hip⟩ : ∃ q, q = iLen p := ⟨_, rfl⟩
  rw [← hip]
  have hlt2 : A.lt ip (A.vlen row) = decide (p < N) := by rw [hrvi, hll, hip]; rw [decide_eq_decide]; unfold iLen; omega
  refine SGo_run hA ⟨[], [], (27, eAt) :: (45, eAt) :: (28, eAwake) :: [], []⟩ (.cons (eAt_ok p27) (.cons (eAt_ok p45) (.cons eAwake_ok .nil))) .nil 200 fun T TD hT hTD => ?_
  cbv
  refine Exists.intro _ (And.intro hri ?_); cbv
  split <;> cbv
  · rename_i hz2
    have hpN : p < N := of_decide_eq_true (hlt2.symm.trans hz2)
    have hadp : A.add .i64 ip 1 = iLen (p + 1) := by subst hA; exact add_one (N := 1000) hip (by omega) (by omega)
    refine Exists.intro CL (Exists.intro p (And.intro ⟨hY1, hip, hCLl⟩ ?_))
    intro wy hwy; cbv
    have hwy : wy = whyS R a b c (pastL l th) (pastM m th) nd th p := hwy.trans (by rw [hCL]; exact at_clo hpN)
    have hrng : 0 ≤ wy ∧ wy ≤ 3 := by rw [hwy]; exact why_rng
    have z1 : A.lt wy 0 = false := by rw [hll]; simp; omega
    have z2 : A.lt 3 wy = false := by rw [hll]; simp; omega
    have hqn : A.ne wy 0 = decide (wy ≠ 0) := hne _ _
    split <;> first | (rename_i hz; exact Bool.noConfusion (hz.symm.trans z1)) | cbv
    split <;> first | (rename_i hz; exact Bool.noConfusion (hz.symm.trans z2)) | cbv
    split <;> cbv
    · exact hB (p + 1) _ _ (by omega) (by omega) ⟨congrArg I hadp, trivial⟩ ⟨rfl, rfl, rfl, rfl, rfl, rfl, trivial⟩ (.inl rfl)
    rename_i hz3
    have hw0 : wy = 0 := by have := of_decide_eq_false (hqn.symm.trans hz3); simpa using this
    obtain ⟨k1, k2, k3⟩ := why_zero (hwy.symm.trans hw0)
    rw [verd_past, ← hN, hRl] at k2
    rw [stale_past] at k3
    have hk4 := know_crs hPl hcrs (l := pastL l th) (fun x hx => hfit x (pastL_mem hx)) hi6 (p := p) (by omega)
    have hthi : (3 : Int) + (i : Int) = th := by rw [hthe, hi]; rfl
    rw [hthi] at hk4
    have hcp : A.ix 1 1 row ip [I (TC i p)] := by rw [hrowe]; exact hcelli p ip hip hpN
    obtain ⟨t, ht⟩ : ∃ t, t = TC i p := ⟨_, rfl⟩
    rw [← ht] at hcp hk4
    refine Exists.intro _ (And.intro hri ?_); cbv
    refine Exists.intro _ (And.intro hcp ?_); cbv
    have z3 : A.lt t (A.max 0 (A.sub .i64 t0 d)) = false := by rw [hmx, hll]; simp; omega
    split <;> first | (rename_i hz; exact Bool.noConfusion (hz.symm.trans z3)) | cbv
    refine Exists.intro PL (Exists.intro p (And.intro ⟨hY3, hip, hPLl⟩ ?_))
    intro v hv; cbv
    have hv : v = 2 := by rw [hv, hPL, at_runs hpN]; exact k2
    have z4 : A.ne v 2 = false := by rw [hne, hv]; rfl
    split <;> first | (rename_i hz; exact Bool.noConfusion (hz.symm.trans z4)) | cbv
    rw [hT]
    refine AGo_upE [5, 8, 9, 10, 12, 14, 16] SL.length (fun _ (_ : Unit) => True) (fun j _ i => [(18, I i)]) (fun _ _ => [.own 0 [U w7], .own 0 [.vs 5 xs, I a, I b, I c]]) () trivial ⟨rfl, trivial⟩ (.inl rfl) fun j _ i2 hi2 hj _ Bk2 hB2 => ?_
    have hlt3 : A.lt i2 (A.vlen y2) = decide (j < SL.length) := by rw [hy2v, hll, hi2, decide_eq_decide]; unfold iLen; omega
    have hadd2 : ∀ N, j < N → N ≤ 9223372036854775807 → A.add .i64 i2 1 = iLen (j + 1) := fun N hj hN => by subst hA; exact add_one hi2 hj hN
    refine SGo_run hA ⟨[], [], (50, eHas) :: [], []⟩ (.cons eHas_ok .nil) .nil 200 fun T TD hT hTD => ?_
    cbv
    split <;> cbv
    · rename_i hz4
      have hjS : j < SL.length := of_decide_eq_true (hlt3.symm.trans hz4)
      obtain ⟨⟨u, v', bb⟩, hx⟩ : ∃ x, SL[j]? = some x := ⟨_, List.getElem?_eq_getElem hjS⟩
      have hnot := spaS_not k3 (u, v', bb) (by rw [← hSL]; exact List.mem_of_getElem? hx)
      dsimp only at hnot
      obtain ⟨iu, hiu⟩ : ∃ i, i = iLen u := ⟨_, rfl⟩
      obtain ⟨iv, hiv⟩ : ∃ i, i = iLen v' := ⟨_, rfl⟩
      have hix : A.ix 2 2 y2 i2 [I iu, I iv] := by subst hA hiu hiv; exact ix_map hY2 hi2 hx rfl
      refine Exists.intro _ (And.intro hix ?_); cbv
      intro q hq
      have hq : q = false := by rw [hq, decide_eq_false_iff_not, hiu, hiv, hip]; unfold iLen; omega
      subst hq
      cbv
      exact hB2 () _ _ hjS trivial ⟨congrArg I (hadd2 _ hjS (by omega)), trivial⟩ ⟨rfl, rfl, rfl, rfl, rfl, rfl, rfl, trivial⟩ (.inl rfl)
    · exact hB (p + 1) _ _ (by omega) (by omega) ⟨congrArg I hadp, trivial⟩ ⟨rfl, rfl, rfl, rfl, rfl, rfl, trivial⟩ (.inl rfl)
  · exact h _
end Go.Sas
