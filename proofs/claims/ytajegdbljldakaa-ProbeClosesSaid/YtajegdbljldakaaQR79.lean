/-
ProbeCloses: the law's core.
Conditions: none.
-/
import Derived.Test.YtajegdbljldakaaPZ
import Derived.Test.YtajegdbljldakaaQR78
import Derived.Test.YtajegdbljldakaaQR59
import Derived.Test.YtajegdbljldakaaPU
import Derived.Test.YtajegdbljldakaaQR36
import Derived.Test.YtajegdbljldakaaPK
import Derived.Test.YtajegdbljldakaaQRL9
import Derived.Test.YtajegdbljldakaaP8
set_option linter.unusedVariables false
set_option linter.unusedSimpArgs false
namespace Go.Sas
open Go.Proofs
set_option maxRecDepth 100000
theorem closeL_len {rs : List Rch} {a b c : Int} {l : List Lk} {m : List Mrk} {need h : Int} : (closeL rs a b c l m need h).length ≤ 9223372036854775807 := by
  unfold closeL
  split
  · rename_i h0
    have := (askE_ok.1 h0).1.le'
    exact Nat.le_trans (List.length_filter_le _ _) (Nat.le_trans runsN_len (by omega))
  · simp
theorem askE_cov {rs : List Rch} {a b c : Int} {l : List Lk} {m : List Mrk} {need h : Int} (h0 : askE rs a b c l m need h = 0) (hb : m.length ≤ 19 ∨ 100 < m.length) : CovM (pastM m h) h (sumLg rs) := by
  obtain ⟨ho, _, _, h1, h2, _, h3⟩ := askE_ok.1 h0
  have := sumLg_bnd' ho
  exact ⟨by have := pastM_len (l := m) (h := h); omega, fun x hx => h2 x (pastM_mem hx), by omega, by omega, by omega⟩
set_option maxHeartbeats 8000000 in
theorem core9 (rs0 : List Rch) (a0 b0 c0 : Int) (l0 : List Lk) (m0 : List Mrk) (need tt pl : Int) (nums : List Int) (hr0 : rs0.length ≤ 9223372036854775807) (hl0 : l0.length ≤ 9223372036854775807) (hm0 : m0.length ≤ 9223372036854775807) (_ : -9223372036854775808 ≤ need ∧ need ≤ 9223372036854775807) (_ : -9223372036854775808 ≤ tt ∧ tt ≤ 9223372036854775807) (_ : -9223372036854775808 ≤ pl ∧ pl ≤ 9223372036854775807) (hn1 : nums.length ≤ 9223372036854775807) :
    ACalls Try.prog 9 [svV (.vs 5 (rs0.map rcV)) a0 b0 c0, .vs 5 (l0.map lkV), .vs 5 (m0.map mkV), I need, I tt, I pl, .vs 1 (nums.map I)] [] fun r _ => r = .lit (.bool true) := by
  obtain ⟨Kk, hKk⟩ : ∃ K : AV → AHeap → Prop, K = fun r _ => r = .lit (.bool true) := ⟨_, rfl⟩
  rw [← hKk]
  have h : ∀ H, Kk (B true) H := fun H => by rw [hKk]
  clear hKk
  obtain ⟨xn, hxn⟩ : ∃ ys, ys = nums.map I := ⟨_, rfl⟩
  obtain ⟨xs0, hxs0⟩ : ∃ ys, ys = rs0.map rcV := ⟨_, rfl⟩
  obtain ⟨ls0, hls0⟩ : ∃ ys, ys = l0.map lkV := ⟨_, rfl⟩
  obtain ⟨ms0, hms0⟩ : ∃ ys, ys = m0.map mkV := ⟨_, rfl⟩
  rw [← hxn, ← hxs0, ← hls0, ← hms0]
  obtain ⟨A, hA⟩ : ∃ A, A = std := ⟨_, rfl⟩
  have hne : ∀ x y, A.ne x y = decide (x ≠ y) := by subst hA; intro x y; simp only [std, iNe]; rw [Bool.eq_iff_iff]; simp
  have hee : ∀ x y, A.eq x y = decide (x = y) := by subst hA; intro x y; exact iEq_dec _ _
  have hll : ∀ x y, A.lt x y = decide (x < y) := by subst hA; intro x y; rfl
  have hle : ∀ x y, A.le x y = decide (x ≤ y) := by subst hA; intro x y; rfl
  have hnb : ∀ b, A.bnot b = !b := by subst hA; intro b; rfl
  have hbd : ∀ x y, A.band x y = (x && y) := by subst hA; intro x y; rfl
  have hsg : ∀ g, A.sg g g := by subst hA; exact fun _ => rfl
  have hm0l : ms0.length = m0.length := by rw [hms0, List.length_map]
  refine go9 rfl (SGo_run hA ⟨[], [1, 1000040], (29, eBig) :: (28, eAwake) :: [], edM⟩ (.cons eBig_ok (.cons eAwake_ok .nil)) edM_ok 200 fun T TD hT hTD => ?_)
  cbv
  refine Exists.intro rs0 (And.intro hxs0 (And.intro hr0 (And.intro (by rw [hls0]; exact nidL_map (g := lkV) (fun _ => rfl) _) (And.intro (by rw [hms0]; exact nidL_map (g := mkV) (fun _ => rfl) _) ?_))))
  intro bg hbg; cbv
  have hbm : bg = false → m0.length ≤ 19 ∨ 100 < m0.length := fun hb => by
    rw [hb] at hbg
    have hbg : false = bigS rs0 a0 b0 c0 (iLen ls0.length) (iLen ms0.length) := hbg
    rw [hm0l] at hbg
    unfold bigS bigN at hbg
    have h1 := (Bool.or_eq_false_iff.1 hbg.symm).1
    have h2 := (Bool.or_eq_false_iff.1 (Bool.or_eq_false_iff.1 h1).1).2
    rw [Bool.and_eq_false_iff, decide_eq_false_iff_not, decide_eq_false_iff_not] at h2
    unfold iLen at h2; omega
  clear hbg
  obtain ⟨bb, hbb⟩ : ∃ bb, bb = (bg || (decide (60 < tt) && decide (tt ≤ 10000))) := ⟨_, rfl⟩
  have hbm : bb = false → m0.length ≤ 19 ∨ 100 < m0.length := fun hb => hbm (by
    rw [hb] at hbb; exact (Bool.or_eq_false_iff.1 hbb.symm).1)
  rw [hT]
  refine AGo_cut (k1 := [_]) (fun e H => Fits e [(1, .vs 5 ls0), (2, .vs 5 ms0), (3, I need), (4, I tt), (5, I pl), (6, .vs 1 xn), (7, .mp 0 0 0), (47, B bb)] ∧ H = [.own 0 [.vs 5 xs0, I a0, I b0, I c0]]) ?_ (fun e1 H1 hP1 => ?_)
  · have e1 : A.lt 60 tt = decide (60 < tt) := hll _ _
    have e2 : A.le tt 10000 = decide (tt ≤ 10000) := hle _ _
    refine SGo_run hA ⟨[], [], [], []⟩ .nil .nil 200 fun T TD hT hTD => ?_
    cases bg with
    | true =>
      cbv
      exact ⟨⟨congrArg B hbb.symm, trivial⟩, trivial⟩
    | false =>
      cbv
      split <;> cbv
      · rename_i hz
        refine ⟨⟨congrArg B ?_, trivial⟩, trivial⟩
        rw [hbb, ← e1, ← e2]; rw [show A.lt 60 tt = true from hz]; rfl
      · rename_i hz
        refine ⟨⟨congrArg B ?_, trivial⟩, trivial⟩
        rw [hbb, ← e1]; rw [show A.lt 60 tt = false from hz]; rfl
  obtain ⟨hf1, rfl⟩ := hP1
  refine AGo_forget [(1, .vs 5 ls0), (2, .vs 5 ms0), (3, I need), (4, I tt), (5, I pl), (6, .vs 1 xn), (7, .mp 0 0 0), (47, B bb)] _ hf1 (.inl rfl) ?_ (by simp)
  clear hf1 hbb
  refine SGo_run hA ⟨[], [1], (28, eAwake) :: [], edM⟩ (.cons eAwake_ok .nil) edM_ok 200 fun T TD hT hTD => ?_
  cases bb with
  | true => cbv; exact h _
  | false =>
  cbv
  have hbm := hbm rfl
  refine Exists.intro nums (And.intro ⟨hxn, hn1⟩ ?_)
  intro w1
  cbv
  refine Exists.intro () (And.intro (by omega) ?_)
  rintro w2 _ ⟨rs, a, b, c, xs, rfl, hxs, hD⟩
  cbv
  have ho := hD.road (by omega)
  have hs := hD.sgt
  have hPl := ho.plc
  have hRl := ho.ilen
  have hsb := sumLg_bnd' ho
  refine Exists.intro (rs, 5) (And.intro ⟨hxs, rfl, ho, by omega, ⟨show (1 : Nat) ≤ 5 by decide, show (5 : Nat) ≤ 100 by decide⟩⟩ ?_)
  rintro w3 _ ⟨TC, cr, rfl, hcr, hC⟩
  cbv
  refine Exists.intro (plc rs, TC, 5) (And.intro ⟨hcr, ho.plc, hC, by omega, ⟨show (1 : Nat) ≤ 5 by decide, show (5 : Nat) ≤ 100 by decide⟩, by omega⟩ ?_)
  rintro w4 _ ⟨l, ls, rfl, hls, hll5, hfit⟩
  have hl5n : l.length ≤ 5 := by omega
  cbv
  refine And.intro (by subst hA; first | (simp [std, Keep, SubH, ResK]; done) | exact .inr ⟨⟨rfl, SubH.self _⟩, trivial, .inr fun _ => ⟨rfl, SubH.self _⟩⟩ | exact .inr ⟨SubH.self _, trivial, .inr fun _ => SubH.self _⟩ | exact .inr ⟨by simp [SubH], trivial, .inl rfl⟩ | exact .inr ⟨by simp [SubH], trivial, .inr fun _ => by simp [SubH]⟩) ?_
  cbv
  refine Exists.intro (rs, 3, 10) (And.intro ⟨hxs, rfl, rfl, ho, by omega, by omega⟩ ?_)
  rintro w5 _ ⟨m, ms, rfl, hms, hml, hmk⟩
  cbv
  refine And.intro (by subst hA; first | (simp [std, Keep, SubH, ResK]; done) | exact .inr ⟨⟨rfl, SubH.self _⟩, trivial, .inr fun _ => ⟨rfl, SubH.self _⟩⟩ | exact .inr ⟨SubH.self _, trivial, .inr fun _ => SubH.self _⟩ | exact .inr ⟨by simp [SubH], trivial, .inl rfl⟩ | exact .inr ⟨by simp [SubH], trivial, .inr fun _ => by simp [SubH]⟩) ?_
  cbv
  have hml5 : m.length ≤ 3 := by
    have h9 : iLen m.length ≤ 3 := hml
    unfold iLen at h9; omega
  obtain ⟨N, hN⟩ : ∃ N, N = (plc rs).length := ⟨_, rfl⟩
  rw [← hN] at hcr hRl
  have hN1 : 1 ≤ N := by rw [hN]; exact hPl.pos
  have hN2 : N ≤ 1000 := by rw [hN]; exact hPl.le
  have hrow : ∀ i q, q = iLen i → i < 5 → A.ix 1 1 cr q [.vs 1 (crsRow TC N i)] := fun i q hq hi => by subst hA; exact ix_map (f := fun i => AV.vs 1 (crsRow TC N i)) hcr hq (by simp [hi]) rfl
  have hrv : ∀ i, A.vlen (crsRow TC N i) = iLen N := fun i => by subst hA; simp [std, crsRow]
  have hcell : ∀ i p q, q = iLen p → p < N → A.ix 1 1 (crsRow TC N i) q [I (TC i p)] := fun i p q hq hp => by subst hA; exact ix_map (f := I) rfl hq (by simp [hp]) rfl
  obtain ⟨row0, hrow0⟩ : ∃ x, x = crsRow TC N 0 := ⟨_, rfl⟩
  have hri0 := hrow 0 0 rfl (by decide)
  have hrv0 := hrv 0
  rw [← hrow0] at hri0 hrv0
  obtain ⟨row, hrowe⟩ : ∃ x, x = crsRow TC N 2 := ⟨_, rfl⟩
  have hri := hrow 2 2 rfl (by decide)
  have hcelli := hcell 2
  rw [← hrowe] at hri
  refine Exists.intro _ (And.intro hri0 ?_); cbv
  refine Exists.intro () (And.intro (by show A.vlen row0 ≤ _; rw [hrv0]; unfold iLen; omega) ?_)
  rintro w6 _ ⟨q2, rfl, hq2, hq2'⟩
  have hq2' : q2 < A.vlen row0 ∨ q2 = 0 := hq2'
  rw [hrv0] at hq2'
  cbv
  obtain ⟨p0, hp0⟩ : ∃ p : Nat, q2 = iLen p := ⟨q2.toNat, by unfold iLen; omega⟩
  have hp0N : p0 < N := by unfold iLen at hp0 hq2'; omega
  have hci0 : A.ix 1 1 row q2 [I (TC 2 p0)] := by rw [hrowe]; exact hcelli p0 q2 hp0 hp0N
  have hTb := CrsOk.rng hC 2 p0 (show 2 < 5 by decide) (by show p0 < (plc rs).length; rw [← hN]; exact hp0N)
  obtain ⟨t0, ht0⟩ : ∃ t, t = TC 2 p0 := ⟨_, rfl⟩
  rw [← ht0] at hci0 hTb
  refine Exists.intro _ (And.intro hri ?_); cbv
  refine Exists.intro _ (And.intro hci0 ?_); cbv
  refine Exists.intro () (And.intro (by omega) ?_)
  rintro w7 _ ⟨q3, rfl, hq3, hq3'⟩
  cbv
  refine And.intro (by subst hA; first | (simp [std, Keep, SubH, ResK]; done) | exact .inr ⟨⟨rfl, SubH.self _⟩, trivial, .inr fun _ => ⟨rfl, SubH.self _⟩⟩ | exact .inr ⟨SubH.self _, trivial, .inr fun _ => SubH.self _⟩ | exact .inr ⟨by simp [SubH], trivial, .inl rfl⟩ | exact .inr ⟨by simp [SubH], trivial, .inr fun _ => by simp [SubH]⟩) ?_
  cbv
  refine Exists.intro () (And.intro (by omega) ?_)
  rintro w8 _ ⟨q4, rfl, hq4, hq4'⟩
  cbv
  refine And.intro (by subst hA; first | (simp [std, Keep, SubH, ResK]; done) | exact .inr ⟨⟨rfl, SubH.self _⟩, trivial, .inr fun _ => ⟨rfl, SubH.self _⟩⟩ | exact .inr ⟨SubH.self _, trivial, .inr fun _ => SubH.self _⟩ | exact .inr ⟨by simp [SubH], trivial, .inl rfl⟩ | exact .inr ⟨by simp [SubH], trivial, .inr fun _ => by simp [SubH]⟩) ?_
  cbv
  obtain ⟨nd, hnd⟩ : ∃ x, x = A.max 0 (A.min 3000 (A.sub .i64 t0 q3)) := ⟨_, rfl⟩
  obtain ⟨th, hthe⟩ : ∃ x, x = A.add .i64 3 q4 := ⟨_, rfl⟩
  obtain ⟨SV, hSV⟩ : ∃ x, x = [AV.agg [.vs 5 xs0, I a0, I b0, I c0], .agg [.vs 5 xs, I a, I b, I c], .agg [.vs 5 xs, I a, I b, I c]] := ⟨_, rfl⟩
  obtain ⟨LV, hLV⟩ : ∃ x, x = [AV.vs 5 ls0, .vs 5 ls, .vs 5 ls] := ⟨_, rfl⟩
  obtain ⟨MV, hMV⟩ : ∃ x, x = [AV.vs 5 ms0, .vs 5 ms, .vs 5 ms] := ⟨_, rfl⟩
  obtain ⟨NV, hNV⟩ : ∃ x, x = [I need, I nd, I need] := ⟨_, rfl⟩
  obtain ⟨UV, hUV⟩ : ∃ x, x = [I tt, I th, I tt] := ⟨_, rfl⟩
  obtain ⟨PV, hPV⟩ : ∃ x, x = [I pl, I q2, I pl] := ⟨_, rfl⟩
  have hsel : ∀ j i, i = iLen j → j < 3 → ∃ (rs' : List Rch) (a' b' c' : Int) (xs' : List AV) (l' : List Lk) (ls' : List AV) (m' : List Mrk) (ms' : List AV) (n' u' p' : Int), (xs' = rs'.map rcV ∧ ls' = l'.map lkV ∧ ms' = m'.map mkV ∧ rs'.length ≤ 9223372036854775807 ∧ l'.length ≤ 9223372036854775807 ∧ m'.length ≤ 9223372036854775807 ∧ (m'.length ≤ 19 ∨ 100 < m'.length)) ∧
      A.ix 4 4 SV i [.vs 5 xs', I a', I b', I c'] ∧ A.ix 1 1 LV i [.vs 5 ls'] ∧ A.ix 1 1 MV i [.vs 5 ms'] ∧ A.ix 1 1 NV i [I n'] ∧ A.ix 1 1 UV i [I u'] ∧ A.ix 1 1 PV i [I p'] := by
    intro j i hi hj
    have hlr : rs.length ≤ 9223372036854775807 := by have := ho.n2; omega
    have hlln : l.length ≤ 9223372036854775807 := by omega
    have hllm : m.length ≤ 9223372036854775807 := by omega
    have hll3 : m.length ≤ 19 ∨ 100 < m.length := by omega
    clear hnd hthe
    subst hA hSV hLV hUV hMV hNV hPV hi
    have : j = 0 ∨ j = 1 ∨ j = 2 := by omega
    rcases this with rfl | rfl | rfl
    · exact ⟨rs0, a0, b0, c0, xs0, l0, ls0, m0, ms0, need, tt, pl, ⟨hxs0, hls0, hms0, hr0, hl0, hm0, hbm⟩, ⟨rfl, by decide, _, rfl, rfl⟩, ⟨rfl, by decide, _, rfl, rfl⟩, ⟨rfl, by decide, _, rfl, rfl⟩, ⟨rfl, by decide, _, rfl, rfl⟩, ⟨rfl, by decide, _, rfl, rfl⟩, ⟨rfl, by decide, _, rfl, rfl⟩⟩
    · exact ⟨rs, a, b, c, xs, l, ls, m, ms, nd, th, q2, ⟨hxs, hls, hms, hlr, hlln, hllm, hll3⟩, ⟨rfl, by decide, _, rfl, rfl⟩, ⟨rfl, by decide, _, rfl, rfl⟩, ⟨rfl, by decide, _, rfl, rfl⟩, ⟨rfl, by decide, _, rfl, rfl⟩, ⟨rfl, by decide, _, rfl, rfl⟩, ⟨rfl, by decide, _, rfl, rfl⟩⟩
    · exact ⟨rs, a, b, c, xs, l, ls, m, ms, need, tt, pl, ⟨hxs, hls, hms, hlr, hlln, hllm, hll3⟩, ⟨rfl, by decide, _, rfl, rfl⟩, ⟨rfl, by decide, _, rfl, rfl⟩, ⟨rfl, by decide, _, rfl, rfl⟩, ⟨rfl, by decide, _, rfl, rfl⟩, ⟨rfl, by decide, _, rfl, rfl⟩, ⟨rfl, by decide, _, rfl, rfl⟩⟩
  have hvS : A.vlen SV = 3 := by subst hA hSV; rfl
  rw [hT]
  refine AGo_forget [(21, .vs 4 SV), (22, .vs 1 LV), (23, .vs 1 MV), (24, .vs 1 NV), (25, .vs 1 UV), (26, .vs 1 PV), (27, I 0)] _ ⟨by rw [hSV]; rfl, by rw [hLV]; rfl, by rw [hMV]; rfl, by rw [hNV, hnd]; rfl, by rw [hUV, hthe]; rfl, by rw [hPV]; rfl, rfl, trivial⟩ (.inl rfl) ?_ (by simp)
  clear hnd hthe
  refine AGo_whileE (σ := Nat) [21, 22, 23, 24, 25, 26] (fun j => 3 - j) (fun j => j ≤ 3) (fun j => [(27, I (iLen j))]) (fun _ => [.own 0 [.vs 5 xs0, I a0, I b0, I c0], .own 0 [U w8], .own 0 [.vs 5 xs, I a, I b, I c]]) 0 (Nat.zero_le _) ⟨rfl, trivial⟩ (.inl rfl) fun j hj Bk hB => ?_
  dsimp only
  obtain ⟨jj, hjj⟩ : ∃ x, x = iLen j := ⟨_, rfl⟩
  have hadd : j < 3 → A.add .i64 jj 1 = iLen (j + 1) := fun h3 => by subst hA; show iAdd .i64 jj 1 = _; rw [hjj, iAdd_id (by unfold iLen; omega) (by unfold iLen; omega)]; unfold iLen; omega
  have hlt3 : A.lt jj (A.vlen SV) = decide (j < 3) := by rw [hvS, hjj]; subst hA; show decide (_ < _) = _; rw [decide_eq_decide]; unfold iLen; omega
  rw [← hjj]
  refine SGo_run hA ⟨[], [], (24, eClose CovM) :: (51, eClose51) :: (52, eSame3) :: (53, eShort) :: (54, eLasts 54) :: (55, eLasts 55) :: (28, eAwake) :: [], []⟩ (.cons (eClose_ok CovM.ok) (.cons eClose51_ok (.cons (eSame3_ok p52) (.cons eShort_ok (.cons (eLasts_ok p54) (.cons (eLasts_ok p55) (.cons eAwake_ok .nil))))))) .nil 200 fun T TD hT hTD => ?_
  cbv
  split <;> cbv
  · rename_i hz
    have hj3 : j < 3 := of_decide_eq_true (hlt3.symm.trans hz)
    obtain ⟨rs', a', b', c', xs', l', ls', m', ms', n', u', p', ⟨hx', hl', hm', hrb, hlb, hmb, hc'⟩, g1, g2, g3, g4, g5, g6⟩ := hsel j jj hjj hj3
    have hj1 := hadd hj3
    clear hsel hadd hlt3
    refine Exists.intro _ (And.intro g1 ?_); cbv
    refine Exists.intro _ (And.intro g2 ?_); cbv
    refine Exists.intro _ (And.intro g3 ?_); cbv
    refine Exists.intro _ (And.intro g4 ?_); cbv
    refine Exists.intro _ (And.intro g5 ?_); cbv
    refine Exists.intro rs' (Exists.intro l' (Exists.intro m' (And.intro hx' (And.intro hl' (And.intro hm' (And.intro hrb (And.intro hlb (And.intro hmb (And.intro (fun h0 => askE_cov h0 hc') ?_)))))))))
    intro e1 y1 he1 hy1; cbv
    refine Exists.intro _ (And.intro g1 ?_); cbv
    refine Exists.intro _ (And.intro g2 ?_); cbv
    refine Exists.intro _ (And.intro g3 ?_); cbv
    refine Exists.intro _ (And.intro g4 ?_); cbv
    refine Exists.intro _ (And.intro g5 ?_); cbv
    refine Exists.intro rs' (Exists.intro l' (Exists.intro m' (And.intro ⟨hx', hl', hm', hrb, hlb, hmb⟩ ?_)))
    intro e2 y2 he2 hy2; cbv
    have z2 : ∀ x x', x = x' → A.ne x x' = false := fun x x' h1 => by rw [hne, h1]; simp
    have z3 : A.bnot true = false := by rw [hnb]; rfl
    have zz1 := z2 e1 e2 (he1.trans he2.symm)
    split <;> first | (rename_i hz; exact Bool.noConfusion (hz.symm.trans zz1)) | cbv
    refine Exists.intro ((closeL rs' a' b' c' l' m' n' u').map fun x => (iLen x.1, iLen x.2.1, x.2.2)) (Exists.intro ((closeL rs' a' b' c' l' m' n' u').map fun x => (iLen x.1, iLen x.2.1, x.2.2)) (And.intro (hy1.trans (by rw [List.map_map]; rfl)) (And.intro (hy2.trans (by rw [List.map_map]; rfl)) (And.intro (by rw [List.length_map]; exact closeL_len) (And.intro (by rw [List.length_map]; exact closeL_len) ?_)))))
    intro b1 hb1; cbv
    have hb1 : b1 = true := hb1.trans (decide_eq_true rfl)
    subst hb1
    split <;> first | (rename_i hz; exact Bool.noConfusion (hz.symm.trans z3)) | cbv
    refine Exists.intro _ (And.intro g1 ?_); cbv
    refine Exists.intro rs' (And.intro ⟨hx', hrb⟩ ?_)
    intro b2; cbv
    split <;> cbv
    · exact hB (j + 1) _ _ (by omega) (by omega) ⟨congrArg I hj1, trivial⟩ ⟨rfl, rfl, rfl, rfl, rfl, rfl, trivial⟩ (.inl rfl)
    · refine Exists.intro _ (And.intro g1 ?_); cbv
      refine Exists.intro _ (And.intro g2 ?_); cbv
      refine Exists.intro _ (And.intro g3 ?_); cbv
      refine Exists.intro _ (And.intro g4 ?_); cbv
      refine Exists.intro _ (And.intro g5 ?_); cbv
      refine Exists.intro _ (And.intro g6 ?_); cbv
      refine Exists.intro rs' (Exists.intro l' (Exists.intro m' (And.intro ⟨hx', hl', hm', hrb, hlb, hmb, hc'⟩ ?_)))
      intro v1 f1 hv1; cbv
      refine Exists.intro _ (And.intro g1 ?_); cbv
      refine Exists.intro _ (And.intro g2 ?_); cbv
      refine Exists.intro _ (And.intro g3 ?_); cbv
      refine Exists.intro _ (And.intro g4 ?_); cbv
      refine Exists.intro _ (And.intro g5 ?_); cbv
      refine Exists.intro _ (And.intro g6 ?_); cbv
      refine Exists.intro rs' (Exists.intro l' (Exists.intro m' (And.intro ⟨hx', hl', hm', hrb, hlb, hmb, hc'⟩ ?_)))
      intro v2 f2 hv2; cbv
      obtain ⟨k1, k2⟩ := hv1.uniq hv2
      have zz2 := z2 v1 v2 k1
      have zz3 := z2 f1 f2 k2
      split <;> first | (rename_i hz; exact Bool.noConfusion (hz.symm.trans zz2)) | cbv
      split <;> first | (rename_i hz; exact Bool.noConfusion (hz.symm.trans zz3)) | cbv
      exact hB (j + 1) _ _ (by omega) (by omega) ⟨congrArg I hj1, trivial⟩ ⟨rfl, rfl, rfl, rfl, rfl, rfl, trivial⟩ (.inl rfl)
  · exact h _
end Go.Sas
