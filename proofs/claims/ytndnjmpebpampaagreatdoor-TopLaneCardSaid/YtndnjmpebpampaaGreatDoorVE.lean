/-
Frost: what melts, what is joined, what is known after a day: contracts.
Conditions: none.
-/
import Derived.Test.YtndnjmpebpampaaGreatDoorVD
import Derived.Test.YtndnjmpebpampaaGreatDoorP7
set_option linter.unusedVariables false
set_option linter.unusedSimpArgs false
namespace Go.Sas
open Go.Proofs
set_option maxRecDepth 100000
structure FzOk (l : FrL) (x : IceK) (c1 c2 : Int) : Prop where
  v : FrV l
  b : IceB 200000000 x
  c : 0 ≤ c1 ∧ c1 ≤ c2 ∧ c2 ≤ 1000
structure MlOk (l : FrL) (x : IceK) (c1 c2 : Int) : Prop where
  v : FrV l
  b : IceB 200000000 x
  c : -1000 ≤ c1 ∧ c1 ≤ c2 ∧ c2 < 0
def eFroz : List AV → Option ((AV → Prop) → Prop)
  | [x, y, .agg [.lit (.int .i64 c1), .lit (.int .i64 c2)]] => match asLw x, asIc y with
    | some u, some v => some fun K => ∃ cov, u.2.2.1 = cov.map cvV ∧ FzOk (lwK u cov) (icK v) c1 c2 ∧ ∀ a b c d e f g h, (⟨(a, b), (c, d), (e, f), (g, h)⟩ : IceK) = frozS (lwK u cov) (icK v) (c1, c2) → K (.agg [I a, I b, I c, I d, I e, I f, I g, I h])
    | _, _ => none
  | _ => none
theorem eFroz_ok : ∀ args pt, eFroz args = some pt → ∀ (H : AHeap) (Kk : AV → AHeap → Prop), pt (fun r => Kk r H) → ACalls Tryz.prog 96 args H Kk := by
  intro args pt h H Kk hk
  unfold eFroz at h
  split at h
  · split at h
    · rename_i u v h1 h2
      cases h
      obtain ⟨cov, h3, h4, h5⟩ := hk
      exact (p96 _ h4.v _ _ h4.b (by omega) _ _ h4.c H (h5 _ _ _ _ _ _ _ _ rfl)).wk ⟨asLw_wk h1 h3, asIc_wk h2, Wk.rfl, trivial⟩
    · cases h
  · cases h
set_option maxHeartbeats 8000000 in
theorem p97 (l : FrL) (x : IceK) (c1 c2 : Int) (hm : MlOk l x c1 c2) (H : AHeap) {Kk : AV → AHeap → Prop} (h : Kk (icA (meltS l x (c1, c2))) H) : ACalls Tryz.prog 97 [lwA l, icA x, .agg [I c1, I c2]] H Kk := by
  obtain ⟨W, hW⟩ : ∃ W, W = meltS l x (c1, c2) := ⟨_, rfl⟩
  rw [← hW] at h
  obtain ⟨hl, hx, hc⟩ := hm
  have b0 := hx.b0
  have b1 := hx.b1
  have w0 := hx.w0
  have w1 := hx.w1
  have t0 := hx.t0
  have t1 := hx.t1
  have s0 := hx.s0
  have s1 := hx.s1
  have hkk := hx.k
  have hm0 := hl.m0
  have hm1 := hl.m1
  have hm2 := hl.m2
  clear hx hl
  obtain ⟨⟨xb1, xb2⟩, ⟨xw1, xw2⟩, ⟨xt1, xt2⟩, ⟨xs1, xs2⟩⟩ := x
  obtain ⟨g, la, cov, ⟨m1, m2⟩, so, ⟨v1, v2⟩⟩ := l
  unfold lwA icA at *
  unfold meltS at hW
  dsimp only at *
  obtain ⟨xs, hxs⟩ : ∃ xs, xs = cov.map cvV := ⟨_, rfl⟩
  have hxn : AV.nidL xs = true := by rw [hxs]; exact nid_cv cov
  have hxl : ∀ n, AV.ltL n xs := fun n => AV.ltL_nid hxn
  rw [← hxs]
  refine (fun q => pureC (by simp [AV.nidL, AV.nid, hxn]) (by rfl) q H h) ?_
  clear h
  intro Kk h
  obtain ⟨A, hA⟩ : ∃ A, A = std := ⟨_, rfl⟩
  have hn1 : A.neg .i64 c2 = -c2 := by subst hA; exact (wrap_id (n := 0 - c2) (by omega) (by omega)).trans (by omega)
  have hn2 : A.neg .i64 c1 = -c1 := by subst hA; exact (wrap_id (n := 0 - c1) (by omega) (by omega)).trans (by omega)
  refine go97 rfl (SGo_run hA ⟨[], [], [(101, eDn), (103, eUp)], []⟩ (.cons (eDn_ok p101) (.cons (eUp_ok p103) .nil)) .nil 200 fun T TD hT hTD => ?_)
  cbv
  refine Exists.intro () (And.intro (by show NB (A.neg .i64 c2) m1; rw [hn1]; exact ⟨by omega, by omega, by omega, by omega⟩) ?_)
  intro lo hlo
  have hlo2 : lo = dnS (A.neg .i64 c2) m1 := hlo
  rw [hn1] at hlo2
  clear hlo
  cbv
  refine Exists.intro () (And.intro (by show NB (A.neg .i64 c1) m2; rw [hn2]; exact ⟨by omega, by omega, by omega, by omega⟩) ?_)
  intro hi hhi
  have hhi2 : hi = upS (A.neg .i64 c1) m2 := hhi
  rw [hn2] at hhi2
  clear hhi
  rw [← hlo2, ← hhi2] at hW
  cbv
  have e0 : 0 ≤ lo ∧ lo ≤ 1000000000000 := by
    rw [hlo2]; have := dn_nn (a := -c2) (p := m1) (by omega) (by omega)
    obtain ⟨_, l1, u1⟩ := mulB (a := -c2) (b := m1) (A := 1000) (B := 10000000) (by omega) (by omega) (by omega)
    unfold dnS at *; omega
  have e1 : 0 ≤ hi ∧ hi ≤ 1000000000000 := by
    rw [hhi2]; have := up_nn (a := -c1) (p := m2) (by omega) (by omega)
    obtain ⟨_, l1, u1⟩ := mulB (a := -c1) (b := m2) (A := 1000) (B := 10000000) (by omega) (by omega) (by omega)
    unfold upS at *; omega
  have hms : ∀ a b : Int, (0 ≤ a ∧ a ≤ 1000000000000) → (0 ≤ b ∧ b ≤ 1000000000000) → A.max 0 (A.sub .i64 a b) = max 0 (a - b) := fun a b h1 h2 => by subst hA; simp only [std, iMax_eq]; rw [iSub_id (by omega) (by omega)]
  obtain ⟨lo1, hlo1⟩ : ∃ v, v = max 0 (lo - xs2) := ⟨_, rfl⟩
  obtain ⟨hi1, hhi1⟩ : ∃ v, v = max 0 (hi - xs1) := ⟨_, rfl⟩
  obtain ⟨lo2, hlo2⟩ : ∃ v, v = max 0 (lo1 - xw2) := ⟨_, rfl⟩
  obtain ⟨hi2, hhi2⟩ : ∃ v, v = max 0 (hi1 - xw1) := ⟨_, rfl⟩
  obtain ⟨lo3, hlo3⟩ : ∃ v, v = max 0 (lo2 - xb2) := ⟨_, rfl⟩
  obtain ⟨hi3, hhi3⟩ : ∃ v, v = max 0 (hi2 - xb1) := ⟨_, rfl⟩
  obtain ⟨s1', hs1'⟩ : ∃ v, v = max 0 (xs1 - hi) := ⟨_, rfl⟩
  obtain ⟨s2', hs2'⟩ : ∃ v, v = max 0 (xs2 - lo) := ⟨_, rfl⟩
  obtain ⟨w1', hw1'⟩ : ∃ v, v = max 0 (xw1 - hi1) := ⟨_, rfl⟩
  obtain ⟨w2', hw2'⟩ : ∃ v, v = max 0 (xw2 - lo1) := ⟨_, rfl⟩
  obtain ⟨b1', hb1'⟩ : ∃ v, v = max 0 (xb1 - hi2) := ⟨_, rfl⟩
  obtain ⟨b2', hb2'⟩ : ∃ v, v = max 0 (xb2 - lo2) := ⟨_, rfl⟩
  unfold mltS at hW
  dsimp only at hW
  rw [← hs1', ← hs2', ← hlo1, ← hhi1, ← hw1', ← hw2', ← hlo2, ← hhi2, ← hb1', ← hb2'] at hW
  have E1 : A.max 0 (A.sub .i64 xs1 hi) = s1' := by rw [hms _ _ (by omega) (by omega), hs1']
  have E2 : A.max 0 (A.sub .i64 xs2 lo) = s2' := by rw [hms _ _ (by omega) (by omega), hs2']
  have E3 : A.max 0 (A.sub .i64 xw1 hi1) = w1' := by rw [hms _ _ (by omega) (by omega), hw1']
  have E4 : A.max 0 (A.sub .i64 xw2 lo1) = w2' := by rw [hms _ _ (by omega) (by omega), hw2']
  have E5 : A.max 0 (A.sub .i64 xb1 hi2) = b1' := by rw [hms _ _ (by omega) (by omega), hb1']
  have E6 : A.max 0 (A.sub .i64 xb2 lo2) = b2' := by rw [hms _ _ (by omega) (by omega), hb2']
  have L1 : A.max 0 (A.sub .i64 lo xs2) = lo1 := by rw [hms _ _ (by omega) (by omega), hlo1]
  have L2 : A.max 0 (A.sub .i64 hi xs1) = hi1 := by rw [hms _ _ (by omega) (by omega), hhi1]
  have L3 : A.max 0 (A.sub .i64 lo1 xw2) = lo2 := by rw [hms _ _ (by omega) (by omega), hlo2]
  have L4 : A.max 0 (A.sub .i64 hi1 xw1) = hi2 := by rw [hms _ _ (by omega) (by omega), hhi2]
  have L5 : A.max 0 (A.sub .i64 lo2 xb2) = lo3 := by rw [hms _ _ (by omega) (by omega), hlo3]
  have L6 : A.max 0 (A.sub .i64 hi2 xb1) = hi3 := by rw [hms _ _ (by omega) (by omega), hhi3]
  have hv : A.vlen [I 3, I 1, I 0] = 3 := by subst hA; rfl
  obtain ⟨vl, hvl⟩ : ∃ v, v = A.vlen [I 3, I 1, I 0] := ⟨_, rfl⟩
  rw [hT]
  refine AGo_upE [3, 4, 6, 9, 29, 30] 3 (fun _ (_ : Unit) => True)
    (fun j _ i => match j with | 0 => [(7, I lo), (8, I hi), (31, I i)] | 1 => [(7, I lo1), (8, I hi1), (31, I i)] | 2 => [(7, I lo2), (8, I hi2), (31, I i)] | _ => [(7, I lo3), (8, I hi3), (31, I i)])
    (fun j _ => match j with
      | 0 => [.own 0 [I g, I la, .vs 3 xs, I m1, I m2, I so, I v1, I v2], .own 0 [I xb1, I xb2, I xw1, I xw2, I xt1, I xt2, I xs1, I xs2], .own 0 [I c1, I c2], .own 0 [I 0, I 0, I 0, I 0, I 0, I 0, I 0, I 0], .own 0 [I xb1, I xb2, I xw1, I xw2, I xt1, I xt2, I xs1, I xs2]]
      | 1 => [.own 0 [I g, I la, .vs 3 xs, I m1, I m2, I so, I v1, I v2], .own 0 [I xb1, I xb2, I xw1, I xw2, I xt1, I xt2, I xs1, I xs2], .own 0 [I c1, I c2], .own 0 [I 0, I 0, I 0, I 0, I 0, I 0, I 0, I 0], .own 0 [I xb1, I xb2, I xw1, I xw2, I xt1, I xt2, I s1', I s2']]
      | 2 => [.own 0 [I g, I la, .vs 3 xs, I m1, I m2, I so, I v1, I v2], .own 0 [I xb1, I xb2, I xw1, I xw2, I xt1, I xt2, I xs1, I xs2], .own 0 [I c1, I c2], .own 0 [I 0, I 0, I 0, I 0, I 0, I 0, I 0, I 0], .own 0 [I xb1, I xb2, I w1', I w2', I xt1, I xt2, I s1', I s2']]
      | _ => [.own 0 [I g, I la, .vs 3 xs, I m1, I m2, I so, I v1, I v2], .own 0 [I xb1, I xb2, I xw1, I xw2, I xt1, I xt2, I xs1, I xs2], .own 0 [I c1, I c2], .own 0 [I 0, I 0, I 0, I 0, I 0, I 0, I 0, I 0], .own 0 [I b1', I b2', I w1', I w2', I xt1, I xt2, I s1', I s2']])
    () trivial ⟨rfl, rfl, rfl, trivial⟩ (.inl rfl) fun j _ i hi' hj _ Bk hB => ?_
  have hadd : j < 3 → A.add .i64 i 1 = iLen (j + 1) := fun hj => by subst hA; exact add_one hi' hj (by omega)
  have hlt : A.lt i (A.vlen [I 3, I 1, I 0]) = decide (j < 3) := by rw [hv]; subst hA; simp only [std, iLt, hi']; unfold iLen; rw [decide_eq_decide]; omega
  obtain rfl | rfl | rfl | rfl : j = 0 ∨ j = 1 ∨ j = 2 ∨ j = 3 := by omega
  · have hlt : A.lt i (A.vlen [I 3, I 1, I 0]) = true := hlt
    have hix : A.ix 1 1 [I 3, I 1, I 0] i [I 3] := by subst hA hi'; exact ⟨rfl, by decide, _, rfl, rfl⟩
    dsimp only
    refine SGo_run hA ⟨[], [], [], []⟩ .nil .nil 200 fun T TD hT hTD => ?_
    cbv
    split <;> first | (rename_i hz; exact Bool.noConfusion (hz.symm.trans hlt)) | cbv
    refine Exists.intro _ (And.intro hix ?_); cbv
    exact hB () _ _ (by omega) trivial ⟨congrArg I L1, congrArg I L2, congrArg I (hadd (by omega)), trivial⟩ ⟨rfl, rfl, rfl, rfl, rfl, rfl, trivial⟩ (.inl (by rw [← E1, ← E2]; try rfl))
  · have hlt : A.lt i (A.vlen [I 3, I 1, I 0]) = true := hlt
    have hix : A.ix 1 1 [I 3, I 1, I 0] i [I 1] := by subst hA hi'; exact ⟨rfl, by decide, _, rfl, rfl⟩
    dsimp only
    refine SGo_run hA ⟨[], [], [], []⟩ .nil .nil 200 fun T TD hT hTD => ?_
    cbv
    split <;> first | (rename_i hz; exact Bool.noConfusion (hz.symm.trans hlt)) | cbv
    refine Exists.intro _ (And.intro hix ?_); cbv
    exact hB () _ _ (by omega) trivial ⟨congrArg I L3, congrArg I L4, congrArg I (hadd (by omega)), trivial⟩ ⟨rfl, rfl, rfl, rfl, rfl, rfl, trivial⟩ (.inl (by rw [← E3, ← E4]; try rfl))
  · have hlt : A.lt i (A.vlen [I 3, I 1, I 0]) = true := hlt
    have hix : A.ix 1 1 [I 3, I 1, I 0] i [I 0] := by subst hA hi'; exact ⟨rfl, by decide, _, rfl, rfl⟩
    dsimp only
    refine SGo_run hA ⟨[], [], [], []⟩ .nil .nil 200 fun T TD hT hTD => ?_
    cbv
    split <;> first | (rename_i hz; exact Bool.noConfusion (hz.symm.trans hlt)) | cbv
    refine Exists.intro _ (And.intro hix ?_); cbv
    exact hB () _ _ (by omega) trivial ⟨congrArg I L5, congrArg I L6, congrArg I (hadd (by omega)), trivial⟩ ⟨rfl, rfl, rfl, rfl, rfl, rfl, trivial⟩ (.inl (by rw [← E5, ← E6]; try rfl))
  · have hlt : A.lt i (A.vlen [I 3, I 1, I 0]) = false := hlt
    dsimp only
    refine SGo_run hA ⟨[], [], [], []⟩ .nil .nil 200 fun T TD hT hTD => ?_
    cbv
    split <;> first | (rename_i hz; exact Bool.noConfusion (hz.symm.trans hlt)) | cbv
    rw [hW] at h
    exact h
end Go.Sas
