/-
Frost: what is joined, what is known after a day: contracts.
Frost: valid laws and days have no error; what ice bears: contracts.
Conditions: none.
-/
import Derived.Test.YtndnjmpebpampaaGreatDoorVE
set_option linter.unusedVariables false
set_option linter.unusedSimpArgs false
namespace Go.Sas
open Go.Proofs
set_option maxRecDepth 100000
def eMelt : List AV → Option ((AV → Prop) → Prop)
  | [x, y, .agg [.lit (.int .i64 c1), .lit (.int .i64 c2)]] => match asLw x, asIc y with
    | some u, some v => some fun K => ∃ cov, u.2.2.1 = cov.map cvV ∧ MlOk (lwK u cov) (icK v) c1 c2 ∧ ∀ a b c d e f g h, (⟨(a, b), (c, d), (e, f), (g, h)⟩ : IceK) = meltS (lwK u cov) (icK v) (c1, c2) → K (.agg [I a, I b, I c, I d, I e, I f, I g, I h])
    | _, _ => none
  | _ => none
theorem eMelt_ok : ∀ args pt, eMelt args = some pt → ∀ (H : AHeap) (Kk : AV → AHeap → Prop), pt (fun r => Kk r H) → ACalls Tryz.prog 97 args H Kk := by
  intro args pt h H Kk hk
  unfold eMelt at h
  split at h
  · split at h
    · rename_i u v h1 h2
      cases h
      obtain ⟨cov, h3, h4, h5⟩ := hk
      exact (p97 _ _ _ _ h4 H (h5 _ _ _ _ _ _ _ _ rfl)).wk ⟨asLw_wk h1 h3, asIc_wk h2, Wk.rfl, trivial⟩
    · cases h
  · cases h
set_option maxHeartbeats 8000000 in
theorem p98 (x y : IceK) (H : AHeap) {Kk : AV → AHeap → Prop} (h : Kk (icA (joinK x y)) H) : ACalls Tryz.prog 98 [icA x, icA y] H Kk := by
  obtain ⟨W, hW⟩ : ∃ W, W = joinK x y := ⟨_, rfl⟩
  rw [← hW] at h
  obtain ⟨⟨xb1, xb2⟩, ⟨xw1, xw2⟩, ⟨xt1, xt2⟩, ⟨xs1, xs2⟩⟩ := x
  obtain ⟨⟨yb1, yb2⟩, ⟨yw1, yw2⟩, ⟨yt1, yt2⟩, ⟨ys1, ys2⟩⟩ := y
  unfold icA at *
  unfold joinK hulS at hW
  dsimp only at *
  refine (fun q => pureC (by rfl) (by rfl) q H h) ?_
  clear h
  intro Kk h
  obtain ⟨A, hA⟩ : ∃ A, A = std := ⟨_, rfl⟩
  have hmn : ∀ a b, A.min a b = min a b := by subst hA; exact iMin_eq
  have hmx : ∀ a b, A.max a b = max a b := by subst hA; exact iMax_eq
  refine go98 rfl (SGo_run hA ⟨[], [], [], []⟩ .nil .nil 200 fun T TD hT hTD => ?_)
  cbv
  rw [hT]
  refine AGo_upE [2, 4, 7] 4 (fun _ (_ : Unit) => True) (fun _ _ i => [(8, I i)])
    (fun j _ => match j with
      | 0 => [.own 0 [I xb1, I xb2, I xw1, I xw2, I xt1, I xt2, I xs1, I xs2], .own 0 [I yb1, I yb2, I yw1, I yw2, I yt1, I yt2, I ys1, I ys2], .own 0 [I 0, I 0, I 0, I 0, I 0, I 0, I 0, I 0]]
      | 1 => [.own 0 [I (A.min xb1 yb1), I (A.max xb2 yb2), I xw1, I xw2, I xt1, I xt2, I xs1, I xs2], .own 0 [I yb1, I yb2, I yw1, I yw2, I yt1, I yt2, I ys1, I ys2], .own 0 [I 0, I 0, I 0, I 0, I 0, I 0, I 0, I 0]]
      | 2 => [.own 0 [I (A.min xb1 yb1), I (A.max xb2 yb2), I (A.min xw1 yw1), I (A.max xw2 yw2), I xt1, I xt2, I xs1, I xs2], .own 0 [I yb1, I yb2, I yw1, I yw2, I yt1, I yt2, I ys1, I ys2], .own 0 [I 0, I 0, I 0, I 0, I 0, I 0, I 0, I 0]]
      | 3 => [.own 0 [I (A.min xb1 yb1), I (A.max xb2 yb2), I (A.min xw1 yw1), I (A.max xw2 yw2), I (A.min xt1 yt1), I (A.max xt2 yt2), I xs1, I xs2], .own 0 [I yb1, I yb2, I yw1, I yw2, I yt1, I yt2, I ys1, I ys2], .own 0 [I 0, I 0, I 0, I 0, I 0, I 0, I 0, I 0]]
      | _ => [.own 0 [I (A.min xb1 yb1), I (A.max xb2 yb2), I (A.min xw1 yw1), I (A.max xw2 yw2), I (A.min xt1 yt1), I (A.max xt2 yt2), I (A.min xs1 ys1), I (A.max xs2 ys2)], .own 0 [I yb1, I yb2, I yw1, I yw2, I yt1, I yt2, I ys1, I ys2], .own 0 [I 0, I 0, I 0, I 0, I 0, I 0, I 0, I 0]])
    () trivial ⟨rfl, trivial⟩ (.inl rfl) fun j _ i hi hj _ Bk hB => ?_
  have hadd : j < 4 → A.add .i64 i 1 = iLen (j + 1) := fun hj => by subst hA; exact add_one hi hj (by omega)
  have hlt : A.lt i 4 = decide (j < 4) := by subst hA; simp only [std, iLt, hi]; unfold iLen; rw [decide_eq_decide]; omega
  obtain rfl | rfl | rfl | rfl | rfl : j = 0 ∨ j = 1 ∨ j = 2 ∨ j = 3 ∨ j = 4 := by omega
  · have hlt : A.lt i 4 = true := hlt
    have hi0 : i = 0 := hi
    subst hi0
    dsimp only
    have hix : A.aix 4 2 (some 2) [I yb1, I yb2, I yw1, I yw2, I yt1, I yt2, I ys1, I ys2] 0 (.agg [I yb1, I yb2]) := by subst hA; exact ⟨by decide, by decide, rfl⟩
    refine SGo_run hA ⟨[], [], [], []⟩ .nil .nil 200 fun T TD hT hTD => ?_
    cbv
    split <;> first | (rename_i hz; exact Bool.noConfusion (hz.symm.trans hlt)) | cbv
    refine Exists.intro _ (And.intro hix ?_); cbv
    exact hB () _ _ (by omega) trivial ⟨congrArg I (hadd (by omega)), trivial⟩ ⟨rfl, rfl, rfl, trivial⟩ (.inr ⟨⟨_, rfl⟩, by simp, by simp [ltG, AV.lt, AV.ltL, keepS, look], by simp [ltH, AObj.lt, AV.ltL, AV.lt]⟩)
  · have hlt : A.lt i 4 = true := hlt
    have hi0 : i = 1 := hi
    subst hi0
    dsimp only
    have hix : A.aix 4 2 (some 2) [I yb1, I yb2, I yw1, I yw2, I yt1, I yt2, I ys1, I ys2] 1 (.agg [I yw1, I yw2]) := by subst hA; exact ⟨by decide, by decide, rfl⟩
    refine SGo_run hA ⟨[], [], [], []⟩ .nil .nil 200 fun T TD hT hTD => ?_
    cbv
    split <;> first | (rename_i hz; exact Bool.noConfusion (hz.symm.trans hlt)) | cbv
    refine Exists.intro _ (And.intro hix ?_); cbv
    exact hB () _ _ (by omega) trivial ⟨congrArg I (hadd (by omega)), trivial⟩ ⟨rfl, rfl, rfl, trivial⟩ (.inr ⟨⟨_, rfl⟩, by simp, by simp [ltG, AV.lt, AV.ltL, keepS, look], by simp [ltH, AObj.lt, AV.ltL, AV.lt]⟩)
  · have hlt : A.lt i 4 = true := hlt
    have hi0 : i = 2 := hi
    subst hi0
    dsimp only
    have hix : A.aix 4 2 (some 2) [I yb1, I yb2, I yw1, I yw2, I yt1, I yt2, I ys1, I ys2] 2 (.agg [I yt1, I yt2]) := by subst hA; exact ⟨by decide, by decide, rfl⟩
    refine SGo_run hA ⟨[], [], [], []⟩ .nil .nil 200 fun T TD hT hTD => ?_
    cbv
    split <;> first | (rename_i hz; exact Bool.noConfusion (hz.symm.trans hlt)) | cbv
    refine Exists.intro _ (And.intro hix ?_); cbv
    exact hB () _ _ (by omega) trivial ⟨congrArg I (hadd (by omega)), trivial⟩ ⟨rfl, rfl, rfl, trivial⟩ (.inr ⟨⟨_, rfl⟩, by simp, by simp [ltG, AV.lt, AV.ltL, keepS, look], by simp [ltH, AObj.lt, AV.ltL, AV.lt]⟩)
  · have hlt : A.lt i 4 = true := hlt
    have hi0 : i = 3 := hi
    subst hi0
    dsimp only
    have hix : A.aix 4 2 (some 2) [I yb1, I yb2, I yw1, I yw2, I yt1, I yt2, I ys1, I ys2] 3 (.agg [I ys1, I ys2]) := by subst hA; exact ⟨by decide, by decide, rfl⟩
    refine SGo_run hA ⟨[], [], [], []⟩ .nil .nil 200 fun T TD hT hTD => ?_
    cbv
    split <;> first | (rename_i hz; exact Bool.noConfusion (hz.symm.trans hlt)) | cbv
    refine Exists.intro _ (And.intro hix ?_); cbv
    exact hB () _ _ (by omega) trivial ⟨congrArg I (hadd (by omega)), trivial⟩ ⟨rfl, rfl, rfl, trivial⟩ (.inr ⟨⟨_, rfl⟩, by simp, by simp [ltG, AV.lt, AV.ltL, keepS, look], by simp [ltH, AObj.lt, AV.ltL, AV.lt]⟩)
  · have hlt : A.lt i 4 = false := hlt
    dsimp only
    refine SGo_run hA ⟨[], [], [], []⟩ .nil .nil 200 fun T TD hT hTD => ?_
    cbv
    split <;> first | (rename_i hz; exact Bool.noConfusion (hz.symm.trans hlt)) | cbv
    rw [hW] at h
    exact leaf h (by simp [aTup, hmn, hmx]) rfl
theorem IceB.le {k k' : Int} {x : IceK} (h : IceB k x) (hk : k ≤ k') : IceB k' x := ⟨h.b0, h.b1, h.w0, h.w1, h.t0, h.t1, h.s0, h.s1, by have := h.k; omega⟩
structure CvOk (l : FrL) (x : IceK) (d : DayK) : Prop where
  v : FrV l
  b : IceB 100000000 x
  d : DayV d
def eCovd : List AV → Option ((AV → Prop) → Prop)
  | [x, y, z] => match asLw x, asIc y, asDy z with
    | some u, some v, some w => some fun K => ∃ cov, u.2.2.1 = cov.map cvV ∧ CvOk (lwK u cov) (icK v) (dyK w) ∧ ∀ a b c d e f g h, (⟨(a, b), (c, d), (e, f), (g, h)⟩ : IceK) = covdS (lwK u cov) (icK v) (dyK w) → K (.agg [I a, I b, I c, I d, I e, I f, I g, I h])
    | _, _, _ => none
  | _ => none
theorem eCovd_ok : ∀ args pt, eCovd args = some pt → ∀ (H : AHeap) (Kk : AV → AHeap → Prop), pt (fun r => Kk r H) → ACalls Tryz.prog 95 args H Kk := by
  intro args pt h H Kk hk
  unfold eCovd at h
  split at h
  · split at h
    · rename_i u v w h1 h2 h3
      cases h
      obtain ⟨cov, h4, h5, h6⟩ := hk
      exact (p95 _ h5.v _ _ h5.b (by omega) _ h5.d H (h6 _ _ _ _ _ _ _ _ rfl)).wk ⟨asLw_wk h1 h4, asIc_wk h2, asDy_wk h3, trivial⟩
    · cases h
  · cases h
def eJoin : List AV → Option ((AV → Prop) → Prop)
  | [x, y] => match asIc x, asIc y with
    | some u, some v => some fun K => ∀ a b c d e f g h, (⟨(a, b), (c, d), (e, f), (g, h)⟩ : IceK) = joinK (icK u) (icK v) → K (.agg [I a, I b, I c, I d, I e, I f, I g, I h])
    | _, _ => none
  | _ => none
theorem eJoin_ok : ∀ args pt, eJoin args = some pt → ∀ (H : AHeap) (Kk : AV → AHeap → Prop), pt (fun r => Kk r H) → ACalls Tryz.prog 98 args H Kk := by
  intro args pt h H Kk hk
  unfold eJoin at h
  split at h
  · split at h
    · rename_i u v h1 h2
      cases h
      exact (p98 _ _ H (hk _ _ _ _ _ _ _ _ rfl)).wk ⟨asIc_wk h1, asIc_wk h2, trivial⟩
    · cases h
  · cases h
set_option maxHeartbeats 8000000 in
theorem p84 (l : FrL) (x : IceK) (d : DayK) (ho : CvOk l x d) (H : AHeap) {Kk : AV → AHeap → Prop} (h : Kk (icA (afterS l x d)) H) : ACalls Tryz.prog 84 [lwA l, icA x, dyA d] H Kk := by
  obtain ⟨W, hW⟩ : ∃ W, W = afterS l x d := ⟨_, rfl⟩
  rw [← hW] at h
  have hcb := (covd_b ho.v ho.b ho.d).le (k' := 200000000) (by omega)
  have hl0 := ho.v
  have c0 := ho.d.c0
  have c1' := ho.d.c1
  have c2' := ho.d.c2
  obtain ⟨L, hL⟩ : ∃ L : FrL, L = l := ⟨_, rfl⟩
  obtain ⟨X, hX⟩ : ∃ X : IceK, X = x := ⟨_, rfl⟩
  obtain ⟨D, hD⟩ : ∃ D : DayK, D = d := ⟨_, rfl⟩
  rw [← hL, ← hX, ← hD] at hW hcb
  rw [← hL] at hl0
  obtain ⟨⟨xb1, xb2⟩, ⟨xw1, xw2⟩, ⟨xt1, xt2⟩, ⟨xs1, xs2⟩⟩ := x
  obtain ⟨⟨c1, c2⟩, ⟨d3, d4⟩, d5, d6⟩ := d
  obtain ⟨g, la, cov, ⟨m1, m2⟩, so, ⟨v1, v2⟩⟩ := l
  have hDc : D.cold = (c1, c2) := by rw [hD]
  unfold afterS at hW
  rw [hDc] at hW
  unfold lwA icA dyA at *
  dsimp only at *
  obtain ⟨xs, hxs⟩ : ∃ xs, xs = cov.map cvV := ⟨_, rfl⟩
  have hxn : AV.nidL xs = true := by rw [hxs]; exact nid_cv cov
  rw [← hxs]
  refine (fun q => pureC (by simp [AV.nidL, AV.nid, hxn]) (by rfl) q H h) ?_
  clear h
  intro Kk h
  obtain ⟨A, hA⟩ : ∃ A, A = std := ⟨_, rfl⟩
  have hle : ∀ x y, A.le x y = decide (x ≤ y) := by subst hA; intro x y; rfl
  have hll : ∀ x y, A.lt x y = decide (x < y) := by subst hA; intro x y; rfl
  refine go84 rfl (SGo_run hA ⟨[], [], [(95, eCovd), (96, eFroz), (97, eMelt), (98, eJoin)], []⟩ (.cons eCovd_ok (.cons eFroz_ok (.cons eMelt_ok (.cons eJoin_ok .nil)))) .nil 200 fun T TD hT hTD => ?_)
  cbv
  refine Exists.intro cov (And.intro hxs (And.intro ho ?_))
  intro y1 y2 y3 y4 y5 y6 y7 y8 hy
  have hy : (⟨(y1, y2), (y3, y4), (y5, y6), (y7, y8)⟩ : IceK) = covdS L X D := by rw [hL, hX, hD]; exact hy
  rw [← hy] at hW hcb
  have hlL : FrV ⟨g, la, cov, (m1, m2), so, (v1, v2)⟩ := by rw [← hL]; exact hl0
  cbv
  have g1 : A.le 0 c1 = decide (0 ≤ c1) := hle _ _
  have g2 : A.lt c2 0 = decide (c2 < 0) := hll _ _
  by_cases h1 : 0 ≤ c1
  · rw [if_pos h1] at hW
    have g1 := g1.trans (decide_eq_true h1)
    split <;> first | (rename_i hz; exact Bool.noConfusion (hz.symm.trans g1)) | cbv
    refine Exists.intro cov (And.intro hxs (And.intro ⟨hlL, hcb, by omega⟩ ?_))
    intro z1 z2 z3 z4 z5 z6 z7 z8 hz
    cbv
    rw [hW] at h
    have hz : frozS L ⟨(y1, y2), (y3, y4), (y5, y6), (y7, y8)⟩ (c1, c2) = ⟨(z1, z2), (z3, z4), (z5, z6), (z7, z8)⟩ := by rw [hL]; exact hz.symm
    rw [hz] at h
    exact h
  · rw [if_neg h1] at hW
    have g1 := g1.trans (decide_eq_false h1)
    split <;> first | (rename_i hz; exact Bool.noConfusion (hz.symm.trans g1)) | cbv
    by_cases h2 : c2 < 0
    · rw [if_pos h2] at hW
      have g2 := g2.trans (decide_eq_true h2)
      split <;> first | (rename_i hz; exact Bool.noConfusion (hz.symm.trans g2)) | cbv
      refine Exists.intro cov (And.intro hxs (And.intro ⟨hlL, hcb, by omega⟩ ?_))
      intro z1 z2 z3 z4 z5 z6 z7 z8 hz
      cbv
      rw [hW] at h
      have hz : meltS L ⟨(y1, y2), (y3, y4), (y5, y6), (y7, y8)⟩ (c1, c2) = ⟨(z1, z2), (z3, z4), (z5, z6), (z7, z8)⟩ := by rw [hL]; exact hz.symm
      rw [hz] at h
      exact h
    · rw [if_neg h2] at hW
      have g2 := g2.trans (decide_eq_false h2)
      split <;> first | (rename_i hz; exact Bool.noConfusion (hz.symm.trans g2)) | cbv
      refine Exists.intro cov (And.intro hxs (And.intro ⟨hlL, hcb, by omega⟩ ?_))
      intro z1 z2 z3 z4 z5 z6 z7 z8 hz
      cbv
      refine Exists.intro cov (And.intro hxs (And.intro ⟨hlL, hcb, by omega⟩ ?_))
      intro u1 u2 u3 u4 u5 u6 u7 u8 hu
      cbv
      intro r1 r2 r3 r4 r5 r6 r7 r8 hr
      cbv
      rw [hW] at h
      have hz : frozS L ⟨(y1, y2), (y3, y4), (y5, y6), (y7, y8)⟩ (0, c2) = ⟨(z1, z2), (z3, z4), (z5, z6), (z7, z8)⟩ := by rw [hL]; exact hz.symm
      have hu : meltS L ⟨(y1, y2), (y3, y4), (y5, y6), (y7, y8)⟩ (c1, -1) = ⟨(u1, u2), (u3, u4), (u5, u6), (u7, u8)⟩ := by rw [hL]; exact hu.symm
      have hr : joinK ⟨(z1, z2), (z3, z4), (z5, z6), (z7, z8)⟩ ⟨(u1, u2), (u3, u4), (u5, u6), (u7, u8)⟩ = ⟨(r1, r2), (r3, r4), (r5, r6), (r7, r8)⟩ := hr.symm
      rw [hz, hu, hr] at h
      exact h
end Go.Sas
namespace Go.Sas
open Go.Proofs
set_option maxRecDepth 100000
set_option maxHeartbeats 4000000 in
theorem p99 (l : FrL) (hl : FrV l) (H : AHeap) {Kk : AV → AHeap → Prop} (h : Kk (I 0) H) : ACalls Tryz.prog 99 [.vs 3 (l.cov.map cvV)] H Kk := by
  have hne := hl.cne
  have hlen := hl.clen
  have hhd := hl.chd
  have hsrt := hl.csrt
  have hcb := hl.cb
  obtain ⟨cov, hcov⟩ : ∃ c, c = l.cov := ⟨_, rfl⟩
  rw [← hcov] at hne hlen hhd hsrt hcb
  rw [← hcov]
  clear hcov hl
  obtain ⟨xs, hxs⟩ : ∃ xs, xs = cov.map cvV := ⟨_, rfl⟩
  have hxn : AV.nidL xs = true := by rw [hxs]; exact nid_cv cov
  have hxl : ∀ n, AV.ltL n xs := fun n => AV.ltL_nid hxn
  rw [← hxs]
  refine (fun q => pureC (by simp [AV.nidL, AV.nid, hxn]) (by rfl) q H h) ?_
  clear h
  intro Kk h
  obtain ⟨A, hA⟩ : ∃ A, A = std := ⟨_, rfl⟩
  have hll : ∀ x y, A.lt x y = decide (x < y) := by subst hA; intro x y; rfl
  have hle : ∀ x y, A.le x y = decide (x ≤ y) := by subst hA; intro x y; rfl
  have hv : A.vlen xs = iLen cov.length := by subst hA; simp [std, hxs]
  have hpos : 0 < cov.length := List.length_pos_iff.2 hne
  have k1 : A.eq (A.vlen xs) 0 = false := by rw [hv]; subst hA; simp only [std, iEq, beq_eq_false_iff_ne]; unfold iLen; omega
  have k2 : A.lt 12 (A.vlen xs) = false := by rw [hv, hll, decide_eq_false_iff_not]; unfold iLen; omega
  have hN0 : A.ne 0 0 = false := by subst hA; rfl
  refine go99 rfl (SGo_run hA ⟨[], [], [(100, eFlt)], []⟩ (.cons (eFlt_ok p100) .nil) .nil 200 fun T TD hT hTD => ?_)
  cbv
  split <;> first | (rename_i hz; exact Bool.noConfusion (hz.symm.trans k1)) | cbv
  split <;> first | (rename_i hz; exact Bool.noConfusion (hz.symm.trans k2)) | cbv
  rw [hT]
  refine AGo_up cov.length (fun _ => True) (fun _ i => [(0, .vs 3 xs), (2, I 0), (14, .vs 3 xs), (15, I (A.vlen xs)), (16, I i)]) (fun _ => []) trivial ⟨rfl, rfl, rfl, rfl, rfl, trivial⟩ (.inl rfl) fun j i hi hj _ Bk hB => ?_
  have hlt : A.lt i (A.vlen xs) = decide (j < cov.length) := by subst hA; exact lt_len (by simp [hxs]) hi
  have hadd : ∀ N, j < N → N ≤ 9223372036854775807 → A.add .i64 i 1 = iLen (j + 1) := fun N hj hN => by subst hA; exact add_one hi hj hN
  refine SGo_run hA ⟨[], [], [(100, eFlt)], []⟩ (.cons (eFlt_ok p100) .nil) .nil 200 fun T TD hT hTD => ?_
  cbv
  split <;> cbv
  · rename_i hk1
    have hk1 : j < cov.length := by have := hlt.symm.trans hk1; simpa using this
    obtain ⟨⟨x, y, z⟩, hx⟩ : ∃ x, cov[j]? = some x := ⟨_, List.getElem?_eq_getElem hk1⟩
    have hix : A.ix 3 3 xs i [I x, I y, I z] := by subst hA; exact ix_map hxs hi hx rfl
    have hb := hcb _ (List.mem_of_getElem? hx)
    dsimp only at hb
    have q1 : A.lt x 0 = false := by rw [hll]; exact decide_eq_false (by omega)
    have q2 : A.lt 5000 x = false := by rw [hll]; exact decide_eq_false (by omega)
    have q3 : faultS y z 0 1000000 = 0 := by unfold faultS; rw [if_neg (by omega), if_neg (by omega)]
    have hend : ∀ e' H', Fits e' [(0, .vs 3 xs), (2, I 0), (14, .vs 3 xs), (15, I (A.vlen xs)), (16, I (A.add .i64 i 1))] → (∃ T, H' = [] ++ T) → Bk e' H' := fun e' H' h1 h2 =>
      hB e' H' hk1 trivial (by rw [hadd _ hk1 (by omega)] at h1; exact h1) (.inr ⟨h2, by simp, by simp [ltG, AV.lt, AV.ltL, hxl], by simp [ltH]⟩)
    cases j with
    | zero =>
      have h0 : A.eq i 0 = true := by subst hA hi; rfl
      have h0' : A.lt 0 i = false := by subst hA hi; rfl
      have hx0 : x = 0 := by
        cases cov with
        | nil => cases hx
        | cons c r => simp at hx hhd; rw [hx] at hhd; exact hhd
      have q4 : A.ne x 0 = false := by rw [hx0]; exact hN0
      repeat' (first | (refine Exists.intro _ (And.intro hix ?_); cbv) | (split <;> first | (rename_i hq; exact Bool.noConfusion (hq.symm.trans q1)) | (rename_i hq; exact Bool.noConfusion (hq.symm.trans q2)) | (rename_i hq; exact Bool.noConfusion (hq.symm.trans q4)) | (rename_i hq; exact Bool.noConfusion (hq.symm.trans h0)) | (rename_i hq; exact Bool.noConfusion (hq.symm.trans h0')) | cbv))
      intro r hr
      have hr : r = 0 := hr.trans q3
      subst hr
      cbv
      repeat' (first | (split <;> first | (rename_i hq; exact Bool.noConfusion (hq.symm.trans hN0)) | (rename_i hq; exact Bool.noConfusion (hq.symm.trans h0)) | (rename_i hq; exact Bool.noConfusion (hq.symm.trans h0')) | cbv))
      exact hend _ _ ⟨rfl, rfl, rfl, rfl, rfl, trivial⟩ ⟨_, rfl⟩
    | succ k =>
      obtain ⟨⟨u, v, w⟩, hy⟩ : ∃ y, cov[k]? = some y := ⟨_, List.getElem?_eq_getElem (by omega)⟩
      have hsub : A.sub .i64 i 1 = iLen k := by
        subst hA hi
        show iSub .i64 ((k + 1 : Nat) : Int) 1 = (k : Int)
        rw [iSub_id] <;> omega
      have hiy : A.ix 3 3 xs (A.sub .i64 i 1) [I u, I v, I w] := by subst hA; exact ix_map hxs hsub hy rfl
      have h0 : A.eq i 0 = false := by
        subst hA hi
        show (((k + 1 : Nat) : Int) == 0) = false
        rw [beq_eq_false_iff_ne]; omega
      have h0' : A.lt 0 i = true := by
        subst hA hi
        show decide ((0 : Int) < ((k + 1 : Nat) : Int)) = true
        rw [decide_eq_true_eq]; omega
      have hps : u < x ∧ y ≤ v ∧ z ≤ w := by
        have := List.pairwise_iff_getElem.1 hsrt k (k + 1) (by omega) hk1 (by omega)
        rw [List.getElem?_eq_getElem (by omega)] at hy
        rw [List.getElem?_eq_getElem hk1] at hx
        rw [Option.some.inj hy, Option.some.inj hx] at this
        exact this
      have q4 : A.le x u = false := by rw [hle]; exact decide_eq_false (by omega)
      have q5 : A.lt v y = false := by rw [hll]; exact decide_eq_false (by omega)
      have q6 : A.lt w z = false := by rw [hll]; exact decide_eq_false (by omega)
      repeat' (first | (refine Exists.intro _ (And.intro hix ?_); cbv) | (refine Exists.intro _ (And.intro hiy ?_); cbv) | (split <;> first | (rename_i hq; exact Bool.noConfusion (hq.symm.trans q1)) | (rename_i hq; exact Bool.noConfusion (hq.symm.trans q2)) | (rename_i hq; exact Bool.noConfusion (hq.symm.trans q4)) | (rename_i hq; exact Bool.noConfusion (hq.symm.trans h0)) | (rename_i hq; exact Bool.noConfusion (hq.symm.trans h0')) | cbv))
      intro r hr
      have hr : r = 0 := hr.trans q3
      subst hr
      cbv
      repeat' (first | (refine Exists.intro _ (And.intro hiy ?_); cbv) | (split <;> first | (rename_i hq; exact Bool.noConfusion (hq.symm.trans hN0)) | (rename_i hq; exact Bool.noConfusion (hq.symm.trans q5)) | (rename_i hq; exact Bool.noConfusion (hq.symm.trans q6)) | (rename_i hq; exact Bool.noConfusion (hq.symm.trans h0)) | (rename_i hq; exact Bool.noConfusion (hq.symm.trans h0')) | cbv))
      exact hend _ _ ⟨rfl, rfl, rfl, rfl, rfl, trivial⟩ ⟨_, rfl⟩
  · rename_i hk1
    exact leaf h rfl rfl
def eCovers : List AV → Option ((AV → Prop) → Prop)
  | [x] => match asVs 3 x with
    | some xs => some fun K => ∃ l : FrL, xs = l.cov.map cvV ∧ FrV l ∧ K (I 0)
    | none => none
  | _ => none
theorem eCovers_ok : ∀ args pt, eCovers args = some pt → ∀ (H : AHeap) (Kk : AV → AHeap → Prop), pt (fun r => Kk r H) → ACalls Tryz.prog 99 args H Kk := by
  intro args pt h H Kk hk
  unfold eCovers at h
  split at h
  · split at h
    · rename_i xs h1
      cases h
      obtain ⟨l, h2, h3, h4⟩ := hk
      rw [h2] at h1
      exact (p99 _ h3 H h4).wk ⟨asVs_wk h1, trivial⟩
    · cases h
  · cases h
theorem p92 (l : FrL) (hl : FrV l) (H : AHeap) {Kk : AV → AHeap → Prop} (h : Kk (I 0) H) : ACalls Tryz.prog 92 [lwA l] H Kk := by
  have hl0 := hl
  have a1 := hl.g0
  have a2 := hl.g1
  have a3 := hl.l0
  have a4 := hl.l1
  have a5 := hl.m0
  have a6 := hl.m1
  have a7 := hl.m2
  have a8 := hl.s0
  have a9 := hl.s1
  have a10 := hl.w0
  have a11 := hl.w1
  have a12 := hl.w2
  clear hl
  obtain ⟨g, la, cov, ⟨m1, m2⟩, so, ⟨v1, v2⟩⟩ := l
  unfold lwA
  dsimp only at *
  obtain ⟨xs, hxs⟩ : ∃ xs, xs = cov.map cvV := ⟨_, rfl⟩
  have hxn : AV.nidL xs = true := by rw [hxs]; exact nid_cv cov
  rw [← hxs]
  refine (fun q => pureC (by simp [AV.nidL, AV.nid, hxn]) (by rfl) q H h) ?_
  clear h
  intro Kk h
  obtain ⟨A, hA⟩ : ∃ A, A = std := ⟨_, rfl⟩
  have hll : ∀ x y, A.lt x y = decide (x < y) := by subst hA; intro x y; rfl
  have hN0 : A.ne 0 0 = false := by subst hA; rfl
  have q1 : A.lt g 0 = false := by rw [hll]; exact decide_eq_false (by omega)
  have q2 : A.lt 10000 g = false := by rw [hll]; exact decide_eq_false (by omega)
  have q3 : A.lt la 1 = false := by rw [hll]; exact decide_eq_false (by omega)
  have q4 : A.lt 1000 la = false := by rw [hll]; exact decide_eq_false (by omega)
  have q5 : A.lt so 0 = false := by rw [hll]; exact decide_eq_false (by omega)
  have q6 : A.lt 1000000 so = false := by rw [hll]; exact decide_eq_false (by omega)
  have q7 : faultS m1 m2 0 10000000 = 0 := by unfold faultS; rw [if_neg (by omega), if_neg (by omega)]
  have q8 : faultS v1 v2 0 1000000 = 0 := by unfold faultS; rw [if_neg (by omega), if_neg (by omega)]
  refine go92 rfl (SGo_run hA ⟨[], [], [(99, eCovers), (100, eFlt)], []⟩ (.cons eCovers_ok (.cons (eFlt_ok p100) .nil)) .nil 200 fun T TD hT hTD => ?_)
  cbv
  split <;> first | (rename_i hz; exact Bool.noConfusion (hz.symm.trans q1)) | cbv
  split <;> first | (rename_i hz; exact Bool.noConfusion (hz.symm.trans q2)) | cbv
  split <;> first | (rename_i hz; exact Bool.noConfusion (hz.symm.trans q3)) | cbv
  split <;> first | (rename_i hz; exact Bool.noConfusion (hz.symm.trans q4)) | cbv
  refine Exists.intro ⟨g, la, cov, (m1, m2), so, (v1, v2)⟩ (And.intro hxs (And.intro hl0 ?_))
  cbv
  split <;> first | (rename_i hz; exact Bool.noConfusion (hz.symm.trans hN0)) | cbv
  intro r hr
  have hr : r = 0 := hr.trans q7
  subst hr
  cbv
  split <;> first | (rename_i hz; exact Bool.noConfusion (hz.symm.trans hN0)) | cbv
  split <;> first | (rename_i hz; exact Bool.noConfusion (hz.symm.trans q5)) | cbv
  split <;> first | (rename_i hz; exact Bool.noConfusion (hz.symm.trans q6)) | cbv
  intro r2 hr2
  have hr2 : r2 = 0 := hr2.trans q8
  subst hr2
  cbv
  exact h
end Go.Sas
