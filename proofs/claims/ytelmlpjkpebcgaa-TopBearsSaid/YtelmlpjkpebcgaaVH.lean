/-
Frost: bearing thickness; days of the reference: contracts.
Frost: true ice, by the reference: contracts.
Conditions: none.
-/
import Derived.Test.YtelmlpjkpebcgaaVG
set_option linter.unusedVariables false
set_option linter.unusedSimpArgs false
namespace Go.Sas
open Go.Proofs
set_option maxRecDepth 100000
structure ThOk (l : FrL) (x : IceK) : Prop where
  v : FrV l
  b : IceB 200000000 x
theorem p125 (l : FrL) (x : IceK) (ho : ThOk l x) (H : AHeap) {Kk : AV → AHeap → Prop} (h : Kk (.agg [I (thkS l x).1, I (thkS l x).2]) H) : ACalls Try.prog 125 [lwA l, icA x] H Kk := by
  obtain ⟨⟨W1, W2⟩, hW⟩ : ∃ W, W = thkS l x := ⟨_, rfl⟩
  rw [← hW] at h
  obtain ⟨hl, hx⟩ := ho
  have b0 := hx.b0
  have b1 := hx.b1
  have w0 := hx.w0
  have w1 := hx.w1
  have t0 := hx.t0
  have t1 := hx.t1
  have s0 := hx.s0
  have s1 := hx.s1
  have hkk := hx.k
  have l1 := hl.w0
  have l2 := hl.w1
  have l3 := hl.w2
  clear hx hl
  obtain ⟨⟨xb1, xb2⟩, ⟨xw1, xw2⟩, ⟨xt1, xt2⟩, ⟨xs1, xs2⟩⟩ := x
  obtain ⟨g, la, cov, ⟨m1, m2⟩, so, ⟨v1, v2⟩⟩ := l
  unfold lwA icA at *
  unfold thkS at hW
  dsimp only at *
  obtain ⟨xs, hxs⟩ : ∃ xs, xs = cov.map cvV := ⟨_, rfl⟩
  have hxn : AV.nidL xs = true := by rw [hxs]; exact nid_cv cov
  rw [← hxs]
  refine (fun q => pureC (by simp [AV.nidL, AV.nid, hxn]) (by rfl) q H h) ?_
  clear h
  intro Kk h
  obtain ⟨A, hA⟩ : ∃ A, A = std := ⟨_, rfl⟩
  refine go125 rfl (SGo_run hA ⟨[], [], [(153, eDn), (154, eUp)], []⟩ (.cons (eDn_ok p153) (.cons (eUp_ok p154) .nil)) .nil 200 fun T TD hT hTD => ?_)
  cbv
  refine Exists.intro () (And.intro ⟨by omega, by omega, by omega, by omega⟩ ?_)
  intro r1 hr1
  cbv
  repeat (refine And.intro (by subst hA; simp [std, Keep, SubH, ResK, isStB]) ?_; cbv)
  refine Exists.intro () (And.intro ⟨by omega, by omega, by omega, by omega⟩ ?_)
  intro r2 hr2
  cbv
  repeat (refine And.intro (by subst hA; simp [std, Keep, SubH, ResK, isStB]) ?_; cbv)
  have e1 := dn_le (a := xw1) (p := v1) (by omega) (by omega)
  have e2 := dn_nn (a := xw1) (p := v1) (by omega) (by omega)
  have e3 := up_le (a := xw2) (p := v2) (by omega) (by omega)
  have e4 := up_nn (a := xw2) (p := v2) (by omega) (by omega)
  rw [← hr1] at e1 e2 hW
  rw [← hr2] at e3 e4 hW
  have q1 : A.add .i64 xb1 r1 = xb1 + r1 := by subst hA; exact iAdd_id (by omega) (by omega)
  have q2 : A.add .i64 xb2 r2 = xb2 + r2 := by subst hA; exact iAdd_id (by omega) (by omega)
  cases hW
  exact leaf h (by simp [aTup, q1, q2]) rfl
def eBears1 : List AV → Option ((AV → Prop) → Prop)
  | [x, y] => match asLw x, asIc y with
    | some u, some v => some fun K => ∃ cov, u.2.2.1 = cov.map cvV ∧ ThOk (lwK u cov) (icK v) ∧ ∀ a b, (a, b) = thkS (lwK u cov) (icK v) → K (.agg [I a, I b])
    | _, _ => none
  | _ => none
theorem eBears1_ok : ∀ args pt, eBears1 args = some pt → ∀ (H : AHeap) (Kk : AV → AHeap → Prop), pt (fun r => Kk r H) → ACalls Try.prog 125 args H Kk := by
  intro args pt h H Kk hk
  unfold eBears1 at h
  split at h
  · split at h
    · rename_i u v h1 h2
      cases h
      obtain ⟨cov, h3, h4, h5⟩ := hk
      exact (p125 _ _ h4 H (h5 _ _ rfl)).wk ⟨asLw_wk h1 h3, asIc_wk h2, trivial⟩
    · cases h
  · cases h
def sndS (x : IceK) : Int := if x.t.2 = 0 then 1 else if 0 < x.t.1 then 2 else 3
theorem p74 (l : FrL) (x : IceK) (hl : FrV l) (hx : iceE x = 0) (H : AHeap) {Kk : AV → AHeap → Prop} (h : Kk (.tup [.agg [I (thkS l x).1, I (thkS l x).2], I (sndS x), I 0]) H) : ACalls Try.prog 74 [lwA l, icA x] H Kk := by
  obtain ⟨⟨W1, W2⟩, hW⟩ : ∃ W, W = thkS l x := ⟨_, rfl⟩
  obtain ⟨sd, hsd⟩ : ∃ W, W = sndS x := ⟨_, rfl⟩
  rw [← hW, ← hsd] at h
  have hxb := (iceE_ok hx).le (k' := 200000000) (by omega)
  obtain ⟨X, hX⟩ : ∃ X : IceK, X = x := ⟨_, rfl⟩
  obtain ⟨L, hL⟩ : ∃ L : FrL, L = l := ⟨_, rfl⟩
  rw [← hX, ← hL] at hW
  rw [← hX] at hx
  obtain ⟨⟨xb1, xb2⟩, ⟨xw1, xw2⟩, ⟨xt1, xt2⟩, ⟨xs1, xs2⟩⟩ := x
  obtain ⟨g, la, cov, ⟨m1, m2⟩, so, ⟨v1, v2⟩⟩ := l
  unfold lwA icA at *
  unfold sndS at hsd
  dsimp only at *
  obtain ⟨xs, hxs⟩ : ∃ xs, xs = cov.map cvV := ⟨_, rfl⟩
  have hxn : AV.nidL xs = true := by rw [hxs]; exact nid_cv cov
  rw [← hxs]
  refine (fun q => pureC (by simp [AV.nidL, AV.nid, hxn]) (by rfl) q H h) ?_
  clear h
  intro Kk h
  obtain ⟨A, hA⟩ : ∃ A, A = std := ⟨_, rfl⟩
  have hN0 : A.ne 0 0 = false := by subst hA; rfl
  have hll : ∀ x y, A.lt x y = decide (x < y) := by subst hA; intro x y; rfl
  have hee : A.eq xt2 0 = decide (xt2 = 0) := by subst hA; show (xt2 == 0) = _; rw [Bool.eq_iff_iff]; simp
  have hl0 : A.lt 0 xt1 = decide (0 < xt1) := hll _ _
  refine go74 rfl (SGo_run hA ⟨[], [2], [(114, eChkA), (116, eIc), (125, eBears1)], []⟩ (.cons eChkA_ok (.cons (eIc_ok p116) (.cons eBears1_ok .nil))) .nil 200 fun T TD hT hTD => ?_)
  cbv
  refine Exists.intro cov (Exists.intro [] (And.intro hxs (And.intro rfl (And.intro hl (And.intro ⟨by simp, by simp⟩ ?_)))))
  intro r hr
  have hr : r = 0 := by rw [← hx, hX]; exact hr
  subst hr
  cbv
  split <;> first | (rename_i hz; exact Bool.noConfusion (hz.symm.trans hN0)) | cbv
  by_cases h1 : xt2 = 0
  · rw [if_pos h1] at hsd
    have hee := hee.trans (decide_eq_true h1)
    split <;> first | (rename_i hz; exact Bool.noConfusion (hz.symm.trans hee)) | cbv
    refine Exists.intro cov (And.intro hxs (And.intro ⟨hl, hxb⟩ ?_))
    intro a b hab
    have hab : (a, b) = (W1, W2) := by rw [hW, hL, hX]; exact hab
    cases hab
    cbv
    repeat (refine And.intro (by subst hA; simp [std, Keep, SubH, ResK, isStB]) ?_; cbv)
    rw [hsd] at h
    exact h
  · rw [if_neg h1] at hsd
    have hee := hee.trans (decide_eq_false h1)
    split <;> first | (rename_i hz; exact Bool.noConfusion (hz.symm.trans hee)) | cbv
    by_cases h2 : 0 < xt1
    · rw [if_pos h2] at hsd
      have hl0 := hl0.trans (decide_eq_true h2)
      split <;> first | (rename_i hz; exact Bool.noConfusion (hz.symm.trans hl0)) | cbv
      refine Exists.intro cov (And.intro hxs (And.intro ⟨hl, hxb⟩ ?_))
      intro a b hab
      have hab : (a, b) = (W1, W2) := by rw [hW, hL, hX]; exact hab
      cases hab
      cbv
      repeat (refine And.intro (by subst hA; simp [std, Keep, SubH, ResK, isStB]) ?_; cbv)
      rw [hsd] at h
      exact h
    · rw [if_neg h2] at hsd
      have hl0 := hl0.trans (decide_eq_false h2)
      split <;> first | (rename_i hz; exact Bool.noConfusion (hz.symm.trans hl0)) | cbv
      refine Exists.intro cov (And.intro hxs (And.intro ⟨hl, hxb⟩ ?_))
      intro a b hab
      have hab : (a, b) = (W1, W2) := by rw [hW, hL, hX]; exact hab
      cases hab
      cbv
      repeat (refine And.intro (by subst hA; simp [std, Keep, SubH, ResK, isStB]) ?_; cbv)
      rw [hsd] at h
      exact h
end Go.Sas
namespace Go.Sas
open Go.Proofs
set_option maxRecDepth 100000
structure TrB (t : IceT) : Prop where
  nb : 0 ≤ t.b
  nw : 0 ≤ t.w
  nt : 0 ≤ t.t
  ns : 0 ≤ t.s
  nk : t.b + t.w + t.t + t.s ≤ 100000000
theorem p119 (t : IceT) (ht : TrB t) (m : Int) (hm : 0 ≤ m ∧ m ≤ 1000000000000) (H : AHeap) {Kk : AV → AHeap → Prop} (h : Kk (trA (meltT t m)) H) : ACalls Try.prog 119 [trA t, I m] H Kk := by
  obtain ⟨h1, h2, h3, h4, h5⟩ := ht
  obtain ⟨W, hW⟩ : ∃ W, W = meltT t m := ⟨_, rfl⟩
  rw [← hW] at h
  obtain ⟨tb, tw, tt, ts⟩ := t
  unfold trA at *
  unfold meltT at hW
  dsimp only at *
  refine (fun q => pureC (by rfl) (by rfl) q H h) ?_
  clear h
  intro Kk h
  obtain ⟨A, hA⟩ : ∃ A, A = std := ⟨_, rfl⟩
  refine go119 rfl (SGo_run hA ⟨[], [], [], []⟩ .nil .nil 200 fun T TD hT hTD => ?_)
  cbv
  obtain ⟨n1, hn1⟩ : ∃ v, v = min ts m := ⟨_, rfl⟩
  have q1 : A.min ts m = n1 := by rw [hn1]; subst hA; exact iMin_eq _ _
  obtain ⟨m1, hm1⟩ : ∃ v, v = m - n1 := ⟨_, rfl⟩
  have q2 : A.sub .i64 m n1 = m1 := by rw [hm1]; subst hA; exact iSub_id (by omega) (by omega)
  have q3 : A.sub .i64 ts n1 = ts - n1 := by subst hA; exact iSub_id (by omega) (by omega)
  obtain ⟨n2, hn2⟩ : ∃ v, v = min tw m1 := ⟨_, rfl⟩
  have q4 : A.min tw m1 = n2 := by rw [hn2]; subst hA; exact iMin_eq _ _
  obtain ⟨m2, hm2⟩ : ∃ v, v = m1 - n2 := ⟨_, rfl⟩
  have q5 : A.sub .i64 m1 n2 = m2 := by rw [hm2]; subst hA; exact iSub_id (by omega) (by omega)
  have q6 : A.sub .i64 tw n2 = tw - n2 := by subst hA; exact iSub_id (by omega) (by omega)
  obtain ⟨n3, hn3⟩ : ∃ v, v = min tb m2 := ⟨_, rfl⟩
  have q7 : A.min tb m2 = n3 := by rw [hn3]; subst hA; exact iMin_eq _ _
  have q8 : A.sub .i64 tb n3 = tb - n3 := by subst hA; exact iSub_id (by omega) (by omega)
  rw [← hn1, ← hm1, ← hn2, ← hm2, ← hn3] at hW
  rw [hW] at h
  exact leaf h (by simp [aTup, q1, q2, q3, q4, q5, q6, q7, q8]) rfl
theorem p120 (l : FrL) (hl : FrV l) (w : Int) (hw : 0 ≤ w ∧ w ≤ 1000) (H : AHeap) {Kk : AV → AHeap → Prop} (h : Kk (.agg [I (dnS w l.melt.1), I (upS w l.melt.2)]) H) : ACalls Try.prog 120 [lwA l, I w] H Kk := by
  have l1 := hl.m0
  have l2 := hl.m1
  have l3 := hl.m2
  clear hl
  obtain ⟨g, la, cov, ⟨m1, m2⟩, so, ⟨v1, v2⟩⟩ := l
  unfold lwA at *
  dsimp only at *
  obtain ⟨xs, hxs⟩ : ∃ xs, xs = cov.map cvV := ⟨_, rfl⟩
  have hxn : AV.nidL xs = true := by rw [hxs]; exact nid_cv cov
  rw [← hxs]
  refine (fun q => pureC (by simp [AV.nidL, AV.nid, hxn]) (by rfl) q H h) ?_
  clear h
  intro Kk h
  obtain ⟨A, hA⟩ : ∃ A, A = std := ⟨_, rfl⟩
  refine go120 rfl (SGo_run hA ⟨[], [], [(126, eDn), (127, eUp)], []⟩ (.cons (eDn_ok p126) (.cons (eUp_ok p127) .nil)) .nil 200 fun T TD hT hTD => ?_)
  cbv
  refine Exists.intro () (And.intro ⟨by omega, by omega, by omega, by omega⟩ ?_)
  intro r1 hr1
  cbv
  refine Exists.intro () (And.intro ⟨by omega, by omega, by omega, by omega⟩ ?_)
  intro r2 hr2
  cbv
  rw [← hr1, ← hr2] at h
  exact h
theorem p122 (l : FrL) (hl : FrV l) (s c : Int) (hc : 0 ≤ c ∧ c ≤ 1000) (H : AHeap) {Kk : AV → AHeap → Prop} (h : Kk (.agg [I (dnS c (thrS l s).1), I (upS c (thrS l s).2)]) H) : ACalls Try.prog 122 [lwA l, I s, I c] H Kk := by
  have hne := hl.cne
  have hlen := hl.clen
  have hTh := hl.thr s
  obtain ⟨⟨w1, w2⟩, hW⟩ : ∃ W, W = thrS l s := ⟨_, rfl⟩
  rw [← hW] at h hTh
  obtain ⟨g, la, cov, ⟨m1, m2⟩, so, ⟨v1, v2⟩⟩ := l
  unfold lwA
  dsimp only at hne hlen h hTh ⊢
  obtain ⟨⟨x0, y0, z0⟩, hx0⟩ : ∃ x, cov[0]? = some x := by cases cov with | nil => exact absurd rfl hne | cons x l' => exact ⟨x, rfl⟩
  have hd : cov.headD (0, 0, 0) = (x0, y0, z0) := by cases cov with | nil => cases hx0 | cons x l' => simpa using hx0
  have hW : (w1, w2) = (cov.foldl (thrF s) (x0, y0, z0)).2 := by rw [hW]; unfold thrS; rw [hd]
  obtain ⟨xs, hxs⟩ : ∃ xs, xs = cov.map cvV := ⟨_, rfl⟩
  have hxn : AV.nidL xs = true := by rw [hxs]; exact nid_cv cov
  rw [← hxs]
  refine (fun q => pureC (by simp [AV.nidL, AV.nid, hxn]) (by rfl) q H h) ?_
  clear h
  intro Kk h
  obtain ⟨A, hA⟩ : ∃ A, A = std := ⟨_, rfl⟩
  have hv : A.vlen xs = iLen cov.length := by subst hA; simp [std, hxs]
  have hi0 : A.ix 3 3 xs 0 [I x0, I y0, I z0] := by subst hA; exact ix_map (j := 0) hxs rfl hx0 rfl
  refine go122 rfl (SGo_run hA ⟨[], [], [], []⟩ .nil .nil 200 fun T TD hT hTD => ?_)
  cbv
  refine ⟨_, hi0, ?_⟩
  cbv
  rw [hT]
  refine AGo_upS cov.length (fun j (o : Int × Int × Int) => o = (cov.take j).foldl (thrF s) (x0, y0, z0)) (fun _ o i => [(1, I s), (2, I c), (3, .mp 0 0 0), (6, .mp 1 0 0), (7, .mp 2 0 0), (8, I i)]) (fun _ o => [.own 0 [I g, I la, .vs 3 xs, I m1, I m2, I so, I v1, I v2], .own 0 [I 0, I 0], .own 0 [I o.2.1, I o.2.2]]) (x0, y0, z0) rfl ⟨rfl, rfl, rfl, rfl, rfl, rfl, trivial⟩ (.inl rfl) fun j o i hi hj hP Bk hB => ?_
  obtain ⟨o0, o1, o2⟩ := o
  have hlt : A.lt i (A.vlen xs) = decide (j < cov.length) := by subst hA; exact lt_len (by simp [hxs]) hi
  have hadd : ∀ N, j < N → N ≤ 9223372036854775807 → A.add .i64 i 1 = iLen (j + 1) := fun N hj hN => by subst hA; exact add_one hi hj hN
  refine SGo_run hA ⟨[], [], [(126, eDn), (127, eUp)], []⟩ (.cons (eDn_ok p126) (.cons (eUp_ok p127) .nil)) .nil 200 fun T TD hT hTD => ?_
  cbv
  split <;> cbv
  · rename_i hk1
    have hk1 : j < cov.length := by have := hlt.symm.trans hk1; simpa using this
    obtain ⟨⟨x, y, z⟩, hx⟩ : ∃ x, cov[j]? = some x := ⟨_, List.getElem?_eq_getElem hk1⟩
    have hix : A.ix 3 3 xs i [I x, I y, I z] := by subst hA; exact ix_map hxs hi hx rfl
    refine Exists.intro _ (And.intro hix ?_); cbv
    split <;> cbv
    · rename_i hq
      have hq : x ≤ s := by have hq : A.le x s = true := hq; subst hA; simpa [std, iLe] using hq
      refine Exists.intro _ (And.intro hix ?_); cbv
      exact hB (x, y, z) _ _ hk1 (by rw [thr_take hx]; simp [thrF, hq]) ⟨rfl, rfl, rfl, rfl, rfl, congrArg I (hadd _ hk1 (by omega)), trivial⟩ (.inl rfl)
    · rename_i hq
      have hq : ¬ x ≤ s := by have hq : A.le x s = false := hq; subst hA; simpa [std, iLe] using hq
      exact hB (o0, o1, o2) _ _ hk1 (by rw [thr_take hx]; simp only [thrF]; rw [if_neg (by simpa using hq)]; exact hP) ⟨rfl, rfl, rfl, rfl, rfl, congrArg I (hadd _ hk1 (by omega)), trivial⟩ (.inl rfl)
  · rename_i hk1
    have hk1 : ¬ j < cov.length := by have := hlt.symm.trans hk1; simpa using this
    have : (o1, o2) = (w1, w2) := by rw [hW, List.take_of_length_le (by omega)] at *; rw [← hP]
    cases this
    refine Exists.intro () (And.intro ⟨by omega, by omega, by omega, by omega⟩ ?_)
    intro r1 hr1
    cbv
    refine Exists.intro () (And.intro ⟨by omega, by omega, by omega, by omega⟩ ?_)
    intro r2 hr2
    cbv
    rw [← hr1, ← hr2] at h
    exact h
set_option maxHeartbeats 4000000 in
theorem p121 (l : FrL) (hl : FrV l) (t : IceT) (ht : TrB t) (k : Int) (hk : 0 ≤ k ∧ k ≤ 1000) (up : Bool) (H : AHeap) {Kk : AV → AHeap → Prop} (h : Kk (trA (frozT l t k up)) H) : ACalls Try.prog 121 [lwA l, trA t, I k, B up] H Kk := by
  obtain ⟨h1, h2, h3, h4, h5⟩ := ht
  obtain ⟨W, hW⟩ : ∃ W, W = frozT l t k up := ⟨_, rfl⟩
  rw [← hW] at h
  have hl0 := hl
  have l1 := hl.g0
  have l2 := hl.g1
  have l3 := hl.l0
  have l4 := hl.l1
  clear hl
  obtain ⟨tb, tw, tt, ts⟩ := t
  obtain ⟨g, la, cov, ⟨m1, m2⟩, so, ⟨v1, v2⟩⟩ := l
  unfold trA lwA at *
  unfold frozT at hW
  dsimp only at *
  obtain ⟨xs, hxs⟩ : ∃ xs, xs = cov.map cvV := ⟨_, rfl⟩
  have hxn : AV.nidL xs = true := by rw [hxs]; exact nid_cv cov
  rw [← hxs]
  refine (fun q => pureC (by simp [AV.nidL, AV.nid, hxn]) (by rfl) q H h) ?_
  clear h
  intro Kk h
  obtain ⟨A, hA⟩ : ∃ A, A = std := ⟨_, rfl⟩
  have hnz : A.nz la := by subst hA; simp only [std, nzS]; omega
  have hll : ∀ x y, A.lt x y = decide (x < y) := by subst hA; intro x y; rfl
  obtain ⟨z, hz⟩ : ∃ v, v = min tt (k / la) := ⟨_, rfl⟩
  rw [← hz] at hW
  have hd0 : 0 ≤ k / la := Int.ediv_nonneg hk.1 (by omega)
  have q1 : A.min tt (A.quo .i64 k la) = z := by rw [hz]; subst hA; simp only [std, iMin_eq]; rw [iQuo_id (by omega) (by omega) (by omega)]
  have q2 : A.add .i64 tw z = tw + z := by subst hA; exact iAdd_id (by omega) (by omega)
  have q3 : A.sub .i64 tt z = tt - z := by subst hA; exact iSub_id (by omega) (by omega)
  have q4 : A.lt 0 (A.sub .i64 tt (A.min tt (A.quo .i64 k la))) = decide (0 < tt - z) := by rw [q1, q3, hll]
  obtain ⟨e1, e1l, e1u⟩ := mulB (a := tb + (tw + z)) (b := tb + (tw + z)) (A := 200000000) (B := 200000000) (by omega) (by omega) (by omega)
  have hzl : z * la ≤ k := mul_div l3 (by rw [hz]; omega)
  obtain ⟨e2, e2l, e2u⟩ := mulB (a := z) (b := la) (A := 100000000) (B := 1000) (by omega) (by omega) (by omega)
  obtain ⟨e3, e3l, e3u⟩ := mulB (a := g) (b := k - z * la) (A := 10000) (B := 1000) (by omega) (by omega) (by omega)
  obtain ⟨sq, hsq⟩ : ∃ v, v = (tb + (tw + z)) * (tb + (tw + z)) + g * (k - z * la) := ⟨_, rfl⟩
  rw [← hsq] at hW
  have hRt : Rt sq := ⟨by omega, by omega⟩
  have q5 : A.add .i64 tb (A.add .i64 tw (A.min tt (A.quo .i64 k la))) = tb + (tw + z) := by rw [q1, q2]; subst hA; exact iAdd_id (by omega) (by omega)
  obtain ⟨hh, hhh⟩ : ∃ v, v = tb + (tw + z) := ⟨_, rfl⟩
  have q6 : A.add .i64 (A.mul .i64 (A.add .i64 tb (A.add .i64 tw (A.min tt (A.quo .i64 k la)))) (A.add .i64 tb (A.add .i64 tw (A.min tt (A.quo .i64 k la))))) (A.mul .i64 g (A.sub .i64 k (A.mul .i64 (A.min tt (A.quo .i64 k la)) la))) = sq := by
    rw [q5, q1, hsq]; subst hA; simp only [std]; rw [e1, e2, iSub_id (by omega) (by omega), e3, iAdd_id (by omega) (by omega)]
  obtain ⟨r0, r0b, _⟩ := root_sm hRt
  refine go121 rfl (SGo_run hA ⟨[], [], [(148, eRoot), (149, eRoof)], []⟩ (.cons (eRoot_ok p148) (.cons (eRoof_ok p149) .nil)) .nil 200 fun T TD hT hTD => ?_)
  cbv
  refine And.intro hnz ?_
  cbv
  by_cases h0 : 0 < tt - z
  · rw [if_pos h0] at hW
    have q4 := q4.trans (decide_eq_true h0)
    split <;> first | (rename_i hz; exact Bool.noConfusion (hz.symm.trans q4)) | cbv
    rw [hW] at h
    exact leaf h (by simp [aTup, q1, q2, q3]) rfl
  · rw [if_neg h0] at hW
    have q4 := q4.trans (decide_eq_false h0)
    split <;> first | (rename_i hz; exact Bool.noConfusion (hz.symm.trans q4)) | cbv
    refine Exists.intro () (And.intro (by show A.add .i64 (A.mul .i64 (A.add .i64 tb (A.add .i64 tw (A.min tt (A.quo .i64 k la)))) (A.add .i64 tb (A.add .i64 tw (A.min tt (A.quo .i64 k la))))) (A.mul .i64 g (A.sub .i64 k (A.mul .i64 (A.min tt (A.quo .i64 k la)) la))) ≤ _; rw [q6]; have := hRt.2; omega) ?_)
    intro r hr0
    have hr : r = rootS (A.add .i64 (A.mul .i64 (A.add .i64 tb (A.add .i64 tw (A.min tt (A.quo .i64 k la)))) (A.add .i64 tb (A.add .i64 tw (A.min tt (A.quo .i64 k la))))) (A.mul .i64 g (A.sub .i64 k (A.mul .i64 (A.min tt (A.quo .i64 k la)) la)))) := hr0
    clear hr0
    rw [q6] at hr
    cbv
    cases up <;> cbv
    · simp only [Bool.false_eq_true, if_false] at hW
      rw [← hr] at hW r0 r0b
      have q7 : A.sub .i64 r (A.add .i64 tw (A.min tt (A.quo .i64 k la))) = r - (tw + z) := by rw [q1, q2]; subst hA; exact iSub_id (by omega) (by omega)
      rw [hW] at h
      exact leaf h (by simp [aTup, q1, q2, q3] at q7 ⊢; exact q7.symm) rfl
    · simp only [if_true] at hW
      refine Exists.intro () (And.intro (by show Rt (A.add .i64 (A.mul .i64 (A.add .i64 tb (A.add .i64 tw (A.min tt (A.quo .i64 k la)))) (A.add .i64 tb (A.add .i64 tw (A.min tt (A.quo .i64 k la))))) (A.mul .i64 g (A.sub .i64 k (A.mul .i64 (A.min tt (A.quo .i64 k la)) la)))); rw [q6]; exact hRt) ?_)
      intro r2 hr20
      have hr2 : r2 = roofS (A.add .i64 (A.mul .i64 (A.add .i64 tb (A.add .i64 tw (A.min tt (A.quo .i64 k la)))) (A.add .i64 tb (A.add .i64 tw (A.min tt (A.quo .i64 k la))))) (A.mul .i64 g (A.sub .i64 k (A.mul .i64 (A.min tt (A.quo .i64 k la)) la)))) := hr20
      clear hr20
      rw [q6] at hr2
      have hr2b : 0 ≤ r2 ∧ r2 ≤ 3000000001 := by rw [hr2]; unfold roofS; split <;> omega
      rw [← hr2] at hW
      cbv
      have q7 : A.sub .i64 r2 (A.add .i64 tw (A.min tt (A.quo .i64 k la))) = r2 - (tw + z) := by rw [q1, q2]; subst hA; exact iSub_id (by omega) (by omega)
      rw [hW] at h
      exact leaf h (by simp [aTup, q1, q2, q3] at q7 ⊢; exact q7.symm) rfl
set_option maxHeartbeats 4000000 in
theorem p118 (l : FrL) (hl : FrV l) (t : IceT) (ht : TrB t) (d : DayK) (hd : DayV d) (fl : Int) (hf : 0 ≤ fl ∧ fl ≤ 1000) (H : AHeap) {Kk : AV → AHeap → Prop} (h : Kk (trA (openT l t d fl)) H) : ACalls Try.prog 118 [lwA l, trA t, dyA d, I fl] H Kk := by
  obtain ⟨h1, h2, h3, h4, h5⟩ := ht
  obtain ⟨W, hW⟩ : ∃ W, W = openT l t d fl := ⟨_, rfl⟩
  rw [← hW] at h
  have l1 := hl.s0
  have l2 := hl.s1
  have c7 := hd.w0
  have c8 := hd.w1
  clear hl hd
  obtain ⟨tb, tw, tt, ts⟩ := t
  obtain ⟨⟨d1, d2⟩, ⟨d3, d4⟩, d5, d6⟩ := d
  obtain ⟨g, la, cov, ⟨m1, m2⟩, so, ⟨v1, v2⟩⟩ := l
  unfold trA lwA dyA at *
  unfold openT at hW
  dsimp only at *
  obtain ⟨xs, hxs⟩ : ∃ xs, xs = cov.map cvV := ⟨_, rfl⟩
  have hxn : AV.nidL xs = true := by rw [hxs]; exact nid_cv cov
  rw [← hxs]
  refine (fun q => pureC (by simp [AV.nidL, AV.nid, hxn]) (by rfl) q H h) ?_
  clear h
  intro Kk h
  obtain ⟨A, hA⟩ : ∃ A, A = std := ⟨_, rfl⟩
  have hll : ∀ x y, A.lt x y = decide (x < y) := by subst hA; intro x y; rfl
  have ha1 : A.add .i64 ts fl = ts + fl := by subst hA; exact iAdd_id (by omega) (by omega)
  have hz1 : A.add .i64 0 fl = 0 + fl := by subst hA; exact iAdd_id (by omega) (by omega)
  have hb1 : A.add .i64 tt d5 = tt + d5 := by subst hA; exact iAdd_id (by omega) (by omega)
  have hq : A.lt 0 d5 = decide (0 < d5) := hll _ _
  refine go118 rfl (SGo_run hA ⟨[], [2000001], [(126, eDn)], []⟩ (.cons (eDn_ok p126) .nil) .nil 200 fun T TD hT hTD => ?_)
  cbv
  cases d6 <;> cbv
  · simp only [Bool.false_eq_true, if_false] at hW
    by_cases h5 : 0 < d5
    · rw [if_pos h5] at hW
      have hq := hq.trans (decide_eq_true h5)
      split <;> first | (rename_i hz; exact Bool.noConfusion (hz.symm.trans hq)) | cbv
      refine Exists.intro () (And.intro (by show NB (A.add .i64 ts fl) so; rw [ha1]; exact ⟨by omega, by omega, by omega, by omega⟩) ?_)
      intro r1 hr1
      have hr1' : r1 = dnS (A.add .i64 ts fl) so := hr1
      rw [ha1] at hr1'
      clear hr1
      cbv
      repeat (refine And.intro (by subst hA; simp [std, Keep, SubH, ResK, isStB]) ?_; cbv)
      have q1 : A.add .i64 (A.add .i64 tt d5) r1 = tt + d5 + r1 := by rw [hb1]; subst hA; have := dn_nn (a := ts + fl) (p := so) (by omega) (by omega); have := dn_le (a := ts + fl) (p := so) (by omega) (by omega); exact iAdd_id (by omega) (by omega)
      rw [hW, ← hr1'] at h
      exact leaf h (by simp [aTup, q1]) rfl
    · rw [if_neg h5] at hW
      have hq := hq.trans (decide_eq_false h5)
      split <;> first | (rename_i hz; exact Bool.noConfusion (hz.symm.trans hq)) | cbv
      rw [hW] at h
      exact leaf h (by simp [aTup, ha1]) rfl
  · simp only [if_true] at hW
    by_cases h5 : 0 < d5
    · rw [if_pos h5] at hW
      have hq := hq.trans (decide_eq_true h5)
      split <;> first | (rename_i hz; exact Bool.noConfusion (hz.symm.trans hq)) | cbv
      refine Exists.intro () (And.intro (by show NB (A.add .i64 0 fl) so; rw [hz1]; exact ⟨by omega, by omega, by omega, by omega⟩) ?_)
      intro r1 hr1
      have hr1' : r1 = dnS (A.add .i64 0 fl) so := hr1
      rw [hz1] at hr1'
      clear hr1
      cbv
      repeat (refine And.intro (by subst hA; simp [std, Keep, SubH, ResK, isStB]) ?_; cbv)
      have q1 : A.add .i64 (A.add .i64 tt d5) r1 = tt + d5 + r1 := by rw [hb1]; subst hA; have := dn_nn (a := 0 + fl) (p := so) (by omega) (by omega); have := dn_le (a := 0 + fl) (p := so) (by omega) (by omega); exact iAdd_id (by omega) (by omega)
      rw [hW, ← hr1'] at h
      exact leaf h (by simp [aTup, q1]) rfl
    · rw [if_neg h5] at hW
      have hq := hq.trans (decide_eq_false h5)
      split <;> first | (rename_i hz; exact Bool.noConfusion (hz.symm.trans hq)) | cbv
      rw [hW] at h
      exact leaf h (by simp [aTup, hz1]) rfl
end Go.Sas
