/-
Frost: true ice made of numbers: contracts.
Conditions: none.
-/
import Derived.Test.YtelmlpjkpebcgaaVH
import Derived.Test.YtelmlpjkpebcgaaVC
set_option linter.unusedVariables false
set_option linter.unusedSimpArgs false
namespace Go.Sas
open Go.Proofs
set_option maxRecDepth 100000
structure ThwOk (l : FrL) (w : Int) : Prop where
  v : FrV l
  w : 0 ≤ w ∧ w ≤ 1000
structure OpOk (l : FrL) (t : IceT) (d : DayK) (f : Int) : Prop where
  v : FrV l
  t : TrB t
  d : DayV d
  f : 0 ≤ f ∧ f ≤ 1000
structure MtOk (t : IceT) (m : Int) : Prop where
  t : TrB t
  m : 0 ≤ m ∧ m ≤ 1000000000000
structure FtOk (l : FrL) (t : IceT) (k : Int) : Prop where
  v : FrV l
  t : TrB t
  k : 0 ≤ k ∧ k ≤ 1000
def eThw : List AV → Option ((AV → Prop) → Prop)
  | [x, .lit (.int .i64 w)] => match asLw x with
    | some u => some fun K => ∃ cov, u.2.2.1 = cov.map cvV ∧ ThwOk (lwK u cov) w ∧ ∀ a b, a = dnS w (lwK u cov).melt.1 → b = upS w (lwK u cov).melt.2 → K (.agg [I a, I b])
    | none => none
  | _ => none
theorem eThw_ok : ∀ args pt, eThw args = some pt → ∀ (H : AHeap) (Kk : AV → AHeap → Prop), pt (fun r => Kk r H) → ACalls Try.prog 120 args H Kk := by
  intro args pt h H Kk hk
  unfold eThw at h
  split at h
  · split at h
    · rename_i u hu
      cases h
      obtain ⟨cov, h1, h2, h3⟩ := hk
      exact (p120 _ h2.v _ h2.w H (h3 _ _ rfl rfl)).wk ⟨asLw_wk hu h1, Wk.rfl, trivial⟩
    · cases h
  · cases h
def eThg : List AV → Option ((AV → Prop) → Prop)
  | [x, .lit (.int .i64 s), .lit (.int .i64 w)] => match asLw x with
    | some u => some fun K => ∃ cov, u.2.2.1 = cov.map cvV ∧ ThwOk (lwK u cov) w ∧ ∀ a b, a = dnS w (thrS (lwK u cov) s).1 → b = upS w (thrS (lwK u cov) s).2 → K (.agg [I a, I b])
    | none => none
  | _ => none
theorem eThg_ok : ∀ args pt, eThg args = some pt → ∀ (H : AHeap) (Kk : AV → AHeap → Prop), pt (fun r => Kk r H) → ACalls Try.prog 122 args H Kk := by
  intro args pt h H Kk hk
  unfold eThg at h
  split at h
  · split at h
    · rename_i u hu
      cases h
      obtain ⟨cov, h1, h2, h3⟩ := hk
      exact (p122 _ h2.v _ _ h2.w H (h3 _ _ rfl rfl)).wk ⟨asLw_wk hu h1, Wk.rfl, Wk.rfl, trivial⟩
    · cases h
  · cases h
def eOpn : List AV → Option ((AV → Prop) → Prop)
  | [x, y, z, .lit (.int .i64 f)] => match asLw x, asTr y, asDy z with
    | some u, some v, some w => some fun K => ∃ cov, u.2.2.1 = cov.map cvV ∧ OpOk (lwK u cov) (trK v) (dyK w) f ∧ ∀ a b c d, (⟨a, b, c, d⟩ : IceT) = openT (lwK u cov) (trK v) (dyK w) f → K (.agg [I a, I b, I c, I d])
    | _, _, _ => none
  | _ => none
theorem eOpn_ok : ∀ args pt, eOpn args = some pt → ∀ (H : AHeap) (Kk : AV → AHeap → Prop), pt (fun r => Kk r H) → ACalls Try.prog 118 args H Kk := by
  intro args pt h H Kk hk
  unfold eOpn at h
  split at h
  · split at h
    · rename_i u v w h1 h2 h3
      cases h
      obtain ⟨cov, h4, h5, h6⟩ := hk
      exact (p118 _ h5.v _ h5.t _ h5.d _ h5.f H (h6 _ _ _ _ rfl)).wk ⟨asLw_wk h1 h4, asTr_wk h2, asDy_wk h3, Wk.rfl, trivial⟩
    · cases h
  · cases h
def eMlt : List AV → Option ((AV → Prop) → Prop)
  | [y, .lit (.int .i64 m)] => match asTr y with
    | some v => some fun K => ∃ _u : Unit, MtOk (trK v) m ∧ ∀ a b c d, (⟨a, b, c, d⟩ : IceT) = meltT (trK v) m → K (.agg [I a, I b, I c, I d])
    | _ => none
  | _ => none
theorem eMlt_ok : ∀ args pt, eMlt args = some pt → ∀ (H : AHeap) (Kk : AV → AHeap → Prop), pt (fun r => Kk r H) → ACalls Try.prog 119 args H Kk := by
  intro args pt h H Kk hk
  unfold eMlt at h
  split at h
  · split at h
    · rename_i v h2
      cases h
      obtain ⟨_, h5, h6⟩ := hk
      exact (p119 _ h5.t _ h5.m H (h6 _ _ _ _ rfl)).wk ⟨asTr_wk h2, Wk.rfl, trivial⟩
    · cases h
  · cases h
def eFrt : List AV → Option ((AV → Prop) → Prop)
  | [x, y, .lit (.int .i64 k), .lit (.bool q)] => match asLw x, asTr y with
    | some u, some v => some fun K => ∃ cov, u.2.2.1 = cov.map cvV ∧ FtOk (lwK u cov) (trK v) k ∧ ∀ a b c d, (⟨a, b, c, d⟩ : IceT) = frozT (lwK u cov) (trK v) k q → K (.agg [I a, I b, I c, I d])
    | _, _ => none
  | _ => none
theorem eFrt_ok : ∀ args pt, eFrt args = some pt → ∀ (H : AHeap) (Kk : AV → AHeap → Prop), pt (fun r => Kk r H) → ACalls Try.prog 121 args H Kk := by
  intro args pt h H Kk hk
  unfold eFrt at h
  split at h
  · split at h
    · rename_i u v h1 h2
      cases h
      obtain ⟨cov, h4, h5, h6⟩ := hk
      exact (p121 _ h5.v _ h5.t _ h5.k _ H (h6 _ _ _ _ rfl)).wk ⟨asLw_wk h1 h4, asTr_wk h2, Wk.rfl, Wk.rfl, trivial⟩
    · cases h
  · cases h
theorem cv_inj : ∀ {l l' : List (Int × Int × Int)}, l.map cvV = l'.map cvV → l = l'
  | [], [], _ => rfl
  | [], _ :: _, h => by simp at h
  | _ :: _, [], h => by simp at h
  | (a, b, c) :: l, (a', b', c') :: l', h => by
    simp only [List.map_cons, List.cons.injEq] at h
    have h1 := cv_inj h.2
    have h2 := h.1
    simp only [cvV, AV.agg.injEq, List.cons.injEq, AV.lit.injEq, Value.int.injEq, and_true, true_and] at h2
    obtain ⟨rfl, rfl, rfl⟩ := h2
    rw [h1]
theorem openT_b {l : FrL} (hl : FrV l) {t : IceT} {k : Int} (ht : 0 ≤ t.b ∧ 0 ≤ t.w ∧ 0 ≤ t.t ∧ 0 ≤ t.s ∧ t.b + t.w + t.t + t.s ≤ k) {d : DayK} (hd : DayV d) {f : Int} (hf : 0 ≤ f ∧ f ≤ 1000) : 0 ≤ (openT l t d f).b ∧ 0 ≤ (openT l t d f).w ∧ 0 ≤ (openT l t d f).t ∧ 0 ≤ (openT l t d f).s ∧ (openT l t d f).b + (openT l t d f).w + (openT l t d f).t + (openT l t d f).s ≤ k + 1200 := by
  have := hl.s0
  have := hl.s1
  have := hd.w0
  have := hd.w1
  unfold openT
  cases d.clear <;> simp only [Bool.false_eq_true, if_false, if_true]
  · have e2 := dn_nn (a := t.s + f) (p := l.soak) (by omega) (by omega)
    have e3 := dn_le (a := t.s + f) (p := l.soak) (by omega) (by omega)
    split <;> simp only <;> omega
  · have e2 := dn_nn (a := 0 + f) (p := l.soak) (by omega) (by omega)
    have e3 := dn_le (a := 0 + f) (p := l.soak) (by omega) (by omega)
    split <;> simp only <;> omega
/-- true ice in what is known -/
def TrQ (x : IceK) (r : AV) : Prop := ∃ t : IceT, r = trA t ∧ InIce x t
theorem d70 (x : IceK) (hx : IceB 20000 x) : Draws Try.prog 70 [icA x] (TrQ x) := by
  have b0 := hx.b0
  have b1 := hx.b1
  have w0 := hx.w0
  have w1 := hx.w1
  have t0 := hx.t0
  have t1 := hx.t1
  have s0 := hx.s0
  have s1 := hx.s1
  have hkk := hx.k
  clear hx
  obtain ⟨⟨xb1, xb2⟩, ⟨xw1, xw2⟩, ⟨xt1, xt2⟩, ⟨xs1, xs2⟩⟩ := x
  unfold icA
  dsimp only at *
  refine .of rfl (by rintro r ⟨x, rfl, _⟩; rfl) fun w Kk h => ?_
  obtain ⟨A, hA⟩ : ∃ A, A = std := ⟨_, rfl⟩
  refine go70 rfl (SGo_run hA ⟨[], [0], [], [(29, eDraw sInside)]⟩ .nil (.cons (eDraw_ok sInside_ok) .nil) 200 fun T TD hT hTD => ?_)
  clear hT hTD
  cbv
  refine Exists.intro () (And.intro (by omega) ?_)
  rintro w1' _ ⟨q1, rfl, hq1, hq1'⟩
  cbv
  repeat (refine And.intro (by subst hA; simp [std, Keep, SubH, ResK, isStB]) ?_; cbv)
  refine Exists.intro () (And.intro (by omega) ?_)
  rintro w2' _ ⟨q2, rfl, hq2, hq2'⟩
  cbv
  repeat (refine And.intro (by subst hA; simp [std, Keep, SubH, ResK, isStB]) ?_; cbv)
  refine Exists.intro () (And.intro (by omega) ?_)
  rintro w3' _ ⟨q3, rfl, hq3, hq3'⟩
  cbv
  repeat (refine And.intro (by subst hA; simp [std, Keep, SubH, ResK, isStB]) ?_; cbv)
  refine Exists.intro () (And.intro (by omega) ?_)
  rintro w4' _ ⟨q4, rfl, hq4, hq4'⟩
  cbv
  repeat (refine And.intro (by subst hA; simp [std, Keep, SubH, ResK, isStB]) ?_; cbv)
  exact h _ _ ⟨⟨q1, q2, q3, q4⟩, rfl, ⟨hq1, hq1'⟩, ⟨hq2, hq2'⟩, ⟨hq3, hq3'⟩, ⟨hq4, hq4'⟩⟩
structure AfOk (l : FrL) (t : IceT) (d : DayK) : Prop where
  v : FrV l
  d : DayV d
  t : 0 ≤ t.b ∧ 0 ≤ t.w ∧ 0 ≤ t.t ∧ 0 ≤ t.s ∧ t.b + t.w + t.t + t.s ≤ 10000000
def AfQ (l : FrL) (t : IceT) (d : DayK) (r : AV) : Prop := ∃ t' : IceT, r = trA t' ∧ AftT l t d t'
set_option maxHeartbeats 8000000 in
theorem d71 (l : FrL) (t : IceT) (d : DayK) (ho : AfOk l t d) : Draws Try.prog 71 [lwA l, trA t, dyA d] (AfQ l t d) := by
  obtain ⟨hl, hd, ht⟩ := ho
  obtain ⟨L, hL⟩ : ∃ L : FrL, L = l := ⟨_, rfl⟩
  obtain ⟨T0, hT0⟩ : ∃ T : IceT, T = t := ⟨_, rfl⟩
  obtain ⟨D, hD⟩ : ∃ D : DayK, D = d := ⟨_, rfl⟩
  have hQ : AfQ l t d = AfQ L T0 D := by rw [hL, hT0, hD]
  rw [hQ]
  clear hQ
  have hob : ∀ f, 0 ≤ f ∧ f ≤ 1000 → TrB (openT L T0 D f) := fun f hf => by
    obtain ⟨o1, o2, o3, o4, o5⟩ := openT_b hl ht hd hf
    rw [hL, hT0, hD]
    exact ⟨o1, o2, o3, o4, by omega⟩
  have hl0 := hl
  have hd0 := hd
  have c0 := hd.c0
  have c1 := hd.c1
  have c2 := hd.c2
  have f0 := hd.f0
  have f1 := hd.f1
  have f2 := hd.f2
  have l1 := hl.m0
  have l2 := hl.m1
  have l3 := hl.m2
  have htb : TrB t := ⟨ht.1, ht.2.1, ht.2.2.1, ht.2.2.2.1, by omega⟩
  clear hl hd ht
  obtain ⟨tb, tw, tt, ts⟩ := t
  obtain ⟨⟨d1, d2⟩, ⟨d3, d4⟩, d5, d6⟩ := d
  obtain ⟨g, la, cov, ⟨m1, m2⟩, so, ⟨v1, v2⟩⟩ := l
  unfold trA lwA dyA
  dsimp only at *
  obtain ⟨xs, hxs⟩ : ∃ xs, xs = cov.map cvV := ⟨_, rfl⟩
  have hxn : AV.nidL xs = true := by rw [hxs]; exact nid_cv cov
  rw [← hxs]
  refine .of (by simp [AV.nidL, AV.nid, hxn]) (by rintro r ⟨t', rfl, _⟩; rfl) fun w Kk h => ?_
  obtain ⟨A, hA⟩ : ∃ A, A = std := ⟨_, rfl⟩
  have hll : ∀ x y, A.lt x y = decide (x < y) := by subst hA; intro x y; rfl
  refine go71 rfl (SGo_run hA ⟨[], [0], [(118, eOpn), (119, eMlt), (120, eThw), (121, eFrt), (122, eThg)], [(29, eDraw sInside), (68, eDraw sYes)]⟩ (.cons eOpn_ok (.cons eMlt_ok (.cons eThw_ok (.cons eFrt_ok (.cons eThg_ok .nil))))) (.cons (eDraw_ok sInside_ok) (.cons (eDraw_ok sYes_ok) .nil)) 200 fun T TD hT hTD => ?_)
  cbv
  refine Exists.intro () (And.intro (by omega) ?_)
  rintro w1' _ ⟨n, rfl, hn1, hn2⟩
  cbv
  refine Exists.intro () (And.intro (by omega) ?_)
  rintro w2' _ ⟨f, rfl, hf1, hf2⟩
  cbv
  repeat (refine And.intro (by subst hA; simp [std, Keep, SubH, ResK, isStB]) ?_; cbv)
  refine Exists.intro cov (And.intro hxs (And.intro ⟨hl0, htb, hd0, by omega⟩ ?_))
  intro ob ow ot os ho
  have ho : (⟨ob, ow, ot, os⟩ : IceT) = openT L T0 D f := by rw [hL, hT0, hD]; exact ho
  have hoB := hob f (by omega)
  rw [← ho] at hoB
  cbv
  repeat (refine And.intro (by subst hA; simp [std, Keep, SubH, ResK, isStB]) ?_; cbv)
  have hlt : A.lt n 0 = decide (n < 0) := hll _ _
  by_cases h0 : n < 0
  · have hlt := hlt.trans (decide_eq_true h0)
    split <;> first | (rename_i hz; exact Bool.noConfusion (hz.symm.trans hlt)) | cbv
    have hng : A.neg .i64 n = -n := by subst hA; exact (wrap_id (n := 0 - n) (by omega) (by omega)).trans (by omega)
    refine Exists.intro cov (And.intro hxs (And.intro (by show ThwOk _ (A.neg .i64 n); rw [hng]; exact ⟨hl0, by omega⟩) ?_))
    intro ta tb2 hta htb2
    have hta : ta = dnS (-n) L.melt.1 := by rw [hL, ← hng]; exact hta
    have htb2 : tb2 = upS (-n) L.melt.2 := by rw [hL, ← hng]; exact htb2
    have hm1 : L.melt.1 = m1 := by rw [hL]
    have hm2 : L.melt.2 = m2 := by rw [hL]
    have e1 : 0 ≤ ta := by rw [hta, hm1]; exact dn_nn (by omega) (by omega)
    have e2 : ta ≤ tb2 := by rw [hta, htb2, hm1, hm2]; exact Int.le_trans (dn_le_up _ _) (up_mono (by omega) (by omega) (by omega) (by omega))
    have e3 : tb2 ≤ 100000 := by
      rw [htb2, hm2]
      obtain ⟨_, l4, u4⟩ := mulB (a := -n) (b := m2) (A := 1000) (B := 10000000) (by omega) (by omega) (by omega)
      unfold upS; omega
    cbv
    repeat (refine And.intro (by subst hA; simp [std, Keep, SubH, ResK, isStB]) ?_; cbv)
    refine Exists.intro () (And.intro (by omega) ?_)
    rintro w3' _ ⟨m, rfl, hm3, hm4⟩
    cbv
    repeat (refine And.intro (by subst hA; simp [std, Keep, SubH, ResK, isStB]) ?_; cbv)
    refine Exists.intro () (And.intro ⟨hoB, by omega, by omega⟩ ?_)
    intro rb rw' rt rs hr
    have hr : (⟨rb, rw', rt, rs⟩ : IceT) = meltT ⟨ob, ow, ot, os⟩ m := hr
    rw [ho] at hr
    cbv
    repeat (refine And.intro (by subst hA; simp [std, Keep, SubH, ResK, isStB]) ?_; cbv)
    refine h _ _ ⟨⟨rb, rw', rt, rs⟩, rfl, n, f, ?_, ?_, .inl ⟨h0, m, ?_, hr⟩⟩
    · rw [hD]; exact ⟨hn1, hn2⟩
    · rw [hD]; exact ⟨hf1, hf2⟩
    · rw [← hta, ← htb2]; exact ⟨hm3, hm4⟩
  · have hlt := hlt.trans (decide_eq_false h0)
    split <;> first | (rename_i hz; exact Bool.noConfusion (hz.symm.trans hlt)) | cbv
    have hTh := hl0.thr os
    rw [← hL] at hTh
    refine Exists.intro cov (And.intro hxs (And.intro ⟨hl0, by omega⟩ ?_))
    intro ta tb2 hta htb2
    have hta : ta = dnS n (thrS L os).1 := by rw [hL]; exact hta
    have htb2 : tb2 = upS n (thrS L os).2 := by rw [hL]; exact htb2
    have e1 : 0 ≤ ta := by rw [hta]; exact dn_nn (by omega) (by omega)
    have e2 : ta ≤ tb2 := by rw [hta, htb2]; exact Int.le_trans (dn_le_up _ _) (up_mono (by omega) (by omega) (by omega) (by omega))
    have e3 : tb2 ≤ 1000 := by rw [htb2]; have := up_le (a := n) (p := (thrS L os).2) (by omega) (by omega); omega
    cbv
    repeat (refine And.intro (by subst hA; simp [std, Keep, SubH, ResK, isStB]) ?_; cbv)
    refine Exists.intro () (And.intro (by omega) ?_)
    rintro w3' _ ⟨m, rfl, hm3, hm4⟩
    cbv
    repeat (refine And.intro (by subst hA; simp [std, Keep, SubH, ResK, isStB]) ?_; cbv)
    refine Exists.intro () (And.intro (by omega) ?_)
    rintro w4' _ ⟨up, rfl⟩
    cbv
    repeat (refine And.intro (by subst hA; simp [std, Keep, SubH, ResK, isStB]) ?_; cbv)
    refine Exists.intro cov (And.intro hxs (And.intro ⟨hl0, hoB, by omega⟩ ?_))
    intro rb rw' rt rs hr
    have hr : (⟨rb, rw', rt, rs⟩ : IceT) = frozT L ⟨ob, ow, ot, os⟩ m up := by rw [hL]; exact hr
    have hos : os = (openT L T0 D f).s := congrArg IceT.s ho
    rw [ho] at hr
    rw [hos] at hta htb2
    cbv
    repeat (refine And.intro (by subst hA; simp [std, Keep, SubH, ResK, isStB]) ?_; cbv)
    refine h _ _ ⟨⟨rb, rw', rt, rs⟩, rfl, n, f, ?_, ?_, .inr ⟨by omega, m, up, ?_, hr⟩⟩
    · rw [hD]; exact ⟨hn1, hn2⟩
    · rw [hD]; exact ⟨hf1, hf2⟩
    · rw [← hta, ← htb2]; exact ⟨hm3, hm4⟩
end Go.Sas
