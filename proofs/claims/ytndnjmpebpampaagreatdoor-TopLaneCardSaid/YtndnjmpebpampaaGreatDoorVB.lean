/-
Frost: a day: contracts.
Frost: growth, what is covered: contracts.
Conditions: none.
-/
import Derived.Test.YtndnjmpebpampaaGreatDoorVA
set_option linter.unusedVariables false
set_option linter.unusedSimpArgs false
namespace Go.Sas
open Go.Proofs
set_option maxRecDepth 100000
theorem nid_cv : ∀ l : List (Int × Int × Int), AV.nidL (l.map cvV) = true
  | [] => rfl
  | x :: l => by simp only [List.map_cons, AV.nidL, nid_cv l, cvV]; rfl
theorem thr_take {l : List (Int × Int × Int)} {n : Int} {o x : Int × Int × Int} {j : Nat} (hx : l[j]? = some x) : (l.take (j + 1)).foldl (thrF n) o = thrF n ((l.take j).foldl (thrF n) o) x := by
  rw [List.take_add_one, hx]; simp
theorem p102 (l : FrL) (hl : FrV l) (s : Int) (H : AHeap) {Kk : AV → AHeap → Prop} (h : Kk (.agg [I (thrS l s).1, I (thrS l s).2]) H) : ACalls Tryz.prog 102 [lwA l, I s] H Kk := by
  have hne := hl.cne
  have hlen := hl.clen
  obtain ⟨⟨w1, w2⟩, hW⟩ : ∃ W, W = thrS l s := ⟨_, rfl⟩
  rw [← hW] at h
  obtain ⟨g, la, cov, ⟨m1, m2⟩, so, ⟨v1, v2⟩⟩ := l
  unfold lwA
  dsimp only at hne hlen h ⊢
  obtain ⟨⟨x0, y0, z0⟩, hx0⟩ : ∃ x, cov[0]? = some x := by cases cov with | nil => exact absurd rfl hne | cons x l' => exact ⟨x, rfl⟩
  have hd : cov.headD (0, 0, 0) = (x0, y0, z0) := by cases cov with | nil => cases hx0 | cons x l' => simpa using hx0
  have hnid : AV.ltL 3 (cov.map cvV) := AV.ltL_nid (nid_cv cov)
  have hW : (w1, w2) = (cov.foldl (thrF s) (x0, y0, z0)).2 := by rw [hW]; unfold thrS; rw [hd]
  obtain ⟨xs, hxs⟩ : ∃ xs, xs = cov.map cvV := ⟨_, rfl⟩
  have hxn : AV.nidL xs = true := by rw [hxs]; exact nid_cv cov
  rw [← hxs] at hnid
  rw [← hxs]
  refine (fun q => pureC (by simp [AV.nidL, AV.nid, hxn]) (by rfl) q H h) ?_
  clear h
  intro Kk h
  obtain ⟨A, hA⟩ : ∃ A, A = std := ⟨_, rfl⟩
  have hv : A.vlen xs = iLen cov.length := by subst hA; simp [std, hxs]
  have hi0 : A.ix 3 3 xs 0 [I x0, I y0, I z0] := by subst hA; exact ix_map (j := 0) hxs rfl hx0 rfl
  refine go102 rfl (SGo_run hA ⟨[], [], [], []⟩ .nil .nil 200 fun T TD hT hTD => ?_)
  cbv
  refine ⟨_, hi0, ?_⟩
  cbv
  rw [hT]
  refine AGo_upS cov.length (fun j (o : Int × Int × Int) => o = (cov.take j).foldl (thrF s) (x0, y0, z0)) (fun _ o i => [(1, I s), (2, .mp 0 0 0), (4, .mp 1 0 0), (5, .mp 2 0 0), (16, .vs 3 xs), (17, I (A.vlen xs)), (18, I i)]) (fun _ o => [.own 0 [I g, I la, .vs 3 xs, I m1, I m2, I so, I v1, I v2], .own 0 [I 0, I 0], .own 0 [I o.2.1, I o.2.2]]) (x0, y0, z0) rfl ⟨rfl, rfl, rfl, rfl, rfl, rfl, rfl, trivial⟩ (.inl rfl) fun j o i hi hj hP Bk hB => ?_
  obtain ⟨o0, o1, o2⟩ := o
  have hlt : A.lt i (A.vlen xs) = decide (j < cov.length) := by subst hA; exact lt_len (by simp [hxs]) hi
  have hadd : ∀ N, j < N → N ≤ 9223372036854775807 → A.add .i64 i 1 = iLen (j + 1) := fun N hj hN => by subst hA; exact add_one hi hj hN
  refine SGo_run hA ⟨[], [], [], []⟩ .nil .nil 200 fun T TD hT hTD => ?_
  cbv
  split <;> cbv
  · rename_i hk1
    have hk1 : j < cov.length := by have := hlt.symm.trans hk1; simpa using this
    obtain ⟨⟨x, y, z⟩, hx⟩ : ∃ x, cov[j]? = some x := ⟨_, List.getElem?_eq_getElem hk1⟩
    have hix : A.ix 3 3 xs i [I x, I y, I z] := by subst hA; exact ix_map hxs hi hx rfl
    refine Exists.intro _ (And.intro hix ?_); cbv
    split <;> cbv
    · rename_i hq
      have hq : x ≤ s := by have hq : A.le x s = true := hq; subst hA; simpa [std, iLe] using hq
      exact hB (x, y, z) _ _ hk1 (by rw [thr_take hx]; simp [thrF, hq]) ⟨rfl, rfl, rfl, rfl, rfl, rfl, congrArg I (hadd _ hk1 (by omega)), trivial⟩ (.inr ⟨⟨_, rfl⟩, by simp, by simp [ltG, AV.lt, AV.ltL, hnid], by simp [ltH, AObj.lt, AV.ltL, AV.lt, hnid]⟩)
    · rename_i hq
      have hq : ¬ x ≤ s := by have hq : A.le x s = false := hq; subst hA; simpa [std, iLe] using hq
      exact hB (o0, o1, o2) _ _ hk1 (by rw [thr_take hx]; simp only [thrF]; rw [if_neg (by simpa using hq)]; exact hP) ⟨rfl, rfl, rfl, rfl, rfl, rfl, congrArg I (hadd _ hk1 (by omega)), trivial⟩ (.inr ⟨⟨_, rfl⟩, by simp, by simp [ltG, AV.lt, AV.ltL, hnid], by simp [ltH, AObj.lt, AV.ltL, AV.lt, hnid]⟩)
  · rename_i hk1
    have hk1 : ¬ j < cov.length := by have := hlt.symm.trans hk1; simpa using this
    have : (o1, o2) = (w1, w2) := by rw [hW, List.take_of_length_le (by omega)] at *; rw [← hP]
    cases this
    exact h
/-- what is asked of a law, by its value -/
def eThr : List AV → Option ((AV → Prop) → Prop)
  | [x, .lit (.int .i64 s)] => match asLw x with
    | some y => some fun K => ∃ cov, y.2.2.1 = cov.map cvV ∧ FrV (lwK y cov) ∧ ∀ p1 p2, (p1, p2) = thrS (lwK y cov) s → K (.agg [I p1, I p2])
    | none => none
  | _ => none
theorem eThr_ok : ∀ args pt, eThr args = some pt → ∀ (H : AHeap) (Kk : AV → AHeap → Prop), pt (fun r => Kk r H) → ACalls Tryz.prog 102 args H Kk := by
  intro args pt h H Kk hk
  unfold eThr at h
  split at h
  · split at h
    · rename_i y hy
      cases h
      obtain ⟨cov, h1, h2, h3⟩ := hk
      exact (p102 _ h2 _ H (h3 _ _ rfl)).wk ⟨asLw_wk hy h1, Wk.rfl, trivial⟩
    · cases h
  · cases h
theorem p105 (n : Int) (hn : Rt n) (H : AHeap) {Kk : AV → AHeap → Prop} (h : Kk (I (roofS n)) H) : ACalls Tryz.prog 105 [I n] H Kk := by
  refine (fun q => pureC (by rfl) (by rfl) q H h) ?_
  clear h
  intro Kk h
  obtain ⟨A, hA⟩ : ∃ A, A = std := ⟨_, rfl⟩
  obtain ⟨W, hW⟩ : ∃ W, W = roofS n := ⟨_, rfl⟩
  rw [← hW] at h
  have hb : n ≤ 9223372036854775807 := by have := hn.2; omega
  refine go105 rfl (SGo_run hA ⟨[], [], [(76, eRoot)], []⟩ (.cons (eRoot_ok p76) .nil) .nil 200 fun T TD hT hTD => ?_)
  cbv
  refine Exists.intro () (And.intro hb ?_)
  rintro r hr
  cbv
  obtain ⟨h1, h2, h3⟩ := root_sm hn
  have hn2 := hn.2
  rw [← hr] at h1 h2 h3
  have e1 : A.mul .i64 r r = r * r := by subst hA; exact iMul_id (by have := Int.mul_nonneg h1 h1; omega) (by omega)
  have e2 : A.lt (A.mul .i64 r r) n = decide (r * r < n) := by rw [e1]; subst hA; rfl
  have e3 : A.add .i64 r 1 = r + 1 := by subst hA; exact iAdd_id (by omega) (by omega)
  unfold roofS at hW
  rw [← hr] at hW
  split <;> cbv
  · rename_i hq
    have hq := e2.symm.trans hq
    simp only [decide_eq_true_eq] at hq
    refine leaf h (congrArg I ?_) rfl
    rw [hW, if_pos hq, ← e3]
  · rename_i hq
    have hq := e2.symm.trans hq
    simp only [decide_eq_false_iff_not] at hq
    refine leaf h (congrArg I ?_) rfl
    rw [hW, if_neg hq]
end Go.Sas
namespace Go.Sas
open Go.Proofs
set_option maxRecDepth 100000
structure GrB (l : FrL) (b w t c : Int) : Prop where
  v : FrV l
  b0 : 0 ≤ b
  w0 : 0 ≤ w
  t0 : 0 ≤ t
  s : b + (w + t) ≤ 1000000000
  c0 : t * l.lat ≤ c
  c1 : c ≤ 100000
theorem GrB.sq {l : FrL} {b w t c : Int} (h : GrB l b w t c) : iAdd .i64 (iMul .i64 (iAdd .i64 b (iAdd .i64 w t)) (iAdd .i64 b (iAdd .i64 w t))) (iMul .i64 l.g (iSub .i64 c (iMul .i64 t l.lat))) = sqS l b w t c ∧ Rt (sqS l b w t c) := by
  obtain ⟨v, b0, w0, t0, s, c0, c1⟩ := h
  have h0 := v.g0
  have h1 := v.g1
  have h2 := v.l0
  have h3 := v.l1
  obtain ⟨e1, l1, u1⟩ := mulB (a := b + (w + t)) (b := b + (w + t)) (A := 1000000000) (B := 1000000000) (by omega) (by omega) (by omega)
  obtain ⟨e2, l2, u2⟩ := mulB (a := t) (b := l.lat) (A := 1000000000) (B := 1000) (by omega) (by omega) (by omega)
  obtain ⟨e3, l3, u3⟩ := mulB (a := l.g) (b := c - t * l.lat) (A := 10000) (B := 100000) (by omega) (by omega) (by omega)
  unfold sqS Rt
  rw [iAdd_id (a := w) (b := t) (by omega) (by omega), iAdd_id (a := b) (b := w + t) (by omega) (by omega), e1, e2, iSub_id (by omega) (by omega), e3, iAdd_id (by omega) (by omega)]
  exact ⟨rfl, by omega, by omega⟩
theorem GrB.lo {l : FrL} {b w t c : Int} (h : GrB l b w t c) : iSub .i64 (rootS (sqS l b w t c)) (iAdd .i64 w t) = rootS (sqS l b w t c) - (w + t) := by
  obtain ⟨h1, h2, _⟩ := root_sm h.sq.2
  obtain ⟨v, b0, w0, t0, s, c0, c1⟩ := h
  rw [iAdd_id (by omega) (by omega), iSub_id (by omega) (by omega)]
theorem GrB.hi {l : FrL} {b w t c : Int} (h : GrB l b w t c) : iSub .i64 (roofS (sqS l b w t c)) (iAdd .i64 w t) = roofS (sqS l b w t c) - (w + t) := by
  obtain ⟨h1, h2, _⟩ := root_sm h.sq.2
  obtain ⟨v, b0, w0, t0, s, c0, c1⟩ := h
  have : roofS (sqS l b w t c) ≤ rootS (sqS l b w t c) + 1 ∧ 0 ≤ roofS (sqS l b w t c) := by unfold roofS; split <;> omega
  rw [iAdd_id (by omega) (by omega), iSub_id (by omega) (by omega)]
theorem p104a (l : FrL) (b w t c : Int) (hg : GrB l b w t c) (H : AHeap) {Kk : AV → AHeap → Prop} (h : Kk (I (rootS (sqS l b w t c) - (w + t))) H) : ACalls Tryz.prog 104 [lwA l, I b, I w, I t, I c, .fn 76 []] H Kk := by
  have e1 := hg.sq.1
  have e2 := hg.lo
  have e3 := hg.sq.2.2
  obtain ⟨W, hW⟩ : ∃ W, W = rootS (sqS l b w t c) - (w + t) := ⟨_, rfl⟩
  obtain ⟨q, hq⟩ : ∃ q, q = sqS l b w t c := ⟨_, rfl⟩
  rw [← hW] at h
  rw [← hW, ← hq] at e2
  rw [← hq] at e1 e3
  clear hg hW hq
  obtain ⟨g, la, cov, ⟨m1, m2⟩, so, ⟨v1, v2⟩⟩ := l
  unfold lwA
  dsimp only at e1 ⊢
  obtain ⟨xs, hxs⟩ : ∃ xs, xs = cov.map cvV := ⟨_, rfl⟩
  have hxn : AV.nidL xs = true := by rw [hxs]; exact nid_cv cov
  rw [← hxs]
  refine (fun q => pureC (by simp [AV.nidL, AV.nid, hxn]) (by rfl) q H h) ?_
  clear h
  intro Kk h
  obtain ⟨A, hA⟩ : ∃ A, A = std := ⟨_, rfl⟩
  refine go104 rfl (SGo_run hA ⟨[], [], [(76, eRoot)], []⟩ (.cons (eRoot_ok p76) .nil) .nil 200 fun T TD hT hTD => ?_)
  cbv
  have e1 : A.add .i64 (A.mul .i64 (A.add .i64 b (A.add .i64 w t)) (A.add .i64 b (A.add .i64 w t))) (A.mul .i64 g (A.sub .i64 c (A.mul .i64 t la))) = q := by subst hA; exact e1
  refine Exists.intro () (And.intro (by show A.add .i64 (A.mul .i64 (A.add .i64 b (A.add .i64 w t)) (A.add .i64 b (A.add .i64 w t))) (A.mul .i64 g (A.sub .i64 c (A.mul .i64 t la))) ≤ _; rw [e1]; omega) ?_)
  rintro r hr0
  have hr : r = rootS (A.add .i64 (A.mul .i64 (A.add .i64 b (A.add .i64 w t)) (A.add .i64 b (A.add .i64 w t))) (A.mul .i64 g (A.sub .i64 c (A.mul .i64 t la)))) := hr0
  clear hr0
  rw [e1] at hr
  cbv
  refine leaf h (congrArg I ?_) rfl
  subst hA
  rw [← e2, hr]; rfl
theorem p104b (l : FrL) (b w t c : Int) (hg : GrB l b w t c) (H : AHeap) {Kk : AV → AHeap → Prop} (h : Kk (I (roofS (sqS l b w t c) - (w + t))) H) : ACalls Tryz.prog 104 [lwA l, I b, I w, I t, I c, .fn 105 []] H Kk := by
  have e1 := hg.sq.1
  have e2 := hg.hi
  have e3 := hg.sq.2
  obtain ⟨W, hW⟩ : ∃ W, W = roofS (sqS l b w t c) - (w + t) := ⟨_, rfl⟩
  obtain ⟨q, hq⟩ : ∃ q, q = sqS l b w t c := ⟨_, rfl⟩
  rw [← hW] at h
  rw [← hW, ← hq] at e2
  rw [← hq] at e1 e3
  clear hg hW hq
  obtain ⟨g, la, cov, ⟨m1, m2⟩, so, ⟨v1, v2⟩⟩ := l
  unfold lwA
  dsimp only at e1 ⊢
  obtain ⟨xs, hxs⟩ : ∃ xs, xs = cov.map cvV := ⟨_, rfl⟩
  have hxn : AV.nidL xs = true := by rw [hxs]; exact nid_cv cov
  rw [← hxs]
  refine (fun q => pureC (by simp [AV.nidL, AV.nid, hxn]) (by rfl) q H h) ?_
  clear h
  intro Kk h
  obtain ⟨A, hA⟩ : ∃ A, A = std := ⟨_, rfl⟩
  refine go104 rfl (SGo_run hA ⟨[], [], [(105, eRoof)], []⟩ (.cons (eRoof_ok p105) .nil) .nil 200 fun T TD hT hTD => ?_)
  cbv
  have e1 : A.add .i64 (A.mul .i64 (A.add .i64 b (A.add .i64 w t)) (A.add .i64 b (A.add .i64 w t))) (A.mul .i64 g (A.sub .i64 c (A.mul .i64 t la))) = q := by subst hA; exact e1
  refine Exists.intro () (And.intro (by show Rt (A.add .i64 (A.mul .i64 (A.add .i64 b (A.add .i64 w t)) (A.add .i64 b (A.add .i64 w t))) (A.mul .i64 g (A.sub .i64 c (A.mul .i64 t la)))); rw [e1]; exact e3) ?_)
  rintro r hr0
  have hr : r = roofS (A.add .i64 (A.mul .i64 (A.add .i64 b (A.add .i64 w t)) (A.add .i64 b (A.add .i64 w t))) (A.mul .i64 g (A.sub .i64 c (A.mul .i64 t la)))) := hr0
  clear hr0
  rw [e1] at hr
  cbv
  refine leaf h (congrArg I ?_) rfl
  subst hA
  rw [← e2, hr]; rfl
def eGrow : List AV → Option ((AV → Prop) → Prop)
  | [x, .lit (.int .i64 b), .lit (.int .i64 w), .lit (.int .i64 t), .lit (.int .i64 c), .fn 76 []] => match asLw x with
    | some y => some fun K => ∃ cov, y.2.2.1 = cov.map cvV ∧ GrB (lwK y cov) b w t c ∧ ∀ r, r = rootS (sqS (lwK y cov) b w t c) - (w + t) → K (I r)
    | none => none
  | [x, .lit (.int .i64 b), .lit (.int .i64 w), .lit (.int .i64 t), .lit (.int .i64 c), .fn 105 []] => match asLw x with
    | some y => some fun K => ∃ cov, y.2.2.1 = cov.map cvV ∧ GrB (lwK y cov) b w t c ∧ ∀ r, r = roofS (sqS (lwK y cov) b w t c) - (w + t) → K (I r)
    | none => none
  | _ => none
theorem eGrow_ok : ∀ args pt, eGrow args = some pt → ∀ (H : AHeap) (Kk : AV → AHeap → Prop), pt (fun r => Kk r H) → ACalls Tryz.prog 104 args H Kk := by
  intro args pt h H Kk hk
  unfold eGrow at h
  split at h
  · split at h
    · rename_i y hy
      cases h
      obtain ⟨cov, h1, h2, h3⟩ := hk
      exact (p104a _ _ _ _ _ h2 H (h3 _ rfl)).wk ⟨asLw_wk hy h1, Wk.rfl, Wk.rfl, Wk.rfl, Wk.rfl, Wk.rfl, trivial⟩
    · cases h
  · split at h
    · rename_i y hy
      cases h
      obtain ⟨cov, h1, h2, h3⟩ := hk
      exact (p104b _ _ _ _ _ h2 H (h3 _ rfl)).wk ⟨asLw_wk hy h1, Wk.rfl, Wk.rfl, Wk.rfl, Wk.rfl, Wk.rfl, trivial⟩
    · cases h
  · cases h
/-! ### What is covered -/
set_option maxHeartbeats 4000000 in
theorem p95 (l : FrL) (hl : FrV l) (x : IceK) (k : Int) (hx : IceB k x) (hk : k ≤ 100000000) (d : DayK) (hd : DayV d) (H : AHeap) {Kk : AV → AHeap → Prop} (h : Kk (icA (covdS l x d)) H) : ACalls Tryz.prog 95 [lwA l, icA x, dyA d] H Kk := by
  obtain ⟨W, hW⟩ : ∃ W, W = covdS l x d := ⟨_, rfl⟩
  rw [← hW] at h
  have b0 := hx.b0
  have b1 := hx.b1
  have w0 := hx.w0
  have w1 := hx.w1
  have t0 := hx.t0
  have t1 := hx.t1
  have s0 := hx.s0
  have s1 := hx.s1
  have hkk := hx.k
  have c4 := hd.f0
  have c5 := hd.f1
  have c6 := hd.f2
  have c7 := hd.w0
  have c8 := hd.w1
  have l1 := hl.s0
  have l2 := hl.s1
  clear hx hd hl
  obtain ⟨⟨xb1, xb2⟩, ⟨xw1, xw2⟩, ⟨xt1, xt2⟩, ⟨xs1, xs2⟩⟩ := x
  obtain ⟨⟨d1, d2⟩, ⟨d3, d4⟩, d5, d6⟩ := d
  obtain ⟨g, la, cov, ⟨m1, m2⟩, so, ⟨v1, v2⟩⟩ := l
  unfold lwA icA dyA at *
  dsimp only at *
  obtain ⟨xs, hxs⟩ : ∃ xs, xs = cov.map cvV := ⟨_, rfl⟩
  have hxn : AV.nidL xs = true := by rw [hxs]; exact nid_cv cov
  rw [← hxs]
  refine (fun q => pureC (by simp [AV.nidL, AV.nid, hxn]) (by rfl) q H h) ?_
  clear h
  intro Kk h
  obtain ⟨A, hA⟩ : ∃ A, A = std := ⟨_, rfl⟩
  have hcl : ∀ x y, A.lt x y = decide (x < y) := by subst hA; intro x y; rfl
  have ha1 : A.add .i64 xs1 d3 = xs1 + d3 := by subst hA; exact iAdd_id (by omega) (by omega)
  have ha2 : A.add .i64 xs2 d4 = xs2 + d4 := by subst hA; exact iAdd_id (by omega) (by omega)
  have hz1 : A.add .i64 0 d3 = 0 + d3 := by subst hA; exact iAdd_id (by omega) (by omega)
  have hz2 : A.add .i64 0 d4 = 0 + d4 := by subst hA; exact iAdd_id (by omega) (by omega)
  have hb1 : A.add .i64 xt1 d5 = xt1 + d5 := by subst hA; exact iAdd_id (by omega) (by omega)
  have hb2 : A.add .i64 xt2 d5 = xt2 + d5 := by subst hA; exact iAdd_id (by omega) (by omega)
  have hq : A.lt 0 d5 = decide (0 < d5) := hcl _ _
  unfold covdS at hW
  dsimp only at hW
  refine go95 rfl (SGo_run hA ⟨[], [2000001], [(101, eDn)], []⟩ (.cons (eDn_ok p101) .nil) .nil 200 fun T TD hT hTD => ?_)
  cbv
  cases d6 <;> cbv
  · simp only [Bool.false_eq_true, if_false] at hW
    (refine And.intro (by subst hA; simp [std, Keep, SubH, ResK, isStB]) ?_; cbv)
    by_cases h5 : 0 < d5
    · rw [if_pos h5] at hW
      have hq := hq.trans (decide_eq_true h5)
      split <;> first | (rename_i hz; exact Bool.noConfusion (hz.symm.trans hq)) | cbv
      refine Exists.intro () (And.intro (by show NB (A.add .i64 xs1 d3) so; rw [ha1]; exact ⟨by omega, by omega, by omega, by omega⟩) ?_)
      intro r1 hr1
      have hr1' : r1 = dnS (A.add .i64 xs1 d3) so := hr1
      rw [ha1] at hr1'
      clear hr1
      cbv
      try (refine And.intro (by subst hA; simp [std, Keep, SubH, ResK, isStB]) ?_; cbv)
      refine Exists.intro () (And.intro (by show NB (A.add .i64 xs2 d4) so; rw [ha2]; exact ⟨by omega, by omega, by omega, by omega⟩) ?_)
      intro r2 hr2
      have hr2' : r2 = dnS (A.add .i64 xs2 d4) so := hr2
      rw [ha2] at hr2'
      clear hr2
      cbv
      repeat (refine And.intro (by subst hA; simp [std, Keep, SubH, ResK, isStB]) ?_; cbv)
      have q1 : A.add .i64 (A.add .i64 xt1 d5) r1 = xt1 + d5 + r1 := by rw [hb1]; subst hA; have := dn_nn (a := xs1 + d3) (p := so) (by omega) (by omega); have := dn_le (a := xs1 + d3) (p := so) (by omega) (by omega); exact iAdd_id (by omega) (by omega)
      have q2 : A.add .i64 (A.add .i64 xt2 d5) r2 = xt2 + d5 + r2 := by rw [hb2]; subst hA; have := dn_nn (a := xs2 + d4) (p := so) (by omega) (by omega); have := dn_le (a := xs2 + d4) (p := so) (by omega) (by omega); exact iAdd_id (by omega) (by omega)
      rw [hW] at h
      rw [← hr1', ← hr2'] at h
      exact leaf h (by simp [aTup, q1, q2]) rfl
    · rw [if_neg h5] at hW
      have hq := hq.trans (decide_eq_false h5)
      split <;> first | (rename_i hz; exact Bool.noConfusion (hz.symm.trans hq)) | cbv
      rw [hW] at h
      exact leaf h (by simp [aTup, ha1, ha2]) rfl
  · simp only [if_true] at hW
    (refine And.intro (by subst hA; simp [std, Keep, SubH, ResK, isStB]) ?_; cbv)
    by_cases h5 : 0 < d5
    · rw [if_pos h5] at hW
      have hq := hq.trans (decide_eq_true h5)
      split <;> first | (rename_i hz; exact Bool.noConfusion (hz.symm.trans hq)) | cbv
      refine Exists.intro () (And.intro (by show NB (A.add .i64 0 d3) so; rw [hz1]; exact ⟨by omega, by omega, by omega, by omega⟩) ?_)
      intro r1 hr1
      have hr1' : r1 = dnS (A.add .i64 0 d3) so := hr1
      rw [hz1] at hr1'
      clear hr1
      cbv
      try (refine And.intro (by subst hA; simp [std, Keep, SubH, ResK, isStB]) ?_; cbv)
      refine Exists.intro () (And.intro (by show NB (A.add .i64 0 d4) so; rw [hz2]; exact ⟨by omega, by omega, by omega, by omega⟩) ?_)
      intro r2 hr2
      have hr2' : r2 = dnS (A.add .i64 0 d4) so := hr2
      rw [hz2] at hr2'
      clear hr2
      cbv
      repeat (refine And.intro (by subst hA; simp [std, Keep, SubH, ResK, isStB]) ?_; cbv)
      have q1 : A.add .i64 (A.add .i64 xt1 d5) r1 = xt1 + d5 + r1 := by rw [hb1]; subst hA; have := dn_nn (a := 0 + d3) (p := so) (by omega) (by omega); have := dn_le (a := 0 + d3) (p := so) (by omega) (by omega); exact iAdd_id (by omega) (by omega)
      have q2 : A.add .i64 (A.add .i64 xt2 d5) r2 = xt2 + d5 + r2 := by rw [hb2]; subst hA; have := dn_nn (a := 0 + d4) (p := so) (by omega) (by omega); have := dn_le (a := 0 + d4) (p := so) (by omega) (by omega); exact iAdd_id (by omega) (by omega)
      rw [hW] at h
      rw [← hr1', ← hr2'] at h
      exact leaf h (by simp [aTup, q1, q2]) rfl
    · rw [if_neg h5] at hW
      have hq := hq.trans (decide_eq_false h5)
      split <;> first | (rename_i hz; exact Bool.noConfusion (hz.symm.trans hq)) | cbv
      rw [hW] at h
      exact leaf h (by simp [aTup, hz1, hz2]) rfl
end Go.Sas
