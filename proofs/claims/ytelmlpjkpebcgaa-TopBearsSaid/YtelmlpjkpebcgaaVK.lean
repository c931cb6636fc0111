/-
TopBears: entries of tables.
TopBears: the law's core.
Conditions: none.
-/
import Derived.Test.YtelmlpjkpebcgaaVJ
import Derived.Test.YtelmlpjkpebcgaaJA
set_option linter.unusedVariables false
set_option linter.unusedSimpArgs false
namespace Go.Sas
open Go.Proofs
set_option maxRecDepth 100000
def FrX (r : AV) : Prop := ∃ (g la : Int) (cov : List (Int × Int × Int)) (m1 m2 so v1 v2 : Int) (xs : List AV), r = .agg [I g, I la, .vs 3 xs, I m1, I m2, I so, I v1, I v2] ∧ xs = cov.map cvV ∧ FrV ⟨g, la, cov, (m1, m2), so, (v1, v2)⟩
def sFrost : List AV → Option ((Unit → Prop) × (AV → Prop))
  | [] => some (fun _ => True, FrX)
  | _ => none
theorem sFrost_ok : ∀ rest pre Q, sFrost rest = some (pre, Q) → pre () → Draws Try.prog 65 rest Q := by
  intro rest pre Q h hp
  unfold sFrost at h
  split at h
  · cases h
    intro w id H hH Kk hk
    refine d65 w id H hH Kk fun w' r hr => hk w' r ?_
    obtain ⟨⟨g, la, cov, ⟨m1, m2⟩, so, ⟨v1, v2⟩⟩, rfl, h1⟩ := hr
    exact ⟨g, la, cov, m1, m2, so, v1, v2, _, rfl, rfl, h1⟩
  · cases h
def IcY (r : AV) : Prop := ∃ (a b c d e f g h : Int), r = .agg [I a, I b, I c, I d, I e, I f, I g, I h] ∧ iceE ⟨(a, b), (c, d), (e, f), (g, h)⟩ = 0
def sIce : List AV → Option ((Unit → Prop) × (AV → Prop))
  | [] => some (fun _ => True, IcY)
  | _ => none
theorem sIce_ok : ∀ rest pre Q, sIce rest = some (pre, Q) → pre () → Draws Try.prog 66 rest Q := by
  intro rest pre Q h hp
  unfold sIce at h
  split at h
  · cases h
    intro w id H hH Kk hk
    refine d66 w id H hH Kk fun w' r hr => hk w' r ?_
    obtain ⟨⟨⟨a, b⟩, ⟨c, d⟩, ⟨e, f⟩, ⟨g, i⟩⟩, rfl, h1⟩ := hr
    exact ⟨a, b, c, d, e, f, g, i, rfl, h1⟩
  · cases h
def sDays : List AV → Option ((Unit → Prop) × (AV → Prop))
  | [.lit (.int .i64 n), .lit (.bool _)] => some (fun _ => 0 ≤ n ∧ n ≤ 100, LsQ 6 dyA fun l => iLen l.length ≤ n ∧ ∀ d ∈ l, DayV d)
  | _ => none
theorem sDays_ok : ∀ rest pre Q, sDays rest = some (pre, Q) → pre () → Draws Try.prog 67 rest Q := by
  intro rest pre Q h hp
  unfold sDays at h
  split at h
  · cases h; exact d67 _ _ hp
  · cases h
def sTrue : List AV → Option ((Unit → Prop) × (AV → Prop))
  | [x] => match asIc x with
    | some y => some (fun _ => IceB 20000 (icK y), fun r => ∃ a b c d, r = .agg [I a, I b, I c, I d] ∧ InIce (icK y) ⟨a, b, c, d⟩)
    | none => none
  | _ => none
theorem sTrue_ok : ∀ rest pre Q, sTrue rest = some (pre, Q) → pre () → Draws Try.prog 70 rest Q := by
  intro rest pre Q h hp
  unfold sTrue at h
  split at h
  · split at h
    · rename_i y hy
      cases h
      intro w id H hH Kk hk
      refine (d70 _ hp w id H hH Kk fun w' r hr => hk w' r ?_).wk ⟨Wk.rfl, asIc_wk hy, trivial⟩
      obtain ⟨⟨a, b, c, d⟩, rfl, h1⟩ := hr
      exact ⟨a, b, c, d, rfl, h1⟩
    · cases h
  · cases h
def sAfter : List AV → Option ((Unit → Prop) × (AV → Prop))
  | [x, y, z] => match asLw x, asTr y, asDy z with
    | some u, some v, some w => some (fun _ => ∃ cov, u.2.2.1 = cov.map cvV ∧ AfOk (lwK u cov) (trK v) (dyK w), fun r => ∀ cov, u.2.2.1 = cov.map cvV → ∃ a b c d, r = .agg [I a, I b, I c, I d] ∧ AftT (lwK u cov) (trK v) (dyK w) ⟨a, b, c, d⟩)
    | _, _, _ => none
  | _ => none
theorem sAfter_ok : ∀ rest pre Q, sAfter rest = some (pre, Q) → pre () → Draws Try.prog 71 rest Q := by
  intro rest pre Q h hp
  unfold sAfter at h
  split at h
  · split at h
    · rename_i u v w h1 h2 h3
      cases h
      obtain ⟨cov, h4, h5⟩ := hp
      intro w' id H hH Kk hk
      refine (d71 _ _ _ h5 w' id H hH Kk fun w' r hr => hk w' r fun cov' h4' => ?_).wk ⟨Wk.rfl, asLw_wk h1 h4, asTr_wk h2, asDy_wk h3, trivial⟩
      rw [← cv_inj (h4.symm.trans h4')]
      obtain ⟨⟨a, b, c, d⟩, rfl, h6⟩ := hr
      exact ⟨a, b, c, d, rfl, h6⟩
    · cases h
  · cases h
def sThick : List AV → Option ((Unit → Prop) × (AV → Prop))
  | [x, y] => match asLw x, asTr y with
    | some u, some v => some (fun _ => ∃ cov, u.2.2.1 = cov.map cvV ∧ TkOk (lwK u cov) (trK v), fun r => ∃ n m, r = I n ∧ n = (trK v).b + m ∧ ∀ cov, u.2.2.1 = cov.map cvV → inS (dnS (trK v).w (lwK u cov).white.1, upS (trK v).w (lwK u cov).white.2) m)
    | _, _ => none
  | _ => none
theorem sThick_ok : ∀ rest pre Q, sThick rest = some (pre, Q) → pre () → Draws Try.prog 76 rest Q := by
  intro rest pre Q h hp
  unfold sThick at h
  split at h
  · split at h
    · rename_i u v h1 h2
      cases h
      obtain ⟨cov, h4, h5⟩ := hp
      intro w' id H hH Kk hk
      refine (d76 _ _ h5 w' id H hH Kk fun w' r hr => hk w' r ?_).wk ⟨Wk.rfl, asLw_wk h1 h4, asTr_wk h2, trivial⟩
      obtain ⟨m, rfl, h6⟩ := hr
      exact ⟨_, m, rfl, rfl, fun cov' h4' => by rw [← cv_inj (h4.symm.trans h4')]; exact h6⟩
    · cases h
  · cases h
structure RunOk (l : FrL) (x : IceK) (ds : List DayK) : Prop where
  v : FrV l
  x : iceE x = 0
  d : ∀ d ∈ ds, DayV d
  n : ds.length ≤ 8
def eRun : List AV → Option ((AV → Prop) → Prop)
  | [x, y, z] => match asLw x, asIc y, asVs 6 z with
    | some u, some v, some xd => some fun K => ∃ cov ds, u.2.2.1 = cov.map cvV ∧ xd = ds.map dyA ∧ RunOk (lwK u cov) (icK v) ds ∧ ∀ ys, ys = (runT (lwK u cov) (icK v) ds ds.length).map icA → K (.tup [.vs 8 ys, I 0])
    | _, _, _ => none
  | _ => none
theorem eRun_ok : ∀ args pt, eRun args = some pt → ∀ (H : AHeap) (Kk : AV → AHeap → Prop), pt (fun r => Kk r H) → ACalls Try.prog 69 args H Kk := by
  intro args pt h H Kk hk
  unfold eRun at h
  split at h
  · split at h
    · rename_i u v xd h1 h2 h3
      cases h
      obtain ⟨cov, ds, h4, h5, h6, h7⟩ := hk
      rw [h5] at h3
      exact (p69 _ h6.v _ h6.x _ h6.d h6.n H (h7 _ rfl)).wk ⟨asLw_wk h1 h4, asIc_wk h2, asVs_wk h3, trivial⟩
    · cases h
  · cases h
def eBrg : List AV → Option ((AV → Prop) → Prop)
  | [x, y] => match asLw x, asIc y with
    | some u, some v => some fun K => ∃ cov, u.2.2.1 = cov.map cvV ∧ FrV (lwK u cov) ∧ iceE (icK v) = 0 ∧ ∀ a b s, (a, b) = thkS (lwK u cov) (icK v) → K (.tup [.agg [I a, I b], I s, I 0])
    | _, _ => none
  | _ => none
theorem eBrg_ok : ∀ args pt, eBrg args = some pt → ∀ (H : AHeap) (Kk : AV → AHeap → Prop), pt (fun r => Kk r H) → ACalls Try.prog 74 args H Kk := by
  intro args pt h H Kk hk
  unfold eBrg at h
  split at h
  · split at h
    · rename_i u v h1 h2
      cases h
      obtain ⟨cov, h4, h5, h6, h7⟩ := hk
      exact (p74 _ _ h5 h6 H (h7 _ _ _ rfl)).wk ⟨asLw_wk h1 h4, asIc_wk h2, trivial⟩
    · cases h
  · cases h
theorem e73_ok : ∀ args pt, eT3 args = some pt → ∀ (H : AHeap) (Kk : AV → AHeap → Prop), pt (fun r => Kk r H) → ACalls Try.prog 73 args H Kk := by
  intro args pt h H Kk hk
  unfold eT3 at h
  split at h
  · cases h; exact p73 H hk
  · cases h
def tbT : PTab := [(25, eHolds), (69, eRun), (72, eIceE), (73, eT3), (74, eBrg), (75, eOneT)]
theorem tbT_ok : PTabOk Try.prog tbT := .cons (eHolds_ok p25) (.cons eRun_ok (.cons (eIceE_ok p72) (.cons e73_ok (.cons eBrg_ok (.cons eOneT_ok .nil)))))
def edT : ETab := (65, eDraw sFrost) :: (66, eDraw sIce) :: (67, eDraw sDays) :: (70, eDraw sTrue) :: (71, eDraw sAfter) :: (76, eDraw sThick) :: edl
theorem edT_ok : ETabOk Try.prog edT := .cons (eDraw_ok sFrost_ok) (.cons (eDraw_ok sIce_ok) (.cons (eDraw_ok sDays_ok) (.cons (eDraw_ok sTrue_ok) (.cons (eDraw_ok sAfter_ok) (.cons (eDraw_ok sThick_ok) edl_ok)))))
end Go.Sas
namespace Go.Sas
open Go.Proofs
set_option maxRecDepth 100000
set_option maxHeartbeats 16000000 in
theorem core15 (nums : List Int) (hn1 : BigL nums) : ACalls Try.prog 15 [.vs 1 (nums.map I)] [] fun r _ => r = B true := by
  obtain ⟨Kk, hKk⟩ : ∃ K : AV → AHeap → Prop, K = fun r _ => r = B true := ⟨_, rfl⟩
  rw [← hKk]
  have hk : ∀ H, Kk (B true) H := fun H => by rw [hKk]
  clear hKk
  obtain ⟨xn, hxn⟩ : ∃ ys, ys = nums.map I := ⟨_, rfl⟩
  rw [← hxn]
  obtain ⟨A, hA⟩ : ∃ A, A = std := ⟨_, rfl⟩
  have hN0 : A.ne 0 0 = false := by subst hA; rfl
  have hsg : ∀ g, A.sg g g := by subst hA; exact fun _ => rfl
  have hll : ∀ x y, A.lt x y = decide (x < y) := by subst hA; intro x y; rfl
  refine go15 rfl (SGo_run hA ⟨[], [0], tbT, edT⟩ tbT_ok edT_ok 200 fun T TD hT hTD => ?_)
  cbv
  refine Exists.intro nums (And.intro ⟨hxn, hn1⟩ ?_)
  intro w1
  cbv
  refine Exists.intro () (And.intro trivial ?_)
  rintro w2 _ ⟨g, la, cov, m1, m2, so, v1, v2, xs, rfl, hxs, hl⟩
  cbv
  refine Exists.intro () (And.intro trivial ?_)
  rintro w3 _ ⟨xb1, xb2, xw1, xw2, xt1, xt2, xs1, xs2, rfl, hx⟩
  cbv
  refine Exists.intro () (And.intro (by omega) ?_)
  rintro w4 _ ⟨fr, rfl⟩
  cbv
  refine Exists.intro () (And.intro (by omega) ?_)
  rintro w5 _ ⟨ds, xd, rfl, hxd, hdn, hdv⟩
  have hN : ds.length ≤ 8 := by unfold iLen at hdn; omega
  obtain ⟨N, hNe⟩ : ∃ N, N = ds.length := ⟨_, rfl⟩
  have hrun : RunOk ⟨g, la, cov, (m1, m2), so, (v1, v2)⟩ ⟨(xb1, xb2), (xw1, xw2), (xt1, xt2), (xs1, xs2)⟩ ds := ⟨hl, hx, hdv, hN⟩
  have hxb := iceE_ok hx
  have hat : ∀ j, j ≤ ds.length → IceB 10000000 (iceAt ⟨g, la, cov, (m1, m2), so, (v1, v2)⟩ ⟨(xb1, xb2), (xw1, xw2), (xt1, xt2), (xs1, xs2)⟩ ds j) := fun j hj => (iceAt_b hl hxb hdv j hj).le (pow8 j (by omega))
  obtain ⟨L, hL⟩ : ∃ L : FrL, L = ⟨g, la, cov, (m1, m2), so, (v1, v2)⟩ := ⟨_, rfl⟩
  obtain ⟨X, hX⟩ : ∃ X : IceK, X = ⟨(xb1, xb2), (xw1, xw2), (xt1, xt2), (xs1, xs2)⟩ := ⟨_, rfl⟩
  rw [← hL, ← hX] at hat
  have hlL : FrV L := by rw [hL]; exact hl
  cbv
  refine Exists.intro cov (Exists.intro ds (And.intro hxs (And.intro hxd (And.intro hrun ?_))))
  intro ys hys
  have hys : ys = (runT L X ds ds.length).map icA := by rw [hL, hX]; exact hys
  have hyl : ys.length = ds.length := by rw [hys, List.length_map, runT_len]
  have hxdl : xd.length = ds.length := by rw [hxd, List.length_map]
  have hne1 : A.ne (A.vlen ys) (A.vlen xd) = false := by subst hA; simp [std, iNe, hyl, hxdl]
  cbv
  split <;> first | (rename_i hz; exact Bool.noConfusion (hz.symm.trans hN0)) | cbv
  split <;> first | (rename_i hz; exact Bool.noConfusion (hz.symm.trans hne1)) | cbv
  refine Exists.intro () (And.intro hxb ?_)
  rintro w6 _ ⟨tb, tw, tt, ts, rfl, htr⟩
  cbv
  rw [hT]
  have hX0 : iceAt L X ds 0 = X := rfl
  have hti : InIce X ⟨tb, tw, tt, ts⟩ := by rw [hX]; exact htr
  refine AGo_upE [2, 3, 4, 5, 6, 7, 9] ds.length (fun j (s : Int × IceT) => InIce (iceAt L X ds j) s.2) (fun _ _ i => [(10, I i)]) (fun j s => [.own 0 [U s.1], .own 0 [I g, I la, .vs 3 xs, I m1, I m2, I so, I v1, I v2], .own 0 (icC (iceAt L X ds j)), .own 0 [I s.2.b, I s.2.w, I s.2.t, I s.2.s]]) (w6, ⟨tb, tw, tt, ts⟩) hti ⟨rfl, trivial⟩ (.inl (by rw [hX0, hX])) fun j s i hi hj hP Bk hB => ?_
  obtain ⟨w7, ⟨qb, qw, qt, qs⟩⟩ := s
  dsimp only at hP hB ⊢
  have hlt : A.lt i (A.vlen xd) = decide (j < ds.length) := by subst hA; exact lt_len (by simp [hxd]) hi
  have hadd : j < ds.length → A.add .i64 i 1 = iLen (j + 1) := fun hj => by subst hA; exact add_one hi hj (by omega)
  have hyb := hat j hj
  obtain ⟨y, hy⟩ : ∃ y, y = iceAt L X ds j := ⟨_, rfl⟩
  rw [← hy] at hP hyb
  rw [← hy]
  have hqs : 0 ≤ qb ∧ 0 ≤ qw ∧ 0 ≤ qt ∧ 0 ≤ qs ∧ qb + qw + qt + qs ≤ 10000000 := by
    have p1 := hP.ib.1; have p2 := hP.ib.2; have p3 := hP.iw.1; have p4 := hP.iw.2; have p5 := hP.it.1; have p6 := hP.it.2; have p7 := hP.is.1; have p8 := hP.is.2
    have q1 := hyb.b0; have q2 := hyb.w0; have q3 := hyb.t0; have q4 := hyb.s0; have q5 := hyb.k
    simp only at p1 p2 p3 p4 p5 p6 p7 p8; omega
  have hyT : j = ds.length → y = iceAt L X ds ds.length := fun h => by rw [hy, h]
  obtain ⟨⟨y1, y2⟩, ⟨y3, y4⟩, ⟨y5, y6⟩, ⟨y7, y8⟩⟩ := y
  dsimp only [icC]
  refine SGo_run hA ⟨[6], [0, 2000003], tbT, edT⟩ tbT_ok edT_ok 200 fun T TD hT hTD => ?_
  cbv
  by_cases hj1 : j < ds.length
  · have hlt := hlt.trans (decide_eq_true hj1)
    split <;> first | (rename_i hz; exact Bool.noConfusion (hz.symm.trans hlt)) | cbv
    obtain ⟨d, hdd⟩ : ∃ x, ds[j]? = some x := ⟨_, List.getElem?_eq_getElem hj1⟩
    have hdv1 := hdv _ (List.mem_of_getElem? hdd)
    have hst := iceAt_step (l := L) (x := X) hdd
    rw [← hy] at hst
    have haf : ∀ r, AftT L ⟨qb, qw, qt, qs⟩ d r → InIce (iceAt L X ds (j + 1)) r := fun r hr => by rw [hst]; exact after_in hlL hyb hdv1 hP hr
    have hyj : ys[j]? = some (icA (iceAt L X ds (j + 1))) := by
      rw [hys, List.getElem?_map]; unfold runT; rw [List.getElem?_map, List.getElem?_range hj1]; rfl
    obtain ⟨z, hz⟩ : ∃ z, z = iceAt L X ds (j + 1) := ⟨_, rfl⟩
    rw [← hz] at haf hyj
    have hB' : ∀ (w' : Int) (t' : IceT) e' H', InIce z t' → Fits e' [(10, I (A.add .i64 i 1))] → Fits e' (keepS [2, 3, 4, 5, 6, 7, 9] [(0, .vs 1 xn), (2, B false), (3, .mp 0 0 0), (4, .mp 1 0 0), (5, .mp 2 0 0), (6, .vs 6 xd), (7, .vs 8 ys), (8, I 0), (48, B false), (9, .mp 3 0 0), (10, I 0)]) → H' = [.own 0 [U w'], .own 0 [I g, I la, .vs 3 xs, I m1, I m2, I so, I v1, I v2], .own 0 (icC z), .own 0 [I t'.b, I t'.w, I t'.t, I t'.s]] → Bk e' H' := fun w' t' e' H' h1 h2 h3 h4 => by
      rw [hadd hj1] at h2
      exact hB (w', t') e' H' hj1 (by rw [← hz]; exact h1) h2 h3 (.inl (by rw [h4, hz]))
    clear hB
    obtain ⟨⟨z1, z2⟩, ⟨z3, z4⟩, ⟨z5, z6⟩, ⟨z7, z8⟩⟩ := z
    obtain ⟨⟨d1, d2⟩, ⟨d3, d4⟩, d5, d6⟩ := d
    have hix1 : A.ix 6 6 xd i [I d1, I d2, I d3, I d4, I d5, B d6] := by subst hA; exact ix_map hxd hi hdd rfl
    have hix2 : A.ix 8 8 ys i [I z1, I z2, I z3, I z4, I z5, I z6, I z7, I z8] := by
      subst hA; subst hi; exact ⟨rfl, Int.natCast_nonneg j, _, by simp only [iLen, Int.toNat_natCast]; exact hyj, rfl⟩
    refine Exists.intro _ (And.intro hix1 ?_); cbv
    refine Exists.intro _ (And.intro hix2 ?_); cbv
    have hpre : AfOk ⟨g, la, cov, (m1, m2), so, (v1, v2)⟩ ⟨qb, qw, qt, qs⟩ ⟨(d1, d2), (d3, d4), d5, d6⟩ := ⟨hl, hdv1, hqs⟩
    refine Exists.intro () (And.intro ⟨cov, hxs, hpre⟩ ?_)
    rintro w8 _ hr
    obtain ⟨ra, rb, rc, rd, rfl, hr2⟩ := hr cov hxs
    have hr3 : AftT L ⟨qb, qw, qt, qs⟩ ⟨(d1, d2), (d3, d4), d5, d6⟩ ⟨ra, rb, rc, rd⟩ := by rw [hL]; exact hr2
    cbv
    repeat (refine And.intro (by subst hA; simp [std, Keep, SubH, ResK, isStB]) ?_; cbv)
    exact hB' w8 ⟨ra, rb, rc, rd⟩ _ _ (haf _ hr3) ⟨rfl, trivial⟩ ⟨rfl, rfl, rfl, rfl, rfl, rfl, rfl, trivial⟩ rfl
  · have hlt := hlt.trans (decide_eq_false hj1)
    split <;> first | (rename_i hz; exact Bool.noConfusion (hz.symm.trans hlt)) | cbv
    have hjN : j = ds.length := by omega
    intro r hr
    have hr : r = iceE ⟨(y1, y2), (y3, y4), (y5, y6), (y7, y8)⟩ := hr
    clear hB hlt hadd
    cbv
    have hne : A.ne r 0 = decide (r ≠ 0) := by subst hA; simp only [std, iNe]; rw [Bool.eq_iff_iff]; simp
    by_cases hr0 : r = 0
    · have hne := hne.trans (decide_eq_false (by simpa using hr0))
      split <;> first | (rename_i hz; exact Bool.noConfusion (hz.symm.trans hne)) | cbv
      have hiz : iceE ⟨(y1, y2), (y3, y4), (y5, y6), (y7, y8)⟩ = 0 := by rw [← hr]; exact hr0
      refine Exists.intro cov (And.intro hxs (And.intro hl (And.intro hiz ?_)))
      intro th1 th2 sd hth
      have hth : (th1, th2) = thkS L ⟨(y1, y2), (y3, y4), (y5, y6), (y7, y8)⟩ := by rw [hL]; exact hth
      cbv
      split <;> first | (rename_i hz; exact Bool.noConfusion (hz.symm.trans hN0)) | cbv
      have h5k : A.lt 5000 th2 = decide (5000 < th2) := hll _ _
      by_cases h5 : 5000 < th2
      · have h5k := h5k.trans (decide_eq_true h5)
        split <;> first | (rename_i hz; exact Bool.noConfusion (hz.symm.trans h5k)) | cbv
        exact hk _
      have h5k := h5k.trans (decide_eq_false h5)
      split <;> first | (rename_i hz; exact Bool.noConfusion (hz.symm.trans h5k)) | cbv
      refine Exists.intro () (And.intro trivial ?_)
      rintro w8 _ ⟨p, pa, pb, pxs, pec, ne, ed, gr, lo, hi', sh, wi, rfl, hp, hpc⟩
      cbv
      refine Exists.intro () (And.intro (by omega) ?_)
      rintro w9 _ ⟨l, xl, rfl, hxl, hln, hlv⟩
      have hlnN : l.length ≤ 4 := by unfold iLen at hln; omega
      have hlv1 : ∀ x ∈ l, LoadV (([(th1, th2)] : List (Int × Int)).length : Nat) x := hlv
      have hthb : 0 ≤ th1 ∧ th1 ≤ th2 ∧ th2 ≤ 5000 := by
        have hv := hP.ib
        have hw0 := hlL.w0
        have hw1 := hlL.w1
        have hy0 := hyb.w0
        have hy1 := hyb.w1
        have hy2 := hyb.b0
        have hy3 := hyb.b1
        have e1 := congrArg Prod.fst hth
        have e2 := congrArg Prod.snd hth
        simp only [thkS] at e1 e2 hw0 hw1 hy0 hy1 hy2 hy3
        have e3 := dn_nn hy0 hw0
        have e4 := Int.le_trans (dn_le_up y3 L.white.1) (up_mono hy0 hy1 hw0 hw1)
        omega
      have hM : MadeW p [(th1, th2)] l := ⟨hpc, rfl, by simp; omega, by omega, hlv1⟩
      have hMH := hM.holds
      have hV := hM.road
      have hst : -1000000000 ≤ pa ∧ pa ≤ pb ∧ pb ≤ 1000000000 := by
        have h1 := hV.p.s1; have h2 := hV.p.s2; have h3 := hV.p.s3; rw [hp.str] at h1 h2 h3; simp only at h1 h2 h3; omega
      have hb1 : Big p.shares := by have := hV.p.sh.len; unfold Big; omega
      have hb2 : Big p.creep := by have := hV.p.cr.len; unfold Big; omega
      have hb5 : BigL l := by unfold BigL; omega
      have hwb : ∀ x ∈ l, -1000000000 ≤ x.w.1 ∧ x.w.1 ≤ x.w.2 ∧ x.w.2 ≤ 1000000000 := fun x hx => by have := (hlv x hx).w1; have := (hlv x hx).w2; have := (hlv x hx).w3; omega
      have hxe : cellsL xl = some (l.flatMap ldC) := by rw [hxl]; exact (Elems_ldC l).1
      have hxll : xl.length = l.length := by rw [hxl]; simp
      obtain ⟨cs0, hcs0⟩ : ∃ cs, cs = l.flatMap ldC := ⟨_, rfl⟩
      obtain ⟨M, hMe⟩ : ∃ M, M = l.length := ⟨_, rfl⟩
      have happ : A.app 4 4 32 [] 0 0 xl cs0 M := by
        subst hA
        have := app_all (sz := 4) (by_ := 32) (n := 0) (cs := []) rfl hxe (by omega)
        rw [hxll, ← hMe, ← hcs0] at this
        have h2 : appS 4 4 32 [] 0 0 xl cs0 M := by simpa using this
        exact h2
      cbv
      refine Exists.intro cs0 (Exists.intro M (And.intro happ (And.intro rfl ?_)))
      cbv
      rw [hT]
      clear hM
      have hwM : ∀ x ∈ l, x.w.1 ≤ x.w.2 := fun x hx => (hlv x hx).w2
      refine AGo_upE [2, 3, 4, 9, 11, 14, 15, 16] M (fun j (s : Int × List Load) => NarL s.2 (l.take j) ∧ ∀ x ∈ s.2, x.w.1 = x.w.2) (fun _ _ i => [(17, I i)])
        (fun j s => [.own 0 [U s.1], .own 0 [I g, I la, .vs 3 xs, I m1, I m2, I so, I v1, I v2], .own 0 [I y1, I y2, I y3, I y4, I y5, I y6, I y7, I y8], .own 0 [I qb, I qw, I qt, I qs], .own 0 [I th1, I th2], .own 0 [I pa, I pb, .vs 2 pxs, .vs 2 pec, I ne, I ed, I gr, I lo, I hi', I sh, I wi], .own 0 (s.2.flatMap ldC ++ (l.drop j).flatMap ldC)]) (w9, []) ⟨trivial, by simp⟩ ⟨rfl, trivial⟩ (.inl (by rw [hcs0]; rfl)) ?_
      rintro j2 ⟨w10, s⟩ i2 hij hj2 hP2 Bk2 hB2
      dsimp only at hP2 hB2 ⊢
      obtain ⟨hPn, hPe⟩ := hP2
      have hsl : s.length = j2 := by rw [hPn.len]; simp; omega
      have hlt : A.lt i2 (A.len M) = decide (j2 < M) := by subst hA; simp [std, iLt, hij, iLen]
      have hadd : j2 < M → A.add .i64 i2 1 = iLen (j2 + 1) := fun hj => by subst hA; exact add_one hij hj (by omega)
      obtain ⟨cs, hcs⟩ : ∃ cs, cs = s.flatMap ldC ++ (l.drop j2).flatMap ldC := ⟨_, rfl⟩
      rw [← hcs]
      refine SGo_run hA ⟨[6], [0], (75, eOneT) :: [], edT⟩ (.cons eOneT_ok .nil) edT_ok 200 fun T TD hT hTD => ?_
      cbv
      refine And.intro (hsg _) ?_
      by_cases hk1 : j2 < M
      · have hlt := hlt.trans (decide_eq_true hk1)
        split <;> first | (rename_i hz; exact Bool.noConfusion (hz.symm.trans hlt)) | cbv
        obtain ⟨x0, hx0e⟩ : ∃ x, l[j2]? = some x := ⟨_, List.getElem?_eq_getElem (by omega)⟩
        have hx0 := hwb x0 (List.mem_of_getElem? hx0e)
        have hdrop : l.drop j2 = x0 :: l.drop (j2 + 1) := by rw [List.drop_eq_getElem?_toList_append, hx0e]; rfl
        obtain ⟨o, ho⟩ : ∃ o, o = j2 * 4 := ⟨_, rfl⟩
        obtain ⟨o1, ho1⟩ : ∃ o1, o1 = o + 1 := ⟨_, rfl⟩
        have hpl : (s.flatMap ldC).length = o := by rw [len_flat (k := 4) (fun _ => rfl) s, hsl, ho]
        obtain ⟨Fc, hFc⟩ : ∃ Fc : Int → Int → List AV, Fc = fun u v => s.flatMap ldC ++ (I x0.at_ :: I u :: I v :: I x0.st :: (l.drop (j2 + 1)).flatMap ldC) := ⟨_, rfl⟩
        have hcs1 : cs = s.flatMap ldC ++ (I x0.at_ :: I x0.w.1 :: I x0.w.2 :: I x0.st :: (l.drop (j2 + 1)).flatMap ldC) := by rw [hcs, hdrop]; rfl
        have hixm : A.ixm 4 4 0 M i2 o := by
          subst hA
          exact ⟨rfl, by rw [hij]; unfold iLen; omega, by rw [hij]; unfold iLen; omega, by rw [hij, ho]; unfold iLen; simp⟩
        have hoff : A.off o 1 o1 := by subst hA; exact ho1
        have hget : A.get (some 2) cs o1 (.agg [I x0.w.1, I x0.w.2]) := by subst hA; rw [hcs1]; exact get_mid hpl ho1
        have hupd : ∀ u v, A.upd 2 cs o1 [I u, I v] (Fc u v) := fun u v => by subst hA; rw [hcs1, hFc]; exact upd_mid hpl ho1
        have hfin : ∀ u v, Fc u v = (s ++ [Load.mk x0.at_ (u, v) x0.st]).flatMap ldC ++ (l.drop (j2 + 1)).flatMap ldC := fun u v => by rw [hFc]; simp
        have hnar : ∀ u, x0.w.1 ≤ u → u ≤ x0.w.2 → NarL (s ++ [Load.mk x0.at_ (u, u) x0.st]) (l.take (j2 + 1)) := fun u h1 h3 => by
          rw [List.take_add_one, hx0e]; exact NarL.app hPn ⟨rfl, rfl, h1, Int.le_refl _, h3⟩
        have hnare : ∀ u, ∀ x ∈ s ++ [Load.mk x0.at_ (u, u) x0.st], x.w.1 = x.w.2 := fun u x hx => by
          rcases List.mem_append.1 hx with hx | hx
          · exact hPe x hx
          · simp at hx; subst hx; rfl
        refine And.intro (hsg _) (Exists.intro o (And.intro hixm ?_)); cbv
        refine And.intro (hsg _) (Exists.intro o1 (And.intro hoff ?_)); cbv
        refine And.intro (hsg _) (Exists.intro _ (And.intro hget ?_)); cbv
        refine Exists.intro () (And.intro hx0 ?_)
        rintro w11 _ ⟨u, rfl, hu1, hu2⟩
        cbv
        refine And.intro (hsg _) (Exists.intro o (And.intro hixm ?_)); cbv
        refine And.intro (hsg _) (Exists.intro o1 (And.intro hoff ?_)); cbv
        refine And.intro (hsg _) (Exists.intro _ (And.intro (hupd u u) ?_)); cbv
        exact hB2 (w11, s ++ [Load.mk x0.at_ (u, u) x0.st]) _ _ hk1 ⟨hnar _ hu1 hu2, hnare u⟩ ⟨congrArg I (hadd hk1), trivial⟩ ⟨rfl, rfl, rfl, rfl, rfl, rfl, rfl, rfl, trivial⟩ (.inl (by rw [hfin]))
      · have hlt := hlt.trans (decide_eq_false hk1)
        split <;> first | (rename_i hz; exact Bool.noConfusion (hz.symm.trans hlt)) | cbv
        have hj22 : j2 = l.length := by omega
        have hcs2 : cs = s.flatMap ldC := by rw [hcs, List.drop_of_length_le (by omega)]; simp
        rw [List.take_of_length_le (by omega)] at hPn
        clear hB2 hlt hadd
        rw [hT]
        obtain ⟨zs2, hzs2⟩ : ∃ ys, ys = s.map ldV := ⟨_, rfl⟩
        have hlen2 : cs.length = M * 4 := by rw [hcs2, len_flat (k := 4) (fun _ => rfl) s]; omega
        refine AGo_freeze 16 (id := 6) (g := 0) (sz := 4) (off := 0) (len := M) (xs := zs2) (cs := cs) ?_ ?_ (by rw [cellsL_eq, hzs2, (Elems_ldC s).1, List.drop_zero, List.take_of_length_le (by omega), hcs2]) (by omega) (by rw [hzs2]; simp; omega) (by rw [hzs2]; exact (Elems_ldC s).2) ?_
        · rfl
        · rfl
        have hM : MadeW p [(th1, th2)] l := ⟨hpc, rfl, by simp; omega, by omega, hlv1⟩
        have hsb : BigL s := by unfold BigL; omega
        have hsln : s.length = l.length := hPn.len
        have hbi : BigL [(th1, th2)] := by unfold BigL; simp
        have hbn : BigL ([] : List (Int × Int)) := by unfold BigL; simp
        refine SGo_run hA ⟨[], [0], tbT, edT⟩ tbT_ok edT_ok 200 fun T TD hT hTD => ?_
        cbv
        refine Exists.intro p (Exists.intro [(th1, th2)] (Exists.intro [] (Exists.intro l (And.intro hp (And.intro hb1 (And.intro hb2 (And.intro ⟨rfl, hbi⟩ (And.intro ⟨rfl, hbn⟩ (And.intro ⟨hxl, hb5⟩ ?_)))))))))
        rintro r1 e1 zs hre hzs
        rw [hMH] at hre
        obtain ⟨rfl, rfl⟩ := Prod.mk.inj hre
        cbv
        refine Exists.intro () (And.intro hst ?_)
        rintro w12 _ ⟨pn, rfl, hpn1, hpn2⟩
        cbv
        have hqw : 0 ≤ qb ∧ 0 ≤ qw ∧ qb + qw ≤ 100000000 := by omega
        refine Exists.intro () (And.intro ⟨cov, hxs, ⟨hl, hqw⟩⟩ ?_)
        rintro w13 _ ⟨tn, tm, rfl, htn, htm⟩
        have htm := htm cov hxs
        have htm : inS (dnS qw L.white.1, upS qw L.white.2) tm := by rw [hL]; exact htm
        have htn : tn = qb + tm := htn
        have hin := thk_in hlL hyb hP htm
        rw [← hth] at hin
        have hin1 : th1 ≤ tn := by rw [htn]; exact hin.1
        have hin2 : tn ≤ th2 := by rw [htn]; exact hin.2
        obtain ⟨p2, hpp⟩ : ∃ p2 : Plate, p2 = { p with str := (pn, pn) } := ⟨_, rfl⟩
        have hp2 : PlateIs p2 pn pn pxs pec ne ed gr lo hi' sh wi := by rw [hpp]; exact ⟨hp.hs, hp.hc, rfl, hp.ne, hp.ed, hp.gr, hp.lo, hp.hi, hp.sh, hp.wi⟩
        have hp2s : p2.str = (pn, pn) := by rw [hpp]
        have hab : p.str.1 ≤ p2.str.1 ∧ p2.str.1 ≤ p2.str.2 ∧ p2.str.2 ≤ p.str.2 := by rw [hp2s, hp.str]; exact ⟨hpn1, Int.le_refl _, hpn2⟩
        have hn2 : NarV p p2 [(th1, th2)] [] [(tn, tn)] [] l s := ⟨hab, by rw [hpp], ⟨⟨hin1, Int.le_refl _, hin2⟩, trivial⟩, trivial, hPn⟩
        have hH2 := hn2.holdsW hM
        have hb21 : Big p2.shares := by rw [hpp]; exact hb1
        have hb22 : Big p2.creep := by rw [hpp]; exact hb2
        have hbi2 : BigL [(tn, tn)] := by unfold BigL; simp
        have hvz : A.ne (A.vlen zs) (A.vlen xl) = false := by subst hA; simp [std, iNe, hzs, hxl]
        have hve : ∀ x y, x ∈ l → y ∈ s → y.at_ = x.at_ → y.st = x.st → veS p [(th1, th2)] [] l x ≠ 3 → veS p [(th1, th2)] [] l x = veS p2 [(tn, tn)] [] s y := fun x y h1 h2 h3 h4 => hn2.veW hM h1 h2 h3 h4
        have hex : ∀ y, veS p2 [(tn, tn)] [] s y ≠ 3 := fun y => exact_ve hp2s hPe y
        cbv
        repeat (refine And.intro (by subst hA; simp [std, Keep, SubH, ResK, isStB]) ?_; cbv)
        refine Exists.intro p2 (Exists.intro [(tn, tn)] (Exists.intro [] (Exists.intro s (And.intro hp2 (And.intro hb21 (And.intro hb22 (And.intro ⟨rfl, hbi2⟩ (And.intro ⟨rfl, hbn⟩ (And.intro ⟨hzs2, hsb⟩ ?_)))))))))
        rintro r2 e2 zs3 hre2 hzs3
        rw [hH2] at hre2
        obtain ⟨rfl, rfl⟩ := Prod.mk.inj hre2
        have hvz2 : A.ne (A.vlen zs3) (A.vlen xl) = false := by subst hA; simp [std, iNe, hzs3, hxl, hsln]
        cbv
        repeat (refine And.intro (by subst hA; simp [std, Keep, SubH, ResK, isStB]) ?_; cbv)
        split <;> first | (rename_i hz; exact Bool.noConfusion (hz.symm.trans hN0)) | cbv
        split <;> first | (rename_i hz; exact Bool.noConfusion (hz.symm.trans hN0)) | cbv
        split <;> first | (rename_i hz; exact Bool.noConfusion (hz.symm.trans hvz)) | cbv
        split <;> first | (rename_i hz; exact Bool.noConfusion (hz.symm.trans hvz2)) | cbv
        clear hM hn2 hH2 hMH hV hre hre2
        rw [hT]
        refine AGo_upE [2, 18, 20] l.length (fun _ (_ : Unit) => True) (fun _ _ i => [(22, I i)]) (fun _ _ => [.own 0 [U w13], .own 0 [I g, I la, .vs 3 xs, I m1, I m2, I so, I v1, I v2], .own 0 [I y1, I y2, I y3, I y4, I y5, I y6, I y7, I y8], .own 0 [I qb, I qw, I qt, I qs], .own 0 [I th1, I th2], .own 0 [I pn, I pn, .vs 2 pxs, .vs 2 pec, I ne, I ed, I gr, I lo, I hi', I sh, I wi], .gone]) () trivial ⟨rfl, trivial⟩ (.inl rfl) fun q _ i3 hiq hq _ Bk3 hB3 => ?_
        have hlt : A.lt i3 (A.vlen zs) = decide (q < l.length) := by subst hA; exact lt_len (by simp [hzs]) hiq
        have hadd : q < l.length → A.add .i64 i3 1 = iLen (q + 1) := fun hj => by subst hA; exact add_one hiq hj (by omega)
        have hnn : ∀ x y, A.ne x y = decide (x ≠ y) := by subst hA; intro x y; simp only [std, iNe]; rw [Bool.eq_iff_iff]; simp
        have hee : ∀ x y, A.eq x y = decide (x = y) := by subst hA; intro x y; show (x == y) = _; rw [Bool.eq_iff_iff]; simp
        refine SGo_run hA ⟨[], [], tbT, edT⟩ tbT_ok edT_ok 200 fun T TD hT hTD => ?_
        cbv
        by_cases hq1 : q < l.length
        · have hlt := hlt.trans (decide_eq_true hq1)
          split <;> first | (rename_i hz; exact Bool.noConfusion (hz.symm.trans hlt)) | cbv
          obtain ⟨x0, hx0e⟩ : ∃ x, l[q]? = some x := ⟨_, List.getElem?_eq_getElem hq1⟩
          obtain ⟨y0, hy0e, hy1e, hy2e, _⟩ := hPn.get hx0e
          have hve1 := hve x0 y0 (List.mem_of_getElem? hx0e) (List.mem_of_getElem? hy0e) hy1e hy2e
          have hex1 := hex y0
          obtain ⟨vx, hvx⟩ : ∃ v, v = veS p [(th1, th2)] [] l x0 := ⟨_, rfl⟩
          obtain ⟨vy, hvy⟩ : ∃ v, v = veS p2 [(tn, tn)] [] s y0 := ⟨_, rfl⟩
          rw [← hvx, ← hvy] at hve1
          rw [← hvy] at hex1
          have hix1 : A.ix 1 1 zs i3 [I vx] := by subst hA; exact ix_map hzs hiq (by rw [List.getElem?_map, hx0e]; rfl) (by rw [hvx]; rfl)
          have hix2 : A.ix 1 1 zs3 i3 [I vy] := by subst hA; exact ix_map hzs3 hiq (by rw [List.getElem?_map, hy0e]; rfl) (by rw [hvy]; rfl)
          have hey : A.eq vy 3 = false := by rw [hee]; exact decide_eq_false hex1
          refine Exists.intro _ (And.intro hix1 ?_); cbv
          by_cases h3 : vx = 3
          · have hn3 : A.ne vx 3 = false := by rw [hnn]; exact decide_eq_false (by simpa using h3)
            split <;> first | (rename_i hz; exact Bool.noConfusion (hz.symm.trans hn3)) | cbv
            refine Exists.intro _ (And.intro hix2 ?_); cbv
            split <;> first | (rename_i hz; exact Bool.noConfusion (hz.symm.trans hey)) | cbv
            exact hB3 () _ _ hq1 trivial ⟨congrArg I (hadd hq1), trivial⟩ ⟨rfl, rfl, rfl, trivial⟩ (.inl rfl)
          · have hn3 : A.ne vx 3 = true := by rw [hnn]; exact decide_eq_true h3
            have hnxy : A.ne vx vy = false := by rw [hnn]; exact decide_eq_false (by simpa using hve1 h3)
            split <;> first | (rename_i hz; exact Bool.noConfusion (hz.symm.trans hn3)) | cbv
            refine Exists.intro _ (And.intro hix1 ?_); cbv
            refine Exists.intro _ (And.intro hix2 ?_); cbv
            split <;> first | (rename_i hz; exact Bool.noConfusion (hz.symm.trans hnxy)) | cbv
            refine Exists.intro _ (And.intro hix2 ?_); cbv
            split <;> first | (rename_i hz; exact Bool.noConfusion (hz.symm.trans hey)) | cbv
            exact hB3 () _ _ hq1 trivial ⟨congrArg I (hadd hq1), trivial⟩ ⟨rfl, rfl, rfl, trivial⟩ (.inl rfl)
        · have hlt := hlt.trans (decide_eq_false hq1)
          split <;> first | (rename_i hz; exact Bool.noConfusion (hz.symm.trans hlt)) | cbv
          exact hk _
    · have hne := hne.trans (decide_eq_true hr0)
      split <;> first | (rename_i hz; exact Bool.noConfusion (hz.symm.trans hne)) | cbv
      exact hk _
end Go.Sas
