/-
Frost: checks as a whole; bearing thickness: contracts.
Frost: ice after each of some days: contract.
Frost: bearing thickness; days of the reference: contracts.
The examples of chapters 1 and 3 hold: contracts.
Conditions: none.
-/
import Derived.Test.YtndnjmpebpampaaGreatDoorVF
import Derived.Test.YtndnjmpebpampaaGreatDoorP6
import Derived.Test.YtndnjmpebpampaaGreatDoorJ5
set_option linter.unusedVariables false
set_option linter.unusedSimpArgs false
namespace Go.Sas
open Go.Proofs
set_option maxRecDepth 100000
theorem nid_dyA : ∀ l : List DayK, AV.nidL (l.map dyA) = true
  | [] => rfl
  | x :: l => by simp only [List.map_cons, AV.nidL, nid_dyA l, dyA]; rfl
set_option maxHeartbeats 4000000 in
theorem p94 (ds : List DayK) (hd : ∀ d ∈ ds, DayV d) (hlen : ds.length ≤ 400) (H : AHeap) {Kk : AV → AHeap → Prop} (h : Kk (I 0) H) : ACalls Tryz.prog 94 [.vs 6 (ds.map dyA)] H Kk := by
  obtain ⟨xs, hxs⟩ : ∃ xs, xs = ds.map dyA := ⟨_, rfl⟩
  have hxn : AV.nidL xs = true := by rw [hxs]; exact nid_dyA ds
  have hxl : ∀ n, AV.ltL n xs := fun n => AV.ltL_nid hxn
  rw [← hxs]
  refine (fun q => pureC (by simp [AV.nidL, AV.nid, hxn]) (by rfl) q H h) ?_
  clear h
  intro Kk h
  obtain ⟨A, hA⟩ : ∃ A, A = std := ⟨_, rfl⟩
  have hll : ∀ x y, A.lt x y = decide (x < y) := by subst hA; intro x y; rfl
  have hv : A.vlen xs = iLen ds.length := by subst hA; simp [std, hxs]
  have k2 : A.lt 400 (A.vlen xs) = false := by rw [hv, hll, decide_eq_false_iff_not]; unfold iLen; omega
  have hN0 : A.ne 0 0 = false := by subst hA; rfl
  refine go94 rfl (SGo_run hA ⟨[], [], [(100, eFlt)], []⟩ (.cons (eFlt_ok p100) .nil) .nil 200 fun T TD hT hTD => ?_)
  cbv
  split <;> first | (rename_i hz; exact Bool.noConfusion (hz.symm.trans k2)) | cbv
  rw [hT]
  refine AGo_up ds.length (fun _ => True) (fun _ i => [(0, .vs 6 xs), (2, I 0), (10, .vs 6 xs), (11, I (A.vlen xs)), (12, I i)]) (fun _ => []) trivial ⟨rfl, rfl, rfl, rfl, rfl, trivial⟩ (.inl rfl) fun j i hi hj _ Bk hB => ?_
  have hlt : A.lt i (A.vlen xs) = decide (j < ds.length) := by subst hA; exact lt_len (by simp [hxs]) hi
  have hadd : ∀ N, j < N → N ≤ 9223372036854775807 → A.add .i64 i 1 = iLen (j + 1) := fun N hj hN => by subst hA; exact add_one hi hj hN
  refine SGo_run hA ⟨[], [], [(100, eFlt)], []⟩ (.cons (eFlt_ok p100) .nil) .nil 200 fun T TD hT hTD => ?_
  cbv
  split <;> cbv
  · rename_i hk1
    have hk1 : j < ds.length := by have := hlt.symm.trans hk1; simpa using this
    obtain ⟨d, hx⟩ : ∃ x, ds[j]? = some x := ⟨_, List.getElem?_eq_getElem hk1⟩
    have hdv := hd _ (List.mem_of_getElem? hx)
    obtain ⟨⟨c1, c2⟩, ⟨f1, f2⟩, wa, cl⟩ := d
    have hix : A.ix 6 6 xs i [I c1, I c2, I f1, I f2, I wa, B cl] := by subst hA; exact ix_map hxs hi hx rfl
    have a1 := hdv.c0
    have a2 := hdv.c1
    have a3 := hdv.c2
    have a4 := hdv.f0
    have a5 := hdv.f1
    have a6 := hdv.f2
    have a7 := hdv.w0
    have a8 := hdv.w1
    dsimp only at a1 a2 a3 a4 a5 a6 a7 a8
    have q1 : A.lt wa 0 = false := by rw [hll]; exact decide_eq_false (by omega)
    have q2 : A.lt 200 wa = false := by rw [hll]; exact decide_eq_false (by omega)
    have q3 : faultS c1 c2 (-1000) 1000 = 0 := by unfold faultS; rw [if_neg (by omega), if_neg (by omega)]
    have q4 : faultS f1 f2 0 1000 = 0 := by unfold faultS; rw [if_neg (by omega), if_neg (by omega)]
    refine Exists.intro _ (And.intro hix ?_); cbv
    intro r hr
    have hr : r = 0 := hr.trans q3
    subst hr
    cbv
    split <;> first | (rename_i hz; exact Bool.noConfusion (hz.symm.trans hN0)) | cbv
    intro r2 hr2
    have hr2 : r2 = 0 := hr2.trans q4
    subst hr2
    cbv
    split <;> first | (rename_i hz; exact Bool.noConfusion (hz.symm.trans hN0)) | cbv
    split <;> first | (rename_i hz; exact Bool.noConfusion (hz.symm.trans q1)) | cbv
    split <;> first | (rename_i hz; exact Bool.noConfusion (hz.symm.trans q2)) | cbv
    exact hB _ _ hk1 trivial ⟨rfl, rfl, rfl, rfl, congrArg I (hadd _ hk1 (by omega)), trivial⟩ (.inr ⟨⟨_, rfl⟩, by simp, by simp [ltG, AV.lt, AV.ltL, hxl], by simp [ltH]⟩)
  · exact leaf h rfl rfl
def eIceE : List AV → Option ((AV → Prop) → Prop)
  | [x] => match asIc x with
    | some y => some fun K => ∀ r, r = iceE (icK y) → K (I r)
    | none => none
  | _ => none
theorem eIceE_ok {f : Nat} (hf : ∀ (x : IceK) (H : AHeap) {Kk : AV → AHeap → Prop}, Kk (I (iceE x)) H → ACalls Tryz.prog f [icA x] H Kk) : ∀ args pt, eIceE args = some pt → ∀ (H : AHeap) (Kk : AV → AHeap → Prop), pt (fun r => Kk r H) → ACalls Tryz.prog f args H Kk := by
  intro args pt h H Kk hk
  unfold eIceE at h
  split at h
  · split at h
    · rename_i y hy
      cases h
      exact (hf _ H (hk _ rfl)).wk ⟨asIc_wk hy, trivial⟩
    · cases h
  · cases h
def eChkL : List AV → Option ((AV → Prop) → Prop)
  | [x] => match asLw x with
    | some y => some fun K => ∃ cov, y.2.2.1 = cov.map cvV ∧ FrV (lwK y cov) ∧ K (I 0)
    | none => none
  | _ => none
theorem eChkL_ok : ∀ args pt, eChkL args = some pt → ∀ (H : AHeap) (Kk : AV → AHeap → Prop), pt (fun r => Kk r H) → ACalls Tryz.prog 92 args H Kk := by
  intro args pt h H Kk hk
  unfold eChkL at h
  split at h
  · split at h
    · rename_i y hy
      cases h
      obtain ⟨cov, h1, h2, h3⟩ := hk
      exact (p92 _ h2 H h3).wk ⟨asLw_wk hy h1, trivial⟩
    · cases h
  · cases h
structure DsOk (ds : List DayK) : Prop where
  v : ∀ d ∈ ds, DayV d
  n : ds.length ≤ 400
def eChkD : List AV → Option ((AV → Prop) → Prop)
  | [x] => match asVs 6 x with
    | some xs => some fun K => ∃ ds : List DayK, xs = ds.map dyA ∧ DsOk ds ∧ K (I 0)
    | none => none
  | _ => none
theorem eChkD_ok : ∀ args pt, eChkD args = some pt → ∀ (H : AHeap) (Kk : AV → AHeap → Prop), pt (fun r => Kk r H) → ACalls Tryz.prog 94 args H Kk := by
  intro args pt h H Kk hk
  unfold eChkD at h
  split at h
  · split at h
    · rename_i xs h1
      cases h
      obtain ⟨ds, h2, h3, h4⟩ := hk
      rw [h2] at h1
      exact (p94 _ h3.v h3.n H h4).wk ⟨asVs_wk h1, trivial⟩
    · cases h
  · cases h
theorem p83 (l : FrL) (hl : FrV l) (x : IceK) (ds : List DayK) (hd : DsOk ds) (H : AHeap) {Kk : AV → AHeap → Prop} (h : Kk (I (iceE x)) H) : ACalls Tryz.prog 83 [lwA l, icA x, .vs 6 (ds.map dyA)] H Kk := by
  obtain ⟨W, hW⟩ : ∃ W, W = iceE x := ⟨_, rfl⟩
  rw [← hW] at h
  obtain ⟨X, hX⟩ : ∃ X : IceK, X = x := ⟨_, rfl⟩
  rw [← hX] at hW
  obtain ⟨⟨xb1, xb2⟩, ⟨xw1, xw2⟩, ⟨xt1, xt2⟩, ⟨xs1, xs2⟩⟩ := x
  obtain ⟨g, la, cov, ⟨m1, m2⟩, so, ⟨v1, v2⟩⟩ := l
  unfold lwA icA at *
  dsimp only at *
  obtain ⟨xs, hxs⟩ : ∃ xs, xs = cov.map cvV := ⟨_, rfl⟩
  have hxn : AV.nidL xs = true := by rw [hxs]; exact nid_cv cov
  obtain ⟨xd, hxd⟩ : ∃ xs, xs = ds.map dyA := ⟨_, rfl⟩
  have hxn2 : AV.nidL xd = true := by rw [hxd]; exact nid_dyA ds
  rw [← hxs, ← hxd]
  refine (fun q => pureC (by simp [AV.nidL, AV.nid, hxn, hxn2]) (by rfl) q H h) ?_
  clear h
  intro Kk h
  obtain ⟨A, hA⟩ : ∃ A, A = std := ⟨_, rfl⟩
  have hN0 : A.ne 0 0 = false := by subst hA; rfl
  refine go83 rfl (SGo_run hA ⟨[], [], [(92, eChkL), (93, eIceE), (94, eChkD)], []⟩ (.cons eChkL_ok (.cons (eIceE_ok p93) (.cons eChkD_ok .nil))) .nil 200 fun T TD hT hTD => ?_)
  cbv
  refine Exists.intro cov (And.intro hxs (And.intro hl ?_))
  cbv
  split <;> first | (rename_i hz; exact Bool.noConfusion (hz.symm.trans hN0)) | cbv
  intro r hr
  have hr : r = W := by rw [hW, hX]; exact hr
  cbv
  split <;> cbv
  · exact leaf h (congrArg I hr.symm) rfl
  · rename_i hq
    have hq : r = 0 := by have hq : A.ne r 0 = false := hq; subst hA; simpa [std, iNe] using hq
    refine Exists.intro ds (And.intro hxd (And.intro hd ?_))
    cbv
    exact leaf h (congrArg I (hr.symm.trans hq)) rfl
def eChkA : List AV → Option ((AV → Prop) → Prop)
  | [x, y, z] => match asLw x, asIc y, asVs 6 z with
    | some u, some v, some xd => some fun K => ∃ cov ds, u.2.2.1 = cov.map cvV ∧ xd = ds.map dyA ∧ FrV (lwK u cov) ∧ DsOk ds ∧ ∀ r, r = iceE (icK v) → K (I r)
    | _, _, _ => none
  | _ => none
theorem eChkA_ok : ∀ args pt, eChkA args = some pt → ∀ (H : AHeap) (Kk : AV → AHeap → Prop), pt (fun r => Kk r H) → ACalls Tryz.prog 83 args H Kk := by
  intro args pt h H Kk hk
  unfold eChkA at h
  split at h
  · split at h
    · rename_i u v xd h1 h2 h3
      cases h
      obtain ⟨cov, ds, h4, h5, h6, h7, h8⟩ := hk
      rw [h5] at h3
      exact (p83 _ h6 _ _ h7 H (h8 _ rfl)).wk ⟨asLw_wk h1 h4, asIc_wk h2, asVs_wk h3, trivial⟩
    · cases h
  · cases h
end Go.Sas
namespace Go.Sas
open Go.Proofs
set_option maxRecDepth 100000
def eAft : List AV → Option ((AV → Prop) → Prop)
  | [x, y, z] => match asLw x, asIc y, asDy z with
    | some u, some v, some w => some fun K => ∃ cov, u.2.2.1 = cov.map cvV ∧ CvOk (lwK u cov) (icK v) (dyK w) ∧ ∀ a b c d e f g h, (⟨(a, b), (c, d), (e, f), (g, h)⟩ : IceK) = afterS (lwK u cov) (icK v) (dyK w) → K (.agg [I a, I b, I c, I d, I e, I f, I g, I h])
    | _, _, _ => none
  | _ => none
theorem eAft_ok : ∀ args pt, eAft args = some pt → ∀ (H : AHeap) (Kk : AV → AHeap → Prop), pt (fun r => Kk r H) → ACalls Tryz.prog 84 args H Kk := by
  intro args pt h H Kk hk
  unfold eAft at h
  split at h
  · split at h
    · rename_i u v w h1 h2 h3
      cases h
      obtain ⟨cov, h4, h5, h6⟩ := hk
      exact (p84 _ _ _ h5 H (h6 _ _ _ _ _ _ _ _ rfl)).wk ⟨asLw_wk h1 h4, asIc_wk h2, asDy_wk h3, trivial⟩
    · cases h
  · cases h
end Go.Sas
namespace Go.Sas
open Go.Proofs
set_option maxRecDepth 100000
structure ThOk (l : FrL) (x : IceK) : Prop where
  v : FrV l
  b : IceB 200000000 x
end Go.Sas
namespace Go.Sas
open Go.Proofs
set_option maxRecDepth 100000
theorem p75 (l : FrL) (x : IceK) (d : DayK) (hl : FrV l) (hx : iceE x = 0) (hd : DayV d) (H : AHeap) {Kk : AV → AHeap → Prop} (h : Kk (.tup [icA (afterS l x d), I 0]) H) : ACalls Tryz.prog 75 [lwA l, icA x, dyA d] H Kk := by
  obtain ⟨W, hW⟩ : ∃ W, W = afterS l x d := ⟨_, rfl⟩
  rw [← hW] at h
  have hxb := (iceE_ok hx).le (k' := 100000000) (by omega)
  obtain ⟨X, hX⟩ : ∃ X : IceK, X = x := ⟨_, rfl⟩
  obtain ⟨L, hL⟩ : ∃ L : FrL, L = l := ⟨_, rfl⟩
  obtain ⟨D, hD⟩ : ∃ D : DayK, D = d := ⟨_, rfl⟩
  rw [← hX, ← hL, ← hD] at hW
  rw [← hX] at hx
  have hcv : CvOk l x d := ⟨hl, hxb, hd⟩
  obtain ⟨⟨xb1, xb2⟩, ⟨xw1, xw2⟩, ⟨xt1, xt2⟩, ⟨xs1, xs2⟩⟩ := x
  obtain ⟨g, la, cov, ⟨m1, m2⟩, so, ⟨v1, v2⟩⟩ := l
  obtain ⟨⟨d1, d2⟩, ⟨d3, d4⟩, d5, d6⟩ := d
  obtain ⟨⟨y1, y2⟩, ⟨y3, y4⟩, ⟨y5, y6⟩, ⟨y7, y8⟩⟩ := W
  unfold lwA icA dyA at *
  dsimp only at *
  obtain ⟨xs, hxs⟩ : ∃ xs, xs = cov.map cvV := ⟨_, rfl⟩
  have hxn : AV.nidL xs = true := by rw [hxs]; exact nid_cv cov
  rw [← hxs]
  refine (fun q => pureC (by simp [AV.nidL, AV.nid, hxn]) (by rfl) q H h) ?_
  clear h
  intro Kk h
  obtain ⟨A, hA⟩ : ∃ A, A = std := ⟨_, rfl⟩
  have hN0 : A.ne 0 0 = false := by subst hA; rfl
  refine go75 rfl (SGo_run hA ⟨[], [3], [(83, eChkA), (85, eIc), (86, eIc), (84, eAft)], []⟩ (.cons eChkA_ok (.cons (eIc_ok p85) (.cons (eIc_ok p86) (.cons eAft_ok .nil)))) .nil 200 fun T TD hT hTD => ?_)
  cbv
  refine Exists.intro cov (Exists.intro [⟨(d1, d2), (d3, d4), d5, d6⟩] (And.intro hxs (And.intro rfl (And.intro hl (And.intro ⟨by simp; exact hd, by simp⟩ ?_)))))
  intro r hr
  have hr : r = 0 := by rw [← hx, hX]; exact hr
  subst hr
  cbv
  split <;> first | (rename_i hz; exact Bool.noConfusion (hz.symm.trans hN0)) | cbv
  refine Exists.intro cov (And.intro hxs (And.intro hcv ?_))
  intro z1 z2 z3 z4 z5 z6 z7 z8 hz
  have hz : (⟨(z1, z2), (z3, z4), (z5, z6), (z7, z8)⟩ : IceK) = ⟨(y1, y2), (y3, y4), (y5, y6), (y7, y8)⟩ := by rw [hW, hL, hX, hD]; exact hz
  cases hz
  cbv
  repeat (refine And.intro (by subst hA; simp [std, Keep, SubH, ResK, isStB]) ?_; cbv)
  exact h
def eStep : List AV → Option ((AV → Prop) → Prop)
  | [x, y, z] => match asLw x, asIc y, asDy z with
    | some u, some v, some w => some fun K => ∃ cov, u.2.2.1 = cov.map cvV ∧ FrV (lwK u cov) ∧ iceE (icK v) = 0 ∧ DayV (dyK w) ∧ ∀ a b c d e f g h, (⟨(a, b), (c, d), (e, f), (g, h)⟩ : IceK) = afterS (lwK u cov) (icK v) (dyK w) → K (.tup [.agg [I a, I b, I c, I d, I e, I f, I g, I h], I 0])
    | _, _, _ => none
  | _ => none
theorem eStep_ok : ∀ args pt, eStep args = some pt → ∀ (H : AHeap) (Kk : AV → AHeap → Prop), pt (fun r => Kk r H) → ACalls Tryz.prog 75 args H Kk := by
  intro args pt h H Kk hk
  unfold eStep at h
  split at h
  · split at h
    · rename_i u v w h1 h2 h3
      cases h
      obtain ⟨cov, h4, h5, h6, h7, h8⟩ := hk
      exact (p75 _ _ _ h5 h6 h7 H (h8 _ _ _ _ _ _ _ _ rfl)).wk ⟨asLw_wk h1 h4, asIc_wk h2, asDy_wk h3, trivial⟩
    · cases h
  · cases h
def eOneT : List AV → Option ((AV → Prop) → Prop)
  | [.lit (.int .i64 n)] => some fun K => K (.agg [I n, I n])
  | _ => none
theorem p10 (n : Int) (H : AHeap) {Kk : AV → AHeap → Prop} (h : Kk (.agg [I n, I n]) H) : ACalls Tryz.prog 10 [I n] H Kk := by
  refine (fun q => pureC (by rfl) (by rfl) q H h) ?_
  clear h
  intro Kk h
  obtain ⟨A, hA⟩ : ∃ A, A = std := ⟨_, rfl⟩
  refine go10 rfl (SGo_run hA ⟨[], [], [], []⟩ .nil .nil 200 fun T TD hT hTD => ?_)
  cbv
  exact h
theorem eOneT_ok : ∀ args pt, eOneT args = some pt → ∀ (H : AHeap) (Kk : AV → AHeap → Prop), pt (fun r => Kk r H) → ACalls Tryz.prog 10 args H Kk := by
  intro args pt h H Kk hk
  unfold eOneT at h
  split at h
  · cases h; exact p10 _ H hk
  · cases h
def exL : FrL := ⟨100, 10, [(0, 1000000, 1000000)], (0, 0), 0, (0, 0)⟩
def exX : IceK := ⟨(300, 300), (0, 0), (0, 0), (0, 0)⟩
def exD : DayK := ⟨(160, 160), (0, 0), 0, false⟩
theorem exL_v : FrV exL := by
  unfold exL
  constructor <;> simp
theorem exD_v : DayV exD := by
  unfold exD
  constructor <;> simp
theorem ex_after : afterS exL exX exD = ⟨(325, 326), (0, 0), (0, 0), (0, 0)⟩ := by
  have r1 : rootS 106000 = 325 := root_uniq (by omega) (by omega) (by omega)
  have r2 : roofS 106000 = 326 := by unfold roofS; rw [r1]; simp
  simp [afterS, covdS, frozS, exL, exX, exD, thrS, thrF, dnS, upS, sqS, r1, r2]
  omega
theorem p60 (H : AHeap) {Kk : AV → AHeap → Prop} (h : Kk (B true) H) : ACalls Tryz.prog 60 [] H Kk := by
  refine (fun q => pureC (by rfl) (by rfl) q H h) ?_
  clear h
  intro Kk h
  obtain ⟨A, hA⟩ : ∃ A, A = std := ⟨_, rfl⟩
  have he : ∀ n, A.eq n n = true := by subst hA; intro n; simp [std, iEq]
  refine go60 rfl (SGo_run hA ⟨[], [], [(10, eOneT), (75, eStep), (76, eRoot)], []⟩ (.cons eOneT_ok (.cons eStep_ok (.cons (eRoot_ok p76) .nil))) .nil 200 fun T TD hT hTD => ?_)
  cbv
  have e0 : A.eq 0 0 = true := he 0
  refine Exists.intro [(0, 1000000, 1000000)] (And.intro rfl (And.intro exL_v (And.intro (by decide) (And.intro exD_v ?_))))
  intro a b c d e f g i hz
  have hz : (⟨(a, b), (c, d), (e, f), (g, i)⟩ : IceK) = ⟨(325, 326), (0, 0), (0, 0), (0, 0)⟩ := by rw [← ex_after]; exact hz
  cases hz
  cbv
  repeat (refine And.intro (by subst hA; simp [std, Keep, SubH, ResK, isStB]) ?_; cbv)
  split <;> first | (rename_i hz; exact Bool.noConfusion (hz.symm.trans e0)) | cbv
  have hbb : A.band (A.band (A.eq 325 325) (A.band (A.eq 326 326) true)) (A.band (A.band (A.eq 0 0) (A.band (A.eq 0 0) true)) (A.band (A.band (A.eq 0 0) (A.band (A.eq 0 0) true)) (A.band (A.band (A.eq 0 0) (A.band (A.eq 0 0) true)) true))) = true := by subst hA; rfl
  split <;> first | (rename_i hz; exact Bool.noConfusion (hz.symm.trans hbb)) | cbv
  refine Exists.intro () (And.intro (by omega) ?_)
  intro r hr
  have h9 : rootS 99 = 9 := root_uniq (by omega) (by omega) (by omega)
  have hr : r = 9 := hr.trans h9
  subst hr
  cbv
  exact leaf h (congrArg B (he 9).symm) rfl
def ex3 : Plate := ⟨(40000, 50000), [(0, 1000000)], [(0, 1000000)], 0, 0, 98, 640000, 1440000, 0, 0⟩
theorem ex3_is : PlIs ex3 (40000, 50000, [sp (0, 1000000)], [sp (0, 1000000)], 0, 0, 98, 640000, 1440000, 0, 0) := ⟨rfl, rfl, rfl, rfl, rfl, rfl, rfl, rfl, rfl, rfl⟩
theorem ex3_b : bearsS ex3 500 0 = (10000, 0) := by decide
def eT3 : List AV → Option ((AV → Prop) → Prop)
  | [] => some fun K => K (B true)
  | _ => none
theorem e124_ok : ∀ args pt, eT3 args = some pt → ∀ (H : AHeap) (Kk : AV → AHeap → Prop), pt (fun r => Kk r H) → ACalls Tryz.prog 60 args H Kk := by
  intro args pt h H Kk hk
  unfold eT3 at h
  split at h
  · cases h; exact p60 H hk
  · cases h
theorem p35 (H : AHeap) {Kk : AV → AHeap → Prop} (h : Kk (B true) H) : ACalls Tryz.prog 35 [] H Kk := by
  refine (fun q => pureC (by rfl) (by rfl) q H h) ?_
  clear h
  intro Kk h
  obtain ⟨A, hA⟩ : ∃ A, A = std := ⟨_, rfl⟩
  have he : ∀ n, A.eq n n = true := by subst hA; intro n; simp [std, iEq]
  have e0 : A.eq 0 0 = true := he 0
  refine go35 rfl (SGo_run hA ⟨[], [], [(60, eT3), (59, eBearsA)], []⟩ (.cons e124_ok (.cons (eBearsA_ok p59) .nil)) .nil 200 fun T TD hT hTD => ?_)
  cbv
  refine Exists.intro ex3 (And.intro ex3_is (And.intro (by decide) (And.intro (by decide) ?_)))
  rintro a e hae
  obtain ⟨rfl, rfl⟩ := Prod.mk.inj (hae.trans ex3_b)
  cbv
  split <;> first | (rename_i hz; exact Bool.noConfusion (hz.symm.trans e0)) | cbv
  split <;> first | (rename_i hz; exact Bool.noConfusion (hz.symm.trans (he 10000))) | cbv
  exact h
end Go.Sas
