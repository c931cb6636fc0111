/-
Probe: what is known, and looks that may be: contracts.
Probe: known and looks that may be, of the program: contracts.
Probe: Known and Least: contracts.
Conditions: none.
-/
import Derived.Test.YtpokfjhlilbpfaaDoorPFd
set_option linter.unusedVariables false
set_option linter.unusedSimpArgs false
namespace Go.Sas
open Go.Proofs
set_option maxRecDepth 100000
/-- the ground of a road -/
def GrIs (rs : List Rch) (xs ys zs : List AV) : Prop := xs = rs.map rcV ∧ ys = (slL (plc rs)).map I ∧ zs = (plc rs).map rcV
theorem grIs (rs : List Rch) : GrIs rs (rs.map rcV) ((slL (plc rs)).map I) ((plc rs).map rcV) := ⟨rfl, rfl, rfl⟩
def eCost : List AV → Option ((AV → Prop) → Prop)
  | [.agg [.vs 5 xs, .lit (.int .i64 _), .lit (.int .i64 _), .lit (.int .i64 _), .vs 1 ys, .vs 5 zs], .lit (.int .i64 f), .lit (.int .i64 t), .lit (.int .i64 h0), .fn 56 []] =>
    some fun K => ∃ rs : List Rch, GrIs rs xs ys zs ∧ RoadOk rs ∧ (0 ≤ f ∧ f < sumLg rs) ∧ (0 ≤ t ∧ t < sumLg rs) ∧ (0 ≤ h0 ∧ h0 ≤ 10000) ∧ ∀ v, v = costS (plc rs) f.toNat t.toNat h0 (·.th) → K (I v)
  | [.agg [.vs 5 xs, .lit (.int .i64 _), .lit (.int .i64 _), .lit (.int .i64 _), .vs 1 ys, .vs 5 zs], .lit (.int .i64 f), .lit (.int .i64 t), .lit (.int .i64 h0), .fn 57 []] =>
    some fun K => ∃ rs : List Rch, GrIs rs xs ys zs ∧ RoadOk rs ∧ (0 ≤ f ∧ f < sumLg rs) ∧ (0 ≤ t ∧ t < sumLg rs) ∧ (0 ≤ h0 ∧ h0 ≤ 10000) ∧ ∀ v, v = costS (plc rs) f.toNat t.toNat h0 (·.gr) → K (I v)
  | _ => none
theorem eCost_ok : ∀ args pt, eCost args = some pt → ∀ (H : AHeap) (Kk : AV → AHeap → Prop), pt (fun r => Kk r H) → ACalls Tryd.prog 55 args H Kk := by
  intro args pt h H Kk hk
  unfold eCost at h
  split at h
  · cases h
    obtain ⟨rs, ⟨rfl, rfl, rfl⟩, h1, h2, h3, h4, h5⟩ := hk
    exact p55_116 _ _ _ _ h1 _ _ _ h2 h3 h4 H (h5 _ rfl)
  · cases h
    obtain ⟨rs, ⟨rfl, rfl, rfl⟩, h1, h2, h3, h4, h5⟩ := hk
    exact p55_117 _ _ _ _ h1 _ _ _ h2 h3 h4 H (h5 _ rfl)
  · cases h
theorem p33 (rs : List Rch) (a b c p t : Int) (x : Lk) (ho : RoadOk rs) (hx : 0 ≤ x.p ∧ x.p < sumLg rs) (hxh : 0 ≤ x.h ∧ x.h ≤ 10000) (hp : 0 ≤ p ∧ p < sumLg rs) (ht : 0 ≤ t ∧ t ≤ 10000) (H : AHeap) {Kk : AV → AHeap → Prop}
    (h : Kk (I (riseS (plc rs) x.p.toNat (x.h - t) p.toNat)) H) : ACalls Tryd.prog 33 [grV (.vs 5 (rs.map rcV)) a b c (.vs 1 ((slL (plc rs)).map I)) (.vs 5 ((plc rs).map rcV)), lkV x, I p, I t] H Kk := by
  refine (fun q => pureC (by rfl) (by rfl) q H h) ?_
  clear h
  intro Kk h
  have hg := grIs rs
  obtain ⟨xs, hxs⟩ : ∃ xs, xs = rs.map rcV := ⟨_, rfl⟩
  obtain ⟨ys, hys⟩ : ∃ ys, ys = (slL (plc rs)).map I := ⟨_, rfl⟩
  obtain ⟨zs, hzs⟩ : ∃ zs, zs = (plc rs).map rcV := ⟨_, rfl⟩
  rw [← hxs, ← hys, ← hzs] at hg ⊢
  obtain ⟨A, hA⟩ : ∃ A, A = std := ⟨_, rfl⟩
  obtain ⟨xk, xp, xh, lo, hi⟩ := x
  dsimp only at hx hxh h ⊢
  have hle : A.le xh t = decide (xh ≤ t) := by subst hA; rfl
  have hd1 : A.sub .i64 t xh = t - xh := by subst hA; exact iSub_id (by omega) (by omega)
  have hd2 : A.sub .i64 xh t = xh - t := by subst hA; exact iSub_id (by omega) (by omega)
  refine go33 rfl (SGo_run hA ⟨[], [], (55, eCost) :: [], []⟩ (.cons eCost_ok .nil) .nil 200 fun T TD hT hTD => ?_)
  cbv
  split <;> cbv
  · rename_i hz
    have hz : xh ≤ t := by have hz := hle.symm.trans hz; simpa using hz
    refine Exists.intro rs (And.intro hg (And.intro ho (And.intro hx (And.intro hp (And.intro (by show 0 ≤ A.sub .i64 t xh ∧ A.sub .i64 t xh ≤ _; rw [hd1]; omega) ?_)))))
    intro v hv; cbv
    have hv : v = costS (plc rs) xp.toNat p.toNat (t - xh) (·.th) := by rw [hv, ← hd1]
    rw [costS_below (by omega)] at hv
    rw [hv]; exact leaf h (congrArg I (by rw [show -(t - xh) = xh - t by omega])) rfl
  · rename_i hz
    have hz : ¬ xh ≤ t := by have hz := hle.symm.trans hz; simpa using hz
    refine Exists.intro rs (And.intro hg (And.intro ho (And.intro hx (And.intro hp (And.intro (by show 0 ≤ A.sub .i64 xh t ∧ A.sub .i64 xh t ≤ _; rw [hd2]; omega) ?_)))))
    intro v hv; cbv
    have hv : v = costS (plc rs) xp.toNat p.toNat (xh - t) (·.gr) := by rw [hv, ← hd2]
    rw [costS_belowG (by omega)] at hv
    rw [hv]; exact leaf h (congrArg I (by rfl)) rfl
theorem p34 (rs : List Rch) (a b c p t : Int) (x : Lk) (ho : RoadOk rs) (hx : 0 ≤ x.p ∧ x.p < sumLg rs) (hxh : 0 ≤ x.h ∧ x.h ≤ 10000) (hp : 0 ≤ p ∧ p < sumLg rs) (ht : 0 ≤ t ∧ t ≤ 10000) (H : AHeap) {Kk : AV → AHeap → Prop}
    (h : Kk (I (riseS (plc rs) p.toNat (t - x.h) x.p.toNat)) H) : ACalls Tryd.prog 34 [grV (.vs 5 (rs.map rcV)) a b c (.vs 1 ((slL (plc rs)).map I)) (.vs 5 ((plc rs).map rcV)), lkV x, I p, I t] H Kk := by
  refine (fun q => pureC (by rfl) (by rfl) q H h) ?_
  clear h
  intro Kk h
  have hg := grIs rs
  obtain ⟨xs, hxs⟩ : ∃ xs, xs = rs.map rcV := ⟨_, rfl⟩
  obtain ⟨ys, hys⟩ : ∃ ys, ys = (slL (plc rs)).map I := ⟨_, rfl⟩
  obtain ⟨zs, hzs⟩ : ∃ zs, zs = (plc rs).map rcV := ⟨_, rfl⟩
  rw [← hxs, ← hys, ← hzs] at hg ⊢
  obtain ⟨A, hA⟩ : ∃ A, A = std := ⟨_, rfl⟩
  obtain ⟨xk, xp, xh, lo, hi⟩ := x
  dsimp only at hx hxh h ⊢
  have hle : A.le xh t = decide (xh ≤ t) := by subst hA; rfl
  have hd1 : A.sub .i64 t xh = t - xh := by subst hA; exact iSub_id (by omega) (by omega)
  have hd2 : A.sub .i64 xh t = xh - t := by subst hA; exact iSub_id (by omega) (by omega)
  refine go34 rfl (SGo_run hA ⟨[], [], (55, eCost) :: [], []⟩ (.cons eCost_ok .nil) .nil 200 fun T TD hT hTD => ?_)
  cbv
  split <;> cbv
  · rename_i hz
    have hz : xh ≤ t := by have hz := hle.symm.trans hz; simpa using hz
    refine Exists.intro rs (And.intro hg (And.intro ho (And.intro hx (And.intro hp (And.intro (by show 0 ≤ A.sub .i64 t xh ∧ A.sub .i64 t xh ≤ _; rw [hd1]; omega) ?_)))))
    intro v hv; cbv
    have hv : v = costS (plc rs) xp.toNat p.toNat (t - xh) (·.gr) := by rw [hv, ← hd1]
    rw [costS_above (by omega)] at hv
    rw [hv]; exact leaf h (congrArg I (by rfl)) rfl
  · rename_i hz
    have hz : ¬ xh ≤ t := by have hz := hle.symm.trans hz; simpa using hz
    refine Exists.intro rs (And.intro hg (And.intro ho (And.intro hx (And.intro hp (And.intro (by show 0 ≤ A.sub .i64 xh t ∧ A.sub .i64 xh t ≤ _; rw [hd2]; omega) ?_)))))
    intro v hv; cbv
    have hv : v = costS (plc rs) xp.toNat p.toNat (xh - t) (·.th) := by rw [hv, ← hd2]
    rw [costS_aboveT (by omega)] at hv
    rw [hv]; exact leaf h (congrArg I (by rw [show -(xh - t) = t - xh by omega])) rfl
def eSide (below : Bool) : List AV → Option ((AV → Prop) → Prop)
  | [.agg [.vs 5 xs, .lit (.int .i64 _), .lit (.int .i64 _), .lit (.int .i64 _), .vs 1 ys, .vs 5 zs], .agg [.lit (.int .i64 _), .lit (.int .i64 xp), .lit (.int .i64 xh), .lit (.int .i64 _), .lit (.int .i64 _)], .lit (.int .i64 p), .lit (.int .i64 t)] =>
    some fun K => ∃ rs : List Rch, GrIs rs xs ys zs ∧ RoadOk rs ∧ (0 ≤ xp ∧ xp < sumLg rs) ∧ (0 ≤ xh ∧ xh ≤ 10000) ∧ (0 ≤ p ∧ p < sumLg rs) ∧ (0 ≤ t ∧ t ≤ 10000) ∧ ∀ v, v = (if below then riseS (plc rs) xp.toNat (xh - t) p.toNat else riseS (plc rs) p.toNat (t - xh) xp.toNat) → K (I v)
  | _ => none
theorem eBelow_ok : ∀ args pt, eSide true args = some pt → ∀ (H : AHeap) (Kk : AV → AHeap → Prop), pt (fun r => Kk r H) → ACalls Tryd.prog 33 args H Kk := by
  intro args pt h H Kk hk
  unfold eSide at h
  split at h
  · cases h
    obtain ⟨rs, ⟨rfl, rfl, rfl⟩, h1, h2, h3, h4, h5, h6⟩ := hk
    rename_i a b c k xp xh lo hi p t
    exact p33 _ _ _ _ _ _ ⟨k, xp, xh, lo, hi⟩ h1 h2 h3 h4 h5 H (h6 _ rfl)
  · cases h
theorem eAbove_ok : ∀ args pt, eSide false args = some pt → ∀ (H : AHeap) (Kk : AV → AHeap → Prop), pt (fun r => Kk r H) → ACalls Tryd.prog 34 args H Kk := by
  intro args pt h H Kk hk
  unfold eSide at h
  split at h
  · cases h
    obtain ⟨rs, ⟨rfl, rfl, rfl⟩, h1, h2, h3, h4, h5, h6⟩ := hk
    rename_i a b c k xp xh lo hi p t
    exact p34 _ _ _ _ _ _ ⟨k, xp, xh, lo, hi⟩ h1 h2 h3 h4 h5 H (h6 _ rfl)
  · cases h
end Go.Sas
namespace Go.Sas
open Go.Proofs
set_option maxRecDepth 100000
theorem p17 (rs : List Rch) (a b c p t : Int) (l : List Lk) (ho : RoadOk rs) (hl : l.length ≤ 1000000) (hL : ∀ x ∈ l, LkOk (sumLg rs) x) (h1 : 0 ≤ p ∧ p < sumLg rs) (h2 : 0 ≤ t ∧ t ≤ 10000) (H : AHeap) {Kk : AV → AHeap → Prop}
    (h : Kk (.agg [I (knowS (plc rs) l p.toNat t).1, I (knowS (plc rs) l p.toNat t).2]) H) : ACalls Tryd.prog 17 [grV (.vs 5 (rs.map rcV)) a b c (.vs 1 ((slL (plc rs)).map I)) (.vs 5 ((plc rs).map rcV)), .vs 5 (l.map lkV), I p, I t] H Kk := by
  refine (fun q => pureC (by rfl) (by rfl) q H h) ?_
  clear h
  intro Kk h
  have hg := grIs rs
  obtain ⟨xs, hxs⟩ : ∃ xs, xs = rs.map rcV := ⟨_, rfl⟩
  obtain ⟨ws, hws⟩ : ∃ ys, ys = (slL (plc rs)).map I := ⟨_, rfl⟩
  obtain ⟨zs, hzs⟩ : ∃ zs, zs = (plc rs).map rcV := ⟨_, rfl⟩
  rw [← hxs, ← hws, ← hzs] at hg ⊢
  obtain ⟨ys, hys⟩ : ∃ ys, ys = l.map lkV := ⟨_, rfl⟩
  rw [← hys]
  have hRl := ho.ilen
  obtain ⟨R, hR⟩ : ∃ R, R = plc rs := ⟨_, rfl⟩
  have hPl : PlcOk R := hR ▸ ho.plc
  rw [← hR] at h hRl
  have hpl : p.toNat < R.length := by unfold iLen at hRl; omega
  obtain ⟨A, hA⟩ : ∃ A, A = std := ⟨_, rfl⟩
  refine go17 rfl (SGo_run hA ⟨[], [], [], []⟩ .nil .nil 200 fun T TD hT hTD => ?_)
  cbv
  rw [hT]
  refine AGo_upE [2, 3, 4, 8, 9, 13, 14] l.length (fun j (s : Int × Int) => s = (l.take j).foldl (knowG R p.toNat t) (0, 3000)) (fun j s i => [(15, I i)]) (fun _ s => [.own 0 [.vs 5 xs, I a, I b, I c, .vs 1 ws, .vs 5 zs], .own 0 [I 0, I 0], .own 0 [I s.1, I s.2]]) (0, 3000) rfl ⟨rfl, trivial⟩ (.inl rfl) fun j s i hi hj hP Bk hB => ?_
  have hlt : A.lt i (A.vlen ys) = decide (j < l.length) := by subst hA; exact lt_len (by simp [hys]) hi
  have hadd : ∀ N, j < N → N ≤ 9223372036854775807 → A.add .i64 i 1 = iLen (j + 1) := fun N hj hN => by subst hA; exact add_one hi hj hN
  obtain ⟨lo, hi2⟩ := s
  dsimp only
  refine SGo_run hA ⟨[], [], (33, eSide true) :: (34, eSide false) :: [], []⟩ (.cons eBelow_ok (.cons eAbove_ok .nil)) .nil 200 fun T TD hT hTD => ?_
  cbv
  split <;> cbv
  · rename_i hk0
    have hk1 : j < l.length := by have hz := hlt.symm.trans hk0; simpa using hz
    clear hk0
    obtain ⟨⟨k, q, g, u, v⟩, hx⟩ : ∃ x, l[j]? = some x := ⟨_, List.getElem?_eq_getElem hk1⟩
    have hix : A.ix 5 5 ys i [I k, I q, I g, I u, I v] := by subst hA; exact ix_map hys hi hx rfl
    have hlk := hL _ (List.mem_of_getElem? hx)
    unfold LkOk at hlk
    dsimp only at hlk
    obtain ⟨_, e1, e2, e3, e4, e5⟩ := hlk
    have hq : 0 ≤ q ∧ q < sumLg rs := by omega
    have hql : q.toNat < R.length := by rw [← hRl] at hq; unfold iLen at hq; omega
    have hb1 := riseS_bnd hPl (a := p.toNat) (b := q.toNat) (t := t - g) hpl hql (by omega)
    have hb2 := riseS_bnd hPl (a := q.toNat) (b := p.toNat) (t := g - t) hql hpl (by omega)
    have hst := foldl_take_succ (f := knowG R p.toNat t) (b := (0, 3000)) hx
    rw [← hP] at hst
    refine Exists.intro _ (And.intro hix ?_); cbv
    refine Exists.intro rs (And.intro hg (And.intro ho (And.intro hq (And.intro e2 (And.intro h1 (And.intro h2 ?_))))))
    intro r2 hr2; cbv
    refine Exists.intro rs (And.intro hg (And.intro ho (And.intro hq (And.intro e2 (And.intro h1 (And.intro h2 ?_))))))
    intro r1 hr1; cbv
    have hr1 : r1 = riseS (plc rs) p.toNat (t - g) q.toNat := hr1
    have hr2 : r2 = riseS (plc rs) q.toNat (g - t) p.toNat := hr2
    rw [← hR] at hr1 hr2
    have hn : (A.max lo (A.sub .i64 u r2), A.min hi2 (A.add .i64 v r1)) = (l.take (j + 1)).foldl (knowG R p.toNat t) (0, 3000) := by
      rw [hst]
      unfold knowG
      dsimp only
      rw [hr1, hr2]
      subst hA
      simp only [std, iMin_eq, iMax_eq]
      rw [iSub_id (by omega) (by omega), iAdd_id (by omega) (by omega)]
    exact hB (A.max lo (A.sub .i64 u r2), A.min hi2 (A.add .i64 v r1)) _ _ hk1 hn ⟨congrArg I (hadd _ hk1 (by omega)), trivial⟩ ⟨rfl, rfl, rfl, rfl, rfl, rfl, rfl, trivial⟩ (.inr ⟨⟨_, rfl⟩, Nat.zero_le _, by simp [ltG, AV.lt, AV.ltL, keepS, look], by simp [ltH, AObj.lt, AV.lt, AV.ltL]⟩)
  · rename_i hk0
    have hk1 : ¬ j < l.length := by have hz := hlt.symm.trans hk0; simpa using hz
    clear hk0
    rw [List.take_of_length_le (by omega)] at hP
    have hP : (lo, hi2) = knowS R l p.toNat t := hP
    rw [← hP] at h
    exact leaf h rfl rfl
theorem p32 (rs : List Rch) (a b c : Int) (l : List Lk) (ho : RoadOk rs) (hl : l.length ≤ 9223372036854775807) (H : AHeap) {Kk : AV → AHeap → Prop}
    (h : Kk (I (looksE (plc rs) l)) H) : ACalls Tryd.prog 32 [grV (.vs 5 (rs.map rcV)) a b c (.vs 1 ((slL (plc rs)).map I)) (.vs 5 ((plc rs).map rcV)), .vs 5 (l.map lkV)] H Kk := by
  refine (fun q => pureC (by rfl) (by rfl) q H h) ?_
  clear h
  intro Kk h
  have hg := grIs rs
  obtain ⟨xs, hxs⟩ : ∃ xs, xs = rs.map rcV := ⟨_, rfl⟩
  obtain ⟨ws, hws⟩ : ∃ ys, ys = (slL (plc rs)).map I := ⟨_, rfl⟩
  obtain ⟨zs, hzs⟩ : ∃ zs, zs = (plc rs).map rcV := ⟨_, rfl⟩
  rw [← hxs, ← hws, ← hzs] at hg ⊢
  obtain ⟨ys, hys⟩ : ∃ ys, ys = l.map lkV := ⟨_, rfl⟩
  rw [← hys]
  have hRl := ho.ilen
  obtain ⟨R, hR⟩ : ∃ R, R = plc rs := ⟨_, rfl⟩
  have hPl : PlcOk R := hR ▸ ho.plc
  obtain ⟨W, hW⟩ : ∃ W, W = looksE R l := ⟨_, rfl⟩
  rw [← hR] at h hRl
  rw [← hW] at h
  have hW1 : 200 < l.length → W = 8 := fun h => by rw [hW]; unfold looksE; rw [if_pos h]
  have hW2 : ¬ 200 < l.length → W = orElse (firstE (lookE (sumLg rs)) l) (if l.any (fun x => l.any (clash R x)) then 12 else 0) := fun h => by rw [hW]; unfold looksE; rw [if_neg h, ← hRl]; rfl
  clear hW
  obtain ⟨A, hA⟩ : ∃ A, A = std := ⟨_, rfl⟩
  have hv : A.lt 200 (A.vlen ys) = decide (200 < l.length) := by subst hA; simp only [std, iLt, hys, List.length_map, iLen]; rw [decide_eq_decide]; omega
  refine go32 rfl (SGo_run hA ⟨[], [], [], []⟩ .nil .nil 200 fun T TD hT hTD => ?_)
  cbv
  split <;> cbv
  · rename_i hz
    have hz : 200 < l.length := by have hz := hv.symm.trans hz; simpa using hz
    exact leaf h (congrArg I (hW1 hz)) rfl
  rename_i hz
  have hz : ¬ 200 < l.length := by have hz := hv.symm.trans hz; simpa using hz
  have hW := hW2 hz
  have hl2 : l.length ≤ 200 := by omega
  clear hW1 hW2 hz
  have hsb : 1 ≤ sumLg rs ∧ sumLg rs ≤ 1000 := by rw [← hRl]; have := hPl.pos; have := hPl.le; unfold iLen; omega
  have hn1 : A.sub .i64 (A.vlen zs) 1 = sumLg rs - 1 := by
    have : A.vlen zs = sumLg rs := by rw [← hRl, hzs, hR]; subst hA; simp [std]
    rw [this]; subst hA; exact iSub_id (by omega) (by omega)
  rw [hT]
  refine AGo_upE [1, 2, 4, 14, 15] l.length (fun j (_ : Unit) => firstE (lookE (sumLg rs)) l = firstE (lookE (sumLg rs)) (l.drop j)) (fun j _ i => [(16, I i)]) (fun _ _ => [.own 0 [.vs 5 xs, I a, I b, I c, .vs 1 ws, .vs 5 zs]]) () rfl ⟨rfl, trivial⟩ (.inl rfl) fun j _ i hi hj hP Bk hB => ?_
  have hlt : A.lt i (A.vlen ys) = decide (j < l.length) := by subst hA; exact lt_len (by simp [hys]) hi
  have hadd : ∀ N, j < N → N ≤ 9223372036854775807 → A.add .i64 i 1 = iLen (j + 1) := fun N hj hN => by subst hA; exact add_one hi hj hN
  refine SGo_run hA ⟨[], [], (16, eIn) :: [], []⟩ (.cons (eIn_ok p16) .nil) .nil 200 fun T TD hT hTD => ?_
  cbv
  split <;> cbv
  · rename_i hk0
    have hk1 : j < l.length := by have hz := hlt.symm.trans hk0; simpa using hz
    clear hk0
    obtain ⟨⟨k, q, g, u, v⟩, hx⟩ : ∃ x, l[j]? = some x := ⟨_, List.getElem?_eq_getElem hk1⟩
    have hix : A.ix 5 5 ys i [I k, I q, I g, I u, I v] := by subst hA; exact ix_map hys hi hx rfl
    rw [firstE_drop hx] at hP
    have hR : ∀ e, e ≠ 0 → lookE (sumLg rs) ⟨k, q, g, u, v⟩ = e → W = e := fun e h0 h => by rw [hW, hP, h, if_neg h0]; unfold orElse; rw [if_neg h0]
    have hN : lookE (sumLg rs) ⟨k, q, g, u, v⟩ = 0 → firstE (lookE (sumLg rs)) l = firstE (lookE (sumLg rs)) (l.drop (j + 1)) := fun h => by rw [hP, if_pos h]
    have hlt2 : A.lt v u = decide (v < u) := by subst hA; rfl
    refine Exists.intro _ (And.intro hix ?_); cbv
    repeat' (first | (intro qq hfq; cbv) | (split <;> cbv))
    all_goals first
      | refine hB () _ _ hk1 (hN ?_) ⟨congrArg I (hadd _ hk1 (by omega)), trivial⟩ ⟨rfl, rfl, rfl, rfl, rfl, trivial⟩ (.inr ⟨⟨_, rfl⟩, Nat.zero_le _, by simp [ltG, AV.lt, AV.ltL, keepS, look], by simp [ltH, AObj.lt, AV.lt, AV.ltL]⟩)
      | refine leaf h (congrArg I (hR _ (by decide) ?_)) rfl
    all_goals
      clear hR hN hP hix hv hW hlt hadd hB hx h hl hl2 hk1 hi hj hT hTD hxs hys hPl hRl ho
      simp only [hn1] at *
      clear hn1
      subst hA
      simp only [std, iLt] at *
      try clear hT hTD
      try clear hxs
      subst_vars
      simp only [Bool.not_eq_true', Bool.not_eq_false', decide_eq_true_eq, decide_eq_false_iff_not] at *
      simp only [lookE]
      first | rw [if_pos (by omega)] | rw [if_neg (by omega), if_pos (by omega)] | rw [if_neg (by omega), if_neg (by omega), if_pos (by omega)] | rw [if_neg (by omega), if_neg (by omega), if_neg (by omega), if_pos (by omega)] | rw [if_neg (by omega), if_neg (by omega), if_neg (by omega), if_neg (by omega)]
  · rename_i hk0
    have hk1 : ¬ j < l.length := by have hz := hlt.symm.trans hk0; simpa using hz
    clear hk0
    have hf : firstE (lookE (sumLg rs)) l = 0 := by rw [hP, List.drop_eq_nil_of_le (by omega)]; rfl
    have hall : ∀ x ∈ l, LkOk (sumLg rs) x := fun x hx => lookE_ok.1 (firstE_zero hf x hx)
    have hW : W = if l.any (fun x => l.any (clash R x)) then 12 else 0 := by rw [hW, hf]; rfl
    clear hP hB hlt hadd hf hn1 hv
    rw [hT]
    refine AGo_upE [1, 2, 62, 63] l.length (fun j (_ : Unit) => W = if (l.drop j).any (fun x => l.any (clash R x)) then 12 else 0) (fun j _ i => [(64, I i)]) (fun _ _ => [.own 0 [.vs 5 xs, I a, I b, I c, .vs 1 ws, .vs 5 zs]]) () hW ⟨rfl, trivial⟩ (.inr ⟨⟨_, rfl⟩, Nat.zero_le _, by simp [ltG, AV.lt, AV.ltL, keepS, look], by simp [ltH, AObj.lt, AV.lt, AV.ltL]⟩) fun j _ i hi hj hP Bk hB => ?_
    have hlt : A.lt i (A.vlen ys) = decide (j < l.length) := by subst hA; exact lt_len (by simp [hys]) hi
    have hadd : ∀ N, j < N → N ≤ 9223372036854775807 → A.add .i64 i 1 = iLen (j + 1) := fun N hj hN => by subst hA; exact add_one hi hj hN
    refine SGo_run hA ⟨[], [], [], []⟩ .nil .nil 200 fun T TD hT hTD => ?_
    cbv
    split <;> cbv
    · rename_i hk0
      have hk1 : j < l.length := by have hz := hlt.symm.trans hk0; simpa using hz
      clear hk0
      obtain ⟨⟨k, q, g, u, v⟩, hx⟩ : ∃ x, l[j]? = some x := ⟨_, List.getElem?_eq_getElem hk1⟩
      have hix : A.ix 5 5 ys i [I k, I q, I g, I u, I v] := by subst hA; exact ix_map hys hi hx rfl
      rw [any_drop hx] at hP
      obtain ⟨e0, e1, e2, e3, e4, e5⟩ := hall _ (List.mem_of_getElem? hx)
      dsimp only at e0 e1 e2 e3 e4 e5
      have hq : 0 ≤ q ∧ q < sumLg rs := by omega
      have hql : q.toNat < R.length := by rw [← hRl] at hq; unfold iLen at hq; omega
      obtain ⟨Z, hZ⟩ : ∃ Z, Z = (l.drop (j + 1)).any (fun x => l.any (clash R x)) := ⟨_, rfl⟩
      rw [← hZ] at hP
      refine Exists.intro _ (And.intro hix ?_); cbv
      rw [hT]
      refine AGo_upE [1, 2, 8, 62, 63, 64, 68, 69] l.length (fun j (_ : Unit) => W = if ((l.drop j).any (clash R ⟨k, q, g, u, v⟩) || Z) then 12 else 0) (fun j _ i => [(70, I i)]) (fun _ _ => [.own 0 [.vs 5 xs, I a, I b, I c, .vs 1 ws, .vs 5 zs], .own 0 [I k, I q, I g, I u, I v]]) () hP ⟨rfl, trivial⟩ (.inl rfl) fun j2 _ i2 hi2 hj2 hP Bk2 hB2 => ?_
      have hlt2 : A.lt i2 (A.vlen ys) = decide (j2 < l.length) := by subst hA; exact lt_len (by simp [hys]) hi2
      have hadd2 : ∀ N, j2 < N → N ≤ 9223372036854775807 → A.add .i64 i2 1 = iLen (j2 + 1) := fun N hj hN => by subst hA; exact add_one hi2 hj hN
      refine SGo_run hA ⟨[], [], (34, eSide false) :: [], []⟩ (.cons eAbove_ok .nil) .nil 200 fun T TD hT hTD => ?_
      cbv
      split <;> cbv
      · rename_i hz
        have hk2 : j2 < l.length := by have hz := hlt2.symm.trans hz; simpa using hz
        obtain ⟨⟨k', q', g', u', v'⟩, hx2⟩ : ∃ x, l[j2]? = some x := ⟨_, List.getElem?_eq_getElem hk2⟩
        have hiy : A.ix 5 5 ys i2 [I k', I q', I g', I u', I v'] := by subst hA; exact ix_map hys hi2 hx2 rfl
        rw [any_drop hx2] at hP
        obtain ⟨d0, d1, d2, d3, d4, d5⟩ := hall _ (List.mem_of_getElem? hx2)
        dsimp only at d0 d1 d2 d3 d4 d5
        have hq' : 0 ≤ q' ∧ q' < sumLg rs := by omega
        have hql' : q'.toNat < R.length := by rw [← hRl] at hq'; unfold iLen at hq'; omega
        have hbb := riseS_bnd hPl (a := q'.toNat) (b := q.toNat) (t := g' - g) hql' hql (by omega)
        have hcl : clash R ⟨k, q, g, u, v⟩ ⟨k', q', g', u', v'⟩ = decide (v + riseS R q'.toNat (g' - g) q.toNat < u') := rfl
        refine Exists.intro _ (And.intro hiy ?_); cbv
        refine Exists.intro rs (And.intro hg (And.intro ho (And.intro hq (And.intro e2 (And.intro hq' (And.intro d2 ?_))))))
        intro r hr; cbv
        have hr : r = riseS (plc rs) q'.toNat (g' - g) q.toNat := hr
        rw [← hR] at hr
        have hlc : A.lt (A.add .i64 v r) u' = clash R ⟨k, q, g, u, v⟩ ⟨k', q', g', u', v'⟩ := by
          rw [hcl, ← hr]; rw [← hr] at hbb; subst hA; show decide (iAdd .i64 v r < u') = _; rw [iAdd_id (by omega) (by omega)]
        split <;> cbv
        · rename_i hz
          have hz := hlc.symm.trans hz
          rw [hz] at hP
          exact leaf h (congrArg I hP) rfl
        · rename_i hz
          have hz := hlc.symm.trans hz
          rw [hz] at hP
          exact hB2 () _ _ hk2 hP ⟨congrArg I (hadd2 _ hk2 (by omega)), trivial⟩ ⟨rfl, rfl, rfl, rfl, rfl, rfl, rfl, rfl, trivial⟩ (.inr ⟨⟨_, rfl⟩, Nat.zero_le _, by simp [ltG, AV.lt, AV.ltL, keepS, look], by simp [ltH, AObj.lt, AV.lt, AV.ltL]⟩)
      · rename_i hz
        have hk2 : ¬ j2 < l.length := by have hz := hlt2.symm.trans hz; simpa using hz
        rw [List.drop_eq_nil_of_le (by omega)] at hP
        have hP : W = if Z then 12 else 0 := hP
        rw [hZ] at hP
        exact hB () _ _ hk1 hP ⟨congrArg I (hadd _ hk1 (by omega)), trivial⟩ ⟨rfl, rfl, rfl, rfl, trivial⟩ (.inr ⟨⟨_, rfl⟩, Nat.zero_le _, by simp [ltG, AV.lt, AV.ltL, keepS, look], by simp [ltH, AObj.lt, AV.lt, AV.ltL]⟩)
    · rename_i hk0
      have hk1 : ¬ j < l.length := by have hz := hlt.symm.trans hk0; simpa using hz
      clear hk0
      rw [List.drop_eq_nil_of_le (by omega)] at hP
      exact leaf h (congrArg I hP) rfl
end Go.Sas
namespace Go.Sas
open Go.Proofs
set_option maxRecDepth 100000
def eGround : List AV → Option ((AV → Prop) → Prop)
  | [.agg [.vs 5 xs, .lit (.int .i64 a), .lit (.int .i64 b), .lit (.int .i64 c)]] => some fun K => ∃ rs : List Rch, xs = rs.map rcV ∧ RoadOk rs ∧ ∀ ys zs, GrIs rs xs ys zs → K (grV (.vs 5 xs) a b c (.vs 1 ys) (.vs 5 zs))
  | _ => none
theorem eGround_ok : ∀ args pt, eGround args = some pt → ∀ (H : AHeap) (Kk : AV → AHeap → Prop), pt (fun r => Kk r H) → ACalls Tryd.prog 31 args H Kk := by
  intro args pt h H Kk hk
  unfold eGround at h
  split at h
  · cases h
    obtain ⟨rs, rfl, h1, h2⟩ := hk
    exact p31 _ _ _ _ h1 H (h2 _ _ (grIs rs))
  · cases h
def eLooksG : List AV → Option ((AV → Prop) → Prop)
  | [.agg [.vs 5 xs, .lit (.int .i64 _), .lit (.int .i64 _), .lit (.int .i64 _), .vs 1 ys, .vs 5 zs], .vs 5 ls] => some fun K => ∃ (rs : List Rch) (l : List Lk), GrIs rs xs ys zs ∧ ls = l.map lkV ∧ RoadOk rs ∧ l.length ≤ 9223372036854775807 ∧ ∀ q, q = looksE (plc rs) l → K (I q)
  | _ => none
theorem eLooksG_ok : ∀ args pt, eLooksG args = some pt → ∀ (H : AHeap) (Kk : AV → AHeap → Prop), pt (fun r => Kk r H) → ACalls Tryd.prog 32 args H Kk := by
  intro args pt h H Kk hk
  unfold eLooksG at h
  split at h
  · cases h
    obtain ⟨rs, l, ⟨rfl, rfl, rfl⟩, rfl, h1, h2, h3⟩ := hk
    exact p32 _ _ _ _ _ h1 h2 H (h3 _ rfl)
  · cases h
def eKnowG : List AV → Option ((AV → Prop) → Prop)
  | [.agg [.vs 5 xs, .lit (.int .i64 _), .lit (.int .i64 _), .lit (.int .i64 _), .vs 1 ws, .vs 5 zs], .vs 5 ys, .lit (.int .i64 p), .lit (.int .i64 t)] =>
    some fun K => ∃ (rs : List Rch) (l : List Lk), GrIs rs xs ws zs ∧ ys = l.map lkV ∧ RoadOk rs ∧ l.length ≤ 1000000 ∧ (∀ x ∈ l, LkOk (sumLg rs) x) ∧ (0 ≤ p ∧ p < sumLg rs) ∧ (0 ≤ t ∧ t ≤ 10000) ∧ ∀ u v, (u, v) = knowS (plc rs) l p.toNat t → K (.agg [I u, I v])
  | _ => none
theorem eKnowG_ok : ∀ args pt, eKnowG args = some pt → ∀ (H : AHeap) (Kk : AV → AHeap → Prop), pt (fun r => Kk r H) → ACalls Tryd.prog 17 args H Kk := by
  intro args pt h H Kk hk
  unfold eKnowG at h
  split at h
  · cases h
    obtain ⟨rs, l, ⟨rfl, rfl, rfl⟩, rfl, h1, h2, h3, h4, h5, h6⟩ := hk
    exact p17 _ _ _ _ _ _ _ h1 h2 h3 h4 h5 H (h6 _ _ rfl)
  · cases h
def lookedR (rs : List Rch) (a b c : Int) (l : List Lk) : AV :=
  if checkV rs a b c = 0 then .tup [grV (.vs 5 (rs.map rcV)) a b c (.vs 1 ((slL (plc rs)).map I)) (.vs 5 ((plc rs).map rcV)), I (looksE (plc rs) l)] else .tup [.agg [NS, I 0, I 0, I 0, NS, NS], I (checkV rs a b c)]
theorem p15 (rs : List Rch) (a b c : Int) (l : List Lk) (h1 : rs.length ≤ 9223372036854775807) (h2 : l.length ≤ 9223372036854775807) (H : AHeap) {Kk : AV → AHeap → Prop} (h : Kk (lookedR rs a b c l) H) : ACalls Tryd.prog 15 [svV (.vs 5 (rs.map rcV)) a b c, .vs 5 (l.map lkV)] H Kk := by
  refine (fun q => pureC (by rfl) (by unfold lookedR; split <;> rfl) q H h) ?_
  clear h
  intro Kk h
  have hg : checkV rs a b c = 0 → ∀ ys zs, GrIs rs (rs.map rcV) ys zs → Kk (.tup [grV (.vs 5 (rs.map rcV)) a b c (.vs 1 ys) (.vs 5 zs), I (looksE (plc rs) l)]) [] := fun h0 ys zs hi => by
    unfold lookedR at h; rw [if_pos h0] at h; rw [hi.2.1, hi.2.2]; exact h
  have hw : checkV rs a b c ≠ 0 → Kk (.tup [.agg [NS, I 0, I 0, I 0, NS, NS], I (checkV rs a b c)]) [] := fun h0 => by
    unfold lookedR at h; rw [if_neg h0] at h; exact h
  clear h
  obtain ⟨xs, hxs⟩ : ∃ xs, xs = rs.map rcV := ⟨_, rfl⟩
  rw [← hxs] at hg ⊢
  obtain ⟨ls, hls⟩ : ∃ ys, ys = l.map lkV := ⟨_, rfl⟩
  rw [← hls]
  obtain ⟨A, hA⟩ : ∃ A, A = std := ⟨_, rfl⟩
  have hne : ∀ x, A.ne x 0 = decide (x ≠ 0) := by subst hA; intro x; simp only [std, iNe]; rw [Bool.eq_iff_iff]; simp
  refine go15 rfl (SGo_run hA ⟨[], [1], (30, eCheckV) :: (31, eGround) :: (32, eLooksG) :: [], []⟩ (.cons (eCheckV_ok p30) (.cons eGround_ok (.cons eLooksG_ok .nil))) .nil 200 fun T TD hT hTD => ?_)
  cbv
  refine Exists.intro rs (And.intro hxs (And.intro h1 ?_))
  intro q hq; cbv
  rw [← hq] at hw hg
  split <;> cbv
  · rename_i hz
    have hz : q ≠ 0 := by have hz := (hne q).symm.trans hz; simpa using hz
    exact hw hz
  rename_i hz
  have hz : q = 0 := by have hz := (hne q).symm.trans hz; simpa using hz
  have ho := (checkV_ok.1 (hq.symm.trans hz)).1
  refine Exists.intro rs (And.intro hxs (And.intro ho ?_))
  intro ys zs hgr; cbv
  refine Exists.intro rs (Exists.intro l (And.intro hgr (And.intro hls (And.intro ho (And.intro h2 ?_)))))
  intro q2 hq2; cbv
  have := hg hz ys zs hgr
  rw [← hq2] at this
  refine And.intro (by subst hA; first | (simp [std, Keep, SubH, ResK]; done) | exact .inr ⟨⟨rfl, SubH.self _⟩, trivial, .inr fun _ => ⟨rfl, SubH.self _⟩⟩ | exact .inr ⟨SubH.self _, trivial, .inr fun _ => SubH.self _⟩ | exact .inr ⟨by simp [SubH], trivial, .inl rfl⟩ | exact .inr ⟨by simp [SubH], trivial, .inr fun _ => by simp [SubH]⟩) ?_
  cbv
  exact this
def eLooked : List AV → Option ((AV → Prop) → Prop)
  | [.agg [.vs 5 xs, .lit (.int .i64 a), .lit (.int .i64 b), .lit (.int .i64 c)], .vs 5 ls] => some fun K => ∃ (rs : List Rch) (l : List Lk), xs = rs.map rcV ∧ ls = l.map lkV ∧ rs.length ≤ 9223372036854775807 ∧ l.length ≤ 9223372036854775807 ∧
      (∀ e w a' b' c' y z, e = surE rs a b c l → e ≠ 0 → w.nid = true → y.nid = true → z.nid = true → K (.tup [.agg [w, I a', I b', I c', y, z], I e])) ∧
      (RoadOk rs → SgtOk a b c → LksOk (plc rs) l → ∀ ys zs, GrIs rs xs ys zs → K (.tup [grV (.vs 5 xs) a b c (.vs 1 ys) (.vs 5 zs), I 0]))
  | _ => none
theorem eLooked_ok : ∀ args pt, eLooked args = some pt → ∀ (H : AHeap) (Kk : AV → AHeap → Prop), pt (fun r => Kk r H) → ACalls Tryd.prog 15 args H Kk := by
  intro args pt h H Kk hk
  unfold eLooked at h
  split at h
  · cases h
    obtain ⟨rs, l, rfl, rfl, h1, h2, h3, h4⟩ := hk
    rename_i a b c
    refine p15 _ _ _ _ _ h1 h2 H ?_
    unfold lookedR
    split
    · rename_i h0
      by_cases h5 : looksE (plc rs) l = 0
      · rw [h5]; exact h4 (checkV_ok.1 h0).1 (checkV_ok.1 h0).2 (looksE_ok.1 h5) _ _ (grIs rs)
      · exact h3 _ _ _ _ _ _ _ (by unfold surE orElse; rw [if_pos h0]) h5 rfl rfl rfl
    · rename_i h0
      exact h3 _ _ _ _ _ _ _ (by unfold surE orElse; rw [if_neg h0]) h0 rfl rfl rfl
  · cases h
theorem p9 (rs : List Rch) (a b c : Int) (l : List Lk) (h1 : rs.length ≤ 9223372036854775807) (h2 : l.length ≤ 9223372036854775807) (H : AHeap) {Kk : AV → AHeap → Prop}
    (h : Kk (I (surE rs a b c l)) H) : ACalls Tryd.prog 9 [svV (.vs 5 (rs.map rcV)) a b c, .vs 5 (l.map lkV)] H Kk := by
  refine (fun q => pureC (by rfl) (by rfl) q H h) ?_
  clear h
  intro Kk h
  obtain ⟨xs, hxs⟩ : ∃ xs, xs = rs.map rcV := ⟨_, rfl⟩
  rw [← hxs]
  obtain ⟨ys, hys⟩ : ∃ ys, ys = l.map lkV := ⟨_, rfl⟩
  rw [← hys]
  obtain ⟨A, hA⟩ : ∃ A, A = std := ⟨_, rfl⟩
  refine go9 rfl (SGo_run hA ⟨[], [], (15, eLooked) :: [], []⟩ (.cons eLooked_ok .nil) .nil 200 fun T TD hT hTD => ?_)
  cbv
  refine Exists.intro rs (Exists.intro l (And.intro hxs (And.intro hys (And.intro h1 (And.intro h2 (And.intro ?_ ?_))))))
  · intro e w a' b' c' y z he h0 _ _ _; cbv
    rw [← he] at h; exact h
  · intro ho hs hlo ys zs hgr; cbv
    rw [surE_ok.2 ⟨ho, hs, hlo⟩] at h; exact h
theorem p5 (rs : List Rch) (a b c p t : Int) (l : List Lk) (h1 : rs.length ≤ 9223372036854775807) (h2 : l.length ≤ 9223372036854775807) (H : AHeap) {Kk : AV → AHeap → Prop}
    (h : Kk (.tup [.agg [I (knownR rs a b c l p t).1.1, I (knownR rs a b c l p t).1.2], I (knownR rs a b c l p t).2]) H) : ACalls Tryd.prog 5 [svV (.vs 5 (rs.map rcV)) a b c, .vs 5 (l.map lkV), I p, I t] H Kk := by
  refine (fun q => pureC (by rfl) (by rfl) q H h) ?_
  clear h
  intro Kk h
  obtain ⟨xs, hxs⟩ : ∃ xs, xs = rs.map rcV := ⟨_, rfl⟩
  rw [← hxs]
  obtain ⟨ys, hys⟩ : ∃ ys, ys = l.map lkV := ⟨_, rfl⟩
  rw [← hys]
  obtain ⟨A, hA⟩ : ∃ A, A = std := ⟨_, rfl⟩
  obtain ⟨E, hE⟩ : ∃ E, E = surE rs a b c l := ⟨_, rfl⟩
  have hne : ∀ x, A.ne x 0 = decide (x ≠ 0) := by subst hA; intro x; simp only [std, iNe]; rw [Bool.eq_iff_iff]; simp
  have hnb : ∀ b, A.bnot b = !b := by subst hA; intro b; rfl
  have hw : ∀ e, knownE rs a b c l p t = e → e ≠ 0 → Kk (.tup [.agg [I 0, I 0], I e]) [] := fun e h1 h2 => by
    unfold knownR at h; rw [h1, if_neg h2] at h; exact h
  have hg : knownE rs a b c l p t = 0 → ∀ u v, (u, v) = knowS (plc rs) l p.toNat t → Kk (.tup [.agg [I u, I v], I 0]) [] := fun h1 u v h2 => by
    unfold knownR at h; rw [h1, if_pos rfl, ← h2] at h; exact h
  clear h
  have hK : knownE rs a b c l p t = orElse E (if ¬(0 ≤ p ∧ p ≤ sumLg rs - 1) then 7 else if ¬(0 ≤ t ∧ t ≤ 10000) then 2 else 0) := by rw [hE]; rfl
  refine go5 rfl (SGo_run hA ⟨[], [], (15, eLooked) :: (16, eIn) :: (17, eKnowG) :: [], []⟩ (.cons eLooked_ok (.cons (eIn_ok p16) (.cons eKnowG_ok .nil))) .nil 200 fun T TD hT hTD => ?_)
  cbv
  refine Exists.intro rs (Exists.intro l (And.intro hxs (And.intro hys (And.intro h1 (And.intro h2 (And.intro ?_ ?_))))))
  · intro e w a' b' c' y z he h0 _ _ _; cbv
    split <;> cbv
    · refine hw e ?_ h0
      rw [hK, hE, ← he]; unfold orElse; rw [if_neg h0]
    · rename_i hz; exact absurd (of_decide_eq_false ((hne e).symm.trans hz)) (fun h => h h0)
  intro ho hs2 hlo sl zs hgr; cbv
  split <;> cbv
  · rename_i hz; exact absurd rfl (of_decide_eq_true ((hne 0).symm.trans hz))
  have hK : knownE rs a b c l p t = if ¬(0 ≤ p ∧ p ≤ sumLg rs - 1) then 7 else if ¬(0 ≤ t ∧ t ≤ 10000) then 2 else 0 := by rw [hK, hE, surE_ok.2 ⟨ho, hs2, hlo⟩]; unfold orElse; rw [if_pos rfl]
  clear hE
  have hsb := sumLg_bnd' ho
  have hn1 : A.sub .i64 (A.vlen zs) 1 = sumLg rs - 1 := by
    have : A.vlen zs = sumLg rs := by rw [← ho.ilen, hgr.2.2]; subst hA; simp [std]
    rw [this]; subst hA; exact iSub_id (by omega) (by omega)
  intro q1 hq1; cbv
  have hq1 : q1 = decide (0 ≤ p ∧ p ≤ sumLg rs - 1) := by rw [← hn1]; exact hq1
  split <;> cbv
  · rename_i hz
    have hz : q1 = false := by have hz := (hnb q1).symm.trans hz; simpa using hz
    rw [hq1, decide_eq_false_iff_not] at hz
    exact hw 7 (by rw [hK, if_pos hz]) (by decide)
  rename_i hz
  have hz : q1 = true := by have hz := (hnb q1).symm.trans hz; simpa using hz
  rw [hq1, decide_eq_true_eq] at hz
  intro q2 hq2; cbv
  split <;> cbv
  · rename_i hz2
    have hz2 : q2 = false := by have hz := (hnb q2).symm.trans hz2; simpa using hz
    rw [hq2, decide_eq_false_iff_not] at hz2
    exact hw 2 (by rw [hK, if_neg (fun h => h hz), if_pos hz2]) (by decide)
  rename_i hz2
  have hz2 : q2 = true := by have hz := (hnb q2).symm.trans hz2; simpa using hz
  rw [hq2, decide_eq_true_eq] at hz2
  refine Exists.intro rs (Exists.intro l (And.intro hgr (And.intro hys (And.intro ho (And.intro (by have := hlo.le; omega) (And.intro (hlo.all' ho) (And.intro (And.intro hz.1 (by omega)) (And.intro hz2 ?_)))))))) 
  intro u v huv; cbv
  exact hg (by rw [hK, if_neg (fun h => h hz), if_neg (fun h => h hz2)]) u v huv
theorem p8 (rs : List Rch) (a b c f u t : Int) (l : List Lk) (h1 : rs.length ≤ 9223372036854775807) (h2 : l.length ≤ 9223372036854775807) (H : AHeap) {Kk : AV → AHeap → Prop}
    (h : Kk (.tup [.agg [I (leastR rs a b c l f u t).1.1, I (leastR rs a b c l f u t).1.2], I (leastR rs a b c l f u t).2]) H) : ACalls Tryd.prog 8 [svV (.vs 5 (rs.map rcV)) a b c, .vs 5 (l.map lkV), I f, I u, I t] H Kk := by
  refine (fun q => pureC (by rfl) (by rfl) q H h) ?_
  clear h
  intro Kk h
  obtain ⟨xs, hxs⟩ : ∃ xs, xs = rs.map rcV := ⟨_, rfl⟩
  rw [← hxs]
  obtain ⟨ys, hys⟩ : ∃ ys, ys = l.map lkV := ⟨_, rfl⟩
  rw [← hys]
  obtain ⟨A, hA⟩ : ∃ A, A = std := ⟨_, rfl⟩
  obtain ⟨E, hE⟩ : ∃ E, E = surE rs a b c l := ⟨_, rfl⟩
  have hne : ∀ x, A.ne x 0 = decide (x ≠ 0) := by subst hA; intro x; simp only [std, iNe]; rw [Bool.eq_iff_iff]; simp
  have hnb : ∀ b, A.bnot b = !b := by subst hA; intro b; rfl
  have hw : ∀ e, leastE rs a b c l f u t = e → e ≠ 0 → Kk (.tup [.agg [I 0, I 0], I e]) [] := fun e h1 h2 => by
    unfold leastR at h; rw [h1, if_neg h2] at h; exact h
  obtain ⟨V, hV⟩ : ∃ V : Nat → Int × Int, V = fun p => knowS (plc rs) l p t := ⟨_, rfl⟩
  have hg : leastE rs a b c l f u t = 0 → ∀ x y, (x, y) = leastN V f.toNat (u - f).toNat → Kk (.tup [.agg [I x, I y], I 0]) [] := fun h1 u v h2 => by
    unfold leastR at h; rw [h1, if_pos rfl, ← hV, ← h2] at h; exact h
  clear h
  obtain ⟨T2, hT2⟩ : ∃ T2 : Int, T2 = if u < f then 11 else if ¬(0 ≤ t ∧ t ≤ 10000) then 2 else 0 := ⟨_, rfl⟩
  have hK : leastE rs a b c l f u t = orElse E (if ¬(0 ≤ f ∧ f ≤ sumLg rs - 1) ∨ ¬(0 ≤ u ∧ u ≤ sumLg rs - 1) then 7 else T2) := by rw [hE, hT2]; rfl
  refine go8 rfl (SGo_run hA ⟨[], [], (15, eLooked) :: (16, eIn) :: (17, eKnowG) :: [], []⟩ (.cons eLooked_ok (.cons (eIn_ok p16) (.cons eKnowG_ok .nil))) .nil 200 fun T TD hT hTD => ?_)
  cbv
  refine Exists.intro rs (Exists.intro l (And.intro hxs (And.intro hys (And.intro h1 (And.intro h2 (And.intro ?_ ?_))))))
  · intro e w a' b' c' y z he h0 _ _ _; cbv
    split <;> cbv
    · refine hw e ?_ h0
      rw [hK, hE, ← he]; unfold orElse; rw [if_neg h0]
    · rename_i hz; exact absurd (of_decide_eq_false ((hne e).symm.trans hz)) (fun h => h h0)
  intro ho hs2 hlo sl zs hgr; cbv
  split <;> cbv
  · rename_i hz; exact absurd rfl (of_decide_eq_true ((hne 0).symm.trans hz))
  have hK : leastE rs a b c l f u t = (if ¬(0 ≤ f ∧ f ≤ sumLg rs - 1) ∨ ¬(0 ≤ u ∧ u ≤ sumLg rs - 1) then 7 else T2) := by rw [hK, hE, surE_ok.2 ⟨ho, hs2, hlo⟩]; unfold orElse; rw [if_pos rfl]
  clear hE
  have hsb := sumLg_bnd' ho
  have hn1 : A.sub .i64 (A.vlen zs) 1 = sumLg rs - 1 := by
    have : A.vlen zs = sumLg rs := by rw [← ho.ilen, hgr.2.2]; subst hA; simp [std]
    rw [this]; subst hA; exact iSub_id (by omega) (by omega)
  have hmain : (0 ≤ f ∧ f ≤ sumLg rs - 1) → (0 ≤ u ∧ u ≤ sumLg rs - 1) → leastE rs a b c l f u t = T2 := fun h1 h2 => by rw [hK, if_neg (fun h => h.elim (fun h => h h1) (fun h => h h2))]
  intro q1 hq1; cbv
  have hq1 : q1 = decide (0 ≤ f ∧ f ≤ sumLg rs - 1) := by rw [← hn1]; exact hq1
  split <;> cbv
  · rename_i hz
    have hz : q1 = false := by have hz := (hnb q1).symm.trans hz; simpa using hz
    rw [hq1, decide_eq_false_iff_not] at hz
    exact hw 7 (by rw [hK, if_pos (.inl hz)]) (by decide)
  rename_i hz
  have hzf : q1 = true := by have hz := (hnb q1).symm.trans hz; simpa using hz
  rw [hq1, decide_eq_true_eq] at hzf
  intro q2 hq2; cbv
  have hq2 : q2 = decide (0 ≤ u ∧ u ≤ sumLg rs - 1) := by rw [← hn1]; exact hq2
  split <;> cbv
  · rename_i hz
    have hz : q2 = false := by have hz := (hnb q2).symm.trans hz; simpa using hz
    rw [hq2, decide_eq_false_iff_not] at hz
    exact hw 7 (by rw [hK, if_pos (.inr hz)]) (by decide)
  rename_i hz
  have hzu : q2 = true := by have hz := (hnb q2).symm.trans hz; simpa using hz
  rw [hq2, decide_eq_true_eq] at hzu
  have hK := (hmain hzf hzu).trans hT2
  clear hmain hT2
  have hlt0 : A.lt u f = decide (u < f) := by subst hA; rfl
  split <;> cbv
  · rename_i hz
    have hz : u < f := by have hz := hlt0.symm.trans hz; simpa using hz
    exact hw 11 (by rw [hK, if_pos hz]) (by decide)
  rename_i hz
  have hz : ¬ u < f := by have hz := hlt0.symm.trans hz; simpa using hz
  rw [if_neg hz] at hK
  intro q3 hq3; cbv
  split <;> cbv
  · rename_i hz2
    have hz2 : q3 = false := by have hz := (hnb q3).symm.trans hz2; simpa using hz
    rw [hq3, decide_eq_false_iff_not] at hz2
    exact hw 2 (by rw [hK, if_pos hz2]) (by decide)
  rename_i hz2
  have hz2 : q3 = true := by have hz := (hnb q3).symm.trans hz2; simpa using hz
  rw [hq3, decide_eq_true_eq] at hz2
  rw [if_neg (fun h => h hz2)] at hK
  have hfb : 0 ≤ f ∧ f < sumLg rs := by omega
  refine Exists.intro rs (Exists.intro l (And.intro hgr (And.intro hys (And.intro ho (And.intro (by have := hlo.le; omega) (And.intro (hlo.all' ho) (And.intro hfb (And.intro hz2 ?_))))))))
  intro x0 y0 hxy0; cbv
  have hxy0 : (x0, y0) = V f.toNat := by rw [hV]; exact hxy0
  rw [hT]
  obtain ⟨d, hd⟩ : ∃ d : Nat, d = (u - f).toNat := ⟨_, rfl⟩
  have hd2 : u = f + iLen d := by unfold iLen; omega
  rw [← hd] at hg
  refine AGo_whileE (σ := Nat × Int × Int) [1, 3, 4, 10, 11, 12, 14] (fun s => d - s.1) (fun s => s.1 ≤ d ∧ (s.2.1, s.2.2) = leastN V f.toNat s.1) (fun s => [(15, I (f + iLen (s.1 + 1)))]) (fun s => [.own 0 [.vs 5 xs, I a, I b, I c], .own 0 [I 0, I 0], .own 0 [.vs 5 xs, I a, I b, I c, .vs 1 sl, .vs 5 zs], .own 0 [I s.2.1, I s.2.2]]) (0, x0, y0) ⟨Nat.zero_le _, hxy0⟩ ⟨congrArg I (by subst hA; exact iAdd_id (by omega) (by omega)), trivial⟩ (.inl rfl) fun s hP Bk hB => ?_
  obtain ⟨k, lo, hi⟩ := s
  obtain ⟨hP1, hP2⟩ := hP
  dsimp only at hP1 hP2 ⊢
  obtain ⟨ip, hip⟩ : ∃ q, q = f + iLen (k + 1) := ⟨_, rfl⟩
  rw [← hip]
  have hle : A.le ip u = decide (k < d) := by subst hA; simp only [std, iLe]; rw [decide_eq_decide, hip, hd2]; unfold iLen; omega
  have hipb : k < d → 0 ≤ ip ∧ ip < sumLg rs := fun h => by rw [hip]; unfold iLen at hd2 ⊢; omega
  have hipt : ip.toNat = f.toNat + k + 1 := by rw [hip]; unfold iLen; omega
  have hadd : k < d → A.add .i64 ip 1 = f + iLen (k + 1 + 1) := fun h => by have := hipb h; subst hA; show iAdd .i64 ip 1 = _; rw [iAdd_id (by omega) (by omega), hip]; unfold iLen; omega
  refine SGo_run hA ⟨[], [], (17, eKnowG) :: [], []⟩ (.cons eKnowG_ok .nil) .nil 200 fun T TD hT hTD => ?_
  cbv
  split <;> cbv
  · rename_i hz3
    have hk1 : k < d := by have hz := hle.symm.trans hz3; simpa using hz
    refine Exists.intro rs (Exists.intro l (And.intro hgr (And.intro hys (And.intro ho (And.intro (by have := hlo.le; omega) (And.intro (hlo.all' ho) (And.intro (hipb hk1) (And.intro hz2 ?_))))))))
    intro x y hxy; cbv
    have hxy : (x, y) = V (f.toNat + k + 1) := by rw [hV, ← hipt]; exact hxy
    have hn : (A.min lo x, A.min hi y) = leastN V f.toNat (k + 1) := by
      simp only [leastN]; rw [← hP2, ← hxy]; subst hA; simp only [std, iMin_eq]
    exact hB (k + 1, A.min lo x, A.min hi y) _ _ (by dsimp only; omega) ⟨by dsimp only; omega, hn⟩ ⟨congrArg I (hadd hk1), trivial⟩ ⟨rfl, rfl, rfl, rfl, rfl, rfl, rfl, trivial⟩ (.inr ⟨⟨_, rfl⟩, Nat.zero_le _, by simp [ltG, AV.lt, AV.ltL, keepS, look], by simp [ltH, AObj.lt, AV.lt, AV.ltL]⟩)
  · rename_i hz3
    have hk1 : ¬ k < d := by have hz := hle.symm.trans hz3; simpa using hz
    rw [show k = d by omega] at hP2
    exact hg hK lo hi hP2
end Go.Sas
