/-
Freight: more room, more delivered, less cost: plain laws.
Probe: marks and looks of later hours say nothing.
Probe: with more looks, and narrower ones, no less is known.
Freight: Tell, and what a plan does in a winter: contracts.
TopWinter: plans made of numbers: entries of tables (lines of text G34).
TopWinter: what more looks change: plain law.
Conditions: none.
-/
import Derived.Test.YtafplipkiaolmaaHG
import Derived.Test.YtafplipkiaolmaaXR
import Derived.Test.YtafplipkiaolmaaPM
import Derived.Test.YtafplipkiaolmaaPO
import Derived.Test.YtafplipkiaolmaaHF
import Derived.Test.YtafplipkiaolmaaXW
import Derived.Test.YtafplipkiaolmaaPS
set_option linter.unusedVariables false
set_option linter.unusedSimpArgs false
namespace Go.Sas
theorem sumI_le : ∀ {l l' : List Int}, l.length = l'.length → (∀ (k : Nat) (x y : Int), l[k]? = some x → l'[k]? = some y → x ≤ y) → sumI l ≤ sumI l'
  | [], [], _, _ => Int.le_refl _
  | [], _ :: _, h, _ => by simp at h
  | _ :: _, [], h, _ => by simp at h
  | a :: l, b :: l', h, hk => by
    have h1 := hk 0 a b rfl rfl
    have h2 := sumI_le (l := l) (l' := l') (by simpa using h) fun k x y hx hy => hk (k + 1) x y (by simpa using hx) (by simpa using hy)
    simp only [sumI]; omega
/-- more room before every day -/
def RoomLe (D : Nat) (w w' : Win) : Prop := ∀ d, d ≤ D → sumR (roomW w) d ≤ sumR (roomW w') d
theorem sumR_le {R R' : Nat → Int} : ∀ d, (∀ e, e < d → R e ≤ R' e) → sumR R d ≤ sumR R' d
  | 0, _ => Int.le_refl _
  | d + 1, h => by
    have h1 := sumR_le d fun e he => h e (by omega)
    have h2 := h d (by omega)
    simp only [sumR]; omega
theorem OrdV_of {f : Frt} (hV : FrtV f) {k : Nat} {o : Ord} (ho : f.ords[k]? = some o) : (1 ≤ o.u ∧ o.u ≤ 1000000) ∧ (0 ≤ o.d ∧ o.d ≤ 200) ∧ (0 ≤ o.l ∧ o.l ≤ o.s ∧ o.s ≤ 1000000) := hV.ob o (List.mem_of_getElem? ho)
theorem FrtV.u0 {f : Frt} (hV : FrtV f) (k : Nat) : 0 ≤ unitS f.ords k := (unitS_bnd hV.ords.u k).1
def Win.Ok (w : Win) : Prop := ∀ x ∈ w.caps, 0 ≤ x ∧ x ≤ 1000000
theorem cost_get {f : Frt} {w : Win} {p : List Nat} {k : Nat} {o : Ord} {x : Dlv} (ho : f.ords[k]? = some o) (hx : (tellW f w p)[k]? = some x) :
    ((f.ords.zip (rowsF f.ords.length f.caps.length (spreadG (roomW w) p (unitS f.ords) f.caps.length))).map fun q => fineO q.1 (tellO q.1 q.2))[k]? = some (fineO o x) := by
  unfold tellW tellS at hx
  rw [List.getElem?_map] at hx ⊢
  rcases h : (f.ords.zip (rowsF f.ords.length f.caps.length (spreadG (roomW w) p (unitS f.ords) f.caps.length)))[k]? with _ | q
  · rw [h] at hx; simp at hx
  · rw [h] at hx
    obtain ⟨q1, q2⟩ := q
    obtain ⟨h1, _⟩ := List.getElem?_zip_eq_some.1 h
    rw [ho] at h1; cases h1
    simp at hx ⊢; rw [hx]
/-- more room, no less on time; no more lost -/
theorem tell_mono {f : Frt} {w w' : Win} {p : List Nat} (hV : FrtV f) (hw : w.Ok) (hw' : w'.Ok) (hp : p.Nodup) (hR : RoomLe f.caps.length w w') {k : Nat} {o : Ord} (ho : f.ords[k]? = some o) :
    ∃ x y, (tellW f w p)[k]? = some x ∧ (tellW f w' p)[k]? = some y ∧ 0 ≤ x.on ∧ x.on ≤ y.on ∧ y.on ≤ o.u ∧ fineO o y ≤ fineO o x := by
  obtain ⟨x, h1, h2, h3, h4⟩ := tellW_get (f := f) hV.u0 (roomW_nonneg hw) hp ho
  obtain ⟨y, g1, g2, g3, g4⟩ := tellW_get (f := f) hV.u0 (roomW_nonneg hw') hp ho
  have m1 := cumP_mono hV.u0 (hR (min (o.d.toNat + 1) f.caps.length) (by omega)) k (p := p) (U := 0)
  have m2 := cumP_mono hV.u0 (hR f.caps.length (by omega)) k (p := p) (U := 0)
  have m3 := cumP_bnd hV.u0 k (p := p) (U := 0) (S := sumR (roomW w) (min (o.d.toNat + 1) f.caps.length))
  have m4 := cumP_bnd hV.u0 k (p := p) (U := 0) (S := sumR (roomW w') (min (o.d.toNat + 1) f.caps.length))
  rw [unitS_get ho] at m3 m4
  refine ⟨x, y, h1, g1, by omega, by omega, by omega, ?_⟩
  obtain ⟨_, _, hl0, hls, _⟩ := OrdV_of hV ho
  unfold fineO
  rw [h3, h4, g3, g4, h2, g2]
  obtain ⟨a, ha⟩ : ∃ a, a = cumP (unitS f.ords) (sumR (roomW w) (min (o.d.toNat + 1) f.caps.length)) p 0 k := ⟨_, rfl⟩
  obtain ⟨a', ha'⟩ : ∃ a, a = cumP (unitS f.ords) (sumR (roomW w') (min (o.d.toNat + 1) f.caps.length)) p 0 k := ⟨_, rfl⟩
  obtain ⟨b, hb⟩ : ∃ a, a = cumP (unitS f.ords) (sumR (roomW w) f.caps.length) p 0 k := ⟨_, rfl⟩
  obtain ⟨b', hb'⟩ : ∃ a, a = cumP (unitS f.ords) (sumR (roomW w') f.caps.length) p 0 k := ⟨_, rfl⟩
  rw [← ha, ← hb, ← ha', ← hb']
  rw [← ha, ← ha'] at m1
  rw [← hb, ← hb'] at m2
  have e1 : (a' - a) * o.l ≥ 0 := Int.mul_nonneg (by omega) hl0
  have e2 : (b' - b) * (o.s - o.l) ≥ 0 := Int.mul_nonneg (by omega) (by omega)
  have e3 : ((b - a) * o.l + (o.u - b) * o.s) - ((b' - a') * o.l + (o.u - b') * o.s) = (a' - a) * o.l + (b' - b) * (o.s - o.l) := by
    simp only [Int.sub_mul, Int.mul_sub]; omega
  omega
theorem cost_mono {f : Frt} {w w' : Win} {p : List Nat} (hV : FrtV f) (hw : w.Ok) (hw' : w'.Ok) (hp : p.Nodup) (hR : RoomLe f.caps.length w w') : costSF f.ords f.caps.length w' p ≤ costSF f.ords f.caps.length w p := by
  unfold costSF penS
  refine sumI_le (by simp [rowsF]) fun k a b ha hb => ?_
  have hk : k < f.ords.length := by
    have := (List.getElem?_eq_some_iff.1 ha).1
    simp [rowsF] at this; omega
  obtain ⟨o, ho⟩ : ∃ o, f.ords[k]? = some o := ⟨_, List.getElem?_eq_getElem hk⟩
  obtain ⟨x, y, h1, h2, _, _, _, h3⟩ := tell_mono hV hw hw' hp hR ho
  rw [cost_get ho h1] at hb
  rw [cost_get ho h2] at ha
  cases ha; cases hb; exact h3
theorem roomLe_of {D : Nat} {w w' : Win} (hfi : w'.fi ≤ w.fi) (hla : w.la ≤ w'.la) (hc : ∀ (d : Nat) (x y : Int), w.caps[d]? = some x → w'.caps[d]? = some y → x ≤ y) (hl : w.caps.length = w'.caps.length) (hw : w'.Ok) : RoomLe D w w' := by
  intro d _
  refine sumR_le d fun e _ => ?_
  unfold roomW
  have h0 : 0 ≤ w'.caps.getD e 0 := by
    rw [List.getD_eq_getElem?_getD]
    rcases h : w'.caps[e]? with _ | y
    · simp
    · exact (hw y (List.mem_of_getElem? h)).1
  split
  · rw [if_pos (by omega)]
    rw [List.getD_eq_getElem?_getD, List.getD_eq_getElem?_getD]
    by_cases he : e < w.caps.length
    · rw [List.getElem?_eq_getElem he, List.getElem?_eq_getElem (by omega)]
      exact hc e _ _ (List.getElem?_eq_getElem he) (List.getElem?_eq_getElem (by omega))
    · rw [List.getElem?_eq_none (by omega), List.getElem?_eq_none (by omega)]; exact Int.le_refl _
  · split <;> omega
theorem FrtV.worst {f : Frt} (hV : FrtV f) : (worstW f).Ok := hV.lo
theorem FrtV.best {f : Frt} (hV : FrtV f) : (bestW f).Ok := hV.hi
end Go.Sas
namespace Go.Sas
theorem why_zero {R : List Rch} {a b c : Int} {l : List Lk} {m : List Mrk} {need h : Int} {p : Nat} (hw : whyS R a b c l m need h p = 0) : need ≤ (knowS R l p h).1 ∧ verdS m h (iLen R.length) p = 2 ∧ staleS R a b c l h p = false := by
  unfold whyS at hw
  split at hw
  · omega
  · split at hw
    · omega
    · split at hw
      · omega
      · rename_i h1 h2 h3
        exact ⟨by omega, by simpa using h2, by simpa using h3⟩
end Go.Sas
namespace Go.Sas
/-- x says no less than y -/
def Nar (y x : Lk) : Prop := x.k = y.k ∧ x.p = y.p ∧ x.h = y.h ∧ y.lo ≤ x.lo ∧ x.hi ≤ y.hi
def NarL (l l' : List Lk) : Prop := ∀ y ∈ l, ∃ x ∈ l', Nar y x
theorem Nar.rfl' {x : Lk} : Nar x x := ⟨rfl, rfl, rfl, Int.le_refl _, Int.le_refl _⟩
theorem know_more {R : List Rch} {p : Nat} {h : Int} {l l' : List Lk} (hn : NarL l l') : (knowS R l p h).1 ≤ (knowS R l' p h).1 ∧ (knowS R l' p h).2 ≤ (knowS R l p h).2 := by
  obtain ⟨_, _, _, a4, a5⟩ := knowG_fold (R := R) (p := p) (h := h) (l := l) (s := (0, 3000)) (r := knowS R l p h) rfl
  obtain ⟨b1, b2, b3, _, _⟩ := knowG_fold (R := R) (p := p) (h := h) (l := l') (s := (0, 3000)) (r := knowS R l' p h) rfl
  dsimp only at a4 a5 b1 b2
  constructor
  · rcases a4 with a4 | ⟨y, hy, a4⟩
    · omega
    · obtain ⟨x, hx, _, e2, e3, e4, _⟩ := hn y hy
      have := (b3 x hx).1
      rw [e2, e3] at this
      omega
  · rcases a5 with a5 | ⟨y, hy, a5⟩
    · omega
    · obtain ⟨x, hx, _, e2, e3, _, e5⟩ := hn y hy
      have := (b3 x hx).2
      rw [e2, e3] at this
      omega
theorem stale_more {R : List Rch} {a b c h : Int} {p : Nat} {l l' : List Lk} (hn : NarL l l') (hs : staleS R a b c l h p = false) : staleS R a b c l' h p = false := by
  unfold staleS at hs ⊢
  simp only [Bool.not_eq_false'] at hs ⊢
  rw [List.any_eq_true] at hs ⊢
  obtain ⟨y, hy, h1⟩ := hs
  obtain ⟨x, hx, e1, e2, e3, _⟩ := hn y hy
  refine ⟨x, hx, ?_⟩
  unfold seenS at h1 ⊢
  rw [e1, e2, e3]; exact h1
theorem NarL.past {l l' : List Lk} {h : Int} (hn : NarL l l') : NarL (pastL l h) (pastL l' h) := fun y hy => by
  have h1 := List.mem_filter.1 hy
  obtain ⟨x, hx, e⟩ := hn y h1.1
  refine ⟨x, List.mem_filter.2 ⟨hx, ?_⟩, e⟩
  have h2 := h1.2
  simp only [decide_eq_true_eq] at h2 ⊢
  rw [e.2.2.1]; exact h2
theorem why_more {R : List Rch} {a b c : Int} {l l' : List Lk} {m : List Mrk} {need h : Int} {p : Nat} (hn : NarL l l') (hw : whyS R a b c l m need h p = 0) : whyS R a b c l' m need h p = 0 := by
  obtain ⟨h1, h2, h3⟩ := why_zero hw
  have h4 := (know_more (R := R) (p := p) (h := h) hn).1
  have h5 := stale_more hn h3
  unfold whyS
  rw [if_neg (by omega), if_neg (by simpa using h2), if_neg (by simp [h5])]
end Go.Sas
namespace Go.Sas
open Go.Proofs
set_option maxRecDepth 100000
def eCheckWay : List AV → Option ((AV → Prop) → Prop)
  | [.agg [.lit (.int .i64 a), .lit (.int .i64 b), .lit (.int .i64 c), .lit (.int .i64 d), .vs 2 xs, .vs 4 ys], .agg [.lit (.int .i64 u), .lit (.int .i64 v), .vs 1 zs], .vs 1 rs] =>
    some fun K => ∃ (cs : List (Int × Int)) (os : List Ord) (ws : List Int) (way : List (List Int)), xs = cs.map sp ∧ ys = os.map orV ∧ zs = ws.map I ∧ (rs = way.map fun r => .vs 1 (r.map I)) ∧ cs.length ≤ 9223372036854775807 ∧ os.length ≤ 9223372036854775807 ∧ ws.length ≤ 9223372036854775807 ∧ way.length ≤ 9223372036854775807 ∧ ∀ q, q = checkWayS ⟨(a, b), (c, d), cs, os⟩ ⟨u, v, ws⟩ way → K (I q)
  | _ => none
theorem eCheckWay_ok : ∀ args pt, eCheckWay args = some pt → ∀ (H : AHeap) (Kk : AV → AHeap → Prop), pt (fun r => Kk r H) → ACalls Try.prog 28 args H Kk := by
  intro args pt h H Kk hk
  unfold eCheckWay at h
  split at h
  · cases h
    obtain ⟨cs, os, ws, way, rfl, rfl, rfl, rfl, h1, h2, h3, h4, h5⟩ := hk
    exact p28 _ _ _ _ _ _ _ _ _ _ h1 h2 h3 h4 H (h5 _ rfl)
  · cases h
theorem checkWayS_ok {f : Frt} {w : Win} {way : List (List Int)} (h : checkWayS f w way = 0) : checkWinterS f w = 0 ∧ RowsV f.ords.length f.caps.length way := by
  unfold checkWayS at h
  split at h
  · rename_i hz; exact absurd h hz
  rename_i hz
  split at h
  · omega
  rename_i h1
  split at h
  · omega
  rename_i h2
  simp only [not_or] at h1
  refine ⟨by simpa using hz, by omega, fun r hr => ⟨?_, fun x hx => ?_⟩⟩
  · have := h1.2
    rw [Bool.not_eq_true, List.any_eq_false] at this
    simpa using this r hr
  · rw [Bool.not_eq_false, List.all_eq_true] at h2
    have h3 := h2 r hr
    rw [List.all_eq_true] at h3
    exact okE_bnd (h3 x hx)
def tellL (f : Frt) (w : Win) (way : List (List Int)) : List Dlv := if checkWayS f w way ≠ 0 then [] else tellS f.ords way
def tellP (f : Frt) (w : Win) (way : List (List Int)) : Int := if checkWayS f w way ≠ 0 then 0 else penS f.ords way
theorem p16 (a b c d u v : Int) (cs : List (Int × Int)) (os : List Ord) (ws : List Int) (way : List (List Int)) (hc : cs.length ≤ 9223372036854775807) (ho : os.length ≤ 9223372036854775807) (hw : ws.length ≤ 9223372036854775807) (hy : way.length ≤ 9223372036854775807) (H : AHeap) {Kk : AV → AHeap → Prop}
    (h : Kk (.tup [.vs 4 ((tellL ⟨(a, b), (c, d), cs, os⟩ ⟨u, v, ws⟩ way).map dlV), I (tellP ⟨(a, b), (c, d), cs, os⟩ ⟨u, v, ws⟩ way), I (checkWayS ⟨(a, b), (c, d), cs, os⟩ ⟨u, v, ws⟩ way)]) H) :
    ACalls Try.prog 16 [frV a b c d (.vs 2 (cs.map sp)) (.vs 4 (os.map orV)), winV u v (.vs 1 (ws.map I)), .vs 1 (way.map fun r => .vs 1 (r.map I))] H Kk := by
  refine (fun q => pureF (by rfl) (by rfl) q H h) ?_
  clear h
  intro Kk h
  obtain ⟨xs, hxs⟩ : ∃ xs, xs = cs.map sp := ⟨_, rfl⟩
  obtain ⟨ys, hys⟩ : ∃ ys, ys = os.map orV := ⟨_, rfl⟩
  obtain ⟨zs, hzs⟩ : ∃ ys, ys = ws.map I := ⟨_, rfl⟩
  obtain ⟨rs, hrs⟩ : ∃ rs : List AV, rs = way.map fun r => .vs 1 (r.map I) := ⟨_, rfl⟩
  rw [← hxs, ← hys, ← hzs, ← hrs]
  obtain ⟨W, hW⟩ : ∃ W, W = checkWayS ⟨(a, b), (c, d), cs, os⟩ ⟨u, v, ws⟩ way := ⟨_, rfl⟩
  unfold tellL tellP at h
  rw [← hW] at h
  obtain ⟨A, hA⟩ : ∃ A, A = std := ⟨_, rfl⟩
  obtain ⟨F, hF⟩ : ∃ F, F = Frees 0 Kk := ⟨_, rfl⟩
  rw [← hF]
  have hne : ∀ x, A.ne x 0 = decide (x ≠ 0) := by subst hA; intro x; simp only [std, iNe]; rw [Bool.eq_iff_iff]; simp
  refine go16 rfl (SGo_run hA ⟨[], [], (28, eCheckWay) :: (29, eTellF) :: [], []⟩ (.cons eCheckWay_ok (.cons eTellF_ok .nil)) .nil 200 fun T TD hT hTD => ?_)
  cbv
  refine Exists.intro cs (Exists.intro os (Exists.intro ws (Exists.intro way (And.intro hxs (And.intro hys (And.intro hzs (And.intro hrs (And.intro hc (And.intro ho (And.intro hw (And.intro hy ?_)))))))))))
  intro q hq; cbv
  rw [← hq] at hW
  split <;> cbv
  · rename_i hz
    have hz : q ≠ 0 := by have hz := (hne q).symm.trans hz; simpa using hz
    rw [if_pos (by rw [hW]; exact hz), if_pos (by rw [hW]; exact hz), hW] at h
    rw [hF]
    exact Frees.wk (r' := .tup [.vs 4 [], I 0, I q]) (Wk.tup ⟨Wk.nil, Wk.rfl, Wk.rfl, trivial⟩) (Frees.drop0 h rfl)
  rename_i hz
  have hz : q = 0 := by have hz := (hne q).symm.trans hz; simpa using hz
  rw [hz] at hq hW
  obtain ⟨hcw, hrv⟩ := checkWayS_ok hq.symm
  obtain ⟨hV, hwv⟩ := checkWinterS_ok hcw
  rw [if_neg (by simp [hW]), if_neg (by simp [hW]), hW] at h
  refine Exists.intro cs (Exists.intro os (Exists.intro way (And.intro hxs (And.intro hys (And.intro hrs (And.intro hV.c2 (And.intro hV.o2 (And.intro hV.ords (And.intro hrv ?_)))))))))
  intro ds pn hds hpn; cbv
  rw [hF, hds, hpn]
  exact Frees.drop0 h rfl
def eSpreadR : List AV → Option ((AV → Prop) → Prop)
  | [.agg [.lit (.int .i64 a), .lit (.int .i64 b), .lit (.int .i64 c), .lit (.int .i64 d), .vs 2 xs, .vs 4 ys], .agg [.lit (.int .i64 u), .lit (.int .i64 v), .vs 1 zs], .vs 1 ps] =>
    some fun K => ∃ (cs : List (Int × Int)) (os : List Ord) (ws plan : List Int), xs = cs.map sp ∧ ys = os.map orV ∧ zs = ws.map I ∧ ps = plan.map I ∧ cs.length ≤ 9223372036854775807 ∧ os.length ≤ 9223372036854775807 ∧ ws.length ≤ 9223372036854775807 ∧ plan.length ≤ 9223372036854775807 ∧
      ∀ rs q, (rs = (spreadR ⟨(a, b), (c, d), cs, os⟩ ⟨u, v, ws⟩ plan).map fun r => .vs 1 (r.map I)) → q = spreadC ⟨(a, b), (c, d), cs, os⟩ ⟨u, v, ws⟩ plan → K (.tup [.vs 1 rs, I q])
  | _ => none
theorem eSpreadR_ok : ∀ args pt, eSpreadR args = some pt → ∀ (H : AHeap) (Kk : AV → AHeap → Prop), pt (fun r => Kk r H) → ACalls Try.prog 14 args H Kk := by
  intro args pt h H Kk hk
  unfold eSpreadR at h
  split at h
  · cases h
    obtain ⟨cs, os, ws, plan, rfl, rfl, rfl, rfl, h1, h2, h3, h4, h5⟩ := hk
    exact p14 _ _ _ _ _ _ _ _ _ _ h1 h2 h3 h4 H (h5 _ _ rfl rfl)
  · cases h
def eTell : List AV → Option ((AV → Prop) → Prop)
  | [.agg [.lit (.int .i64 a), .lit (.int .i64 b), .lit (.int .i64 c), .lit (.int .i64 d), .vs 2 xs, .vs 4 ys], .agg [.lit (.int .i64 u), .lit (.int .i64 v), .vs 1 zs], .vs 1 rs] =>
    some fun K => ∃ (cs : List (Int × Int)) (os : List Ord) (ws : List Int) (way : List (List Int)), xs = cs.map sp ∧ ys = os.map orV ∧ zs = ws.map I ∧ (rs = way.map fun r => .vs 1 (r.map I)) ∧ cs.length ≤ 9223372036854775807 ∧ os.length ≤ 9223372036854775807 ∧ ws.length ≤ 9223372036854775807 ∧ way.length ≤ 9223372036854775807 ∧
      ∀ ds pn q, ds = (tellL ⟨(a, b), (c, d), cs, os⟩ ⟨u, v, ws⟩ way).map dlV → pn = tellP ⟨(a, b), (c, d), cs, os⟩ ⟨u, v, ws⟩ way → q = checkWayS ⟨(a, b), (c, d), cs, os⟩ ⟨u, v, ws⟩ way → K (.tup [.vs 4 ds, I pn, I q])
  | _ => none
theorem eTell_ok : ∀ args pt, eTell args = some pt → ∀ (H : AHeap) (Kk : AV → AHeap → Prop), pt (fun r => Kk r H) → ACalls Try.prog 16 args H Kk := by
  intro args pt h H Kk hk
  unfold eTell at h
  split at h
  · cases h
    obtain ⟨cs, os, ws, way, rfl, rfl, rfl, rfl, h1, h2, h3, h4, h5⟩ := hk
    exact p16 _ _ _ _ _ _ _ _ _ _ h1 h2 h3 h4 H (h5 _ _ _ rfl rfl rfl)
  · cases h
theorem winS_of {f : Frt} {w : Win} (hf : checkF f = 0) (h : WinV f w) : checkWinterS f w = 0 := by
  unfold checkWinterS
  rw [if_neg (by simp [hf]), if_neg (by simp [h.len]), if_pos]
  simp only [winB, inB, Bool.and_eq_true, decide_eq_true_eq, List.all_eq_true]
  refine ⟨⟨h.fi, h.la⟩, fun x hx => ?_⟩
  obtain ⟨i, hi⟩ := List.mem_iff_getElem?.1 hx
  obtain ⟨h1, h2⟩ := List.getElem?_zip_eq_some.1 hi
  exact h.cap i x.1 x.2 h1 h2
end Go.Sas
namespace Go.Sas
open Go.Proofs
set_option maxRecDepth 100000
theorem perm_plan {n : Nat} {p : List Nat} (h : p.Perm (List.range n)) : PlanP n (p.map iLen) ∧ planN (p.map iLen) = p ∧ p.map natI = (p.map iLen).map I := by
  refine ⟨⟨by simp [h.length_eq], fun k hk => ?_, ?_⟩, ?_, ?_⟩
  · obtain ⟨x, hx, rfl⟩ := List.mem_map.1 hk
    have := List.mem_range.1 (h.mem_iff.1 hx)
    unfold iLen; omega
  · have hnd : p.Nodup := h.nodup_iff.2 List.nodup_range
    clear h
    induction p with
    | nil => simp
    | cons x l ih =>
      obtain ⟨hx, hnd⟩ := List.nodup_cons.1 hnd
      rw [List.map_cons, List.nodup_cons]
      refine ⟨fun hm => ?_, ih hnd⟩
      obtain ⟨y, hy, he⟩ := List.mem_map.1 hm
      have : y = x := by unfold iLen at he; omega
      exact hx (this ▸ hy)
  · unfold planN; rw [List.map_map]; conv => rhs; rw [← List.map_id p]
    apply List.map_congr_left; intro x _; simp [iLen]
  · rw [List.map_map]; rfl
def ePlanOf : List AV → AHeap → Option PT
  | [.mp id 0 0, .lit (.int .i64 m)], H => match H[id]? with
    | some (.own 0 [.lit (.int .u64 _)]) => some fun K => ∃ n : Nat, (m = iLen n ∧ n ≤ 1000) ∧ ∀ w' r, PlanQ n r → K r (H.set id (.own 0 [U w']))
    | _ => none
  | _, _ => none
theorem ePlanOf_ok : ∀ args H pt, ePlanOf args H = some pt → ∀ (Kk : AV → AHeap → Prop), pt Kk → ACalls Try.prog 12 args H Kk := by
  intro args H pt h Kk hk
  unfold ePlanOf at h
  split at h
  · split at h
    · rename_i hX
      cases h
      obtain ⟨n, ⟨rfl, h1⟩, h2⟩ := hk
      exact d12 n h1 _ _ _ hX Kk h2
    · cases h
  · cases h
end Go.Sas
namespace Go.Sas
open Go.Proofs
set_option maxRecDepth 100000
theorem cloS_nil {V : Nat → Int} {n : Nat} : (cloS V n).length = 0 ↔ ∀ p, p < n → V p = 0 := by
  rw [List.length_eq_zero_iff]
  unfold cloS
  rw [List.filter_eq_nil_iff]
  constructor
  · intro h p hp
    obtain ⟨x, hx, h1, h2⟩ := runsN_cov (V := V) hp
    have h3 := (runsN_mem hx).2.2 p h1 h2
    have h4 := h x hx
    simp only [decide_eq_true_eq, Classical.not_not] at h4
    rw [h3, h4]
  · intro h x hx
    obtain ⟨h1, h2, h3⟩ := runsN_mem hx
    have h4 := h3 x.1 (Nat.le_refl _) h1
    have h5 := h x.1 (by omega)
    simp only [decide_eq_true_eq, Classical.not_not]
    rw [← h4, h5]
theorem open_more {rs : List Rch} {a b c : Int} {l l' : List Lk} {m : List Mrk} {need : Int} {t : Nat} (h0 : askE rs a b c l m need (iLen t) = 0) (h1 : askE rs a b c l' m need (iLen t) = 0) (hn : NarL l l') (ho : openS rs a b c l m need t = true) : openS rs a b c l' m need t = true := by
  unfold openS closeL at ho ⊢
  rw [if_pos h0, decide_eq_true_eq, cloS_nil] at ho
  rw [if_pos h1, decide_eq_true_eq, cloS_nil]
  exact fun p hp => why_more hn.past (ho p hp)
theorem spread_zero {u : Nat → Int} (hu : ∀ k, 0 ≤ u k) {R : Nat → Int} (hR : ∀ d, 0 ≤ R d) {p : List Nat} (hp : p.Nodup) {D k d : Nat} (hd : d < D) (h0 : R d = 0) : spreadG R p u D k d = 0 := by
  have h1 := sum_upto hu hR hp (D := D) k d (by omega)
  have h2 := sum_upto hu hR hp (D := D) k (d + 1) (by omega)
  rw [List.range_succ, List.map_append, sumI_append, h1] at h2
  simp only [sumR, h0, Int.add_zero, List.map_cons, List.map_nil, sumI] at h2
  omega
/-- a freight of which so many units may go on each day -/
def frtU (D : Nat) (u : Int) (os : List Ord) : Frt := ⟨(0, iLen D - 1), (0, iLen D - 1), List.replicate D (0, u), os⟩
def winU (D : Nat) (u : Int) (A : List Bool) : Win := ⟨0, iLen D - 1, A.map (capB u)⟩
theorem frtU_ok {D : Nat} {u a b c d : Int} {cs : List (Int × Int)} {os : List Ord} (h : checkF ⟨(a, b), (c, d), cs, os⟩ = 0) (hD : cs.length = D) (hu : 0 ≤ u ∧ u ≤ 9) : checkF (frtU D u os) = 0 := by
  have hV := checkF_ok h
  have h1 := hV.c1
  have h2 := hV.c2
  dsimp only at h1 h2
  unfold checkF at h
  dsimp only at h
  rw [if_neg (by omega), if_neg (by omega)] at h
  obtain ⟨_, h⟩ := orElse_ok h
  obtain ⟨_, h⟩ := orElse_ok h
  obtain ⟨_, h⟩ := orElse_ok h
  unfold checkF frtU
  dsimp only
  rw [List.length_replicate, if_neg (by omega), if_neg (by omega), firstE_allF (fun x hx => by rw [List.mem_replicate] at hx; rw [hx.2]; exact faultF_ok' (by dsimp only; omega)), faultF_ok' (by unfold iLen; omega), h]
  rfl
theorem winU_ok {D : Nat} {u : Int} {A : List Bool} {os : List Ord} (hA : A.length = D) (hD : 1 ≤ D) (hu : 0 ≤ u) : WinV (frtU D u os) (winU D u A) := by
  refine ⟨by simp only [frtU, winU]; unfold iLen; omega, by simp only [frtU, winU]; unfold iLen; omega, by simp [frtU, winU, hA], fun i x c hx hc => ?_⟩
  simp only [winU, List.getElem?_map, Option.map_eq_some_iff] at hx
  obtain ⟨b, _, rfl⟩ := hx
  simp only [frtU] at hc
  have := List.mem_of_getElem? hc
  rw [List.mem_replicate] at this
  rw [this.2]
  unfold capB; split <;> dsimp only <;> omega
theorem winU_le {D : Nat} {u : Int} {A B : List Bool} (hA : A.length = B.length) (hu : 0 ≤ u ∧ u ≤ 9) (h : ∀ (i : Nat), A[i]? = some true → B[i]? = some true) : RoomLe D (winU D u A) (winU D u B) := by
  refine roomLe_of (Int.le_refl _) (Int.le_refl _) (fun d x y hx hy => ?_) (by simp [winU, hA]) (fun x hx => ?_)
  · simp only [winU, List.getElem?_map, Option.map_eq_some_iff] at hx hy
    obtain ⟨p, hp, rfl⟩ := hx
    obtain ⟨q, hq, rfl⟩ := hy
    cases p
    · rw [show capB u false = 0 from rfl]; unfold capB; split <;> omega
    · have := h d hp
      rw [hq] at this
      cases this
      exact Int.le_refl _
  · simp only [winU, List.mem_map] at hx
    obtain ⟨b, _, rfl⟩ := hx
    unfold capB; split <;> omega
theorem room_shut {D d : Nat} {u : Int} {A : List Bool} (h : A[d]? = some false) : roomW (winU D u A) d = 0 := by
  unfold roomW winU
  dsimp only
  split
  · rw [List.getD_eq_getElem?_getD, List.getElem?_map, h]; rfl
  · rfl
theorem spread_all {f : Frt} {w : Win} {p : List Int} (hf : checkF f = 0) (hw : WinV f w) (hP : PlanP f.ords.length p) {way : List (List Int)} (hway : way = rowsF f.ords.length f.caps.length (spreadG (roomW w) (planN p) (unitS f.ords) f.caps.length)) :
    spreadC f w p = 0 ∧ spreadR f w p = way ∧ checkWayS f w way = 0 ∧ tellP f w way = costSF f.ords f.caps.length w (planN p) := by
  have hV := checkF_ok hf
  have hcw := winS_of hf hw
  have e0 : spreadC f w p = 0 := by unfold spreadC; rw [if_neg (by simp [hcw])]; exact if_pos hP
  have e1 : spreadR f w p = way := by unfold spreadR; rw [if_neg (by simp [e0]), hway]
  have e2 : checkWayS f w way = 0 := by rw [hway]; exact way_ok hV hw hcw hP.nodup hP.nat.2
  refine ⟨e0, e1, e2, ?_⟩
  unfold tellP; rw [if_neg (by simp [e2]), hway]; rfl
end Go.Sas
