/-
Probe: the reference's reach, far, rise.
Probe: the reference's known.
Probe: the reference's Known and Least.
Conditions: none.
-/
import Derived.Test.YtafplipkiaolmaaP9
import Derived.Test.YtafplipkiaolmaaPM
set_option linter.unusedVariables false
set_option linter.unusedSimpArgs false
namespace Go.Sas
open Go.Proofs
set_option maxRecDepth 100000
theorem plc_get_cons {r : Rch} {rs : List Rch} (hr : 0 ≤ r.lg) {s : Int} (hs : 0 ≤ s) : (plc (r :: rs)).getD s.toNat rc0 = if s < r.lg then r else (plc rs).getD (s - r.lg).toNat rc0 := by
  rw [plc_cons, List.getD_eq_getElem?_getD, List.getD_eq_getElem?_getD]
  split
  · rw [List.getElem?_append_left (by rw [List.length_replicate]; omega), List.getElem?_replicate, if_pos (by omega)]; rfl
  · rw [List.getElem?_append_right (by rw [List.length_replicate]; omega), List.length_replicate]; congr 2; omega
theorem sumLg_drop {rs : List Rch} {j : Nat} {r : Rch} (h : rs[j]? = some r) : sumLg (rs.drop j) = r.lg + sumLg (rs.drop (j + 1)) := by
  rw [drop_cons h]; rfl
theorem slp_bnd' {R : List Rch} (h : ∀ r ∈ R, RchOk r) {p : Nat} (hp : p ≤ 1000) : 0 ≤ slp R p ∧ slp R p ≤ 3000000 := by have := slp_bnd h p; omega
theorem RoadOk.ilen {rs : List Rch} (h : RoadOk rs) : iLen (Go.Sas.plc rs).length = sumLg rs := h.len
theorem p51 (rs : List Rch) (a b c p : Int) (hl : rs.length ≤ 1000000) (ho : ∀ r ∈ rs, RchOk r) (h0 : 0 ≤ p) (h1 : p < sumLg rs) (H : AHeap) {Kk : AV → AHeap → Prop} (h : Kk (rcV ((plc rs).getD p.toNat rc0)) H) : ACalls Try.prog 51 [svV (.vs 5 (rs.map rcV)) a b c, I p] H Kk := by
  refine (fun q => pureC (by rfl) (by rfl) q H h) ?_
  clear h
  intro Kk h
  obtain ⟨xs, hxs⟩ : ∃ xs, xs = rs.map rcV := ⟨_, rfl⟩
  rw [← hxs]
  obtain ⟨A, hA⟩ : ∃ A, A = std := ⟨_, rfl⟩
  obtain ⟨W, hW⟩ : ∃ W, W = (plc rs).getD p.toNat rc0 := ⟨_, rfl⟩
  rw [← hW] at h
  refine go51 rfl (SGo_run hA ⟨[], [], [], []⟩ .nil .nil 200 fun T TD hT hTD => ?_)
  cbv
  rw [hT]
  refine AGo_upE [2, 4] rs.length (fun j (s : Int) => 0 ≤ s ∧ s < sumLg (rs.drop j) ∧ W = (plc (rs.drop j)).getD s.toNat rc0 ∧ s ≤ p) (fun j s i => [(1, I s), (5, I i)]) (fun _ _ => [.own 0 [.vs 5 xs, I a, I b, I c], .own 0 [I 0, I 0, I 0, I 0, I 0]]) p ⟨h0, h1, hW, Int.le_refl _⟩ ⟨rfl, rfl, trivial⟩ (.inl rfl) fun j s i hi hj hP Bk hB => ?_
  obtain ⟨q1, q2, q3, q4⟩ := hP
  have hlt : A.lt i (A.vlen xs) = decide (j < rs.length) := by subst hA; exact lt_len (by simp [hxs]) hi
  have hadd : ∀ N, j < N → N ≤ 9223372036854775807 → A.add .i64 i 1 = iLen (j + 1) := fun N hj hN => by subst hA; exact add_one hi hj hN
  have hpb : sumLg rs ≤ 1000000000 := by have := sumLg_bnd (rs := rs) ho; omega
  refine SGo_run hA ⟨[], [], [], []⟩ .nil .nil 200 fun T TD hT hTD => ?_
  cbv
  split <;> cbv
  · rename_i hk0
    have hk1 : j < rs.length := by have hz := hlt.symm.trans hk0; simpa using hz
    clear hk0
    obtain ⟨⟨lg, sl, th, gr, ev⟩, hx⟩ : ∃ x, rs[j]? = some x := ⟨_, List.getElem?_eq_getElem hk1⟩
    have hix : A.ix 5 5 xs i [I lg, I sl, I th, I gr, I ev] := by subst hA; exact ix_map hxs hi hx rfl
    have hb := (ho _ (List.mem_of_getElem? hx)).1
    rw [sumLg_drop hx] at q2
    rw [drop_cons hx, plc_get_cons (by dsimp only at hb ⊢; omega) q1] at q3
    dsimp only at hb q2 q3
    refine Exists.intro _ (And.intro hix ?_); cbv
    have hlt2 : A.lt s lg = decide (s < lg) := by subst hA; rfl
    split <;> cbv
    · rename_i hz
      have hz : s < lg := by have hz := hlt2.symm.trans hz; simpa using hz
      refine Exists.intro _ (And.intro hix ?_); cbv
      rw [q3, if_pos hz] at h
      exact leaf h rfl rfl
    · rename_i hz
      have hz : ¬ s < lg := by have hz := hlt2.symm.trans hz; simpa using hz
      refine Exists.intro _ (And.intro hix ?_); cbv
      have hs : A.sub .i64 s lg = s - lg := by subst hA; exact iSub_id (by omega) (by omega)
      rw [if_neg hz] at q3
      exact hB (s - lg) _ _ hk1 ⟨by omega, by omega, q3, by omega⟩ ⟨congrArg I hs, congrArg I (hadd _ hk1 (by omega)), trivial⟩ ⟨rfl, rfl, trivial⟩ (.inl rfl)
  · rename_i hk0
    have hk1 : ¬ j < rs.length := by have hz := hlt.symm.trans hk0; simpa using hz
    clear hk0
    rw [List.drop_eq_nil_of_le (by omega)] at q2
    simp [sumLg] at q2; omega
def eReach : List AV → Option ((AV → Prop) → Prop)
  | [.agg [.vs 5 xs, .lit (.int .i64 _), .lit (.int .i64 _), .lit (.int .i64 _)], .lit (.int .i64 p)] => some fun K => ∃ rs : List Rch, xs = rs.map rcV ∧ rs.length ≤ 1000000 ∧ (∀ r ∈ rs, RchOk r) ∧ 0 ≤ p ∧ p < sumLg rs ∧ ∀ r, r = (plc rs).getD p.toNat rc0 → K (rcV r)
  | _ => none
theorem eReach_ok : ∀ args pt, eReach args = some pt → ∀ (H : AHeap) (Kk : AV → AHeap → Prop), pt (fun r => Kk r H) → ACalls Try.prog 51 args H Kk := by
  intro args pt h H Kk hk
  unfold eReach at h
  split at h
  · cases h
    obtain ⟨rs, rfl, h1, h2, h3, h4, h5⟩ := hk
    exact p51 _ _ _ _ _ h1 h2 h3 h4 H (h5 _ rfl)
  · cases h
theorem p52 (rs : List Rch) (a b c : Int) (u v : Nat) (ho : RoadOk rs) (hu : u < (plc rs).length) (hv : v < (plc rs).length) (H : AHeap) {Kk : AV → AHeap → Prop} (h : Kk (I (farS (plc rs) u v)) H) : ACalls Try.prog 52 [svV (.vs 5 (rs.map rcV)) a b c, I (iLen u), I (iLen v)] H Kk := by
  obtain ⟨iu, hiu⟩ : ∃ q, q = iLen u := ⟨_, rfl⟩
  obtain ⟨iv, hiv⟩ : ∃ q, q = iLen v := ⟨_, rfl⟩
  rw [← hiu, ← hiv]
  refine (fun q => pureC (by rfl) (by rfl) q H h) ?_
  clear h
  intro Kk h
  obtain ⟨xs, hxs⟩ : ∃ xs, xs = rs.map rcV := ⟨_, rfl⟩
  rw [← hxs]
  obtain ⟨R, hR⟩ : ∃ R, R = plc rs := ⟨_, rfl⟩
  rw [← hR] at hu hv h
  have hRl := ho.ilen
  have hR1 := ho.le'
  rw [← hR] at hRl hR1
  have hall : ∀ r ∈ R, RchOk r := fun r hr => ho.mem (hR ▸ hr)
  obtain ⟨A, hA⟩ : ∃ A, A = std := ⟨_, rfl⟩
  have hmn : A.min iu iv = iLen (min u v) := by subst hA hiu hiv; simp only [std, iMin_eq]; unfold iLen; omega
  have hmx : A.max iu iv = iLen (max u v) := by subst hA hiu hiv; simp only [std, iMax_eq]; unfold iLen; omega
  refine go52 rfl (SGo_run hA ⟨[], [], [], []⟩ .nil .nil 200 fun T TD hT hTD => ?_)
  cbv
  rw [hT]
  refine AGo_whileE (σ := Nat) [6, 1, 2, 3] (fun p => max u v - p) (fun p => min u v ≤ p ∧ p ≤ max u v) (fun p => [(7, I (slp R p - slp R (min u v))), (8, I (iLen p))]) (fun _ => [.own 0 [.vs 5 xs, I a, I b, I c]]) (min u v) ⟨by omega, by omega⟩ ⟨congrArg I (by omega), congrArg I hmn, trivial⟩ (.inl rfl) fun p hP Bk hB => ?_
  obtain ⟨hP1, hP2⟩ := hP
  obtain ⟨ip, hip⟩ : ∃ q, q = iLen p := ⟨_, rfl⟩
  obtain ⟨sm, hsm⟩ : ∃ q, q = slp R p - slp R (min u v) := ⟨_, rfl⟩
  rw [← hip, ← hsm]
  have hlt : A.lt ip (A.max iu iv) = decide (p < max u v) := by rw [hmx]; subst hA; simp only [std, iLt, hip]; rw [decide_eq_decide]; unfold iLen; omega
  refine SGo_run hA ⟨[], [], (51, eReach) :: [], []⟩ (.cons eReach_ok .nil) .nil 200 fun T TD hT hTD => ?_
  cbv
  split <;> cbv
  · rename_i hz
    have hz : p < max u v := by have hz := hlt.symm.trans hz; simpa using hz
    have hb1 := slp_bnd' hall (p := p) (by omega)
    have hb2 := slp_bnd' hall (p := min u v) (by omega)
    have hm := slp_mono hall hP1
    have hrb := rc0_bnd hall p
    refine Exists.intro rs (And.intro hxs (And.intro (by have := ho.n2; omega) (And.intro ho.all (And.intro (by rw [hip]; unfold iLen; omega) (And.intro (by rw [hip, ← hRl]; unfold iLen; omega) ?_)))))
    intro r hr; cbv
    have hr2 : r = R.getD p rc0 := by rw [hr, hip, hR]; rfl
    have hs : A.add .i64 sm r.sl = slp R (p + 1) - slp R (min u v) := by
      rw [hsm, hr2]; simp only [slp]; subst hA; show iAdd .i64 _ _ = _; rw [iAdd_id (by omega) (by omega)]; omega
    have hi1 : A.add .i64 ip 1 = iLen (p + 1) := by subst hA; rw [hip]; exact add_one rfl (N := 1000) (by omega) (by omega)
    exact hB (p + 1) _ _ (by omega) ⟨by omega, by omega⟩ ⟨congrArg I hs, congrArg I hi1, trivial⟩ ⟨rfl, rfl, rfl, rfl, trivial⟩ (.inl rfl)
  · rename_i hz
    have hz : ¬ p < max u v := by have hz := hlt.symm.trans hz; simpa using hz
    refine leaf h (congrArg I ?_) rfl
    have hpe : p = max u v := by omega
    rw [hsm, hpe]
    by_cases huv : u ≤ v
    · rw [farS_le hall huv, show max u v = v by omega, show min u v = u by omega]
    · rw [farS_symm, farS_le hall (by omega : v ≤ u), show max u v = u by omega, show min u v = v by omega]
def eFar : List AV → Option ((AV → Prop) → Prop)
  | [.agg [.vs 5 xs, .lit (.int .i64 _), .lit (.int .i64 _), .lit (.int .i64 _)], .lit (.int .i64 u), .lit (.int .i64 v)] => some fun K => ∃ rs : List Rch, xs = rs.map rcV ∧ RoadOk rs ∧ 0 ≤ u ∧ u < sumLg rs ∧ 0 ≤ v ∧ v < sumLg rs ∧ ∀ r, r = farS (plc rs) u.toNat v.toNat → K (I r)
  | _ => none
theorem eFar_ok : ∀ args pt, eFar args = some pt → ∀ (H : AHeap) (Kk : AV → AHeap → Prop), pt (fun r => Kk r H) → ACalls Try.prog 52 args H Kk := by
  intro args pt h H Kk hk
  unfold eFar at h
  split at h
  · cases h
    obtain ⟨rs, rfl, h1, h2, h3, h4, h5, h6⟩ := hk
    rename_i u v
    have hl := h1.len
    obtain ⟨u, rfl⟩ : ∃ k : Nat, u = iLen k := ⟨u.toNat, by unfold iLen; omega⟩
    obtain ⟨v, rfl⟩ : ∃ k : Nat, v = iLen k := ⟨v.toNat, by unfold iLen; omega⟩
    exact p52 _ _ _ _ _ _ h1 (by unfold iLen at h3; omega) (by unfold iLen at h5; omega) H (h6 _ rfl)
  · cases h
theorem p34 (rs : List Rch) (a b c ia t1 ib t2 : Int) (ho : RoadOk rs) (h1 : 0 ≤ ia ∧ ia < sumLg rs) (h2 : 0 ≤ t1 ∧ t1 ≤ 10000) (h3 : 0 ≤ ib ∧ ib < sumLg rs) (h4 : 0 ≤ t2 ∧ t2 ≤ 10000) (H : AHeap) {Kk : AV → AHeap → Prop} (h : Kk (I (riseS (plc rs) ia.toNat (t1 - t2) ib.toNat)) H) :
    ACalls Try.prog 34 [svV (.vs 5 (rs.map rcV)) a b c, I ia, I t1, I ib, I t2] H Kk := by
  refine (fun q => pureC (by rfl) (by rfl) q H h) ?_
  clear h
  intro Kk h
  obtain ⟨xs, hxs⟩ : ∃ xs, xs = rs.map rcV := ⟨_, rfl⟩
  rw [← hxs]
  have hRl := ho.ilen
  obtain ⟨R, hR⟩ : ∃ R, R = plc rs := ⟨_, rfl⟩
  have hPl : PlcOk R := hR ▸ ho.plc
  rw [← hR] at h hRl
  have hn1 := hPl.pos
  have hn2 := hPl.le
  have hal : ia.toNat < R.length := by unfold iLen at hRl; omega
  have hbl : ib.toNat < R.length := by unfold iLen at hRl; omega
  obtain ⟨A, hA⟩ : ∃ A, A = std := ⟨_, rfl⟩
  obtain ⟨V, hV⟩ : ∃ V, V = wayS R ia.toNat (t1 - t2) ib.toNat := ⟨_, rfl⟩
  unfold riseS at h
  rw [← hV] at h
  refine go34 rfl (SGo_run hA ⟨[], [], (20, ePlaces) :: [], []⟩ (.cons (ePlaces_ok p20) .nil) .nil 200 fun T TD hT hTD => ?_)
  cbv
  refine Exists.intro rs (And.intro hxs (And.intro (by have := ho.n2; omega) (And.intro ho.all ?_)))
  intro nn hnn; cbv
  rw [hT]
  refine AGo_upE [10, 1, 2, 3, 4, 5, 12] R.length (fun j (s : Int) => (j = 0 → s = -1) ∧ (0 < j → s = minN V (j - 1))) (fun j s i => [(11, I s), (13, I i)]) (fun _ _ => [.own 0 [.vs 5 xs, I a, I b, I c]]) (-1) ⟨fun _ => rfl, fun h => absurd h (Nat.lt_irrefl _)⟩ ⟨rfl, rfl, trivial⟩ (.inl rfl) fun j s i hi hj hP Bk hB => ?_
  obtain ⟨q1, q2⟩ := hP
  have hlt : A.lt i nn = decide (j < R.length) := by rw [hnn, ← hRl]; subst hA; simp only [std, iLt, hi]; rw [decide_eq_decide]; unfold iLen; omega
  have hadd : ∀ N, j < N → N ≤ 9223372036854775807 → A.add .i64 i 1 = iLen (j + 1) := fun N hj hN => by subst hA; exact add_one hi hj hN
  refine SGo_run hA ⟨[], [], (51, eReach) :: (52, eFar) :: [], []⟩ (.cons eReach_ok (.cons eFar_ok .nil)) .nil 200 fun T TD hT hTD => ?_
  cbv
  split <;> cbv
  · rename_i hk0
    have hk1 : j < R.length := by have hz := hlt.symm.trans hk0; simpa using hz
    clear hk0
    have hi0 : 0 ≤ i := by rw [hi]; unfold iLen; omega
    have hi1 : i < sumLg rs := by rw [hi, ← hRl]; unfold iLen; omega
    have hij : i.toNat = j := by rw [hi]; rfl
    refine Exists.intro rs (And.intro hxs (And.intro (by have := ho.n2; omega) (And.intro ho.all (And.intro hi0 (And.intro hi1 ?_)))))
    intro r hr; cbv
    have hr2 : r = R.getD j rc0 := by rw [hr, hij, hR]
    have hrb := rc0_bnd hPl.all j
    rw [← hr2] at hrb
    have hf1 := farS_bnd hPl.all (a := ib.toNat) (b := j) (by omega) (by omega)
    have hf2 := farS_bnd hPl.all (a := j) (b := ia.toNat) (by omega) (by omega)
    have hc := chg_bnd hPl.all j (t := t1 - t2) (by omega)
    rw [← hr2] at hc
    have hVj : V j = farS R ib.toNat j + chg r (t1 - t2) + farS R j ia.toNat := by rw [hV, wayS, hr2]
    have hV0 : 0 ≤ V j ∧ V j ≤ 16000000 := by omega
    have hs0 : j ≠ 0 → 0 ≤ s := fun hj0 => by
      rw [q2 (by omega)]
      obtain ⟨p, hp, he⟩ := minN_ex (V := V) (j - 1)
      rw [he, hV]
      have e1 := farS_bnd hPl.all (a := ib.toNat) (b := p) (by omega) (by omega)
      have e2 := farS_bnd hPl.all (a := p) (b := ia.toNat) (by omega) (by omega)
      have e3 := chg_bnd hPl.all p (t := t1 - t2) (by omega)
      unfold wayS; omega
    have hstep : ∀ z : Int, (j = 0 ∨ V j < s → z = V j) → (¬ (j = 0 ∨ V j < s) → z = s) → (j + 1 = 0 → z = -1) ∧ (0 < j + 1 → z = minN V (j + 1 - 1)) := by
      intro z z1 z2
      refine ⟨fun h => by omega, fun _ => ?_⟩
      rcases j with _ | j
      · rw [z1 (.inl rfl)]; rfl
      · have q3 := q2 (by omega)
        rw [Nat.add_sub_cancel] at q3 ⊢
        simp only [minN]
        rw [← q3]
        by_cases hz : V (j + 1) < s
        · rw [z1 (.inr hz)]; omega
        · rw [z2 (by omega)]; omega
    have hd1 : A.sub .i64 t1 t2 = t1 - t2 := by subst hA; exact iSub_id (by omega) (by omega)
    have hd2 : A.sub .i64 t2 t1 = t2 - t1 := by subst hA; exact iSub_id (by omega) (by omega)
    have hlt2 : A.lt t1 t2 = decide (t1 < t2) := by subst hA; rfl
    have hend : ∀ ch : Int, ch = chg r (t1 - t2) → ∀ f1 f2 : Int, f1 = farS R ib.toNat j → f2 = farS R j ia.toNat → A.add .i64 (A.add .i64 f1 ch) f2 = V j := fun ch hch f1 f2 e1 e2 => by
      subst hA; rw [hVj, hch, e1, e2]; show iAdd .i64 (iAdd .i64 _ _) _ = _
      rw [iAdd_id (a := farS R ib.toNat j) (by omega) (by omega), iAdd_id (by omega) (by omega)]
    have hl0 : A.lt s 0 = decide (j = 0) := by
      subst hA; simp only [std, iLt]; rw [decide_eq_decide]
      by_cases hj0 : j = 0
      · rw [q1 hj0]; omega
      · have := hs0 hj0; omega
    have hl1 : A.lt (V j) s = decide (V j < s) := by subst hA; rfl
    split <;> cbv
    · rename_i hz
      have hz : t1 < t2 := by have hz := hlt2.symm.trans hz; simpa using hz
      have he2 : chg r (t1 - t2) = (t2 - t1) * r.th := by unfold chg; rw [if_pos (by omega), show -(t1 - t2) = t2 - t1 by omega]
      have hch : A.mul .i64 (A.sub .i64 t2 t1) r.th = chg r (t1 - t2) := by
        rw [he2] at hc ⊢
        rw [hd2]; subst hA; exact iMul_id (by omega) (by omega)
      refine Exists.intro rs (And.intro hxs (And.intro ho (And.intro h3.1 (And.intro h3.2 (And.intro hi0 (And.intro hi1 ?_))))))
      intro f1 hf1e; cbv
      refine Exists.intro rs (And.intro hxs (And.intro ho (And.intro hi0 (And.intro hi1 (And.intro h1.1 (And.intro h1.2 ?_))))))
      intro f2 hf2e; cbv
      have hf1' : f1 = farS R ib.toNat j := by rw [hf1e, hij, hR]
      have hf2' : f2 = farS R j ia.toNat := by rw [hf2e, hij, hR]
      have he := hend _ hch f1 f2 hf1' hf2'
      split <;> cbv
      · rename_i hz
        have hz : j = 0 := by have hz := hl0.symm.trans hz; simpa using hz
        exact hB (V j) _ _ hk1 (hstep _ (fun _ => rfl) (fun h => absurd (.inl hz) h)) ⟨congrArg I he, congrArg I (hadd _ hk1 (by omega)), trivial⟩ ⟨rfl, rfl, rfl, rfl, rfl, rfl, rfl, trivial⟩ (.inr ⟨⟨_, rfl⟩, Nat.zero_le _, by simp [ltG, AV.lt, AV.ltL, keepS, look], by simp [ltH, AObj.lt, AV.lt, AV.ltL]⟩)
      rename_i hz
      have hj0 : j ≠ 0 := by have hz := hl0.symm.trans hz; simpa using hz
      split <;> cbv
      · rename_i hz
        have hz : V j < s := by have hz := (congrArg (fun x => A.lt x s) he.symm).trans hz; have hz := hl1.symm.trans hz; simpa using hz
        exact hB (V j) _ _ hk1 (hstep _ (fun _ => rfl) (fun h => absurd (.inr hz) h)) ⟨congrArg I he, congrArg I (hadd _ hk1 (by omega)), trivial⟩ ⟨rfl, rfl, rfl, rfl, rfl, rfl, rfl, trivial⟩ (.inr ⟨⟨_, rfl⟩, Nat.zero_le _, by simp [ltG, AV.lt, AV.ltL, keepS, look], by simp [ltH, AObj.lt, AV.lt, AV.ltL]⟩)
      · rename_i hz
        have hz : ¬ V j < s := by have hz := (congrArg (fun x => A.lt x s) he.symm).trans hz; have hz := hl1.symm.trans hz; simpa using hz
        exact hB s _ _ hk1 (hstep _ (fun h => absurd h (by omega)) (fun _ => rfl)) ⟨rfl, congrArg I (hadd _ hk1 (by omega)), trivial⟩ ⟨rfl, rfl, rfl, rfl, rfl, rfl, rfl, trivial⟩ (.inr ⟨⟨_, rfl⟩, Nat.zero_le _, by simp [ltG, AV.lt, AV.ltL, keepS, look], by simp [ltH, AObj.lt, AV.lt, AV.ltL]⟩)
    · rename_i hz
      have hz : ¬ t1 < t2 := by have hz := hlt2.symm.trans hz; simpa using hz
      have he2 : chg r (t1 - t2) = (t1 - t2) * r.gr := by unfold chg; rw [if_neg (by omega)]
      have hch : A.mul .i64 (A.sub .i64 t1 t2) r.gr = chg r (t1 - t2) := by
        rw [he2] at hc ⊢
        rw [hd1]; subst hA; exact iMul_id (by omega) (by omega)
      refine Exists.intro rs (And.intro hxs (And.intro ho (And.intro h3.1 (And.intro h3.2 (And.intro hi0 (And.intro hi1 ?_))))))
      intro f1 hf1e; cbv
      refine Exists.intro rs (And.intro hxs (And.intro ho (And.intro hi0 (And.intro hi1 (And.intro h1.1 (And.intro h1.2 ?_))))))
      intro f2 hf2e; cbv
      have hf1' : f1 = farS R ib.toNat j := by rw [hf1e, hij, hR]
      have hf2' : f2 = farS R j ia.toNat := by rw [hf2e, hij, hR]
      have he := hend _ hch f1 f2 hf1' hf2'
      split <;> cbv
      · rename_i hz
        have hz : j = 0 := by have hz := hl0.symm.trans hz; simpa using hz
        exact hB (V j) _ _ hk1 (hstep _ (fun _ => rfl) (fun h => absurd (.inl hz) h)) ⟨congrArg I he, congrArg I (hadd _ hk1 (by omega)), trivial⟩ ⟨rfl, rfl, rfl, rfl, rfl, rfl, rfl, trivial⟩ (.inr ⟨⟨_, rfl⟩, Nat.zero_le _, by simp [ltG, AV.lt, AV.ltL, keepS, look], by simp [ltH, AObj.lt, AV.lt, AV.ltL]⟩)
      rename_i hz
      have hj0 : j ≠ 0 := by have hz := hl0.symm.trans hz; simpa using hz
      split <;> cbv
      · rename_i hz
        have hz : V j < s := by have hz := (congrArg (fun x => A.lt x s) he.symm).trans hz; have hz := hl1.symm.trans hz; simpa using hz
        exact hB (V j) _ _ hk1 (hstep _ (fun _ => rfl) (fun h => absurd (.inr hz) h)) ⟨congrArg I he, congrArg I (hadd _ hk1 (by omega)), trivial⟩ ⟨rfl, rfl, rfl, rfl, rfl, rfl, rfl, trivial⟩ (.inr ⟨⟨_, rfl⟩, Nat.zero_le _, by simp [ltG, AV.lt, AV.ltL, keepS, look], by simp [ltH, AObj.lt, AV.lt, AV.ltL]⟩)
      · rename_i hz
        have hz : ¬ V j < s := by have hz := (congrArg (fun x => A.lt x s) he.symm).trans hz; have hz := hl1.symm.trans hz; simpa using hz
        exact hB s _ _ hk1 (hstep _ (fun h => absurd h (by omega)) (fun _ => rfl)) ⟨rfl, congrArg I (hadd _ hk1 (by omega)), trivial⟩ ⟨rfl, rfl, rfl, rfl, rfl, rfl, rfl, trivial⟩ (.inr ⟨⟨_, rfl⟩, Nat.zero_le _, by simp [ltG, AV.lt, AV.ltL, keepS, look], by simp [ltH, AObj.lt, AV.lt, AV.ltL]⟩)
  · rename_i hk0
    have hk1 : ¬ j < R.length := by have hz := hlt.symm.trans hk0; simpa using hz
    clear hk0
    have q3 := q2 (by omega)
    rw [show j = R.length by omega] at q3
    exact leaf h (congrArg I q3.symm) rfl
def eRise : List AV → Option ((AV → Prop) → Prop)
  | [.agg [.vs 5 xs, .lit (.int .i64 _), .lit (.int .i64 _), .lit (.int .i64 _)], .lit (.int .i64 u), .lit (.int .i64 t1), .lit (.int .i64 v), .lit (.int .i64 t2)] =>
    some fun K => ∃ rs : List Rch, xs = rs.map rcV ∧ RoadOk rs ∧ (0 ≤ u ∧ u < sumLg rs) ∧ (0 ≤ t1 ∧ t1 ≤ 10000) ∧ (0 ≤ v ∧ v < sumLg rs) ∧ (0 ≤ t2 ∧ t2 ≤ 10000) ∧ ∀ r, r = riseS (plc rs) u.toNat (t1 - t2) v.toNat → K (I r)
  | _ => none
theorem eRise_ok {f : Nat} (hf : ∀ (rs : List Rch) (a b c ia t1 ib t2 : Int), RoadOk rs → (0 ≤ ia ∧ ia < sumLg rs) → (0 ≤ t1 ∧ t1 ≤ 10000) → (0 ≤ ib ∧ ib < sumLg rs) → (0 ≤ t2 ∧ t2 ≤ 10000) → ∀ (H : AHeap) {Kk : AV → AHeap → Prop}, Kk (I (riseS (plc rs) ia.toNat (t1 - t2) ib.toNat)) H →
    ACalls Try.prog f [svV (.vs 5 (rs.map rcV)) a b c, I ia, I t1, I ib, I t2] H Kk) : ∀ args pt, eRise args = some pt → ∀ (H : AHeap) (Kk : AV → AHeap → Prop), pt (fun r => Kk r H) → ACalls Try.prog f args H Kk := by
  intro args pt h H Kk hk
  unfold eRise at h
  split at h
  · cases h
    obtain ⟨rs, rfl, h1, h2, h3, h4, h5, h6⟩ := hk
    exact hf _ _ _ _ _ _ _ _ h1 h2 h3 h4 h5 H (h6 _ rfl)
  · cases h
theorem p21 (rs : List Rch) (a b c ia t1 ib t2 : Int) (ho : RoadOk rs) (h1 : 0 ≤ ia ∧ ia < sumLg rs) (h2 : 0 ≤ t1 ∧ t1 ≤ 10000) (h3 : 0 ≤ ib ∧ ib < sumLg rs) (h4 : 0 ≤ t2 ∧ t2 ≤ 10000) (H : AHeap) {Kk : AV → AHeap → Prop} (h : Kk (I (riseS (plc rs) ia.toNat (t1 - t2) ib.toNat)) H) :
    ACalls Try.prog 21 [svV (.vs 5 (rs.map rcV)) a b c, I ia, I t1, I ib, I t2] H Kk := by
  refine (fun q => pureC (by rfl) (by rfl) q H h) ?_
  clear h
  intro Kk h
  obtain ⟨xs, hxs⟩ : ∃ xs, xs = rs.map rcV := ⟨_, rfl⟩
  rw [← hxs]
  obtain ⟨A, hA⟩ : ∃ A, A = std := ⟨_, rfl⟩
  refine go21 rfl (SGo_run hA ⟨[], [], (34, eRise) :: [], []⟩ (.cons (eRise_ok p34) .nil) .nil 200 fun T TD hT hTD => ?_)
  cbv
  refine Exists.intro rs (And.intro hxs (And.intro ho (And.intro h1 (And.intro h2 (And.intro h3 (And.intro h4 ?_))))))
  intro r hr; cbv
  rw [← hr] at h
  exact h
end Go.Sas
namespace Go.Sas
open Go.Proofs
set_option maxRecDepth 100000
theorem any_drop {α : Type} {f : α → Bool} {l : List α} {j : Nat} {x : α} (h : l[j]? = some x) : (l.drop j).any f = (f x || (l.drop (j + 1)).any f) := by
  rw [drop_cons h]; rfl
def eCheckV : List AV → Option ((AV → Prop) → Prop)
  | [.agg [.vs 5 xs, .lit (.int .i64 a), .lit (.int .i64 b), .lit (.int .i64 c)]] => some fun K => ∃ (rs : List Rch), xs = rs.map rcV ∧ rs.length ≤ 9223372036854775807 ∧ ∀ q, q = checkV rs a b c → K (I q)
  | _ => none
theorem eCheckV_ok {f : Nat} (hf : ∀ (rs : List Rch) (a b c : Int), rs.length ≤ 9223372036854775807 → ∀ (H : AHeap) {Kk : AV → AHeap → Prop}, Kk (I (checkV rs a b c)) H → ACalls Try.prog f [svV (.vs 5 (rs.map rcV)) a b c] H Kk) : ∀ args pt, eCheckV args = some pt → ∀ (H : AHeap) (Kk : AV → AHeap → Prop), pt (fun r => Kk r H) → ACalls Try.prog f args H Kk := by
  intro args pt h H Kk hk
  unfold eCheckV at h
  split at h
  · cases h
    obtain ⟨rs, rfl, h1, h2⟩ := hk
    exact hf _ _ _ _ h1 H (h2 _ rfl)
  · cases h
end Go.Sas
namespace Go.Sas
open Go.Proofs
set_option maxRecDepth 100000
theorem sumLg_bnd' {rs : List Rch} (h : RoadOk rs) : 1 ≤ sumLg rs ∧ sumLg rs ≤ 1000 := by
  have h1 := h.len
  have h2 := h.pos
  have h3 := h.le
  omega
end Go.Sas
