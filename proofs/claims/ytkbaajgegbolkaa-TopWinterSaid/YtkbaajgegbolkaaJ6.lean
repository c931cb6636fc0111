/-
Probe: known and looks that may be, of the program: contracts.
Probe: Known and Least: contracts.
Probe: what is stale; marks; why places are shut.
Rows of values, one cell each.
Probe: the places that are stale: contract.
Neighbours with the same value put together.
Probe: closures put together: contracts.

Probe: a product of words, a slice of equal numbers: contracts.
Probe: a slice of equal numbers: contract.
Probe: what marks cover, by spans of places.
Probe: verdicts of marks: contracts.

Probe: marks that may be: contracts.
Probe: what Close and Lasts are asked: contracts.
Probe: why places are shut: contract.
Probe: Close: contract.
Probe: functions that draw numbers, comparisons of lists.

Probe: the chapter's examples that every statement asks: contract.
Probe: awake: contract.
Probe: surveys made of numbers: contract.
Probe: how much thicker ice may be, along a way; courses.
An abstract machine over values, part 25: a function that writes nothing may be handed rows that are written to elsewhere.
An abstract machine over values, part 26: a copy of a row that is written to, which nobody writes any more.
Probe: courses made of numbers: contract.
Probe: looks made of numbers: contract.
Conditions: none.
-/
import Derived.Test.YtkbaajgegbolkaaJ5
import Derived.Test.YtkbaajgegbolkaaJ3
import Derived.Test.YtkbaajgegbolkaaJ2
set_option linter.unusedVariables false
set_option linter.unusedSimpArgs false
namespace Go.Sas
open Go.Proofs
set_option maxRecDepth 100000
theorem p47 (rs : List Rch) (a b c p t : Int) (l : List Lk) (ho : RoadOk rs) (hl : l.length ≤ 1000000) (hL : ∀ x ∈ l, LkOk (sumLg rs) x) (h1 : 0 ≤ p ∧ p < sumLg rs) (h2 : 0 ≤ t ∧ t ≤ 10000) (H : AHeap) {Kk : AV → AHeap → Prop}
    (h : Kk (.agg [I (knowS (plc rs) l p.toNat t).1, I (knowS (plc rs) l p.toNat t).2]) H) : ACalls Try.prog 47 [grV (.vs 5 (rs.map rcV)) a b c (.vs 1 ((slL (plc rs)).map I)) (.vs 5 ((plc rs).map rcV)), .vs 5 (l.map lkV), I p, I t] H Kk := by
  refine (fun q => pureC (by rfl) (by rfl) q H h) ?_
  clear h
  intro Kk h
  have hg := grIs rs
  obtain ⟨xs, hxs⟩ : ∃ xs, xs = rs.map rcV := ⟨_, rfl⟩
  obtain ⟨ws, hws⟩ : ∃ ys, ys = (slL (plc rs)).map I := ⟨_, rfl⟩
  obtain ⟨zs, hzs⟩ : ∃ zs, zs = (plc rs).map rcV := ⟨_, rfl⟩
  rw [← hxs, ← hws, ← hzs] at hg ⊢
  obtain ⟨ys, hys⟩ : ∃ ys, ys = l.map lkV := ⟨_, rfl⟩
  rw [← hys]
  have hRl := ho.ilen
  obtain ⟨R, hR⟩ : ∃ R, R = plc rs := ⟨_, rfl⟩
  have hPl : PlcOk R := hR ▸ ho.plc
  rw [← hR] at h hRl
  have hpl : p.toNat < R.length := by unfold iLen at hRl; omega
  obtain ⟨A, hA⟩ : ∃ A, A = std := ⟨_, rfl⟩
  refine go47 rfl (SGo_run hA ⟨[], [], [], []⟩ .nil .nil 200 fun T TD hT hTD => ?_)
  cbv
  rw [hT]
  refine AGo_upE [2, 3, 4, 8, 9, 13, 14] l.length (fun j (s : Int × Int) => s = (l.take j).foldl (knowG R p.toNat t) (0, 3000)) (fun j s i => [(15, I i)]) (fun _ s => [.own 0 [.vs 5 xs, I a, I b, I c, .vs 1 ws, .vs 5 zs], .own 0 [I 0, I 0], .own 0 [I s.1, I s.2]]) (0, 3000) rfl ⟨rfl, trivial⟩ (.inl rfl) fun j s i hi hj hP Bk hB => ?_
  have hlt : A.lt i (A.vlen ys) = decide (j < l.length) := by subst hA; exact lt_len (by simp [hys]) hi
  have hadd : ∀ N, j < N → N ≤ 9223372036854775807 → A.add .i64 i 1 = iLen (j + 1) := fun N hj hN => by subst hA; exact add_one hi hj hN
  obtain ⟨lo, hi2⟩ := s
  dsimp only
  refine SGo_run hA ⟨[], [], (61, eSide true) :: (62, eSide false) :: [], []⟩ (.cons eBelow_ok (.cons eAbove_ok .nil)) .nil 200 fun T TD hT hTD => ?_
  cbv
  split <;> cbv
  · rename_i hk0
    have hk1 : j < l.length := by have hz := hlt.symm.trans hk0; simpa using hz
    clear hk0
    obtain ⟨⟨k, q, g, u, v⟩, hx⟩ : ∃ x, l[j]? = some x := ⟨_, List.getElem?_eq_getElem hk1⟩
    have hix : A.ix 5 5 ys i [I k, I q, I g, I u, I v] := by subst hA; exact ix_map hys hi hx rfl
    have hlk := hL _ (List.mem_of_getElem? hx)
    unfold LkOk at hlk
    dsimp only at hlk
    obtain ⟨_, e1, e2, e3, e4, e5⟩ := hlk
    have hq : 0 ≤ q ∧ q < sumLg rs := by omega
    have hql : q.toNat < R.length := by rw [← hRl] at hq; unfold iLen at hq; omega
    have hb1 := riseS_bnd hPl (a := p.toNat) (b := q.toNat) (t := t - g) hpl hql (by omega)
    have hb2 := riseS_bnd hPl (a := q.toNat) (b := p.toNat) (t := g - t) hql hpl (by omega)
    have hst := foldl_take_succ (f := knowG R p.toNat t) (b := (0, 3000)) hx
    rw [← hP] at hst
    refine Exists.intro _ (And.intro hix ?_); cbv
    refine Exists.intro rs (And.intro hg (And.intro ho (And.intro hq (And.intro e2 (And.intro h1 (And.intro h2 ?_))))))
    intro r2 hr2; cbv
    refine Exists.intro rs (And.intro hg (And.intro ho (And.intro hq (And.intro e2 (And.intro h1 (And.intro h2 ?_))))))
    intro r1 hr1; cbv
    have hr1 : r1 = riseS (plc rs) p.toNat (t - g) q.toNat := hr1
    have hr2 : r2 = riseS (plc rs) q.toNat (g - t) p.toNat := hr2
    rw [← hR] at hr1 hr2
    have hn : (A.max lo (A.sub .i64 u r2), A.min hi2 (A.add .i64 v r1)) = (l.take (j + 1)).foldl (knowG R p.toNat t) (0, 3000) := by
      rw [hst]
      unfold knowG
      dsimp only
      rw [hr1, hr2]
      subst hA
      simp only [std, iMin_eq, iMax_eq]
      rw [iSub_id (by omega) (by omega), iAdd_id (by omega) (by omega)]
    exact hB (A.max lo (A.sub .i64 u r2), A.min hi2 (A.add .i64 v r1)) _ _ hk1 hn ⟨congrArg I (hadd _ hk1 (by omega)), trivial⟩ ⟨rfl, rfl, rfl, rfl, rfl, rfl, rfl, trivial⟩ (.inr ⟨⟨_, rfl⟩, Nat.zero_le _, by simp [ltG, AV.lt, AV.ltL, keepS, look], by simp [ltH, AObj.lt, AV.lt, AV.ltL]⟩)
  · rename_i hk0
    have hk1 : ¬ j < l.length := by have hz := hlt.symm.trans hk0; simpa using hz
    clear hk0
    rw [List.take_of_length_le (by omega)] at hP
    have hP : (lo, hi2) = knowS R l p.toNat t := hP
    rw [← hP] at h
    exact leaf h rfl rfl
theorem p60 (rs : List Rch) (a b c : Int) (l : List Lk) (ho : RoadOk rs) (hl : l.length ≤ 9223372036854775807) (H : AHeap) {Kk : AV → AHeap → Prop}
    (h : Kk (I (looksE (plc rs) l)) H) : ACalls Try.prog 60 [grV (.vs 5 (rs.map rcV)) a b c (.vs 1 ((slL (plc rs)).map I)) (.vs 5 ((plc rs).map rcV)), .vs 5 (l.map lkV)] H Kk := by
  refine (fun q => pureC (by rfl) (by rfl) q H h) ?_
  clear h
  intro Kk h
  have hg := grIs rs
  obtain ⟨xs, hxs⟩ : ∃ xs, xs = rs.map rcV := ⟨_, rfl⟩
  obtain ⟨ws, hws⟩ : ∃ ys, ys = (slL (plc rs)).map I := ⟨_, rfl⟩
  obtain ⟨zs, hzs⟩ : ∃ zs, zs = (plc rs).map rcV := ⟨_, rfl⟩
  rw [← hxs, ← hws, ← hzs] at hg ⊢
  obtain ⟨ys, hys⟩ : ∃ ys, ys = l.map lkV := ⟨_, rfl⟩
  rw [← hys]
  have hRl := ho.ilen
  obtain ⟨R, hR⟩ : ∃ R, R = plc rs := ⟨_, rfl⟩
  have hPl : PlcOk R := hR ▸ ho.plc
  obtain ⟨W, hW⟩ : ∃ W, W = looksE R l := ⟨_, rfl⟩
  rw [← hR] at h hRl
  rw [← hW] at h
  have hW1 : 200 < l.length → W = 8 := fun h => by rw [hW]; unfold looksE; rw [if_pos h]
  have hW2 : ¬ 200 < l.length → W = orElse (firstE (lookE (sumLg rs)) l) (if l.any (fun x => l.any (clash R x)) then 12 else 0) := fun h => by rw [hW]; unfold looksE; rw [if_neg h, ← hRl]; rfl
  clear hW
  obtain ⟨A, hA⟩ : ∃ A, A = std := ⟨_, rfl⟩
  have hv : A.lt 200 (A.vlen ys) = decide (200 < l.length) := by subst hA; simp only [std, iLt, hys, List.length_map, iLen]; rw [decide_eq_decide]; omega
  refine go60 rfl (SGo_run hA ⟨[], [], [], []⟩ .nil .nil 200 fun T TD hT hTD => ?_)
  cbv
  split <;> cbv
  · rename_i hz
    have hz : 200 < l.length := by have hz := hv.symm.trans hz; simpa using hz
    exact leaf h (congrArg I (hW1 hz)) rfl
  rename_i hz
  have hz : ¬ 200 < l.length := by have hz := hv.symm.trans hz; simpa using hz
  have hW := hW2 hz
  have hl2 : l.length ≤ 200 := by omega
  clear hW1 hW2 hz
  have hsb : 1 ≤ sumLg rs ∧ sumLg rs ≤ 1000 := by rw [← hRl]; have := hPl.pos; have := hPl.le; unfold iLen; omega
  have hn1 : A.sub .i64 (A.vlen zs) 1 = sumLg rs - 1 := by
    have : A.vlen zs = sumLg rs := by rw [← hRl, hzs, hR]; subst hA; simp [std]
    rw [this]; subst hA; exact iSub_id (by omega) (by omega)
  rw [hT]
  refine AGo_upE [1, 2, 4, 14, 15] l.length (fun j (_ : Unit) => firstE (lookE (sumLg rs)) l = firstE (lookE (sumLg rs)) (l.drop j)) (fun j _ i => [(16, I i)]) (fun _ _ => [.own 0 [.vs 5 xs, I a, I b, I c, .vs 1 ws, .vs 5 zs]]) () rfl ⟨rfl, trivial⟩ (.inl rfl) fun j _ i hi hj hP Bk hB => ?_
  have hlt : A.lt i (A.vlen ys) = decide (j < l.length) := by subst hA; exact lt_len (by simp [hys]) hi
  have hadd : ∀ N, j < N → N ≤ 9223372036854775807 → A.add .i64 i 1 = iLen (j + 1) := fun N hj hN => by subst hA; exact add_one hi hj hN
  refine SGo_run hA ⟨[], [], (46, eIn) :: [], []⟩ (.cons (eIn_ok p46) .nil) .nil 200 fun T TD hT hTD => ?_
  cbv
  split <;> cbv
  · rename_i hk0
    have hk1 : j < l.length := by have hz := hlt.symm.trans hk0; simpa using hz
    clear hk0
    obtain ⟨⟨k, q, g, u, v⟩, hx⟩ : ∃ x, l[j]? = some x := ⟨_, List.getElem?_eq_getElem hk1⟩
    have hix : A.ix 5 5 ys i [I k, I q, I g, I u, I v] := by subst hA; exact ix_map hys hi hx rfl
    rw [firstE_drop hx] at hP
    have hR : ∀ e, e ≠ 0 → lookE (sumLg rs) ⟨k, q, g, u, v⟩ = e → W = e := fun e h0 h => by rw [hW, hP, h, if_neg h0]; unfold orElse; rw [if_neg h0]
    have hN : lookE (sumLg rs) ⟨k, q, g, u, v⟩ = 0 → firstE (lookE (sumLg rs)) l = firstE (lookE (sumLg rs)) (l.drop (j + 1)) := fun h => by rw [hP, if_pos h]
    have hlt2 : A.lt v u = decide (v < u) := by subst hA; rfl
    refine Exists.intro _ (And.intro hix ?_); cbv
    repeat' (first | (intro qq hfq; cbv) | (split <;> cbv))
    all_goals first
      | refine hB () _ _ hk1 (hN ?_) ⟨congrArg I (hadd _ hk1 (by omega)), trivial⟩ ⟨rfl, rfl, rfl, rfl, rfl, trivial⟩ (.inr ⟨⟨_, rfl⟩, Nat.zero_le _, by simp [ltG, AV.lt, AV.ltL, keepS, look], by simp [ltH, AObj.lt, AV.lt, AV.ltL]⟩)
      | refine leaf h (congrArg I (hR _ (by decide) ?_)) rfl
    all_goals
      clear hR hN hP hix hv hW hlt hadd hB hx h hl hl2 hk1 hi hj hT hTD hxs hys hPl hRl ho
      simp only [hn1] at *
      clear hn1
      subst hA
      simp only [std, iLt] at *
      try clear hT hTD
      try clear hxs
      subst_vars
      simp only [Bool.not_eq_true', Bool.not_eq_false', decide_eq_true_eq, decide_eq_false_iff_not] at *
      simp only [lookE]
      first | rw [if_pos (by omega)] | rw [if_neg (by omega), if_pos (by omega)] | rw [if_neg (by omega), if_neg (by omega), if_pos (by omega)] | rw [if_neg (by omega), if_neg (by omega), if_neg (by omega), if_pos (by omega)] | rw [if_neg (by omega), if_neg (by omega), if_neg (by omega), if_neg (by omega)]
  · rename_i hk0
    have hk1 : ¬ j < l.length := by have hz := hlt.symm.trans hk0; simpa using hz
    clear hk0
    have hf : firstE (lookE (sumLg rs)) l = 0 := by rw [hP, List.drop_eq_nil_of_le (by omega)]; rfl
    have hall : ∀ x ∈ l, LkOk (sumLg rs) x := fun x hx => lookE_ok.1 (firstE_zero hf x hx)
    have hW : W = if l.any (fun x => l.any (clash R x)) then 12 else 0 := by rw [hW, hf]; rfl
    clear hP hB hlt hadd hf hn1 hv
    rw [hT]
    refine AGo_upE [1, 2, 62, 63] l.length (fun j (_ : Unit) => W = if (l.drop j).any (fun x => l.any (clash R x)) then 12 else 0) (fun j _ i => [(64, I i)]) (fun _ _ => [.own 0 [.vs 5 xs, I a, I b, I c, .vs 1 ws, .vs 5 zs]]) () hW ⟨rfl, trivial⟩ (.inr ⟨⟨_, rfl⟩, Nat.zero_le _, by simp [ltG, AV.lt, AV.ltL, keepS, look], by simp [ltH, AObj.lt, AV.lt, AV.ltL]⟩) fun j _ i hi hj hP Bk hB => ?_
    have hlt : A.lt i (A.vlen ys) = decide (j < l.length) := by subst hA; exact lt_len (by simp [hys]) hi
    have hadd : ∀ N, j < N → N ≤ 9223372036854775807 → A.add .i64 i 1 = iLen (j + 1) := fun N hj hN => by subst hA; exact add_one hi hj hN
    refine SGo_run hA ⟨[], [], [], []⟩ .nil .nil 200 fun T TD hT hTD => ?_
    cbv
    split <;> cbv
    · rename_i hk0
      have hk1 : j < l.length := by have hz := hlt.symm.trans hk0; simpa using hz
      clear hk0
      obtain ⟨⟨k, q, g, u, v⟩, hx⟩ : ∃ x, l[j]? = some x := ⟨_, List.getElem?_eq_getElem hk1⟩
      have hix : A.ix 5 5 ys i [I k, I q, I g, I u, I v] := by subst hA; exact ix_map hys hi hx rfl
      rw [any_drop hx] at hP
      obtain ⟨e0, e1, e2, e3, e4, e5⟩ := hall _ (List.mem_of_getElem? hx)
      dsimp only at e0 e1 e2 e3 e4 e5
      have hq : 0 ≤ q ∧ q < sumLg rs := by omega
      have hql : q.toNat < R.length := by rw [← hRl] at hq; unfold iLen at hq; omega
      obtain ⟨Z, hZ⟩ : ∃ Z, Z = (l.drop (j + 1)).any (fun x => l.any (clash R x)) := ⟨_, rfl⟩
      rw [← hZ] at hP
      refine Exists.intro _ (And.intro hix ?_); cbv
      rw [hT]
      refine AGo_upE [1, 2, 8, 62, 63, 64, 68, 69] l.length (fun j (_ : Unit) => W = if ((l.drop j).any (clash R ⟨k, q, g, u, v⟩) || Z) then 12 else 0) (fun j _ i => [(70, I i)]) (fun _ _ => [.own 0 [.vs 5 xs, I a, I b, I c, .vs 1 ws, .vs 5 zs], .own 0 [I k, I q, I g, I u, I v]]) () hP ⟨rfl, trivial⟩ (.inl rfl) fun j2 _ i2 hi2 hj2 hP Bk2 hB2 => ?_
      have hlt2 : A.lt i2 (A.vlen ys) = decide (j2 < l.length) := by subst hA; exact lt_len (by simp [hys]) hi2
      have hadd2 : ∀ N, j2 < N → N ≤ 9223372036854775807 → A.add .i64 i2 1 = iLen (j2 + 1) := fun N hj hN => by subst hA; exact add_one hi2 hj hN
      refine SGo_run hA ⟨[], [], (62, eSide false) :: [], []⟩ (.cons eAbove_ok .nil) .nil 200 fun T TD hT hTD => ?_
      cbv
      split <;> cbv
      · rename_i hz
        have hk2 : j2 < l.length := by have hz := hlt2.symm.trans hz; simpa using hz
        obtain ⟨⟨k', q', g', u', v'⟩, hx2⟩ : ∃ x, l[j2]? = some x := ⟨_, List.getElem?_eq_getElem hk2⟩
        have hiy : A.ix 5 5 ys i2 [I k', I q', I g', I u', I v'] := by subst hA; exact ix_map hys hi2 hx2 rfl
        rw [any_drop hx2] at hP
        obtain ⟨d0, d1, d2, d3, d4, d5⟩ := hall _ (List.mem_of_getElem? hx2)
        dsimp only at d0 d1 d2 d3 d4 d5
        have hq' : 0 ≤ q' ∧ q' < sumLg rs := by omega
        have hql' : q'.toNat < R.length := by rw [← hRl] at hq'; unfold iLen at hq'; omega
        have hbb := riseS_bnd hPl (a := q'.toNat) (b := q.toNat) (t := g' - g) hql' hql (by omega)
        have hcl : clash R ⟨k, q, g, u, v⟩ ⟨k', q', g', u', v'⟩ = decide (v + riseS R q'.toNat (g' - g) q.toNat < u') := rfl
        refine Exists.intro _ (And.intro hiy ?_); cbv
        refine Exists.intro rs (And.intro hg (And.intro ho (And.intro hq (And.intro e2 (And.intro hq' (And.intro d2 ?_))))))
        intro r hr; cbv
        have hr : r = riseS (plc rs) q'.toNat (g' - g) q.toNat := hr
        rw [← hR] at hr
        have hlc : A.lt (A.add .i64 v r) u' = clash R ⟨k, q, g, u, v⟩ ⟨k', q', g', u', v'⟩ := by
          rw [hcl, ← hr]; rw [← hr] at hbb; subst hA; show decide (iAdd .i64 v r < u') = _; rw [iAdd_id (by omega) (by omega)]
        split <;> cbv
        · rename_i hz
          have hz := hlc.symm.trans hz
          rw [hz] at hP
          exact leaf h (congrArg I hP) rfl
        · rename_i hz
          have hz := hlc.symm.trans hz
          rw [hz] at hP
          exact hB2 () _ _ hk2 hP ⟨congrArg I (hadd2 _ hk2 (by omega)), trivial⟩ ⟨rfl, rfl, rfl, rfl, rfl, rfl, rfl, rfl, trivial⟩ (.inr ⟨⟨_, rfl⟩, Nat.zero_le _, by simp [ltG, AV.lt, AV.ltL, keepS, look], by simp [ltH, AObj.lt, AV.lt, AV.ltL]⟩)
      · rename_i hz
        have hk2 : ¬ j2 < l.length := by have hz := hlt2.symm.trans hz; simpa using hz
        rw [List.drop_eq_nil_of_le (by omega)] at hP
        have hP : W = if Z then 12 else 0 := hP
        rw [hZ] at hP
        exact hB () _ _ hk1 hP ⟨congrArg I (hadd _ hk1 (by omega)), trivial⟩ ⟨rfl, rfl, rfl, rfl, trivial⟩ (.inr ⟨⟨_, rfl⟩, Nat.zero_le _, by simp [ltG, AV.lt, AV.ltL, keepS, look], by simp [ltH, AObj.lt, AV.lt, AV.ltL]⟩)
    · rename_i hk0
      have hk1 : ¬ j < l.length := by have hz := hlt.symm.trans hk0; simpa using hz
      clear hk0
      rw [List.drop_eq_nil_of_le (by omega)] at hP
      exact leaf h (congrArg I hP) rfl
end Go.Sas
namespace Go.Sas
open Go.Proofs
set_option maxRecDepth 100000
def eGround : List AV → Option ((AV → Prop) → Prop)
  | [.agg [.vs 5 xs, .lit (.int .i64 a), .lit (.int .i64 b), .lit (.int .i64 c)]] => some fun K => ∃ rs : List Rch, xs = rs.map rcV ∧ RoadOk rs ∧ ∀ ys zs, GrIs rs xs ys zs → K (grV (.vs 5 xs) a b c (.vs 1 ys) (.vs 5 zs))
  | _ => none
theorem eGround_ok : ∀ args pt, eGround args = some pt → ∀ (H : AHeap) (Kk : AV → AHeap → Prop), pt (fun r => Kk r H) → ACalls Try.prog 59 args H Kk := by
  intro args pt h H Kk hk
  unfold eGround at h
  split at h
  · cases h
    obtain ⟨rs, rfl, h1, h2⟩ := hk
    exact p59 _ _ _ _ h1 H (h2 _ _ (grIs rs))
  · cases h
def eLooksG : List AV → Option ((AV → Prop) → Prop)
  | [.agg [.vs 5 xs, .lit (.int .i64 _), .lit (.int .i64 _), .lit (.int .i64 _), .vs 1 ys, .vs 5 zs], .vs 5 ls] => some fun K => ∃ (rs : List Rch) (l : List Lk), GrIs rs xs ys zs ∧ ls = l.map lkV ∧ RoadOk rs ∧ l.length ≤ 9223372036854775807 ∧ ∀ q, q = looksE (plc rs) l → K (I q)
  | _ => none
theorem eLooksG_ok : ∀ args pt, eLooksG args = some pt → ∀ (H : AHeap) (Kk : AV → AHeap → Prop), pt (fun r => Kk r H) → ACalls Try.prog 60 args H Kk := by
  intro args pt h H Kk hk
  unfold eLooksG at h
  split at h
  · cases h
    obtain ⟨rs, l, ⟨rfl, rfl, rfl⟩, rfl, h1, h2, h3⟩ := hk
    exact p60 _ _ _ _ _ h1 h2 H (h3 _ rfl)
  · cases h
def eKnowG : List AV → Option ((AV → Prop) → Prop)
  | [.agg [.vs 5 xs, .lit (.int .i64 _), .lit (.int .i64 _), .lit (.int .i64 _), .vs 1 ws, .vs 5 zs], .vs 5 ys, .lit (.int .i64 p), .lit (.int .i64 t)] =>
    some fun K => ∃ (rs : List Rch) (l : List Lk), GrIs rs xs ws zs ∧ ys = l.map lkV ∧ RoadOk rs ∧ l.length ≤ 1000000 ∧ (∀ x ∈ l, LkOk (sumLg rs) x) ∧ (0 ≤ p ∧ p < sumLg rs) ∧ (0 ≤ t ∧ t ≤ 10000) ∧ ∀ u v, (u, v) = knowS (plc rs) l p.toNat t → K (.agg [I u, I v])
  | _ => none
theorem eKnowG_ok : ∀ args pt, eKnowG args = some pt → ∀ (H : AHeap) (Kk : AV → AHeap → Prop), pt (fun r => Kk r H) → ACalls Try.prog 47 args H Kk := by
  intro args pt h H Kk hk
  unfold eKnowG at h
  split at h
  · cases h
    obtain ⟨rs, l, ⟨rfl, rfl, rfl⟩, rfl, h1, h2, h3, h4, h5, h6⟩ := hk
    exact p47 _ _ _ _ _ _ _ h1 h2 h3 h4 h5 H (h6 _ _ rfl)
  · cases h
def lookedR (rs : List Rch) (a b c : Int) (l : List Lk) : AV :=
  if checkV rs a b c = 0 then .tup [grV (.vs 5 (rs.map rcV)) a b c (.vs 1 ((slL (plc rs)).map I)) (.vs 5 ((plc rs).map rcV)), I (looksE (plc rs) l)] else .tup [.agg [NS, I 0, I 0, I 0, NS, NS], I (checkV rs a b c)]
theorem p45 (rs : List Rch) (a b c : Int) (l : List Lk) (h1 : rs.length ≤ 9223372036854775807) (h2 : l.length ≤ 9223372036854775807) (H : AHeap) {Kk : AV → AHeap → Prop} (h : Kk (lookedR rs a b c l) H) : ACalls Try.prog 45 [svV (.vs 5 (rs.map rcV)) a b c, .vs 5 (l.map lkV)] H Kk := by
  refine (fun q => pureC (by rfl) (by unfold lookedR; split <;> rfl) q H h) ?_
  clear h
  intro Kk h
  have hg : checkV rs a b c = 0 → ∀ ys zs, GrIs rs (rs.map rcV) ys zs → Kk (.tup [grV (.vs 5 (rs.map rcV)) a b c (.vs 1 ys) (.vs 5 zs), I (looksE (plc rs) l)]) [] := fun h0 ys zs hi => by
    unfold lookedR at h; rw [if_pos h0] at h; rw [hi.2.1, hi.2.2]; exact h
  have hw : checkV rs a b c ≠ 0 → Kk (.tup [.agg [NS, I 0, I 0, I 0, NS, NS], I (checkV rs a b c)]) [] := fun h0 => by
    unfold lookedR at h; rw [if_neg h0] at h; exact h
  clear h
  obtain ⟨xs, hxs⟩ : ∃ xs, xs = rs.map rcV := ⟨_, rfl⟩
  rw [← hxs] at hg ⊢
  obtain ⟨ls, hls⟩ : ∃ ys, ys = l.map lkV := ⟨_, rfl⟩
  rw [← hls]
  obtain ⟨A, hA⟩ : ∃ A, A = std := ⟨_, rfl⟩
  have hne : ∀ x, A.ne x 0 = decide (x ≠ 0) := by subst hA; intro x; simp only [std, iNe]; rw [Bool.eq_iff_iff]; simp
  refine go45 rfl (SGo_run hA ⟨[], [1], (58, eCheckV) :: (59, eGround) :: (60, eLooksG) :: [], []⟩ (.cons (eCheckV_ok p58) (.cons eGround_ok (.cons eLooksG_ok .nil))) .nil 200 fun T TD hT hTD => ?_)
  cbv
  refine Exists.intro rs (And.intro hxs (And.intro h1 ?_))
  intro q hq; cbv
  rw [← hq] at hw hg
  split <;> cbv
  · rename_i hz
    have hz : q ≠ 0 := by have hz := (hne q).symm.trans hz; simpa using hz
    exact hw hz
  rename_i hz
  have hz : q = 0 := by have hz := (hne q).symm.trans hz; simpa using hz
  have ho := (checkV_ok.1 (hq.symm.trans hz)).1
  refine Exists.intro rs (And.intro hxs (And.intro ho ?_))
  intro ys zs hgr; cbv
  refine Exists.intro rs (Exists.intro l (And.intro hgr (And.intro hls (And.intro ho (And.intro h2 ?_)))))
  intro q2 hq2; cbv
  have := hg hz ys zs hgr
  rw [← hq2] at this
  refine And.intro (by subst hA; first | (simp [std, Keep, SubH, ResK]; done) | exact .inr ⟨⟨rfl, SubH.self _⟩, trivial, .inr fun _ => ⟨rfl, SubH.self _⟩⟩ | exact .inr ⟨SubH.self _, trivial, .inr fun _ => SubH.self _⟩ | exact .inr ⟨by simp [SubH], trivial, .inl rfl⟩ | exact .inr ⟨by simp [SubH], trivial, .inr fun _ => by simp [SubH]⟩) ?_
  cbv
  exact this
def eLooked : List AV → Option ((AV → Prop) → Prop)
  | [.agg [.vs 5 xs, .lit (.int .i64 a), .lit (.int .i64 b), .lit (.int .i64 c)], .vs 5 ls] => some fun K => ∃ (rs : List Rch) (l : List Lk), xs = rs.map rcV ∧ ls = l.map lkV ∧ rs.length ≤ 9223372036854775807 ∧ l.length ≤ 9223372036854775807 ∧
      (∀ e w a' b' c' y z, e = surE rs a b c l → e ≠ 0 → w.nid = true → y.nid = true → z.nid = true → K (.tup [.agg [w, I a', I b', I c', y, z], I e])) ∧
      (RoadOk rs → SgtOk a b c → LksOk (plc rs) l → ∀ ys zs, GrIs rs xs ys zs → K (.tup [grV (.vs 5 xs) a b c (.vs 1 ys) (.vs 5 zs), I 0]))
  | _ => none
theorem eLooked_ok : ∀ args pt, eLooked args = some pt → ∀ (H : AHeap) (Kk : AV → AHeap → Prop), pt (fun r => Kk r H) → ACalls Try.prog 45 args H Kk := by
  intro args pt h H Kk hk
  unfold eLooked at h
  split at h
  · cases h
    obtain ⟨rs, l, rfl, rfl, h1, h2, h3, h4⟩ := hk
    rename_i a b c
    refine p45 _ _ _ _ _ h1 h2 H ?_
    unfold lookedR
    split
    · rename_i h0
      by_cases h5 : looksE (plc rs) l = 0
      · rw [h5]; exact h4 (checkV_ok.1 h0).1 (checkV_ok.1 h0).2 (looksE_ok.1 h5) _ _ (grIs rs)
      · exact h3 _ _ _ _ _ _ _ (by unfold surE orElse; rw [if_pos h0]) h5 rfl rfl rfl
    · rename_i h0
      exact h3 _ _ _ _ _ _ _ (by unfold surE orElse; rw [if_neg h0]) h0 rfl rfl rfl
  · cases h
theorem p30 (rs : List Rch) (a b c p t : Int) (l : List Lk) (h1 : rs.length ≤ 9223372036854775807) (h2 : l.length ≤ 9223372036854775807) (H : AHeap) {Kk : AV → AHeap → Prop}
    (h : Kk (.tup [.agg [I (knownR rs a b c l p t).1.1, I (knownR rs a b c l p t).1.2], I (knownR rs a b c l p t).2]) H) : ACalls Try.prog 30 [svV (.vs 5 (rs.map rcV)) a b c, .vs 5 (l.map lkV), I p, I t] H Kk := by
  refine (fun q => pureC (by rfl) (by rfl) q H h) ?_
  clear h
  intro Kk h
  obtain ⟨xs, hxs⟩ : ∃ xs, xs = rs.map rcV := ⟨_, rfl⟩
  rw [← hxs]
  obtain ⟨ys, hys⟩ : ∃ ys, ys = l.map lkV := ⟨_, rfl⟩
  rw [← hys]
  obtain ⟨A, hA⟩ : ∃ A, A = std := ⟨_, rfl⟩
  obtain ⟨E, hE⟩ : ∃ E, E = surE rs a b c l := ⟨_, rfl⟩
  have hne : ∀ x, A.ne x 0 = decide (x ≠ 0) := by subst hA; intro x; simp only [std, iNe]; rw [Bool.eq_iff_iff]; simp
  have hnb : ∀ b, A.bnot b = !b := by subst hA; intro b; rfl
  have hw : ∀ e, knownE rs a b c l p t = e → e ≠ 0 → Kk (.tup [.agg [I 0, I 0], I e]) [] := fun e h1 h2 => by
    unfold knownR at h; rw [h1, if_neg h2] at h; exact h
  have hg : knownE rs a b c l p t = 0 → ∀ u v, (u, v) = knowS (plc rs) l p.toNat t → Kk (.tup [.agg [I u, I v], I 0]) [] := fun h1 u v h2 => by
    unfold knownR at h; rw [h1, if_pos rfl, ← h2] at h; exact h
  clear h
  have hK : knownE rs a b c l p t = orElse E (if ¬(0 ≤ p ∧ p ≤ sumLg rs - 1) then 7 else if ¬(0 ≤ t ∧ t ≤ 10000) then 2 else 0) := by rw [hE]; rfl
  refine go30 rfl (SGo_run hA ⟨[], [], (45, eLooked) :: (46, eIn) :: (47, eKnowG) :: [], []⟩ (.cons eLooked_ok (.cons (eIn_ok p46) (.cons eKnowG_ok .nil))) .nil 200 fun T TD hT hTD => ?_)
  cbv
  refine Exists.intro rs (Exists.intro l (And.intro hxs (And.intro hys (And.intro h1 (And.intro h2 (And.intro ?_ ?_))))))
  · intro e w a' b' c' y z he h0 _ _ _; cbv
    split <;> cbv
    · refine hw e ?_ h0
      rw [hK, hE, ← he]; unfold orElse; rw [if_neg h0]
    · rename_i hz; exact absurd (of_decide_eq_false ((hne e).symm.trans hz)) (fun h => h h0)
  intro ho hs2 hlo sl zs hgr; cbv
  split <;> cbv
  · rename_i hz; exact absurd rfl (of_decide_eq_true ((hne 0).symm.trans hz))
  have hK : knownE rs a b c l p t = if ¬(0 ≤ p ∧ p ≤ sumLg rs - 1) then 7 else if ¬(0 ≤ t ∧ t ≤ 10000) then 2 else 0 := by rw [hK, hE, surE_ok.2 ⟨ho, hs2, hlo⟩]; unfold orElse; rw [if_pos rfl]
  clear hE
  have hsb := sumLg_bnd' ho
  have hn1 : A.sub .i64 (A.vlen zs) 1 = sumLg rs - 1 := by
    have : A.vlen zs = sumLg rs := by rw [← ho.ilen, hgr.2.2]; subst hA; simp [std]
    rw [this]; subst hA; exact iSub_id (by omega) (by omega)
  intro q1 hq1; cbv
  have hq1 : q1 = decide (0 ≤ p ∧ p ≤ sumLg rs - 1) := by rw [← hn1]; exact hq1
  split <;> cbv
  · rename_i hz
    have hz : q1 = false := by have hz := (hnb q1).symm.trans hz; simpa using hz
    rw [hq1, decide_eq_false_iff_not] at hz
    exact hw 7 (by rw [hK, if_pos hz]) (by decide)
  rename_i hz
  have hz : q1 = true := by have hz := (hnb q1).symm.trans hz; simpa using hz
  rw [hq1, decide_eq_true_eq] at hz
  intro q2 hq2; cbv
  split <;> cbv
  · rename_i hz2
    have hz2 : q2 = false := by have hz := (hnb q2).symm.trans hz2; simpa using hz
    rw [hq2, decide_eq_false_iff_not] at hz2
    exact hw 2 (by rw [hK, if_neg (fun h => h hz), if_pos hz2]) (by decide)
  rename_i hz2
  have hz2 : q2 = true := by have hz := (hnb q2).symm.trans hz2; simpa using hz
  rw [hq2, decide_eq_true_eq] at hz2
  refine Exists.intro rs (Exists.intro l (And.intro hgr (And.intro hys (And.intro ho (And.intro (by have := hlo.le; omega) (And.intro (hlo.all' ho) (And.intro (And.intro hz.1 (by omega)) (And.intro hz2 ?_)))))))) 
  intro u v huv; cbv
  exact hg (by rw [hK, if_neg (fun h => h hz), if_neg (fun h => h hz2)]) u v huv
end Go.Sas
namespace Go.Sas
def sgtS (a b c k : Int) : Int := if k = 1 then a else if k = 2 then b else c
/-- a look sees a place, not too long ago -/
def seenS (a b c ev : Int) (p h : Int) (x : Lk) : Bool := decide (x.p - sgtS a b c x.k ≤ p ∧ p ≤ x.p + sgtS a b c x.k) && decide (h - ev ≤ x.h ∧ x.h ≤ h)
def staleS (R : List Rch) (a b c : Int) (l : List Lk) (h : Int) (p : Nat) : Bool := !l.any (seenS a b c (R.getD p rc0).ev p h)
def staleL (R : List Rch) (a b c : Int) (l : List Lk) (h : Int) : List Bool := (List.range R.length).map (staleS R a b c l h)
theorem sgtS_bnd {a b c k : Int} (h : SgtOk a b c) : 0 ≤ sgtS a b c k ∧ sgtS a b c k ≤ 50 := by
  have h1 := h.a
  have h2 := h.b
  have h3 := h.c
  unfold sgtS; split
  · exact h1
  · split
    · exact h2
    · exact h3
end Go.Sas
namespace Go.Sas
def rowA (D : Nat) (f : Nat → AV) : List AV := (List.range D).map f
def updA (f : Nat → AV) (d : Nat) (v : AV) : Nat → AV := fun k => if k = d then v else f k
theorem rowA_len {D : Nat} {f : Nat → AV} : (rowA D f).length = D := by simp [rowA]
theorem rowA_get {D d : Nat} {f : Nat → AV} (h : d < D) : (rowA D f)[d]? = some (f d) := by simp [rowA, h]
theorem rowA_set {D d : Nat} {f : Nat → AV} {v : AV} : (rowA D f).set d v = rowA D (updA f d v) := by
  apply List.ext_getElem?
  intro i
  unfold rowA
  rw [List.getElem?_set]
  by_cases h1 : d = i
  · subst h1
    by_cases h2 : d < D
    · simp [h2, updA]
    · simp [h2]
  · rw [if_neg h1]
    by_cases h2 : i < D
    · simp [h2, updA, Ne.symm h1]
    · simp [h2]
theorem rowA_congr {D : Nat} {f g : Nat → AV} (h : ∀ d, d < D → f d = g d) : rowA D f = rowA D g := by
  unfold rowA
  exact List.map_congr_left fun d hd => h d (List.mem_range.1 hd)
theorem updS_rowA {D d : Nat} {f g : Nat → AV} {v : AV} (h : d < D) (hg : ∀ q, q < D → g q = if q = d then v else f q) : updS 1 (rowA D f) d [v] (rowA D g) := by
  rw [rowA_congr (g := updA f d v) (fun q hq => hg q hq), ← rowA_set]
  refine ⟨rfl, by rw [rowA_len]; omega, ?_⟩
  have hl : d < (rowA D f).length := by rw [rowA_len]; exact h
  rw [List.set_eq_take_append_cons_drop, if_pos hl]; simp
theorem getS_rowA {D d : Nat} {f : Nat → AV} {v : AV} (h : d < D) (hv : f d = v) : getS none (rowA D f) d v := by rw [← hv]; exact rowA_get h
theorem zeros_rowA {D : Nat} {z : Value} : List.flatten (List.replicate D ([z].map AV.lit)) = rowA D fun _ => .lit z := by
  induction D with
  | zero => rfl
  | succ D ih =>
    rw [List.replicate_succ', List.flatten_append, ih]
    simp [rowA, List.range_succ]
theorem mkS_rowA {D by_ : Nat} {z : Value} {ln : Int} (hl : ln = iLen D) (hb : D ≤ 1000000) (hy : by_ ≤ 1000) : mkS 1 by_ [z] ln ln (rowA D fun _ => .lit z) D := by
  subst hl
  have h1 : ((by_ : Int) * (D : Int)) ≤ 1000 * 1000000 := Int.mul_le_mul (by omega) (by omega) (by omega) (by omega)
  exact ⟨by unfold iLen; omega, Int.le_refl _, by unfold iLen; omega, by unfold iLen; omega, rfl, by unfold iLen; omega, by rw [← zeros_rowA]; rfl⟩
theorem Elems_one {α : Type} {F : α → AV} (h1 : ∀ x, (F x).cells = some [F x]) (h2 : ∀ x, (F x).nid = true) (l : List α) : Elems 1 (l.map F) (l.map F) := by
  have := Elems_map (f := F) (g := fun x => [F x]) (sz := 1) h1 h2 (fun _ => rfl) l
  rw [flat_one] at this
  exact this
theorem rowA_map {α : Type} {D : Nat} {F : α → AV} {f : Nat → α} : rowA D (fun q => F (f q)) = ((List.range D).map f).map F := by simp [rowA]
theorem nidL_rowA {D : Nat} {f : Nat → AV} (h : ∀ q, (f q).nid = true) : AV.nidL (rowA D f) = true := nidL_map h _
end Go.Sas
namespace Go.Sas
open Go.Proofs
set_option maxRecDepth 100000
abbrev stH (a b c h : Int) (xs ws zs ls cs : List AV) (N : Nat) : AHeap :=
  [.own 0 [.vs 5 xs, I a, I b, I c, .vs 1 ws, .vs 5 zs], .own 0 [.vs 5 ls], .own 0 [I h], .own 0 cs, .own 0 [.ms 1 3 0 0 N], .own 0 [.vs 5 xs, I a, I b, I c]]
theorem p54 (rs : List Rch) (a b c h0 : Int) (l : List Lk) (ho : RoadOk rs) (hs : SgtOk a b c) (hl : l.length ≤ 1000000) (hL : ∀ x ∈ l, LkOk (sumLg rs) x) (hh : 0 ≤ h0 ∧ h0 ≤ 10000) (H : AHeap) {Kk : AV → AHeap → Prop}
    (h : Kk (.vs 1 ((staleL (plc rs) a b c l h0).map B)) H) : ACalls Try.prog 54 [grV (.vs 5 (rs.map rcV)) a b c (.vs 1 ((slL (plc rs)).map I)) (.vs 5 ((plc rs).map rcV)), .vs 5 (l.map lkV), I h0] H Kk := by
  refine (fun q => pureF (by rfl) (by rfl) q H h) ?_
  clear h
  intro Kk h
  obtain ⟨xs, hxs⟩ : ∃ xs, xs = rs.map rcV := ⟨_, rfl⟩
  obtain ⟨ws, hws⟩ : ∃ ys, ys = (slL (plc rs)).map I := ⟨_, rfl⟩
  obtain ⟨zs, hzs⟩ : ∃ zs, zs = (plc rs).map rcV := ⟨_, rfl⟩
  obtain ⟨ls, hls⟩ : ∃ ys, ys = l.map lkV := ⟨_, rfl⟩
  rw [← hxs, ← hws, ← hzs, ← hls]
  have hRl := ho.ilen
  obtain ⟨R, hR⟩ : ∃ R, R = plc rs := ⟨_, rfl⟩
  have hPl : PlcOk R := hR ▸ ho.plc
  rw [← hR] at h hRl hzs
  obtain ⟨F, hF⟩ : ∃ F, F = Frees 0 Kk := ⟨_, rfl⟩
  rw [← hF]
  obtain ⟨N, hN⟩ : ∃ N, N = R.length := ⟨_, rfl⟩
  have hN1 : N ≤ 1000 := by rw [hN]; exact hPl.le
  obtain ⟨SS, hSS⟩ : ∃ f : Nat → Bool, f = staleS R a b c l h0 := ⟨_, rfl⟩
  obtain ⟨CS, hCS⟩ : ∃ f : Nat → List AV, f = fun p => rowA N fun q => B (if q < p then SS q else false) := ⟨_, rfl⟩
  obtain ⟨Q, hQ⟩ : ∃ Q : Nat → Nat, Q = fun j => (plc (rs.take j)).length := ⟨_, rfl⟩
  have hQ0 : Q 0 = 0 := by rw [hQ]; rfl
  obtain ⟨A, hA⟩ : ∃ A, A = std := ⟨_, rfl⟩
  have hsg : ∀ g, A.sg g g := by subst hA; exact fun _ => rfl
  have hv : A.vlen zs = iLen N := by subst hA; rw [hzs, hN]; simp [std]
  have hmk : A.mkz 1 1 [.bool false] (A.vlen zs) (A.vlen zs) (CS (Q 0)) N := by
    rw [hv]; subst hA; rw [hQ0, hCS]; exact mkS_rowA rfl (by omega) (by omega)
  refine go54 rfl (SGo_run hA ⟨[3], [], [], (68, eRoad) :: []⟩ .nil (.cons eRoad_ok .nil) 200 fun T TD hT hTD => ?_)
  cbv
  refine Exists.intro _ (Exists.intro _ (And.intro hmk ?_)); cbv
  refine Exists.intro rs (And.intro hxs ?_); cbv
  rw [hT]
  refine AGo_range (fid := 78) (caps := [.mp 5 0 0]) rfl rfl [(3, .mp 0 0 0), (4, .mp 1 0 0), (5, .mp 2 0 0), (7, .mp 4 0 0)] ⟨rfl, rfl, rfl, rfl, trivial⟩ rfl ?_
  intro lp lb us hY
  have hQs : ∀ j (r : Rch), rs[j]? = some r → Q (j + 1) = Q j + r.lg.toNat ∧ ∀ k, k < r.lg.toNat → R[Q j + k]? = some r := by
    intro j r hx
    obtain ⟨h1, rfl⟩ := List.getElem?_eq_some_iff.1 hx
    have e1 : plc (rs.take (j + 1)) = plc (rs.take j) ++ List.replicate rs[j].lg.toNat rs[j] := by
      rw [List.take_succ_eq_append_getElem h1, plc_append]; congr 1; simp [plc]
    constructor
    · rw [hQ]; dsimp only; rw [e1, List.length_append, List.length_replicate]
    · intro k hk
      have e2 : R = plc (rs.take (j + 1)) ++ plc (rs.drop (j + 1)) := by rw [hR, ← plc_append, List.take_append_drop]
      rw [e2, e1, List.append_assoc, hQ]; dsimp only
      rw [List.getElem?_append_right (by omega), List.getElem?_append_left (by rw [List.length_replicate]; omega), List.getElem?_replicate, if_pos (by omega)]
  have hQe : ∀ j, rs.length ≤ j → Q j = R.length := fun j hj => by rw [hQ, hR]; dsimp only; rw [List.take_of_length_le hj]
  have hlk0 : ∀ p r, R[p]? = some r → p < N ∧ R.getD p rc0 = r := by
    intro p r hx
    obtain ⟨h1, rfl⟩ := List.getElem?_eq_some_iff.1 hx
    exact ⟨by omega, by rw [List.getD_eq_getElem?_getD, hx]; rfl⟩
  have hend : ∀ X0 X1 X2 X4 T1, F (aTup [.ms 1 3 0 0 N]) (X0 :: X1 :: X2 :: .own 0 (CS N) :: X4 :: T1) := by
    intro X0 X1 X2 X4 T1
    rw [hF]
    have hc : CS N = (staleL R a b c l h0).map B := by
      rw [hCS]; dsimp only
      rw [rowA_congr (g := fun q => B (SS q)) (fun q hq => by rw [if_pos hq]), rowA_map, hN, hSS]; rfl
    rw [hc]
    refine Frees.frz 3 0 1 ((staleL R a b c l h0).map B) rfl (Elems_one (F := B) (fun _ => rfl) (fun _ => rfl) _) ?_
    have e : AV.frz 3 0 1 ((staleL R a b c l h0).map B) (aTup [.ms 1 3 0 0 N]) = .vs 1 ((staleL R a b c l h0).map B) := frz_self (by simp [staleL, hN])
    rw [e]
    exact Frees.drop0 h rfl
  have hxl : ∀ n, AV.ltL n xs := fun n => AV.ltL_nid (by rw [hxs]; exact nidL_rc rs)
  have hwl : ∀ n, AV.ltL n ws := fun n => AV.ltL_nid (by rw [hws]; exact nidL_map (g := I) (fun _ => rfl) _)
  have hzl : ∀ n, AV.ltL n zs := fun n => AV.ltL_nid (by rw [hzs]; exact nidL_rc R)
  have hll : ∀ n, AV.ltL n ls := fun n => AV.ltL_nid (by rw [hls]; exact nidL_map (g := lkV) (fun _ => rfl) _)
  have hcl : ∀ p n, AV.ltL n (CS p) := fun p n => AV.ltL_nid (by rw [hCS]; exact nidL_rowA (fun _ => rfl))
  show ACalls Try.prog 78 [.yl 6 0, .mp 5 0 0] (stH a b c h0 xs ws zs ls (CS (Q 0)) N ++ [.raw 0 lp [.mp 0 0 0, .mp 1 0 0, .mp 2 0 0, .mp 4 0 0] us]) _
  refine go78 rfl ?_
  refine AGo_opq fun RR hRR => ?_
  refine SGo_run hA ⟨[], [], [], []⟩ .nil .nil 200 fun T TD hT hTD => ?_
  cbv
  rw [hT]
  refine AGo_upE [0, 1, 7, 8] rs.length (fun j (_ : Unit) => True) (fun j _ i => [(3, I (iLen (Q j))), (9, I i)]) (fun j _ => stH a b c h0 xs ws zs ls (CS (Q j)) N ++ [.raw 0 lp [.mp 0 0 0, .mp 1 0 0, .mp 2 0 0, .mp 4 0 0] us]) () trivial ⟨by rw [hQ0]; rfl, rfl, trivial⟩ (.inl rfl) fun j _ i hi hj hP Bk hB => ?_
  have hlt : A.lt i (A.vlen xs) = decide (j < rs.length) := by subst hA; exact lt_len (by simp [hxs]) hi
  have hadd : ∀ N, j < N → N ≤ 9223372036854775807 → A.add .i64 i 1 = iLen (j + 1) := fun N hj hN => by subst hA; exact add_one hi hj hN
  obtain ⟨ip, hip⟩ : ∃ q, q = iLen (Q j) := ⟨_, rfl⟩
  rw [← hip]
  refine SGo_run hA ⟨[], [], [], []⟩ .nil .nil 200 fun T TD hT hTD => ?_
  cbv
  split <;> cbv
  · rename_i hk0
    have hk1 : j < rs.length := by have hz := hlt.symm.trans hk0; simpa using hz
    clear hk0
    obtain ⟨r, hx⟩ : ∃ x, rs[j]? = some x := ⟨_, List.getElem?_eq_getElem hk1⟩
    have hix : A.ix 5 5 xs i (rcC r) := by subst hA; exact ix_map hxs hi hx rfl
    obtain ⟨hq1, hq2⟩ := hQs j r hx
    have hrb := (ho.all _ (List.mem_of_getElem? hx)).1
    refine Exists.intro _ (And.intro hix ?_); cbv
    rw [hT]
    refine AGo_upE [0, 1, 5, 7, 8, 9, 14] r.lg.toNat (fun k (_ : Unit) => True) (fun k _ i => [(3, I (iLen (Q j + k))), (15, I i)]) (fun k _ => stH a b c h0 xs ws zs ls (CS (Q j + k)) N ++ [.raw 0 lp [.mp 0 0 0, .mp 1 0 0, .mp 2 0 0, .mp 4 0 0] us, .own 0 (rcC r)]) () trivial ⟨congrArg I hip, rfl, trivial⟩ (.inl rfl) fun k _ i2 hi2 hk hP2 Bk2 hB2 => ?_
    have hlt2 : A.lt i2 r.lg = decide (k < r.lg.toNat) := by subst hA; simp only [std, iLt, hi2]; rw [decide_eq_decide]; unfold iLen; omega
    have hadd2 : ∀ N, k < N → N ≤ 9223372036854775807 → A.add .i64 i2 1 = iLen (k + 1) := fun N hj hN => by subst hA; exact add_one hi2 hj hN
    obtain ⟨p, hp⟩ : ∃ p, p = Q j + k := ⟨_, rfl⟩
    rw [← hp]
    obtain ⟨iq, hiq⟩ : ∃ q, q = iLen p := ⟨_, rfl⟩
    rw [← hiq]
    refine SGo_run hA ⟨[], [], [], []⟩ .nil .nil 200 fun T TD hT hTD => ?_
    cbv
    split <;> cbv
    · rename_i hz
      have hk1' : k < r.lg.toNat := by have hz := hlt2.symm.trans hz; simpa using hz
      have hRp := hq2 k hk1'
      rw [← hp] at hRp
      obtain ⟨hpN, hRr⟩ := hlk0 p r hRp
      have hrok := hPl.all _ (List.mem_of_getElem? hRp)
      rw [hT]
      refine AGo_yield (id := 6) (gg := 0) rfl rfl rfl rfl ?_
      show AYields Try.prog 6 [I iq, rcV r] (stH a b c h0 xs ws zs ls (CS p) N ++ [.raw 0 lp [.mp 0 0 0, .mp 1 0 0, .mp 2 0 0, .mp 4 0 0] us, .own 0 (rcC r)]) _
      obtain ⟨HX, hHX⟩ : ∃ HX, HX = stH a b c h0 xs ws zs ls (CS p) N ++ [.raw 0 lp [.mp 0 0 0, .mp 1 0 0, .mp 2 0 0, .mp 4 0 0] us, .own 0 (rcC r), .own 0 (rcC r)] := ⟨_, rfl⟩
      obtain ⟨R1, hR1⟩ : ∃ R1 : Env → AHeap → Prop, R1 = fun e1 H2 => Fits e1 [(3, .mp 0 0 0), (4, .mp 1 0 0), (5, .mp 2 0 0), (7, .mp 4 0 0), (8, I iq), (9, .mp 8 0 0)] ∧ H2 = HX := ⟨_, rfl⟩
      refine hY [I iq, rcV r] _ _ R1 rfl rfl (fun roo => ?_) (fun roo e1 H2 hr1 => ?_)
      · refine SGo_run hA ⟨[], [], [], []⟩ .nil .nil 200 fun T TD hT hTD => ?_
        cbv
        rw [hR1]
        exact ⟨⟨rfl, rfl, rfl, rfl, rfl, rfl, trivial⟩, hHX.symm⟩
      · rw [hR1] at hr1
        obtain ⟨hf1, rfl⟩ := hr1
        rw [hHX]
        refine ⟨rfl, ?_⟩
        refine AGo_forget [(3, .mp 0 0 0), (4, .mp 1 0 0), (5, .mp 2 0 0), (7, .mp 4 0 0), (8, I iq), (9, .mp 8 0 0)] _ hf1 (.inl rfl) ?_ (by simp)
        refine AGo_opq fun R2 hR2 => ?_
        obtain ⟨C1, hC1⟩ : ∃ f : Nat → List AV, f = fun j => rowA N fun q => B (if q < p then SS q else if q = p then !((l.take j).any (seenS a b c r.ev p h0)) else false) := ⟨_, rfl⟩
        have hixp : A.ixm 1 1 0 N iq p := by subst hA; exact ixm1 hiq hpN
        have hup : A.upd 1 (CS p) p [B true] (C1 0) := by
          subst hA; rw [hCS, hC1]
          exact updS_rowA hpN fun q _ => by
            by_cases h1 : q = p
            · subst h1; rw [if_pos rfl, if_neg (Nat.lt_irrefl _), if_pos rfl]; rfl
            · rw [if_neg h1, if_neg h1]
        obtain ⟨cs0, hcs0⟩ : ∃ r, r = CS p := ⟨_, rfl⟩
        obtain ⟨cs1, hcs1⟩ : ∃ r, r = C1 0 := ⟨_, rfl⟩
        rw [← hcs0, ← hcs1] at hup
        rw [← hcs0]
        refine SGo_run hA ⟨[3], [], [], []⟩ .nil .nil 200 fun T TD hT hTD => ?_
        cbv
        refine And.intro (hsg _) (Exists.intro p (And.intro hixp ?_)); cbv
        refine And.intro (hsg _) (Exists.intro cs1 (And.intro hup ?_)); cbv
        rw [hT]
        refine AGo_upE [3, 4, 5, 7, 8, 9, 25, 26] l.length (fun j (_ : Unit) => True) (fun j _ i => [(27, I i)]) (fun j _ => stH a b c h0 xs ws zs ls (C1 j) N ++ [.raw 0 lb [.mp 0 0 0, .mp 1 0 0, .mp 2 0 0, .mp 4 0 0] us, .own 0 (rcC r), .own 0 (rcC r)]) () trivial ⟨rfl, trivial⟩ (.inl (by rw [hcs1]; rfl)) fun j3 _ i3 hi3 hj3 _ Bk3 hB3 => ?_
        have hlt3 : A.lt i3 (A.vlen ls) = decide (j3 < l.length) := by subst hA; exact lt_len (by simp [hls]) hi3
        have hadd3 : ∀ N, j3 < N → N ≤ 9223372036854775807 → A.add .i64 i3 1 = iLen (j3 + 1) := fun N hj hN => by subst hA; exact add_one hi3 hj hN
        obtain ⟨cs2, hcs2⟩ : ∃ r, r = C1 j3 := ⟨_, rfl⟩
        rw [← hcs2]
        refine SGo_run hA ⟨[3, 10], [], (46, eIn) :: [], []⟩ (.cons (eIn_ok p46) .nil) .nil 200 fun T TD hT hTD => ?_
        cbv
        split <;> cbv
        · rename_i hz
          have hk3 : j3 < l.length := by have hz := hlt3.symm.trans hz; simpa using hz
          obtain ⟨⟨k', q', g', u', v'⟩, hx3⟩ : ∃ x, l[j3]? = some x := ⟨_, List.getElem?_eq_getElem hk3⟩
          have hiy : A.ix 5 5 ls i3 [I k', I q', I g', I u', I v'] := by subst hA; exact ix_map hls hi3 hx3 rfl
          obtain ⟨d0, d1, d2, d3, d4, d5⟩ := hL _ (List.mem_of_getElem? hx3)
          dsimp only at d0 d1 d2 d3 d4 d5
          refine Exists.intro _ (And.intro hiy ?_); cbv
          refine And.intro (hsg _) (Exists.intro [I a, I b, I c] (And.intro (by subst hA; exact ⟨rfl, by decide, rfl⟩) ?_)); cbv
          have hkk : A.sub .i64 k' 1 = iLen (k' - 1).toNat := by subst hA; show iSub .i64 k' 1 = _; rw [iSub_id (by omega) (by omega)]; unfold iLen; omega
          obtain ⟨o, ho3⟩ : ∃ o, o = (k' - 1).toNat := ⟨_, rfl⟩
          have hixo : A.ixm 1 1 0 3 (A.sub .i64 k' 1) o := by subst hA; exact ixm1 (hkk.trans (congrArg iLen ho3.symm)) (by omega)
          obtain ⟨sx, hsx⟩ : ∃ x, x = sgtS a b c k' := ⟨_, rfl⟩
          have hsb := sgtS_bnd hs (k := k')
          rw [← hsx] at hsb
          have hge : A.get none [I a, I b, I c] o (I sx) := by
            subst hA
            have : k' = 1 ∨ k' = 2 ∨ k' = 3 := by omega
            rcases this with rfl | rfl | rfl <;> subst ho3 hsx <;> rfl
          repeat (first | (refine And.intro (hsg _) (Exists.intro o (And.intro hixo ?_)); cbv) | (refine And.intro (hsg _) (Exists.intro _ (And.intro hge ?_)); cbv))
          intro b1 hb1; cbv
          have hlg : sumLg rs ≤ 1000 := ho.le
          have hsb1 : A.sub .i64 q' sx = q' - sx := by subst hA; exact iSub_id (by omega) (by omega)
          have hsb2 : A.add .i64 q' sx = q' + sx := by subst hA; exact iAdd_id (by omega) (by omega)
          have hsb3 : A.sub .i64 h0 r.ev = h0 - r.ev := by
            obtain ⟨_, _, _, _, h9⟩ := hrok
            subst hA; exact iSub_id (by omega) (by omega)
          have hb4 : b1 = decide (q' - sx ≤ p ∧ (p : Int) ≤ q' + sx) := by rw [← hsb1, ← hsb2]; rw [hiq] at hb1; exact hb1
          clear hb1
          have htk : ∀ q, ((l.take (j3 + 1)).any q) = ((l.take j3).any q || q ⟨k', q', g', u', v'⟩) := fun q => by
            obtain ⟨h1, he⟩ := List.getElem?_eq_some_iff.1 hx3
            rw [List.take_succ_eq_append_getElem h1, he, List.any_append]; simp
          have hno : seenS a b c r.ev p h0 ⟨k', q', g', u', v'⟩ = false → C1 (j3 + 1) = cs2 := fun hs => by
            rw [hcs2, hC1]; dsimp only
            refine rowA_congr fun q hq => ?_
            rw [htk, hs, Bool.or_false]
          have hyes : seenS a b c r.ev p h0 ⟨k', q', g', u', v'⟩ = true → A.upd 1 cs2 p [B false] (C1 (j3 + 1)) := fun hs => by
            rw [hcs2, hC1]; subst hA
            refine updS_rowA hpN fun q _ => ?_
            by_cases h1 : q = p
            · subst h1; rw [if_pos rfl, if_neg (Nat.lt_irrefl _), if_pos rfl, htk, hs]; simp
            · rw [if_neg h1, if_neg h1, if_neg h1]
          have hsn : seenS a b c r.ev p h0 ⟨k', q', g', u', v'⟩ = (decide (q' - sx ≤ p ∧ (p : Int) ≤ q' + sx) && decide (h0 - r.ev ≤ g' ∧ g' ≤ h0)) := by rw [hsx]; rfl
          rw [← hb4] at hsn
          clear hb4
          obtain ⟨cs3, hcs3⟩ : ∃ r, r = C1 (j3 + 1) := ⟨_, rfl⟩
          rw [← hcs3] at hno hyes
          have hfin : ∀ e', Fits e' [(27, I (A.add .i64 i3 1))] → Fits e' (keepS [3, 4, 5, 7, 8, 9, 25, 26] [(27, I i3), (3, .mp 0 0 0), (4, .mp 1 0 0), (5, .mp 2 0 0), (7, .mp 4 0 0), (8, I iq), (9, .mp 8 0 0), (25, .vs 5 ls), (26, I (A.vlen ls))]) →
              Bk3 e' (stH a b c h0 xs ws zs ls cs3 N ++ [.raw 0 lb [.mp 0 0 0, .mp 1 0 0, .mp 2 0 0, .mp 4 0 0] us, .own 0 (rcC r), .own 0 (rcC r), .own 0 [I k', I q', I g', I u', I v'], .own 0 [I a, I b, I c]]) := fun e' hf hk => by
            rw [hadd3 _ hk3 (by omega)] at hf
            refine hB3 () _ _ hk3 trivial hf hk (.inr ⟨⟨[.own 0 [I k', I q', I g', I u', I v'], .own 0 [I a, I b, I c]], by rw [hcs3]; rfl⟩, by simp, by simp [ltG, AV.lt, AV.ltL, keepS, look], ?_⟩)
            have hc3 : ∀ n, AV.ltL n (C1 (j3 + 1)) := fun n => AV.ltL_nid (by rw [hC1]; exact nidL_rowA (fun _ => rfl))
            simp [ltH, AObj.lt, AV.lt, AV.ltL, hxl, hwl, hzl, hll, hc3]
          split <;> cbv
          · intro b2 hb2; cbv
            have hb5 : b2 = decide (h0 - r.ev ≤ g' ∧ g' ≤ h0) := by rw [← hsb3]; exact hb2
            clear hb2
            rw [← hb5] at hsn
            clear hb5
            split <;> cbv
            · refine And.intro (hsg _) (Exists.intro p (And.intro hixp ?_)); cbv
              refine And.intro (hsg _) (Exists.intro cs3 (And.intro (hyes hsn) ?_)); cbv
              exact hfin _ ⟨rfl, trivial⟩ ⟨rfl, rfl, rfl, rfl, rfl, rfl, rfl, rfl, trivial⟩
            · have := hno hsn
              rw [← this]
              exact hfin _ ⟨rfl, trivial⟩ ⟨rfl, rfl, rfl, rfl, rfl, rfl, rfl, rfl, trivial⟩
          · have := hno hsn
            rw [← this]
            exact hfin _ ⟨rfl, trivial⟩ ⟨rfl, rfl, rfl, rfl, rfl, rfl, rfl, rfl, trivial⟩
        · rename_i hz
          have hk3 : ¬ j3 < l.length := by have hz := hlt3.symm.trans hz; simpa using hz
          have hcN : cs2 = CS (p + 1) := by
            rw [hcs2, hC1, hCS]; dsimp only
            refine rowA_congr fun q hq => ?_
            by_cases h1 : q < p
            · rw [if_pos h1, if_pos (by omega)]
            · rw [if_neg h1]
              by_cases h2 : q = p
              · rw [if_pos h2, if_pos (by omega), h2, hSS, staleS, hRr, List.take_of_length_le (by omega)]
              · rw [if_neg h2, if_neg (by omega)]
          refine hR2 _ _ ⟨rfl, ?_⟩
          have hb : A.bnot true = false := by subst hA; rfl
          refine SGo_run hA ⟨[], [], [], []⟩ .nil .nil 200 fun T TD hT hTD => ?_
          cbv
          split <;> cbv
          · rename_i hq; exact Bool.noConfusion (hq.symm.trans hb)
          have hq1 : A.add .i64 iq 1 = iLen (Q j + (k + 1)) := by
            subst hA; rw [hiq]; rw [← Nat.add_assoc, ← hp]; exact add_one (N := 1000) rfl (by omega) (by omega)
          refine hB2 () _ _ hk1' trivial ⟨congrArg I hq1, congrArg I (hadd2 _ hk1' (by omega)), trivial⟩ ⟨rfl, rfl, rfl, rfl, rfl, rfl, rfl, trivial⟩ (.inr ⟨⟨[.own 0 (rcC r)], ?_⟩, by simp, by simp [ltG, AV.lt, AV.ltL, keepS, look], ?_⟩)
          · rw [← Nat.add_assoc, ← hp, ← hcN]; rfl
          · simp [ltH, AObj.lt, AV.lt, AV.ltL, hxl, hwl, hzl, hll, hcl]
    · rename_i hz
      have hk1' : ¬ k < r.lg.toNat := by have hz := hlt2.symm.trans hz; simpa using hz
      refine hB () _ _ hk1 trivial ⟨congrArg I (by rw [hiq, hq1, hp, show k = r.lg.toNat by omega]), congrArg I (hadd _ hk1 (by have := ho.n2; omega)), trivial⟩ ⟨rfl, rfl, rfl, rfl, trivial⟩ (.inr ⟨⟨[.own 0 (rcC r)], ?_⟩, by simp, by simp [ltG, AV.lt, AV.ltL, keepS, look], ?_⟩)
      · rw [hq1, show r.lg.toNat = k by omega, ← hp]; rfl
      · simp [ltH, AObj.lt, AV.lt, AV.ltL, hxl, hwl, hzl, hll, hcl]
  · rename_i hk0
    have hk1 : ¬ j < rs.length := by have hz := hlt.symm.trans hk0; simpa using hz
    clear hk0
    refine hRR _ _ (RetP.same (vs := []) rfl rfl ⟨rfl, ?_⟩)
    have hQj := hQe j (by omega)
    rw [hQj, ← hN]
    refine SGo_run hA ⟨[], [], [], []⟩ .nil .nil 200 fun T TD hT hTD => ?_
    cbv
    exact hend _ _ _ _ _
def eStale : List AV → Option ((AV → Prop) → Prop)
  | [.agg [.vs 5 xs, .lit (.int .i64 a), .lit (.int .i64 b), .lit (.int .i64 c), .vs 1 ws, .vs 5 zs], .vs 5 ys, .lit (.int .i64 t)] =>
    some fun K => ∃ (rs : List Rch) (l : List Lk), GrIs rs xs ws zs ∧ ys = l.map lkV ∧ RoadOk rs ∧ SgtOk a b c ∧ l.length ≤ 1000000 ∧ (∀ x ∈ l, LkOk (sumLg rs) x) ∧ (0 ≤ t ∧ t ≤ 10000) ∧ ∀ zs, zs = (staleL (plc rs) a b c l t).map B → K (.vs 1 zs)
  | _ => none
theorem eStale_ok : ∀ args pt, eStale args = some pt → ∀ (H : AHeap) (Kk : AV → AHeap → Prop), pt (fun r => Kk r H) → ACalls Try.prog 54 args H Kk := by
  intro args pt h H Kk hk
  unfold eStale at h
  split at h
  · cases h
    obtain ⟨rs, l, ⟨rfl, rfl, rfl⟩, rfl, h1, h2, h3, h4, h5, h6⟩ := hk
    exact p54 _ _ _ _ _ _ h1 h2 h3 h4 h5 H (h6 _ rfl)
  · cases h
end Go.Sas
namespace Go.Sas
section
variable {α : Type} [DecidableEq α]
/-- the runs of the first places: from which place, up to which one, with which value -/
def runsN (V : Nat → α) : Nat → List (Nat × Nat × α)
  | 0 => []
  | n + 1 => match (runsN V n).getLast? with
    | some (f, _, v) => if v = V n then (runsN V n).dropLast ++ [(f, n, v)] else runsN V n ++ [(n, n, V n)]
    | none => [(0, n, V n)]
theorem runsN_last {V : Nat → α} {n : Nat} : ∃ l f, runsN V (n + 1) = l ++ [(f, n, V n)] ∧ f ≤ n := by
  induction n with
  | zero => exact ⟨[], 0, rfl, Nat.le_refl _⟩
  | succ n ih =>
    obtain ⟨l, f, h, hf⟩ := ih
    simp only [runsN]
    rw [show (match (runsN V n).getLast? with
      | some (f, _, v) => if v = V n then (runsN V n).dropLast ++ [(f, n, v)] else runsN V n ++ [(n, n, V n)]
      | none => [(0, n, V n)]) = runsN V (n + 1) from rfl, h]
    simp only [List.getLast?_append, List.getLast?_singleton, Option.some_or]
    split
    · rename_i hv; exact ⟨l, f, by simp [hv], by omega⟩
    · exact ⟨l ++ [(f, n, V n)], n + 1, rfl, Nat.le_refl _⟩
theorem runsN_new {V : Nat → α} {f : Nat} (h : f = 0 ∨ V (f - 1) ≠ V f) : runsN V (f + 1) = runsN V f ++ [(f, f, V f)] := by
  cases f with
  | zero => rfl
  | succ n =>
    obtain ⟨l, g, hl, _⟩ := runsN_last (V := V) (n := n)
    rw [runsN]
    rw [hl]
    simp only [List.getLast?_append, List.getLast?_singleton, Option.some_or]
    rw [if_neg]
    rcases h with h | h
    · omega
    · rw [Nat.add_sub_cancel] at h; exact h
theorem runsN_more {V : Nat → α} {l : List (Nat × Nat × α)} {f t : Nat} {v : α} (h : runsN V (t + 1) = l ++ [(f, t, v)]) (hv : v = V (t + 1)) : runsN V (t + 1 + 1) = l ++ [(f, t + 1, v)] := by
  rw [runsN]
  rw [h]
  simp only [List.getLast?_append, List.getLast?_singleton, Option.some_or]
  rw [if_pos hv]; simp
theorem runsN_len {V : Nat → α} : ∀ {n : Nat}, (runsN V n).length ≤ n
  | 0 => Nat.le_refl _
  | n + 1 => by
    have := runsN_len (V := V) (n := n)
    rw [runsN]
    split
    · split
      · simp; omega
      · simp; omega
    · simp
end
end Go.Sas
namespace Go.Sas
open Go.Proofs
set_option maxRecDepth 100000
theorem p38 (f t v : Int) (n : Nat) (cs : List AV) (hl : cs.length = n * 3) (hn : n ≤ 1000000) {Kk : AV → AHeap → Prop} (h : Kk (.tup []) (if v ≠ 0 then [.own 0 [.ms 3 1 (n + 1) 0 (n + 1)], .own (n + 1) (cs ++ [I f, I t, I v])] else [.own 0 [.ms 3 1 n 0 n], .own n cs])) : ACalls Try.prog 38 [I f, I t, I v, .mp 0 0 0] [.own 0 [.ms 3 1 n 0 n], .own n cs] Kk := by
  obtain ⟨A, hA⟩ : ∃ A, A = std := ⟨_, rfl⟩
  have hsg : ∀ g, A.sg g g := by subst hA; exact fun _ => rfl
  have hne : A.ne v 0 = decide (v ≠ 0) := by subst hA; simp only [std, iNe]; rw [Bool.eq_iff_iff]; simp
  obtain ⟨cs2, hcs2⟩ : ∃ x, x = cs ++ [I f, I t, I v] := ⟨_, rfl⟩
  rw [← hcs2] at h
  have happ : A.app 3 3 24 cs 0 n [.agg [I f, I t, I v]] cs2 (n + 1) := by subst hA; rw [hcs2]; exact app_one hl rfl (by omega)
  refine go38 rfl ?_
  refine AGo_opq fun RR hRR => ?_
  refine SGo_run hA ⟨[1], [], [], []⟩ .nil .nil 200 fun T TD hT hTD => ?_
  cbv
  split <;> cbv
  · rename_i hz
    have hz := of_decide_eq_true (hne.symm.trans hz)
    rw [if_pos hz] at h
    refine And.intro (hsg _) (Exists.intro cs2 (Exists.intro (n + 1) (And.intro happ (And.intro rfl ?_))))
    cbv
    exact hRR _ _ (RetP.same (vs := []) rfl rfl h)
  · rename_i hz
    have hz := of_decide_eq_false (hne.symm.trans hz)
    rw [if_neg hz] at h
    exact hRR _ _ (RetP.same (vs := []) rfl rfl h)
theorem iEq_dec (x y : Int) : iEq x y = decide (x = y) := by unfold iEq; rw [Bool.eq_iff_iff]; simp
def eClo : List AV → AHeap → Option PT
  | [.lit (.int .i64 f), .lit (.int .i64 t), .lit (.int .i64 v), .mp 0 0 0], [.own 0 [.ms 3 1 n 0 n'], .own n'' cs] => some fun K => ∃ k : Nat, n = k ∧ n' = k ∧ n'' = k ∧ cs.length = k * 3 ∧ k ≤ 1000000 ∧ (v ≠ 0 → ∀ cs2, cs2 = cs ++ [I f, I t, I v] → K (.tup []) [.own 0 [.ms 3 1 (k + 1) 0 (k + 1)], .own (k + 1) cs2]) ∧ (v = 0 → K (.tup []) [.own 0 [.ms 3 1 k 0 k], .own k cs])
  | _, _ => none
theorem eClo_ok : ∀ args H pt, eClo args H = some pt → ∀ (Kk : AV → AHeap → Prop), pt Kk → ACalls Try.prog 38 args H Kk := by
  intro args H pt h Kk hk
  unfold eClo at h
  split at h
  · cases h
    obtain ⟨k, rfl, rfl, rfl, h1, h2, h3, h4⟩ := hk
    refine p38 _ _ _ _ _ h1 h2 ?_
    split
    · rename_i h0; exact h3 h0 _ rfl
    · rename_i h0; exact h4 (by omega)
  · cases h
abbrev cloC (x : Nat × Nat × Int) : List AV := [I (iLen x.1), I (iLen x.2.1), I x.2.2]
def cloS (V : Nat → Int) (n : Nat) : List (Nat × Nat × Int) := (runsN V n).filter fun x => decide (x.2.2 ≠ 0)
theorem p36_73 (V : Nat → Int) (N : Nat) (hN : N ≤ 1000) {Kk : AV → AHeap → Prop} (h : Kk (.tup []) [.own 0 [.ms 3 1 (cloS V N).length 0 (cloS V N).length], .own (cloS V N).length ((cloS V N).flatMap cloC)]) :
    ACalls Try.prog 36 [.vs 1 (((List.range N).map V).map I), .fn 38 [.mp 0 0 0]] [.own 0 [.ms 3 1 0 0 0], .own 0 []] Kk := by
  obtain ⟨xs, hxs⟩ : ∃ xs, xs = ((List.range N).map V).map I := ⟨_, rfl⟩
  rw [← hxs]
  have hget : ∀ p, p < N → ((List.range N).map V)[p]? = some (V p) := fun p hp => by simp [hp]
  obtain ⟨A, hA⟩ : ∃ A, A = std := ⟨_, rfl⟩
  have hsg : ∀ g, A.sg g g := by subst hA; exact fun _ => rfl
  have hv : A.vlen xs = iLen N := by subst hA; simp [std, hxs]
  obtain ⟨G, hG⟩ : ∃ G : List (Nat × Nat × Int) → AHeap, G = fun l => [.own 0 [.ms 3 1 l.length 0 l.length], .own l.length (l.flatMap cloC)] := ⟨_, rfl⟩
  obtain ⟨sel, hsel⟩ : ∃ f : List (Nat × Nat × Int) → List (Nat × Nat × Int), f = fun l => l.filter fun x => decide (x.2.2 ≠ 0) := ⟨_, rfl⟩
  have hs0 : (sel []).length = 0 ∧ (sel []).flatMap cloC = [] := by rw [hsel]; exact ⟨rfl, rfl⟩
  have hs1 : ∀ l f t v, v ≠ 0 → sel (l ++ [(f, t, v)]) = sel l ++ [(f, t, v)] := by
    intro l f t v hv0
    rw [hsel]; dsimp only
    rw [List.filter_append]; congr 1
    simp only [List.filter_cons, List.filter_nil]; rw [if_pos (by simpa using hv0)]
  have hs2 : ∀ l f t v, ¬ v ≠ 0 → sel (l ++ [(f, t, v)]) = sel l := by
    intro l f t v hv0
    rw [hsel]; dsimp only
    rw [List.filter_append]
    simp only [List.filter_cons, List.filter_nil]; rw [if_neg (by simpa using hv0), List.append_nil]
  have hsl : ∀ l, (sel l).length ≤ l.length := fun l => by rw [hsel]; exact List.length_filter_le _ _
  have hss : ∀ n, sel (runsN V n) = cloS V n := fun n => by rw [hsel]; rfl
  clear hsel
  refine go36 rfl ?_
  refine AGo_opq fun RR hRR => ?_
  refine SGo_run hA ⟨[], [], [], []⟩ .nil .nil 200 fun T TD hT hTD => ?_
  cbv
  rw [hT]
  refine AGo_whileE (σ := Nat) [0, 1] (fun f => N - f) (fun f => f ≤ N ∧ (f = 0 ∨ f = N ∨ V (f - 1) ≠ V f)) (fun f => [(4, I (iLen f))]) (fun f => G (sel (runsN V f))) 0 ⟨Nat.zero_le _, .inl rfl⟩ ⟨rfl, trivial⟩ (.inl (by rw [hG]; dsimp only; rw [show runsN V 0 = [] from rfl, hs0.1, hs0.2])) fun f hP Bk hB => ?_
  obtain ⟨hf, hP⟩ := hP
  obtain ⟨iq, hiq⟩ : ∃ q, q = iLen f := ⟨_, rfl⟩
  rw [← hiq]
  obtain ⟨L, hL⟩ : ∃ L, L = sel (runsN V f) := ⟨_, rfl⟩
  rw [← hL]
  have hLl : L.length ≤ f := by rw [hL]; exact Nat.le_trans (hsl _) runsN_len
  obtain ⟨n, hn⟩ : ∃ n, n = L.length := ⟨_, rfl⟩
  obtain ⟨cs, hcs⟩ : ∃ x, x = L.flatMap cloC := ⟨_, rfl⟩
  have hcl : cs.length = n * 3 := by rw [hcs, hn, len_flat (k := 3) (fun _ => rfl)]
  have hGL : G L = [.own 0 [.ms 3 1 n 0 n], .own n cs] := by rw [hG, hn, hcs]
  rw [hGL]
  have hlt : A.lt iq (A.vlen xs) = decide (f < N) := by rw [hv]; subst hA; simp only [std, iLt]; rw [decide_eq_decide, hiq]; unfold iLen; omega
  refine SGo_run hA ⟨[], [], [], []⟩ .nil .nil 200 fun T TD hT hTD => ?_
  cbv
  split <;> cbv
  · rename_i hz
    have hf1 : f < N := by have hz := hlt.symm.trans hz; simpa using hz
    rw [hT]
    refine AGo_whileE (σ := Nat) [0, 1, 4] (fun t => N - t) (fun t => f ≤ t ∧ t < N ∧ runsN V (t + 1) = runsN V f ++ [(f, t, V f)]) (fun t => [(5, I (iLen t))]) (fun t => [.own 0 [.ms 3 1 n 0 n], .own n cs]) f ⟨Nat.le_refl _, hf1, runsN_new (by rcases hP with h | h | h <;> first | exact .inl h | omega | exact .inr h)⟩ ⟨congrArg I hiq, trivial⟩ (.inl rfl) fun t hP2 Bk2 hB2 => ?_
    obtain ⟨q1, q2, q3⟩ := hP2
    obtain ⟨it, hit⟩ : ∃ q, q = iLen t := ⟨_, rfl⟩
    have hVt : V t = V f := by
      obtain ⟨l2, f2, h5, _⟩ := runsN_last (V := V) (n := t)
      rw [q3] at h5
      have := congrArg List.getLast? h5
      simp only [List.getLast?_append, List.getLast?_singleton, Option.some_or, Option.some.injEq, Prod.mk.injEq] at this
      exact this.2.2.symm
    rw [← hit]
    have hadd : A.add .i64 it 1 = iLen (t + 1) := by subst hA; exact add_one (N := 1000) hit (by omega) (by omega)
    have hlt2 : A.lt (A.add .i64 it 1) (A.vlen xs) = decide (t + 1 < N) := by rw [hv, hadd]; subst hA; simp only [std, iLt]; rw [decide_eq_decide]; unfold iLen; omega
    refine SGo_run hA ⟨[], [], [], (38, eClo) :: []⟩ .nil (.cons eClo_ok .nil) 200 fun T TD hT hTD => ?_
    cbv
    split <;> cbv
    · rename_i hz
      have ht1 : t + 1 < N := by have hz := hlt2.symm.trans hz; simpa using hz
      have hix1 : A.ix 1 1 xs (A.add .i64 it 1) [I (V (t + 1))] := by rw [hadd]; subst hA; exact ix_map hxs rfl (hget _ ht1) rfl
      have hix2 : A.ix 1 1 xs iq [I (V f)] := by subst hA; exact ix_map hxs hiq (hget _ hf1) rfl
      have heq : A.eq (V (t + 1)) (V f) = decide (V (t + 1) = V f) := by subst hA; exact iEq_dec _ _
      obtain ⟨v1, hv1⟩ : ∃ v, v = V (t + 1) := ⟨_, rfl⟩
      obtain ⟨v2, hv2⟩ : ∃ v, v = V f := ⟨_, rfl⟩
      rw [← hv1] at hix1 heq
      rw [← hv2] at hix2 heq q3
      refine Exists.intro _ (And.intro hix1 ?_); cbv
      refine Exists.intro _ (And.intro hix2 ?_); cbv
      split <;> cbv
      · rename_i hz
        have hz := of_decide_eq_true (heq.symm.trans hz)
        exact hB2 (t + 1) _ _ (by omega) ⟨by omega, ht1, by rw [← hv2]; exact runsN_more q3 (hz.symm.trans hv1)⟩ ⟨congrArg I hadd, trivial⟩ ⟨rfl, rfl, rfl, trivial⟩ (.inl rfl)
      · rename_i hz
        have hz := of_decide_eq_false (heq.symm.trans hz)
        have hnx : t + 1 = 0 ∨ t + 1 = N ∨ V (t + 1 - 1) ≠ V (t + 1) := .inr (.inr (by rw [Nat.add_sub_cancel, hVt, ← hv1, ← hv2]; exact Ne.symm hz))
        refine Exists.intro _ (And.intro hix2 ?_); cbv
        refine Exists.intro n (And.intro rfl (And.intro rfl (And.intro rfl (And.intro hcl (And.intro (by omega) (And.intro ?_ ?_))))))
        · intro hv0 cs3 hcs3; cbv
          have hLn : sel (runsN V (t + 1)) = L ++ [(f, t, v2)] := by rw [q3, hL]; exact hs1 _ _ _ _ hv0
          refine hB (t + 1) _ _ (by omega) ⟨by omega, hnx⟩ ⟨congrArg I hadd, trivial⟩ ⟨rfl, rfl, trivial⟩ (.inl ?_)
          rw [hLn, hG]; dsimp only
          rw [List.length_append, List.flatMap_append, ← hn, ← hcs, hcs3, hiq, hit]; rfl
        · intro hv0; cbv
          have hLn : sel (runsN V (t + 1)) = L := by rw [q3, hL]; exact hs2 _ _ _ _ (fun h => h hv0)
          refine hB (t + 1) _ _ (by omega) ⟨by omega, hnx⟩ ⟨congrArg I hadd, trivial⟩ ⟨rfl, rfl, trivial⟩ (.inl ?_)
          rw [hLn, hG]; dsimp only
          rw [← hn, ← hcs]
    · rename_i hz
      have ht1 : ¬ t + 1 < N := by have hz := hlt2.symm.trans hz; simpa using hz
      have hnx : t + 1 = 0 ∨ t + 1 = N ∨ V (t + 1 - 1) ≠ V (t + 1) := .inr (.inl (by omega))
      have hix2 : A.ix 1 1 xs iq [I (V f)] := by subst hA; exact ix_map hxs hiq (hget _ hf1) rfl
      obtain ⟨v2, hv2⟩ : ∃ v, v = V f := ⟨_, rfl⟩
      rw [← hv2] at hix2 q3
      refine Exists.intro _ (And.intro hix2 ?_); cbv
      refine Exists.intro n (And.intro rfl (And.intro rfl (And.intro rfl (And.intro hcl (And.intro (by omega) (And.intro ?_ ?_))))))
      · intro hv0 cs3 hcs3; cbv
        have hLn : sel (runsN V (t + 1)) = L ++ [(f, t, v2)] := by rw [q3, hL]; exact hs1 _ _ _ _ hv0
        refine hB (t + 1) _ _ (by omega) ⟨by omega, hnx⟩ ⟨congrArg I hadd, trivial⟩ ⟨rfl, rfl, trivial⟩ (.inl ?_)
        rw [hLn, hG]; dsimp only
        rw [List.length_append, List.flatMap_append, ← hn, ← hcs, hcs3, hiq, hit]; rfl
      · intro hv0; cbv
        have hLn : sel (runsN V (t + 1)) = L := by rw [q3, hL]; exact hs2 _ _ _ _ (fun h => h hv0)
        refine hB (t + 1) _ _ (by omega) ⟨by omega, hnx⟩ ⟨congrArg I hadd, trivial⟩ ⟨rfl, rfl, trivial⟩ (.inl ?_)
        rw [hLn, hG]; dsimp only
        rw [← hn, ← hcs]
  · rename_i hz
    have hf1 : ¬ f < N := by have hz := hlt.symm.trans hz; simpa using hz
    refine hRR _ _ (RetP.same (vs := []) rfl rfl ?_)
    rw [hn, hcs, hL, hss, show f = N by omega]
    exact h
def eJoinC : List AV → AHeap → Option PT
  | [.vs 1 xs, .fn 38 [.mp i 0 0]], H => match H[i]? with
    | some (.own 0 [.ms 3 j 0 0 0]) => match H[j]? with
      | some (.own 0 []) => some fun K => ∃ (V : Nat → Int) (N : Nat), xs = ((List.range N).map V).map I ∧ N ≤ 1000 ∧ i ≠ j ∧ ∀ n cs, n = (cloS V N).length → cs = (cloS V N).flatMap cloC → K (.tup []) ((H.set i (.own 0 [.ms 3 j n 0 n])).set j (.own n cs))
      | _ => none
    | _ => none
  | _, _ => none
theorem eJoinC_ok : ∀ args H pt, eJoinC args H = some pt → ∀ (Kk : AV → AHeap → Prop), pt Kk → ACalls Try.prog 36 args H Kk := by
  intro args H pt h Kk hk
  unfold eJoinC at h
  split at h
  · rename_i xs i
    split at h
    · rename_i j hX
      split at h
      · rename_i hY
        cases h
        obtain ⟨V, N, rfl, hN, hij, hk⟩ := hk
        have hnl : AV.nidL (((List.range N).map V).map I) = true := nidL_map (g := I) (fun _ => rfl) _
        obtain ⟨n, hn⟩ : ∃ n, n = (cloS V N).length := ⟨_, rfl⟩
        obtain ⟨cs, hcs⟩ : ∃ cs, cs = (cloS V N).flatMap cloC := ⟨_, rfl⟩
        have hcn : AV.nidL cs = true := by rw [hcs]; exact nidL_flat (fun _ => rfl) _
        have hk := hk n cs hn hcs
        have h1 := p36_73 V N hN (Kk := fun r H' => r = .tup [] ∧ H' = [.own 0 [.ms 3 1 n 0 n], .own n cs]) (by rw [hn, hcs]; exact ⟨rfl, rfl⟩)
        have h2 := ACalls.frame (H := H) [i, j] h1 (by simp [hij]) rfl (by simp [AV.ltL, AV.lt, AV.ltL_nid hnl]) (by simp [ltH, AObj.lt, AV.ltL, AV.lt]) (fun k X hX2 => by
          match k with
          | 0 => simp at hX2; subst hX2; simpa [at_, AObj.ren, AV.renL, AV.ren] using hX
          | 1 => simp at hX2; subst hX2; simpa [at_, AObj.ren, AV.renL, AV.ren] using hY
          | k + 2 => simp at hX2)
        rw [show AV.renL [i, j] [.vs 1 (((List.range N).map V).map I), .fn 38 [.mp 0 0 0]] = [.vs 1 (((List.range N).map V).map I), .fn 38 [.mp i 0 0]] by simp [AV.renL, AV.ren, at_, AV.renL_nid hnl]] at h2
        refine h2.mono fun r H' hx => ?_
        obtain ⟨r0, H1, ⟨rfl, rfl⟩, _, rfl, rfl⟩ := hx
        have hre : ∀ m0, AV.renL m0 cs = cs := fun m0 => AV.renL_nid hcn
        simpa [merge, updL, AObj.ren, AV.renL, AV.ren, more, at_, hre] using hk
      · cases h
    · cases h
  · cases h
end Go.Sas

namespace Go.Sas
open Go.Proofs
set_option maxRecDepth 100000
theorem wrapU_id {n : Int} (h0 : 0 ≤ n) (h1 : n < 18446744073709551616) : IntKind.u64.wrap n = n := by
  simp [IntKind.wrap, IntKind.signed, IntKind.bits]; omega
theorem andLow {n : Int} (h0 : 0 ≤ n) (h1 : n ≤ 1000000) : iAnd .u64 n 4294967295 = n := by
  obtain ⟨k, rfl⟩ : ∃ k : Nat, n = k := ⟨n.toNat, by omega⟩
  unfold iAnd
  have h2 : (BitVec.ofInt 64 (k : Int) &&& BitVec.ofInt 64 4294967295).toNat = k := by
    rw [BitVec.toNat_and]
    have e1 : (BitVec.ofInt 64 (k : Int)).toNat = k := by simp; omega
    have e2 : (BitVec.ofInt 64 4294967295).toNat = 2 ^ 32 - 1 := by decide
    rw [e1, e2, Nat.and_two_pow_sub_one_eq_mod]; omega
  show IntKind.u64.wrap ((BitVec.ofInt 64 (k : Int) &&& BitVec.ofInt 64 4294967295).toNat : Int) = k
  rw [h2]; exact wrapU_id (by omega) (by omega)
theorem shr32 {n : Int} (h0 : 0 ≤ n) (h1 : n ≤ 1000000) : iShr .u64 n 32 = 0 := by
  simp only [iShr]
  rw [show (min (32 : Int).toNat IntKind.u64.bits) = 32 from rfl, Int.fdiv_eq_ediv_of_nonneg _ (by decide)]
  omega
theorem mulU1 {n : Int} (h0 : 0 ≤ n) (h1 : n ≤ 1000000) : iMul .u64 1 n = n := by unfold iMul; rw [Int.one_mul]; exact wrapU_id h0 (by omega)
theorem mulU0 {n : Int} : iMul .u64 0 n = 0 := by unfold iMul; rw [Int.zero_mul]; rfl
theorem p85 (n : Int) (h0 : 0 ≤ n) (h1 : n ≤ 1000000) (H : AHeap) {Kk : AV → AHeap → Prop} (h : Kk (.tup [U 0, U n]) H) : ACalls Try.prog 85 [U 1, U n] H Kk := by
  refine (fun q => pureC (by rfl) (by rfl) q H h) ?_
  clear h
  intro Kk h
  obtain ⟨A, hA⟩ : ∃ A, A = std := ⟨_, rfl⟩
  refine go85 rfl (SGo_run hA ⟨[], [], [], []⟩ .nil .nil 200 fun T TD hT hTD => ?_)
  cbv
  refine leaf h ?_ rfl
  subst hA
  have a1 : iAnd .u64 1 4294967295 = 1 := andLow (by omega) (by omega)
  have a2 : iAnd .u64 n 4294967295 = n := andLow h0 h1
  have a3 : iShr .u64 1 32 = 0 := shr32 (n := 1) (by omega) (by omega)
  have a4 : iShr .u64 n 32 = 0 := shr32 h0 h1
  have a7 : iAdd .u64 0 0 = 0 := by rfl
  have a8 : iAnd .u64 0 4294967295 = 0 := andLow (n := 0) (by omega) (by omega)
  have a9 : iShr .u64 0 32 = 0 := shr32 (n := 0) (by omega) (by omega)
  obtain ⟨g11, hg⟩ : ∃ g, g = iAdd .u64 (iMul .u64 (iShr .u64 1 32) (iAnd .u64 n 4294967295)) (iShr .u64 (iMul .u64 (iAnd .u64 1 4294967295) (iAnd .u64 n 4294967295)) 32) := ⟨_, rfl⟩
  have hg2 := hg
  rw [a3, a1, a2, mulU0, mulU1 h0 h1, a4, a7] at hg2
  have : AV.tup [U 0, U n] = AV.tup [U (iAdd .u64 (iAdd .u64 (iMul .u64 (iShr .u64 1 32) (iShr .u64 n 32)) (iShr .u64 g11 32)) (iShr .u64 (iAdd .u64 (iAnd .u64 g11 4294967295) (iMul .u64 (iAnd .u64 1 4294967295) (iShr .u64 n 32))) 32)), U (iMul .u64 1 n)] := by
    rw [hg2, a1, a3, a4, a8, a9, mulU0, mulU1 (by omega) (by omega), mulU1 h0 h1, a7, a9, a7]
  rw [hg] at this
  exact this
def eMul64 : List AV → Option ((AV → Prop) → Prop)
  | [.lit (.int .u64 a), .lit (.int .u64 n)] => some fun K => ∃ _u : Unit, (a = 1 ∧ 0 ≤ n ∧ n ≤ 1000000) ∧ K (.tup [U 0, U n])
  | _ => none
theorem eMul64_ok {f : Nat} (hf : ∀ (n : Int), 0 ≤ n → n ≤ 1000000 → ∀ (H : AHeap) {Kk : AV → AHeap → Prop}, Kk (.tup [U 0, U n]) H → ACalls Try.prog f [U 1, U n] H Kk) : ∀ args pt, eMul64 args = some pt → ∀ (H : AHeap) (Kk : AV → AHeap → Prop), pt (fun r => Kk r H) → ACalls Try.prog f args H Kk := by
  intro args pt h H Kk hk
  unfold eMul64 at h
  split at h
  · cases h
    obtain ⟨_, ⟨rfl, h1, h2⟩, h3⟩ := hk
    exact hf _ h1 h2 H h3
  · cases h
theorem p75 (n : Int) (h0 : 0 ≤ n) (h1 : n ≤ 1000000) (H : AHeap) {Kk : AV → AHeap → Prop} (h : Kk (.tup [U 0, U n]) H) : ACalls Try.prog 75 [U 1, U n] H Kk := by
  refine (fun q => pureC (by rfl) (by rfl) q H h) ?_
  clear h
  intro Kk h
  obtain ⟨A, hA⟩ : ∃ A, A = std := ⟨_, rfl⟩
  refine go75 rfl (SGo_run hA ⟨[], [], (85, eMul64) :: [], []⟩ (.cons (eMul64_ok p85) .nil) .nil 200 fun T TD hT hTD => ?_)
  cbv
  refine Exists.intro () (And.intro ⟨rfl, h0, h1⟩ ?_); cbv
  exact h
end Go.Sas
namespace Go.Sas
open Go.Proofs
set_option maxRecDepth 100000
def repC (N k : Nat) (x : Int) : List AV := rowA N fun q => I (if q < k then x else 0)
theorem repC_eq {N k : Nat} {x : Int} (h : k ≤ N) : repC N k x = List.replicate k (I x) ++ List.replicate (N - k) (I 0) := by
  apply List.ext_getElem?
  intro i
  unfold repC rowA
  rw [List.getElem?_map]
  by_cases h1 : i < N
  · rw [List.getElem?_range h1]
    by_cases h2 : i < k
    · rw [List.getElem?_append_left (by simpa using h2), List.getElem?_replicate, if_pos h2]; simp [h2]
    · rw [List.getElem?_append_right (by simpa using h2), List.getElem?_replicate, if_pos (by simp; omega)]; simp [h2]
  · rw [List.getElem?_eq_none (by simpa using h1), List.getElem?_eq_none (by simp; omega)]; rfl
theorem repC_len {N k : Nat} {x : Int} : (repC N k x).length = N := rowA_len
theorem repC_cpy {N k r : Nat} {x : Int} (hk : k ≤ N) (hr : r = N - k) : repC N (k + min k r) x = (repC N k x).take k ++ ((repC N k x).take k).take (min k r * 1) ++ (repC N k x).drop (k + min k r * 1) := by
  rw [repC_eq hk, repC_eq (by omega), Nat.mul_one]
  have e1 : (List.replicate k (I x) ++ List.replicate (N - k) (I 0)).take k = List.replicate k (I x) := by rw [List.take_left' (by simp)]
  have e2 : (List.replicate k (I x) ++ List.replicate (N - k) (I 0)).drop (k + min k r) = List.replicate (N - (k + min k r)) (I 0) := by
    rw [List.drop_append, List.drop_eq_nil_of_le (by simp), List.nil_append, List.length_replicate, List.drop_replicate]; congr 1; omega
  rw [e1, e2, List.take_replicate, show min (min k r) k = min k r by omega, ← List.replicate_append_replicate]
theorem cpy_act {e : Env} {H : AHeap} {sz id g off len n : Nat} {d s : Od} {cs xs cs2 : List AV} (hd : ev e d = .ms sz id g off len) (hs : cellsOfSl H sz (ev e s) = some xs) (hn : lenOfSl (ev e s) = some n) (hX : H[id]? = some (.own g cs)) (hb : off + len * sz ≤ cs.length) {H2 : AHeap}
    (hc : cs2 = cs.take off ++ xs.take (min n len * sz) ++ cs.drop (off + min n len * sz)) (h2 : H.set id (.own g cs2) = H2) : opAct (ev e) H (.cpy sz d s) = some (I (iLen (min n len)), H2) := by
  subst h2 hc
  simp only [opAct, hs, hn, hd, hX]
  rw [if_pos ⟨trivial, trivial, hb⟩]; rfl
theorem p64 (N : Nat) (x : Int) (hN : N ≤ 1000) (h1 : 1 ≤ N) {Kk : AV → AHeap → Prop} (h : Kk (.ms 1 0 0 0 N) [.own 0 (repC N N x)]) : ACalls Try.prog 64 [.vs 1 [I x], I (iLen N)] [] Kk := by
  obtain ⟨n, hn⟩ : ∃ n, n = iLen N := ⟨_, rfl⟩
  rw [← hn]
  obtain ⟨A, hA⟩ : ∃ A, A = std := ⟨_, rfl⟩
  have hsg : ∀ g, A.sg g g := by subst hA; exact fun _ => rfl
  have hlt : A.lt n 0 = false := by subst hA; rw [hn]; simp only [std, iLt, decide_eq_false_iff_not]; unfold iLen; omega
  refine go64 rfl ?_
  refine AGo_opq fun RR hRR => ?_
  refine SGo_run hA ⟨[0], [], (75, eMul64) :: [], []⟩ (.cons (eMul64_ok p75) .nil) .nil 200 fun T TD hT hTD => ?_
  cbv
  split <;> cbv
  · rename_i hz; exact Bool.noConfusion (hz.symm.trans hlt)
  have hc1 : A.cv .u64 (A.vlen [I x]) = 1 := by subst hA; rfl
  have hc2 : A.cv .u64 n = n := by subst hA; rw [hn]; exact wrapU_id (by unfold iLen; omega) (by unfold iLen; omega)
  have hnb : 0 ≤ n ∧ n ≤ 1000 := by rw [hn]; unfold iLen; omega
  refine Exists.intro () (And.intro ⟨hc1, by show 0 ≤ A.cv .u64 n; rw [hc2]; omega, by show A.cv .u64 n ≤ _; rw [hc2]; omega⟩ ?_); cbv
  have hl0 : A.lt 0 0 = false := by subst hA; rfl
  have hl1 : A.lt 9223372036854775807 (A.cv .u64 n) = false := by rw [hc2]; subst hA; simp only [std, iLt, decide_eq_false_iff_not]; omega
  split <;> cbv
  · rename_i hz; exact Bool.noConfusion (hz.symm.trans hl0)
  split <;> cbv
  · rename_i hz; exact Bool.noConfusion (hz.symm.trans hl1)
  have hc3 : A.cv .i64 (A.cv .u64 n) = n := by rw [hc2]; subst hA; exact wrap_id (by omega) (by omega)
  have hmk : A.mkz 1 8 [.int .i64 0] (A.cv .i64 (A.cv .u64 n)) (A.cv .i64 (A.cv .u64 n)) (rowA N fun _ => I 0) N := by rw [hc3]; subst hA; exact mkS_rowA hn (by omega) (by omega)
  obtain ⟨z, hz⟩ : ∃ z, z = rowA N fun _ => I 0 := ⟨_, rfl⟩
  rw [← hz] at hmk
  have hzl : z.length = N := by rw [hz, rowA_len]
  refine Exists.intro z (Exists.intro N (And.intro hmk ?_)); cbv
  rw [hT]
  obtain ⟨RC, hRC⟩ : ∃ f : Nat → List AV, f = fun k => repC N k x := ⟨_, rfl⟩
  refine AGo_act (r := I 1) (H' := [.own 0 (RC 1)]) rfl ?_ ?_
  · have := cpy_act (e := ⟨[(32, .vs 1 [I x]), (31, .ms 1 0 0 0 N)], []⟩) (H := [.own 0 z]) (sz := 1) (d := .l 31) (s := .l 32) (xs := [I x]) (n := 1) (cs2 := RC 1) (H2 := [.own 0 (RC 1)]) rfl rfl rfl rfl (by omega) (by
      rw [hRC, hz]; dsimp only
      rw [repC_eq h1, show min 1 N * 1 = 1 by omega]
      have : (rowA N fun _ => I 0) = List.replicate N (I 0) := by
        have := repC_eq (N := N) (k := 0) (x := x) (Nat.zero_le _)
        simpa [repC] using this
      rw [this]; simp) rfl
    rw [show min 1 N = 1 by omega] at this
    exact this
  refine SGo_run hA ⟨[0], [], [], []⟩ .nil .nil 200 fun T TD hT hTD => ?_
  cbv
  rw [hT]
  refine AGo_whileE (σ := Nat) [7] (fun k => N - k) (fun k => 1 ≤ k ∧ k ≤ N) (fun k => [(8, I (iLen k))]) (fun k => [.own 0 (RC k)]) 1 ⟨Nat.le_refl _, h1⟩ ⟨rfl, trivial⟩ (.inl rfl) fun k hP Bk hB => ?_
  obtain ⟨hk1, hk2⟩ := hP
  obtain ⟨ik, hik⟩ : ∃ q, q = iLen k := ⟨_, rfl⟩
  rw [← hik]
  obtain ⟨cs, hcs⟩ : ∃ q, q = RC k := ⟨_, rfl⟩
  rw [← hcs]
  have hlt2 : A.lt ik (A.len N) = decide (k < N) := by subst hA; simp only [std, iLt]; rw [decide_eq_decide, hik]; unfold iLen; omega
  refine SGo_run hA ⟨[0], [0], [], []⟩ .nil .nil 200 fun T TD hT hTD => ?_
  cbv
  split <;> cbv
  · rename_i hz2
    have hkN : k < N := by have hz := hlt2.symm.trans hz2; simpa using hz
    obtain ⟨r, hr⟩ : ∃ r, r = N - k := ⟨_, rfl⟩
    have hs1 : A.slm 1 1 0 N (some ik) none k r := by
      rw [hr]
      subst hA; refine ⟨rfl, k, N, ?_, rfl, by omega, Nat.le_refl _, by omega, rfl⟩
      rw [hik]; simp only [bdI]; rw [if_pos (by unfold iLen; omega)]; rfl
    have hs2 : A.slm 1 1 0 N none (some ik) 0 k := by
      subst hA; refine ⟨rfl, 0, k, rfl, ?_, by omega, by omega, by omega, rfl⟩
      rw [hik]; simp only [bdI]; rw [if_pos (by unfold iLen; omega)]; rfl
    repeat refine And.intro (hsg _) ?_
    refine Exists.intro k (Exists.intro r (And.intro hs1 ?_)); cbv
    repeat refine And.intro (hsg _) ?_
    refine Exists.intro 0 (Exists.intro k (And.intro hs2 ?_)); cbv
    rw [hTD]
    obtain ⟨k2, hk3⟩ : ∃ k2, k2 = k + min k r := ⟨_, rfl⟩
    have hcl : cs.length = N := by rw [hcs, hRC]; exact repC_len
    refine DGo_act (r := I (iLen (min k r))) (H' := [.own 0 (RC k2)]) rfl rfl ?_ (by subst hA; simp [std, Keep, SubH, ResK]) ?_
    · refine cpy_act (sz := 1) (id := 0) (g := 0) (off := k) (len := r) (n := k) (cs := cs) (xs := cs.take k) rfl ?_ rfl rfl (by omega) ?_ rfl
      · show cellsOfSl [.own 0 cs] 1 (.ms 1 0 0 0 k) = _
        simp only [cellsOfSl, List.getElem?_cons_zero]
        rw [if_pos (by simp; omega)]; simp
      · rw [hcs, hRC]; dsimp only
        rw [hk3]; exact repC_cpy (by omega) hr
    have hn2 : A.add .i64 ik (iLen (min k r)) = iLen k2 := by
      subst hA; rw [hik, hk3]; show iAdd .i64 _ _ = _
      rw [iAdd_id (by unfold iLen; omega) (by unfold iLen; omega)]; unfold iLen; omega
    obtain ⟨ic, hic⟩ : ∃ q, q = iLen (min k r) := ⟨_, rfl⟩
    rw [← hic] at hn2 ⊢
    obtain ⟨cs2, hcs2⟩ : ∃ q, q = RC k2 := ⟨_, rfl⟩
    rw [← hcs2]
    refine SD_run hA ⟨[], [], [], []⟩ .nil .nil 200 200 ?_ fun T TD hT hTD => ?_
    · intro D' hD'; cases hD'; simp [SubH, KcOk]
    cbv
    refine hB k2 _ _ (by omega) ⟨by omega, by omega⟩ ⟨congrArg I hn2, trivial⟩ ⟨rfl, trivial⟩ (.inl (by rw [hcs2]))
  · rename_i hz2
    have hkN : ¬ k < N := by have hz := hlt2.symm.trans hz2; simpa using hz
    refine And.intro (hsg _) (hRR _ _ ?_)
    cbv
    have hcs : cs = repC N N x := by rw [hcs, hRC, show k = N by omega]
    rw [hcs]
    exact h
def eRepeat : List AV → AHeap → Option PT
  | [.vs 1 [.lit (.int .i64 x)], .lit (.int .i64 n)], H => some fun K => ∃ N : Nat, n = iLen N ∧ 1 ≤ N ∧ N ≤ 1000 ∧ ∀ cs, cs = repC N N x → K (.ms 1 H.length 0 0 N) (H ++ [.own 0 cs])
  | _, _ => none
theorem eRepeat_ok : ∀ args H pt, eRepeat args H = some pt → ∀ (Kk : AV → AHeap → Prop), pt Kk → ACalls Try.prog 64 args H Kk := by
  intro args H pt h Kk hk
  unfold eRepeat at h
  split at h
  · rename_i x n
    cases h
    obtain ⟨N, rfl, h1, h2, hk⟩ := hk
    have hk := hk _ rfl
    have hcn : AV.nidL (repC N N x) = true := nidL_rowA (fun _ => rfl)
    have h3 := p64 N x h2 h1 (Kk := fun r H' => r = .ms 1 0 0 0 N ∧ H' = [.own 0 (repC N N x)]) ⟨rfl, rfl⟩
    have h4 := ACalls.frame (H := H) [] h3 List.nodup_nil rfl (AV.ltL_nid (by rfl)) (by simp [ltH]) (fun k X hk => by simp at hk)
    rw [AV.renL_nid (by rfl)] at h4
    refine h4.mono fun r H' hx => ?_
    obtain ⟨r0, H1, ⟨rfl, rfl⟩, _, rfl, rfl⟩ := hx
    have hre : ∀ m0, AV.renL m0 (repC N N x) = repC N N x := fun m0 => AV.renL_nid hcn
    simpa [merge, updL, more, AV.ren, AV.renL, at_, AObj.ren, List.range', hre] using hk
  · cases h
end Go.Sas
namespace Go.Sas
abbrev Sps := List (Int × Int)
def inL (l : Sps) (p : Int) : Bool := l.any fun s => decide (s.1 ≤ p ∧ p ≤ s.2)
def SpOk (N : Int) (l : Sps) : Prop := l.length ≤ 1000000 ∧ ∀ s ∈ l, 0 ≤ s.1 ∧ s.2 ≤ N - 1
/-- x is put behind those that are not less; the last one stands first -/
def insV {α : Type} (lt : α → Bool) (x : α) : List α → List α
  | [] => [x]
  | y :: r => if lt y then y :: insV lt x r else x :: y :: r
/-- what has the greatest keys first -/
def sortV {α : Type} (key : α → Int) (l : List α) : List α := (l.foldl (fun s x => insV (fun y => decide (key y < key x)) x s) []).reverse
abbrev keyM (x : Mrk) : Int := -x.h
/-- the least hours first -/
def sortM (l : List Mrk) : List Mrk := sortV keyM l
def mk0 : Mrk := ⟨0, 0, 0, 0, 0⟩
def isMend (m : List Mrk) (k : Nat) (h : Int) (i : Nat) (x : Mrk) : Bool := decide (x.k = 4 ∧ x.h ≤ h ∧ ((m.getD k mk0).h < x.h ∨ x.h = (m.getD k mk0).h ∧ k < i))
/-- the mends that take out of a mark, as listed -/
def mendL (m : List Mrk) (k : Nat) (h : Int) : List Mrk := (m.zipIdx.filter fun p => isMend m k h p.2 p.1).map (·.1)
def mendS (m : List Mrk) (k : Nat) (h : Int) : List Mrk := sortM (mendL m k h)
def withoutS (l : Sps) (f t : Int) : Sps := l.flatMap fun x => (if x.1 ≤ min x.2 (f - 1) then [(x.1, min x.2 (f - 1))] else []) ++ (if max x.1 (t + 1) ≤ x.2 then [(max x.1 (t + 1), x.2)] else [])
def spreadS (N b : Int) (l : Sps) : Sps := l.map fun s => (max 0 (s.1 - b), min (N - 1) (s.2 + b))
/-- one mend more: may, sure, at -/
def covStep (N sp : Int) (s : Sps × Sps × Int) (y : Mrk) : Sps × Sps × Int := (withoutS (spreadS N ((y.h - s.2.2) * sp) s.1) y.f y.t, withoutS s.2.1 y.f y.t, y.h)
def covS (m : List Mrk) (k : Nat) (h N : Int) : Sps × Sps :=
  if (m.getD k mk0).k = 4 ∨ h < (m.getD k mk0).h then ([], []) else
    let x := m.getD k mk0
    let s := (mendS m k h).foldl (covStep N x.s) ([(x.f, x.t)], [(x.f, x.t)], x.h)
    (spreadS N ((h - s.2.2) * x.s) s.1, s.2.1)
def putF (f : Nat → Int) (l : Sps) (v : Int) (p : Nat) : Int := if f p ≠ 1 ∧ inL l p = true then v else f p
def verdF (m : List Mrk) (h N : Int) : Nat → Nat → Int
  | 0 => fun _ => 2
  | k + 1 => putF (putF (verdF m h N k) (covS m k h N).1 3) (covS m k h N).2 1
/-- the verdicts of the marks on all places -/
def verdS (m : List Mrk) (h N : Int) : Nat → Int := verdF m h N m.length
/-! Marks that may be -/
def markE (n : Int) (x : Mrk) : Int :=
  if ¬(1 ≤ x.k ∧ x.k ≤ 4) then 4 else if ¬(0 ≤ x.f ∧ x.f ≤ n - 1) ∨ ¬(0 ≤ x.t ∧ x.t ≤ n - 1) then 7 else if x.t < x.f then 11 else if ¬(0 ≤ x.h ∧ x.h ≤ 10000) ∨ ¬(0 ≤ x.s ∧ x.s ≤ 100) then 2 else 0
def marksE (n : Int) (m : List Mrk) : Int := if 100 < m.length then 8 else firstE (markE n) m
def MkOk (n : Int) (x : Mrk) : Prop := (1 ≤ x.k ∧ x.k ≤ 4) ∧ 0 ≤ x.f ∧ x.f ≤ x.t ∧ x.t ≤ n - 1 ∧ (0 ≤ x.h ∧ x.h ≤ 10000) ∧ 0 ≤ x.s ∧ x.s ≤ 100
theorem markE_ok {n : Int} {x : Mrk} : markE n x = 0 ↔ MkOk n x := by
  unfold markE MkOk
  constructor
  · intro h
    by_cases h1 : 1 ≤ x.k ∧ x.k ≤ 4
    · rw [if_neg (fun h => h h1)] at h
      by_cases h2 : ¬(0 ≤ x.f ∧ x.f ≤ n - 1) ∨ ¬(0 ≤ x.t ∧ x.t ≤ n - 1)
      · rw [if_pos h2] at h; omega
      · rw [if_neg h2] at h
        by_cases h3 : x.t < x.f
        · rw [if_pos h3] at h; omega
        · rw [if_neg h3] at h
          by_cases h4 : ¬(0 ≤ x.h ∧ x.h ≤ 10000) ∨ ¬(0 ≤ x.s ∧ x.s ≤ 100)
          · rw [if_pos h4] at h; omega
          · omega
    · rw [if_pos h1] at h; omega
  · rintro ⟨h1, h2, h3, h4, h5, h6, h7⟩
    rw [if_neg (by omega), if_neg (by omega), if_neg (by omega), if_neg (by omega)]
theorem marksE_ok {n : Int} {m : List Mrk} : marksE n m = 0 ↔ m.length ≤ 100 ∧ ∀ x ∈ m, MkOk n x := by
  unfold marksE
  constructor
  · intro h
    by_cases h1 : 100 < m.length
    · rw [if_pos h1] at h; omega
    · rw [if_neg h1] at h
      exact ⟨by omega, fun x hx => markE_ok.1 (firstE_zero h x hx)⟩
  · rintro ⟨h1, h2⟩
    rw [if_neg (by omega)]
    exact firstE_all fun x hx => markE_ok.2 (h2 x hx)
/-- why places are shut -/
def whyS (R : List Rch) (a b c : Int) (l : List Lk) (m : List Mrk) (need h : Int) (p : Nat) : Int :=
  if (knowS R l p h).1 < need then 1 else if verdS m h (iLen R.length) p ≠ 2 then 2 else if staleS R a b c l h p then 3 else 0
def pastL (l : List Lk) (h : Int) : List Lk := l.filter fun x => decide (x.h ≤ h)
def pastM (m : List Mrk) (h : Int) : List Mrk := m.filter fun x => decide (x.h ≤ h)
/-- the error of what Close and Lasts are asked -/
def askE (rs : List Rch) (a b c : Int) (l : List Lk) (m : List Mrk) (need h : Int) : Int :=
  orElse (surE rs a b c l) (orElse (marksE (sumLg rs) m) (if ¬(0 ≤ need ∧ need ≤ 3000) ∨ ¬(0 ≤ h ∧ h ≤ 10000) then 2 else 0))
end Go.Sas
namespace Go.Sas
open Go.Proofs
set_option maxRecDepth 100000
theorem putF_putF {f : Nat → Int} {l : Sps} {s : Int × Int} {v : Int} : putF (putF f l v) [s] v = putF f (l ++ [s]) v := by
  funext p
  unfold putF
  have e : inL (l ++ [s]) p = (inL l p || inL [s] p) := by simp [inL]
  rw [e]
  cases h1 : inL l p <;> cases h2 : inL [s] p <;> by_cases h3 : f p = 1 <;> by_cases h4 : v = 1 <;> simp [h3, h4]
def rowI (N : Nat) (f : Nat → Int) : List AV := rowA N fun q => I (f q)
theorem p69 (l : Sps) (v : Int) (N : Nat) (f : Nat → Int) (hN : N ≤ 1000) (hl : SpOk N l) {Kk : AV → AHeap → Prop} (h : Kk (.tup []) [.own 0 (rowI N (putF f l v)), .own 0 [.ms 1 0 0 0 N]]) : ACalls Try.prog 69 [.vs 2 (l.map sp), I v, .mp 1 0 0] [.own 0 (rowI N f), .own 0 [.ms 1 0 0 0 N]] Kk := by
  obtain ⟨xs, hxs⟩ : ∃ xs, xs = l.map sp := ⟨_, rfl⟩
  rw [← hxs]
  obtain ⟨hl1, hl2⟩ := hl
  have hl2 : ∀ s ∈ l, 0 ≤ s.1 ∧ s.2 ≤ iLen N - 1 := hl2
  obtain ⟨A, hA⟩ : ∃ A, A = std := ⟨_, rfl⟩
  have hsg : ∀ g, A.sg g g := by subst hA; exact fun _ => rfl
  obtain ⟨RW, hRW⟩ : ∃ F : (Nat → Int) → List AV, F = fun f => rowI N f := ⟨_, rfl⟩
  have e1 : rowI N f = RW f := by rw [hRW]
  have e2 : rowI N (putF f l v) = RW (putF f l v) := by rw [hRW]
  rw [e1]
  rw [e2] at h
  refine go69 rfl ?_
  refine AGo_opq fun RR hRR => ?_
  refine SGo_run hA ⟨[0], [], [], []⟩ .nil .nil 200 fun T TD hT hTD => ?_
  cbv
  rw [hT]
  have h0 : RW f = RW (putF f (l.take 0) v) := by congr 1; funext p; simp [putF, inL]
  refine AGo_upE [1, 2, 8, 9] l.length (fun j (_ : Unit) => True) (fun j _ i => [(10, I i)]) (fun j _ => [.own 0 (RW (putF f (l.take j) v)), .own 0 [.ms 1 0 0 0 N]]) () trivial ⟨rfl, trivial⟩ (.inl (by rw [← h0])) fun j _ i hi hj hP Bk hB => ?_
  have hlt : A.lt i (A.vlen xs) = decide (j < l.length) := by subst hA; exact lt_len (by simp [hxs]) hi
  have hadd : ∀ N, j < N → N ≤ 9223372036854775807 → A.add .i64 i 1 = iLen (j + 1) := fun N hj hN => by subst hA; exact add_one hi hj hN
  obtain ⟨c1, hc1⟩ : ∃ r, r = RW (putF f (l.take j) v) := ⟨_, rfl⟩
  rw [← hc1]
  refine SGo_run hA ⟨[0], [], [], []⟩ .nil .nil 200 fun T TD hT hTD => ?_
  cbv
  split <;> cbv
  · rename_i hk0
    have hk1 : j < l.length := by have hz := hlt.symm.trans hk0; simpa using hz
    clear hk0
    obtain ⟨⟨lo, hi2⟩, hx⟩ : ∃ x, l[j]? = some x := ⟨_, List.getElem?_eq_getElem hk1⟩
    have hix : A.ix 2 2 xs i [I lo, I hi2] := by subst hA; exact ix_map hxs hi hx rfl
    have hb := hl2 _ (List.mem_of_getElem? hx)
    dsimp only at hb
    refine Exists.intro _ (And.intro hix ?_); cbv
    rw [hT]
    obtain ⟨base, hbase⟩ : ∃ g, g = putF f (l.take j) v := ⟨_, rfl⟩
    rw [← hbase] at hc1
    obtain ⟨G, hG⟩ : ∃ G : Nat → Nat → Int, G = fun k => putF base [(lo, lo + iLen k - 1)] v := ⟨_, rfl⟩
    have hin : ∀ a b (p : Nat), inL [(a, b)] p = decide (a ≤ p ∧ (p : Int) ≤ b) := fun a b p => by simp [inL]
    have hG0 : RW base = RW (G 0) := by
      congr 1; funext p; rw [hG]; unfold putF; dsimp only; rw [hin, if_neg]
      rintro ⟨_, h2⟩; have := of_decide_eq_true h2; unfold iLen at this; omega
    have hGn : ∀ k, (lo + iLen k ≤ hi2 + 1 ∨ k = 0) → ¬ lo + iLen k ≤ hi2 → G k = putF f (l.take (j + 1)) v := by
      intro k h1 h2
      rw [hG, List.take_add_one, hx, Option.toList_some, ← putF_putF, ← hbase]
      funext p; unfold putF; dsimp only; rw [hin, hin]
      have : (lo ≤ (p : Int) ∧ (p : Int) ≤ lo + iLen k - 1) ↔ (lo ≤ (p : Int) ∧ (p : Int) ≤ hi2) := by
        unfold iLen at *; omega
      simp only [this]
    refine AGo_whileE (σ := Nat) [1, 2, 6, 8, 9, 10] (fun k => (hi2 + 1 - lo).toNat - k) (fun k => lo + iLen k ≤ hi2 + 1 ∨ k = 0) (fun k => [(7, I (lo + iLen k))]) (fun k => [.own 0 (RW (G k)), .own 0 [.ms 1 0 0 0 N], .own 0 [I lo, I hi2]]) 0 (.inr rfl) ⟨congrArg I (by unfold iLen; omega), trivial⟩ (.inl (by rw [hc1, hG0])) fun k hP Bk2 hB2 => ?_
    obtain ⟨ip, hip⟩ : ∃ q, q = lo + iLen k := ⟨_, rfl⟩
    rw [← hip]
    rw [← hip] at hP
    have hle : A.le ip hi2 = decide (ip ≤ hi2) := by subst hA; rfl
    obtain ⟨c2, hc2⟩ : ∃ r, r = RW (G k) := ⟨_, rfl⟩
    rw [← hc2]
    refine SGo_run hA ⟨[0], [], [], []⟩ .nil .nil 200 fun T TD hT hTD => ?_
    cbv
    split <;> cbv
    · rename_i hz
      have hz : ip ≤ hi2 := by have hz := hle.symm.trans hz; simpa using hz
      have hk0 : 0 ≤ iLen k := by unfold iLen; omega
      obtain ⟨p, hp⟩ : ∃ p : Nat, ip = iLen p := ⟨ip.toNat, by unfold iLen; omega⟩
      have hpk : (p : Int) = lo + iLen k := by rw [← hip, hp]; rfl
      have hpN : p < N := by unfold iLen at hp hb; omega
      have hixp : A.ixm 1 1 0 N ip p := by subst hA; exact ixm1 hp hpN
      obtain ⟨x, hx2⟩ : ∃ x, x = base p := ⟨_, rfl⟩
      have hGp : G k p = x := by
        rw [hG]; unfold putF; dsimp only; rw [hin, if_neg, hx2]
        rintro ⟨_, h2⟩; have this : lo ≤ (p : Int) ∧ (p : Int) ≤ lo + iLen k - 1 := of_decide_eq_true h2; omega
      have hGs : ∀ q, G (k + 1) q = if q = p then (if x ≠ 1 then v else x) else G k q := by
        intro q
        rw [hG]; unfold putF; dsimp only; rw [hin, hin]
        by_cases hq : q = p
        · subst hq
          rw [if_pos rfl, ← hx2]
          have : (lo ≤ (q : Int) ∧ (q : Int) ≤ lo + iLen (k + 1) - 1) := by unfold iLen at *; omega
          simp [this]
        · rw [if_neg hq]
          have : (lo ≤ (q : Int) ∧ (q : Int) ≤ lo + iLen (k + 1) - 1) ↔ (lo ≤ (q : Int) ∧ (q : Int) ≤ lo + iLen k - 1) := by unfold iLen at *; omega
          simp only [this]
      have hget : A.get none c2 p (I x) := by subst hA; rw [hc2, hRW]; exact getS_rowA hpN (congrArg I hGp)
      have hne : A.ne x 1 = decide (x ≠ 1) := by subst hA; simp only [std, iNe]; rw [Bool.eq_iff_iff]; simp
      have hadd : A.add .i64 ip 1 = lo + iLen (k + 1) := by
        subst hA; show iAdd .i64 ip 1 = _; rw [iAdd_id (by unfold iLen at hb hp; omega) (by unfold iLen at hb hp; omega), hip]; unfold iLen; omega
      have hmu : (hi2 + 1 - lo).toNat - (k + 1) < (hi2 + 1 - lo).toNat - k := by unfold iLen at hip; omega
      have hP' : lo + iLen (k + 1) ≤ hi2 + 1 ∨ k + 1 = 0 := .inl (by unfold iLen at *; omega)
      refine And.intro (hsg _) (Exists.intro p (And.intro hixp ?_)); cbv
      refine And.intro (hsg _) (Exists.intro _ (And.intro hget ?_)); cbv
      split <;> cbv
      · rename_i hz
        have hz := of_decide_eq_true (hne.symm.trans hz)
        obtain ⟨c3, hc3⟩ : ∃ r, r = RW (G (k + 1)) := ⟨_, rfl⟩
        have hxv : (if x ≠ 1 then v else x) = v := if_pos hz
        have hup : A.upd 1 c2 p [I v] c3 := by
          subst hA; rw [hc2, hc3, hRW]
          refine updS_rowA hpN fun q _ => ?_
          rw [hGs]
          by_cases hq : q = p
          · rw [if_pos hq, if_pos hq, hxv]
          · rw [if_neg hq, if_neg hq]
        refine And.intro (hsg _) (Exists.intro p (And.intro hixp ?_)); cbv
        refine And.intro (hsg _) (Exists.intro _ (And.intro hup ?_)); cbv
        exact hB2 (k + 1) _ _ hmu hP' ⟨congrArg I hadd, trivial⟩ ⟨rfl, rfl, rfl, rfl, rfl, rfl, trivial⟩ (.inl (by rw [hc3]))
      · rename_i hz
        have hz : x = 1 := by have := of_decide_eq_false (hne.symm.trans hz); omega
        refine hB2 (k + 1) _ _ hmu hP' ⟨congrArg I hadd, trivial⟩ ⟨rfl, rfl, rfl, rfl, rfl, rfl, trivial⟩ (.inl ?_)
        have : G (k + 1) = G k := by
          funext q; rw [hGs]
          by_cases hq : q = p
          · rw [if_pos hq, if_neg (by omega), hq, hGp]
          · rw [if_neg hq]
        rw [this, hc2]
    · rename_i hz
      have hz : ¬ ip ≤ hi2 := by have hz := hle.symm.trans hz; simpa using hz
      refine hB () _ _ hk1 trivial ⟨congrArg I (hadd _ hk1 (by omega)), trivial⟩ ⟨rfl, rfl, rfl, rfl, trivial⟩ (.inr ⟨⟨[.own 0 [I lo, I hi2]], ?_⟩, by simp, by simp [ltG, AV.lt, AV.ltL, keepS, look], ?_⟩)
      · rw [← hGn k (by rw [← hip]; exact hP) (by rw [← hip]; exact hz), ← hc2]; rfl
      · have hcl : ∀ n g, AV.ltL n (RW g) := fun n g => AV.ltL_nid (by rw [hRW]; exact nidL_rowA (fun _ => rfl))
        simp [ltH, AObj.lt, AV.lt, AV.ltL, hcl]
  · rename_i hk0
    have hk1 : ¬ j < l.length := by have hz := hlt.symm.trans hk0; simpa using hz
    clear hk0
    refine hRR _ _ (RetP.same (vs := []) rfl rfl ?_)
    rw [hc1, List.take_of_length_le (by omega)]; exact h
def ePutV : List AV → AHeap → Option PT
  | [.vs 2 xs, .lit (.int .i64 v), .mp 1 0 0], [.own 0 cs, .own 0 [.ms 1 0 0 0 n]] => some fun K => ∃ (N : Nat) (l : Sps) (f : Nat → Int), n = N ∧ xs = l.map sp ∧ cs = rowI N f ∧ N ≤ 1000 ∧ SpOk N l ∧ ∀ cs2, cs2 = rowI N (putF f l v) → K (.tup []) [.own 0 cs2, .own 0 [.ms 1 0 0 0 N]]
  | _, _ => none
theorem ePutV_ok : ∀ args H pt, ePutV args H = some pt → ∀ (Kk : AV → AHeap → Prop), pt Kk → ACalls Try.prog 69 args H Kk := by
  intro args H pt h Kk hk
  unfold ePutV at h
  split at h
  · cases h
    obtain ⟨N, l, f, rfl, rfl, rfl, h1, h2, h3⟩ := hk
    exact p69 _ _ _ _ h1 h2 (h3 _ rfl)
  · cases h
/-- what a mark covers, of marks of some kind -/
def eCov (C : List Mrk → Int → Int → Prop) : List AV → Option ((AV → Prop) → Prop)
  | [.vs 5 xs, .lit (.int .i64 i), .lit (.int .i64 h), .lit (.int .i64 n)] => some fun K => ∃ (m : List Mrk) (k : Nat), xs = m.map mkV ∧ i = iLen k ∧ k < m.length ∧ C m h n ∧
      ∀ may sure, (may, sure) = covS m k h n → SpOk n may → SpOk n sure → ∀ ys zs, ys = may.map sp → zs = sure.map sp → K (.tup [.vs 2 ys, .vs 2 zs])
  | _ => none
def CovOk (C : List Mrk → Int → Int → Prop) : Prop := ∀ args pt, eCov C args = some pt → ∀ (H : AHeap) (Kk : AV → AHeap → Prop), pt (fun r => Kk r H) → ACalls Try.prog 70 args H Kk
theorem CovOk.nil : CovOk fun m _ _ => m = [] := by
  intro args pt h H Kk hk
  unfold eCov at h
  split at h
  · cases h
    obtain ⟨m, k, _, _, h1, rfl, _⟩ := hk
    simp at h1
  · cases h
theorem p55 (C : List Mrk → Int → Int → Prop) (hC : CovOk C) (m : List Mrk) (h0 : Int) (N : Nat) (hm : C m h0 (iLen N)) (hl : m.length ≤ 1000000) (hN : N ≤ 1000) (hN1 : 1 ≤ N) (H : AHeap) {Kk : AV → AHeap → Prop}
    (h : Kk (.vs 1 (((List.range N).map (verdS m h0 (iLen N))).map I)) H) : ACalls Try.prog 55 [.vs 5 (m.map mkV), I h0, I (iLen N)] H Kk := by
  refine (fun q => pureF (by rfl) (by rfl) q H h) ?_
  clear h
  intro Kk h
  obtain ⟨xs, hxs⟩ : ∃ xs, xs = m.map mkV := ⟨_, rfl⟩
  rw [← hxs]
  obtain ⟨F, hF⟩ : ∃ F, F = Frees 0 Kk := ⟨_, rfl⟩
  rw [← hF]
  obtain ⟨n, hn⟩ : ∃ n, n = iLen N := ⟨_, rfl⟩
  rw [← hn] at hm h ⊢
  obtain ⟨VF, hVF⟩ : ∃ f : Nat → List AV, f = fun k => rowI N (verdF m h0 n k) := ⟨_, rfl⟩
  have hend : ∀ X, F (aTup [.ms 1 0 0 0 N]) [.own 0 (VF m.length), X] := by
    intro X
    rw [hF, hVF]
    have e : rowI N (verdF m h0 n m.length) = ((List.range N).map (verdS m h0 n)).map I := rowA_map
    dsimp only
    rw [e]
    refine Frees.frz 0 0 1 (((List.range N).map (verdS m h0 n)).map I) rfl (Elems_I _) ?_
    have e2 : AV.frz 0 0 1 (((List.range N).map (verdS m h0 n)).map I) (aTup [.ms 1 0 0 0 N]) = .vs 1 (((List.range N).map (verdS m h0 n)).map I) := frz_self (by simp)
    rw [e2]
    exact Frees.drop0 h rfl
  obtain ⟨A, hA⟩ : ∃ A, A = std := ⟨_, rfl⟩
  have hsg : ∀ g, A.sg g g := by subst hA; exact fun _ => rfl
  refine go55 rfl ?_
  refine AGo_opq fun RR hRR => ?_
  refine SGo_run hA ⟨[], [], [], (64, eRepeat) :: []⟩ .nil (.cons eRepeat_ok .nil) 200 fun T TD hT hTD => ?_
  cbv
  refine Exists.intro N (And.intro hn (And.intro hN1 (And.intro hN ?_)))
  intro c0 hc0; cbv
  have hc0 : c0 = VF 0 := by
    rw [hc0, hVF]; unfold repC; dsimp only
    exact rowA_congr fun q hq => by rw [if_pos hq]; rfl
  have hnn : n = (N : Int) := hn
  clear hn
  rw [hT]
  refine AGo_upE [0, 1, 2, 7, 8, 17] m.length (fun j (_ : Unit) => True) (fun j _ i => [(18, I i)]) (fun j _ => [.own 0 (VF j), .own 0 [.ms 1 0 0 0 N]]) () trivial ⟨rfl, trivial⟩ (.inl (by rw [hc0])) fun j _ i hi hj hP Bk hB => ?_
  have hlt : A.lt i (A.vlen xs) = decide (j < m.length) := by subst hA; exact lt_len (by simp [hxs]) hi
  have hadd : ∀ N, j < N → N ≤ 9223372036854775807 → A.add .i64 i 1 = iLen (j + 1) := fun N hj hN => by subst hA; exact add_one hi hj hN
  obtain ⟨c1, hc1⟩ : ∃ r, r = VF j := ⟨_, rfl⟩
  rw [← hc1]
  refine SGo_run hA ⟨[], [], (70, eCov C) :: [], (69, ePutV) :: []⟩ (.cons hC .nil) (.cons ePutV_ok .nil) 200 fun T TD hT hTD => ?_
  cbv
  split <;> cbv
  · rename_i hk0
    have hk1 : j < m.length := by have hz := hlt.symm.trans hk0; simpa using hz
    clear hk0
    refine Exists.intro m (Exists.intro j (And.intro hxs (And.intro hi (And.intro hk1 (And.intro hm ?_)))))
    intro may sure hms hmay hsure ys zs hys hzs; cbv
    have hc1 : c1 = rowI N (verdF m h0 n j) := by rw [hc1, hVF]
    refine Exists.intro N (Exists.intro may (Exists.intro (verdF m h0 n j) (And.intro rfl (And.intro hys (And.intro hc1 (And.intro hN (And.intro (by rw [← hnn]; exact hmay) ?_)))))))
    intro c2 hc2; cbv
    refine Exists.intro N (Exists.intro sure (Exists.intro _ (And.intro rfl (And.intro hzs (And.intro hc2 (And.intro hN (And.intro (by rw [← hnn]; exact hsure) ?_)))))))
    intro c3 hc3; cbv
    refine hB () _ _ hk1 trivial ⟨congrArg I (hadd _ hk1 (by omega)), trivial⟩ ⟨rfl, rfl, rfl, rfl, rfl, rfl, trivial⟩ (.inl ?_)
    rw [hc3, hVF]; simp only [verdF]; rw [← hms]
  · rename_i hk0
    have hk1 : ¬ j < m.length := by have hz := hlt.symm.trans hk0; simpa using hz
    clear hk0
    refine hRR _ _ ?_
    cbv
    rw [hc1, show j = m.length by omega]
    exact hend _
end Go.Sas

namespace Go.Sas
open Go.Proofs
set_option maxRecDepth 100000
theorem p53 (n : Int) (m : List Mrk) (hn : 0 ≤ n ∧ n ≤ 1000000) (hl : m.length ≤ 9223372036854775807) (H : AHeap) {Kk : AV → AHeap → Prop} (h : Kk (I (marksE n m)) H) : ACalls Try.prog 53 [I n, .vs 5 (m.map mkV)] H Kk := by
  refine (fun q => pureC (by rfl) (by rfl) q H h) ?_
  clear h
  intro Kk h
  obtain ⟨ys, hys⟩ : ∃ ys, ys = m.map mkV := ⟨_, rfl⟩
  rw [← hys]
  obtain ⟨W, hW⟩ : ∃ W, W = marksE n m := ⟨_, rfl⟩
  rw [← hW] at h
  obtain ⟨A, hA⟩ : ∃ A, A = std := ⟨_, rfl⟩
  have hv : A.lt 100 (A.vlen ys) = decide (100 < m.length) := by subst hA; simp only [std, iLt, hys, List.length_map, iLen]; rw [decide_eq_decide]; omega
  have hn1 : A.sub .i64 n 1 = n - 1 := by subst hA; exact iSub_id (by omega) (by omega)
  refine go53 rfl (SGo_run hA ⟨[], [], [], []⟩ .nil .nil 200 fun T TD hT hTD => ?_)
  cbv
  split <;> cbv
  · rename_i hz
    have hz : 100 < m.length := by have hz := hv.symm.trans hz; simpa using hz
    refine leaf h (congrArg I ?_) rfl
    rw [hW]; unfold marksE; rw [if_pos hz]
  rename_i hz
  have hz : ¬ 100 < m.length := by have hz := hv.symm.trans hz; simpa using hz
  have hW : W = firstE (markE n) m := by rw [hW]; unfold marksE; rw [if_neg hz]
  have hl2 : m.length ≤ 100 := by omega
  clear hz
  rw [hT]
  refine AGo_upE [0, 10, 11] m.length (fun j (_ : Unit) => firstE (markE n) m = firstE (markE n) (m.drop j)) (fun j _ i => [(12, I i)]) (fun _ _ => []) () rfl ⟨rfl, trivial⟩ (.inl rfl) fun j _ i hi hj hP Bk hB => ?_
  have hlt : A.lt i (A.vlen ys) = decide (j < m.length) := by subst hA; exact lt_len (by simp [hys]) hi
  have hadd : ∀ N, j < N → N ≤ 9223372036854775807 → A.add .i64 i 1 = iLen (j + 1) := fun N hj hN => by subst hA; exact add_one hi hj hN
  refine SGo_run hA ⟨[], [], (46, eIn) :: [], []⟩ (.cons (eIn_ok p46) .nil) .nil 200 fun T TD hT hTD => ?_
  cbv
  split <;> cbv
  · rename_i hk0
    have hk1 : j < m.length := by have hz := hlt.symm.trans hk0; simpa using hz
    clear hk0
    obtain ⟨⟨k, f, t, g, s⟩, hx⟩ : ∃ x, m[j]? = some x := ⟨_, List.getElem?_eq_getElem hk1⟩
    have hix : A.ix 5 5 ys i [I k, I f, I t, I g, I s] := by subst hA; exact ix_map hys hi hx rfl
    rw [firstE_drop hx] at hP
    have hR : ∀ e, e ≠ 0 → markE n ⟨k, f, t, g, s⟩ = e → W = e := fun e h0 h => by rw [hW, hP, h, if_neg h0]
    have hN : markE n ⟨k, f, t, g, s⟩ = 0 → firstE (markE n) m = firstE (markE n) (m.drop (j + 1)) := fun h => by rw [hP, if_pos h]
    have hlt2 : A.lt t f = decide (t < f) := by subst hA; rfl
    repeat' (first | (refine Exists.intro _ (And.intro hix ?_); cbv) | (intro qq hfq; cbv) | (split <;> cbv))
    all_goals first
      | refine hB () _ _ hk1 (hN ?_) ⟨congrArg I (hadd _ hk1 (by omega)), trivial⟩ ⟨rfl, rfl, rfl, trivial⟩ (.inr ⟨⟨_, rfl⟩, Nat.zero_le _, by simp [ltG, AV.lt, AV.ltL, keepS, look], by simp [ltH, AObj.lt, AV.lt, AV.ltL]⟩)
      | refine leaf h (congrArg I (hR _ (by decide) ?_)) rfl
    all_goals
      clear hR hN hP hix hv hW hlt hadd hB hx h hl hl2 hk1 hi hj hT hTD hys
      simp only [hn1] at *
      clear hn1
      subst hA
      simp only [std, iLt] at *
      try clear hT hTD
      try clear hxs
      subst_vars
      simp only [Bool.not_eq_true', Bool.not_eq_false', decide_eq_true_eq, decide_eq_false_iff_not] at *
      simp only [markE]
      first | rw [if_pos (by omega)] | rw [if_neg (by omega), if_pos (by omega)] | rw [if_neg (by omega), if_neg (by omega), if_pos (by omega)] | rw [if_neg (by omega), if_neg (by omega), if_neg (by omega), if_pos (by omega)] | rw [if_neg (by omega), if_neg (by omega), if_neg (by omega), if_neg (by omega)]
  · rename_i hk0
    have hk1 : ¬ j < m.length := by have hz := hlt.symm.trans hk0; simpa using hz
    clear hk0
    refine leaf h (congrArg I ?_) rfl
    rw [hW, hP, List.drop_eq_nil_of_le (by omega)]; rfl
def eMarksN : List AV → Option ((AV → Prop) → Prop)
  | [.lit (.int .i64 n), .vs 5 ys] => some fun K => ∃ (m : List Mrk), ys = m.map mkV ∧ (0 ≤ n ∧ n ≤ 1000000) ∧ m.length ≤ 9223372036854775807 ∧ ∀ q, q = marksE n m → K (I q)
  | _ => none
theorem eMarksN_ok : ∀ args pt, eMarksN args = some pt → ∀ (H : AHeap) (Kk : AV → AHeap → Prop), pt (fun r => Kk r H) → ACalls Try.prog 53 args H Kk := by
  intro args pt h H Kk hk
  unfold eMarksN at h
  split at h
  · cases h
    obtain ⟨m, rfl, h1, h2, h3⟩ := hk
    exact p53 _ _ h1 h2 H (h3 _ rfl)
  · cases h
end Go.Sas
namespace Go.Sas
open Go.Proofs
set_option maxRecDepth 100000
/-- of a function that names no object, with more than one answer -/
theorem pureQ {P : Program} {f : Nat} {args : List AV} {Q : AV → Prop} (ha : AV.nidL args = true) (hr : ∀ r, Q r → r.nid = true) (h : ∀ Kk : AV → AHeap → Prop, (∀ r, Q r → Kk r []) → ACalls P f args [] (Frees 0 Kk)) (H : AHeap) {Kk : AV → AHeap → Prop} (hk : ∀ r, Q r → Kk r H) : ACalls P f args H Kk := by
  have h1 := ACalls.frees (h (fun r H' => Q r ∧ H' = []) fun r hq => ⟨hq, rfl⟩)
  have := ACalls.frame (H := H) [] h1 List.nodup_nil rfl (AV.ltL_nid ha) (by simp [ltH]) (fun k X hk => by simp at hk)
  rw [AV.renL_nid ha] at this
  refine this.mono fun r H' hx => ?_
  obtain ⟨r0, H1, ⟨hq, rfl⟩, _, rfl, rfl⟩ := hx
  rw [AV.ren_nid (hr _ hq)]
  simpa [merge, updL] using hk _ hq
theorem ite_both {c p q : Prop} {inst : Decidable c} (h1 : p) (h2 : q) : if c then p else q := by split <;> assumption
/-- the answer of asked -/
def AskedK (rs : List Rch) (a b c : Int) (l : List Lk) (m : List Mrk) (need h : Int) (xs : List AV) (K : AV → Prop) : Prop :=
  (∀ e g x y, e = askE rs a b c l m need h → e ≠ 0 → g.nid = true → (∃ a1 a2 a3 a4 a5 a6, g = .agg [a1, a2, a3, a4, a5, a6]) → x = NS → y = NS → K (.tup [g, x, y, I e])) ∧
  (askE rs a b c l m need h = 0 → ∀ ys zs ls ms, GrIs rs xs ys zs → ls = (pastL l h).map lkV → ms = (pastM m h).map mkV → K (.tup [grV (.vs 5 xs) a b c (.vs 1 ys) (.vs 5 zs), .vs 5 ls, .vs 5 ms, I 0]))
abbrev lkC (x : Lk) : List AV := [I x.k, I x.p, I x.h, I x.lo, I x.hi]
abbrev mkC (x : Mrk) : List AV := [I x.k, I x.f, I x.t, I x.h, I x.s]
theorem p35 (rs : List Rch) (a b c : Int) (l : List Lk) (m : List Mrk) (need h0 : Int) (h1 : rs.length ≤ 9223372036854775807) (h2 : l.length ≤ 9223372036854775807) (h3 : m.length ≤ 9223372036854775807) (H : AHeap) {Kk : AV → AHeap → Prop}
    (h : AskedK rs a b c l m need h0 (rs.map rcV) fun r => Kk r H) : ACalls Try.prog 35 [svV (.vs 5 (rs.map rcV)) a b c, .vs 5 (l.map lkV), .vs 5 (m.map mkV), I need, I h0] H Kk := by
  have hnr := nidL_rc rs
  refine (fun q => pureQ (Q := fun r => ∀ K, AskedK rs a b c l m need h0 (rs.map rcV) K → K r) (by simp [AV.nidL, AV.nid, hnr]) (fun r hr => hr (fun r => r.nid = true) ⟨fun e g x y _ _ h1 _ h2 h3 => by simp [AV.nid, AV.nidL, h1, h2, h3], fun _ ys zs ls ms h1 h2 h3 => by
    rw [h1.2.1, h1.2.2, h2, h3]; simp [AV.nid, AV.nidL, hnr, nidL_map (g := I) (fun _ => rfl), nidL_rc, nidL_map (g := lkV) (fun _ => rfl), nidL_map (g := mkV) (fun _ => rfl)]⟩) q H (fun r hr => hr (fun r => Kk r H) h)) ?_
  clear h
  intro Kk hh
  have h : AskedK rs a b c l m need h0 (rs.map rcV) fun r => Kk r [] := ⟨fun e g x y h1 h2 h3 h4 h5 h6 => hh _ fun K hK => hK.1 e g x y h1 h2 h3 h4 h5 h6, fun h1 ys zs ls ms h2 h3 h4 => hh _ fun K hK => hK.2 h1 ys zs ls ms h2 h3 h4⟩
  clear hh
  obtain ⟨xs, hxs⟩ : ∃ xs, xs = rs.map rcV := ⟨_, rfl⟩
  rw [← hxs] at h ⊢
  obtain ⟨ls, hls⟩ : ∃ ys, ys = l.map lkV := ⟨_, rfl⟩
  rw [← hls]
  obtain ⟨ms, hms⟩ : ∃ ys, ys = m.map mkV := ⟨_, rfl⟩
  rw [← hms]
  obtain ⟨A, hA⟩ : ∃ A, A = std := ⟨_, rfl⟩
  obtain ⟨F, hF⟩ : ∃ F, F = Frees 0 Kk := ⟨_, rfl⟩
  rw [← hF]
  have hsg : ∀ g, A.sg g g := by subst hA; exact fun _ => rfl
  have hne : ∀ x, A.ne x 0 = decide (x ≠ 0) := by subst hA; intro x; simp only [std, iNe]; rw [Bool.eq_iff_iff]; simp
  have hnb : ∀ b, A.bnot b = !b := by subst hA; intro b; rfl
  obtain ⟨E1, hE1⟩ : ∃ E, E = surE rs a b c l := ⟨_, rfl⟩
  obtain ⟨E2, hE2⟩ : ∃ E, E = marksE (sumLg rs) m := ⟨_, rfl⟩
  have hK : askE rs a b c l m need h0 = orElse E1 (orElse E2 (if ¬(0 ≤ need ∧ need ≤ 3000) ∨ ¬(0 ≤ h0 ∧ h0 ≤ 10000) then 2 else 0)) := by rw [hE1, hE2]; rfl
  obtain ⟨hw, hg⟩ := h
  have hw : ∀ a1 a2 a3 a4 a5 a6 e H1, AV.nid (.agg [a1, a2, a3, a4, a5, a6]) = true → askE rs a b c l m need h0 = e → e ≠ 0 → F (.tup [.agg [a1, a2, a3, a4, a5, a6], NS, NS, I e]) H1 := fun a1 a2 a3 a4 a5 a6 e H1 hn h1 h2 => by
    rw [hF]; exact Frees.drop0 (hw e _ _ _ h1.symm h2 hn ⟨_, _, _, _, _, _, rfl⟩ rfl rfl) (by simp only [AV.nid, AV.nidL] at hn ⊢; rw [hn]; rfl)
  refine go35 rfl (SGo_run hA ⟨[], [], (45, eLooked) :: (46, eIn) :: (53, eMarksN) :: [], []⟩ (.cons eLooked_ok (.cons (eIn_ok p46) (.cons eMarksN_ok .nil))) .nil 200 fun T TD hT hTD => ?_)
  cbv
  refine Exists.intro rs (Exists.intro l (And.intro hxs (And.intro hls (And.intro h1 (And.intro h2 (And.intro ?_ ?_))))))
  · intro e w a' b' c' y z he h5 hn1 hn2 hn3; cbv
    split <;> cbv
    · have hee : askE rs a b c l m need h0 = e := by rw [hK, hE1, ← he]; unfold orElse; rw [if_neg h5]
      have hw2 := fun H1 => hw w (I a') (I b') (I c') y z e H1 (by simp [AV.nid, AV.nidL, hn1, hn2, hn3]) hee h5
      exact @ite_both _ _ _ _ (hw2 _) (hw2 _)
    · rename_i hz; exact absurd (of_decide_eq_false ((hne e).symm.trans hz)) (fun h => h h5)
  intro ho hs2 hlo sl zs hgr; cbv
  split <;> cbv
  · rename_i hz; exact absurd rfl (of_decide_eq_true ((hne 0).symm.trans hz))
  have hE10 : E1 = 0 := by rw [hE1]; exact surE_ok.2 ⟨ho, hs2, hlo⟩
  have hsb := sumLg_bnd' ho
  have hvz : A.vlen zs = sumLg rs := by rw [← ho.ilen, hgr.2.2]; subst hA; simp [std]
  have hnx : AV.nidL xs = true := by rw [hxs]; exact hnr
  have hnsl : AV.nidL sl = true := by rw [hgr.2.1]; exact nidL_map (g := I) (fun _ => rfl) _
  have hnzs : AV.nidL zs = true := by rw [hgr.2.2]; exact nidL_rc _
  have hng : AV.nid (.agg [.vs 5 xs, I a, I b, I c, .vs 1 sl, .vs 5 zs]) = true := by simp [AV.nid, AV.nidL, hnx, hnsl, hnzs]
  refine Exists.intro m (And.intro hms (And.intro (by show 0 ≤ A.vlen zs ∧ A.vlen zs ≤ _; rw [hvz]; omega) (And.intro h3 ?_)))
  intro q1 hq1; cbv
  have hq1 : q1 = E2 := by rw [hE2, ← hvz]; exact hq1
  split <;> cbv
  · rename_i hz
    have hz := of_decide_eq_true ((hne q1).symm.trans hz)
    exact hw _ _ _ _ _ _ _ _ hng (by rw [hK, hE10, ← hq1]; unfold orElse; rw [if_pos rfl, if_neg hz]) hz
  rename_i hz
  have hz : q1 = 0 := by have := of_decide_eq_false ((hne q1).symm.trans hz); omega
  have hE20 : E2 = 0 := by rw [← hq1]; exact hz
  rw [hE20] at hE2
  have hE2 := hE2.symm
  clear hz hq1 hE1
  have hK : askE rs a b c l m need h0 = if ¬(0 ≤ need ∧ need ≤ 3000) ∨ ¬(0 ≤ h0 ∧ h0 ≤ 10000) then 2 else 0 := by rw [hK, hE10, hE20]; unfold orElse; rw [if_pos rfl, if_pos rfl]
  intro q2 hq2; cbv
  have hEr : ¬(0 ≤ need ∧ need ≤ 3000) ∨ ¬(0 ≤ h0 ∧ h0 ≤ 10000) → askE rs a b c l m need h0 = 2 := fun h => by rw [hK, if_pos h]
  split <;> cbv
  · rename_i hz
    have hz : q2 = false := by have hz := (hnb q2).symm.trans hz; simpa using hz
    rw [hq2, decide_eq_false_iff_not] at hz
    exact hw _ _ _ _ _ _ _ _ hng (hEr (.inl hz)) (by decide)
  rename_i hz
  have hz : q2 = true := by have hz := (hnb q2).symm.trans hz; simpa using hz
  rw [hq2, decide_eq_true_eq] at hz
  intro q3 hq3; cbv
  split <;> cbv
  · rename_i hz3
    have hz3 : q3 = false := by have hz := (hnb q3).symm.trans hz3; simpa using hz
    rw [hq3, decide_eq_false_iff_not] at hz3
    exact hw _ _ _ _ _ _ _ _ hng (hEr (.inr hz3)) (by decide)
  rename_i hz3
  have hz3 : q3 = true := by have hz := (hnb q3).symm.trans hz3; simpa using hz
  rw [hq3, decide_eq_true_eq] at hz3
  have hg := hg (by rw [hK, if_neg (by rintro (h | h) <;> exact h (by assumption))])
  clear hK hEr hw
  have hl1 : l.length ≤ 200 := hlo.le
  have hm1 : m.length ≤ 100 := (marksE_ok.1 hE2).1
  rw [hT]
  refine AGo_nilms 11 5 rfl ?_
  refine AGo_nilms 12 5 rfl ?_
  obtain ⟨G, hG⟩ : ∃ G : List Lk → List Mrk → AHeap, G = fun la ma => [.own 0 [.vs 5 xs, I a, I b, I c], .own 0 [.vs 5 xs, I a, I b, I c, .vs 1 sl, .vs 5 zs], .own la.length (la.flatMap lkC), .own ma.length (ma.flatMap mkC)] := ⟨_, rfl⟩
  have hxl : ∀ n, AV.ltL n xs := fun n => AV.ltL_nid hnx
  have hsl : ∀ n, AV.ltL n sl := fun n => AV.ltL_nid hnsl
  have hzl : ∀ n, AV.ltL n zs := fun n => AV.ltL_nid hnzs
  have hcl2 : ∀ n (l : List Lk), AV.ltL n (l.flatMap lkC) := fun n l => AV.ltL_nid (nidL_flat (fun _ => rfl) l)
  have hml2 : ∀ n (l : List Mrk), AV.ltL n (l.flatMap mkC) := fun n l => AV.ltL_nid (nidL_flat (fun _ => rfl) l)
  refine AGo_upE [2, 4, 10, 12, 47, 48] l.length (fun j (_ : Unit) => True) (fun j _ i => [(11, .ms 5 2 (pastL (l.take j) h0).length 0 (pastL (l.take j) h0).length), (49, I i)]) (fun j _ => G (pastL (l.take j) h0) []) () trivial ⟨rfl, rfl, trivial⟩ (.inl (by rw [hG]; rfl)) fun j _ i hi hj hP Bk hB => ?_
  have hlt : A.lt i (A.vlen ls) = decide (j < l.length) := by subst hA; exact lt_len (by simp [hls]) hi
  have hadd : ∀ N, j < N → N ≤ 9223372036854775807 → A.add .i64 i 1 = iLen (j + 1) := fun N hj hN => by subst hA; exact add_one hi hj hN
  obtain ⟨L, hL⟩ : ∃ L, L = pastL (l.take j) h0 := ⟨_, rfl⟩
  have hLl : L.length ≤ 1000000 := by rw [hL]; have := List.length_filter_le (fun x : Lk => decide (x.h ≤ h0)) (l.take j); rw [List.length_take] at this; unfold pastL; omega
  rw [← hL]
  have hGL : G L [] = [.own 0 [.vs 5 xs, I a, I b, I c], .own 0 [.vs 5 xs, I a, I b, I c, .vs 1 sl, .vs 5 zs], .own L.length (L.flatMap lkC), .own 0 []] := by rw [hG]; rfl
  rw [hGL]
  obtain ⟨n, hn⟩ : ∃ n, n = L.length := ⟨_, rfl⟩
  obtain ⟨cs, hcs⟩ : ∃ x, x = L.flatMap lkC := ⟨_, rfl⟩
  have hcl : cs.length = n * 5 := by rw [hcs, hn, len_flat (k := 5) (fun _ => rfl)]
  rw [← hn, ← hcs]
  rw [← hn] at hLl
  refine SGo_run hA ⟨[2], [], [], []⟩ .nil .nil 200 fun T TD hT hTD => ?_
  cbv
  split <;> cbv
  · rename_i hk0
    have hk1 : j < l.length := by have hz := hlt.symm.trans hk0; simpa using hz
    clear hk0
    obtain ⟨⟨k', q', g', u', v'⟩, hx⟩ : ∃ x, l[j]? = some x := ⟨_, List.getElem?_eq_getElem hk1⟩
    have hix : A.ix 5 5 ls i (lkC ⟨k', q', g', u', v'⟩) := by subst hA; exact ix_map hls hi hx rfl
    have hle : A.le g' h0 = decide (g' ≤ h0) := by subst hA; rfl
    have htk : pastL (l.take (j + 1)) h0 = if g' ≤ h0 then L ++ [⟨k', q', g', u', v'⟩] else L := by
      obtain ⟨h8, he⟩ := List.getElem?_eq_some_iff.1 hx
      rw [hL, List.take_succ_eq_append_getElem h8, he]
      unfold pastL
      rw [List.filter_append]
      split
      · rename_i h9; congr 1; simp only [List.filter_cons, List.filter_nil]; rw [if_pos (by simpa using h9)]
      · rename_i h9; simp only [List.filter_cons, List.filter_nil]; rw [if_neg (by simpa using h9), List.append_nil]
    refine Exists.intro _ (And.intro hix ?_); cbv
    split <;> cbv
    · rename_i hz
      have hz := of_decide_eq_true (hle.symm.trans hz)
      rw [if_pos hz] at htk
      obtain ⟨cs2, hcs2⟩ : ∃ x, x = cs ++ lkC ⟨k', q', g', u', v'⟩ := ⟨_, rfl⟩
      have happ : A.app 5 5 40 cs 0 n [.agg (lkC ⟨k', q', g', u', v'⟩)] cs2 (n + 1) := by subst hA; rw [hcs2]; exact app_one hcl rfl (by omega)
      refine And.intro (hsg _) (Exists.intro cs2 (Exists.intro (n + 1) (And.intro happ (And.intro rfl ?_))))
      cbv
      have hLn : ∀ x, (L ++ [x]).length = n + 1 := fun x => by rw [List.length_append, ← hn]; rfl
      refine hB () _ _ hk1 trivial ?_ ⟨rfl, rfl, rfl, rfl, rfl, rfl, trivial⟩ (.inr ⟨⟨[.own 0 (lkC ⟨k', q', g', u', v'⟩)], ?_⟩, by rw [hG]; simp, by simp [ltG, AV.lt, AV.ltL, keepS, look, gset, hG], ?_⟩)
      · rw [htk, hLn]; exact And.intro rfl (And.intro (congrArg I (hadd _ hk1 (by omega))) trivial)
      · rw [htk, hG]; dsimp only; rw [hLn, List.flatMap_append, ← hcs, hcs2]; rfl
      · rw [hG]; simp [ltH, AObj.lt, AV.lt, AV.ltL, hxl, hsl, hzl, hcl2]
    · rename_i hz
      have hz := of_decide_eq_false (hle.symm.trans hz)
      rw [if_neg hz] at htk
      refine hB () _ _ hk1 trivial ?_ ⟨rfl, rfl, rfl, rfl, rfl, rfl, trivial⟩ (.inr ⟨⟨[.own 0 (lkC ⟨k', q', g', u', v'⟩)], ?_⟩, by rw [hG]; simp, by simp [ltG, AV.lt, AV.ltL, keepS, look, gset, hG], ?_⟩)
      · rw [htk, ← hn]; exact ⟨rfl, congrArg I (hadd _ hk1 (by omega)), trivial⟩
      · rw [htk, hG]; dsimp only; rw [← hn, ← hcs]; rfl
      · rw [hG]; simp [ltH, AObj.lt, AV.lt, AV.ltL, hxl, hsl, hzl, hcl2]
  · rename_i hk0
    have hk1 : ¬ j < l.length := by have hz := hlt.symm.trans hk0; simpa using hz
    clear hk0
    have hLL : L = pastL l h0 := by rw [hL, List.take_of_length_le (by omega)]
    clear hL hGL
    obtain ⟨n2, hn2⟩ : ∃ n2, n2 = n := ⟨_, rfl⟩
    obtain ⟨cs0, hcs0⟩ : ∃ x, x = cs := ⟨_, rfl⟩
    rw [← hn2, ← hcs0]
    clear hG
    obtain ⟨G, hG⟩ : ∃ G : List Mrk → AHeap, G = fun ma => [.own 0 [.vs 5 xs, I a, I b, I c], .own 0 [.vs 5 xs, I a, I b, I c, .vs 1 sl, .vs 5 zs], .own n2 cs0, .own ma.length (ma.flatMap mkC)] := ⟨_, rfl⟩
    have hcl0 : ∀ n, AV.ltL n cs0 := fun n => by rw [hcs0, hcs]; exact hcl2 _ _
    rw [hcs] at hcs0
    rw [hn] at hn2
    rw [hLL] at hn2 hcs0
    clear hcs hn hcl hLl hlt hadd hB hj hi hk1 hP
    rw [hT]
    refine AGo_upE [4, 10, 11, 62, 63] m.length (fun j (_ : Unit) => True) (fun j _ i => [(12, .ms 5 3 (pastM (m.take j) h0).length 0 (pastM (m.take j) h0).length), (64, I i)]) (fun j _ => G (pastM (m.take j) h0)) () trivial ⟨rfl, rfl, trivial⟩ (.inl (by rw [hG]; rfl)) fun j _ i hi hj hP Bk hB => ?_
    have hlt : A.lt i (A.vlen ms) = decide (j < m.length) := by subst hA; exact lt_len (by simp [hms]) hi
    have hadd : ∀ N, j < N → N ≤ 9223372036854775807 → A.add .i64 i 1 = iLen (j + 1) := fun N hj hN => by subst hA; exact add_one hi hj hN
    obtain ⟨L, hL⟩ : ∃ L, L = pastM (m.take j) h0 := ⟨_, rfl⟩
    have hLl : L.length ≤ 1000000 := by rw [hL]; have := List.length_filter_le (fun x : Mrk => decide (x.h ≤ h0)) (m.take j); rw [List.length_take] at this; unfold pastM; omega
    rw [← hL]
    have hGL : G L = [.own 0 [.vs 5 xs, I a, I b, I c], .own 0 [.vs 5 xs, I a, I b, I c, .vs 1 sl, .vs 5 zs], .own n2 cs0, .own L.length (L.flatMap mkC)] := by rw [hG]
    rw [hGL]
    obtain ⟨n, hn⟩ : ∃ n, n = L.length := ⟨_, rfl⟩
    obtain ⟨cs, hcs⟩ : ∃ x, x = L.flatMap mkC := ⟨_, rfl⟩
    have hcl : cs.length = n * 5 := by rw [hcs, hn, len_flat (k := 5) (fun _ => rfl)]
    rw [← hn, ← hcs]
    rw [← hn] at hLl
    refine SGo_run hA ⟨[3], [], [], []⟩ .nil .nil 200 fun T TD hT hTD => ?_
    cbv
    split <;> cbv
    · rename_i hk0
      have hk1 : j < m.length := by have hz := hlt.symm.trans hk0; simpa using hz
      clear hk0
      obtain ⟨⟨k', q', g', u', v'⟩, hx⟩ : ∃ x, m[j]? = some x := ⟨_, List.getElem?_eq_getElem hk1⟩
      have hix : A.ix 5 5 ms i (mkC ⟨k', q', g', u', v'⟩) := by subst hA; exact ix_map hms hi hx rfl
      have hle : A.le u' h0 = decide (u' ≤ h0) := by subst hA; rfl
      have htk : pastM (m.take (j + 1)) h0 = if u' ≤ h0 then L ++ [⟨k', q', g', u', v'⟩] else L := by
        obtain ⟨h8, he⟩ := List.getElem?_eq_some_iff.1 hx
        rw [hL, List.take_succ_eq_append_getElem h8, he]
        unfold pastM
        rw [List.filter_append]
        split
        · rename_i h9; congr 1; simp only [List.filter_cons, List.filter_nil]; rw [if_pos (by simpa using h9)]
        · rename_i h9; simp only [List.filter_cons, List.filter_nil]; rw [if_neg (by simpa using h9), List.append_nil]
      refine Exists.intro _ (And.intro hix ?_); cbv
      split <;> cbv
      · rename_i hz
        have hz := of_decide_eq_true (hle.symm.trans hz)
        rw [if_pos hz] at htk
        obtain ⟨cs2, hcs2⟩ : ∃ x, x = cs ++ mkC ⟨k', q', g', u', v'⟩ := ⟨_, rfl⟩
        have happ : A.app 5 5 40 cs 0 n [.agg (mkC ⟨k', q', g', u', v'⟩)] cs2 (n + 1) := by subst hA; rw [hcs2]; exact app_one hcl rfl (by omega)
        refine And.intro (hsg _) (Exists.intro cs2 (Exists.intro (n + 1) (And.intro happ (And.intro rfl ?_))))
        cbv
        have hLn : ∀ x, (L ++ [x]).length = n + 1 := fun x => by rw [List.length_append, ← hn]; rfl
        refine hB () _ _ hk1 trivial ?_ ⟨rfl, rfl, rfl, rfl, rfl, trivial⟩ (.inr ⟨⟨[.own 0 (mkC ⟨k', q', g', u', v'⟩)], ?_⟩, by rw [hG]; simp, by simp [ltG, AV.lt, AV.ltL, keepS, look, gset, hG], ?_⟩)
        · rw [htk, hLn]; exact And.intro rfl (And.intro (congrArg I (hadd _ hk1 (by omega))) trivial)
        · rw [htk, hG]; dsimp only; rw [hLn, List.flatMap_append, ← hcs, hcs2]; rfl
        · rw [hG]; simp [ltH, AObj.lt, AV.lt, AV.ltL, hxl, hsl, hzl, hml2, hcl0]
      · rename_i hz
        have hz := of_decide_eq_false (hle.symm.trans hz)
        rw [if_neg hz] at htk
        refine hB () _ _ hk1 trivial ?_ ⟨rfl, rfl, rfl, rfl, rfl, trivial⟩ (.inr ⟨⟨[.own 0 (mkC ⟨k', q', g', u', v'⟩)], ?_⟩, by rw [hG]; simp, by simp [ltG, AV.lt, AV.ltL, keepS, look, gset, hG], ?_⟩)
        · rw [htk, ← hn]; exact ⟨rfl, congrArg I (hadd _ hk1 (by omega)), trivial⟩
        · rw [htk, hG]; dsimp only; rw [← hn, ← hcs]; rfl
        · rw [hG]; simp [ltH, AObj.lt, AV.lt, AV.ltL, hxl, hsl, hzl, hml2, hcl0]
    · rename_i hk0
      have hk1 : ¬ j < m.length := by have hz := hlt.symm.trans hk0; simpa using hz
      clear hk0
      have hLM : L = pastM m h0 := by rw [hL, List.take_of_length_le (by omega)]
      rw [hF]
      rw [hLM] at hn hcs
      have hE1 : Elems 5 ((pastL l h0).map lkV) cs0 := by rw [hcs0]; exact Elems_map (f := lkV) (g := lkC) (sz := 5) (fun _ => rfl) (fun _ => rfl) (fun _ => rfl) _
      have hE2 : Elems 5 ((pastM m h0).map mkV) cs := by rw [hcs]; exact Elems_map (f := mkV) (g := mkC) (sz := 5) (fun _ => rfl) (fun _ => rfl) (fun _ => rfl) _
      refine Frees.frz 2 n2 5 ((pastL l h0).map lkV) rfl hE1 ?_
      refine Frees.frz 3 n 5 ((pastM m h0).map mkV) (cs := cs) ?_ hE2 ?_
      · have : AV.frzL 2 n2 5 ((pastL l h0).map lkV) cs = cs := AV.frzL_nid (by rw [hcs]; exact nidL_flat (fun _ => rfl) _)
        simp [frzH, AObj.frz, this]
      have e1 : AV.frz 2 n2 5 ((pastL l h0).map lkV) (.ms 5 2 n2 0 n2) = .vs 5 ((pastL l h0).map lkV) := frz_self (by simp [hn2])
      have e2 : AV.frz 3 n 5 ((pastM m h0).map mkV) (.ms 5 3 n 0 n) = .vs 5 ((pastM m h0).map mkV) := frz_self (by simp [hn])
      have e3 : AV.frz 2 n2 5 ((pastL l h0).map lkV) (.ms 5 3 n 0 n) = .ms 5 3 n 0 n := by simp [AV.frz]
      have e6 : ∀ i g s l x, AV.nidL x = true → AV.frz i g s l (.vs 5 x) = .vs 5 x := fun i g s l x h => AV.frz_nid (by simp only [AV.nid])
      have e5 : ∀ i g s l, AV.frz i g s l (.agg [.vs 5 xs, I a, I b, I c, .vs 1 sl, .vs 5 zs]) = .agg [.vs 5 xs, I a, I b, I c, .vs 1 sl, .vs 5 zs] := fun i g s l => AV.frz_nid hng
      have e4 : AV.frz 3 n 5 ((pastM m h0).map mkV) (AV.frz 2 n2 5 ((pastL l h0).map lkV) (aTup [.agg [.vs 5 xs, I a, I b, I c, .vs 1 sl, .vs 5 zs], .ms 5 2 n2 0 n2, .ms 5 3 n 0 n, I 0])) = .tup [.agg [.vs 5 xs, I a, I b, I c, .vs 1 sl, .vs 5 zs], .vs 5 ((pastL l h0).map lkV), .vs 5 ((pastM m h0).map mkV), I 0] := by
        show AV.tup [AV.frz 3 n 5 ((pastM m h0).map mkV) (AV.frz 2 n2 5 ((pastL l h0).map lkV) (.agg [.vs 5 xs, I a, I b, I c, .vs 1 sl, .vs 5 zs])), AV.frz 3 n 5 ((pastM m h0).map mkV) (AV.frz 2 n2 5 ((pastL l h0).map lkV) (.ms 5 2 n2 0 n2)), AV.frz 3 n 5 ((pastM m h0).map mkV) (AV.frz 2 n2 5 ((pastL l h0).map lkV) (.ms 5 3 n 0 n)), I 0] = _
        rw [e5, e5, e1, e3, e2, e6 _ _ _ _ _ (nidL_map (g := lkV) (fun _ => rfl) _)]
      rw [e4]
      exact Frees.drop0 (hg _ _ _ _ hgr rfl rfl) (by
        have h7 := nidL_map (g := lkV) (fun _ => rfl) (pastL l h0)
        have h8 := nidL_map (g := mkV) (fun _ => rfl) (pastM m h0)
        simp [AV.nid, AV.nidL, hnx, hnsl, hnzs, h7, h8])
def eAsked : List AV → Option ((AV → Prop) → Prop)
  | [.agg [.vs 5 xs, .lit (.int .i64 a), .lit (.int .i64 b), .lit (.int .i64 c)], .vs 5 ls, .vs 5 ms, .lit (.int .i64 need), .lit (.int .i64 h)] =>
    some fun K => ∃ (rs : List Rch) (l : List Lk) (m : List Mrk), xs = rs.map rcV ∧ ls = l.map lkV ∧ ms = m.map mkV ∧ rs.length ≤ 9223372036854775807 ∧ l.length ≤ 9223372036854775807 ∧ m.length ≤ 9223372036854775807 ∧
      (∀ e a1 a2 a3 a4 a5 a6 x y, e = askE rs a b c l m need h → e ≠ 0 → AV.nid (.agg [a1, a2, a3, a4, a5, a6]) = true → x = NS → y = NS → K (.tup [.agg [a1, a2, a3, a4, a5, a6], x, y, I e])) ∧
      (askE rs a b c l m need h = 0 → ∀ ys zs ls ms, GrIs rs xs ys zs → ls = (pastL l h).map lkV → ms = (pastM m h).map mkV → K (.tup [.agg [.vs 5 xs, I a, I b, I c, .vs 1 ys, .vs 5 zs], .vs 5 ls, .vs 5 ms, I 0]))
  | _ => none
theorem eAsked_ok : ∀ args pt, eAsked args = some pt → ∀ (H : AHeap) (Kk : AV → AHeap → Prop), pt (fun r => Kk r H) → ACalls Try.prog 35 args H Kk := by
  intro args pt h H Kk hk
  unfold eAsked at h
  split at h
  · cases h
    obtain ⟨rs, l, m, rfl, rfl, rfl, h1, h2, h3, h4, h5⟩ := hk
    refine p35 _ _ _ _ _ _ _ _ h1 h2 h3 H ⟨?_, h5⟩
    rintro e g x y h6 h7 h8 ⟨a1, a2, a3, a4, a5, a6, rfl⟩ h9 h10
    exact h4 _ _ _ _ _ _ _ _ _ h6 h7 h8 h9 h10
  · cases h
theorem askE_ok {rs : List Rch} {a b c : Int} {l : List Lk} {m : List Mrk} {need h : Int} : askE rs a b c l m need h = 0 ↔ RoadOk rs ∧ SgtOk a b c ∧ LksOk (plc rs) l ∧ m.length ≤ 100 ∧ (∀ x ∈ m, MkOk (sumLg rs) x) ∧ (0 ≤ need ∧ need ≤ 3000) ∧ 0 ≤ h ∧ h ≤ 10000 := by
  unfold askE
  constructor
  · intro h1
    unfold orElse at h1
    by_cases h2 : surE rs a b c l = 0
    · rw [if_pos h2] at h1
      by_cases h3 : marksE (sumLg rs) m = 0
      · rw [if_pos h3] at h1
        obtain ⟨q1, q2, q3⟩ := surE_ok.1 h2
        obtain ⟨q4, q5⟩ := marksE_ok.1 h3
        by_cases h4 : ¬(0 ≤ need ∧ need ≤ 3000) ∨ ¬(0 ≤ h ∧ h ≤ 10000)
        · rw [if_pos h4] at h1; omega
        · exact ⟨q1, q2, q3, q4, q5, by omega, by omega⟩
      · rw [if_neg h3] at h1; exact absurd h1 h3
    · rw [if_neg h2] at h1; exact absurd h1 h2
  · rintro ⟨q1, q2, q3, q4, q5, q6, q7⟩
    rw [surE_ok.2 ⟨q1, q2, q3⟩, marksE_ok.2 ⟨q4, q5⟩]
    unfold orElse; rw [if_pos rfl, if_pos rfl, if_neg (by omega)]
theorem pastL_mem {l : List Lk} {h : Int} {x : Lk} (hx : x ∈ pastL l h) : x ∈ l := (List.mem_filter.1 hx).1
theorem pastL_len {l : List Lk} {h : Int} : (pastL l h).length ≤ l.length := List.length_filter_le _ _
theorem pastM_mem {l : List Mrk} {h : Int} {x : Mrk} (hx : x ∈ pastM l h) : x ∈ l := (List.mem_filter.1 hx).1
theorem pastM_len {l : List Mrk} {h : Int} : (pastM l h).length ≤ l.length := List.length_filter_le _ _
end Go.Sas
namespace Go.Sas
open Go.Proofs
set_option maxRecDepth 100000
def eVerd (C : List Mrk → Int → Int → Prop) : List AV → Option ((AV → Prop) → Prop)
  | [.vs 5 xs, .lit (.int .i64 h), .lit (.int .i64 n)] => some fun K => ∃ (m : List Mrk) (N : Nat), xs = m.map mkV ∧ n = iLen N ∧ C m h n ∧ m.length ≤ 1000000 ∧ N ≤ 1000 ∧ 1 ≤ N ∧ ∀ ys, ys = ((List.range N).map (verdS m h n)).map I → K (.vs 1 ys)
  | _ => none
theorem eVerd_ok {C : List Mrk → Int → Int → Prop} (hC : CovOk C) : ∀ args pt, eVerd C args = some pt → ∀ (H : AHeap) (Kk : AV → AHeap → Prop), pt (fun r => Kk r H) → ACalls Try.prog 55 args H Kk := by
  intro args pt h H Kk hk
  unfold eVerd at h
  split at h
  · cases h
    obtain ⟨m, N, rfl, rfl, h1, h2, h3, h4, h5⟩ := hk
    exact p55 C hC _ _ _ h1 h2 h3 h4 H (h5 _ rfl)
  · cases h
theorem p37 (C : List Mrk → Int → Int → Prop) (hC : CovOk C) (rs : List Rch) (a b c need h0 : Int) (l : List Lk) (m : List Mrk) (ho : RoadOk rs) (hs : SgtOk a b c) (hl : l.length ≤ 1000000) (hL : ∀ x ∈ l, LkOk (sumLg rs) x) (hm : m.length ≤ 1000000) (hCm : C m h0 (sumLg rs)) (hh : 0 ≤ h0 ∧ h0 ≤ 10000) (H : AHeap) {Kk : AV → AHeap → Prop}
    (h : Kk (.vs 1 (((List.range (plc rs).length).map (whyS (plc rs) a b c l m need h0)).map I)) H) : ACalls Try.prog 37 [grV (.vs 5 (rs.map rcV)) a b c (.vs 1 ((slL (plc rs)).map I)) (.vs 5 ((plc rs).map rcV)), .vs 5 (l.map lkV), .vs 5 (m.map mkV), I need, I h0] H Kk := by
  refine (fun q => pureF (by rfl) (by rfl) q H h) ?_
  clear h
  intro Kk h
  have hg := grIs rs
  obtain ⟨xs, hxs⟩ : ∃ xs, xs = rs.map rcV := ⟨_, rfl⟩
  obtain ⟨ws, hws⟩ : ∃ ys, ys = (slL (plc rs)).map I := ⟨_, rfl⟩
  obtain ⟨zs, hzs⟩ : ∃ zs, zs = (plc rs).map rcV := ⟨_, rfl⟩
  rw [← hxs, ← hws, ← hzs] at hg ⊢
  obtain ⟨ls, hls⟩ : ∃ ys, ys = l.map lkV := ⟨_, rfl⟩
  rw [← hls]
  obtain ⟨ms, hms⟩ : ∃ ys, ys = m.map mkV := ⟨_, rfl⟩
  rw [← hms]
  have hRl := ho.ilen
  have hpos := ho.pos
  have hle := ho.le'
  obtain ⟨R, hR⟩ : ∃ R, R = plc rs := ⟨_, rfl⟩
  rw [← hR] at h hRl hpos hle
  obtain ⟨N, hN⟩ : ∃ N, N = R.length := ⟨_, rfl⟩
  rw [← hN] at hRl h hpos hle
  obtain ⟨W, hW⟩ : ∃ W, W = whyS R a b c l m need h0 := ⟨_, rfl⟩
  rw [← hW] at h
  obtain ⟨VS, hVS⟩ : ∃ v, v = verdS m h0 (iLen N) := ⟨_, rfl⟩
  obtain ⟨SS, hSS⟩ : ∃ v, v = staleS R a b c l h0 := ⟨_, rfl⟩
  have hWp : ∀ p, W p = if (knowS R l p h0).1 < need then 1 else if VS p ≠ 2 then 2 else if SS p = true then 3 else 0 := fun p => by rw [hW, hVS, hSS, hN]; rfl
  clear hW
  obtain ⟨F, hF⟩ : ∃ F, F = Frees 0 Kk := ⟨_, rfl⟩
  rw [← hF]
  obtain ⟨WF, hWF⟩ : ∃ f : Nat → List AV, f = fun k => rowI N fun q => if q < k then W q else 0 := ⟨_, rfl⟩
  have hend : ∀ X, F (aTup [.ms 1 1 0 0 N]) [X, .own 0 (WF N)] := by
    intro X
    rw [hF, hWF]
    have e : (rowI N fun q => if q < N then W q else 0) = ((List.range N).map W).map I := by
      rw [show (rowI N fun q => if q < N then W q else 0) = rowI N W from rowA_congr fun q hq => by dsimp only; rw [if_pos hq]]; exact rowA_map
    dsimp only
    rw [e]
    refine Frees.frz 1 0 1 (((List.range N).map W).map I) rfl (Elems_I _) ?_
    have e2 : AV.frz 1 0 1 (((List.range N).map W).map I) (aTup [.ms 1 1 0 0 N]) = .vs 1 (((List.range N).map W).map I) := frz_self (by simp)
    rw [e2]
    exact Frees.drop0 h rfl
  obtain ⟨A, hA⟩ : ∃ A, A = std := ⟨_, rfl⟩
  have hsg : ∀ g, A.sg g g := by subst hA; exact fun _ => rfl
  have hv : A.vlen zs = iLen N := by subst hA; rw [hzs, hN, hR]; simp [std]
  have hmk : A.mkz 1 8 [.int .i64 0] (A.vlen zs) (A.vlen zs) (WF 0) N := by
    rw [hv]; subst hA; rw [hWF]
    have := mkS_rowA (by_ := 8) (z := .int .i64 0) (ln := iLen N) (D := N) rfl (by omega) (by omega)
    have e : (rowI N fun q => if q < 0 then W q else 0) = rowA N fun _ => I 0 := rowA_congr fun q hq => by dsimp only; rw [if_neg (Nat.not_lt_zero _)]
    dsimp only; rw [e]
    exact this
  obtain ⟨c0, hc0⟩ : ∃ x, x = WF 0 := ⟨_, rfl⟩
  rw [← hc0] at hmk
  refine go37 rfl (SGo_run hA ⟨[1], [], (54, eStale) :: (55, eVerd C) :: [], []⟩ (.cons eStale_ok (.cons (eVerd_ok hC) .nil)) .nil 200 fun T TD hT hTD => ?_)
  cbv
  refine Exists.intro c0 (Exists.intro N (And.intro hmk ?_)); cbv
  refine Exists.intro rs (Exists.intro l (And.intro hg (And.intro hls (And.intro ho (And.intro hs (And.intro hl (And.intro hL (And.intro hh ?_)))))))) 
  intro sl hsl; cbv
  have hlen : A.len N = iLen N := by subst hA; rfl
  refine And.intro (hsg _) (Exists.intro m (Exists.intro N (And.intro hms (And.intro hlen (And.intro ?_ (And.intro hm (And.intro hle (And.intro hpos ?_))))))))
  · show C m h0 (A.len N); rw [hlen, hRl]; exact hCm
  intro vl hvl; cbv
  have hvl3 : vl = ((List.range N).map VS).map I := by rw [hVS, ← hlen]; exact hvl
  clear hvl
  have hsl3 : sl = ((List.range N).map SS).map B := by rw [hsl, hSS, hN, hR]; rfl
  clear hsl
  refine And.intro (hsg _) ?_
  rw [hT]
  refine AGo_upE [1, 3, 4, 5, 11, 12, 13, 29] N (fun j (_ : Unit) => True) (fun j _ i => [(30, I i)]) (fun j _ => [.own 0 [.vs 5 xs, I a, I b, I c, .vs 1 ws, .vs 5 zs], .own 0 (WF j)]) () trivial ⟨rfl, trivial⟩ (.inl (by rw [hc0])) fun j _ i hi hj hP Bk hB => ?_
  have hlt : A.lt i (A.len N) = decide (j < N) := by rw [hlen]; subst hA; simp only [std, iLt]; rw [decide_eq_decide, hi]; unfold iLen; omega
  have hadd : ∀ N, j < N → N ≤ 9223372036854775807 → A.add .i64 i 1 = iLen (j + 1) := fun N hj hN => by subst hA; exact add_one hi hj hN
  obtain ⟨c1, hc1⟩ : ∃ x, x = WF j := ⟨_, rfl⟩
  rw [← hc1]
  refine SGo_run hA ⟨[1], [], (47, eKnowG) :: [], []⟩ (.cons eKnowG_ok .nil) .nil 200 fun T TD hT hTD => ?_
  cbv
  split <;> cbv
  · rename_i hk0
    have hk1 : j < N := by have hz := hlt.symm.trans hk0; simpa using hz
    clear hk0
    have hib : 0 ≤ i ∧ i < sumLg rs := by rw [← hRl, hi]; unfold iLen; omega
    have hij : i.toNat = j := by rw [hi]; rfl
    refine Exists.intro rs (Exists.intro l (And.intro hg (And.intro hls (And.intro ho (And.intro hl (And.intro hL (And.intro hib (And.intro hh ?_))))))))
    intro u v huv; cbv
    have hu : (knowS R l j h0).1 = u := by rw [← hij, hR, ← huv]
    have hlt2 : A.lt u need = decide (u < need) := by subst hA; rfl
    have hixj : A.ixm 1 1 0 N i j := by subst hA; exact ixm1 hi hk1
    have hWj := hWp j
    rw [hu] at hWj
    obtain ⟨c2, hc2⟩ : ∃ x, x = WF (j + 1) := ⟨_, rfl⟩
    have hup : ∀ y, W j = y → A.upd 1 c1 j [I y] c2 := fun y hy => by
      subst hA; rw [hc1, hc2, hWF]
      refine updS_rowA hk1 fun q _ => ?_
      dsimp only
      by_cases h1 : q = j
      · subst h1; rw [if_pos rfl, if_pos (by omega), hy]
      · rw [if_neg h1]
        by_cases h2 : q < j
        · rw [if_pos h2, if_pos (by omega)]
        · rw [if_neg h2, if_neg (by omega)]
    have hsame : W j = 0 → c1 = c2 := fun hy => by
      rw [hc1, hc2, hWF]
      refine rowA_congr fun q _ => ?_
      dsimp only
      by_cases h1 : q = j
      · subst h1; rw [if_neg (Nat.lt_irrefl _), if_pos (by omega), hy]
      · by_cases h2 : q < j
        · rw [if_pos h2, if_pos (by omega)]
        · rw [if_neg h2, if_neg (by omega)]
    have hfin : ∀ e', Fits e' [(30, I (A.add .i64 i 1))] → Fits e' (keepS [1, 3, 4, 5, 11, 12, 13, 29] [(30, I i), (1, .vs 5 ls), (3, I need), (4, I h0), (5, .mp 0 0 0), (11, .ms 1 1 0 0 N), (12, .vs 1 sl), (13, .vs 1 vl), (29, I (A.len N))]) →
        Bk e' [.own 0 [.vs 5 xs, I a, I b, I c, .vs 1 ws, .vs 5 zs], .own 0 c2] := fun e' hf hk => by
      rw [hadd _ hk1 (by omega)] at hf
      exact hB () _ _ hk1 trivial hf hk (.inl (by rw [hc2]))
    clear hB
    split <;> cbv
    · rename_i hz
      have hz := of_decide_eq_true (hlt2.symm.trans hz)
      rw [if_pos hz] at hWj
      refine And.intro (hsg _) (Exists.intro j (And.intro hixj ?_)); cbv
      refine And.intro (hsg _) (Exists.intro c2 (And.intro (hup _ hWj) ?_)); cbv
      exact hfin _ ⟨rfl, trivial⟩ ⟨rfl, rfl, rfl, rfl, rfl, rfl, rfl, rfl, trivial⟩
    rename_i hz
    have hz := of_decide_eq_false (hlt2.symm.trans hz)
    rw [if_neg hz] at hWj
    obtain ⟨v1, hv1⟩ : ∃ v, v = VS j := ⟨_, rfl⟩
    obtain ⟨s1, hs1⟩ : ∃ v, v = SS j := ⟨_, rfl⟩
    rw [← hv1, ← hs1] at hWj
    have hixv : A.ix 1 1 vl i [I v1] := by subst hA; exact ix_map hvl3 hi (by rw [hv1]; simp [hk1]) rfl
    have hixs : A.ix 1 1 sl i [B s1] := by subst hA; exact ix_map hsl3 hi (by rw [hs1]; simp [hk1]) rfl
    have hne2 : A.ne v1 2 = decide (v1 ≠ 2) := by subst hA; simp only [std, iNe]; rw [Bool.eq_iff_iff]; simp
    refine Exists.intro _ (And.intro hixv ?_); cbv
    split <;> cbv
    · rename_i hz2
      have hz2 := of_decide_eq_true (hne2.symm.trans hz2)
      rw [if_pos hz2] at hWj
      refine And.intro (hsg _) (Exists.intro j (And.intro hixj ?_)); cbv
      refine And.intro (hsg _) (Exists.intro c2 (And.intro (hup _ hWj) ?_)); cbv
      exact hfin _ ⟨rfl, trivial⟩ ⟨rfl, rfl, rfl, rfl, rfl, rfl, rfl, rfl, trivial⟩
    rename_i hz2
    have hz2 := of_decide_eq_false (hne2.symm.trans hz2)
    rw [if_neg hz2] at hWj
    refine Exists.intro _ (And.intro hixs ?_); cbv
    clear hixs hs1
    cases s1 with
    | true =>
      cbv
      refine And.intro (hsg _) (Exists.intro j (And.intro hixj ?_)); cbv
      refine And.intro (hsg _) (Exists.intro c2 (And.intro (hup _ hWj) ?_)); cbv
      exact hfin _ ⟨rfl, trivial⟩ ⟨rfl, rfl, rfl, rfl, rfl, rfl, rfl, rfl, trivial⟩
    | false =>
      cbv
      rw [hsame hWj]
      exact hfin _ ⟨rfl, trivial⟩ ⟨rfl, rfl, rfl, rfl, rfl, rfl, rfl, rfl, trivial⟩
  · rename_i hk0
    have hk1 : ¬ j < N := by have hz := hlt.symm.trans hk0; simpa using hz
    clear hk0
    rw [hc1, show j = N by omega]
    exact hend _
end Go.Sas
namespace Go.Sas
open Go.Proofs
set_option maxRecDepth 100000
def eReasons (C : List Mrk → Int → Int → Prop) : List AV → Option ((AV → Prop) → Prop)
  | [.agg [.vs 5 xs, .lit (.int .i64 a), .lit (.int .i64 b), .lit (.int .i64 c), .vs 1 ws, .vs 5 zs], .vs 5 ls, .vs 5 ms, .lit (.int .i64 need), .lit (.int .i64 t)] =>
    some fun K => ∃ (rs : List Rch) (l : List Lk) (m : List Mrk), GrIs rs xs ws zs ∧ ls = l.map lkV ∧ ms = m.map mkV ∧ RoadOk rs ∧ SgtOk a b c ∧ l.length ≤ 1000000 ∧ (∀ x ∈ l, LkOk (sumLg rs) x) ∧ m.length ≤ 1000000 ∧ C m t (sumLg rs) ∧ (0 ≤ t ∧ t ≤ 10000) ∧
      ∀ N V ys, N = (plc rs).length → V = whyS (plc rs) a b c l m need t → ys = ((List.range N).map V).map I → K (.vs 1 ys)
  | _ => none
theorem eReasons_ok {C : List Mrk → Int → Int → Prop} (hC : CovOk C) : ∀ args pt, eReasons C args = some pt → ∀ (H : AHeap) (Kk : AV → AHeap → Prop), pt (fun r => Kk r H) → ACalls Try.prog 37 args H Kk := by
  intro args pt h H Kk hk
  unfold eReasons at h
  split at h
  · cases h
    obtain ⟨rs, l, m, ⟨rfl, rfl, rfl⟩, rfl, rfl, h1, h2, h3, h4, h5, h6, h7, h8⟩ := hk
    exact p37 C hC _ _ _ _ _ _ _ _ h1 h2 h3 h4 h5 h6 h7 H (h8 _ _ _ rfl rfl rfl)
  · cases h
abbrev cloV (x : Nat × Nat × Int) : AV := .agg [I (iLen x.1), I (iLen x.2.1), I x.2.2]
def closeL (rs : List Rch) (a b c : Int) (l : List Lk) (m : List Mrk) (need h : Int) : List (Nat × Nat × Int) :=
  if askE rs a b c l m need h = 0 then cloS (whyS (plc rs) a b c (pastL l h) (pastM m h) need h) (plc rs).length else []
theorem p24 (C : List Mrk → Int → Int → Prop) (hC : CovOk C) (rs : List Rch) (a b c : Int) (l : List Lk) (m : List Mrk) (need h0 : Int) (h1 : rs.length ≤ 9223372036854775807) (h2 : l.length ≤ 9223372036854775807) (h3 : m.length ≤ 9223372036854775807) (hCm : askE rs a b c l m need h0 = 0 → C (pastM m h0) h0 (sumLg rs)) (H : AHeap) {Kk : AV → AHeap → Prop}
    (h : Kk (.tup [.vs 3 ((closeL rs a b c l m need h0).map cloV), I (askE rs a b c l m need h0)]) H) : ACalls Try.prog 24 [svV (.vs 5 (rs.map rcV)) a b c, .vs 5 (l.map lkV), .vs 5 (m.map mkV), I need, I h0] H Kk := by
  have hnr := nidL_rc rs
  refine (fun q => pureF (by simp [AV.nidL, AV.nid, hnr, nidL_map (g := lkV) (fun _ => rfl) l, nidL_map (g := mkV) (fun _ => rfl) m]) (by simp [AV.nidL, AV.nid, nidL_map (g := cloV) (fun _ => rfl)]) q H h) ?_
  clear h
  intro Kk h
  obtain ⟨xs, hxs⟩ : ∃ xs, xs = rs.map rcV := ⟨_, rfl⟩
  rw [← hxs]
  obtain ⟨ls, hls⟩ : ∃ ys, ys = l.map lkV := ⟨_, rfl⟩
  rw [← hls]
  obtain ⟨ms, hms⟩ : ∃ ys, ys = m.map mkV := ⟨_, rfl⟩
  rw [← hms]
  obtain ⟨E, hE⟩ : ∃ E, E = askE rs a b c l m need h0 := ⟨_, rfl⟩
  rw [← hE] at h
  obtain ⟨F, hF⟩ : ∃ F, F = Frees 0 Kk := ⟨_, rfl⟩
  rw [← hF]
  have hw : ∀ H1, E ≠ 0 → F (.tup [NS, I E]) H1 := fun H1 h0 => by
    unfold closeL at h; rw [← hE, if_neg h0] at h
    rw [hF]
    exact Frees.wk (r' := .tup [.vs 3 [], I E]) (Wk.tup ⟨Wk.nil, Wk.rfl, trivial⟩) (Frees.drop0 h rfl)
  have hg : E = 0 → ∀ n cs V, V = whyS (plc rs) a b c (pastL l h0) (pastM m h0) need h0 → n = (cloS V (plc rs).length).length → cs = (cloS V (plc rs).length).flatMap cloC → ∀ X0 X1, F (.tup [.ms 3 3 n 0 n, I 0]) [X0, X1, .own 0 [.ms 3 3 n 0 n], .own n cs] := fun h0 n cs V hV hn hcs X0 X1 => by
    unfold closeL at h; rw [← hE, if_pos h0, h0, ← hV] at h
    rw [hF, hcs]
    refine Frees.frz 3 n 3 ((cloS V (plc rs).length).map cloV) rfl (Elems_map (f := cloV) (g := cloC) (sz := 3) (fun _ => rfl) (fun _ => rfl) (fun _ => rfl) _) ?_
    have e : AV.frz 3 n 3 ((cloS V (plc rs).length).map cloV) (.ms 3 3 n 0 n) = .vs 3 ((cloS V (plc rs).length).map cloV) := frz_self (by simp [hn])
    have e2 : AV.frz 3 n 3 ((cloS V (plc rs).length).map cloV) (.tup [.ms 3 3 n 0 n, I 0]) = .tup [.vs 3 ((cloS V (plc rs).length).map cloV), I 0] := by
      show AV.tup [AV.frz 3 n 3 ((cloS V (plc rs).length).map cloV) (.ms 3 3 n 0 n), I 0] = _
      rw [e]
    rw [e2]
    exact Frees.drop0 h (by simp [AV.nidL, AV.nid, nidL_map (g := cloV) (fun _ => rfl)])
  obtain ⟨A, hA⟩ : ∃ A, A = std := ⟨_, rfl⟩
  have hsg : ∀ g, A.sg g g := by subst hA; exact fun _ => rfl
  have hne : ∀ x, A.ne x 0 = decide (x ≠ 0) := by subst hA; intro x; simp only [std, iNe]; rw [Bool.eq_iff_iff]; simp
  refine go24 rfl (SGo_run hA ⟨[], [], (35, eAsked) :: [], []⟩ (.cons eAsked_ok .nil) .nil 200 fun T TD hT hTD => ?_)
  cbv
  refine Exists.intro rs (Exists.intro l (Exists.intro m (And.intro hxs (And.intro hls (And.intro hms (And.intro h1 (And.intro h2 (And.intro h3 (And.intro ?_ ?_)))))))))
  · intro e a1 a2 a3 a4 a5 a6 x y he h0 _ _ _; cbv
    split <;> cbv
    · rw [← hE] at he; rw [he] at h0 ⊢; exact hw _ h0
    · rename_i hz; exact absurd (of_decide_eq_false ((hne e).symm.trans hz)) (fun h => h h0)
  intro hE0 ys zs la ma hgr hla hma; cbv
  split <;> cbv
  · rename_i hz; exact absurd rfl (of_decide_eq_true ((hne 0).symm.trans hz))
  obtain ⟨ho, hs, hlo, hm1, hm2, _, hh⟩ := askE_ok.1 hE0
  have hll := hlo.le
  have hpn := ho.le'
  have hE3 : E = 0 := hE.trans hE0
  have hg := hg hE3
  clear hw
  rw [hT]
  refine AGo_nilcell 2 0 3 rfl rfl ?_
  refine SGo_run hA ⟨[], [], (37, eReasons C) :: [], (36, eJoinC) :: []⟩ (.cons (eReasons_ok hC) .nil) (.cons eJoinC_ok .nil) 200 fun T TD hT hTD => ?_
  cbv
  refine Exists.intro rs (Exists.intro (pastL l h0) (Exists.intro (pastM m h0) (And.intro hgr (And.intro hla (And.intro hma (And.intro ho (And.intro hs (And.intro ?_ (And.intro ?_ (And.intro ?_ (And.intro (hCm hE0) (And.intro hh ?_))))))))))))
  · have := pastL_len (l := l) (h := h0); omega
  · exact fun x hx => hlo.all' ho x (pastL_mem hx)
  · have := pastM_len (l := m) (h := h0); omega
  intro N V vs hN hV hvs; cbv
  rw [← hN] at hpn
  refine Exists.intro V (Exists.intro N (And.intro hvs (And.intro hpn (And.intro (by decide) ?_))))
  intro n cs hn hcs; cbv
  rw [hN] at hn hcs
  exact hg n cs V hV hn hcs _ _
def eClose (C : List Mrk → Int → Int → Prop) : List AV → Option ((AV → Prop) → Prop)
  | [.agg [.vs 5 xs, .lit (.int .i64 a), .lit (.int .i64 b), .lit (.int .i64 c)], .vs 5 ls, .vs 5 ms, .lit (.int .i64 need), .lit (.int .i64 h)] =>
    some fun K => ∃ (rs : List Rch) (l : List Lk) (m : List Mrk), xs = rs.map rcV ∧ ls = l.map lkV ∧ ms = m.map mkV ∧ rs.length ≤ 9223372036854775807 ∧ l.length ≤ 9223372036854775807 ∧ m.length ≤ 9223372036854775807 ∧
      (askE rs a b c l m need h = 0 → C (pastM m h) h (sumLg rs)) ∧ ∀ e ys, e = askE rs a b c l m need h → ys = (closeL rs a b c l m need h).map cloV → K (.tup [.vs 3 ys, I e])
  | _ => none
theorem eClose_ok {C : List Mrk → Int → Int → Prop} (hC : CovOk C) : ∀ args pt, eClose C args = some pt → ∀ (H : AHeap) (Kk : AV → AHeap → Prop), pt (fun r => Kk r H) → ACalls Try.prog 24 args H Kk := by
  intro args pt h H Kk hk
  unfold eClose at h
  split at h
  · cases h
    obtain ⟨rs, l, m, rfl, rfl, rfl, h1, h2, h3, h4, h5⟩ := hk
    exact p24 C hC _ _ _ _ _ _ _ _ h1 h2 h3 h4 H (h5 _ _ rfl rfl)
  · cases h
end Go.Sas
namespace Go.Sas
open Go.Proofs
set_option maxRecDepth 100000
theorem wrapU_bnd (n : Int) : 0 ≤ IntKind.u64.wrap n ∧ IntKind.u64.wrap n < 18446744073709551616 := by
  simp [IntKind.wrap, IntKind.signed, IntKind.bits]
  omega
theorem iXorU_bnd (a b : Int) : 0 ≤ iXor .u64 a b ∧ iXor .u64 a b < 18446744073709551616 := wrapU_bnd _
theorem shr1 {a : Int} : iShr .u64 a 1 = a / 2 := by
  simp [iShr, IntKind.bits]
  exact Int.fdiv_eq_ediv_of_nonneg _ (by omega)
theorem d18 : Draws Try.prog 18 [] fun r => ∃ n, r = U n ∧ 0 ≤ n ∧ n < 18446744073709551616 := by
  refine .of rfl (by rintro r ⟨n, rfl, _⟩; rfl) fun w Kk h => ?_
  obtain ⟨A, hA⟩ : ∃ A, A = std := ⟨_, rfl⟩
  obtain ⟨F, hF⟩ : ∃ F : AV → AHeap → Prop, F = Kk := ⟨_, rfl⟩
  rw [← hF]
  refine go18 rfl (SGo_run hA ⟨[], [], [], []⟩ .nil .nil 200 fun T TD hT hTD => ?_)
  clear hT hTD
  cbv
  subst hF
  refine h _ _ ⟨_, rfl, ?_⟩
  subst hA
  exact iXorU_bnd _ _
theorem sNext_ok : ∀ rest pre Q, sNext rest = some (pre, Q) → pre () → Draws Try.prog 18 rest Q := by
  intro rest pre Q h hp
  unfold sNext at h
  split at h
  · cases h; exact d18
  · cases h
/-- below a number -/
theorem d11 (n : Int) (hn : n ≤ 9223372036854775807) : Draws Try.prog 11 [I n] fun r => ∃ k, r = I k ∧ 0 ≤ k ∧ (k < n ∨ k = 0) := by
  refine .of rfl (by rintro r ⟨n, rfl, _⟩; rfl) fun w Kk h => ?_
  obtain ⟨A, hA⟩ : ∃ A, A = std := ⟨_, rfl⟩
  refine go11 rfl (SGo_run hA ⟨[], [], [], [(18, eDraw sNext)]⟩ .nil (.cons (eDraw_ok sNext_ok) .nil) 200 fun T TD hT hTD => ?_)
  clear hT hTD
  cbv
  split <;> cbv
  · exact h _ _ ⟨0, rfl, by omega, .inr rfl⟩
  · rename_i hq
    have hq : ¬ n < 2 := by have hq : A.lt n 2 = false := hq; subst hA; simpa [std, iLt] using hq
    refine Exists.intro () (And.intro trivial ?_)
    rintro w' _ ⟨k, rfl, hk1, hk2⟩
    cbv
    have hcv : A.cv .u64 n = n := by
      subst hA
      show IntKind.u64.wrap n = n
      simp [IntKind.wrap, IntKind.signed, IntKind.bits]; omega
    refine And.intro (by show A.nz (A.cv .u64 n); rw [hcv]; subst hA; show n ≠ 0; omega) ?_
    refine h _ _ ⟨_, rfl, ?_⟩
    have hr : A.rem .u64 (A.shr .u64 k 1) (A.cv .u64 n) = (k / 2) % n := by
      rw [hcv]; subst hA
      simp only [std, shr1, iRem]
      rw [Int.tmod_eq_emod_of_nonneg (by omega)]
    show 0 ≤ A.cv .i64 (A.rem .u64 (A.shr .u64 k 1) (A.cv .u64 n)) ∧ (A.cv .i64 (A.rem .u64 (A.shr .u64 k 1) (A.cv .u64 n)) < n ∨ A.cv .i64 (A.rem .u64 (A.shr .u64 k 1) (A.cv .u64 n)) = 0)
    rw [hr]
    have h1 : 0 ≤ (k / 2) % n := Int.emod_nonneg _ (by omega)
    have h2 : (k / 2) % n < n := Int.emod_lt_of_pos _ (by omega)
    have h3 : A.cv .i64 ((k / 2) % n) = (k / 2) % n := by subst hA; exact wrap_id (by omega) (by omega)
    rw [h3]
    exact ⟨h1, .inl h2⟩
theorem sBelow_ok : ∀ rest pre Q, sBelow rest = some (pre, Q) → pre () → Draws Try.prog 11 rest Q := by
  intro rest pre Q h hp
  unfold sBelow at h
  split at h
  · cases h; exact d11 _ hp
  · cases h
def ed1 : ETab := [(11, eDraw sBelow)]
theorem ed1_ok : ETabOk Try.prog ed1 := .cons (eDraw_ok sBelow_ok) .nil
theorem d10 (a b : Int) (ha : -1000000000000 ≤ a ∧ a ≤ 1000000000000) (hb : -1000000000000 ≤ b ∧ b ≤ 1000000000000) : Draws Try.prog 10 [I a, I b] fun r => ∃ k, r = I k ∧ a ≤ k ∧ (k ≤ b ∨ k = a) := by
  refine .of rfl (by rintro r ⟨n, rfl, _⟩; rfl) fun w Kk h => ?_
  obtain ⟨A, hA⟩ : ∃ A, A = std := ⟨_, rfl⟩
  refine go10 rfl (SGo_run hA ⟨[], [], [], ed1⟩ .nil ed1_ok 200 fun T TD hT hTD => ?_)
  clear hT hTD
  have hd : A.add .i64 (A.sub .i64 b a) 1 = b - a + 1 := by subst hA; simp only [std]; rw [iSub_id (by omega) (by omega), iAdd_id (by omega) (by omega)]
  cbv
  refine Exists.intro () (And.intro (by show A.add .i64 (A.sub .i64 b a) 1 ≤ _; rw [hd]; omega) ?_)
  rintro w' _ ⟨k, rfl, hk1, hk2⟩
  have hk2 : k < A.add .i64 (A.sub .i64 b a) 1 ∨ k = 0 := hk2
  rw [hd] at hk2
  cbv
  have hr : A.add .i64 a k = a + k := by subst hA; exact iAdd_id (by omega) (by omega)
  refine h _ _ ⟨_, rfl, ?_⟩
  show a ≤ A.add .i64 a k ∧ (A.add .i64 a k ≤ b ∨ A.add .i64 a k = a)
  rw [hr]; omega
theorem sFrom_ok : ∀ rest pre Q, sFrom rest = some (pre, Q) → pre () → Draws Try.prog 10 rest Q := by
  intro rest pre Q h hp
  unfold sFrom at h
  split at h
  · cases h; exact d10 _ _ hp.1 hp.2
  · cases h
theorem d23 (n : Int) (hn : n ≤ 9223372036854775807) : Draws Try.prog 23 [I n] fun r => ∃ b, r = B b := by
  refine .of rfl (by rintro r ⟨n, rfl⟩; rfl) fun w Kk h => ?_
  obtain ⟨A, hA⟩ : ∃ A, A = std := ⟨_, rfl⟩
  refine go23 rfl (SGo_run hA ⟨[], [], [], ed1⟩ .nil ed1_ok 200 fun T TD hT hTD => ?_)
  clear hT hTD
  cbv
  refine Exists.intro () (And.intro hn ?_)
  rintro w' _ ⟨k, rfl, hk1, hk2⟩
  cbv
  exact h _ _ ⟨_, rfl⟩
theorem sYes_ok : ∀ rest pre Q, sYes rest = some (pre, Q) → pre () → Draws Try.prog 23 rest Q := by
  intro rest pre Q h hp
  unfold sYes at h
  split at h
  · cases h; exact d23 _ hp
  · cases h
theorem d19 (xs : List AV) (h0 : xs ≠ []) (hl : xs.length < 1000000) (hI : AllI xs) : Draws Try.prog 19 [.vs 1 xs] fun r => ∃ k, r = I k ∧ I k ∈ xs := by
  refine .of rfl (by rintro r ⟨n, rfl, _⟩; rfl) fun w Kk h => ?_
  obtain ⟨A, hA⟩ : ∃ A, A = std := ⟨_, rfl⟩
  have hv : A.vlen xs = iLen xs.length := by subst hA; rfl
  refine go19 rfl (SGo_run hA ⟨[], [], [], ed1⟩ .nil ed1_ok 200 fun T TD hT hTD => ?_)
  clear hT hTD
  cbv
  have hpos : 0 < xs.length := List.length_pos_iff.2 h0
  split <;> cbv
  · rename_i hq
    exfalso
    have hq : A.eq (A.vlen xs) 0 = true := hq
    rw [hv] at hq
    subst hA
    simp only [std, iEq, beq_iff_eq, iLen] at hq
    omega
  · refine Exists.intro () (And.intro (by show A.vlen xs ≤ _; rw [hv]; unfold iLen; omega) ?_)
    rintro w' _ ⟨k, rfl, hk1, hk2⟩
    have hk2 : k < A.vlen xs ∨ k = 0 := hk2
    rw [hv] at hk2
    have hk3 : k.toNat < xs.length := by unfold iLen at hk2; omega
    obtain ⟨x, hx⟩ : ∃ x, xs[k.toNat]? = some x := ⟨_, List.getElem?_eq_getElem hk3⟩
    have hm := List.mem_of_getElem? hx
    obtain ⟨n, rfl⟩ := hI x hm
    cbv
    refine Exists.intro [I n] (And.intro (by subst hA; exact ⟨rfl, hk1, _, hx, rfl⟩) ?_)
    cbv
    exact h _ _ ⟨_, rfl, hm⟩
theorem sOf_ok : ∀ rest pre Q, sOf rest = some (pre, Q) → pre () → Draws Try.prog 19 rest Q := by
  intro rest pre Q h hp
  unfold sOf at h
  split at h
  · split at h
    · rename_i xs hx
      cases h
      intro w id H hH Kk hk
      exact (d19 xs hp.1 hp.2.1 hp.2.2 w id H hH Kk hk).wk ⟨Wk.rfl, asVs_wk hx, trivial⟩
    · cases h
  · cases h
def ed2 : ETab := [(11, eDraw sBelow), (10, eDraw sFrom), (19, eDraw sOf), (23, eDraw sYes)]
theorem ed2_ok : ETabOk Try.prog ed2 := .cons (eDraw_ok sBelow_ok) (.cons (eDraw_ok sFrom_ok) (.cons (eDraw_ok sOf_ok) (.cons (eDraw_ok sYes_ok) .nil)))
theorem AllI_lits {l : List Int} : AllI (l.map I) := by
  intro x hx
  obtain ⟨n, _, rfl⟩ := List.mem_map.1 hx
  exact ⟨n, rfl⟩
def ed3 : ETab := ed2
theorem ed3_ok : ETabOk Try.prog ed3 := ed2_ok
theorem p4 (l : List Int) (hl : l.length ≤ 9223372036854775807) (H : AHeap) {Kk : AV → AHeap → Prop} (h : ∀ w, Kk (.mp H.length 0 0) (H ++ [.own 0 [U w]])) : ACalls Try.prog 4 [.vs 1 (l.map I)] H Kk := by
  have h1 : ACalls Try.prog 4 [.vs 1 (l.map I)] [] fun r H' => ∃ w, r = .mp 0 0 0 ∧ H' = [.own 0 [U w]] := by
    clear h Kk
    obtain ⟨Kk, hKk⟩ : ∃ K : AV → AHeap → Prop, K = fun r H' => ∃ w, r = .mp 0 0 0 ∧ H' = [.own 0 [U w]] := ⟨_, rfl⟩
    rw [← hKk]
    have hk : ∀ w, Kk (.mp 0 0 0) [.own 0 [U w]] := fun w => by rw [hKk]; exact ⟨w, rfl, rfl⟩
    clear hKk
    obtain ⟨xs, hxs⟩ : ∃ xs, xs = l.map I := ⟨_, rfl⟩
    rw [← hxs]
    obtain ⟨A, hA⟩ : ∃ A, A = std := ⟨_, rfl⟩
    refine go4 rfl (SGo_run hA ⟨[], [], [], [(18, eDraw sNext)]⟩ .nil (.cons (eDraw_ok sNext_ok) .nil) 200 fun T TD hT hTD => ?_)
    cbv
    rw [hT]
    refine AGo_upS l.length (fun _ (_ : Int) => True) (fun _ _ i => [(0, .vs 1 xs), (3, .mp 0 0 0), (4, I i)]) (fun _ w => [.own 0 [U w]]) 1 trivial ⟨rfl, rfl, rfl, trivial⟩ (.inl rfl) fun j w i hi hj _ Bk hB => ?_
    have hlt : A.lt i (A.vlen xs) = decide (j < l.length) := by subst hA; exact lt_len (by simp [hxs]) hi
    have hadd : ∀ N, j < N → N ≤ 9223372036854775807 → A.add .i64 i 1 = iLen (j + 1) := fun N hj hN => by subst hA; exact add_one hi hj hN
    refine SGo_run hA ⟨[], [], [], [(18, eDraw sNext)]⟩ .nil (.cons (eDraw_ok sNext_ok) .nil) 200 fun T TD hT hTD => ?_
    cbv
    split <;> cbv
    · rename_i hk1
      have hk1 : j < l.length := by have := hlt.symm.trans hk1; simpa using this
      obtain ⟨x, hx⟩ : ∃ x, l[j]? = some x := ⟨_, List.getElem?_eq_getElem hk1⟩
      have hix : A.ix 1 1 xs i [I x] := by subst hA; exact ix_map hxs hi hx rfl
      refine Exists.intro _ (And.intro hix ?_)
      cbv
      refine Exists.intro () (And.intro trivial ?_)
      rintro w2 _ ⟨q, rfl, _, _⟩
      cbv
      exact hB w2 _ _ hk1 trivial ⟨rfl, rfl, congrArg I (hadd _ hk1 (by omega)), trivial⟩ (.inl rfl)
    · exact hk w
  have h2 := ACalls.frame (H := H) [] h1 List.nodup_nil rfl (AV.ltL_nid (by rfl)) (by simp [ltH]) (fun k X hk => by simp at hk)
  rw [AV.renL_nid (by rfl)] at h2
  refine h2.mono fun r H' hx => ?_
  obtain ⟨r0, H1, ⟨w, rfl, rfl⟩, _, rfl, rfl⟩ := hx
  simpa [merge, updL, AObj.ren, AV.renL, AV.ren, more, at_] using h w
end Go.Sas

namespace Go.Sas
open Go.Proofs
set_option maxRecDepth 100000
def eKnown : List AV → Option ((AV → Prop) → Prop)
  | [.agg [.vs 5 xs, .lit (.int .i64 a), .lit (.int .i64 b), .lit (.int .i64 c)], .vs 5 ls, .lit (.int .i64 p), .lit (.int .i64 t)] =>
    some fun K => ∃ (rs : List Rch) (l : List Lk), xs = rs.map rcV ∧ ls = l.map lkV ∧ rs.length ≤ 9223372036854775807 ∧ l.length ≤ 9223372036854775807 ∧ ∀ u v e, ((u, v), e) = knownR rs a b c l p t → K (.tup [.agg [I u, I v], I e])
  | _ => none
theorem eKnown_ok {f : Nat} (hf : ∀ (rs : List Rch) (a b c p t : Int) (l : List Lk), rs.length ≤ 9223372036854775807 → l.length ≤ 9223372036854775807 → ∀ (H : AHeap) {Kk : AV → AHeap → Prop}, Kk (.tup [.agg [I (knownR rs a b c l p t).1.1, I (knownR rs a b c l p t).1.2], I (knownR rs a b c l p t).2]) H → ACalls Try.prog f [svV (.vs 5 (rs.map rcV)) a b c, .vs 5 (l.map lkV), I p, I t] H Kk) :
    ∀ args pt, eKnown args = some pt → ∀ (H : AHeap) (Kk : AV → AHeap → Prop), pt (fun r => Kk r H) → ACalls Try.prog f args H Kk := by
  intro args pt h H Kk hk
  unfold eKnown at h
  split at h
  · cases h
    obtain ⟨rs, l, rfl, rfl, h1, h2, h3⟩ := hk
    exact hf _ _ _ _ _ _ _ h1 h2 H (h3 _ _ _ rfl)
  · cases h
end Go.Sas
namespace Go.Sas
open Go.Proofs
set_option maxRecDepth 100000
end Go.Sas
namespace Go.Sas
open Go.Proofs
set_option maxRecDepth 100000
/-- a reach made of numbers -/
def RchD (r : Rch) : Prop := 1 ≤ r.lg ∧ (0 ≤ r.sl ∧ r.sl ≤ 300) ∧ (0 ≤ r.th ∧ r.th ≤ 20) ∧ (0 ≤ r.gr ∧ r.gr ≤ 10) ∧ (0 ≤ r.ev ∧ r.ev ≤ 14)
structure SvD (most : Int) (rs : List Rch) (a b c : Int) : Prop where
  all : ∀ r ∈ rs, RchD r
  n1 : 1 ≤ rs.length
  n2 : rs.length ≤ 5
  le : sumLg rs ≤ most
  a : 0 ≤ a ∧ a ≤ 2
  b : 0 ≤ b ∧ b ≤ 2
  c : 0 ≤ c ∧ c ≤ 3
def SvQ (most : Int) (r : AV) : Prop := ∃ (rs : List Rch) (a b c : Int) (xs : List AV), r = svV (.vs 5 xs) a b c ∧ xs = rs.map rcV ∧ SvD most rs a b c
set_option maxHeartbeats 2000000 in
theorem d5 (most : Int) (hm : 1 ≤ most ∧ most ≤ 1000) : Draws Try.prog 5 [I most] (SvQ most) := by
  refine .of rfl (by rintro r ⟨rs, _, _, _, _, rfl, rfl, _⟩; simp [AV.nid, AV.nidL, nidL_rc rs]) fun w Kk h => ACalls.frees ?_
  obtain ⟨A, hA⟩ : ∃ A, A = std := ⟨_, rfl⟩
  have hsg : ∀ g, A.sg g g := by subst hA; exact fun _ => rfl
  obtain ⟨F, hF⟩ : ∃ F, F = Frees 1 Kk := ⟨_, rfl⟩
  rw [show Frees [AObj.own 0 [U w]].length Kk = F from hF.symm]
  refine go5 rfl (SGo_run hA ⟨[], [], [], ed2⟩ .nil ed2_ok 200 fun T TD hT hTD => ?_)
  cbv
  refine Exists.intro () (And.intro (by omega) ?_)
  rintro w1 _ ⟨a, rfl, ha1, ha2⟩
  cbv
  refine Exists.intro () (And.intro (by omega) ?_)
  rintro w2 _ ⟨b, rfl, hb1, hb2⟩
  cbv
  refine Exists.intro () (And.intro (by omega) ?_)
  rintro w3 _ ⟨c, rfl, hc1, hc2⟩
  cbv
  refine Exists.intro () (And.intro (by omega) ?_)
  rintro w4 _ ⟨left, rfl, hl1, hl2⟩
  cbv
  have hl2 : left ≤ most := by omega
  rw [hT]
  refine AGo_nilcell 2 0 5 rfl rfl ?_
  refine AGo_whileE (σ := Int × Int × List Rch) [0, 4, 5] (fun s => s.2.1.toNat) (fun s => 0 ≤ s.2.1 ∧ s.2.1 + sumLg s.2.2 ≤ most ∧ s.2.2.length ≤ 5 ∧ (s.2.2.length = 5 → s.2.1 = 0) ∧ (s.2.2.length = 0 → 1 ≤ s.2.1) ∧ ∀ r ∈ s.2.2, RchD r) (fun s => [(6, I s.2.1)])
    (fun s => [.own 0 [U s.1], .own 0 [NS, I 0, I 0, I 0], .own 0 [.ms 5 3 s.2.2.length 0 s.2.2.length, I a, I b, I c], .own s.2.2.length (s.2.2.flatMap rcC)]) (w4, left, []) ⟨by dsimp only; omega, by simp [sumLg]; omega, by simp, by simp, fun _ => hl1, by simp⟩ ⟨rfl, trivial⟩ (.inl rfl) fun s hP Bk hB => ?_
  obtain ⟨w5, le, rs⟩ := s
  obtain ⟨hP1, hP2, hP3, hP4, hP5, hP6⟩ := hP
  dsimp only at hP1 hP2 hP3 hP4 hP5 hP6 ⊢
  have hsl : 0 ≤ sumLg rs := sumLg_nonneg fun r hr => by have := (hP6 r hr).1; omega
  obtain ⟨n, hn⟩ : ∃ n, n = rs.length := ⟨_, rfl⟩
  obtain ⟨cc, hcc⟩ : ∃ c, c = rs.flatMap rcC := ⟨_, rfl⟩
  rw [← hn, ← hcc]
  rw [← hn] at hP3 hP4 hP5
  have hcl : cc.length = n * 5 := by rw [hcc, hn, len_flat (k := 5) (fun _ => rfl)]
  have hgt : A.lt 0 le = decide (0 < le) := by subst hA; rfl
  have heq : A.eq (A.len n) 4 = decide (n = 4) := by subst hA; show (iLen n == 4) = _; rw [Bool.eq_iff_iff]; unfold iLen; simp; omega
  refine SGo_run hA ⟨[3], [0, 1003], [], ed2⟩ .nil ed2_ok 200 fun T TD hT hTD => ?_
  cbv
  split <;> cbv
  · rename_i hz
    have hz : 0 < le := by have hz := hgt.symm.trans hz; simpa using hz
    refine Exists.intro () (And.intro (by omega) ?_)
    rintro w6 _ ⟨m0, rfl, hm1, hm2⟩
    cbv
    refine And.intro (hsg _) ?_
    cbv
    have hm2 : m0 ≤ le := by omega
    split <;> cbv
    · rename_i hz4
      have hn4 : n = 4 := of_decide_eq_true (heq.symm.trans hz4)
      refine Exists.intro () (And.intro (by omega) ?_)
      rintro w7 _ ⟨q1, rfl, hq1⟩
      cbv
      refine And.intro (by subst hA; first | (simp [std, Keep, SubH, ResK]; done) | exact .inr ⟨⟨rfl, SubH.self _⟩, trivial, .inr fun _ => ⟨rfl, SubH.self _⟩⟩ | exact .inr ⟨SubH.self _, trivial, .inr fun _ => SubH.self _⟩ | exact .inr ⟨by simp [SubH], trivial, .inl rfl⟩ | exact .inr ⟨by simp [SubH], trivial, .inr fun _ => by simp [SubH]⟩) ?_
      cbv
      refine Exists.intro () (And.intro (by omega) ?_)
      rintro w8 _ ⟨q2, rfl, hq2⟩
      cbv
      refine And.intro (by subst hA; first | (simp [std, Keep, SubH, ResK]; done) | exact .inr ⟨⟨rfl, SubH.self _⟩, trivial, .inr fun _ => ⟨rfl, SubH.self _⟩⟩ | exact .inr ⟨SubH.self _, trivial, .inr fun _ => SubH.self _⟩ | exact .inr ⟨by simp [SubH], trivial, .inl rfl⟩ | exact .inr ⟨by simp [SubH], trivial, .inr fun _ => by simp [SubH]⟩) ?_
      cbv
      refine Exists.intro () (And.intro ⟨by simp, by simp, by exact AllI_lits (l := [0, q1, q2])⟩ ?_)
      rintro w9 _ ⟨sl, rfl, hsl2⟩
      simp at hsl2
      cbv
      refine And.intro (by subst hA; first | (simp [std, Keep, SubH, ResK]; done) | exact .inr ⟨⟨rfl, SubH.self _⟩, trivial, .inr fun _ => ⟨rfl, SubH.self _⟩⟩ | exact .inr ⟨SubH.self _, trivial, .inr fun _ => SubH.self _⟩ | exact .inr ⟨by simp [SubH], trivial, .inl rfl⟩ | exact .inr ⟨by simp [SubH], trivial, .inr fun _ => by simp [SubH]⟩) ?_
      cbv
      refine Exists.intro () (And.intro (by omega) ?_)
      rintro w10 _ ⟨q3, rfl, hq3⟩
      cbv
      refine And.intro (by subst hA; first | (simp [std, Keep, SubH, ResK]; done) | exact .inr ⟨⟨rfl, SubH.self _⟩, trivial, .inr fun _ => ⟨rfl, SubH.self _⟩⟩ | exact .inr ⟨SubH.self _, trivial, .inr fun _ => SubH.self _⟩ | exact .inr ⟨by simp [SubH], trivial, .inl rfl⟩ | exact .inr ⟨by simp [SubH], trivial, .inr fun _ => by simp [SubH]⟩) ?_
      cbv
      refine Exists.intro () (And.intro ⟨by simp, by simp, by exact AllI_lits (l := [0, 1, q3])⟩ ?_)
      rintro w11 _ ⟨th, rfl, hth⟩
      simp at hth
      cbv
      refine And.intro (by subst hA; first | (simp [std, Keep, SubH, ResK]; done) | exact .inr ⟨⟨rfl, SubH.self _⟩, trivial, .inr fun _ => ⟨rfl, SubH.self _⟩⟩ | exact .inr ⟨SubH.self _, trivial, .inr fun _ => SubH.self _⟩ | exact .inr ⟨by simp [SubH], trivial, .inl rfl⟩ | exact .inr ⟨by simp [SubH], trivial, .inr fun _ => by simp [SubH]⟩) ?_
      cbv
      refine Exists.intro () (And.intro (by omega) ?_)
      rintro w12 _ ⟨q4, rfl, hq4⟩
      cbv
      refine And.intro (by subst hA; first | (simp [std, Keep, SubH, ResK]; done) | exact .inr ⟨⟨rfl, SubH.self _⟩, trivial, .inr fun _ => ⟨rfl, SubH.self _⟩⟩ | exact .inr ⟨SubH.self _, trivial, .inr fun _ => SubH.self _⟩ | exact .inr ⟨by simp [SubH], trivial, .inl rfl⟩ | exact .inr ⟨by simp [SubH], trivial, .inr fun _ => by simp [SubH]⟩) ?_
      cbv
      refine Exists.intro () (And.intro ⟨by simp, by simp, by exact AllI_lits (l := [0, 1, q4])⟩ ?_)
      rintro w13 _ ⟨gr, rfl, hgr⟩
      simp at hgr
      cbv
      refine And.intro (by subst hA; first | (simp [std, Keep, SubH, ResK]; done) | exact .inr ⟨⟨rfl, SubH.self _⟩, trivial, .inr fun _ => ⟨rfl, SubH.self _⟩⟩ | exact .inr ⟨SubH.self _, trivial, .inr fun _ => SubH.self _⟩ | exact .inr ⟨by simp [SubH], trivial, .inl rfl⟩ | exact .inr ⟨by simp [SubH], trivial, .inr fun _ => by simp [SubH]⟩) ?_
      cbv
      refine Exists.intro () (And.intro (by omega) ?_)
      rintro w14 _ ⟨ev, rfl, hev⟩
      cbv
      refine And.intro (by subst hA; first | (simp [std, Keep, SubH, ResK]; done) | exact .inr ⟨⟨rfl, SubH.self _⟩, trivial, .inr fun _ => ⟨rfl, SubH.self _⟩⟩ | exact .inr ⟨SubH.self _, trivial, .inr fun _ => SubH.self _⟩ | exact .inr ⟨by simp [SubH], trivial, .inl rfl⟩ | exact .inr ⟨by simp [SubH], trivial, .inr fun _ => by simp [SubH]⟩) ?_
      cbv
      obtain ⟨cc2, hcc2⟩ : ∃ x, x = cc ++ rcC ⟨le, sl, th, gr, ev⟩ := ⟨_, rfl⟩
      refine And.intro (hsg _) (Exists.intro cc2 (Exists.intro (n + 1) (And.intro (by subst hA; rw [hcc2]; exact app_one hcl rfl (by omega)) (And.intro rfl ?_))))
      cbv
      refine And.intro (by subst hA; first | (simp [std, Keep, SubH, ResK]; done) | exact .inr ⟨⟨rfl, SubH.self _⟩, trivial, .inr fun _ => ⟨rfl, SubH.self _⟩⟩ | exact .inr ⟨SubH.self _, trivial, .inr fun _ => SubH.self _⟩ | exact .inr ⟨by simp [SubH], trivial, .inl rfl⟩ | exact .inr ⟨by simp [SubH], trivial, .inr fun _ => by simp [SubH]⟩) ?_
      cbv
      have hsub : A.sub .i64 le le = le - le := by subst hA; exact iSub_id (by omega) (by omega)
      have hle : sumLg (rs ++ [⟨le, sl, th, gr, ev⟩]) = sumLg rs + le := by rw [sumLg_append]; simp [sumLg]
      have hlen : (rs ++ [(⟨le, sl, th, gr, ev⟩ : Rch)]).length = n + 1 := by rw [List.length_append, ← hn]; rfl
      refine hB (w14, le - le, rs ++ [⟨le, sl, th, gr, ev⟩]) _ _ (by dsimp only; omega) ⟨by dsimp only; omega, by dsimp only; omega, by dsimp only; omega, by dsimp only; omega, by dsimp only; omega, ?_⟩ ⟨congrArg I hsub, trivial⟩ ⟨rfl, rfl, rfl, trivial⟩ (.inl (by dsimp only; rw [hcc2, hcc, List.flatMap_append, List.length_append, ← hn]; rfl))
      intro r hr
      rcases List.mem_append.1 hr with hr | hr
      · exact hP6 r hr
      · simp only [List.mem_singleton] at hr; subst hr; exact ⟨by dsimp only; omega, by dsimp only; omega, by dsimp only; omega, by dsimp only; omega, by dsimp only; omega⟩
    · rename_i hz4
      have hn4 : ¬ n = 4 := of_decide_eq_false (heq.symm.trans hz4)
      refine Exists.intro () (And.intro (by omega) ?_)
      rintro w7 _ ⟨q1, rfl, hq1⟩
      cbv
      refine And.intro (by subst hA; first | (simp [std, Keep, SubH, ResK]; done) | exact .inr ⟨⟨rfl, SubH.self _⟩, trivial, .inr fun _ => ⟨rfl, SubH.self _⟩⟩ | exact .inr ⟨SubH.self _, trivial, .inr fun _ => SubH.self _⟩ | exact .inr ⟨by simp [SubH], trivial, .inl rfl⟩ | exact .inr ⟨by simp [SubH], trivial, .inr fun _ => by simp [SubH]⟩) ?_
      cbv
      refine Exists.intro () (And.intro (by omega) ?_)
      rintro w8 _ ⟨q2, rfl, hq2⟩
      cbv
      refine And.intro (by subst hA; first | (simp [std, Keep, SubH, ResK]; done) | exact .inr ⟨⟨rfl, SubH.self _⟩, trivial, .inr fun _ => ⟨rfl, SubH.self _⟩⟩ | exact .inr ⟨SubH.self _, trivial, .inr fun _ => SubH.self _⟩ | exact .inr ⟨by simp [SubH], trivial, .inl rfl⟩ | exact .inr ⟨by simp [SubH], trivial, .inr fun _ => by simp [SubH]⟩) ?_
      cbv
      refine Exists.intro () (And.intro ⟨by simp, by simp, by exact AllI_lits (l := [0, q1, q2])⟩ ?_)
      rintro w9 _ ⟨sl, rfl, hsl2⟩
      simp at hsl2
      cbv
      refine And.intro (by subst hA; first | (simp [std, Keep, SubH, ResK]; done) | exact .inr ⟨⟨rfl, SubH.self _⟩, trivial, .inr fun _ => ⟨rfl, SubH.self _⟩⟩ | exact .inr ⟨SubH.self _, trivial, .inr fun _ => SubH.self _⟩ | exact .inr ⟨by simp [SubH], trivial, .inl rfl⟩ | exact .inr ⟨by simp [SubH], trivial, .inr fun _ => by simp [SubH]⟩) ?_
      cbv
      refine Exists.intro () (And.intro (by omega) ?_)
      rintro w10 _ ⟨q3, rfl, hq3⟩
      cbv
      refine And.intro (by subst hA; first | (simp [std, Keep, SubH, ResK]; done) | exact .inr ⟨⟨rfl, SubH.self _⟩, trivial, .inr fun _ => ⟨rfl, SubH.self _⟩⟩ | exact .inr ⟨SubH.self _, trivial, .inr fun _ => SubH.self _⟩ | exact .inr ⟨by simp [SubH], trivial, .inl rfl⟩ | exact .inr ⟨by simp [SubH], trivial, .inr fun _ => by simp [SubH]⟩) ?_
      cbv
      refine Exists.intro () (And.intro ⟨by simp, by simp, by exact AllI_lits (l := [0, 1, q3])⟩ ?_)
      rintro w11 _ ⟨th, rfl, hth⟩
      simp at hth
      cbv
      refine And.intro (by subst hA; first | (simp [std, Keep, SubH, ResK]; done) | exact .inr ⟨⟨rfl, SubH.self _⟩, trivial, .inr fun _ => ⟨rfl, SubH.self _⟩⟩ | exact .inr ⟨SubH.self _, trivial, .inr fun _ => SubH.self _⟩ | exact .inr ⟨by simp [SubH], trivial, .inl rfl⟩ | exact .inr ⟨by simp [SubH], trivial, .inr fun _ => by simp [SubH]⟩) ?_
      cbv
      refine Exists.intro () (And.intro (by omega) ?_)
      rintro w12 _ ⟨q4, rfl, hq4⟩
      cbv
      refine And.intro (by subst hA; first | (simp [std, Keep, SubH, ResK]; done) | exact .inr ⟨⟨rfl, SubH.self _⟩, trivial, .inr fun _ => ⟨rfl, SubH.self _⟩⟩ | exact .inr ⟨SubH.self _, trivial, .inr fun _ => SubH.self _⟩ | exact .inr ⟨by simp [SubH], trivial, .inl rfl⟩ | exact .inr ⟨by simp [SubH], trivial, .inr fun _ => by simp [SubH]⟩) ?_
      cbv
      refine Exists.intro () (And.intro ⟨by simp, by simp, by exact AllI_lits (l := [0, 1, q4])⟩ ?_)
      rintro w13 _ ⟨gr, rfl, hgr⟩
      simp at hgr
      cbv
      refine And.intro (by subst hA; first | (simp [std, Keep, SubH, ResK]; done) | exact .inr ⟨⟨rfl, SubH.self _⟩, trivial, .inr fun _ => ⟨rfl, SubH.self _⟩⟩ | exact .inr ⟨SubH.self _, trivial, .inr fun _ => SubH.self _⟩ | exact .inr ⟨by simp [SubH], trivial, .inl rfl⟩ | exact .inr ⟨by simp [SubH], trivial, .inr fun _ => by simp [SubH]⟩) ?_
      cbv
      refine Exists.intro () (And.intro (by omega) ?_)
      rintro w14 _ ⟨ev, rfl, hev⟩
      cbv
      refine And.intro (by subst hA; first | (simp [std, Keep, SubH, ResK]; done) | exact .inr ⟨⟨rfl, SubH.self _⟩, trivial, .inr fun _ => ⟨rfl, SubH.self _⟩⟩ | exact .inr ⟨SubH.self _, trivial, .inr fun _ => SubH.self _⟩ | exact .inr ⟨by simp [SubH], trivial, .inl rfl⟩ | exact .inr ⟨by simp [SubH], trivial, .inr fun _ => by simp [SubH]⟩) ?_
      cbv
      obtain ⟨cc2, hcc2⟩ : ∃ x, x = cc ++ rcC ⟨m0, sl, th, gr, ev⟩ := ⟨_, rfl⟩
      refine And.intro (hsg _) (Exists.intro cc2 (Exists.intro (n + 1) (And.intro (by subst hA; rw [hcc2]; exact app_one hcl rfl (by omega)) (And.intro rfl ?_))))
      cbv
      refine And.intro (by subst hA; first | (simp [std, Keep, SubH, ResK]; done) | exact .inr ⟨⟨rfl, SubH.self _⟩, trivial, .inr fun _ => ⟨rfl, SubH.self _⟩⟩ | exact .inr ⟨SubH.self _, trivial, .inr fun _ => SubH.self _⟩ | exact .inr ⟨by simp [SubH], trivial, .inl rfl⟩ | exact .inr ⟨by simp [SubH], trivial, .inr fun _ => by simp [SubH]⟩) ?_
      cbv
      have hsub : A.sub .i64 le m0 = le - m0 := by subst hA; exact iSub_id (by omega) (by omega)
      have hle : sumLg (rs ++ [⟨m0, sl, th, gr, ev⟩]) = sumLg rs + m0 := by rw [sumLg_append]; simp [sumLg]
      have hlen : (rs ++ [(⟨m0, sl, th, gr, ev⟩ : Rch)]).length = n + 1 := by rw [List.length_append, ← hn]; rfl
      refine hB (w14, le - m0, rs ++ [⟨m0, sl, th, gr, ev⟩]) _ _ (by dsimp only; omega) ⟨by dsimp only; omega, by dsimp only; omega, by dsimp only; omega, by dsimp only; omega, by dsimp only; omega, ?_⟩ ⟨congrArg I hsub, trivial⟩ ⟨rfl, rfl, rfl, trivial⟩ (.inl (by dsimp only; rw [hcc2, hcc, List.flatMap_append, List.length_append, ← hn]; rfl))
      intro r hr
      rcases List.mem_append.1 hr with hr | hr
      · exact hP6 r hr
      · simp only [List.mem_singleton] at hr; subst hr; exact ⟨by dsimp only; omega, by dsimp only; omega, by dsimp only; omega, by dsimp only; omega, by dsimp only; omega⟩
  · rename_i hz
    have hz : ¬ 0 < le := by have hz := hgt.symm.trans hz; simpa using hz
    have hnn : 1 ≤ rs.length := by rw [← hn]; omega
    have hE : Elems 5 (rs.map rcV) cc := by rw [hcc]; exact Elems_map (f := rcV) (g := rcC) (sz := 5) (fun _ => rfl) (fun _ => rfl) (fun _ => rfl) rs
    rw [hF]
    have hnr := nidL_rc rs
    refine Frees.frz 3 n 5 (rs.map rcV) rfl hE ?_
    have e1 : AV.frz 3 n 5 (rs.map rcV) (.ms 5 3 n 0 n) = .vs 5 (rs.map rcV) := frz_self (by simp [hn])
    have e2 : AV.frz 3 n 5 (rs.map rcV) (aTup [.agg [.ms 5 3 n 0 n, I a, I b, I c]]) = svV (.vs 5 (rs.map rcV)) a b c := by
      show AV.agg [AV.frz 3 n 5 (rs.map rcV) (.ms 5 3 n 0 n), I a, I b, I c] = _
      rw [e1]
    rw [e2]
    refine Frees.drop1 (w := w5) (by simp [AV.nid, AV.nidL, hnr]) (h w5 _ ⟨rs, a, b, c, _, rfl, rfl, ?_⟩)
    exact ⟨hP6, hnn, by rw [← hn]; exact hP3, by omega, by omega, by omega, by omega⟩
end Go.Sas
namespace Go.Sas
theorem chg_add {r1 r2 : Rch} (h1 : 0 ≤ r1.th) (h2 : 0 ≤ r1.gr) (h3 : 0 ≤ r2.th) (h4 : 0 ≤ r2.gr) (t1 t2 : Int) : chg r1 (t1 + t2) ≤ chg r1 t1 + chg r2 t2 ∨ chg r2 (t1 + t2) ≤ chg r1 t1 + chg r2 t2 := by
  unfold chg
  by_cases c1 : t1 < 0 <;> by_cases c2 : t2 < 0
  · rw [if_pos c1, if_pos c2, if_pos (by omega), if_pos (by omega), Int.neg_add, Int.add_mul, Int.add_mul]
    by_cases c3 : r1.th ≤ r2.th
    · left; have := Int.mul_le_mul_of_nonneg_left c3 (show 0 ≤ -t2 by omega); omega
    · right; have := Int.mul_le_mul_of_nonneg_left (show r2.th ≤ r1.th by omega) (show 0 ≤ -t1 by omega); omega
  · rw [if_pos c1, if_neg c2]
    have e1 : 0 ≤ -t1 * r1.th := Int.mul_nonneg (by omega) h1
    have e2 : 0 ≤ t2 * r2.gr := Int.mul_nonneg (by omega) h4
    by_cases c3 : t1 + t2 < 0
    · left; rw [if_pos c3, Int.neg_add, Int.add_mul]
      have := Int.mul_nonneg (show 0 ≤ t2 by omega) h1
      have e3 : -t2 * r1.th = -(t2 * r1.th) := by rw [Int.neg_mul]
      omega
    · right; rw [if_neg c3, Int.add_mul]
      have := Int.mul_nonneg (show 0 ≤ -t1 by omega) h4
      have e3 : -t1 * r2.gr = -(t1 * r2.gr) := by rw [Int.neg_mul]
      omega
  · rw [if_neg c1, if_pos c2]
    have e1 : 0 ≤ t1 * r1.gr := Int.mul_nonneg (by omega) h2
    have e2 : 0 ≤ -t2 * r2.th := Int.mul_nonneg (by omega) h3
    by_cases c3 : t1 + t2 < 0
    · right; rw [if_pos c3, Int.neg_add, Int.add_mul]
      have := Int.mul_nonneg (show 0 ≤ t1 by omega) h3
      have e3 : -t1 * r2.th = -(t1 * r2.th) := by rw [Int.neg_mul]
      omega
    · left; rw [if_neg c3, Int.add_mul]
      have := Int.mul_nonneg (show 0 ≤ -t2 by omega) h2
      have e3 : -t2 * r1.gr = -(t2 * r1.gr) := by rw [Int.neg_mul]
      omega
  · rw [if_neg c1, if_neg c2, if_neg (by omega), if_neg (by omega), Int.add_mul, Int.add_mul]
    by_cases c3 : r1.gr ≤ r2.gr
    · left; have := Int.mul_le_mul_of_nonneg_left c3 (show 0 ≤ t2 by omega); omega
    · right; have := Int.mul_le_mul_of_nonneg_left (show r2.gr ≤ r1.gr by omega) (show 0 ≤ t1 by omega); omega
theorem riseS_le {R : List Rch} {a b p : Nat} {t : Int} (hp : p < R.length) : riseS R a t b ≤ wayS R a t b p := minN_le (by omega)
theorem riseS_ex {R : List Rch} (h : PlcOk R) (a b : Nat) (t : Int) : ∃ p, p < R.length ∧ riseS R a t b = wayS R a t b p := by
  obtain ⟨p, hp, he⟩ := minN_ex (V := wayS R a t b) (R.length - 1)
  have := h.pos
  exact ⟨p, by omega, he⟩
theorem rise_tri {R : List Rch} (h : PlcOk R) (a b c : Nat) (t1 t2 : Int) : riseS R a (t1 + t2) c ≤ riseS R a t1 b + riseS R b t2 c := by
  obtain ⟨p1, hp1, e1⟩ := riseS_ex h a b t1
  obtain ⟨p2, hp2, e2⟩ := riseS_ex h b c t2
  have b1 := rc0_bnd h.all p1
  have b2 := rc0_bnd h.all p2
  rw [e1, e2]
  have d1 := farS_tri R c p2 p1
  have d2 := farS_tri R p2 b p1
  have d3 := farS_tri R p2 p1 a
  rcases chg_add (r1 := R.getD p1 rc0) (r2 := R.getD p2 rc0) b1.2.2.1 b1.2.2.2.2.1 b2.2.2.1 b2.2.2.2.2.1 t1 t2 with hc | hc
  · have := riseS_le (a := a) (b := c) (t := t1 + t2) hp1
    unfold wayS at *; omega
  · have := riseS_le (a := a) (b := c) (t := t1 + t2) hp2
    unfold wayS at *; omega
/-- the number of a course at a place, as thick as anchors allow -/
def ancG (R : List Rch) (h : Int) (p : Nat) (m : Int) (x : Lk) : Int := min m (x.lo + riseS R p (h - x.h) x.p.toNat)
def ancT (R : List Rch) (l : List Lk) (h : Int) (p : Nat) : Int := l.foldl (ancG R h p) 3000
theorem ancG_fold {R : List Rch} {h : Int} {p : Nat} : ∀ {l : List Lk} {m : Int}, (l.foldl (ancG R h p) m ≤ m ∧ (∀ x ∈ l, l.foldl (ancG R h p) m ≤ x.lo + riseS R p (h - x.h) x.p.toNat)) ∧ (l.foldl (ancG R h p) m = m ∨ ∃ x ∈ l, l.foldl (ancG R h p) m = x.lo + riseS R p (h - x.h) x.p.toNat)
  | [], m => ⟨⟨Int.le_refl _, by simp⟩, .inl rfl⟩
  | x :: l, m => by
    obtain ⟨⟨h1, h2⟩, h3⟩ := ancG_fold (R := R) (h := h) (p := p) (l := l) (m := ancG R h p m x)
    simp only [List.foldl_cons]
    have e : ancG R h p m x = min m (x.lo + riseS R p (h - x.h) x.p.toNat) := rfl
    obtain ⟨z, hz⟩ : ∃ z, z = l.foldl (ancG R h p) (ancG R h p m x) := ⟨_, rfl⟩
    obtain ⟨y0, hy0⟩ : ∃ y, y = ancG R h p m x := ⟨_, rfl⟩
    simp only [← hz] at h1 h2 h3 ⊢
    rw [← hy0] at h1 h3 e
    refine ⟨⟨by omega, fun y hy => ?_⟩, ?_⟩
    · rcases List.mem_cons.1 hy with rfl | hy
      · omega
      · exact h2 y hy
    · rcases h3 with h3 | ⟨y, hy, h3⟩
      · by_cases hm : m ≤ x.lo + riseS R p (h - x.h) x.p.toNat
        · exact .inl (by omega)
        · exact .inr ⟨x, by simp, by omega⟩
      · exact .inr ⟨y, by simp [hy], h3⟩
/-- a course of some hours -/
structure CrsOk (R : List Rch) (T : Nat → Nat → Int) (hours : Nat) : Prop where
  rng : ∀ i p, i < hours → p < R.length → 0 ≤ T i p ∧ T i p ≤ 3000
  lip : ∀ i j p q, i < hours → j < hours → p < R.length → q < R.length → T j q ≤ T i p + riseS R q ((j : Int) - i) p
theorem ancT_crs {R : List Rch} (hR : PlcOk R) {l : List Lk} {f : Int} {hours : Nat} (hf : 0 ≤ f ∧ f ≤ 100) (hn : hours ≤ 100) (hl : ∀ x ∈ l, (0 ≤ x.p ∧ x.p < R.length) ∧ (0 ≤ x.h ∧ x.h ≤ 10000) ∧ 0 ≤ x.lo) : CrsOk R (fun i p => ancT R l (f + i) p) hours := by
  have hb : ∀ x ∈ l, ∀ (i p : Nat), i < hours → p < R.length → 0 ≤ riseS R p (f + i - x.h) x.p.toNat := fun x hx i p hi hp => by
    have := hl x hx
    exact (riseS_bnd hR hp (b := x.p.toNat) (by omega) (t := f + i - x.h) (by omega)).1
  refine ⟨fun i p hi hp => ?_, fun i j p q hi hj hp hq => ?_⟩
  · obtain ⟨⟨h1, _⟩, h3⟩ := ancG_fold (R := R) (h := f + i) (p := p) (l := l) (m := 3000)
    refine ⟨?_, h1⟩
    unfold ancT
    rcases h3 with h3 | ⟨x, hx, h3⟩
    · omega
    · have := hb x hx i p hi hp
      have := (hl x hx).2.2
      omega
  · unfold ancT
    obtain ⟨_, h3⟩ := ancG_fold (R := R) (h := f + i) (p := p) (l := l) (m := 3000)
    obtain ⟨⟨h4, h5⟩, _⟩ := ancG_fold (R := R) (h := f + j) (p := q) (l := l) (m := 3000)
    have h6 := (riseS_bnd hR hq hp (t := (j : Int) - i) (by omega)).1
    rcases h3 with h3 | ⟨x, hx, h3⟩
    · omega
    · have h7 := h5 x hx
      have h8 := rise_tri hR q p x.p.toNat ((j : Int) - i) (f + i - x.h)
      rw [show (j : Int) - i + (f + i - x.h) = f + j - x.h by omega] at h8
      omega
/-- looks that a course fits -/
def LkFit (R : List Rch) (T : Nat → Nat → Int) (f : Int) (hours : Nat) (x : Lk) : Prop :=
  (1 ≤ x.k ∧ x.k ≤ 3) ∧ ∃ i p : Nat, i < hours ∧ p < R.length ∧ x.p = p ∧ x.h = f + i ∧ 0 ≤ x.lo ∧ x.lo ≤ T i p ∧ T i p ≤ x.hi ∧ x.hi ≤ 3000
theorem LkFit.ok {R : List Rch} {T : Nat → Nat → Int} {f : Int} {hours : Nat} {x : Lk} (h : LkFit R T f hours x) (hf : 0 ≤ f ∧ f ≤ 100) (hn : hours ≤ 100) : LkOk R.length x := by
  obtain ⟨h1, i, p, h2, h3, h4, h5, h6, h7, h8, h9⟩ := h
  exact ⟨h1, by omega, by omega, h6, by omega, h9⟩
theorem LksOk.fits {R : List Rch} {T : Nat → Nat → Int} {f : Int} {hours : Nat} {l : List Lk} (hT : CrsOk R T hours) (hf : 0 ≤ f ∧ f ≤ 100) (hn : hours ≤ 100) (hl : l.length ≤ 200) (h : ∀ x ∈ l, LkFit R T f hours x) : LksOk R l := by
  refine ⟨hl, fun x hx => (h x hx).ok hf hn, fun x hx y hy => ?_⟩
  obtain ⟨_, i, p, h2, h3, h4, h5, h6, h7, h8, h9⟩ := h x hx
  obtain ⟨_, j, q, k2, k3, k4, k5, k6, k7, k8, k9⟩ := h y hy
  have := hT.lip i j p q h2 k2 h3 k3
  rw [h4, h5, k4, k5, show f + (j : Int) - (f + i) = j - i by omega]
  simp only [Int.toNat_natCast]
  omega
end Go.Sas
namespace Go.Sas
/-- all that the world holds now, seen as fixed -/
noncomputable def allS (w : World) : St := ⟨fun b o => match w.cell? ⟨b, o, none⟩ with
  | some c => (open Classical in if Scal c then some c else none)
  | none => none, []⟩
theorem allS_rd {w : World} {b o : Nat} {c : Value} (h : w.cell? ⟨b, o, none⟩ = some c) (hs : Scal c) : (allS w).rd b o = some c := by
  simp only [allS, h, if_pos hs]
theorem allS_of {w : World} {b o : Nat} {c : Value} (h : (allS w).rd b o = some c) : Scal c ∧ w.cell? ⟨b, o, none⟩ = some c := by
  simp only [allS] at h
  split at h
  · rename_i c2 h2
    split at h
    · rename_i hs; cases h; exact ⟨hs, h2⟩
    · cases h
  · cases h
theorem RelH.allS (w : World) : RelH (allS w) w [] :=
  ⟨rfl, fun b o c h => ⟨(allS_of h).1, (allS_of h).2, fun ⟨id, l, _, _, h1, _⟩ => by simp [Go.Sas.allS] at h1⟩, fun id l X h => by simp [Go.Sas.allS] at h, fun id _ l _ _ _ _ _ _ h => by simp [Go.Sas.allS] at h⟩
theorem RelH.rdAll {st : St} {w : World} {H : AHeap} (h : RelH st w H) : ∀ b o c, st.rd b o = some c → (Go.Sas.allS w).rd b o = some c :=
  fun b o c hc => allS_rd (h.rd b o c hc).2.1 (h.rd b o c hc).1
/-- how a value looks where nothing is written -/
def Vw (H : AHeap) (a a' : AV) : Prop := ∀ st w v, RelH st w H → RelV st a v → RelV (allS w) a' v
def VwL (H : AHeap) (as as' : List AV) : Prop := ∀ st w vs, RelH st w H → RelL st as vs → RelL (allS w) as' vs
theorem Vw.nid {H : AHeap} {a : AV} (h : a.nid = true) : Vw H a a := fun _ _ _ hH hv => RelV.nid hH.rdAll h hv
theorem VwL.nil {H : AHeap} : VwL H [] [] := fun _ _ _ _ hv => by simpa only [RelL] using hv
theorem VwL.cons {H : AHeap} {a a' : AV} {as as' : List AV} (h : Vw H a a') (hs : VwL H as as') : VwL H (a :: as) (a' :: as') := fun st w vs hH hv => by
  obtain ⟨u, us', rfl, h2, h3⟩ := hv.uncons
  exact RelL.cons (h st w u hH h2) (hs st w us' hH h3)
theorem Vw.agg {H : AHeap} {as as' : List AV} (h : VwL H as as') : Vw H (.agg as) (.agg as') := fun st w v hH hv => by
  simp only [RelV] at hv ⊢
  obtain ⟨us, h1, h2, h3⟩ := hv
  exact ⟨us, h1, h st w _ hH h2, h3⟩
theorem Vw.ms {H : AHeap} {sz id g len : Nat} {cs xs : List AV} (hX : H[id]? = some (.own g cs)) (hE : Elems sz xs cs) (hl : xs.length = len) : Vw H (.ms sz id g 0 len) (.vs sz xs) := fun st w v hH hv => by
  obtain ⟨st', h1, h2, h3⟩ := freezeAll hH hX hE
  have h4 := h3 _ _ hv
  rw [frz_self hl] at h4
  exact RelV.nid h2.rdAll (by simp [AV.nid]) h4
/-- plain values -/
def AV.pl1 : AV → Bool
  | .lit _ => true
  | _ => false
def AV.pl2 : AV → Bool
  | .agg cs => cs.all AV.pl1
  | a => a.pl1
def AV.pl : AV → Bool
  | .tup cs => cs.all AV.pl2
  | a => a.pl2
theorem RelV.pl1 {st st' : St} {a : AV} {v : Value} (h : a.pl1 = true) (hv : RelV st a v) : RelV st' a v := by
  cases a <;> simp [AV.pl1] at h
  simpa only [RelV] using hv
theorem RelL.pl1 {st st' : St} : ∀ {as : List AV} {us : List Value}, as.all AV.pl1 = true → RelL st as us → RelL st' as us
  | [], _, _, h => by simpa only [RelL] using h
  | a :: as, us, hp, h => by
    simp only [List.all_cons, Bool.and_eq_true] at hp
    obtain ⟨u, us', rfl, h2, h3⟩ := h.uncons
    exact RelL.cons (h2.pl1 hp.1) (RelL.pl1 hp.2 h3)
theorem RelV.pl2 {st st' : St} {a : AV} {v : Value} (h : a.pl2 = true) (hv : RelV st a v) : RelV st' a v := by
  cases a <;> simp only [AV.pl2] at h <;> try exact hv.pl1 h
  simp only [RelV] at hv ⊢
  obtain ⟨us, h1, h2, h3⟩ := hv
  exact ⟨us, h1, RelL.pl1 h h2, h3⟩
theorem RelL.pl2 {st st' : St} : ∀ {as : List AV} {us : List Value}, as.all AV.pl2 = true → RelL st as us → RelL st' as us
  | [], _, _, h => by simpa only [RelL] using h
  | a :: as, us, hp, h => by
    simp only [List.all_cons, Bool.and_eq_true] at hp
    obtain ⟨u, us', rfl, h2, h3⟩ := h.uncons
    exact RelL.cons (h2.pl2 hp.1) (RelL.pl2 hp.2 h3)
theorem RelV.pl {st st' : St} {a : AV} {v : Value} (h : a.pl = true) (hv : RelV st a v) : RelV st' a v := by
  cases a <;> simp only [AV.pl] at h <;> try exact hv.pl2 h
  simp only [RelV] at hv ⊢
  obtain ⟨us, h1, h2⟩ := hv
  exact ⟨us, h1, RelL.pl2 h h2⟩
/-! ### Entries of tables -/
end Go.Sas
namespace Go.Sas
variable {cx : Cx} {m : Nat} {k : List AItm} {R : Env → AHeap → Prop} {e : Env} {H H' : AHeap} {D : Option DM} {L : List DItm} {it : DItm}
/-- one slot's row is frozen -/
theorem AGo_frzS (t : Nat) {id g sz n : Nat} {xs cs : List AV} (hX : H[id]? = some (.own g cs)) (ht : look e.g t = .ms sz id g 0 n) (hn : xs.length = n) (hE : Elems sz xs cs) (h : AGo cx m k R ⟨e.l, gset e.g t (.vs sz xs)⟩ (H.set id .gone)) : AGo cx m k R e H := by
  have hok := hE.2
  simp only [elemsOk, Bool.and_eq_true] at hok
  have hl := cellsL_len hE.1 hok.2
  refine AGo_freeze t hX ht ?_ (by rw [hl, hn]; omega) hn hE.2 h
  rw [cellsL_eq, hE.1, List.drop_zero, List.take_of_length_le (by rw [← hn]; omega)]
theorem SubH.gone {y : AObj} {M H : AHeap} (h : SubH M H) : SubH (.gone :: M) (y :: H) := by cases y <;> simpa only [SubH] using h
end Go.Sas
namespace Go.Sas
open Go.Proofs
set_option maxRecDepth 100000
def crsRow (T : Nat → Nat → Int) (n i : Nat) : List AV := ((List.range n).map (T i)).map I
def crsV (T : Nat → Nat → Int) (hours n : Nat) : List AV := (List.range hours).map fun i => .vs 1 (crsRow T n i)
/-- a course made of numbers -/
def CrsQ (R : List Rch) (hours : Nat) (r : AV) : Prop := ∃ (T : Nat → Nat → Int) (xs : List AV), r = .vs 1 xs ∧ xs = crsV T hours R.length ∧ CrsOk R T hours
theorem nidL_crs (T : Nat → Nat → Int) (n i : Nat) : AV.nidL (crsV T n i) = true := nidL_map (fun _ => by simp [AV.nid]) _
def AncOk (N : Nat) (f : Int) (h : Nat) (x : Lk) : Prop := (0 ≤ x.p ∧ x.p < N) ∧ (f ≤ x.h ∧ x.h ≤ f + h) ∧ 0 ≤ x.lo ∧ x.lo ≤ 3000 ∧ x.k = 0 ∧ x.hi = 0
set_option maxHeartbeats 2000000 in
theorem d6 (rs : List Rch) (a b c first : Int) (hours : Nat) (ho : RoadOk rs) (hf : 0 ≤ first ∧ first ≤ 100) (hh : 1 ≤ hours ∧ hours ≤ 100) : Draws Try.prog 6 [svV (.vs 5 (rs.map rcV)) a b c, I first, I (iLen hours)] (CrsQ (plc rs) hours) := by
  have hnr := nidL_rc rs
  refine .of (by simp [AV.nid, AV.nidL, hnr]) (by rintro r ⟨_, _, rfl, rfl, _⟩; simp [AV.nid]) fun w Kk h => ACalls.frees ?_
  obtain ⟨xs, hxs⟩ : ∃ xs, xs = rs.map rcV := ⟨_, rfl⟩
  rw [← hxs]
  have hRl := ho.ilen
  have hPl := ho.plc
  obtain ⟨R, hR⟩ : ∃ R, R = plc rs := ⟨_, rfl⟩
  rw [← hR] at h hRl hPl
  obtain ⟨N, hN⟩ : ∃ N, N = R.length := ⟨_, rfl⟩
  rw [← hN] at hRl
  have hN1 : 1 ≤ N := by rw [hN]; exact hPl.pos
  have hN2 : N ≤ 1000 := by rw [hN]; exact hPl.le
  obtain ⟨ih, hih⟩ : ∃ q, q = iLen hours := ⟨_, rfl⟩
  rw [← hih]
  have hihb : 1 ≤ ih ∧ ih ≤ 100 := by rw [hih]; unfold iLen; omega
  obtain ⟨A, hA⟩ : ∃ A, A = std := ⟨_, rfl⟩
  have hsg : ∀ g, A.sg g g := by subst hA; exact fun _ => rfl
  obtain ⟨F, hF⟩ : ∃ F, F = Frees 1 Kk := ⟨_, rfl⟩
  rw [show Frees [AObj.own 0 [U w]].length Kk = F from hF.symm]
  refine go6 rfl (SGo_run hA ⟨[], [], (20, ePlaces) :: [], ed2⟩ (.cons (ePlaces_ok p20) .nil) ed2_ok 200 fun T TD hT hTD => ?_)
  cbv
  refine Exists.intro rs (And.intro hxs (And.intro (by have := ho.n2; omega) (And.intro ho.all ?_)))
  intro nn hnn; cbv
  have hnn2 : nn = iLen N := hnn.trans hRl.symm
  have hnb : 1 ≤ nn ∧ nn ≤ 1000 := by rw [hnn2]; unfold iLen; omega
  refine Exists.intro () (And.intro (by omega) ?_)
  rintro w1 _ ⟨d0, rfl, hd1, hd2⟩
  cbv
  rw [hT]
  refine AGo_nilms 10 5 rfl ?_
  refine AGo_whileE (σ := Int × Int × List Lk) [0, 2, 3, 5, 9] (fun s => s.2.1.toNat) (fun s => 0 ≤ s.2.1 ∧ s.2.1 + iLen s.2.2.length ≤ 4 ∧ ∀ x ∈ s.2.2, AncOk N first hours x) (fun s => [(10, .ms 5 2 s.2.2.length 0 s.2.2.length), (11, I s.2.1)])
    (fun s => [.own 0 [U s.1], .own 0 [.vs 5 xs, I a, I b, I c], .own s.2.2.length (s.2.2.flatMap lkC)]) (w1, d0, []) ⟨by dsimp only; omega, by show d0 + iLen 0 ≤ 4; unfold iLen; omega, by simp⟩ ⟨rfl, rfl, trivial⟩ (.inl rfl) fun s hP Bk hB => ?_
  obtain ⟨w2, d, l⟩ := s
  obtain ⟨hP1, hP2, hP3⟩ := hP
  dsimp only at hP1 hP2 hP3 ⊢
  obtain ⟨n, hn⟩ : ∃ n, n = l.length := ⟨_, rfl⟩
  obtain ⟨cc, hcc⟩ : ∃ c, c = l.flatMap lkC := ⟨_, rfl⟩
  rw [← hn, ← hcc]
  rw [← hn] at hP2
  have hn4 : n ≤ 4 := by unfold iLen at hP2; omega
  have hd4 : d ≤ 4 := by unfold iLen at hP2; omega
  have hcl : cc.length = n * 5 := by rw [hcc, hn, len_flat (k := 5) (fun _ => rfl)]
  have hgt : A.lt 0 d = decide (0 < d) := by subst hA; rfl
  refine SGo_run hA ⟨[2], [], [], ed2⟩ .nil ed2_ok 200 fun T TD hT hTD => ?_
  cbv
  split <;> cbv
  · rename_i hz
    have hz : 0 < d := by have hz := hgt.symm.trans hz; simpa using hz
    refine Exists.intro () (And.intro (by show nn ≤ _; omega) ?_)
    rintro w3 _ ⟨q1, rfl, hq1⟩
    cbv
    refine Exists.intro () (And.intro (by show ih ≤ _; omega) ?_)
    rintro w4 _ ⟨q2, rfl, hq2⟩
    cbv
    refine Exists.intro () (And.intro (by omega) ?_)
    rintro w5 _ ⟨q3, rfl, hq3⟩
    cbv
    refine Exists.intro () (And.intro ⟨by simp, by simp, by exact AllI_lits (l := [0, q3, 3000])⟩ ?_)
    rintro w6 _ ⟨q4, rfl, hq4⟩
    simp at hq4
    cbv
    have hadd : A.add .i64 first q2 = first + q2 := by subst hA; exact iAdd_id (by omega) (by omega)
    have hsub : A.sub .i64 d 1 = d - 1 := by subst hA; exact iSub_id (by omega) (by omega)
    obtain ⟨cc2, hcc2⟩ : ∃ x, x = cc ++ lkC ⟨0, q1, A.add .i64 first q2, q4, 0⟩ := ⟨_, rfl⟩
    refine And.intro (hsg _) (Exists.intro cc2 (Exists.intro (n + 1) (And.intro (by subst hA; rw [hcc2]; exact app_one hcl rfl (by omega)) (And.intro rfl ?_))))
    cbv
    rw [hadd] at hcc2
    refine hB (w6, d - 1, l ++ [⟨0, q1, first + q2, q4, 0⟩]) _ _ (by dsimp only; omega) ⟨by dsimp only; omega, by dsimp only; rw [List.length_append, ← hn]; unfold iLen at hP2 ⊢; simp; omega, ?_⟩ ?_ ⟨rfl, rfl, rfl, rfl, rfl, trivial⟩ (.inl (by dsimp only; rw [hcc2, hcc, List.flatMap_append, List.length_append, ← hn]; rfl))
    · intro x hx
      rcases List.mem_append.1 hx with hx | hx
      · exact hP3 x hx
      · simp only [List.mem_singleton] at hx; subst hx
        have hq1b : 0 ≤ q1 ∧ q1 < (N : Int) := by have : nn = (N : Int) := hnn2; omega
        have hq2b : 0 ≤ q2 ∧ q2 ≤ (hours : Int) := by have : ih = (hours : Int) := hih; omega
        exact ⟨hq1b, by dsimp only; omega, by dsimp only; omega, by dsimp only; omega, rfl, rfl⟩
    · rw [List.length_append, ← hn]; exact ⟨rfl, congrArg I hsub, trivial⟩
  · rename_i hz
    clear hB
    have hE : Elems 5 (l.map lkV) cc := by rw [hcc]; exact Elems_map (f := lkV) (g := lkC) (sz := 5) (fun _ => rfl) (fun _ => rfl) (fun _ => rfl) l
    obtain ⟨ls, hls⟩ : ∃ x, x = l.map lkV := ⟨_, rfl⟩
    rw [← hls] at hE
    have hll : l.length ≤ 4 := by rw [← hn]; exact hn4
    have hancs : ∀ x ∈ l, (0 ≤ x.p ∧ x.p < R.length) ∧ (0 ≤ x.h ∧ x.h ≤ 10000) ∧ 0 ≤ x.lo := fun x hx => by
      obtain ⟨h1, h2, h3, h4, h5, h6⟩ := hP3 x hx
      exact ⟨by rw [← hN]; exact h1, by omega, h3⟩
    obtain ⟨TT, hTT⟩ : ∃ T : Nat → Nat → Int, T = fun i p => ancT R l (first + iLen i) p := ⟨_, rfl⟩
    have hcrs : CrsOk R TT hours := by rw [hTT]; exact ancT_crs hPl hf hh.2 hancs
    rw [hT]
    refine AGo_frzS 10 (id := 2) (g := n) (sz := 5) (n := n) (xs := ls) (cs := cc) rfl rfl (by rw [hls, hn]; simp) hE ?_
    refine AGo_nilms 12 1 rfl ?_
    obtain ⟨CR, hCR⟩ : ∃ f : Nat → List AV, f = fun i => (List.range i).map fun q => .vs 1 (crsRow TT N q) := ⟨_, rfl⟩
    have hCRs : ∀ i, CR (i + 1) = CR i ++ [.vs 1 (crsRow TT N i)] := fun i => by rw [hCR]; simp [List.range_succ]
    have hCRl : ∀ i, (CR i).length = i * 1 := fun i => by rw [hCR]; simp
    have hxl : ∀ n, AV.ltL n xs := fun n => AV.ltL_nid (by rw [hxs]; exact hnr)
    have hCRn : ∀ i n, AV.ltL n (CR i) := fun i n => AV.ltL_nid (by rw [hCR]; exact nidL_map (fun _ => by simp [AV.nid]) _)
    refine AGo_whileE (σ := Nat) [2, 3, 5, 9, 10] (fun i => hours - i) (fun i => i ≤ hours) (fun i => [(12, .ms 1 3 i 0 i), (13, I (first + iLen i))])
      (fun i => [.own 0 [U w2], .own 0 [.vs 5 xs, I a, I b, I c], .gone, .own i (CR i)]) 0 (Nat.zero_le _) ⟨rfl, congrArg I (by unfold iLen; omega), trivial⟩ (.inl (by rw [hCR]; rfl)) fun i hi Bk hB => ?_
    obtain ⟨cr, hcr⟩ : ∃ x, x = CR i := ⟨_, rfl⟩
    obtain ⟨th, hth⟩ : ∃ x, x = first + iLen i := ⟨_, rfl⟩
    rw [← hcr, ← hth]
    have hadd0 : A.add .i64 first ih = first + ih := by subst hA; exact iAdd_id (by omega) (by omega)
    have hlt : A.lt th (A.add .i64 first ih) = decide (i < hours) := by rw [hadd0, hth, hih]; subst hA; simp only [std, iLt]; rw [decide_eq_decide]; unfold iLen; omega
    refine SGo_run hA ⟨[], [], [], []⟩ .nil .nil 200 fun T TD hT hTD => ?_
    cbv
    split <;> cbv
    · rename_i hz
      have hih2 : i < hours := by have hz := hlt.symm.trans hz; simpa using hz
      have hthb : 0 ≤ th ∧ th ≤ 10000 := by rw [hth]; unfold iLen; omega
      rw [hT]
      refine AGo_nilms 14 1 rfl ?_
      obtain ⟨RW, hRW⟩ : ∃ f : Nat → List AV, f = fun p => crsRow TT p i := ⟨_, rfl⟩
      have hRWs : ∀ p, RW (p + 1) = RW p ++ [I (TT i p)] := fun p => by rw [hRW]; simp [crsRow, List.range_succ]
      have hRWl : ∀ p, (RW p).length = p * 1 := fun p => by rw [hRW]; simp [crsRow]
      refine AGo_whileE (σ := Nat) [2, 3, 5, 9, 10, 12, 13] (fun p => N - p) (fun p => p ≤ N) (fun p => [(14, .ms 1 4 p 0 p), (15, I (iLen p))])
        (fun p => [.own 0 [U w2], .own 0 [.vs 5 xs, I a, I b, I c], .gone, .own i cr, .own p (RW p)]) 0 (Nat.zero_le _) ⟨rfl, rfl, trivial⟩ (.inl (by rw [hRW]; rfl)) fun p hp Bk2 hB2 => ?_
      obtain ⟨rw0, hrw⟩ : ∃ x, x = RW p := ⟨_, rfl⟩
      obtain ⟨ip, hip⟩ : ∃ x, x = iLen p := ⟨_, rfl⟩
      rw [← hrw, ← hip]
      have hlt2 : A.lt ip nn = decide (p < N) := by rw [hip, hnn2]; subst hA; simp only [std, iLt]; rw [decide_eq_decide]; unfold iLen; omega
      refine SGo_run hA ⟨[], [1000091], [], []⟩ .nil .nil 200 fun T TD hT hTD => ?_
      cbv
      split <;> cbv
      · rename_i hz2
        have hpN : p < N := by have hz := hlt2.symm.trans hz2; simpa using hz
        have hipb : 0 ≤ ip ∧ ip < sumLg rs := by rw [← hRl, hip]; unfold iLen; omega
        have hipt : ip.toNat = p := by rw [hip]; rfl
        have haddp : A.add .i64 ip 1 = iLen (p + 1) := by subst hA; exact add_one (N := 1000) hip (by omega) (by omega)
        rw [hT]
        refine AGo_whileE (σ := Nat) [2, 3, 5, 9, 10, 12, 13, 14, 15] (fun k => l.length - k) (fun k => k ≤ l.length) (fun k => [(16, I ((l.take k).foldl (ancG R th p) 3000)), (17, I (iLen k))])
          (fun k => [.own 0 [U w2], .own 0 [.vs 5 xs, I a, I b, I c], .gone, .own i cr, .own p rw0]) 0 (Nat.zero_le _) ⟨rfl, rfl, trivial⟩ (.inl rfl) fun k hk Bk3 hB3 => ?_
        obtain ⟨m, hm⟩ : ∃ x, x = (l.take k).foldl (ancG R th p) 3000 := ⟨_, rfl⟩
        obtain ⟨ik, hik⟩ : ∃ x, x = iLen k := ⟨_, rfl⟩
        rw [← hm, ← hik]
        have hlt3 : A.lt ik (A.vlen ls) = decide (k < l.length) := by subst hA; exact lt_len (by simp [hls]) hik
        refine SGo_run hA ⟨[4], [], (21, eRise) :: [], []⟩ (.cons (eRise_ok p21) .nil) .nil 200 fun T TD hT hTD => ?_
        cbv
        split <;> cbv
        · rename_i hz3
          have hkl : k < l.length := by have hz := hlt3.symm.trans hz3; simpa using hz
          obtain ⟨⟨k', q', g', u', v'⟩, hx3⟩ : ∃ x, l[k]? = some x := ⟨_, List.getElem?_eq_getElem hkl⟩
          have hiy : A.ix 5 5 ls ik (lkC ⟨k', q', g', u', v'⟩) := by subst hA; exact ix_map hls hik hx3 rfl
          obtain ⟨e1, e2, e3⟩ := hancs _ (List.mem_of_getElem? hx3)
          obtain ⟨_, _, _, e4, _, _⟩ := hP3 _ (List.mem_of_getElem? hx3)
          dsimp only at e1 e2 e3 e4
          have hqb : 0 ≤ q' ∧ q' < sumLg rs := by rw [← hRl, hN]; unfold iLen; omega
          have hst := foldl_take_succ (f := ancG R th p) (b := 3000) hx3
          rw [← hm] at hst
          have hadk : A.add .i64 ik 1 = iLen (k + 1) := by subst hA; exact add_one (N := 1000) hik (by omega) (by omega)
          repeat (refine Exists.intro _ (And.intro hiy ?_); cbv)
          refine Exists.intro rs (And.intro hxs (And.intro ho (And.intro hipb (And.intro hthb (And.intro hqb (And.intro e2 ?_))))))
          intro r hr; cbv
          rw [← hR, hipt] at hr
          have hqn : q'.toNat < R.length := by have hq5 := hqb.2; rw [← hRl] at hq5; unfold iLen at hq5; omega
          have hrb := riseS_bnd hPl (a := p) (b := q'.toNat) (t := th - g') (by omega) (by omega) (by omega)
          rw [← hr] at hrb
          have hmn : A.min m (A.add .i64 u' r) = (l.take (k + 1)).foldl (ancG R th p) 3000 := by
            rw [hst]; unfold ancG; dsimp only; rw [← hr]
            subst hA; simp only [std, iMin_eq]; rw [iAdd_id (by omega) (by omega)]
          exact hB3 (k + 1) _ _ (by omega) (by omega) ⟨congrArg I hmn, congrArg I hadk, trivial⟩ ⟨rfl, rfl, rfl, rfl, rfl, rfl, rfl, rfl, rfl, trivial⟩ (.inl rfl)
        · rename_i hz3
          have hkl : ¬ k < l.length := by have hz := hlt3.symm.trans hz3; simpa using hz
          have hmT : m = TT i p := by rw [hm, hTT, List.take_of_length_le (by omega), hth]; rfl
          clear hm
          obtain ⟨rw1, hrw1⟩ : ∃ x, x = RW (p + 1) := ⟨_, rfl⟩
          have happ : A.app 1 1 8 rw0 0 p [I m] rw1 (p + 1) := by subst hA; rw [hrw1, hRWs, ← hrw, ← hmT]; exact app_one (by rw [hrw]; exact hRWl p) rfl (by omega)
          refine And.intro (hsg _) (Exists.intro rw1 (Exists.intro (p + 1) (And.intro happ (And.intro rfl ?_))))
          cbv
          exact hB2 (p + 1) _ _ (by omega) (by omega) ⟨rfl, congrArg I haddp, trivial⟩ ⟨rfl, rfl, rfl, rfl, rfl, rfl, rfl, trivial⟩ (.inl (by rw [hrw1]))
      · rename_i hz2
        have hpN : p = N := by have hz := hlt2.symm.trans hz2; have : ¬ p < N := by simpa using hz
                               omega
        have hrN : rw0 = crsRow TT N i := by rw [hrw, hRW, hpN]
        have hE2 : Elems 1 (crsRow TT N i) rw0 := by rw [hrN]; exact Elems_I _
        obtain ⟨row, hrow⟩ : ∃ x, x = crsRow TT N i := ⟨_, rfl⟩
        rw [← hrow] at hE2
        have hrl : row.length = p := by rw [hrow, hpN]; simp [crsRow]
        rw [hT]
        refine AGo_frzS 14 (id := 4) (g := p) (sz := 1) (n := p) (xs := row) (cs := rw0) rfl rfl hrl hE2 ?_
        have happ : A.app 1 1 24 cr 0 i [.vs 1 row] (CR (i + 1)) (i + 1) := by subst hA; rw [hCRs, ← hcr, ← hrow]; exact app_one (by rw [hcr]; exact hCRl i) rfl (by omega)
        obtain ⟨cr1, hcr1⟩ : ∃ x, x = CR (i + 1) := ⟨_, rfl⟩
        rw [← hcr1] at happ
        have haddt : A.add .i64 th 1 = first + iLen (i + 1) := by subst hA; show iAdd .i64 th 1 = _; rw [iAdd_id (by omega) (by omega), hth]; unfold iLen; omega
        refine SGo_run hA ⟨[3], [], [], []⟩ .nil .nil 200 fun T TD hT hTD => ?_
        cbv
        refine And.intro (hsg _) (Exists.intro cr1 (Exists.intro (i + 1) (And.intro happ (And.intro rfl ?_))))
        cbv
        exact hB (i + 1) _ _ (by omega) (by omega) ⟨rfl, congrArg I haddt, trivial⟩ ⟨rfl, rfl, rfl, rfl, rfl, trivial⟩ (.inr ⟨⟨[.gone], by rw [hcr1]; rfl⟩, by simp, by simp [ltG, AV.lt, AV.ltL, keepS, look, gset], by simp [ltH, AObj.lt, AV.lt, AV.ltL, hxl, hCRn]⟩)
    · rename_i hz
      have hih2 : i = hours := by have hz := hlt.symm.trans hz; have : ¬ i < hours := by simpa using hz
                                  omega
      have hcrN : cr = crsV TT hours N := by rw [hcr, hCR, hih2]; rfl
      have hE3 : Elems 1 (crsV TT hours N) cr := by rw [hcrN]; exact Elems_one (F := fun i => AV.vs 1 (crsRow TT N i)) (fun _ => rfl) (fun _ => rfl) _
      rw [hF]
      refine Frees.frz 3 i 1 (crsV TT hours N) rfl hE3 ?_
      have e1 : AV.frz 3 i 1 (crsV TT hours N) (aTup [.ms 1 3 i 0 i]) = .vs 1 (crsV TT hours N) := frz_self (by simp [crsV, hih2])
      rw [e1]
      refine Frees.drop1 (w := w2) rfl (h w2 _ ⟨TT, _, rfl, by rw [hN], hcrs⟩)
end Go.Sas
namespace Go.Sas
open Go.Proofs
set_option maxRecDepth 100000
def LkQ (R : List Rch) (T : Nat → Nat → Int) (f : Int) (hours : Nat) (most : Int) (r : AV) : Prop := ∃ (l : List Lk) (xs : List AV), r = .vs 5 xs ∧ xs = l.map lkV ∧ (l.length : Int) ≤ most ∧ ∀ x ∈ l, LkFit R T f hours x
set_option maxHeartbeats 2000000 in
theorem d7 (R : List Rch) (TC : Nat → Nat → Int) (first most : Int) (hours : Nat) (hP : PlcOk R) (hT0 : CrsOk R TC hours) (hf : 0 ≤ first ∧ first ≤ 100) (hh : 1 ≤ hours ∧ hours ≤ 100) (hm : 0 ≤ most ∧ most ≤ 100) : Draws Try.prog 7 [I first, .vs 1 (crsV TC hours R.length), I most] (LkQ R TC first hours most) := by
  refine .of (by simp [AV.nid, AV.nidL, nidL_crs]) (by rintro r ⟨_, _, rfl, rfl, _⟩; simp [AV.nid]) fun w Kk h => ACalls.frees ?_
  obtain ⟨N, hN⟩ : ∃ N, N = R.length := ⟨_, rfl⟩
  rw [← hN]
  have hN1 : 1 ≤ N := by rw [hN]; exact hP.pos
  have hN2 : N ≤ 1000 := by rw [hN]; exact hP.le
  obtain ⟨cr, hcr⟩ : ∃ x, x = crsV TC hours N := ⟨_, rfl⟩
  rw [← hcr]
  obtain ⟨A, hA⟩ : ∃ A, A = std := ⟨_, rfl⟩
  have hsg : ∀ g, A.sg g g := by subst hA; exact fun _ => rfl
  obtain ⟨F, hF⟩ : ∃ F, F = Frees 1 Kk := ⟨_, rfl⟩
  rw [show Frees [AObj.own 0 [U w]].length Kk = F from hF.symm]
  have hm1 : A.add .i64 most 1 = most + 1 := by subst hA; exact iAdd_id (by omega) (by omega)
  have hcv : A.vlen cr = iLen hours := by subst hA; rw [hcr]; simp [std, crsV]
  refine go7 rfl (SGo_run hA ⟨[], [], [], ed2⟩ .nil ed2_ok 200 fun T TD hT hTD => ?_)
  cbv
  refine Exists.intro () (And.intro (by show A.add .i64 most 1 ≤ _; rw [hm1]; omega) ?_)
  rintro w1 _ ⟨d0, rfl, hd1, hd2⟩
  have hd2 : d0 < A.add .i64 most 1 ∨ d0 = 0 := hd2
  rw [hm1] at hd2
  cbv
  rw [hT]
  refine AGo_nilms 9 5 rfl ?_
  refine AGo_whileE (σ := Int × Int × List Lk) [0, 1, 2] (fun s => s.2.1.toNat) (fun s => 0 ≤ s.2.1 ∧ s.2.1 + iLen s.2.2.length ≤ most ∧ ∀ x ∈ s.2.2, LkFit R TC first hours x) (fun s => [(9, .ms 5 1 s.2.2.length 0 s.2.2.length), (10, I s.2.1)])
    (fun s => [.own 0 [U s.1], .own s.2.2.length (s.2.2.flatMap lkC)]) (w1, d0, []) ⟨by dsimp only; omega, by show d0 + iLen 0 ≤ most; unfold iLen; omega, by simp⟩ ⟨rfl, rfl, trivial⟩ (.inl rfl) fun s hP Bk hB => ?_
  obtain ⟨w2, d, l⟩ := s
  obtain ⟨hP1, hP2, hP3⟩ := hP
  dsimp only at hP1 hP2 hP3 ⊢
  obtain ⟨n, hn⟩ : ∃ n, n = l.length := ⟨_, rfl⟩
  obtain ⟨cc, hcc⟩ : ∃ c, c = l.flatMap lkC := ⟨_, rfl⟩
  rw [← hn, ← hcc]
  rw [← hn] at hP2
  have hn4 : n ≤ 100 := by unfold iLen at hP2; omega
  have hd4 : d ≤ 100 := by unfold iLen at hP2; omega
  have hcl : cc.length = n * 5 := by rw [hcc, hn, len_flat (k := 5) (fun _ => rfl)]
  have hgt : A.lt 0 d = decide (0 < d) := by subst hA; rfl
  refine SGo_run hA ⟨[1], [0, 1001], [], ed2⟩ .nil ed2_ok 200 fun T TD hT hTD => ?_
  cbv
  split <;> cbv
  · rename_i hz
    have hz : 0 < d := by have hz := hgt.symm.trans hz; simpa using hz
    refine Exists.intro () (And.intro (by show A.vlen cr ≤ _; rw [hcv]; unfold iLen; omega) ?_)
    rintro w3 _ ⟨q1, rfl, hq1, hq1'⟩
    have hq1' : q1 < A.vlen cr ∨ q1 = 0 := hq1'
    rw [hcv] at hq1'
    cbv
    obtain ⟨i, hi⟩ : ∃ i : Nat, q1 = iLen i := ⟨q1.toNat, by unfold iLen; omega⟩
    have hih : i < hours := by unfold iLen at hi hq1'; omega
    have hq1b : 0 ≤ q1 ∧ q1 ≤ 100 := by unfold iLen at hi; omega
    have hgc : (List.range hours)[i]? = some i := by simp [hih]
    obtain ⟨row, hrow⟩ : ∃ x, x = crsRow TC N i := ⟨_, rfl⟩
    have hixr : A.ix 1 1 cr q1 [.vs 1 row] := by subst hA; rw [hrow]; exact ix_map (f := fun i => AV.vs 1 (crsRow TC N i)) hcr hi hgc rfl
    refine Exists.intro _ (And.intro hixr ?_); cbv
    have hrv : A.vlen row = iLen N := by subst hA; rw [hrow]; simp [std, crsRow]
    refine Exists.intro () (And.intro (by show A.vlen row ≤ _; rw [hrv]; unfold iLen; omega) ?_)
    rintro w4 _ ⟨q2, rfl, hq2, hq2'⟩
    have hq2' : q2 < A.vlen row ∨ q2 = 0 := hq2'
    rw [hrv] at hq2'
    cbv
    obtain ⟨p, hp⟩ : ∃ p : Nat, q2 = iLen p := ⟨q2.toNat, by unfold iLen; omega⟩
    have hpN : p < N := by unfold iLen at hp hq2'; omega
    refine Exists.intro _ (And.intro hixr ?_); cbv
    have hixp : A.ix 1 1 row q2 [I (TC i p)] := by subst hA; exact ix_map hrow hp (by simp [hpN]) rfl
    have hTb := hT0.rng i p hih (by omega)
    obtain ⟨t, ht⟩ : ∃ t, t = TC i p := ⟨_, rfl⟩
    rw [← ht] at hixp hTb
    refine Exists.intro _ (And.intro hixp ?_); cbv
    refine Exists.intro () (And.intro (by omega) ?_)
    rintro w5 _ ⟨s1, rfl, hs1⟩
    cbv
    refine Exists.intro () (And.intro (by omega) ?_)
    rintro w6 _ ⟨s2, rfl, hs2⟩
    cbv
    refine Exists.intro () (And.intro ⟨by simp, by simp, by exact AllI_lits (l := [0, s1, s2])⟩ ?_)
    rintro w7 _ ⟨u, rfl, hu⟩
    simp at hu
    cbv
    refine Exists.intro () (And.intro (by omega) ?_)
    rintro w8 _ ⟨s3, rfl, hs3⟩
    cbv
    refine Exists.intro () (And.intro (by omega) ?_)
    rintro w9 _ ⟨s4, rfl, hs4⟩
    cbv
    refine Exists.intro () (And.intro ⟨by simp, by simp, by exact AllI_lits (l := [0, s3, s4])⟩ ?_)
    rintro w10 _ ⟨v, rfl, hv⟩
    simp at hv
    cbv
    refine Exists.intro () (And.intro (by omega) ?_)
    rintro w11 _ ⟨k, rfl, hk⟩
    cbv
    refine And.intro (by subst hA; first | (simp [std, Keep, SubH, ResK]; done) | exact .inr ⟨⟨rfl, SubH.self _⟩, trivial, .inr fun _ => ⟨rfl, SubH.self _⟩⟩ | exact .inr ⟨SubH.self _, trivial, .inr fun _ => SubH.self _⟩ | exact .inr ⟨by simp [SubH], trivial, .inl rfl⟩ | exact .inr ⟨by simp [SubH], trivial, .inr fun _ => by simp [SubH]⟩) ?_
    cbv
    have hsub : A.sub .i64 d 1 = d - 1 := by subst hA; exact iSub_id (by omega) (by omega)
    have hlo : A.max 0 (A.sub .i64 t u) = max 0 (t - u) := by subst hA; simp only [std, iMax_eq]; rw [iSub_id (by omega) (by omega)]
    have hhi : A.min 3000 (A.add .i64 t v) = min 3000 (t + v) := by subst hA; simp only [std, iMin_eq]; rw [iAdd_id (by omega) (by omega)]
    have hhr : A.add .i64 first q1 = first + q1 := by subst hA; exact iAdd_id (by omega) (by omega)
    obtain ⟨cc2, hcc2⟩ : ∃ x, x = cc ++ lkC ⟨k, q2, A.add .i64 first q1, A.max 0 (A.sub .i64 t u), A.min 3000 (A.add .i64 t v)⟩ := ⟨_, rfl⟩
    refine And.intro (hsg _) (Exists.intro cc2 (Exists.intro (n + 1) (And.intro (by subst hA; rw [hcc2]; exact app_one hcl rfl (by omega)) (And.intro rfl ?_))))
    cbv
    refine And.intro (by subst hA; first | (simp [std, Keep, SubH, ResK]; done) | exact .inr ⟨⟨rfl, SubH.self _⟩, trivial, .inr fun _ => ⟨rfl, SubH.self _⟩⟩ | exact .inr ⟨SubH.self _, trivial, .inr fun _ => SubH.self _⟩ | exact .inr ⟨by simp [SubH], trivial, .inl rfl⟩ | exact .inr ⟨by simp [SubH], trivial, .inr fun _ => by simp [SubH]⟩) ?_
    cbv
    rw [hlo, hhi, hhr] at hcc2
    have hcl2 : ∀ n (l : List Lk), AV.ltL n (l.flatMap lkC) := fun n l => AV.ltL_nid (nidL_flat (fun _ => rfl) l)
    refine hB (w11, d - 1, l ++ [⟨k, q2, first + q1, max 0 (t - u), min 3000 (t + v)⟩]) _ _ (by dsimp only; omega) ⟨by dsimp only; omega, by dsimp only; rw [List.length_append, ← hn]; unfold iLen at hP2 ⊢; simp; omega, ?_⟩ ?_ ⟨rfl, rfl, rfl, trivial⟩ (.inr ⟨⟨_, by dsimp only; rw [List.flatMap_append, List.length_append, ← hn, ← hcc]; rw [show cc ++ [Lk.mk k q2 (first + q1) (max 0 (t - u)) (min 3000 (t + v))].flatMap lkC = cc2 from hcc2.symm]; rfl⟩, by simp, by simp [ltG, AV.lt, AV.ltL, keepS, look, gset], by simp [ltH, AObj.lt, AV.lt, AV.ltL, hcl2, -List.flatMap_append]⟩)
    · intro x hx
      rcases List.mem_append.1 hx with hx | hx
      · exact hP3 x hx
      · simp only [List.mem_singleton] at hx; subst hx
        refine ⟨by dsimp only; omega, i, p, hih, by omega, hp, congrArg (first + ·) hi, ?_⟩
        dsimp only
        rw [← ht]; omega
    · rw [List.length_append, ← hn]; exact ⟨rfl, congrArg I hsub, trivial⟩
  · rename_i hz
    have hE : Elems 5 (l.map lkV) cc := by rw [hcc]; exact Elems_map (f := lkV) (g := lkC) (sz := 5) (fun _ => rfl) (fun _ => rfl) (fun _ => rfl) l
    rw [hF]
    refine Frees.frz 1 n 5 (l.map lkV) rfl hE ?_
    have e1 : AV.frz 1 n 5 (l.map lkV) (aTup [.ms 5 1 n 0 n]) = .vs 5 (l.map lkV) := frz_self (by simp [hn])
    rw [e1]
    refine Frees.drop1 (w := w2) rfl (h w2 _ ⟨l, _, rfl, rfl, ?_, hP3⟩)
    rw [← hn]; unfold iLen at hP2; omega
end Go.Sas
