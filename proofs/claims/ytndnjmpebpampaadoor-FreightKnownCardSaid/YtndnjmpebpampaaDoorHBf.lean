/-
Freight: winters, ways of delivering, what they deliver: what the functions yield.
Freight: Check.
Conditions: none.
-/
import Derived.Test.YtndnjmpebpampaaDoorHAf
import Derived.Test.YtndnjmpebpampaaDoorP7f
set_option linter.unusedVariables false
set_option linter.unusedSimpArgs false
namespace Go.Sas
/-- a winter -/
structure Win where
  fi : Int
  la : Int
  caps : List Int
abbrev seaV (a b c d : Int) (xs os : AV) (u v : Int) (ws : AV) : AV := .agg [I a, I b, I c, I d, xs, os, I u, I v, ws]
abbrev winV (a b : Int) (c : AV) : AV := .agg [I a, I b, c]
def roomW (w : Win) (d : Nat) : Int := if w.fi ≤ d ∧ d ≤ w.la then w.caps.getD d 0 else 0
def updF {α : Type} (f : Nat → α) (k : Nat) (v : α) : Nat → α := fun i => if i = k then v else f i
/-- an order is given what it can be given on a day: what may still go, what is left, the way -/
def give (d : Nat) (s : Int × (Nat → Int) × (Nat → Nat → Int)) (k : Nat) : Int × (Nat → Int) × (Nat → Nat → Int) :=
  (s.1 - min s.1 (s.2.1 k), updF s.2.1 k (s.2.1 k - min s.1 (s.2.1 k)), updF s.2.2 k (updF (s.2.2 k) d (min s.1 (s.2.1 k))))
def dayG (R : Nat → Int) (plan : List Nat) (s : (Nat → Int) × (Nat → Nat → Int)) (d : Nat) : (Nat → Int) × (Nat → Nat → Int) := (plan.foldl (give d) (R d, s.1, s.2)).2
def daysG (R : Nat → Int) (plan : List Nat) (u : Nat → Int) (D : Nat) : (Nat → Int) × (Nat → Nat → Int) := (List.range D).foldl (dayG R plan) (u, fun _ _ => 0)
/-- a plan's way of delivering -/
def spreadG (R : Nat → Int) (plan : List Nat) (u : Nat → Int) (D : Nat) : Nat → Nat → Int := (daysG R plan u D).2
def unitS (os : List Ord) (k : Nat) : Int := match os[k]? with | some o => o.u | none => 0
def rowF (D : Nat) (f : Nat → Int) : List AV := (List.range D).map fun d => I (f d)
def wayV (n D : Nat) (w : Nat → Nat → Int) : AV := .vs 1 ((List.range n).map fun k => .vs 1 (rowF D (w k)))
/-- the objects of a way -/
def wayH (n D : Nat) (w : Nat → Nat → Int) : AHeap := (List.range n).map fun k => .own 0 (rowF D (w k))
theorem rowF_len {D : Nat} {f : Nat → Int} : (rowF D f).length = D := by simp [rowF]
theorem wayH_len {n D : Nat} {w : Nat → Nat → Int} : (wayH n D w).length = n := by simp [wayH]
theorem rowF_get {D d : Nat} {f : Nat → Int} (h : d < D) : (rowF D f)[d]? = some (I (f d)) := by simp [rowF, h]
theorem wayH_get {n D k : Nat} {w : Nat → Nat → Int} (h : k < n) : (wayH n D w)[k]? = some (.own 0 (rowF D (w k))) := by simp [wayH, h]
theorem rowF_set {D d : Nat} {f : Nat → Int} {v : Int} : (rowF D f).set d (I v) = rowF D (updF f d v) := by
  apply List.ext_getElem?; intro i
  rw [List.getElem?_set]
  by_cases hi : i < D
  · by_cases hd : d = i
    · subst hd; simp [rowF, hi, updF]
    · rw [if_neg hd]; simp [rowF, hi, updF]; intro h; exact absurd h.symm hd
  · simp [rowF, hi]; intro h; omega
theorem wayH_set {n D k : Nat} {w : Nat → Nat → Int} {f : Nat → Int} : (wayH n D w).set k (.own 0 (rowF D f)) = wayH n D (updF w k f) := by
  apply List.ext_getElem?; intro i
  rw [List.getElem?_set]
  by_cases hi : i < n
  · by_cases hd : k = i
    · subst hd; simp [wayH, hi, updF]
    · rw [if_neg hd]; simp [wayH, hi, updF]; rw [if_neg (fun h => hd h.symm)]
  · simp [wayH, hi]; intro h; omega
theorem wayH_succ {n D : Nat} {w : Nat → Nat → Int} : wayH (n + 1) D w = wayH n D w ++ [.own 0 (rowF D (w n))] := by simp [wayH, List.range_succ]
theorem updS_row {D d : Nat} {f : Nat → Int} {v : Int} (h : d < D) : updS 1 (rowF D f) d [I v] (rowF D (updF f d v)) := by
  refine ⟨rfl, by rw [rowF_len]; omega, ?_⟩
  rw [← rowF_set, List.set_eq_take_append_cons_drop, if_pos (by rw [rowF_len]; exact h)]
  simp
theorem getS_row {D d : Nat} {f : Nat → Int} (h : d < D) : getS none (rowF D f) d (I (f d)) := rowF_get h
theorem zeros_row {D : Nat} : List.flatten (List.replicate D ([Value.int .i64 0].map AV.lit)) = rowF D fun _ => 0 := by
  have h1 : ∀ D, List.flatten (List.replicate D ([Value.int .i64 0].map AV.lit)) = List.replicate D (I 0) := by
    intro D
    induction D with
    | zero => rfl
    | succ D ih => rw [List.replicate_succ, List.flatten_cons, ih]; rfl
  rw [h1]
  simp [rowF, List.map_const']
theorem daysG_succ {R : Nat → Int} {plan : List Nat} {u : Nat → Int} {D : Nat} : daysG R plan u (D + 1) = dayG R plan (daysG R plan u D) D := by
  simp [daysG, List.range_succ, List.foldl_append]
def GiveOk (s : Int × (Nat → Int) × (Nat → Nat → Int)) : Prop := (0 ≤ s.1 ∧ s.1 ≤ 1000000) ∧ ∀ k, 0 ≤ s.2.1 k ∧ s.2.1 k ≤ 1000000
theorem GiveOk.give {s : Int × (Nat → Int) × (Nat → Nat → Int)} (h : GiveOk s) (d k : Nat) : GiveOk (give d s k) := by
  obtain ⟨h1, h2⟩ := h
  have hk := h2 k
  refine ⟨by simp only [Go.Sas.give]; omega, fun i => ?_⟩
  simp only [Go.Sas.give, updF]
  split
  · omega
  · exact h2 i
theorem GiveOk.foldl {d : Nat} : ∀ {l : List Nat} {s : Int × (Nat → Int) × (Nat → Nat → Int)}, GiveOk s → GiveOk (l.foldl (Go.Sas.give d) s)
  | [], _, h => h
  | k :: l, s, h => by rw [List.foldl_cons]; exact GiveOk.foldl (l := l) (s := Go.Sas.give d s k) (h.give d k)
theorem roomW_bnd {w : Win} (hw : ∀ x ∈ w.caps, 0 ≤ x ∧ x ≤ 1000000) (d : Nat) : 0 ≤ roomW w d ∧ roomW w d ≤ 1000000 := by
  unfold roomW
  split
  · rw [List.getD_eq_getElem?_getD]
    rcases h : w.caps[d]? with _ | x
    · simp
    · have := hw x (List.mem_of_getElem? h); simpa using this
  · omega
theorem foldl_take_succ {α β : Type} {f : β → α → β} {b : β} {l : List α} {j : Nat} {x : α} (hx : l[j]? = some x) : (l.take (j + 1)).foldl f b = f ((l.take j).foldl f b) x := by
  obtain ⟨h, rfl⟩ := List.getElem?_eq_some_iff.1 hx
  rw [List.take_succ_eq_append_getElem h, List.foldl_append]; rfl
theorem unitS_bnd {os : List Ord} (hu : ∀ o ∈ os, 0 ≤ o.u ∧ o.u ≤ 1000000) (k : Nat) : 0 ≤ unitS os k ∧ unitS os k ≤ 1000000 := by
  unfold unitS
  split
  · rename_i o h; exact hu o (List.mem_of_getElem? h)
  · omega
theorem unitS_none {os : List Ord} {k : Nat} (h : os.length ≤ k) : unitS os k = 0 := by
  simp [unitS, h]
/-- what an order gets -/
structure Dlv where
  on : Int
  late : Int
  lost : Int
  day : Int
abbrev dlV (x : Dlv) : AV := .agg [I x.on, I x.late, I x.lost, I x.day]
def sumI : List Int → Int
  | [] => 0
  | x :: r => x + sumI r
/-- the last day on which something goes; -1: none -/
def lastP (d : Int) : List Int → Int → Int
  | [], l => l
  | x :: r, l => lastP (d + 1) r (if 0 < x then d else l)
def tellO (o : Ord) (row : List Int) : Dlv :=
  ⟨sumI (row.take (o.d.toNat + 1)), sumI row - sumI (row.take (o.d.toNat + 1)), o.u - sumI row, if o.u - sumI row = 0 then lastP 0 row (-1) else -1⟩
def fineO (o : Ord) (x : Dlv) : Int := x.late * o.l + x.lost * o.s
def tellS (os : List Ord) (rows : List (List Int)) : List Dlv := (os.zip rows).map fun p => tellO p.1 p.2
def penS (os : List Ord) (rows : List (List Int)) : Int := sumI ((os.zip rows).map fun p => fineO p.1 (tellO p.1 p.2))
theorem sumI_append {a b : List Int} : sumI (a ++ b) = sumI a + sumI b := by
  induction a with
  | nil => simp [sumI]
  | cons x a ih => simp only [List.cons_append, sumI, ih]; omega
theorem sumI_bnd {lo hi : Int} {l : List Int} (h : ∀ x ∈ l, lo ≤ x ∧ x ≤ hi) : lo * l.length ≤ sumI l ∧ sumI l ≤ hi * l.length := by
  induction l with
  | nil => simp [sumI]
  | cons x l ih =>
    have h1 := h x (by simp)
    have h2 := ih fun y hy => h y (by simp [hy])
    have e1 : lo * ((l.length + 1 : Nat) : Int) = lo * l.length + lo := by rw [Int.natCast_add, Int.mul_add]; simp
    have e2 : hi * ((l.length + 1 : Nat) : Int) = hi * l.length + hi := by rw [Int.natCast_add, Int.mul_add]; simp
    simp only [sumI, List.length_cons]
    omega
abbrev dlC (x : Dlv) : List AV := [I x.on, I x.late, I x.lost, I x.day]
/-- rows that can be reckoned with -/
def RowsV (n D : Nat) (rows : List (List Int)) : Prop := rows.length = n ∧ ∀ r ∈ rows, r.length = D ∧ ∀ x ∈ r, 0 ≤ x ∧ x ≤ 1000000
def OrdsV (os : List Ord) : Prop := ∀ o ∈ os, (0 ≤ o.u ∧ o.u ≤ 1000000) ∧ (0 ≤ o.d ∧ o.d ≤ 200) ∧ (0 ≤ o.l ∧ o.l ≤ 1000000) ∧ (0 ≤ o.s ∧ o.s ≤ 1000000)
def rowsF (n D : Nat) (w : Nat → Nat → Int) : List (List Int) := (List.range n).map fun k => (List.range D).map (w k)
theorem wayV_rows {n D : Nat} {w : Nat → Nat → Int} : wayV n D w = .vs 1 ((rowsF n D w).map fun r => .vs 1 (r.map I)) := by
  simp [wayV, rowsF, rowF, List.map_map]
/-- the rows of a way, as they stand while the way is laid -/
def outC (b j n D : Nat) : List AV := (List.range n).map fun k => if k < j then .ms 1 (b + k) 0 0 D else .lit (.slice none 0 0)
theorem outC_len {b j n D : Nat} : (outC b j n D).length = n := by simp [outC]
theorem outC_zero {b n D : Nat} : List.flatten (List.replicate n ([Value.slice none 0 0].map AV.lit)) = outC b 0 n D := by
  have h1 : ∀ D, List.flatten (List.replicate D ([Value.slice none 0 0].map AV.lit)) = List.replicate D (.lit (.slice none 0 0)) := by
    intro D
    induction D with
    | zero => rfl
    | succ D ih => rw [List.replicate_succ, List.flatten_cons, ih]; rfl
  rw [h1]
  simp [outC, List.map_const']
theorem outC_set {b j n D : Nat} (h : j < n) : updS 1 (outC b j n D) j [.ms 1 (b + j) 0 0 D] (outC b (j + 1) n D) := by
  refine ⟨rfl, by rw [outC_len]; omega, ?_⟩
  have : (outC b j n D).set j (.ms 1 (b + j) 0 0 D) = outC b (j + 1) n D := by
    apply List.ext_getElem?; intro i
    rw [List.getElem?_set]
    by_cases hi : i < n
    · by_cases hd : j = i
      · subst hd; simp [outC, hi]
      · rw [if_neg hd]; simp only [outC, List.getElem?_map, List.getElem?_range hi, Option.map_some]
        congr 1
        by_cases h1 : i < j
        · rw [if_pos h1, if_pos (by omega)]
        · rw [if_neg h1, if_neg (by omega)]
    · simp [outC, hi]; intro h; omega
  rw [← this, List.set_eq_take_append_cons_drop, if_pos (by rw [outC_len]; exact h)]
  simp
theorem outC_get {b n D k : Nat} (h : k < n) : getS none (outC b n n D) k (.ms 1 (b + k) 0 0 D) := by
  simp [getS, getN, outC, h]
theorem rowF_congr {D : Nat} {f g : Nat → Int} (h : ∀ d, d < D → f d = g d) : rowF D f = rowF D g := by
  apply List.map_congr_left; intro d hd; rw [h d (List.mem_range.1 hd)]
theorem unitS_get {os : List Ord} {k : Nat} {o : Ord} (h : os[k]? = some o) : unitS os k = o.u := by
  simp [unitS, h]
def WayOk (w : Nat → Nat → Int) : Prop := ∀ k d, 0 ≤ w k d ∧ w k d ≤ 1000000
theorem give_way {d k : Nat} {s : Int × (Nat → Int) × (Nat → Nat → Int)} (h : GiveOk s) (hw : WayOk s.2.2) : WayOk (give d s k).2.2 := by
  intro i j
  have h1 := h.1; have h2 := h.2 k
  unfold give
  dsimp only
  by_cases hi : i = k
  · subst hi
    by_cases hj : j = d
    · subst hj; simp only [updF, if_true]; omega
    · simp only [updF, if_true, if_neg hj]; exact hw i j
  · simp only [updF, if_neg hi]; exact hw i j
theorem foldl_way {d : Nat} : ∀ {l : List Nat} {s : Int × (Nat → Int) × (Nat → Nat → Int)}, GiveOk s → WayOk s.2.2 → WayOk (l.foldl (give d) s).2.2
  | [], _, _, h => h
  | k :: l, s, h, hw => by rw [List.foldl_cons]; exact foldl_way (l := l) (s := give d s k) (h.give d k) (give_way h hw)
theorem daysG_ok {R : Nat → Int} {plan : List Nat} {u : Nat → Int} (hR : ∀ d, 0 ≤ R d ∧ R d ≤ 1000000) (hu : ∀ k, 0 ≤ u k ∧ u k ≤ 1000000) (D : Nat) : (∀ k, 0 ≤ (daysG R plan u D).1 k ∧ (daysG R plan u D).1 k ≤ 1000000) ∧ WayOk (daysG R plan u D).2 := by
  induction D with
  | zero => exact ⟨hu, fun _ _ => by simp [daysG]⟩
  | succ D ih =>
    rw [daysG_succ, dayG]
    have h1 : GiveOk (R D, (daysG R plan u D).1, (daysG R plan u D).2) := ⟨hR D, ih.1⟩
    exact ⟨(GiveOk.foldl (d := D) (l := plan) h1).2, foldl_way h1 ih.2⟩
theorem rowsF_v {n D : Nat} {w : Nat → Nat → Int} (h : WayOk w) : RowsV n D (rowsF n D w) := by
  refine ⟨by simp [rowsF], fun r hr => ?_⟩
  simp only [rowsF, List.mem_map, List.mem_range] at hr
  obtain ⟨k, _, rfl⟩ := hr
  refine ⟨by simp, fun x hx => ?_⟩
  simp only [List.mem_map, List.mem_range] at hx
  obtain ⟨d, _, rfl⟩ := hx
  exact h k d
end Go.Sas
namespace Go.Sas
open Go.Proofs
set_option maxRecDepth 100000
def eFaultF : List AV → Option ((AV → Prop) → Prop)
  | [.agg [.lit (.int .i64 a), .lit (.int .i64 b)], .lit (.int .i64 lo), .lit (.int .i64 hi)] => some fun K => ∀ q, q = faultF a b lo hi → K (I q)
  | _ => none
theorem eFaultF_ok {f : Nat} (hf : ∀ (a b lo hi : Int) (H : AHeap) {Kk : AV → AHeap → Prop}, Kk (I (faultF a b lo hi)) H → ACalls Tryd.prog f [.agg [I a, I b], I lo, I hi] H Kk) : ∀ args pt, eFaultF args = some pt → ∀ (H : AHeap) (Kk : AV → AHeap → Prop), pt (fun r => Kk r H) → ACalls Tryd.prog f args H Kk := by
  intro args pt h H Kk hk
  unfold eFaultF at h
  split at h
  · cases h; exact hf _ _ _ _ H (hk _ rfl)
  · cases h
theorem p6 (a b c d : Int) (cs : List (Int × Int)) (os : List Ord) (hc : cs.length ≤ 9223372036854775807) (ho : os.length ≤ 9223372036854775807) (H : AHeap) {Kk : AV → AHeap → Prop} (h : Kk (I (checkF ⟨(a, b), (c, d), cs, os⟩)) H) :
    ACalls Tryd.prog 6 [frV a b c d (.vs 2 (cs.map sp)) (.vs 4 (os.map orV))] H Kk := by
  refine pureC (by rfl) (by rfl) (fun Kk h => ?_) H h
  obtain ⟨xs, hxs⟩ : ∃ xs, xs = cs.map sp := ⟨_, rfl⟩
  rw [← hxs]
  obtain ⟨ys, hys⟩ : ∃ ys, ys = os.map orV := ⟨_, rfl⟩
  rw [← hys]
  obtain ⟨A, hA⟩ : ∃ A, A = std := ⟨_, rfl⟩
  obtain ⟨W, hW⟩ : ∃ W, W = checkF ⟨(a, b), (c, d), cs, os⟩ := ⟨_, rfl⟩
  rw [← hW] at h
  have hv : A.vlen xs = iLen cs.length := by subst hA; simp [std, hxs]
  have hw : A.vlen ys = iLen os.length := by subst hA; simp [std, hys]
  refine go6 rfl (SGo_run hA ⟨[], [], [(21, eIn), (20, eFaultF)], []⟩ (.cons (eIn_ok p21) (.cons (eFaultF_ok p20) .nil)) .nil 200 fun T TD hT hTD => ?_)
  cbv
  split <;> cbv
  · refine leaf h (congrArg I ?_) rfl
    rename_i hq; have hq : A.eq (A.vlen xs) 0 = true := hq
    rw [hv] at hq
    subst hA hW
    simp only [std, iEq, iLen, beq_iff_eq] at hq
    simp only [checkF]; rw [if_pos (by omega)]
  rename_i hq; have hq : A.eq (A.vlen xs) 0 = false := hq
  split <;> cbv
  · refine leaf h (congrArg I ?_) rfl
    rename_i hr; have hr : A.lt 200 (A.vlen xs) = true := hr
    rw [hv] at hq hr
    subst hA hW
    simp only [std, iEq, iLt, iLen, beq_eq_false_iff_ne, ne_eq, decide_eq_true_eq] at hq hr
    simp only [checkF]; rw [if_neg (by omega), if_pos (by omega)]
  rename_i hr; have hr : A.lt 200 (A.vlen xs) = false := hr
  obtain ⟨V4, hV4⟩ : ∃ V, V = orsF os := ⟨_, rfl⟩
  obtain ⟨V3, hV3⟩ : ∃ V, V = orElse (faultF c d 0 (A.sub .i64 (A.vlen xs) 1)) V4 := ⟨_, rfl⟩
  obtain ⟨V2, hV2⟩ : ∃ V, V = orElse (faultF a b 0 (A.sub .i64 (A.vlen xs) 1)) V3 := ⟨_, rfl⟩
  have hW : W = orElse (firstE capE cs) V2 := by
    have hs : A.sub .i64 (iLen cs.length) 1 = (cs.length : Int) - 1 := by subst hA; exact iSub_id (by simp only [iLen]; omega) (by simp only [iLen]; omega)
    rw [hv] at hq hr hV3 hV2
    rw [hV2, hV3, hV4, hs]
    subst hA hW
    simp only [std, iEq, iLt, iLen, beq_eq_false_iff_ne, ne_eq, decide_eq_false_iff_not] at hq hr
    simp only [checkF]; rw [if_neg (by omega), if_neg (by omega)]
  clear hq hr
  rw [hT]
  refine AGo_up cs.length (fun j => W = orElse (firstE capE (cs.drop j)) V2) (fun _ i => [(0, frV a b c d (.vs 2 xs) (.vs 4 ys)), (1, .mp 0 0 0), (2, I 0), (22, .vs 2 xs), (23, I (A.vlen xs)), (24, I i)]) (fun _ => [.own 0 [I a, I b, I c, I d, .vs 2 xs, .vs 4 ys]]) hW ⟨rfl, rfl, rfl, rfl, rfl, rfl, trivial⟩ (.inl rfl) fun j i hi hj hP Bk hB => ?_
  have hlt : A.lt i (A.vlen xs) = decide (j < cs.length) := by subst hA; exact lt_len (by simp [hxs]) hi
  have hadd : ∀ N, j < N → N ≤ 9223372036854775807 → A.add .i64 i 1 = iLen (j + 1) := fun N hj hN => by subst hA; exact add_one hi hj hN
  refine SGo_run hA ⟨[], [], [(21, eIn), (20, eFaultF)], []⟩ (.cons (eIn_ok p21) (.cons (eFaultF_ok p20) .nil)) .nil 200 fun T TD hT hTD => ?_
  cbv
  split <;> cbv
  · rename_i hk1
    have hk1 : j < cs.length := by have := hlt.symm.trans hk1; simpa using this
    obtain ⟨⟨x, y⟩, hx⟩ : ∃ x, cs[j]? = some x := ⟨_, List.getElem?_eq_getElem hk1⟩
    have hix : A.ix 2 2 xs i [I x, I y] := by subst hA; exact ix_map hxs hi hx rfl
    rw [firstE_drop hx] at hP
    refine Exists.intro _ (And.intro hix ?_); cbv
    intro q hfq
    cbv
    split <;> cbv
    · rename_i hn; have hn : A.ne q 0 = true := hn
      refine leaf h (congrArg I ?_) rfl
      subst hA
      simp only [std, iNe, bne_iff_ne, ne_eq] at hn
      rw [hP, hfq]
      rw [hfq] at hn
      have hE : capE (x, y) ≠ 0 := hn
      rw [if_neg hE]; unfold orElse; rw [if_neg hE]; rfl
    · rename_i hn; have hn : A.ne q 0 = false := hn
      refine hB _ _ hk1 ?_ ⟨rfl, rfl, rfl, rfl, rfl, congrArg I (hadd _ hk1 (by omega)), trivial⟩ (.inr ⟨⟨_, rfl⟩, Nat.zero_le _, by simp [ltG, AV.lt, AV.ltL], by simp [ltH, AObj.lt, AV.lt, AV.ltL]⟩)
      subst hA
      simp only [std, iNe, bne_eq_false_iff_eq] at hn
      rw [hP]
      have h0 : capE (x, y) = 0 := hfq.symm.trans hn
      rw [if_pos h0]
  · rename_i hk1
    have hk1 : ¬ j < cs.length := by have := hlt.symm.trans hk1; simpa using this
    have hW : W = V2 := by rw [hP, List.drop_eq_nil_of_le (by omega)]; rfl
    clear hP hB hlt hadd hk1
    rw [hT]
    refine AGo_up 2 (fun j => W = match j with | 0 => V2 | 1 => V3 | _ => V4) (fun _ i => [(0, frV a b c d (.vs 2 xs) (.vs 4 ys)), (1, .mp 0 0 0), (2, I 0), (38, .agg [I a, I b, I c, I d]), (39, I i)]) (fun _ => [.own 0 [I a, I b, I c, I d, .vs 2 xs, .vs 4 ys]]) hW ⟨rfl, rfl, rfl, rfl, rfl, trivial⟩ (.inl rfl) fun j i hi hj hP Bk hB => ?_
    have hlt : A.lt i 2 = decide (j < 2) := by subst hA hi; simp only [std, iLt, iLen, decide_eq_decide]; omega
    have hadd : j < 2 → A.add .i64 i 1 = iLen (j + 1) := fun hj => by subst hA; exact add_one hi hj (by omega)
    have hcase : j < 2 → ∃ p r Vn, A.aix 2 2 (some 2) [I a, I b, I c, I d] i (.agg [I p, I r]) ∧ W = orElse (faultF p r 0 (A.sub .i64 (A.vlen xs) 1)) Vn ∧ (W = Vn → W = match j + 1 with | 0 => V2 | 1 => V3 | _ => V4) := by
      intro h2
      have : j = 0 ∨ j = 1 := by omega
      rcases this with rfl | rfl
      · exact ⟨a, b, V3, by subst hA hi; exact ⟨by decide, by decide, rfl⟩, hP.trans hV2, fun h => h⟩
      · exact ⟨c, d, V4, by subst hA hi; exact ⟨by decide, by decide, rfl⟩, hP.trans hV3, fun h => h⟩
    refine SGo_run hA ⟨[], [], [(21, eIn), (20, eFaultF)], []⟩ (.cons (eIn_ok p21) (.cons (eFaultF_ok p20) .nil)) .nil 200 fun T TD hT hTD => ?_
    cbv
    split <;> cbv
    · rename_i hk1
      have hk1 : j < 2 := by have := hlt.symm.trans hk1; simpa using this
      obtain ⟨p, r, Vn, hix, hPn, hnx⟩ := hcase hk1
      refine Exists.intro _ (And.intro hix ?_); cbv
      intro q hfq
      cbv
      split <;> cbv
      · rename_i hn; have hn : A.ne q 0 = true := hn
        refine leaf h (congrArg I ?_) rfl
        rw [hPn, ← hfq]
        subst hA
        simp only [std, iNe, bne_iff_ne, ne_eq] at hn
        unfold orElse; rw [if_neg hn]
      · rename_i hn; have hn : A.ne q 0 = false := hn
        refine hB _ _ hk1 (hnx ?_) ⟨rfl, rfl, rfl, rfl, congrArg I (hadd hk1), trivial⟩ (.inr ⟨⟨_, rfl⟩, Nat.zero_le _, by simp [ltG, AV.lt, AV.ltL], by simp [ltH, AObj.lt, AV.lt, AV.ltL]⟩)
        rw [hPn, ← hfq]
        subst hA
        simp only [std, iNe, bne_eq_false_iff_eq] at hn
        unfold orElse; rw [if_pos hn]
    · rename_i hk1
      have hk1 : ¬ j < 2 := by have := hlt.symm.trans hk1; simpa using this
      have hW : W = V4 := by
        have : j = 2 := by omega
        subst this; exact hP
      clear hP hB hlt hadd hk1 hcase
      split <;> cbv
      · refine leaf h (congrArg I ?_) rfl
        rename_i hq1; have hq1 : A.eq (A.vlen ys) 0 = true := hq1
        rw [hw] at hq1
        rw [hW, hV4]
        subst hA
        simp only [std, iEq, iLen, beq_iff_eq] at hq1
        simp only [orsF]; rw [if_pos (by omega)]
      rename_i hq1; have hq1 : A.eq (A.vlen ys) 0 = false := hq1
      split <;> cbv
      · refine leaf h (congrArg I ?_) rfl
        rename_i hr1; have hr1 : A.lt 6 (A.vlen ys) = true := hr1
        rw [hw] at hq1 hr1
        rw [hW, hV4]
        subst hA
        simp only [std, iEq, iLt, iLen, beq_eq_false_iff_ne, ne_eq, decide_eq_true_eq] at hq1 hr1
        simp only [orsF]; rw [if_neg (by omega), if_pos (by omega)]
      rename_i hr1; have hr1 : A.lt 6 (A.vlen ys) = false := hr1
      have hW : W = firstE ordE os := by
        rw [hw] at hq1 hr1
        rw [hW, hV4]
        subst hA
        simp only [std, iEq, iLt, iLen, beq_eq_false_iff_ne, ne_eq, decide_eq_false_iff_not] at hq1 hr1
        simp only [orsF]; rw [if_neg (by omega), if_neg (by omega)]
      clear hq1 hr1
      rw [hT]
      refine AGo_up os.length (fun j => W = firstE ordE (os.drop j)) (fun _ i => [(0, frV a b c d (.vs 2 xs) (.vs 4 ys)), (1, .mp 0 0 0), (2, I 0), (63, .vs 4 ys), (64, I (A.vlen ys)), (65, I i)]) (fun _ => [.own 0 [I a, I b, I c, I d, .vs 2 xs, .vs 4 ys]]) hW ⟨rfl, rfl, rfl, rfl, rfl, rfl, trivial⟩ (.inl rfl) fun j i hi hj hP Bk hB => ?_
      have hlt : A.lt i (A.vlen ys) = decide (j < os.length) := by subst hA; exact lt_len (by simp [hys]) hi
      have hadd : ∀ N, j < N → N ≤ 9223372036854775807 → A.add .i64 i 1 = iLen (j + 1) := fun N hj hN => by subst hA; exact add_one hi hj hN
      refine SGo_run hA ⟨[], [], [(21, eIn), (20, eFaultF)], []⟩ (.cons (eIn_ok p21) (.cons (eFaultF_ok p20) .nil)) .nil 200 fun T TD hT hTD => ?_
      cbv
      split <;> cbv
      · rename_i hk1
        have hk1 : j < os.length := by have := hlt.symm.trans hk1; simpa using this
        obtain ⟨⟨ou, od, ol, ol2⟩, hx⟩ : ∃ x, os[j]? = some x := ⟨_, List.getElem?_eq_getElem hk1⟩
        have hix : A.ix 4 4 ys i [I ou, I od, I ol, I ol2] := by subst hA; exact ix_map hys hi hx rfl
        rw [firstE_drop hx] at hP
        have hR : ∀ e, e ≠ 0 → ordE ⟨ou, od, ol, ol2⟩ = e → W = e := fun e he h => by rw [hP, h, if_neg he]
        have hN : ordE ⟨ou, od, ol, ol2⟩ = 0 → W = firstE ordE (os.drop (j + 1)) := fun h => by rw [hP, if_pos h]
        refine Exists.intro _ (And.intro hix ?_); cbv
        repeat' (first | (intro q hfq; cbv) | (split <;> cbv))
        all_goals first
          | refine hB _ _ hk1 (hN ?_) ⟨rfl, rfl, rfl, rfl, rfl, congrArg I (hadd _ hk1 (by omega)), trivial⟩ (.inr ⟨⟨_, rfl⟩, Nat.zero_le _, by simp [ltG, AV.lt, AV.ltL], by simp [ltH, AObj.lt, AV.lt, AV.ltL]⟩)
          | refine leaf h (congrArg I (hR _ (by decide) ?_)) rfl
        all_goals
          clear hR hN hP hix hv hw hW hlt hadd hB hx
          subst hA
          simp only [std, iLt] at *
          simp only [ordE]
          by_cases u1 : 1 ≤ ou ∧ ou ≤ 1000000 <;> by_cases u2 : 0 ≤ od ∧ od ≤ 200 <;> by_cases u3 : 0 ≤ ol ∧ ol ≤ 1000000 <;> by_cases u4 : 0 ≤ ol2 ∧ ol2 ≤ 1000000 <;> by_cases u5 : ol2 < ol <;> simp_all
      · refine leaf h (congrArg I ?_) rfl
        rename_i hk1
        have hk1 : ¬ j < os.length := by have := hlt.symm.trans hk1; simpa using this
        rw [hP, List.drop_eq_nil_of_le (by omega)]; rfl
end Go.Sas
