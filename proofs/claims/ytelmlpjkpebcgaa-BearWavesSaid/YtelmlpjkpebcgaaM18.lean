/-
A load alone: what is surely borne is what the ice bears.
The least gap of a row.
The least gap of a row: contracts.
Conditions: none.
-/
import Derived.Test.YtelmlpjkpebcgaaM17
import Derived.Test.YtelmlpjkpebcgaaM11
set_option linter.unusedVariables false
set_option linter.unusedSimpArgs false
namespace Go.Sas
theorem fold_pos {n : Int} : ∀ {l : List (Int × Int)} {o : Int × Int}, (∀ y ∈ l, n < y.1) → l.foldl (lastF n) o = o
  | [], _, _ => rfl
  | y :: l, o, h => by
    rw [List.foldl_cons, show lastF n o y = o from if_neg (by have := h y (by simp); omega)]
    exact fold_pos fun z hz => h z (by simp [hz])
theorem part_zero {l : List (Int × Int)} (h : TabV l) : partS l 0 = 1000000 := by
  have h1 := h.srt
  have h2 := h.hd
  cases l with
  | nil => exact absurd rfl h.ne
  | cons x l =>
    simp only [List.headD_cons] at h2
    subst h2
    have h3 := (List.pairwise_cons.1 h1).1
    unfold partS lastS
    rw [List.foldl_cons, List.headD_cons, show lastF 0 (0, 1000000) (0, 1000000) = (0, 1000000) from if_pos (by decide)]
    rw [fold_pos fun y hy => (h3 y hy).1]
theorem ve_one {p : Plate} {ice cr : List (Int × Int)} {l : List Load} {x : Load} : veS p ice cr l x = 1 ↔ beS true p ice cr l x = true := by
  unfold veS
  split
  · rename_i h; simp [h]
  · rename_i h; simp [h]; split <;> decide
theorem alone_be {p : Plate} (hV : PlateV p) {t m w n : Int} (hm : 0 ≤ m ∧ m < 100) : beS true p [(t, t)] [] [⟨m, (w, w), n⟩] ⟨m, (w, w), n⟩ = decide (w ≤ aloS p t n) := by
  have hi : (m / 100).toNat = 0 := by omega
  have hf : farS m m = 0 := by simp [farS, iMax_eq]
  unfold beS enS burdS
  simp only [List.map_cons, List.map_nil, List.sum_cons, List.sum_nil, burdF, hevS, if_true, thickS, hi, hf, List.any_nil, part_zero hV.sh]
  rw [decide_eq_decide]
  unfold aloS
  rw [Int.le_ediv_iff_mul_le (by omega)]
  simp [cutS, strS]
  omega
theorem alone_ve {p : Plate} (hV : PlateV p) {t m w n : Int} (hm : 0 ≤ m ∧ m < 100) : veS p [(t, t)] [] [⟨m, (w, w), n⟩] ⟨m, (w, w), n⟩ = 1 ↔ w ≤ aloS p t n := by
  rw [ve_one, alone_be hV hm, decide_eq_true_eq]
/-- how long it may stand -/
theorem stands_iff {p : Plate} (hV : PlateV p) {t w : Int} (ht : 0 ≤ t) {n : Int} (hn : 0 ≤ n ∧ n ≤ 10000) : n ≤ iLen (firstN (longQ p t w) 10001) - 1 ↔ w ≤ aloS p t n := by
  have h1 := firstN_le (q := longQ p t w) 10001
  obtain ⟨k, rfl⟩ : ∃ k : Nat, n = k := ⟨n.toNat, by omega⟩
  unfold iLen
  constructor
  · intro h
    have h2 : longQ p t w k = false := firstN_lt (n := 10001) (by omega)
    unfold longQ at h2
    simp only [decide_eq_false_iff_not] at h2; omega
  · intro h
    have h3 : ¬ firstN (longQ p t w) 10001 ≤ k := fun h4 => by
      have h5 := firstN_at (q := longQ p t w) (n := 10001) (by omega)
      have h6 := longQ_mono hV ht _ _ h4 h5
      unfold longQ at h6
      simp only [decide_eq_true_eq] at h6; omega
    omega
end Go.Sas
namespace Go.Sas
def rowTo (p : Plate) (ws : List (Int × Int)) (g i : Int) : Nat → Int
  | 0 => 0
  | n + 1 => rowTo p ws g i n + (ws.getD n (0, 0)).2 * partS p.shares (g * farS i (iLen n))
def rowQ (p : Plate) (t : Int) (ws : List (Int × Int)) (g : Nat) : Bool := decide (∀ i, i < ws.length → enS true p (rowTo p ws (iLen g) (iLen i) ws.length) t 0 = true)
def gapS (p : Plate) (t : Int) (ws : List (Int × Int)) : Int × Int := if checkS p ≠ 0 then (0, checkS p) else if t < 0 ∨ 5000 < t then (0, 2) else if faultsS ws 30 200000 ≠ 0 then (0, faultsS ws 30 200000) else
  if firstN (rowQ p t ws) 10001 < 10001 then (iLen (firstN (rowQ p t ws) 10001), 0) else (-1, 0)
structure RowV (ws : List (Int × Int)) : Prop where
  len : ws.length ≤ 30
  bnd : ∀ x ∈ ws, 0 ≤ x.1 ∧ x.1 ≤ x.2 ∧ x.2 ≤ 200000
theorem RowV.get {ws : List (Int × Int)} (h : RowV ws) (n : Nat) : 0 ≤ (ws.getD n (0, 0)).2 ∧ (ws.getD n (0, 0)).2 ≤ 200000 := by
  rw [List.getD_eq_getElem?_getD]
  cases hx : ws[n]? with
  | none => simp
  | some x => have := h.bnd x (List.mem_of_getElem? hx); simp only [Option.getD_some]; omega
theorem rowTo_bnd {p : Plate} (hV : PlateV p) {ws : List (Int × Int)} (h : RowV ws) {g i : Int} : ∀ n : Nat, 0 ≤ rowTo p ws g i n ∧ rowTo p ws g i n ≤ n * 200000000000
  | 0 => by simp [rowTo]
  | n + 1 => by
    have ih := rowTo_bnd hV h (g := g) (i := i) n
    have h1 := h.get n
    have h2 := hV.sh.part (g * farS i (iLen n))
    obtain ⟨_, e2, e3⟩ := mulB h1 h2 (by omega)
    simp only [rowTo]
    omega
theorem rowTo_down {p : Plate} (hV : PlateV p) {ws : List (Int × Int)} (h : RowV ws) {g g' i : Int} (hg : g ≤ g') : ∀ n : Nat, rowTo p ws g' i n ≤ rowTo p ws g i n
  | 0 => by simp [rowTo]
  | n + 1 => by
    have ih := rowTo_down hV h hg (i := i) n
    have h1 := h.get n
    have h3 : g * farS i (iLen n) ≤ g' * farS i (iLen n) := Int.mul_le_mul_of_nonneg_right hg (farS_nn _ _)
    have h2 := Int.mul_le_mul_of_nonneg_left (hV.sh.mono h3) h1.1
    simp only [rowTo]
    omega
theorem rowQ_mono {p : Plate} (hV : PlateV p) {t : Int} {ws : List (Int × Int)} (h : RowV ws) : ∀ i j, i ≤ j → rowQ p t ws i = true → rowQ p t ws j = true := fun i j hij hq => by
  unfold rowQ at hq ⊢
  simp only [decide_eq_true_eq] at hq ⊢
  intro k hk
  have h1 := hq k hk
  have h2 := rowTo_down hV h (g := iLen i) (g' := iLen j) (i := iLen k) (by unfold iLen; omega) ws.length
  unfold enS at h1 ⊢
  simp only [decide_eq_true_eq] at h1 ⊢
  omega
theorem faultsS_row {ws : List (Int × Int)} (h : faultsS ws 30 200000 = 0) : RowV ws := by
  obtain ⟨h1, h2⟩ := faultsS_ok h
  exact ⟨by omega, h2⟩
end Go.Sas
namespace Go.Sas
open Go.Proofs
set_option maxRecDepth 100000
/-- a sum of one row -/
theorem row_step {p : Plate} (hV : PlateV p) {ws : List (Int × Int)} (hR : RowV ws) {g i s : Int} {k : Nat} {x : Int × Int} (hx : ws[k]? = some x) (hs : s = rowTo p ws g i k) {f : Int} (hf : f = partS p.shares (g * farS i (iLen k))) :
    iAdd .i64 s (iMul .i64 x.2 f) = rowTo p ws g i (k + 1) := by
  have hk := (List.getElem?_eq_some_iff.1 hx).1
  have hl := hR.len
  have h1 := rowTo_bnd hV hR (g := g) (i := i) k
  have h2 := hR.get k
  have hg : ws.getD k (0, 0) = x := by rw [List.getD_eq_getElem?_getD, hx]; rfl
  rw [hg] at h2
  have h3 := hV.sh.part (g * farS i (iLen k))
  rw [← hf] at h3
  obtain ⟨e1, e2, e3⟩ := mulB h2 h3 (by omega)
  rw [e1, iAdd_id (by omega) (by omega)]
  simp only [rowTo]
  rw [hg, ← hf, ← hs]
theorem far_mul {g : Int} {i k : Nat} (hg : 0 ≤ g ∧ g ≤ 10000) (hi : i ≤ 30) (hk : k ≤ 30) : iMul .i64 g (iMax (iSub .i64 (iLen i) (iLen k)) (iSub .i64 (iLen k) (iLen i))) = g * farS (iLen i) (iLen k) := by
  rw [iSub_id (by unfold iLen; omega) (by unfold iLen; omega), iSub_id (by unfold iLen; omega) (by unfold iLen; omega)]
  have h : 0 ≤ farS (iLen i) (iLen k) ∧ farS (iLen i) (iLen k) ≤ 30 := by simp only [farS, iMax_eq]; unfold iLen; omega
  exact (mulB hg h (by omega)).1
abbrev rowH (a b : Int) (xs ec : List AV) (ne ed gr lo hi sh wi t : Int) (xw : List AV) : AHeap :=
  [.own 0 (plC a b xs ec ne ed gr lo hi sh wi), .own 0 [I t], .own 0 [.vs 2 xw], .own 0 [B true, I a, I b, .vs 2 xs, .vs 2 ec, I ne, I ed, I gr, I lo, I hi, I sh, I wi, .lit (.slice none 0 0), .lit (.slice none 0 0)]]
set_option maxHeartbeats 4000000 in
theorem p109 (p : Plate) {a b : Int} {xs ec : List AV} {ne ed gr lo hi sh wi : Int} (hp : PlateIs p a b xs ec ne ed gr lo hi sh wi) (hV : PlateV p) (t : Int) (ht : 0 ≤ t ∧ t ≤ 5000) (ws : List (Int × Int)) (hR : RowV ws) (g : Nat) (hg : g ≤ 10000) {xw : List AV} (hxw : xw = ws.map sp) {Kk : AV → AHeap → Prop} (h : Kk (B (rowQ p t ws g)) (rowH a b xs ec ne ed gr lo hi sh wi t xw)) :
    ACalls Try.prog 109 [I (iLen g), .mp 2 0 0, .mp 0 0 0, .mp 3 0 0, .mp 1 0 0] (rowH a b xs ec ne ed gr lo hi sh wi t xw) Kk := by
  obtain ⟨A, hA⟩ : ∃ A, A = std := ⟨_, rfl⟩
  obtain ⟨S, hS⟩ : ∃ S, S = stS := ⟨_, rfl⟩
  obtain ⟨S2, hS2⟩ : ∃ S, S = st2 := ⟨_, rfl⟩
  obtain ⟨W, hW⟩ : ∃ W, W = rowQ p t ws g := ⟨_, rfl⟩
  rw [← hW] at h
  obtain ⟨gv, hgv⟩ : ∃ v, v = iLen g := ⟨_, rfl⟩
  have hgb : 0 ≤ gv ∧ gv ≤ 10000 := by rw [hgv]; unfold iLen; omega
  have hnb : ∀ b, A.bnot b = !b := by subst hA; intro b; rfl
  have hlen := hR.len
  have hvl : xw.length = ws.length := by rw [hxw]; simp
  have hsp : xs = p.shares.map sp := hp.hs
  obtain ⟨sl, hsl⟩ : ∃ sl, sl = p.shares := ⟨_, rfl⟩
  have hs : xs = sl.map sp := by rw [hsl]; exact hsp
  have hs1 : sl ≠ [] := by rw [hsl]; exact hV.sh.ne
  have hs2 : sl.length ≤ 9223372036854775807 := by rw [hsl]; have := hV.sh.len; omega
  rw [← hgv]
  refine go109 rfl (SGo_run hA ⟨[], [], [], []⟩ .nil .nil 200 fun T TD hT hTD => ?_)
  cbv
  rw [hT]
  refine AGo_up ws.length (fun j => ∀ i, i < j → enS true p (rowTo p ws gv (iLen i) ws.length) t 0 = true) (fun _ i => [(0, I gv), (1, .mp 2 0 0), (2, .mp 0 0 0), (3, .mp 3 0 0), (4, .mp 1 0 0), (6, B false), (12, I (A.vlen xw)), (13, I i)]) (fun _ => rowH a b xs ec ne ed gr lo hi sh wi t xw) (fun i hi => absurd hi (by omega)) ⟨rfl, rfl, rfl, rfl, rfl, rfl, rfl, rfl, trivial⟩ (.inl rfl) fun j i hij hj hP Bk hB => ?_
  have hlt : A.lt i (A.vlen xw) = decide (j < ws.length) := by subst hA; exact lt_len hvl hij
  have hadd : j < ws.length → A.add .i64 i 1 = iLen (j + 1) := fun hj => by subst hA; exact add_one hij hj (by omega)
  refine SGo_run hA ⟨[], [], [], []⟩ .nil .nil 200 fun T TD hT hTD => ?_
  cbv
  split <;> cbv
  · rename_i z
    have hj1 : j < ws.length := by have z := hlt.symm.trans z; simpa using z
    rw [hT]
    refine AGo_upS ws.length (fun k (s : Int) => s = rowTo p ws gv (iLen j) k) (fun _ s k => [(0, I gv), (1, .mp 2 0 0), (2, .mp 0 0 0), (3, .mp 3 0 0), (4, .mp 1 0 0), (6, B false), (12, I (A.vlen xw)), (13, I i), (7, I i), (8, I s), (16, .vs 2 xw), (17, I (A.vlen xw)), (18, I k)]) (fun _ _ => rowH a b xs ec ne ed gr lo hi sh wi t xw) 0 rfl ⟨rfl, rfl, rfl, rfl, rfl, rfl, rfl, rfl, rfl, rfl, rfl, rfl, rfl, trivial⟩ (.inl rfl) fun k s q hq hk hs' Bk2 hB2 => ?_
    have hlt2 : A.lt q (A.vlen xw) = decide (k < ws.length) := by subst hA; exact lt_len hvl hq
    have hadd2 : k < ws.length → A.add .i64 q 1 = iLen (k + 1) := fun hj => by subst hA; exact add_one hq hj (by omega)
    have hsb : 0 ≤ rowTo p ws gv (iLen j) ws.length ∧ rowTo p ws gv (iLen j) ws.length ≤ 6000000000000 := by have := rowTo_bnd hV hR (g := gv) (i := iLen j) ws.length; omega
    refine SGo_run hA ⟨[], [], [(110, ePart S), (111, eEn S2)], []⟩ (.cons (ePart_ok p110 hS) (.cons (eEn_ok hS2) .nil)) .nil 200 fun T TD hT hTD => ?_
    cbv
    split <;> cbv
    · rename_i z
      have hk1 : k < ws.length := by have z := hlt2.symm.trans z; simpa using z
      obtain ⟨⟨x, y⟩, hx⟩ : ∃ x, ws[k]? = some x := ⟨_, List.getElem?_eq_getElem hk1⟩
      have hix : A.ix 2 2 xw q [I x, I y] := by subst hA; exact ix_map hxw hq hx rfl
      refine Exists.intro _ (And.intro hix ?_)
      cbv
      refine Exists.intro sl (And.intro hs (And.intro hs1 (And.intro hs2 ?_)))
      cbv
      refine hB2 _ _ _ hk1 ?_ ⟨rfl, rfl, rfl, rfl, rfl, rfl, rfl, rfl, rfl, rfl, rfl, rfl, congrArg I (hadd2 hk1), trivial⟩ (hf_drop _ rfl (by simp) rfl)
      show A.add .i64 s (A.mul .i64 y (S.part sl (A.mul .i64 gv (A.max (A.sub .i64 i q) (A.sub .i64 q i))))) = _
      have e : S.part sl (A.mul .i64 gv (A.max (A.sub .i64 i q) (A.sub .i64 q i))) = partS p.shares (gv * farS (iLen j) (iLen k)) := by
        rw [hsl, ← far_mul hgb (by omega) (by omega), hij, hq]; subst hA hS; rfl
      have := row_step hV hR hx hs' e
      subst hA; exact this
    · rename_i z
      have hk1 : k = ws.length := by have z := hlt2.symm.trans z; simp at z; omega
      rw [hk1] at hs'
      rw [← hs'] at hsb
      refine Exists.intro p (And.intro hp (And.intro hV (And.intro (by omega) (And.intro ht ?_))))
      have e : A.bnot (S2.en true p s t 0) = !(enS true p (rowTo p ws gv (iLen j) ws.length) t 0) := by rw [hnb, hs', hS2]; rfl
      cbv
      split <;> cbv
      · rename_i z
        have z := e.symm.trans z
        have z : enS true p (rowTo p ws gv (iLen j) ws.length) t 0 = false := by simpa using z
        refine leaf h (congrArg B ?_) rfl
        rw [hW, rowQ, decide_eq_false_iff_not]
        intro hall
        have := hall j hj1
        rw [← hgv, z] at this; cases this
      · rename_i z
        have z := e.symm.trans z
        have z : enS true p (rowTo p ws gv (iLen j) ws.length) t 0 = true := by simpa using z
        refine hB _ _ hj1 (fun i hi => ?_) ⟨rfl, rfl, rfl, rfl, rfl, rfl, rfl, congrArg I (hadd hj1), trivial⟩ (.inl rfl)
        rcases Nat.lt_succ_iff_lt_or_eq.1 hi with h | h
        · exact hP i h
        · rw [h]; exact z
  · rename_i z
    have hj1 : ¬ j < ws.length := by have z := hlt.symm.trans z; simpa using z
    refine leaf h (congrArg B ?_) rfl
    rw [hW, rowQ, decide_eq_true_eq]
    intro i hi
    rw [← hgv]; exact hP i (by omega)
theorem enS_bor {p : Plate} (hV : PlateV p) (u t : Int) : borS u p.str.1 t 1000000 = enS true p u t 0 := by
  unfold borS enS
  rw [part_zero hV.cr]; rfl
set_option maxHeartbeats 4000000 in
theorem p113 (p : Plate) {a b : Int} {xs ec : List AV} {ne ed gr lo hi sh wi : Int} (hp : PlateIs p a b xs ec ne ed gr lo hi sh wi) (hV : PlateV p) (t : Int) (ht : 0 ≤ t ∧ t ≤ 5000) (ws : List (Int × Int)) (hR : RowV ws) (g : Nat) (hg : g ≤ 10000) (H : AHeap) {Kk : AV → AHeap → Prop} (h : Kk (B (rowQ p t ws g)) H) :
    ACalls Try.prog 113 [plV a b (.vs 2 xs) (.vs 2 ec) ne ed gr lo hi sh wi, I t, .vs 2 (ws.map sp), I (iLen g)] H Kk := by
  refine (fun q => pureC (by rfl) (by rfl) q H h) ?_
  clear h
  intro Kk h
  obtain ⟨A, hA⟩ : ∃ A, A = std := ⟨_, rfl⟩
  obtain ⟨S, hS⟩ : ∃ S, S = stS := ⟨_, rfl⟩
  obtain ⟨S2, hS2⟩ : ∃ S, S = st2 := ⟨_, rfl⟩
  obtain ⟨W, hW⟩ : ∃ W, W = rowQ p t ws g := ⟨_, rfl⟩
  rw [← hW] at h
  obtain ⟨gv, hgv⟩ : ∃ v, v = iLen g := ⟨_, rfl⟩
  obtain ⟨xw, hxw⟩ : ∃ v, v = ws.map sp := ⟨_, rfl⟩
  have hgb : 0 ≤ gv ∧ gv ≤ 10000 := by rw [hgv]; unfold iLen; omega
  have hnb : ∀ b, A.bnot b = !b := by subst hA; intro b; rfl
  have hlen := hR.len
  have hvl : xw.length = ws.length := by rw [hxw]; simp
  have hsp : xs = p.shares.map sp := hp.hs
  obtain ⟨sl, hsl⟩ : ∃ sl, sl = p.shares := ⟨_, rfl⟩
  have hs : xs = sl.map sp := by rw [hsl]; exact hsp
  have hs1 : sl ≠ [] := by rw [hsl]; exact hV.sh.ne
  have hs2 : sl.length ≤ 9223372036854775807 := by rw [hsl]; have := hV.sh.len; omega
  have hpa : a = p.str.1 := by rw [hp.str]
  have hab : 0 ≤ a ∧ a ≤ 100000 := by rw [hpa]; have := hV.s1; have := hV.s2; have := hV.s3; omega
  rw [← hgv, ← hxw]
  refine go113 rfl (SGo_run hA ⟨[], [], [], []⟩ .nil .nil 200 fun T TD hT hTD => ?_)
  cbv
  rw [hT]
  refine AGo_up ws.length (fun j => ∀ i, i < j → enS true p (rowTo p ws gv (iLen i) ws.length) t 0 = true) (fun _ i => [(0, plV a b (.vs 2 xs) (.vs 2 ec) ne ed gr lo hi sh wi), (1, I t), (2, .vs 2 xw), (3, I gv), (4, .mp 0 0 0), (8, B false), (9, I i)]) (fun _ => [.own 0 (plC a b xs ec ne ed gr lo hi sh wi)]) (fun i hi => absurd hi (by omega)) ⟨rfl, rfl, rfl, rfl, rfl, rfl, rfl, trivial⟩ (.inl rfl) fun j i hij hj hP Bk hB => ?_
  have hlt : A.lt i (A.vlen xw) = decide (j < ws.length) := by subst hA; exact lt_len hvl hij
  have hadd : j < ws.length → A.add .i64 i 1 = iLen (j + 1) := fun hj => by subst hA; exact add_one hij hj (by omega)
  refine SGo_run hA ⟨[], [], [], []⟩ .nil .nil 200 fun T TD hT hTD => ?_
  cbv
  split <;> cbv
  · rename_i z
    have hj1 : j < ws.length := by have z := hlt.symm.trans z; simpa using z
    rw [hT]
    refine AGo_upS ws.length (fun k (s : Int) => s = rowTo p ws gv (iLen j) k) (fun _ s k => [(0, plV a b (.vs 2 xs) (.vs 2 ec) ne ed gr lo hi sh wi), (1, I t), (2, .vs 2 xw), (3, I gv), (4, .mp 0 0 0), (8, B false), (9, I i), (10, I s), (11, I k)]) (fun _ _ => [.own 0 (plC a b xs ec ne ed gr lo hi sh wi)]) 0 rfl ⟨rfl, rfl, rfl, rfl, rfl, rfl, rfl, rfl, rfl, trivial⟩ (.inl rfl) fun k s q hq hk hs' Bk2 hB2 => ?_
    have hlt2 : A.lt q (A.vlen xw) = decide (k < ws.length) := by subst hA; exact lt_len hvl hq
    have hadd2 : k < ws.length → A.add .i64 q 1 = iLen (k + 1) := fun hj => by subst hA; exact add_one hq hj (by omega)
    have hsb : 0 ≤ rowTo p ws gv (iLen j) ws.length ∧ rowTo p ws gv (iLen j) ws.length ≤ 6000000000000 := by have := rowTo_bnd hV hR (g := gv) (i := iLen j) ws.length; omega
    have hsm : k < ws.length → Sm i ∧ Sm q := fun h => by rw [hij, hq]; unfold Sm iLen; omega
    refine SGo_run hA ⟨[], [], [(142, eFar S2), (130, ePart S), (132, eBor S2)], []⟩ (.cons (eFar_ok hS2) (.cons (ePart_ok p130 hS) (.cons (eBor_ok hS2) .nil))) .nil 200 fun T TD hT hTD => ?_
    cbv
    split <;> cbv
    · rename_i z
      have hk1 : k < ws.length := by have z := hlt2.symm.trans z; simpa using z
      obtain ⟨⟨x, y⟩, hx⟩ : ∃ x, ws[k]? = some x := ⟨_, List.getElem?_eq_getElem hk1⟩
      have hix : A.ix 2 2 xw q [I x, I y] := by subst hA; exact ix_map hxw hq hx rfl
      refine Exists.intro _ (And.intro hix ?_)
      cbv
      refine Exists.intro () (And.intro (hsm hk1) ?_)
      cbv
      refine Exists.intro sl (And.intro hs (And.intro hs1 (And.intro hs2 ?_)))
      cbv
      refine hB2 _ _ _ hk1 ?_ ⟨rfl, rfl, rfl, rfl, rfl, rfl, rfl, rfl, congrArg I (hadd2 hk1), trivial⟩ (.inl rfl)
      show A.add .i64 s (A.mul .i64 y (S.part sl (A.mul .i64 (S2.far i q) gv))) = _
      have e : S.part sl (A.mul .i64 (S2.far i q) gv) = partS p.shares (gv * farS (iLen j) (iLen k)) := by
        have hf : 0 ≤ farS (iLen j) (iLen k) ∧ farS (iLen j) (iLen k) ≤ 30 := by simp only [farS, iMax_eq]; unfold iLen; omega
        have e1 := (mulB hf hgb (by omega)).1
        rw [hsl, hij, hq, Int.mul_comm gv, ← e1]; subst hA hS hS2; rfl
      have := row_step hV hR hx hs' e
      subst hA; exact this
    · rename_i z
      have hk1 : k = ws.length := by have z := hlt2.symm.trans z; simp at z; omega
      rw [hk1] at hs'
      rw [← hs'] at hsb
      refine Exists.intro () (And.intro hsb (And.intro hab (And.intro ht (And.intro (by omega) ?_))))
      have e : A.bnot (S2.bor s a t 1000000) = !(enS true p (rowTo p ws gv (iLen j) ws.length) t 0) := by rw [hnb, hs', hS2, hpa, ← enS_bor hV]; rfl
      cbv
      split <;> cbv
      · rename_i z
        have z := e.symm.trans z
        have z : enS true p (rowTo p ws gv (iLen j) ws.length) t 0 = false := by simpa using z
        refine leaf h (congrArg B ?_) rfl
        rw [hW, rowQ, decide_eq_false_iff_not]
        intro hall
        have := hall j hj1
        rw [← hgv, z] at this; cases this
      · rename_i z
        have z := e.symm.trans z
        have z : enS true p (rowTo p ws gv (iLen j) ws.length) t 0 = true := by simpa using z
        refine hB _ _ hj1 (fun i hi => ?_) ⟨rfl, rfl, rfl, rfl, rfl, rfl, congrArg I (hadd hj1), trivial⟩ (.inl rfl)
        rcases Nat.lt_succ_iff_lt_or_eq.1 hi with h | h
        · exact hP i h
        · rw [h]; exact z
  · rename_i z
    have hj1 : ¬ j < ws.length := by have z := hlt.symm.trans z; simpa using z
    refine leaf h (congrArg B ?_) rfl
    rw [hW, rowQ, decide_eq_true_eq]
    intro i hi
    rw [← hgv]; exact hP i (by omega)
theorem p63 (p : Plate) {a b : Int} {xs ec : List AV} {ne ed gr lo hi sh wi : Int} (hp : PlateIs p a b xs ec ne ed gr lo hi sh wi) (h1 : Big p.shares) (h2 : Big p.creep) (t : Int) (ws : List (Int × Int)) (h3 : BigL ws) (H : AHeap) {Kk : AV → AHeap → Prop} (h : Kk (.tup [I (gapS p t ws).1, I (gapS p t ws).2]) H) :
    ACalls Try.prog 63 [plV a b (.vs 2 xs) (.vs 2 ec) ne ed gr lo hi sh wi, I t, .vs 2 (ws.map sp)] H Kk := by
  refine (fun q => pureC (by rfl) (by rfl) q H h) ?_
  clear h
  intro Kk h
  obtain ⟨A, hA⟩ : ∃ A, A = std := ⟨_, rfl⟩
  obtain ⟨S, hS⟩ : ∃ S, S = stS := ⟨_, rfl⟩
  obtain ⟨W, hW⟩ : ∃ W, W = gapS p t ws := ⟨_, rfl⟩
  rw [← hW] at h
  obtain ⟨xw, hxw⟩ : ∃ v, v = ws.map sp := ⟨_, rfl⟩
  rw [← hxw]
  have hnb : ∀ b, A.bnot b = !b := by subst hA; intro b; rfl
  have eF : S.faults ws 30 200000 = faultsS ws 30 200000 := by subst hS; rfl
  refine go63 rfl (SGo_run hA ⟨[], [], (59, eCheckA) :: (94, eWiA) :: (108, eFaults S) :: [], []⟩ (.cons (eCheckA_ok p59) (.cons eWiA_ok (.cons (eFaults_ok p108 hS) .nil))) .nil 200 fun T TD hT hTD => ?_)
  cbv
  refine Exists.intro p (And.intro hp (And.intro h1 (And.intro h2 ?_)))
  rintro e he
  cbv
  unfold gapS at hW
  split <;> cbv
  · rename_i hq
    have hq : e ≠ 0 := by have hq : A.ne e 0 = true := hq; subst hA; simpa [std, iNe] using hq
    rw [if_pos (by rw [← he]; exact hq)] at hW
    refine leaf h ?_ rfl
    rw [hW, ← he]; try rfl
  rename_i hq
  have hq : checkS p = 0 := by have hq : A.ne e 0 = false := hq; rw [← he]; subst hA; simpa [std, iNe] using hq
  rw [if_neg (by simp [hq])] at hW
  have hV := checkS_ok hq
  clear he
  rintro q1 hq1
  have hn1 : A.bnot q1 = !(wiS t 0 5000) := by rw [hq1]; exact hnb _
  cbv
  by_cases hc : t < 0 ∨ 5000 < t
  · rw [if_pos hc] at hW
    split <;> cbv
    · refine leaf h ?_ rfl; rw [hW]; try rfl
    · exfalso
      rename_i z
      have z := hn1.symm.trans z
      simp [wiS] at z
      omega
  rw [if_neg hc] at hW
  split <;> cbv
  · exfalso
    rename_i z
    have z := hn1.symm.trans z
    simp [wiS] at z
    omega
  clear hn1
  refine Exists.intro ws (And.intro hxw (And.intro h3 ?_))
  cbv
  split <;> cbv
  · rename_i z
    have z : faultsS ws 30 200000 ≠ 0 := by have z : A.ne (S.faults ws 30 200000) 0 = true := z; rw [eF] at z; subst hA; simpa [std, iNe] using z
    rw [if_pos z] at hW
    refine leaf h ?_ rfl; rw [hW, ← eF]; try rfl
  rename_i z
  have z : faultsS ws 30 200000 = 0 := by have z : A.ne (S.faults ws 30 200000) 0 = false := z; rw [eF] at z; subst hA; simpa [std, iNe] using z
  rw [if_neg (by simp [z])] at hW
  have hR := faultsS_row z
  rw [hT]
  refine AGo_call rfl rfl (fid := 103) (caps := []) ?_
  show ACalls _ 103 [I (iLen 10001), .fn 109 [.mp 2 0 0, .mp 0 0 0, .mp 3 0 0, .mp 1 0 0]] (rowH a b xs ec ne ed gr lo hi sh wi t xw) _
  refine p103 (rowQ p t ws) 10001 (by omega) _ rfl rfl (fun t1 ht1 Kk hk => p109 p hp hV t (by omega) ws hR t1 (by omega) hxw hk) ?_
  intro r hr1 hr2 hr3
  have hr := firstN_mono (rowQ_mono hV hR) hr1 hr2 hr3
  rw [← hr] at hW
  obtain ⟨rv, hrv⟩ : ∃ v, v = iLen r := ⟨_, rfl⟩
  rw [← hrv] at hW ⊢
  have hgt : A.lt 10000 rv = decide (10000 < r) := by subst hA; rw [hrv]; simp only [std, iLt]; unfold iLen; rw [decide_eq_decide]; omega
  refine SGo_run hA ⟨[], [], [], []⟩ .nil .nil 200 fun T TD hT hTD => ?_
  cbv
  split <;> cbv
  · rename_i z
    have z := hgt.symm.trans z
    simp only [decide_eq_true_eq] at z
    rw [if_neg (by omega)] at hW
    refine leaf h ?_ rfl; rw [hW]; try rfl
  · rename_i z
    have z := hgt.symm.trans z
    simp only [decide_eq_false_iff_not] at z
    rw [if_pos (by omega)] at hW
    refine leaf h ?_ rfl; rw [hW]; try rfl
def eRowA : List AV → Option ((AV → Prop) → Prop)
  | [pl, .lit (.int .i64 t), x, .lit (.int .i64 g)] => match asPl pl, asVs 2 x with
    | some x, some xw => some fun K => ∃ p ws k, PlIs p x ∧ PlateV p ∧ (0 ≤ t ∧ t ≤ 5000) ∧ xw = ws.map sp ∧ RowV ws ∧ (g = iLen k ∧ k ≤ 10000) ∧ ∀ q, q = rowQ p t ws k → K (B q)
    | _, _ => none
  | _ => none
theorem eRowA_ok : ∀ args pt, eRowA args = some pt → ∀ (H : AHeap) (Kk : AV → AHeap → Prop), pt (fun r => Kk r H) → ACalls Try.prog 113 args H Kk := by
  intro args pt h H Kk hk
  unfold eRowA at h
  split at h
  · split at h
    · rename_i x xw hy hz
      cases h
      obtain ⟨a, b, xs, ec, ne, ed, gr, lo, hi, sh, wi⟩ := x
      obtain ⟨p, ws, k, g1, g2, g3, rfl, g4, ⟨rfl, g5⟩, g6⟩ := hk
      exact (p113 p g1 g2 _ g3 ws g4 k g5 H (g6 _ rfl)).wk ⟨asPl_wk hy, Wk.rfl, asVs_wk hz, Wk.rfl, trivial⟩
    · cases h
  · cases h
theorem mid2 {i j : Nat} (hi : i ≤ 10001) (hj : j ≤ 10001) (h : i + 1 < j) : iQuo .i64 (iAdd .i64 (iLen i - 1) (iLen j - 1)) 2 = iLen ((i + j) / 2 - 1) := by
  rw [iAdd_id (by unfold iLen; omega) (by unfold iLen; omega), iQuo_id (by unfold iLen; omega) (by unfold iLen; omega) (by omega)]
  unfold iLen; omega
theorem p64 (p : Plate) {a b : Int} {xs ec : List AV} {ne ed gr lo hi sh wi : Int} (hp : PlateIs p a b xs ec ne ed gr lo hi sh wi) (h1 : Big p.shares) (h2 : Big p.creep) (t : Int) (ws : List (Int × Int)) (h3 : BigL ws) (H : AHeap) {Kk : AV → AHeap → Prop} (h : Kk (.tup [I (gapS p t ws).1, I (gapS p t ws).2]) H) :
    ACalls Try.prog 64 [plV a b (.vs 2 xs) (.vs 2 ec) ne ed gr lo hi sh wi, I t, .vs 2 (ws.map sp)] H Kk := by
  refine (fun q => pureC (by rfl) (by rfl) q H h) ?_
  clear h
  intro Kk h
  obtain ⟨A, hA⟩ : ∃ A, A = std := ⟨_, rfl⟩
  obtain ⟨S, hS⟩ : ∃ S, S = stS := ⟨_, rfl⟩
  obtain ⟨W, hW⟩ : ∃ W, W = gapS p t ws := ⟨_, rfl⟩
  rw [← hW] at h
  obtain ⟨xw, hxw⟩ : ∃ v, v = ws.map sp := ⟨_, rfl⟩
  rw [← hxw]
  have hnb : ∀ b, A.bnot b = !b := by subst hA; intro b; rfl
  have eF : S.faults ws 30 200000 = faultsS ws 30 200000 := by subst hS; rfl
  refine go64 rfl (SGo_run hA ⟨[], [], (60, eCheckA) :: (98, eOuA) :: (112, eFaults S) :: (113, eRowA) :: [], []⟩ (.cons (eCheckA_ok p60) (.cons eOuA_ok (.cons (eFaults_ok p112 hS) (.cons eRowA_ok .nil)))) .nil 200 fun T TD hT hTD => ?_)
  cbv
  refine Exists.intro p (And.intro hp (And.intro h1 (And.intro h2 ?_)))
  rintro e he
  cbv
  unfold gapS at hW
  split <;> cbv
  · rename_i hq
    have hq : e ≠ 0 := by have hq : A.ne e 0 = true := hq; subst hA; simpa [std, iNe] using hq
    rw [if_pos (by rw [← he]; exact hq)] at hW
    refine leaf h ?_ rfl
    rw [hW, ← he]; try rfl
  rename_i hq
  have hq : checkS p = 0 := by have hq : A.ne e 0 = false := hq; rw [← he]; subst hA; simpa [std, iNe] using hq
  rw [if_neg (by simp [hq])] at hW
  have hV := checkS_ok hq
  clear he
  rintro q1 hq1
  by_cases hc : t < 0 ∨ 5000 < t
  · rw [if_pos hc] at hW
    cases q1 <;> cbv
    · exfalso
      have z := hq1.symm
      simp [ouS] at z
      omega
    · refine leaf h ?_ rfl; rw [hW]; try rfl
  rw [if_neg hc] at hW
  cases q1 <;> cbv
  case true =>
    exfalso
    have z := hq1.symm
    simp [ouS] at z
    omega
  clear hq1
  refine Exists.intro ws (And.intro hxw (And.intro h3 ?_))
  cbv
  split <;> cbv
  · rename_i z
    have z : faultsS ws 30 200000 ≠ 0 := by have z : A.ne (S.faults ws 30 200000) 0 = true := z; rw [eF] at z; subst hA; simpa [std, iNe] using z
    rw [if_pos z] at hW
    refine leaf h ?_ rfl; rw [hW, ← eF]; try rfl
  rename_i z
  have z : faultsS ws 30 200000 = 0 := by have z : A.ne (S.faults ws 30 200000) 0 = false := z; rw [eF] at z; subst hA; simpa [std, iNe] using z
  rw [if_neg (by simp [z])] at hW
  have hR := faultsS_row z
  have htb : 0 ≤ t ∧ t ≤ 5000 := by omega
  refine Exists.intro p (Exists.intro ws (Exists.intro 10000 (And.intro hp (And.intro hV (And.intro htb (And.intro hxw (And.intro hR (And.intro ⟨rfl, Nat.le_refl _⟩ ?_)))))))) 
  rintro q2 hq2
  have e : A.bnot q2 = !rowQ p t ws 10000 := by rw [hnb, hq2]
  cbv
  split <;> cbv
  · rename_i z
    have z := e.symm.trans z
    have z : rowQ p t ws 10000 = false := by simpa using z
    have hr := firstN_mono (n := 10001) (r := 10001) (rowQ_mono hV hR (t := t)) (Nat.le_refl _) (fun i hi => by rw [show i = 10000 by omega]; exact z) (fun h => absurd h (by omega))
    rw [← hr, if_neg (by omega)] at hW
    refine leaf h ?_ rfl; rw [hW]; try rfl
  rename_i z
  have z := e.symm.trans z
  have z : rowQ p t ws 10000 = true := by simpa using z
  rw [hT]
  refine AGo_while (σ := { x : Nat × Nat // x.1 < x.2 ∧ x.2 ≤ 10001 ∧ (∀ i, x.1 = i + 1 → rowQ p t ws i = false) ∧ (∀ i, x.2 = i + 1 → rowQ p t ws i = true) }) (fun x => x.1.2 - x.1.1) (fun x => [(0, plV a b (.vs 2 xs) (.vs 2 ec) ne ed gr lo hi sh wi), (1, I t), (2, .vs 2 xw), (3, .mp 0 0 0), (6, I 0), (7, I 0), (10, I (iLen x.1.1 - 1)), (11, I (iLen x.1.2 - 1))]) (fun _ => [.own 0 (plC a b xs ec ne ed gr lo hi sh wi)]) ⟨(0, 10001), by omega, by omega, fun i hi => by simp only at hi; omega, fun i hi => by rw [show i = 10000 by simp only at hi; omega]; exact z⟩ ⟨rfl, rfl, rfl, rfl, rfl, rfl, rfl, rfl, trivial⟩ (.inl rfl) ?_
  rintro ⟨⟨i, j⟩, g1, g2, g3, g4⟩ Bk hB
  simp only at g1 g2 g3 g4
  simp only
  obtain ⟨u, hu⟩ : ∃ u, u = iLen i - 1 := ⟨_, rfl⟩
  obtain ⟨v, hv⟩ : ∃ u, u = iLen j - 1 := ⟨_, rfl⟩
  have hgt : A.lt 1 (A.sub .i64 v u) = decide (i + 1 < j) := by
    subst hA; simp only [std]; rw [hu, hv, iSub_id (by unfold iLen; omega) (by unfold iLen; omega)]
    simp only [iLt]; rw [decide_eq_decide]; unfold iLen; omega
  have hmd : i + 1 < j → A.quo .i64 (A.add .i64 u v) 2 = iLen ((i + j) / 2 - 1) := fun h => by subst hA; rw [hu, hv]; exact mid2 (by omega) (by omega) h
  rw [← hu, ← hv]
  refine SGo_run hA ⟨[], [], (113, eRowA) :: [], []⟩ (.cons eRowA_ok .nil) .nil 200 fun T TD hT hTD => ?_
  cbv
  split <;> cbv
  · rename_i z
    have hij : i + 1 < j := by have z := hgt.symm.trans z; simpa using z
    have hmd := hmd hij
    refine Exists.intro p (Exists.intro ws (Exists.intro ((i + j) / 2 - 1) (And.intro hp (And.intro hV (And.intro htb (And.intro hxw (And.intro hR (And.intro ⟨hmd, by omega⟩ ?_))))))))
    rintro q3 hq3
    cases q3 <;> cbv
    · refine hB ⟨((i + j) / 2, j), by simp only; omega, g2, fun k hk => ?_, g4⟩ _ _ (by simp only; omega) ⟨rfl, rfl, rfl, rfl, rfl, rfl, congrArg I (hmd.trans (by simp only; unfold iLen; omega)), congrArg I hv, trivial⟩ (.inl rfl)
      simp only at hk
      rw [show k = (i + j) / 2 - 1 by omega]; exact hq3.symm
    · refine hB ⟨(i, (i + j) / 2), by simp only; omega, by simp only; omega, g3, fun k hk => ?_⟩ _ _ (by simp only; omega) ⟨rfl, rfl, rfl, rfl, rfl, rfl, congrArg I hu, congrArg I (hmd.trans (by simp only; unfold iLen; omega)), trivial⟩ (.inl rfl)
      simp only at hk
      rw [show k = (i + j) / 2 - 1 by omega]; exact hq3.symm
  · rename_i z
    have hij : ¬ i + 1 < j := by have z := hgt.symm.trans z; simpa using z
    have hji : j = i + 1 := by omega
    have hr := firstN_mono (n := 10001) (r := i) (rowQ_mono hV hR (t := t)) (by omega) g3 (fun _ => g4 i hji)
    rw [← hr, if_pos (by omega)] at hW
    have hvi : v = iLen i := by rw [hv, hji]; unfold iLen; omega
    refine leaf h ?_ rfl
    rw [hW, ← hvi]; try rfl
def eGapA : List AV → Option ((AV → Prop) → Prop)
  | [pl, .lit (.int .i64 t), x] => match asPl pl, asVs 2 x with
    | some x, some xw => some fun K => ∃ p ws, PlIs p x ∧ Big p.shares ∧ Big p.creep ∧ (xw = ws.map sp ∧ BigL ws) ∧ ∀ a e, (a, e) = gapS p t ws → K (.tup [I a, I e])
    | _, _ => none
  | _ => none
theorem eGapA_ok {f : Nat} (hf : ∀ (p : Plate) {a b : Int} {xs ec : List AV} {ne ed gr lo hi sh wi : Int}, PlateIs p a b xs ec ne ed gr lo hi sh wi → Big p.shares → Big p.creep → ∀ (t : Int) (ws : List (Int × Int)), BigL ws → ∀ (H : AHeap) {Kk : AV → AHeap → Prop}, Kk (.tup [I (gapS p t ws).1, I (gapS p t ws).2]) H →
    ACalls Try.prog f [plV a b (.vs 2 xs) (.vs 2 ec) ne ed gr lo hi sh wi, I t, .vs 2 (ws.map sp)] H Kk) : ∀ args pt, eGapA args = some pt → ∀ (H : AHeap) (Kk : AV → AHeap → Prop), pt (fun r => Kk r H) → ACalls Try.prog f args H Kk := by
  intro args pt h H Kk hk
  unfold eGapA at h
  split at h
  · split at h
    · rename_i x xw hy hz
      cases h
      obtain ⟨a, b, xs, ec, ne, ed, gr, lo, hi, sh, wi⟩ := x
      obtain ⟨p, ws, g1, g2, g3, ⟨rfl, g4⟩, g6⟩ := hk
      exact (hf p g1 g2 g3 _ ws g4 H (g6 _ _ rfl)).wk ⟨asPl_wk hy, Wk.rfl, asVs_wk hz, trivial⟩
    · cases h
  · cases h
def sRow : List AV → Option ((Unit → Prop) × (AV → Prop))
  | [.lit (.int .i64 n)] => some (fun _ => 0 ≤ n ∧ n ≤ 1000, LsQ 2 sp fun l => iLen l.length ≤ n ∧ ∀ x ∈ l, 0 ≤ x.1 ∧ x.1 ≤ x.2 ∧ x.2 ≤ 30000)
  | _ => none
theorem sRow_ok : ∀ rest pre Q, sRow rest = some (pre, Q) → pre () → Draws Try.prog 62 rest Q := by
  intro rest pre Q h hp
  unfold sRow at h
  split at h
  · cases h; exact d62 _ hp
  · cases h
end Go.Sas
