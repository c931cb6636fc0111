/-
The first number of which something holds; what ice bears, the least thickness, the longest standing.
A load alone: what is surely borne is what the ice bears.
The least gap of a row.
Lists that are built in a loop and then frozen.
Trucks that are as far apart as the least gap of a row of the heaviest ones are borne.
Conditions: none.
-/
import Derived.Test.YtndnjmpebpampaaGreatDoorJB
import Derived.Test.YtndnjmpebpampaaGreatDoorJA
set_option linter.unusedVariables false
set_option linter.unusedSimpArgs false
namespace Go.Sas
/-- the first number below n of which q holds; n if there is none -/
def firstN (q : Nat → Bool) : Nat → Nat
  | 0 => 0
  | n + 1 => if firstN q n < n then firstN q n else if q n then n else n + 1
theorem firstN_le {q : Nat → Bool} : ∀ n, firstN q n ≤ n
  | 0 => Nat.le_refl 0
  | n + 1 => by
    have := firstN_le (q := q) n
    simp only [firstN]; split
    · omega
    · split <;> omega
theorem firstN_lt {q : Nat → Bool} : ∀ {n i : Nat}, i < firstN q n → q i = false
  | 0, i, h => by simp [firstN] at h
  | n + 1, i, h => by
    have h1 := firstN_le (q := q) n
    simp only [firstN] at h
    split at h
    · exact firstN_lt h
    · rename_i h2
      split at h
      · exact firstN_lt (n := n) (by omega)
      · rename_i h3
        by_cases h4 : i < n
        · exact firstN_lt (n := n) (by omega)
        · rw [show i = n by omega]; simpa using h3
theorem firstN_at {q : Nat → Bool} : ∀ {n : Nat}, firstN q n < n → q (firstN q n) = true
  | 0, h => by simp [firstN] at h
  | n + 1, h => by
    simp only [firstN] at h ⊢
    split
    · rename_i h2; exact firstN_at h2
    · rename_i h2
      split
      · rename_i h3; exact h3
      · rename_i h3
        exfalso
        rw [if_neg h2, if_neg h3] at h; omega
theorem firstN_eq {q : Nat → Bool} {n r : Nat} (hr : r ≤ n) (h1 : ∀ i, i < r → q i = false) (h2 : r < n → q r = true) : r = firstN q n := by
  rcases Nat.lt_trichotomy r (firstN q n) with h | h | h
  · have h3 := firstN_lt h
    have h4 := h2 (by have := firstN_le (q := q) n; omega)
    rw [h3] at h4; cases h4
  · exact h
  · have h3 := firstN_at (q := q) (n := n) (by omega)
    rw [h1 _ h] at h3; cases h3
/-- where q, once true, stays true -/
theorem firstN_mono {q : Nat → Bool} {n r : Nat} (hm : ∀ i j, i ≤ j → q i = true → q j = true) (hr : r ≤ n) (h1 : ∀ i, r = i + 1 → q i = false) (h2 : r < n → q r = true) : r = firstN q n := by
  refine firstN_eq hr (fun i hi => ?_) h2
  cases hq : q i with
  | false => rfl
  | true =>
    obtain ⟨k, rfl⟩ : ∃ k, r = k + 1 := ⟨r - 1, by omega⟩
    have := hm i k (by omega) hq
    rw [h1 k rfl] at this; cases this
/-! ### What ice bears -/
/-! ### Entries of tables -/
def eCheckA : List AV → Option ((AV → Prop) → Prop)
  | [pl] => match asPl pl with
    | some x => some fun K => ∃ p, PlIs p x ∧ Big p.shares ∧ Big p.creep ∧ ∀ e, e = checkS p → K (I e)
    | none => none
  | _ => none
def eWiA : List AV → Option ((AV → Prop) → Prop)
  | [.lit (.int .i64 a), .lit (.int .i64 b), .lit (.int .i64 c)] => some fun K => ∀ q, q = wiS a b c → K (B q)
  | _ => none
end Go.Sas
namespace Go.Sas
theorem ve_one {p : Plate} {ice cr : List (Int × Int)} {l : List Load} {x : Load} : veS p ice cr l x = 1 ↔ beS true p ice cr l x = true := by
  unfold veS
  split
  · rename_i h; simp [h]
  · rename_i h; simp [h]; split <;> decide
end Go.Sas
namespace Go.Sas
def rowTo (p : Plate) (ws : List (Int × Int)) (g i : Int) : Nat → Int
  | 0 => 0
  | n + 1 => rowTo p ws g i n + (ws.getD n (0, 0)).2 * partS p.shares (g * farS i (iLen n))
def rowQ (p : Plate) (t : Int) (ws : List (Int × Int)) (g : Nat) : Bool := decide (∀ i, i < ws.length → enS true p (rowTo p ws (iLen g) (iLen i) ws.length) t 0 = true)
def gapS (p : Plate) (t : Int) (ws : List (Int × Int)) : Int × Int := if checkS p ≠ 0 then (0, checkS p) else if t < 0 ∨ 5000 < t then (0, 2) else if faultsS ws 30 200000 ≠ 0 then (0, faultsS ws 30 200000) else
  if firstN (rowQ p t ws) 10001 < 10001 then (iLen (firstN (rowQ p t ws) 10001), 0) else (-1, 0)
structure RowV (ws : List (Int × Int)) : Prop where
  len : ws.length ≤ 30
  bnd : ∀ x ∈ ws, 0 ≤ x.1 ∧ x.1 ≤ x.2 ∧ x.2 ≤ 200000
theorem RowV.get {ws : List (Int × Int)} (h : RowV ws) (n : Nat) : 0 ≤ (ws.getD n (0, 0)).2 ∧ (ws.getD n (0, 0)).2 ≤ 200000 := by
  rw [List.getD_eq_getElem?_getD]
  cases hx : ws[n]? with
  | none => simp
  | some x => have := h.bnd x (List.mem_of_getElem? hx); simp only [Option.getD_some]; omega
theorem rowTo_bnd {p : Plate} (hV : PlateV p) {ws : List (Int × Int)} (h : RowV ws) {g i : Int} : ∀ n : Nat, 0 ≤ rowTo p ws g i n ∧ rowTo p ws g i n ≤ n * 200000000000
  | 0 => by simp [rowTo]
  | n + 1 => by
    have ih := rowTo_bnd hV h (g := g) (i := i) n
    have h1 := h.get n
    have h2 := hV.sh.part (g * farS i (iLen n))
    obtain ⟨_, e2, e3⟩ := mulB h1 h2 (by omega)
    simp only [rowTo]
    omega
theorem rowTo_down {p : Plate} (hV : PlateV p) {ws : List (Int × Int)} (h : RowV ws) {g g' i : Int} (hg : g ≤ g') : ∀ n : Nat, rowTo p ws g' i n ≤ rowTo p ws g i n
  | 0 => by simp [rowTo]
  | n + 1 => by
    have ih := rowTo_down hV h hg (i := i) n
    have h1 := h.get n
    have h3 : g * farS i (iLen n) ≤ g' * farS i (iLen n) := Int.mul_le_mul_of_nonneg_right hg (farS_nn _ _)
    have h2 := Int.mul_le_mul_of_nonneg_left (hV.sh.mono h3) h1.1
    simp only [rowTo]
    omega
theorem rowQ_mono {p : Plate} (hV : PlateV p) {t : Int} {ws : List (Int × Int)} (h : RowV ws) : ∀ i j, i ≤ j → rowQ p t ws i = true → rowQ p t ws j = true := fun i j hij hq => by
  unfold rowQ at hq ⊢
  simp only [decide_eq_true_eq] at hq ⊢
  intro k hk
  have h1 := hq k hk
  have h2 := rowTo_down hV h (g := iLen i) (g' := iLen j) (i := iLen k) (by unfold iLen; omega) ws.length
  unfold enS at h1 ⊢
  simp only [decide_eq_true_eq] at h1 ⊢
  omega
theorem faultsS_row {ws : List (Int × Int)} (h : faultsS ws 30 200000 = 0) : RowV ws := by
  obtain ⟨h1, h2⟩ := faultsS_ok h
  exact ⟨by omega, h2⟩
end Go.Sas
namespace Go.Sas
variable {cx : Cx} {m : Nat} {k : List AItm} {R : Env → AHeap → Prop} {e : Env} {H H' : AHeap}
theorem AGo_frz1 (t : Nat) {id g sz n : Nat} {xs cs : List AV} (hX : H[id]? = some (.own g cs)) (ht : look e.g t = .ms sz id g 0 n) (hn : xs.length = n) (hE : Elems sz xs cs) (h : AGo cx m k R ⟨e.l, gset e.g t (.vs sz xs)⟩ (H.set id .gone)) : AGo cx m k R e H := by
  have hok := hE.2
  simp only [elemsOk, Bool.and_eq_true] at hok
  have hl := cellsL_len hE.1 hok.2
  refine AGo_freeze t hX ht ?_ (by rw [hl, hn]; omega) hn hE.2 h
  rw [cellsL_eq, hE.1, List.drop_zero, List.take_of_length_le (by rw [← hn]; omega)]
/-- one element more -/
theorem app_map {α : Type} {g : α → List AV} {sz by_ n : Nat} {l : List α} {x : α} {cs c : List AV} {v : AV} (hcs : cs = l.flatMap g) (hn : l.length = n) (hg : ∀ x, (g x).length = sz) (hv : v.cells = some c) (hc : c = g x) (hb : (n + 1) * by_ ≤ 140737488355328) :
    appS sz sz by_ cs 0 n [v] ((l ++ [x]).flatMap g) (n + 1) := by
  have hl : cs.length = n * sz := by rw [hcs, len_flat hg, hn]
  have := app_one (by_ := by_) hl hv hb
  rw [hc, hcs] at this
  rw [hcs]
  simpa using this
end Go.Sas
namespace Go.Sas
theorem sorted_of {g : Int} (hg : 0 ≤ g) {l : List Int} (h : l.Pairwise fun x y => x + g ≤ y ∨ y + g ≤ x) : ∃ s : List Int, s.Perm l ∧ s.Pairwise fun x y => x + g ≤ y := by
  have hp := List.mergeSort_perm l (fun x y => decide (x ≤ y))
  refine ⟨_, hp, ?_⟩
  have h1 : (l.mergeSort (fun x y => decide (x ≤ y))).Pairwise fun x y => x + g ≤ y ∨ y + g ≤ x := (hp.pairwise_iff (fun h => Or.symm h)).2 h
  have h2 := List.pairwise_mergeSort (le := fun x y : Int => decide (x ≤ y)) (fun a b c h1 h2 => by simp only [decide_eq_true_eq] at *; omega) (fun a b => by simp only [Bool.or_eq_true, decide_eq_true_eq]; omega) l
  refine List.Pairwise.imp (fun {a b} h => ?_) (List.Pairwise.and h1 h2)
  have := h.2
  simp only [decide_eq_true_eq] at this
  rcases h.1 with h | h <;> omega
theorem sorted_far {g : Int} (hg : 0 ≤ g) {s : List Int} (h : s.Pairwise fun x y => x + g ≤ y) : ∀ (d i : Nat) {x y : Int}, s[i]? = some x → s[i + d]? = some y → x + g * d ≤ y
  | 0, i, x, y, hx, hy => by
    rw [Nat.add_zero] at hy
    rw [hx] at hy; cases hy
    simp
  | d + 1, i, x, y, hx, hy => by
    have hlt : i + (d + 1) < s.length := (List.getElem?_eq_some_iff.1 hy).1
    obtain ⟨z, hz⟩ : ∃ z, s[i + d]? = some z := ⟨_, List.getElem?_eq_getElem (by omega)⟩
    have h1 := sorted_far hg h d i hx hz
    have h2 := List.pairwise_iff_getElem.1 h (i + d) (i + (d + 1)) (by omega) hlt (by omega)
    rw [(List.getElem?_eq_some_iff.1 hz).2, (List.getElem?_eq_some_iff.1 hy).2] at h2
    have e : g * ((d + 1 : Nat) : Int) = g * (d : Nat) + g := by rw [Int.natCast_add, Int.mul_add]; simp
    omega
/-- how much stands on a place, of weights that are as far apart -/
theorem far_sum {p : Plate} (hV : PlateV p) {W g m : Int} (hW : 0 ≤ W) (hg : 0 ≤ g) {s : List Int} (hs : s.Pairwise fun x y => x + g ≤ y) {a N : Nat} (ha : s[a]? = some m) : ∀ k : Nat, k ≤ s.length → k ≤ N → ((s.take k).map fun q => W * partS p.shares (farS m q)).sum ≤ rowTo p (List.replicate N (W, W)) g (iLen a) k
  | 0, _, _ => by simp [rowTo]
  | k + 1, hk, hN => by
    have ih := far_sum hV hW hg hs (N := N) ha k (by omega) (by omega)
    obtain ⟨q, hq⟩ : ∃ q, s[k]? = some q := ⟨_, List.getElem?_eq_getElem (by omega)⟩
    have hkl : k < s.length := by omega
    rw [List.take_succ_eq_append_getElem hkl, List.map_append, sum_app]
    rw [(List.getElem?_eq_some_iff.1 hq).2]
    simp only [List.map_cons, List.map_nil, List.sum_cons, List.sum_nil, rowTo, Int.add_zero]
    rw [show ((List.replicate N (W, W)).getD k (0, 0)).2 = W by rw [List.getD_eq_getElem?_getD, List.getElem?_replicate_of_lt (by omega)]; rfl]
    have hd : g * farS (iLen a) (iLen k) ≤ farS m q := by
      simp only [farS, iMax_eq]
      rcases Nat.le_total a k with h | h
      · obtain ⟨d, rfl⟩ := Nat.exists_eq_add_of_le h
        have h1 := sorted_far hg hs d a ha hq
        have e : max (iLen a - iLen (a + d)) (iLen (a + d) - iLen a) = (d : Int) := by unfold iLen; omega
        rw [e]; omega
      · obtain ⟨d, rfl⟩ := Nat.exists_eq_add_of_le h
        have h1 := sorted_far hg hs d k hq ha
        have e : max (iLen (k + d) - iLen k) (iLen k - iLen (k + d)) = (d : Int) := by unfold iLen; omega
        rw [e]; omega
    have := Int.mul_le_mul_of_nonneg_left (hV.sh.mono hd) hW
    omega
theorem rowTo_up {p : Plate} (hV : PlateV p) {ws : List (Int × Int)} (h : RowV ws) {g i : Int} {k : Nat} : ∀ {n : Nat}, k ≤ n → rowTo p ws g i k ≤ rowTo p ws g i n
  | 0, hn => by rw [show k = 0 by omega]; exact Int.le_refl _
  | n + 1, hn => by
    by_cases he : k = n + 1
    · rw [he]; exact Int.le_refl _
    have ih := rowTo_up hV h (g := g) (i := i) (k := k) (n := n) (by omega)
    have h1 := h.get n
    have h2 := hV.sh.part (g * farS i (iLen n))
    obtain ⟨_, e2, e3⟩ := mulB h1 h2 (by omega)
    simp only [rowTo]
    omega
theorem sum_perm {l l' : List Int} (h : l.Perm l') : l.sum = l'.sum := by
  induction h with
  | nil => rfl
  | cons x _ ih => simp [ih]
  | swap x y l => simp only [List.sum_cons]; omega
  | trans _ _ h1 h2 => rw [h1, h2]
theorem burd_le {p : Plate} (hV : PlateV p) {W m : Int} : ∀ {l : List Load}, (∀ o ∈ l, 0 ≤ o.w.1 ∧ o.w.1 ≤ o.w.2 ∧ o.w.2 ≤ W) → burdS true p l m ≤ ((l.map (·.at_)).map fun q => W * partS p.shares (farS m q)).sum
  | [], _ => by simp [burdS]
  | o :: l, h => by
    have ih := burd_le hV (m := m) (l := l) fun x hx => h x (List.mem_cons_of_mem _ hx)
    have h1 := h o (List.mem_cons_self ..)
    have h2 := hV.sh.part (farS m o.at_)
    have h3 := Int.mul_le_mul_of_nonneg_right h1.2.2 h2.1
    simp only [burdS, List.map_cons, List.sum_cons, burdF, hevS, if_true] at ih ⊢
    omega
/-- each of the trucks on the lane is borne -/
theorem lane_sure {p : Plate} (hV : PlateV p) {t W : Int} {N M : Nat} (hR : RowV (List.replicate N (W, W))) (hW : 0 ≤ W) {g : Nat} {gap : Int} (hq : rowQ p t (List.replicate N (W, W)) g = true) (hg : iLen g ≤ gap)
    {l : List Load} (hl : l.length ≤ N) (hw : ∀ o ∈ l, 0 ≤ o.w.1 ∧ o.w.1 ≤ o.w.2 ∧ o.w.2 ≤ W) (hs : ∀ o ∈ l, o.st = 0) (hp : ∀ o ∈ l, 0 ≤ o.at_ ∧ (o.at_ / 100).toNat < M) (hd : (l.map (·.at_)).Pairwise fun x y => x + gap ≤ y ∨ y + gap ≤ x) {x : Load} (hx : x ∈ l) :
    veS p (List.replicate M (t, t)) [] l x = 1 := by
  have hgn : 0 ≤ iLen g := by unfold iLen; omega
  have hd2 : (l.map (·.at_)).Pairwise fun x y => x + iLen g ≤ y ∨ y + iLen g ≤ x := hd.imp fun h => by rcases h with h | h <;> omega
  obtain ⟨s, hsp, hss⟩ := sorted_of hgn hd2
  have hm : x.at_ ∈ s := hsp.mem_iff.2 (List.mem_map_of_mem hx)
  obtain ⟨a, ha⟩ := List.mem_iff_getElem?.1 hm
  have hsl : s.length = l.length := by rw [hsp.length_eq, List.length_map]
  have haN : a < N := by have := (List.getElem?_eq_some_iff.1 ha).1; omega
  have h1 := far_sum hV hW hgn hss ha s.length (Nat.le_refl _) (N := N) (by omega)
  rw [List.take_length] at h1
  have h2 := burd_le hV (m := x.at_) hw
  rw [← sum_perm (hsp.map _)] at h2
  have h3 := rowTo_up hV hR (g := iLen g) (i := iLen a) (k := s.length) (n := N) (by omega)
  unfold rowQ at hq
  simp only [decide_eq_true_eq, List.length_replicate] at hq
  have h4 := hq a haN
  rw [ve_one]
  have hth : thickS true p (List.replicate M (t, t)) [] x.at_ = t := by
    unfold thickS
    rw [List.getD_eq_getElem?_getD, List.getElem?_replicate_of_lt (hp x hx).2]
    simp [cutS, strS]
  unfold beS
  rw [hth, hs x hx]
  unfold enS at h4 ⊢
  simp only [decide_eq_true_eq] at h4 ⊢
  omega
end Go.Sas
