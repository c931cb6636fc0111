/-
Lists that are built in a loop and then frozen.
Conditions: none.
-/
import Derived.Test.YtelmlpjkpebcgaaM14
import Derived.Test.YtelmlpjkpebcgaaM18
set_option linter.unusedVariables false
set_option linter.unusedSimpArgs false
namespace Go.Sas
variable {cx : Cx} {m : Nat} {k : List AItm} {R : Env → AHeap → Prop} {e : Env} {H H' : AHeap}
theorem AGo_frz1 (t : Nat) {id g sz n : Nat} {xs cs : List AV} (hX : H[id]? = some (.own g cs)) (ht : look e.g t = .ms sz id g 0 n) (hn : xs.length = n) (hE : Elems sz xs cs) (h : AGo cx m k R ⟨e.l, gset e.g t (.vs sz xs)⟩ (H.set id .gone)) : AGo cx m k R e H := by
  have hok := hE.2
  simp only [elemsOk, Bool.and_eq_true] at hok
  have hl := cellsL_len hE.1 hok.2
  refine AGo_freeze t hX ht ?_ (by rw [hl, hn]; omega) hn hE.2 h
  rw [cellsL_eq, hE.1, List.drop_zero, List.take_of_length_le (by rw [← hn]; omega)]
/-- one element more -/
theorem app_map {α : Type} {g : α → List AV} {sz by_ n : Nat} {l : List α} {x : α} {cs c : List AV} {v : AV} (hcs : cs = l.flatMap g) (hn : l.length = n) (hg : ∀ x, (g x).length = sz) (hv : v.cells = some c) (hc : c = g x) (hb : (n + 1) * by_ ≤ 140737488355328) :
    appS sz sz by_ cs 0 n [v] ((l ++ [x]).flatMap g) (n + 1) := by
  have hl : cs.length = n * sz := by rw [hcs, len_flat hg, hn]
  have := app_one (by_ := by_) hl hv hb
  rw [hc, hcs] at this
  rw [hcs]
  simpa using this
/-- loads of a row -/
def rowF (ws : List (Int × Int)) (g : Int) (i : Nat) : Load := ⟨g * iLen i, ws.getD i (0, 0), 0⟩
def rowL (ws : List (Int × Int)) (g : Int) : List Load := (List.range ws.length).map (rowF ws g)
theorem burd_row {p : Plate} {ws : List (Int × Int)} {g : Int} (hg : 0 ≤ g) (i : Nat) : ∀ n : Nat, (((List.range n).map (rowF ws g)).map (burdF true p (g * iLen i))).sum = rowTo p ws g (iLen i) n
  | 0 => rfl
  | n + 1 => by
    rw [List.range_succ, List.map_append, List.map_append, sum_app, burd_row hg i n]
    simp only [List.map_cons, List.map_nil, List.sum_cons, List.sum_nil, burdF, rowF, hevS, if_true, rowTo, Int.add_zero]
    have : farS (g * iLen i) (g * iLen n) = g * farS (iLen i) (iLen n) := by
      simp only [farS, iMax_eq]
      rw [← Int.mul_sub, ← Int.mul_sub]
      rcases Int.le_total (iLen i - iLen n) (iLen n - iLen i) with h | h
      · rw [Int.max_eq_right h, Int.max_eq_right (Int.mul_le_mul_of_nonneg_left h hg)]
      · rw [Int.max_eq_left h, Int.max_eq_left (Int.mul_le_mul_of_nonneg_left h hg)]
    rw [this]
/-- places enough for a row -/
def iceN (ws : List (Int × Int)) (g : Nat) : Nat := g * ws.length / 100 + 1
theorem row_load {ws : List (Int × Int)} (hR : RowV ws) {g i : Nat} (hi : i < ws.length) : LoadV (iceN ws g) (rowF ws (iLen g) i) := by
  have hb := hR.bnd (ws.getD i (0, 0)) (by rw [List.getD_eq_getElem?_getD, List.getElem?_eq_getElem hi]; simp)
  have h1 : g * i ≤ g * ws.length := Nat.mul_le_mul_left g (by omega)
  have h2 : (iLen g * iLen i : Int) = ((g * i : Nat) : Int) := by unfold iLen; simp
  unfold iceN
  constructor
  · show 0 ≤ iLen g * iLen i; rw [h2]; omega
  · show iLen g * iLen i ≤ _; rw [h2]; omega
  · exact hb.1
  · exact hb.2.1
  · exact hb.2.2
  · exact Int.le_refl 0
  · show (0 : Int) ≤ 10000; omega
theorem row_ve {p : Plate} (hV : PlateV p) {ws : List (Int × Int)} (hR : RowV ws) {g i : Nat} {t : Int} (hi : i < ws.length) : veS p (List.replicate (iceN ws g) (t, t)) [] (rowL ws (iLen g)) (rowF ws (iLen g) i) = 1 ↔ enS true p (rowTo p ws (iLen g) (iLen i) ws.length) t 0 = true := by
  have h := row_load hR (g := g) hi
  have h1 := h.at1
  have h2 := h.at2
  have hN : ((rowF ws (iLen g) i).at_ / 100).toNat < iceN ws g := by omega
  rw [ve_one]
  unfold beS burdS
  rw [show (rowF ws (iLen g) i).at_ = iLen g * iLen i from rfl] at hN ⊢
  rw [rowL, burd_row (by unfold iLen; omega) i ws.length]
  have : thickS true p (List.replicate (iceN ws g) (t, t)) [] (iLen g * iLen i) = t := by
    unfold thickS
    rw [List.getD_eq_getElem?_getD, List.getElem?_replicate_of_lt hN]
    simp [cutS, strS]
  rw [this]
  rfl
theorem row_holds {p : Plate} (hc : checkS p = 0) {ws : List (Int × Int)} (hR : RowV ws) {g : Nat} {t : Int} (ht : 0 ≤ t ∧ t ≤ 5000) (hg : iceN ws g ≤ 1000) :
    holdsS p (List.replicate (iceN ws g) (t, t)) [] (rowL ws (iLen g)) = ((rowL ws (iLen g)).map (veS p (List.replicate (iceN ws g) (t, t)) [] (rowL ws (iLen g))), 0) := by
  have hroad : checkAllS p (List.replicate (iceN ws g) (t, t)) [] = 0 := roadS_of hc (by simpa using hg) (fun x hx => by rw [(List.mem_replicate.1 hx).2]; simp only; omega) (by simp) (fun x hx => by simp at hx)
  have hl : loadsS (List.replicate (iceN ws g) (t, t)).length (rowL ws (iLen g)) = 0 := by
    refine loadsS_of (by simp [rowL]; exact hR.len) fun x hx => ?_
    simp only [rowL, List.mem_map, List.mem_range] at hx
    obtain ⟨i, hi, rfl⟩ := hx
    rw [List.length_replicate]
    exact row_load hR hi
  unfold holdsS
  rw [if_neg (by simp [hroad]), if_neg (by simp only [ne_eq, Decidable.not_not]; exact hl)]
end Go.Sas
