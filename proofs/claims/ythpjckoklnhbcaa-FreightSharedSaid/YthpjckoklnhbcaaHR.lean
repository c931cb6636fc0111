/-
Freight: no way of delivering costs less than the bound: a plain law.
Freight: shares of an amount: plain functions and laws.
Conditions: none.
-/
import Derived.Test.YthpjckoklnhbcaaHI
import Derived.Test.YthpjckoklnhbcaaQGM2
set_option linter.unusedVariables false
set_option linter.unusedSimpArgs false
namespace Go.Sas
theorem insV_perm {α : Type} {lt : α → Bool} {x : α} : ∀ {l : List α}, (insV lt x l).Perm (x :: l)
  | [] => List.Perm.refl _
  | y :: r => by
    simp only [insV]
    split
    · exact ((insV_perm (l := r)).cons y).trans (List.Perm.swap x y r)
    · exact List.Perm.refl _
theorem sortV_perm {α : Type} {key : α → Int} {l : List α} : (sortV key l).Perm l := by
  unfold sortV
  refine (List.reverse_perm _).trans ?_
  have : ∀ (l s : List α), (l.foldl (fun s x => insV (fun y => decide (key y < key x)) x s) s).Perm (l ++ s) := by
    intro l
    induction l with
    | nil => intro s; exact List.Perm.refl _
    | cons x l ih =>
      intro s
      rw [List.foldl_cons]
      exact (ih _).trans ((List.Perm.append_left l insV_perm).trans List.perm_middle)
  simpa using this l []
/-! ### What is taken first, as much as can be -/
theorem sumI_nn : ∀ {l : List Int}, (∀ x ∈ l, 0 ≤ x) → 0 ≤ sumI l
  | [], _ => Int.le_refl _
  | x :: l, h => by
    have h1 := h x (by simp)
    have h2 := sumI_nn (l := l) fun y hy => h y (by simp [hy])
    simp only [sumI]; omega
theorem sumI_map_add {α : Type} {f g : α → Int} : ∀ {l : List α}, sumI (l.map fun e => f e + g e) = sumI (l.map f) + sumI (l.map g)
  | [] => rfl
  | x :: l => by
    have h2 := sumI_map_add (f := f) (g := g) (l := l)
    simp only [List.map_cons, sumI]; omega
/-! ### Ways -/
theorem sumR_zero : ∀ n, sumR (fun _ => 0) n = 0
  | 0 => rfl
  | n + 1 => by simp only [sumR, sumR_zero n]; omega
structure WayV (f : Frt) (w : Win) (way : List (List Int)) : Prop where
  n : way.length = f.ords.length
  d : ∀ r ∈ way, r.length = f.caps.length
  b : ∀ r ∈ way, ∀ x ∈ r, 0 ≤ x ∧ x ≤ 1000000
  c : ∀ d, d < f.caps.length → colS way d ≤ roomW w d
  u : ∀ p ∈ way.zip f.ords, sumI p.1 ≤ p.2.u
theorem checkWay_way {f : Frt} {w : Win} {way : List (List Int)} (h : checkWayS f w way = 0) : WayV f w way := by
  unfold checkWayS at h
  split at h
  · contradiction
  split at h
  · contradiction
  rename_i h1 h2
  split at h
  · contradiction
  rename_i h3
  split at h
  · contradiction
  rename_i h4
  split at h
  · contradiction
  rename_i h5
  rw [not_or] at h2
  obtain ⟨h2, h2'⟩ := h2
  rw [Bool.not_eq_true, List.any_eq_false] at h2'
  rw [Bool.not_eq_false, List.all_eq_true] at h3 h4 h5
  refine ⟨by omega, fun r hr => by have := h2' r hr; simpa using this, fun r hr x hx => ?_, fun d hd => of_decide_eq_true (h4 d (List.mem_range.2 hd)), fun p hp => of_decide_eq_true (h5 p hp)⟩
  have := h3 r hr
  rw [List.all_eq_true] at this
  exact okE_bnd (this x hx)
end Go.Sas
namespace Go.Sas
/-- the weights that are shared by -/
def shW (ws : List Int) : List Int := if sumI ws = 0 then List.replicate ws.length 1 else ws
def shS (ws : List Int) : Int := if sumI ws = 0 then (ws.length : Int) else sumI ws
def shB (am : Int) (ws : List Int) : List Int := (shW ws).map fun w => am * w / shS ws
def shR (am : Int) (ws : List Int) : List Int := (shW ws).map fun w => am * w % shS ws
def shO (am : Int) (ws : List Int) : List Nat := sortV (fun k => (shR am ws).getD k 0) (List.range ws.length)
def addO (o : List Int) (i : Nat) : List Int := o.set i (o.getD i 0 + 1)
def shL (am : Int) (ws : List Int) : Nat := (am - sumI (shB am ws)).toNat
def shareV (am : Int) (ws : List Int) : List Int := ((shO am ws).take (shL am ws)).foldl addO (shB am ws)
def WtsV (ws : List Int) : Prop := 1 ≤ ws.length ∧ ws.length ≤ 40 ∧ ∀ w ∈ ws, 0 ≤ w ∧ w ≤ 1000000
theorem sumI_rep {n : Nat} {x : Int} : sumI (List.replicate n x) = x * n := by
  induction n with
  | zero => simp [sumI]
  | succ n ih => rw [List.replicate_succ]; simp only [sumI]; rw [ih, Int.natCast_add, Int.mul_add]; simp; omega
theorem shW_len {ws : List Int} : (shW ws).length = ws.length := by unfold shW; split <;> simp
theorem shB_len {am : Int} {ws : List Int} : (shB am ws).length = ws.length := by unfold shB; rw [List.length_map, shW_len]
theorem shR_len {am : Int} {ws : List Int} : (shR am ws).length = ws.length := by unfold shR; rw [List.length_map, shW_len]
theorem shO_len {am : Int} {ws : List Int} : (shO am ws).length = ws.length := by unfold shO; rw [sortV_len]; simp
theorem shO_mem {am : Int} {ws : List Int} {k : Nat} : k ∈ shO am ws ↔ k < ws.length := by unfold shO; rw [sortV_mem, List.mem_range]
theorem addO_len {o : List Int} {i : Nat} : (addO o i).length = o.length := by simp [addO]
theorem foldl_addO_len : ∀ {l : List Nat} {o : List Int}, (l.foldl addO o).length = o.length
  | [], _ => rfl
  | i :: l, o => by rw [List.foldl_cons, foldl_addO_len, addO_len]
theorem shareV_len {am : Int} {ws : List Int} : (shareV am ws).length = ws.length := by unfold shareV; rw [foldl_addO_len, shB_len]
theorem shW_bnd {ws : List Int} (h : WtsV ws) : ∀ w ∈ shW ws, 0 ≤ w ∧ w ≤ 1000000 := by
  unfold shW
  split
  · intro w hw; rw [List.mem_replicate] at hw; omega
  · exact h.2.2
theorem shS_pos {ws : List Int} (h : WtsV ws) : 1 ≤ shS ws ∧ shS ws ≤ 40000000 := by
  have h1 := sumI_nn (l := ws) fun w hw => (h.2.2 w hw).1
  have h2 := (sumI_bnd (lo := 0) (hi := 1000000) h.2.2).2
  have h3 := h.1
  have h4 := h.2.1
  unfold shS
  split <;> omega
theorem shS_sum {ws : List Int} : sumI (shW ws) = shS ws := by
  unfold shW shS
  split
  · rw [sumI_rep]; omega
  · rfl
theorem shW_le {ws : List Int} (h : WtsV ws) : ∀ w ∈ shW ws, w ≤ shS ws := by
  have hb := shW_bnd h
  rw [← shS_sum]
  have : ∀ l : List Int, (∀ w ∈ l, 0 ≤ w) → ∀ w ∈ l, w ≤ sumI l := by
    intro l
    induction l with
    | nil => intro _ w hw; simp at hw
    | cons x l ih =>
      intro hl w hw
      have h1 := hl x (by simp)
      have h2 := sumI_nn (l := l) fun y hy => hl y (by simp [hy])
      simp only [sumI]
      rcases List.mem_cons.1 hw with rfl | hw
      · omega
      · have := ih (fun y hy => hl y (by simp [hy])) w hw; omega
  exact this _ fun w hw => (hb w hw).1
theorem sumI_map_mul {α : Type} {f : α → Int} {c : Int} : ∀ {l : List α}, sumI (l.map fun x => c * f x) = c * sumI (l.map f)
  | [] => by simp [sumI]
  | x :: l => by simp only [List.map_cons, sumI]; rw [sumI_map_mul (l := l), Int.mul_add]
/-- what is left over, times the sum -/
theorem sh_left {am : Int} {ws : List Int} (h : WtsV ws) : shS ws * (am - sumI (shB am ws)) = sumI (shR am ws) := by
  have hS := (shS_pos h).1
  have e1 : sumI ((shW ws).map fun w => am * w) = am * shS ws := by
    have := sumI_map_mul (f := fun w : Int => w) (c := am) (l := shW ws)
    rw [this, List.map_id', shS_sum]
  have e2 : sumI ((shW ws).map fun w => am * w) = sumI ((shW ws).map fun w => shS ws * (am * w / shS ws)) + sumI (shR am ws) := by
    unfold shR
    rw [← sumI_map_add]
    congr 1
    apply List.map_congr_left
    intro w _
    exact (Int.mul_ediv_add_emod ..).symm
  have e4 := sumI_map_mul (f := fun w : Int => am * w / shS ws) (c := shS ws) (l := shW ws)
  have e3 : sumI (shB am ws) = sumI ((shW ws).map fun w => am * w / shS ws) := rfl
  rw [e4] at e2
  rw [e3, Int.mul_sub, Int.mul_comm (shS ws) am]
  omega
theorem shR_bnd {am : Int} {ws : List Int} (h : WtsV ws) : ∀ r ∈ shR am ws, 0 ≤ r ∧ r < shS ws := by
  have hS := (shS_pos h).1
  intro r hr
  obtain ⟨w, _, rfl⟩ := List.mem_map.1 hr
  exact ⟨Int.emod_nonneg _ (by omega), Int.emod_lt_of_pos _ (by omega)⟩
theorem sh_bnd {am : Int} {ws : List Int} (h : WtsV ws) : 0 ≤ am - sumI (shB am ws) ∧ am - sumI (shB am ws) < ws.length := by
  have hS := (shS_pos h).1
  have hl := sh_left (am := am) h
  have hR := sumI_bnd (lo := 0) (hi := shS ws - 1) (l := shR am ws) fun r hr => by have := shR_bnd h r hr; omega
  rw [shR_len] at hR
  obtain ⟨L, hL⟩ : ∃ L, L = am - sumI (shB am ws) := ⟨_, rfl⟩
  obtain ⟨S, hSe⟩ : ∃ S, S = shS ws := ⟨_, rfl⟩
  rw [← hL, ← hSe] at hl
  rw [← hSe] at hS hR
  rw [← hl] at hR
  rw [← hL]
  have h1 := h.1
  constructor
  · by_cases hn : 0 ≤ L
    · exact hn
    · have : S * L < 0 := Int.mul_neg_of_pos_of_neg (by omega) (by omega)
      omega
  · by_cases hn : L < ws.length
    · exact hn
    · have e1 : S * (ws.length : Int) ≤ S * L := Int.mul_le_mul_of_nonneg_left (by omega) (by omega)
      have e2 : (S - 1) * (ws.length : Int) = S * (ws.length : Int) - ws.length := by rw [Int.sub_mul]; omega
      omega
theorem shB_bnd {am : Int} {ws : List Int} (h : WtsV ws) (h0 : 0 ≤ am) : ∀ b ∈ shB am ws, 0 ≤ b ∧ b ≤ am := by
  have hS := (shS_pos h).1
  intro b hb
  obtain ⟨w, hw, rfl⟩ := List.mem_map.1 hb
  have h1 := (shW_bnd h w hw).1
  have h2 := shW_le h w hw
  refine ⟨Int.ediv_nonneg (Int.mul_nonneg h0 h1) (by omega), ?_⟩
  exact Int.ediv_le_of_le_mul (by omega) (Int.mul_le_mul_of_nonneg_left h2 h0)
/-! ### What shares are -/
theorem foldl_addO_get : ∀ {l : List Nat} {o : List Int} {i : Nat}, l.Nodup → i < o.length → (l.foldl addO o).getD i 0 = o.getD i 0 + (if i ∈ l then 1 else 0)
  | [], o, i, _, _ => by simp
  | k :: l, o, i, hn, hi => by
    obtain ⟨h1, h2⟩ := List.nodup_cons.1 hn
    rw [List.foldl_cons, foldl_addO_get h2 (by rw [addO_len]; exact hi)]
    have e : (addO o k).getD i 0 = o.getD i 0 + (if i = k then 1 else 0) := by
      unfold addO
      rw [List.getD_eq_getElem?_getD, List.getElem?_set]
      by_cases hik : k = i
      · subst hik; rw [if_pos rfl, if_pos hi, if_pos rfl]; rfl
      · rw [if_neg hik, if_neg (fun h => hik h.symm), List.getD_eq_getElem?_getD]; omega
    rw [e]
    by_cases hik : i = k
    · subst hik; rw [if_pos rfl, if_neg h1, if_pos (by simp)]; omega
    · rw [if_neg hik]
      by_cases hil : i ∈ l
      · rw [if_pos hil, if_pos (by simp [hil])]; omega
      · rw [if_neg hil, if_neg (by simp [hik, hil])]; omega
theorem sumI_set {o : List Int} {i : Nat} {v : Int} (h : i < o.length) : sumI (o.set i v) = sumI o - o.getD i 0 + v := by
  induction o generalizing i with
  | nil => simp at h
  | cons x o ih =>
    cases i with
    | zero => simp [sumI]; omega
    | succ i =>
      simp only [List.set_cons_succ, sumI]
      rw [ih (by simpa using h)]
      simp only [List.getD_cons_succ]; omega
theorem foldl_addO_sum : ∀ {l : List Nat} {o : List Int}, (∀ k ∈ l, k < o.length) → sumI (l.foldl addO o) = sumI o + l.length
  | [], o, _ => by simp
  | k :: l, o, h => by
    rw [List.foldl_cons, foldl_addO_sum (fun j hj => by rw [addO_len]; exact h j (by simp [hj]))]
    unfold addO
    rw [sumI_set (h k (by simp))]
    simp only [List.length_cons]; omega
theorem shO_perm {am : Int} {ws : List Int} : (shO am ws).Perm (List.range ws.length) := sortV_perm
theorem shO_nodup {am : Int} {ws : List Int} : (shO am ws).Nodup := shO_perm.nodup_iff.2 List.nodup_range
theorem share_sum {am : Int} {ws : List Int} (h : WtsV ws) : sumI (shareV am ws) = am := by
  unfold shareV
  rw [foldl_addO_sum (fun k hk => by rw [shB_len]; exact shO_mem.1 (List.mem_of_mem_take hk)), List.length_take, shO_len]
  have := sh_bnd (am := am) h
  unfold shL; omega
theorem share_get {am : Int} {ws : List Int} {i : Nat} (hi : i < ws.length) : (shareV am ws).getD i 0 = (shB am ws).getD i 0 + (if i ∈ (shO am ws).take (shL am ws) then 1 else 0) := by
  unfold shareV
  exact foldl_addO_get (shO_nodup.sublist (List.take_sublist ..)) (by rw [shB_len]; exact hi)
/-- of places with equal keys the first one stands before the other -/
theorem insV_stable {key : Nat → Int} {x : Nat} : ∀ {S : List Nat}, (∀ y ∈ S, y < x) → S.Pairwise (fun a b => key a < key b ∨ key a = key b ∧ b < a) → (insV (fun y => decide (key y < key x)) x S).Pairwise (fun a b => key a < key b ∨ key a = key b ∧ b < a)
  | [], _, _ => by simp [insV]
  | y :: r, hx, h => by
    rw [List.pairwise_cons] at h
    obtain ⟨h1, h2⟩ := h
    have hy := hx y (by simp)
    simp only [insV]
    by_cases hlt : key y < key x
    · rw [if_pos (by simpa using hlt), List.pairwise_cons]
      refine ⟨fun z hz => ?_, insV_stable (fun z hz => hx z (by simp [hz])) h2⟩
      rcases insV_mem.1 hz with rfl | hz
      · exact .inl hlt
      · exact h1 z hz
    · rw [if_neg (by simpa using hlt), List.pairwise_cons]
      refine ⟨fun z hz => ?_, List.pairwise_cons.2 ⟨h1, h2⟩⟩
      rcases List.mem_cons.1 hz with rfl | hz
      · by_cases he : key x = key z
        · exact .inr ⟨he, hy⟩
        · exact .inl (by omega)
      · have h3 := h1 z hz
        have h4 := hx z (by simp [hz])
        by_cases he : key x = key z
        · exact .inr ⟨he, h4⟩
        · refine .inl ?_
          rcases h3 with h3 | ⟨h3, _⟩ <;> omega
theorem sortV_stable {key : Nat → Int} {n : Nat} : (sortV key (List.range n)).Pairwise (fun a b => key b < key a ∨ key b = key a ∧ a < b) := by
  unfold sortV
  rw [List.pairwise_reverse]
  have : ∀ n, ((List.range n).foldl (fun s x => insV (fun y => decide (key y < key x)) x s) []).Pairwise (fun a b => key a < key b ∨ key a = key b ∧ b < a) ∧ ∀ y ∈ (List.range n).foldl (fun s x => insV (fun y => decide (key y < key x)) x s) [], y < n := by
    intro n
    induction n with
    | zero => exact ⟨List.Pairwise.nil, fun y hy => by simp at hy⟩
    | succ n ih =>
      rw [List.range_succ, List.foldl_append]
      refine ⟨insV_stable ih.2 ih.1, fun y hy => ?_⟩
      rcases insV_mem.1 hy with rfl | hy
      · omega
      · have := ih.2 y hy; omega
  exact (this n).1
/-- who stands before one that is taken is taken -/
theorem take_before {α : Type} {R : α → α → Prop} {l : List α} {m : Nat} {a b : α} (hp : l.Pairwise R) (ha : a ∈ l) (hb : b ∈ l.take m) (hab : a ≠ b) (hn : ¬ R b a) : a ∈ l.take m := by
  rw [← List.take_append_drop m l] at ha hp
  rcases List.mem_append.1 ha with h | h
  · exact h
  · exact absurd ((List.pairwise_append.1 hp).2.2 b hb a h) hn
theorem share_equal {am : Int} {ws : List Int} {i k : Nat} (hi : i < ws.length) (hk : k < i) (he : ws.getD k 0 = ws.getD i 0) : (shareV am ws).getD i 0 ≤ (shareV am ws).getD k 0 ∧ (shareV am ws).getD k 0 ≤ (shareV am ws).getD i 0 + 1 := by
  rw [share_get hi, share_get (by omega)]
  have hW : (shW ws).getD k 0 = (shW ws).getD i 0 := by
    unfold shW
    split
    · rw [List.getD_eq_getElem?_getD, List.getD_eq_getElem?_getD, List.getElem?_replicate, List.getElem?_replicate, if_pos (by omega), if_pos hi]
    · exact he
  have hget : ∀ (f : Int → Int) (j : Nat), j < ws.length → ((shW ws).map f).getD j 0 = f ((shW ws).getD j 0) := fun f j hj => by
    rw [List.getD_eq_getElem?_getD, List.getElem?_map, List.getD_eq_getElem?_getD, List.getElem?_eq_getElem (by rw [shW_len]; exact hj)]; rfl
  have hB : (shB am ws).getD k 0 = (shB am ws).getD i 0 := by unfold shB; rw [hget _ k (by omega), hget _ i hi, hW]
  have hR : (shR am ws).getD k 0 = (shR am ws).getD i 0 := by unfold shR; rw [hget _ k (by omega), hget _ i hi, hW]
  rw [hB]
  by_cases hii : i ∈ (shO am ws).take (shL am ws)
  · have : k ∈ (shO am ws).take (shL am ws) := take_before (sortV_stable (key := fun k => (shR am ws).getD k 0) (n := ws.length)) (shO_mem.2 (by omega)) hii (by omega) (by rw [hR]; omega)
    rw [if_pos hii, if_pos this]; omega
  · rw [if_neg hii]; split <;> omega
/-- each share is the exact one, rounded -/
theorem share_round {am : Int} {ws : List Int} {i : Nat} (h : WtsV ws) (h0 : 0 ≤ am) (hs : 0 < sumI ws) (hi : i < ws.length) :
    am * ws.getD i 0 / sumI ws ≤ (shareV am ws).getD i 0 ∧ (shareV am ws).getD i 0 ≤ (am * ws.getD i 0 + sumI ws - 1) / sumI ws := by
  have hW : shW ws = ws := by unfold shW; rw [if_neg (by omega)]
  have hS : shS ws = sumI ws := by unfold shS; rw [if_neg (by omega)]
  have hget : ∀ (f : Int → Int) (j : Nat), j < ws.length → (ws.map f).getD j 0 = f (ws.getD j 0) := fun f j hj => by
    rw [List.getD_eq_getElem?_getD, List.getElem?_map, List.getD_eq_getElem?_getD, List.getElem?_eq_getElem hj]; rfl
  have hB : (shB am ws).getD i 0 = am * ws.getD i 0 / sumI ws := by unfold shB; rw [hW, hget _ i hi, hS]
  have hR : (shR am ws).getD i 0 = am * ws.getD i 0 % sumI ws := by unfold shR; rw [hW, hget _ i hi, hS]
  rw [share_get hi, hB]
  obtain ⟨x, hx⟩ : ∃ x, x = am * ws.getD i 0 := ⟨_, rfl⟩
  obtain ⟨S, hSe⟩ : ∃ S, S = sumI ws := ⟨_, rfl⟩
  rw [← hx, ← hSe] at hR
  rw [← hx, ← hSe]
  rw [← hSe] at hs hS
  have hdm := Int.mul_ediv_add_emod x S
  have hmod := Int.emod_lt_of_pos x hs
  have hmn := Int.emod_nonneg x (show S ≠ 0 by omega)
  have hceil : x % S ≠ 0 → x / S + 1 ≤ (x + S - 1) / S := fun hne => by
    refine Int.le_ediv_of_mul_le hs ?_
    rw [Int.add_mul, Int.mul_comm (x / S) S]; omega
  have hfl : x / S ≤ (x + S - 1) / S := Int.ediv_le_ediv hs (by omega)
  by_cases hm : i ∈ (shO am ws).take (shL am ws)
  · rw [if_pos hm]
    refine ⟨by omega, hceil fun h9 => ?_⟩
    -- the remainder is nothing, and yet it is taken: too many would be taken
    rw [h9] at hR
    obtain ⟨pre, hpre⟩ : ∃ p, p = (shO am ws).take (shL am ws) := ⟨_, rfl⟩
    have hall : ∀ j, j < ws.length → j ∉ pre → (shR am ws).getD j 0 = 0 := fun j hj hjp => by
      have hjm : j ∈ shO am ws := shO_mem.2 hj
      rw [hpre] at hjp
      have hb := shR_bnd (am := am) h
      have hj0 : 0 ≤ (shR am ws).getD j 0 := by
        rw [List.getD_eq_getElem?_getD, List.getElem?_eq_getElem (by rw [shR_len]; exact hj)]
        exact (hb _ (List.getElem_mem _)).1
      by_cases hz : (shR am ws).getD j 0 = 0
      · exact hz
      · exact absurd (take_before (sortV_stable (key := fun k => (shR am ws).getD k 0) (n := ws.length)) hjm hm (fun he => by subst he; exact hz hR) (by rw [hR]; omega)) hjp
    have hlen : (pre.length : Int) = am - sumI (shB am ws) := by
      rw [hpre, List.length_take, shO_len]
      have := sh_bnd (am := am) h
      unfold shL; omega
    have hl := sh_left (am := am) h
    rw [← hlen, hS] at hl
    -- the sum of the remainders is that of those that are taken
    have hsum : sumI (shR am ws) = sumI ((shO am ws).map fun k => (shR am ws).getD k 0) := by
      have e := sumI_perm ((shO_perm (am := am) (ws := ws)).map fun k => (shR am ws).getD k 0)
      rw [e, sum_rangeD (l := shR am ws) shR_len.symm]
    have hsp : sumI ((shO am ws).map fun k => (shR am ws).getD k 0) = sumI (pre.map fun k => (shR am ws).getD k 0) + sumI (((shO am ws).drop (shL am ws)).map fun k => (shR am ws).getD k 0) := by
      rw [hpre, ← sumI_append, ← List.map_append, List.take_append_drop]
    have hnd := shO_nodup (am := am) (ws := ws)
    rw [← List.take_append_drop (shL am ws) (shO am ws), ← hpre] at hnd
    have hz2 : sumI (((shO am ws).drop (shL am ws)).map fun k => (shR am ws).getD k 0) = 0 := by
      have : ∀ l : List Nat, (∀ k ∈ l, (shR am ws).getD k 0 = 0) → sumI (l.map fun k => (shR am ws).getD k 0) = 0 := by
        intro l
        induction l with
        | nil => intro _; rfl
        | cons x l ih => intro hl; simp only [List.map_cons, sumI]; rw [hl x (by simp), ih fun k hk => hl k (by simp [hk])]; rfl
      refine this _ fun k hk => hall k (shO_mem.1 (List.mem_of_mem_drop hk)) fun hkp => ?_
      exact (List.nodup_append.1 hnd).2.2 k hkp k hk rfl
    have hip : i ∈ pre := by rw [hpre]; exact hm
    obtain ⟨A, B, hAB⟩ := List.append_of_mem hip
    have hlt : sumI (pre.map fun k => (shR am ws).getD k 0) ≤ (S - 1) * (pre.length - 1) := by
      have hb : ∀ k ∈ pre, 0 ≤ (shR am ws).getD k 0 ∧ (shR am ws).getD k 0 ≤ S - 1 := fun k hk => by
        have hkl : k < ws.length := shO_mem.1 (List.mem_of_mem_take (by rw [← hpre]; exact hk))
        have := shR_bnd (am := am) h ((shR am ws)[k]'(by rw [shR_len]; exact hkl)) (List.getElem_mem _)
        rw [List.getD_eq_getElem?_getD, List.getElem?_eq_getElem (by rw [shR_len]; exact hkl)]
        show 0 ≤ _ ∧ _ ≤ _
        rw [hS] at this
        simp only [Option.getD_some]; omega
      rw [hAB] at hb ⊢
      have g1 := (sumI_bnd (lo := 0) (hi := S - 1) (l := A.map fun k => (shR am ws).getD k 0) fun y hy => by
        obtain ⟨k, hk, rfl⟩ := List.mem_map.1 hy; exact hb k (by simp [hk])).2
      have g2 := (sumI_bnd (lo := 0) (hi := S - 1) (l := B.map fun k => (shR am ws).getD k 0) fun y hy => by
        obtain ⟨k, hk, rfl⟩ := List.mem_map.1 hy; exact hb k (by simp [hk])).2
      rw [List.map_append, sumI_append, List.map_cons]
      simp only [sumI, List.length_append, List.length_cons]
      rw [hR]
      rw [List.length_map] at g1 g2
      have e : (S - 1) * (((A.length + (B.length + 1) : Nat) : Int) - 1) = (S - 1) * (A.length : Int) + (S - 1) * (B.length : Int) := by
        rw [← Int.mul_add]; congr 1; omega
      omega
    rw [hsum, hsp, hz2] at hl
    have hpl : 1 ≤ pre.length := by rw [hAB, List.length_append, List.length_cons]; omega
    have e : (S - 1) * ((pre.length : Int) - 1) = S * (pre.length : Int) - S - (pre.length : Int) + 1 := by
      rw [Int.sub_mul, Int.mul_sub, Int.mul_one, Int.one_mul]; omega
    omega
  · rw [if_neg hm]
    exact ⟨by omega, by omega⟩
where
  sum_rangeD {l : List Int} {n : Nat} (hn : n = l.length) : sumI ((List.range n).map fun k => l.getD k 0) = sumI l := by
    subst hn
    congr 1
    apply List.ext_getElem?
    intro i
    rw [List.getElem?_map]
    by_cases hi : i < l.length
    · rw [List.getElem?_range hi, List.getElem?_eq_getElem hi]
      simp [List.getD_eq_getElem?_getD, hi]
    · rw [List.getElem?_eq_none (by simpa using hi), List.getElem?_eq_none (by omega)]; rfl
end Go.Sas
