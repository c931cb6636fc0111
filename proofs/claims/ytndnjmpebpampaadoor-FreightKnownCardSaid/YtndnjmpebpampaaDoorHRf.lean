/-
Freight: no way of delivering costs less than the bound: a plain law.
Freight: shares of an amount: plain functions and laws.
Conditions: none.
-/
import Derived.Test.YtndnjmpebpampaaDoorHIf
import Derived.Test.YtndnjmpebpampaaDoorQGM2
set_option linter.unusedVariables false
set_option linter.unusedSimpArgs false
namespace Go.Sas
theorem insV_perm {α : Type} {lt : α → Bool} {x : α} : ∀ {l : List α}, (insV lt x l).Perm (x :: l)
  | [] => List.Perm.refl _
  | y :: r => by
    simp only [insV]
    split
    · exact ((insV_perm (l := r)).cons y).trans (List.Perm.swap x y r)
    · exact List.Perm.refl _
theorem sortV_perm {α : Type} {key : α → Int} {l : List α} : (sortV key l).Perm l := by
  unfold sortV
  refine (List.reverse_perm _).trans ?_
  have : ∀ (l s : List α), (l.foldl (fun s x => insV (fun y => decide (key y < key x)) x s) s).Perm (l ++ s) := by
    intro l
    induction l with
    | nil => intro s; exact List.Perm.refl _
    | cons x l ih =>
      intro s
      rw [List.foldl_cons]
      exact (ih _).trans ((List.Perm.append_left l insV_perm).trans List.perm_middle)
  simpa using this l []
/-! ### What is taken first, as much as can be -/
theorem sumI_nn : ∀ {l : List Int}, (∀ x ∈ l, 0 ≤ x) → 0 ≤ sumI l
  | [], _ => Int.le_refl _
  | x :: l, h => by
    have h1 := h x (by simp)
    have h2 := sumI_nn (l := l) fun y hy => h y (by simp [hy])
    simp only [sumI]; omega
theorem sumI_map_add {α : Type} {f g : α → Int} : ∀ {l : List α}, sumI (l.map fun e => f e + g e) = sumI (l.map f) + sumI (l.map g)
  | [] => rfl
  | x :: l => by
    have h2 := sumI_map_add (f := f) (g := g) (l := l)
    simp only [List.map_cons, sumI]; omega
/-! ### Ways -/
theorem sumR_zero : ∀ n, sumR (fun _ => 0) n = 0
  | 0 => rfl
  | n + 1 => by simp only [sumR, sumR_zero n]; omega
structure WayV (f : Frt) (w : Win) (way : List (List Int)) : Prop where
  n : way.length = f.ords.length
  d : ∀ r ∈ way, r.length = f.caps.length
  b : ∀ r ∈ way, ∀ x ∈ r, 0 ≤ x ∧ x ≤ 1000000
  c : ∀ d, d < f.caps.length → colS way d ≤ roomW w d
  u : ∀ p ∈ way.zip f.ords, sumI p.1 ≤ p.2.u
theorem checkWay_way {f : Frt} {w : Win} {way : List (List Int)} (h : checkWayS f w way = 0) : WayV f w way := by
  unfold checkWayS at h
  split at h
  · contradiction
  split at h
  · contradiction
  rename_i h1 h2
  split at h
  · contradiction
  rename_i h3
  split at h
  · contradiction
  rename_i h4
  split at h
  · contradiction
  rename_i h5
  rw [not_or] at h2
  obtain ⟨h2, h2'⟩ := h2
  rw [Bool.not_eq_true, List.any_eq_false] at h2'
  rw [Bool.not_eq_false, List.all_eq_true] at h3 h4 h5
  refine ⟨by omega, fun r hr => by have := h2' r hr; simpa using this, fun r hr x hx => ?_, fun d hd => of_decide_eq_true (h4 d (List.mem_range.2 hd)), fun p hp => of_decide_eq_true (h5 p hp)⟩
  have := h3 r hr
  rw [List.all_eq_true] at this
  exact okE_bnd (this x hx)
end Go.Sas
namespace Go.Sas
/-- the weights that are shared by -/
def shW (ws : List Int) : List Int := if sumI ws = 0 then List.replicate ws.length 1 else ws
def shS (ws : List Int) : Int := if sumI ws = 0 then (ws.length : Int) else sumI ws
def shB (am : Int) (ws : List Int) : List Int := (shW ws).map fun w => am * w / shS ws
def shR (am : Int) (ws : List Int) : List Int := (shW ws).map fun w => am * w % shS ws
def shO (am : Int) (ws : List Int) : List Nat := sortV (fun k => (shR am ws).getD k 0) (List.range ws.length)
def addO (o : List Int) (i : Nat) : List Int := o.set i (o.getD i 0 + 1)
def shL (am : Int) (ws : List Int) : Nat := (am - sumI (shB am ws)).toNat
def shareV (am : Int) (ws : List Int) : List Int := ((shO am ws).take (shL am ws)).foldl addO (shB am ws)
def WtsV (ws : List Int) : Prop := 1 ≤ ws.length ∧ ws.length ≤ 40 ∧ ∀ w ∈ ws, 0 ≤ w ∧ w ≤ 1000000
theorem sumI_rep {n : Nat} {x : Int} : sumI (List.replicate n x) = x * n := by
  induction n with
  | zero => simp [sumI]
  | succ n ih => rw [List.replicate_succ]; simp only [sumI]; rw [ih, Int.natCast_add, Int.mul_add]; simp; omega
theorem shW_len {ws : List Int} : (shW ws).length = ws.length := by unfold shW; split <;> simp
theorem shB_len {am : Int} {ws : List Int} : (shB am ws).length = ws.length := by unfold shB; rw [List.length_map, shW_len]
theorem shR_len {am : Int} {ws : List Int} : (shR am ws).length = ws.length := by unfold shR; rw [List.length_map, shW_len]
theorem shO_len {am : Int} {ws : List Int} : (shO am ws).length = ws.length := by unfold shO; rw [sortV_len]; simp
theorem shO_mem {am : Int} {ws : List Int} {k : Nat} : k ∈ shO am ws ↔ k < ws.length := by unfold shO; rw [sortV_mem, List.mem_range]
theorem addO_len {o : List Int} {i : Nat} : (addO o i).length = o.length := by simp [addO]
theorem foldl_addO_len : ∀ {l : List Nat} {o : List Int}, (l.foldl addO o).length = o.length
  | [], _ => rfl
  | i :: l, o => by rw [List.foldl_cons, foldl_addO_len, addO_len]
theorem shareV_len {am : Int} {ws : List Int} : (shareV am ws).length = ws.length := by unfold shareV; rw [foldl_addO_len, shB_len]
theorem shW_bnd {ws : List Int} (h : WtsV ws) : ∀ w ∈ shW ws, 0 ≤ w ∧ w ≤ 1000000 := by
  unfold shW
  split
  · intro w hw; rw [List.mem_replicate] at hw; omega
  · exact h.2.2
theorem shS_pos {ws : List Int} (h : WtsV ws) : 1 ≤ shS ws ∧ shS ws ≤ 40000000 := by
  have h1 := sumI_nn (l := ws) fun w hw => (h.2.2 w hw).1
  have h2 := (sumI_bnd (lo := 0) (hi := 1000000) h.2.2).2
  have h3 := h.1
  have h4 := h.2.1
  unfold shS
  split <;> omega
theorem shS_sum {ws : List Int} : sumI (shW ws) = shS ws := by
  unfold shW shS
  split
  · rw [sumI_rep]; omega
  · rfl
theorem shW_le {ws : List Int} (h : WtsV ws) : ∀ w ∈ shW ws, w ≤ shS ws := by
  have hb := shW_bnd h
  rw [← shS_sum]
  have : ∀ l : List Int, (∀ w ∈ l, 0 ≤ w) → ∀ w ∈ l, w ≤ sumI l := by
    intro l
    induction l with
    | nil => intro _ w hw; simp at hw
    | cons x l ih =>
      intro hl w hw
      have h1 := hl x (by simp)
      have h2 := sumI_nn (l := l) fun y hy => hl y (by simp [hy])
      simp only [sumI]
      rcases List.mem_cons.1 hw with rfl | hw
      · omega
      · have := ih (fun y hy => hl y (by simp [hy])) w hw; omega
  exact this _ fun w hw => (hb w hw).1
theorem sumI_map_mul {α : Type} {f : α → Int} {c : Int} : ∀ {l : List α}, sumI (l.map fun x => c * f x) = c * sumI (l.map f)
  | [] => by simp [sumI]
  | x :: l => by simp only [List.map_cons, sumI]; rw [sumI_map_mul (l := l), Int.mul_add]
/-- what is left over, times the sum -/
theorem sh_left {am : Int} {ws : List Int} (h : WtsV ws) : shS ws * (am - sumI (shB am ws)) = sumI (shR am ws) := by
  have hS := (shS_pos h).1
  have e1 : sumI ((shW ws).map fun w => am * w) = am * shS ws := by
    have := sumI_map_mul (f := fun w : Int => w) (c := am) (l := shW ws)
    rw [this, List.map_id', shS_sum]
  have e2 : sumI ((shW ws).map fun w => am * w) = sumI ((shW ws).map fun w => shS ws * (am * w / shS ws)) + sumI (shR am ws) := by
    unfold shR
    rw [← sumI_map_add]
    congr 1
    apply List.map_congr_left
    intro w _
    exact (Int.mul_ediv_add_emod ..).symm
  have e4 := sumI_map_mul (f := fun w : Int => am * w / shS ws) (c := shS ws) (l := shW ws)
  have e3 : sumI (shB am ws) = sumI ((shW ws).map fun w => am * w / shS ws) := rfl
  rw [e4] at e2
  rw [e3, Int.mul_sub, Int.mul_comm (shS ws) am]
  omega
theorem shR_bnd {am : Int} {ws : List Int} (h : WtsV ws) : ∀ r ∈ shR am ws, 0 ≤ r ∧ r < shS ws := by
  have hS := (shS_pos h).1
  intro r hr
  obtain ⟨w, _, rfl⟩ := List.mem_map.1 hr
  exact ⟨Int.emod_nonneg _ (by omega), Int.emod_lt_of_pos _ (by omega)⟩
theorem sh_bnd {am : Int} {ws : List Int} (h : WtsV ws) : 0 ≤ am - sumI (shB am ws) ∧ am - sumI (shB am ws) < ws.length := by
  have hS := (shS_pos h).1
  have hl := sh_left (am := am) h
  have hR := sumI_bnd (lo := 0) (hi := shS ws - 1) (l := shR am ws) fun r hr => by have := shR_bnd h r hr; omega
  rw [shR_len] at hR
  obtain ⟨L, hL⟩ : ∃ L, L = am - sumI (shB am ws) := ⟨_, rfl⟩
  obtain ⟨S, hSe⟩ : ∃ S, S = shS ws := ⟨_, rfl⟩
  rw [← hL, ← hSe] at hl
  rw [← hSe] at hS hR
  rw [← hl] at hR
  rw [← hL]
  have h1 := h.1
  constructor
  · by_cases hn : 0 ≤ L
    · exact hn
    · have : S * L < 0 := Int.mul_neg_of_pos_of_neg (by omega) (by omega)
      omega
  · by_cases hn : L < ws.length
    · exact hn
    · have e1 : S * (ws.length : Int) ≤ S * L := Int.mul_le_mul_of_nonneg_left (by omega) (by omega)
      have e2 : (S - 1) * (ws.length : Int) = S * (ws.length : Int) - ws.length := by rw [Int.sub_mul]; omega
      omega
theorem shB_bnd {am : Int} {ws : List Int} (h : WtsV ws) (h0 : 0 ≤ am) : ∀ b ∈ shB am ws, 0 ≤ b ∧ b ≤ am := by
  have hS := (shS_pos h).1
  intro b hb
  obtain ⟨w, hw, rfl⟩ := List.mem_map.1 hb
  have h1 := (shW_bnd h w hw).1
  have h2 := shW_le h w hw
  refine ⟨Int.ediv_nonneg (Int.mul_nonneg h0 h1) (by omega), ?_⟩
  exact Int.ediv_le_of_le_mul (by omega) (Int.mul_le_mul_of_nonneg_left h2 h0)
/-! ### What shares are -/
theorem foldl_addO_get : ∀ {l : List Nat} {o : List Int} {i : Nat}, l.Nodup → i < o.length → (l.foldl addO o).getD i 0 = o.getD i 0 + (if i ∈ l then 1 else 0)
  | [], o, i, _, _ => by simp
  | k :: l, o, i, hn, hi => by
    obtain ⟨h1, h2⟩ := List.nodup_cons.1 hn
    rw [List.foldl_cons, foldl_addO_get h2 (by rw [addO_len]; exact hi)]
    have e : (addO o k).getD i 0 = o.getD i 0 + (if i = k then 1 else 0) := by
      unfold addO
      rw [List.getD_eq_getElem?_getD, List.getElem?_set]
      by_cases hik : k = i
      · subst hik; rw [if_pos rfl, if_pos hi, if_pos rfl]; rfl
      · rw [if_neg hik, if_neg (fun h => hik h.symm), List.getD_eq_getElem?_getD]; omega
    rw [e]
    by_cases hik : i = k
    · subst hik; rw [if_pos rfl, if_neg h1, if_pos (by simp)]; omega
    · rw [if_neg hik]
      by_cases hil : i ∈ l
      · rw [if_pos hil, if_pos (by simp [hil])]; omega
      · rw [if_neg hil, if_neg (by simp [hik, hil])]; omega
theorem shO_perm {am : Int} {ws : List Int} : (shO am ws).Perm (List.range ws.length) := sortV_perm
theorem shO_nodup {am : Int} {ws : List Int} : (shO am ws).Nodup := shO_perm.nodup_iff.2 List.nodup_range
theorem share_get {am : Int} {ws : List Int} {i : Nat} (hi : i < ws.length) : (shareV am ws).getD i 0 = (shB am ws).getD i 0 + (if i ∈ (shO am ws).take (shL am ws) then 1 else 0) := by
  unfold shareV
  exact foldl_addO_get (shO_nodup.sublist (List.take_sublist ..)) (by rw [shB_len]; exact hi)
end Go.Sas
