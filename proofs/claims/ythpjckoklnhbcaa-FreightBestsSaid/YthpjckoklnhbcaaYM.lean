/-
Freight: what a plan delivers up to each day: plain laws.
Freight: more room, more delivered, less cost: plain laws.
Conditions: none.
-/
import Derived.Test.YthpjckoklnhbcaaY16
set_option linter.unusedVariables false
set_option linter.unusedSimpArgs false
namespace Go.Sas
/-- how many units may go before a day -/
def sumR (R : Nat → Int) : Nat → Int
  | 0 => 0
  | d + 1 => sumR R d + R d
/-- how many units of an order go where S units may go -/
def cumP (u : Nat → Int) (S : Int) : List Nat → Int → Nat → Int
  | [], _, _ => 0
  | j :: p, U, k => if k = j then min (U + u j) S - min U S else cumP u S p (U + u j) k
def sumU (u : Nat → Int) : List Nat → Int
  | [] => 0
  | j :: p => u j + sumU u p
theorem cumP_bnd {u : Nat → Int} (hu : ∀ k, 0 ≤ u k) {S : Int} (k : Nat) : ∀ {p : List Nat} {U : Int}, 0 ≤ cumP u S p U k ∧ cumP u S p U k ≤ u k
  | [], U => by have := hu k; simp only [cumP]; omega
  | j :: p, U => by
    simp only [cumP]
    split
    · rename_i h; subst h; have := hu k; omega
    · exact cumP_bnd hu k
theorem cumP_mono {u : Nat → Int} (hu : ∀ k, 0 ≤ u k) {S S' : Int} (hS : S ≤ S') (k : Nat) : ∀ {p : List Nat} {U : Int}, cumP u S p U k ≤ cumP u S' p U k
  | [], U => by simp [cumP]
  | j :: p, U => by
    simp only [cumP]
    split
    · have := hu j; omega
    · exact cumP_mono hu hS k
theorem cumP_zero {u : Nat → Int} (hu : ∀ k, 0 ≤ u k) {k : Nat} : ∀ {p : List Nat} {U : Int}, 0 ≤ U → cumP u 0 p U k = 0
  | [], U, _ => by simp [cumP]
  | j :: p, U, h => by
    have h1 := hu j
    simp only [cumP]
    split
    · omega
    · exact cumP_zero hu (by omega)
theorem cumP_not {u : Nat → Int} {S : Int} {k : Nat} : ∀ {p : List Nat} {U : Int}, k ∉ p → cumP u S p U k = 0
  | [], U, _ => by simp [cumP]
  | j :: p, U, h => by
    simp only [List.mem_cons, not_or] at h
    simp only [cumP]
    rw [if_neg h.1]; exact cumP_not h.2
theorem give_day {u : Nat → Int} (hu : ∀ k, 0 ≤ u k) {S r : Int} (hS : 0 ≤ S) (hr : 0 ≤ r) (d : Nat) : ∀ (p : List Nat) (U room : Int) (l : Nat → Int) (w : Nat → Nat → Int), p.Nodup → 0 ≤ U → room = r - (min U (S + r) - min U S) → (∀ k ∈ p, l k = u k - cumP u S p U k) →
    (∀ k, (p.foldl (give d) (room, l, w)).2.1 k = if k ∈ p then u k - cumP u (S + r) p U k else l k) ∧ (∀ k e, (p.foldl (give d) (room, l, w)).2.2 k e = if k ∈ p ∧ e = d then cumP u (S + r) p U k - cumP u S p U k else w k e)
  | [], U, room, l, w, _, _, _, _ => ⟨fun k => by simp, fun k e => by simp⟩
  | j :: p, U, room, l, w, hnd, hU, hroom, hl => by
    have huj := hu j
    obtain ⟨hj, hnd⟩ := List.nodup_cons.1 hnd
    have hlj := hl j (by simp)
    simp only [cumP, if_true] at hlj
    have hg : min room (l j) = (min (U + u j) (S + r) - min U (S + r)) - (min (U + u j) S - min U S) := by omega
    have ih := give_day hu hS hr d p (U + u j) (room - min room (l j)) (updF l j (l j - min room (l j))) (updF w j (updF (w j) d (min room (l j)))) hnd (by omega) (by omega) (fun k hk => by
      have hkj : k ≠ j := fun h => hj (h ▸ hk)
      have h1 := hl k (by simp [hk])
      simp only [cumP, if_neg hkj] at h1
      simp only [updF, if_neg hkj]; exact h1)
    obtain ⟨ih1, ih2⟩ := ih
    rw [List.foldl_cons]
    refine ⟨fun k => ?_, fun k e => ?_⟩
    · have := ih1 k
      simp only [give] at this ⊢
      rw [this]
      by_cases hkj : k = j
      · subst hkj
        rw [if_neg hj, if_pos (by simp)]
        simp only [updF, cumP, if_true]
        omega
      · simp only [updF, cumP, List.mem_cons, hkj, false_or, if_false]
    · have := ih2 k e
      simp only [give] at this ⊢
      rw [this]
      by_cases hkj : k = j
      · subst hkj
        rw [if_neg (by simp [hj])]
        simp only [updF, cumP, if_true]
        by_cases he : e = d
        · subst he; rw [if_pos rfl, if_pos (by simp)]; omega
        · rw [if_neg he, if_neg (by simp [he])]
      · simp only [updF, cumP, List.mem_cons, hkj, false_or, if_false]
theorem sumR_nonneg {R : Nat → Int} (hR : ∀ d, 0 ≤ R d) : ∀ d, 0 ≤ sumR R d
  | 0 => by simp [sumR]
  | d + 1 => by have := sumR_nonneg hR d; have := hR d; simp only [sumR]; omega
theorem sumR_mono {R : Nat → Int} (hR : ∀ d, 0 ≤ R d) {a : Nat} : ∀ {b : Nat}, a ≤ b → sumR R a ≤ sumR R b
  | 0, h => by have : a = 0 := by omega
               subst this; exact Int.le_refl _
  | b + 1, h => by
    by_cases h1 : a = b + 1
    · subst h1; exact Int.le_refl _
    · have := sumR_mono hR (a := a) (b := b) (by omega); have := hR b; simp only [sumR]; omega
theorem days_form {u : Nat → Int} (hu : ∀ k, 0 ≤ u k) {R : Nat → Int} (hR : ∀ d, 0 ≤ R d) {p : List Nat} (hp : p.Nodup) : ∀ D, (∀ k, (daysG R p u D).1 k = if k ∈ p then u k - cumP u (sumR R D) p 0 k else u k) ∧
    ∀ k e, (daysG R p u D).2 k e = if k ∈ p ∧ e < D then cumP u (sumR R (e + 1)) p 0 k - cumP u (sumR R e) p 0 k else 0
  | 0 => ⟨fun k => by simp only [daysG, List.range_zero, List.foldl_nil, sumR]; rw [cumP_zero hu (Int.le_refl _)]; simp, fun k e => by simp [daysG]⟩
  | D + 1 => by
    obtain ⟨h1, h2⟩ := days_form hu hR hp D
    rw [daysG_succ, dayG]
    obtain ⟨g1, g2⟩ := give_day hu (S := sumR R D) (r := R D) (sumR_nonneg hR D) (hR D) D p 0 (R D) (daysG R p u D).1 (daysG R p u D).2 hp (Int.le_refl _) (by have := sumR_nonneg hR D; have := hR D; omega) (fun k hk => by rw [h1 k, if_pos hk])
    refine ⟨fun k => ?_, fun k e => ?_⟩
    · rw [g1 k, h1 k]
      by_cases hk : k ∈ p
      · rw [if_pos hk, if_pos hk]; rfl
      · rw [if_neg hk, if_neg hk, if_neg hk]
    · rw [g2 k e, h2 k e]
      by_cases hk : k ∈ p
      · by_cases he : e = D
        · subst he; rw [if_pos ⟨hk, rfl⟩, if_pos ⟨hk, by omega⟩]; rfl
        · rw [if_neg (by simp [he])]
          by_cases hlt : e < D
          · rw [if_pos ⟨hk, hlt⟩, if_pos ⟨hk, by omega⟩]
          · rw [if_neg (by simp [hlt]), if_neg (by simp; intro _; omega)]
      · rw [if_neg (by simp [hk]), if_neg (by simp [hk]), if_neg (by simp [hk])]
/-- what goes up to a day -/
theorem sum_upto {u : Nat → Int} (hu : ∀ k, 0 ≤ u k) {R : Nat → Int} (hR : ∀ d, 0 ≤ R d) {p : List Nat} (hp : p.Nodup) {D : Nat} (k : Nat) : ∀ m, m ≤ D → sumI ((List.range m).map (spreadG R p u D k)) = cumP u (sumR R m) p 0 k
  | 0, _ => by simp only [List.range_zero, List.map_nil, sumI, sumR]; rw [cumP_zero hu (Int.le_refl _)]
  | m + 1, h => by
    rw [List.range_succ, List.map_append, sumI_append, sum_upto hu hR hp k m (by omega)]
    simp only [List.map_cons, List.map_nil, sumI, spreadG]
    rw [(days_form hu hR hp D).2 k m]
    by_cases hk : k ∈ p
    · rw [if_pos ⟨hk, by omega⟩]; omega
    · rw [if_neg (by simp [hk]), cumP_not hk, cumP_not hk]; omega
theorem sumI_perm {a b : List Int} (h : a.Perm b) : sumI a = sumI b := by
  induction h with
  | nil => rfl
  | cons x _ ih => simp only [sumI, ih]
  | swap x y l => simp only [sumI]; omega
  | trans _ _ h1 h2 => rw [h1, h2]
theorem cumP_total {u : Nat → Int} {S : Int} : ∀ {p : List Nat} {U : Int}, p.Nodup → sumI (p.map (cumP u S p U)) = min (U + sumU u p) S - min U S
  | [], U, _ => by simp [sumI, sumU]
  | j :: p, U, h => by
    obtain ⟨hj, hnd⟩ := List.nodup_cons.1 h
    simp only [List.map_cons, sumI, sumU]
    have h1 : p.map (cumP u S (j :: p) U) = p.map (cumP u S p (U + u j)) := List.map_congr_left fun k hk => by
      have : k ≠ j := fun e => hj (e ▸ hk)
      simp only [cumP, if_neg this]
    rw [h1, cumP_total hnd]
    simp only [cumP, if_true]
    rw [show U + u j + sumU u p = U + (u j + sumU u p) by omega]
    omega
theorem PlanP.nodup {n : Nat} {l : List Int} (h : PlanP n l) : (planN l).Nodup := by
  unfold planN
  have h1 := h.2.1
  have h2 := h.2.2
  clear h
  induction l with
  | nil => simp
  | cons x l ih =>
    obtain ⟨hx, hnd⟩ := List.nodup_cons.1 h2
    rw [List.map_cons, List.nodup_cons]
    refine ⟨fun hm => ?_, ih (fun k hk => h1 k (by simp [hk])) hnd⟩
    obtain ⟨y, hy, he⟩ := List.mem_map.1 hm
    have e1 := h1 x (by simp)
    have e2 := h1 y (by simp [hy])
    have : y = x := by omega
    exact hx (this ▸ hy)
/-- a list without doubles, as long as there are numbers below n, has them all -/
theorem nodup_all : ∀ (n : Nat) (p : List Nat), p.Nodup → (∀ k ∈ p, k < n) → p.length = n → ∀ k, k < n → k ∈ p := by
  intro n
  induction n with
  | zero => intro p _ _ _ k hk; omega
  | succ n ih =>
    intro p hnd hb hl k hk
    by_cases hn : n ∈ p
    · by_cases hkn : k = n
      · rw [hkn]; exact hn
      · have h2 := ih (p.erase n) (hnd.erase n) (fun x hx => by
          have h3 := List.mem_of_mem_erase hx
          have h4 := hb x h3
          have h5 : x ≠ n := fun e => by subst e; exact (List.Nodup.not_mem_erase hnd) hx
          omega) (by rw [List.length_erase_of_mem hn]; omega) k (by omega)
        exact List.mem_of_mem_erase h2
    · exfalso
      have hb2 : ∀ x ∈ p, x < n := fun x hx => by
        have h4 := hb x hx
        have : x ≠ n := fun e => hn (e ▸ hx)
        omega
      cases p with
      | nil => simp at hl
      | cons y q =>
        obtain ⟨hy, hq⟩ := List.nodup_cons.1 hnd
        have h6 := ih q hq (fun x hx => hb2 x (by simp [hx])) (by simpa using hl) y (hb2 y (by simp))
        exact hy h6
theorem PlanP.all {n : Nat} {l : List Int} (h : PlanP n l) : ∀ k, k < n → k ∈ planN l := nodup_all n _ h.nodup h.nat.2 (by rw [planN_len, h.1])
/-- what an order gets, by what may go up to the days -/
theorem tellW_get {f : Frt} {w : Win} {p : List Nat} (hu : ∀ k, 0 ≤ unitS f.ords k) (hR : ∀ d, 0 ≤ roomW w d) (hp : p.Nodup) {k : Nat} {o : Ord} (ho : f.ords[k]? = some o) :
    ∃ x, (tellW f w p)[k]? = some x ∧ x.on = cumP (unitS f.ords) (sumR (roomW w) (min (o.d.toNat + 1) f.caps.length)) p 0 k ∧ x.late = cumP (unitS f.ords) (sumR (roomW w) f.caps.length) p 0 k - x.on ∧ x.lost = o.u - cumP (unitS f.ords) (sumR (roomW w) f.caps.length) p 0 k := by
  obtain ⟨D, hD⟩ : ∃ D, D = f.caps.length := ⟨_, rfl⟩
  have hk := (List.getElem?_eq_some_iff.1 ho).1
  have hrow : (rowsF f.ords.length D (spreadG (roomW w) p (unitS f.ords) D))[k]? = some ((List.range D).map (spreadG (roomW w) p (unitS f.ords) D k)) := by simp [rowsF, hk]
  refine ⟨tellO o ((List.range D).map (spreadG (roomW w) p (unitS f.ords) D k)), ?_, ?_, ?_, ?_⟩
  · unfold tellW tellS
    rw [← hD, List.getElem?_map]
    rw [show (f.ords.zip (rowsF f.ords.length D (spreadG (roomW w) p (unitS f.ords) D)))[k]? = some (o, (List.range D).map (spreadG (roomW w) p (unitS f.ords) D k)) from List.getElem?_zip_eq_some.2 ⟨ho, hrow⟩]
    rfl
  · simp only [tellO]
    rw [← List.map_take, List.take_range, ← hD]
    exact sum_upto hu hR hp k _ (by omega)
  · simp only [tellO]
    rw [sum_upto hu hR hp k D (Nat.le_refl _), ← hD]
  · simp only [tellO]
    rw [sum_upto hu hR hp k D (Nat.le_refl _), ← hD]
theorem roomW_nonneg {w : Win} (hw : ∀ x ∈ w.caps, 0 ≤ x ∧ x ≤ 1000000) (d : Nat) : 0 ≤ roomW w d := (roomW_bnd hw d).1
/-- the way of a plan may be -/
theorem way_ok {f : Frt} {w : Win} {p : List Nat} (hV : FrtV f) (hw : WinV f w) (hc : checkWinterS f w = 0) (hp : p.Nodup) (hpn : ∀ k ∈ p, k < f.ords.length) : checkWayS f w (rowsF f.ords.length f.caps.length (spreadG (roomW w) p (unitS f.ords) f.caps.length)) = 0 := by
  have hwb := hw.bnd hV
  have hu := unitS_bnd hV.ords.u
  have hu0 : ∀ k, 0 ≤ unitS f.ords k := fun k => (hu k).1
  have hR := roomW_nonneg hwb
  have hok := (daysG_ok (roomW_bnd hwb) hu (plan := p) f.caps.length).2
  obtain ⟨g, hg⟩ : ∃ g, g = spreadG (roomW w) p (unitS f.ords) f.caps.length := ⟨_, rfl⟩
  obtain ⟨N, hN⟩ : ∃ N, N = f.ords.length := ⟨_, rfl⟩
  obtain ⟨D, hD⟩ : ∃ D, D = f.caps.length := ⟨_, rfl⟩
  have hform := (days_form hu0 hR hp f.caps.length).2
  have hup := fun k => sum_upto hu0 hR hp (D := f.caps.length) k f.caps.length (Nat.le_refl _)
  rw [← hg] at hup ⊢
  have hgd : ∀ k e, g k e = if k ∈ p ∧ e < D then cumP (unitS f.ords) (sumR (roomW w) (e + 1)) p 0 k - cumP (unitS f.ords) (sumR (roomW w) e) p 0 k else 0 := by rw [hg, hD]; exact hform
  rw [← hN] at hpn
  rw [← hD] at hup
  unfold checkWayS
  rw [← hN, ← hD, if_neg (by simp [hc])]
  rw [if_neg (by
    simp only [rowsF, List.length_map, List.length_range, not_or]
    rw [Bool.not_eq_true, List.any_eq_false]
    refine ⟨fun h => h rfl, fun r hr => ?_⟩
    obtain ⟨k, _, rfl⟩ := List.mem_map.1 hr
    simp)]
  rw [if_neg (by
    rw [Bool.not_eq_false, List.all_eq_true]
    intro r hr
    obtain ⟨k, _, rfl⟩ := List.mem_map.1 hr
    rw [List.all_eq_true]
    intro x hx
    obtain ⟨d, _, rfl⟩ := List.mem_map.1 hx
    have := hok k d
    simp only [okE, decide_eq_true_eq, hg, spreadG]
    exact this)]
  rw [if_neg (by
    rw [Bool.not_eq_false, List.all_eq_true]
    intro d hd
    have hd := List.mem_range.1 hd
    rw [decide_eq_true_eq]
    have e1 : colS (rowsF N D g) d = sumI ((List.range N).map fun k => g k d) := by
      unfold colS rowsF
      rw [List.map_map]
      congr 1
      apply List.map_congr_left
      intro k _
      simp [List.getD_eq_getElem?_getD, hd]
    have e2 : sumI ((List.range N).map fun k => g k d) ≤ sumI (p.map fun k => g k d) := by
      have key : ∀ (q : List Nat) (r : List Nat), q.Nodup → (∀ k ∈ q, k ∈ r ∨ g k d = 0) → sumI (q.map fun k => g k d) ≤ sumI (r.map fun k => g k d) := by
        intro q
        induction q with
        | nil =>
          intro r _ _
          have : ∀ r : List Nat, 0 ≤ sumI (r.map fun k => g k d) := by
            intro r; induction r with
            | nil => simp [sumI]
            | cons x r ih => simp only [List.map_cons, sumI]; have h8 : 0 ≤ g x d := by rw [hg]; exact (hok x d).1
                             omega
          simpa [sumI] using this r
        | cons x q ih =>
          intro r hnd h
          obtain ⟨hx, hq⟩ := List.nodup_cons.1 hnd
          simp only [List.map_cons, sumI]
          rcases h x (by simp) with h1 | h1
          · have h2 := ih (r.erase x) hq (fun k hk => by
              rcases h k (by simp [hk]) with h3 | h3
              · left; exact (List.mem_erase_of_ne (fun e => by subst e; exact hx hk)).2 h3
              · exact .inr h3)
            have h4 := sumI_perm ((List.perm_cons_erase h1).map fun k => g k d)
            simp only [List.map_cons, sumI] at h4
            omega
          · have := ih r hq (fun k hk => h k (by simp [hk])); omega
      refine key _ _ List.nodup_range fun k _ => ?_
      by_cases hk : k ∈ p
      · exact .inl hk
      · right; rw [hgd, if_neg (by simp [hk])]
    have e3 : sumI (p.map fun k => g k d) = sumI (p.map (cumP (unitS f.ords) (sumR (roomW w) (d + 1)) p 0)) - sumI (p.map (cumP (unitS f.ords) (sumR (roomW w) d) p 0)) := by
      have key : ∀ q : List Nat, (∀ k ∈ q, k ∈ p) → sumI (q.map fun k => g k d) = sumI (q.map (cumP (unitS f.ords) (sumR (roomW w) (d + 1)) p 0)) - sumI (q.map (cumP (unitS f.ords) (sumR (roomW w) d) p 0)) := by
        intro q
        induction q with
        | nil => intro _; simp [sumI]
        | cons x q ih =>
          intro h
          simp only [List.map_cons, sumI]
          rw [ih fun k hk => h k (by simp [hk]), hgd, if_pos ⟨h x (by simp), hd⟩]
          omega
      exact key p fun _ h => h
    rw [cumP_total hp, cumP_total hp] at e3
    have h7 := sumR_nonneg hR d
    have h8 := hR d
    simp only [sumR] at e3
    omega)]
  rw [if_neg (by
    rw [Bool.not_eq_false, List.all_eq_true]
    intro x hx
    obtain ⟨i, hi⟩ := List.mem_iff_getElem?.1 hx
    obtain ⟨h1, h2⟩ := List.getElem?_zip_eq_some.1 hi
    have hiN : i < N := by have := (List.getElem?_eq_some_iff.1 h1).1; simpa [rowsF] using this
    have h3 : x.1 = (List.range D).map (g i) := by simp [rowsF, hiN] at h1; exact h1.symm
    rw [decide_eq_true_eq, h3, hup i]
    have := (cumP_bnd hu0 (S := sumR (roomW w) D) i (p := p) (U := 0)).2
    rw [unitS_get h2] at this
    exact this)]
end Go.Sas
namespace Go.Sas
theorem sumI_le : ∀ {l l' : List Int}, l.length = l'.length → (∀ (k : Nat) (x y : Int), l[k]? = some x → l'[k]? = some y → x ≤ y) → sumI l ≤ sumI l'
  | [], [], _, _ => Int.le_refl _
  | [], _ :: _, h, _ => by simp at h
  | _ :: _, [], h, _ => by simp at h
  | a :: l, b :: l', h, hk => by
    have h1 := hk 0 a b rfl rfl
    have h2 := sumI_le (l := l) (l' := l') (by simpa using h) fun k x y hx hy => hk (k + 1) x y (by simpa using hx) (by simpa using hy)
    simp only [sumI]; omega
/-- more room before every day -/
def RoomLe (D : Nat) (w w' : Win) : Prop := ∀ d, d ≤ D → sumR (roomW w) d ≤ sumR (roomW w') d
theorem sumR_le {R R' : Nat → Int} : ∀ d, (∀ e, e < d → R e ≤ R' e) → sumR R d ≤ sumR R' d
  | 0, _ => Int.le_refl _
  | d + 1, h => by
    have h1 := sumR_le d fun e he => h e (by omega)
    have h2 := h d (by omega)
    simp only [sumR]; omega
theorem OrdV_of {f : Frt} (hV : FrtV f) {k : Nat} {o : Ord} (ho : f.ords[k]? = some o) : (1 ≤ o.u ∧ o.u ≤ 1000000) ∧ (0 ≤ o.d ∧ o.d ≤ 200) ∧ (0 ≤ o.l ∧ o.l ≤ o.s ∧ o.s ≤ 1000000) := hV.ob o (List.mem_of_getElem? ho)
theorem FrtV.u0 {f : Frt} (hV : FrtV f) (k : Nat) : 0 ≤ unitS f.ords k := (unitS_bnd hV.ords.u k).1
def Win.Ok (w : Win) : Prop := ∀ x ∈ w.caps, 0 ≤ x ∧ x ≤ 1000000
theorem cost_get {f : Frt} {w : Win} {p : List Nat} {k : Nat} {o : Ord} {x : Dlv} (ho : f.ords[k]? = some o) (hx : (tellW f w p)[k]? = some x) :
    ((f.ords.zip (rowsF f.ords.length f.caps.length (spreadG (roomW w) p (unitS f.ords) f.caps.length))).map fun q => fineO q.1 (tellO q.1 q.2))[k]? = some (fineO o x) := by
  unfold tellW tellS at hx
  rw [List.getElem?_map] at hx ⊢
  rcases h : (f.ords.zip (rowsF f.ords.length f.caps.length (spreadG (roomW w) p (unitS f.ords) f.caps.length)))[k]? with _ | q
  · rw [h] at hx; simp at hx
  · rw [h] at hx
    obtain ⟨q1, q2⟩ := q
    obtain ⟨h1, _⟩ := List.getElem?_zip_eq_some.1 h
    rw [ho] at h1; cases h1
    simp at hx ⊢; rw [hx]
/-- more room, no less on time; no more lost -/
theorem tell_mono {f : Frt} {w w' : Win} {p : List Nat} (hV : FrtV f) (hw : w.Ok) (hw' : w'.Ok) (hp : p.Nodup) (hR : RoomLe f.caps.length w w') {k : Nat} {o : Ord} (ho : f.ords[k]? = some o) :
    ∃ x y, (tellW f w p)[k]? = some x ∧ (tellW f w' p)[k]? = some y ∧ 0 ≤ x.on ∧ x.on ≤ y.on ∧ y.on ≤ o.u ∧ fineO o y ≤ fineO o x := by
  obtain ⟨x, h1, h2, h3, h4⟩ := tellW_get (f := f) hV.u0 (roomW_nonneg hw) hp ho
  obtain ⟨y, g1, g2, g3, g4⟩ := tellW_get (f := f) hV.u0 (roomW_nonneg hw') hp ho
  have m1 := cumP_mono hV.u0 (hR (min (o.d.toNat + 1) f.caps.length) (by omega)) k (p := p) (U := 0)
  have m2 := cumP_mono hV.u0 (hR f.caps.length (by omega)) k (p := p) (U := 0)
  have m3 := cumP_bnd hV.u0 k (p := p) (U := 0) (S := sumR (roomW w) (min (o.d.toNat + 1) f.caps.length))
  have m4 := cumP_bnd hV.u0 k (p := p) (U := 0) (S := sumR (roomW w') (min (o.d.toNat + 1) f.caps.length))
  rw [unitS_get ho] at m3 m4
  refine ⟨x, y, h1, g1, by omega, by omega, by omega, ?_⟩
  obtain ⟨_, _, hl0, hls, _⟩ := OrdV_of hV ho
  unfold fineO
  rw [h3, h4, g3, g4, h2, g2]
  obtain ⟨a, ha⟩ : ∃ a, a = cumP (unitS f.ords) (sumR (roomW w) (min (o.d.toNat + 1) f.caps.length)) p 0 k := ⟨_, rfl⟩
  obtain ⟨a', ha'⟩ : ∃ a, a = cumP (unitS f.ords) (sumR (roomW w') (min (o.d.toNat + 1) f.caps.length)) p 0 k := ⟨_, rfl⟩
  obtain ⟨b, hb⟩ : ∃ a, a = cumP (unitS f.ords) (sumR (roomW w) f.caps.length) p 0 k := ⟨_, rfl⟩
  obtain ⟨b', hb'⟩ : ∃ a, a = cumP (unitS f.ords) (sumR (roomW w') f.caps.length) p 0 k := ⟨_, rfl⟩
  rw [← ha, ← hb, ← ha', ← hb']
  rw [← ha, ← ha'] at m1
  rw [← hb, ← hb'] at m2
  have e1 : (a' - a) * o.l ≥ 0 := Int.mul_nonneg (by omega) hl0
  have e2 : (b' - b) * (o.s - o.l) ≥ 0 := Int.mul_nonneg (by omega) (by omega)
  have e3 : ((b - a) * o.l + (o.u - b) * o.s) - ((b' - a') * o.l + (o.u - b') * o.s) = (a' - a) * o.l + (b' - b) * (o.s - o.l) := by
    simp only [Int.sub_mul, Int.mul_sub]; omega
  omega
theorem cost_mono {f : Frt} {w w' : Win} {p : List Nat} (hV : FrtV f) (hw : w.Ok) (hw' : w'.Ok) (hp : p.Nodup) (hR : RoomLe f.caps.length w w') : costS f.ords f.caps.length w' p ≤ costS f.ords f.caps.length w p := by
  unfold costS penS
  refine sumI_le (by simp [rowsF]) fun k a b ha hb => ?_
  have hk : k < f.ords.length := by
    have := (List.getElem?_eq_some_iff.1 ha).1
    simp [rowsF] at this; omega
  obtain ⟨o, ho⟩ : ∃ o, f.ords[k]? = some o := ⟨_, List.getElem?_eq_getElem hk⟩
  obtain ⟨x, y, h1, h2, _, _, _, h3⟩ := tell_mono hV hw hw' hp hR ho
  rw [cost_get ho h1] at hb
  rw [cost_get ho h2] at ha
  cases ha; cases hb; exact h3
theorem roomLe_of {D : Nat} {w w' : Win} (hfi : w'.fi ≤ w.fi) (hla : w.la ≤ w'.la) (hc : ∀ (d : Nat) (x y : Int), w.caps[d]? = some x → w'.caps[d]? = some y → x ≤ y) (hl : w.caps.length = w'.caps.length) (hw : w'.Ok) : RoomLe D w w' := by
  intro d _
  refine sumR_le d fun e _ => ?_
  unfold roomW
  have h0 : 0 ≤ w'.caps.getD e 0 := by
    rw [List.getD_eq_getElem?_getD]
    rcases h : w'.caps[e]? with _ | y
    · simp
    · exact (hw y (List.mem_of_getElem? h)).1
  split
  · rw [if_pos (by omega)]
    rw [List.getD_eq_getElem?_getD, List.getD_eq_getElem?_getD]
    by_cases he : e < w.caps.length
    · rw [List.getElem?_eq_getElem he, List.getElem?_eq_getElem (by omega)]
      exact hc e _ _ (List.getElem?_eq_getElem he) (List.getElem?_eq_getElem (by omega))
    · rw [List.getElem?_eq_none (by omega), List.getElem?_eq_none (by omega)]; exact Int.le_refl _
  · split <;> omega
theorem FrtV.worst {f : Frt} (hV : FrtV f) : (worstW f).Ok := hV.lo
theorem FrtV.best {f : Frt} (hV : FrtV f) : (bestW f).Ok := hV.hi
theorem worst_le {f : Frt} {w : Win} (hV : FrtV f) (hw : WinV f w) : RoomLe f.caps.length (worstW f) w := by
  refine roomLe_of hw.fi.2 hw.la.1 (fun d x y hx hy => ?_) (by simp [worstW, hw.len]) (hw.bnd hV)
  simp only [worstW, List.getElem?_map] at hx
  rcases h : f.caps[d]? with _ | c
  · rw [h] at hx; simp at hx
  · rw [h] at hx; simp at hx; subst hx
    exact (hw.cap d y c hy h).1
theorem le_best {f : Frt} {w : Win} (hV : FrtV f) (hw : WinV f w) : RoomLe f.caps.length w (bestW f) := by
  refine roomLe_of hw.fi.1 hw.la.2 (fun d x y hx hy => ?_) (by simp [bestW, hw.len]) hV.best
  simp only [bestW, List.getElem?_map] at hy
  rcases h : f.caps[d]? with _ | c
  · rw [h] at hy; simp at hy
  · rw [h] at hy; simp at hy; subst hy
    exact (hw.cap d x c hx h).2
theorem worst_win {f : Frt} (hV : FrtV f) : WinV f (worstW f) := by
  refine ⟨⟨hV.fi.2.1, Int.le_refl _⟩, ⟨Int.le_refl _, hV.la.2.1⟩, by simp [worstW], fun i x c hx hc => ?_⟩
  simp only [worstW, List.getElem?_map, hc, Option.map_some, Option.some.injEq] at hx
  subst hx
  have := hV.cb c (List.mem_of_getElem? hc)
  omega
theorem best_win {f : Frt} (hV : FrtV f) : WinV f (bestW f) := by
  refine ⟨⟨Int.le_refl _, hV.fi.2.1⟩, ⟨hV.la.2.1, Int.le_refl _⟩, by simp [bestW], fun i x c hx hc => ?_⟩
  simp only [bestW, List.getElem?_map, hc, Option.map_some, Option.some.injEq] at hx
  subst hx
  have := hV.cb c (List.mem_of_getElem? hc)
  omega
theorem promS_len {f : Frt} {p : List Nat} : (promS f p).length = f.ords.length := by simp [promS, tellW_len]
theorem prom_get {f : Frt} {p : List Nat} {k : Nat} {o : Ord} {x y : Dlv} (ho : f.ords[k]? = some o) (hx : (tellW f (worstW f) p)[k]? = some x) (hy : (tellW f (bestW f) p)[k]? = some y) :
    (promS f p)[k]? = some (if x.on = o.u then 1 else if y.on < o.u then 2 else 3) := by
  unfold promS
  rw [List.getElem?_map, (List.getElem?_zip_eq_some (z := (o, x, y))).2 ⟨ho, (List.getElem?_zip_eq_some (z := (x, y))).2 ⟨hx, hy⟩⟩]
  rfl
/-- what is promised in a winter is so -/
theorem prom_true {f : Frt} {w : Win} {p : List Nat} (hV : FrtV f) (hw : WinV f w) (hp : p.Nodup) {k : Nat} {o : Ord} (ho : f.ords[k]? = some o) :
    ∃ m x, (promS f p)[k]? = some m ∧ (tellW f w p)[k]? = some x ∧ (m = 1 → x.on = o.u) ∧ (m = 2 → x.on ≠ o.u) := by
  obtain ⟨x, y, h1, h2, h3, h4, h5, _⟩ := tell_mono hV hV.worst (hw.bnd hV) hp (worst_le hV hw) ho
  obtain ⟨y', z, g1, g2, g3, g4, g5, _⟩ := tell_mono hV (hw.bnd hV) hV.best hp (le_best hV hw) ho
  rw [h2] at g1; cases g1
  refine ⟨_, y, prom_get ho h1 g2, h2, fun h => ?_, fun h => ?_⟩
  · split at h
    · omega
    · split at h <;> omega
  · split at h
    · omega
    · split at h
      · omega
      · omega
/-- what is promised, by the ends -/
theorem prom_ends {f : Frt} {p : List Nat} (hV : FrtV f) (hp : p.Nodup) {k : Nat} {o : Ord} (ho : f.ords[k]? = some o) :
    ∃ m x y, (promS f p)[k]? = some m ∧ (tellW f (worstW f) p)[k]? = some x ∧ (tellW f (bestW f) p)[k]? = some y ∧ (m = 1 ↔ x.on = o.u) ∧ (m = 2 ↔ y.on < o.u) := by
  obtain ⟨x, y, h1, h2, h3, h4, h5, _⟩ := tell_mono hV hV.worst hV.best hp (worst_le hV (best_win hV)) ho
  refine ⟨_, x, y, prom_get ho h1 h2, h1, h2, ?_, ?_⟩
  · split
    · omega
    · split <;> omega
  · split
    · omega
    · split <;> omega
end Go.Sas
