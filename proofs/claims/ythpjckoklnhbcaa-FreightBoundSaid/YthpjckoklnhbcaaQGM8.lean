/-
Freight: no way of delivering costs less than the bound: a plain law.
Conditions: none.
-/
import Derived.Test.YthpjckoklnhbcaaHI
import Derived.Test.YthpjckoklnhbcaaQGM2
set_option linter.unusedVariables false
set_option linter.unusedSimpArgs false
namespace Go.Sas
theorem insV_perm {α : Type} {lt : α → Bool} {x : α} : ∀ {l : List α}, (insV lt x l).Perm (x :: l)
  | [] => List.Perm.refl _
  | y :: r => by
    simp only [insV]
    split
    · exact ((insV_perm (l := r)).cons y).trans (List.Perm.swap x y r)
    · exact List.Perm.refl _
theorem sortV_perm {α : Type} {key : α → Int} {l : List α} : (sortV key l).Perm l := by
  unfold sortV
  refine (List.reverse_perm _).trans ?_
  have : ∀ (l s : List α), (l.foldl (fun s x => insV (fun y => decide (key y < key x)) x s) s).Perm (l ++ s) := by
    intro l
    induction l with
    | nil => intro s; exact List.Perm.refl _
    | cons x l ih =>
      intro s
      rw [List.foldl_cons]
      exact (ih _).trans ((List.Perm.append_left l insV_perm).trans List.perm_middle)
  simpa using this l []
theorem insV_asc {α : Type} {key : α → Int} {x : α} : ∀ {S : List α}, S.Pairwise (fun a b => key a ≤ key b) → (insV (fun y => decide (key y < key x)) x S).Pairwise (fun a b => key a ≤ key b)
  | [], _ => by simp [insV]
  | y :: r, h => by
    rw [List.pairwise_cons] at h
    obtain ⟨h1, h2⟩ := h
    simp only [insV]
    by_cases hlt : key y < key x
    · rw [if_pos (by simpa using hlt), List.pairwise_cons]
      refine ⟨fun z hz => ?_, insV_asc h2⟩
      rcases insV_mem.1 hz with rfl | hz
      · omega
      · exact h1 z hz
    · rw [if_neg (by simpa using hlt), List.pairwise_cons]
      refine ⟨fun z hz => ?_, List.pairwise_cons.2 ⟨h1, h2⟩⟩
      rcases List.mem_cons.1 hz with rfl | hz
      · omega
      · have := h1 z hz; omega
theorem sortV_desc {α : Type} {key : α → Int} {l : List α} : (sortV key l).Pairwise (fun a b => key b ≤ key a) := by
  unfold sortV
  rw [List.pairwise_reverse]
  have : ∀ (l S : List α), S.Pairwise (fun a b => key a ≤ key b) → (l.foldl (fun s x => insV (fun y => decide (key y < key x)) x s) S).Pairwise (fun a b => key a ≤ key b) := by
    intro l
    induction l with
    | nil => exact fun S h => h
    | cons x l ih => exact fun S h => ih _ (insV_asc h)
  exact this l [] List.Pairwise.nil
theorem minF_sp : ∀ {l : List Int} {n : Int}, minF n l ≤ n ∧ (∀ x ∈ l, minF n l ≤ x) ∧ (minF n l = n ∨ minF n l ∈ l)
  | [], n => ⟨Int.le_refl _, fun x hx => by simp at hx, .inl rfl⟩
  | y :: l, n => by
    obtain ⟨h1, h2, h3⟩ := minF_sp (l := l) (n := min n y)
    have e : minF n (y :: l) = minF (min n y) l := rfl
    rw [e]
    refine ⟨by omega, fun x hx => ?_, ?_⟩
    · rcases List.mem_cons.1 hx with rfl | hx
      · omega
      · exact h2 x hx
    · rcases h3 with h3 | h3
      · by_cases hny : n ≤ y
        · left; omega
        · right
          have : min n y = y := by omega
          rw [h3, this]; simp
      · right; exact List.mem_cons_of_mem _ h3
/-! ### What is taken first, as much as can be -/
def nxtC (q : Nat) (n : Int) (c : List Int) : List Int := c.take q ++ (c.drop q).map (· - n)
def grG (qf : Ord → Nat) : List Int → List (Ord × Int) → List (Ord × Int × Int)
  | _, [] => []
  | c, x :: Z => (x.1, x.2, minF x.1.u (c.drop (qf x.1))) :: grG qf (nxtC (qf x.1) (minF x.1.u (c.drop (qf x.1))) c) Z
def endC (qf : Ord → Nat) : List Int → List (Ord × Int) → List Int
  | c, [] => c
  | c, x :: Z => endC qf (nxtC (qf x.1) (minF x.1.u (c.drop (qf x.1))) c) Z
theorem nxtC_len {q : Nat} {n : Int} {c : List Int} : (nxtC q n c).length = c.length := by
  unfold nxtC; simp; omega
theorem nxtC_get {q t : Nat} {n : Int} {c : List Int} (ht : t < c.length) : (nxtC q n c).getD t 0 = c.getD t 0 - (if q ≤ t then n else 0) := by
  unfold nxtC
  rw [List.getD_eq_getElem?_getD, List.getD_eq_getElem?_getD]
  by_cases h : q ≤ t
  · rw [if_pos h, List.getElem?_append_right (by rw [List.length_take]; omega), List.length_take, Nat.min_eq_left (by omega), List.getElem?_map, List.getElem?_drop, show q + (t - q) = t by omega, List.getElem?_eq_getElem ht]; rfl
  · rw [if_neg h, List.getElem?_append_left (by rw [List.length_take]; omega), List.getElem?_take, if_pos (by omega)]; omega
theorem sumI_nn : ∀ {l : List Int}, (∀ x ∈ l, 0 ≤ x) → 0 ≤ sumI l
  | [], _ => Int.le_refl _
  | x :: l, h => by
    have h1 := h x (by simp)
    have h2 := sumI_nn (l := l) fun y hy => h y (by simp [hy])
    simp only [sumI]; omega
theorem sumI_map_le {α : Type} {f g : α → Int} : ∀ {l : List α}, (∀ e ∈ l, f e ≤ g e) → sumI (l.map f) ≤ sumI (l.map g)
  | [], _ => Int.le_refl _
  | x :: l, h => by
    have h1 := h x (by simp)
    have h2 := sumI_map_le (l := l) fun y hy => h y (by simp [hy])
    simp only [List.map_cons, sumI]; omega
theorem sumI_map_add {α : Type} {f g : α → Int} : ∀ {l : List α}, sumI (l.map fun e => f e + g e) = sumI (l.map f) + sumI (l.map g)
  | [] => rfl
  | x :: l => by
    have h2 := sumI_map_add (f := f) (g := g) (l := l)
    simp only [List.map_cons, sumI]; omega
theorem sumI_map_sub {α : Type} {f g : α → Int} : ∀ {l : List α}, sumI (l.map fun e => f e - g e) = sumI (l.map f) - sumI (l.map g)
  | [] => rfl
  | x :: l => by
    have h2 := sumI_map_sub (f := f) (g := g) (l := l)
    simp only [List.map_cons, sumI]; omega
def tagS (qf : Ord → Nat) (t : Nat) (L : List (Ord × Int × Int)) : Int := sumI (L.map fun e => if qf e.1 ≤ t then e.2.2 else 0)
theorem gr_spec (qf : Ord → Nat) (D : Nat) : ∀ (Z : List (Ord × Int)) (c : List Int), c.length = D → (∀ t, t < D → 0 ≤ c.getD t 0) → (∀ e ∈ Z, qf e.1 < D ∧ 0 ≤ e.1.u) →
    (endC qf c Z).length = D ∧ (∀ t, t < D → (endC qf c Z).getD t 0 = c.getD t 0 - tagS qf t (grG qf c Z) ∧ 0 ≤ (endC qf c Z).getD t 0) ∧
    ∀ e ∈ grG qf c Z, 0 ≤ e.2.2 ∧ (e.2.2 = e.1.u ∨ ∃ t, t < D ∧ qf e.1 ≤ t ∧ (endC qf c Z).getD t 0 = 0)
  | [], c, hl, h0, _ => ⟨hl, fun t ht => ⟨by simp [endC, grG, tagS, sumI], h0 t ht⟩, fun e he => by simp [grG] at he⟩
  | x :: Z, c, hl, h0, hZ => by
    obtain ⟨hq, hu⟩ := hZ x (by simp)
    obtain ⟨q, hqe⟩ : ∃ q, q = qf x.1 := ⟨_, rfl⟩
    obtain ⟨n, hn⟩ : ∃ n, n = minF x.1.u (c.drop q) := ⟨_, rfl⟩
    have hm := minF_sp (l := c.drop q) (n := x.1.u)
    rw [← hn] at hm
    obtain ⟨m1, m2, m3⟩ := hm
    have hle : ∀ t, q ≤ t → t < D → n ≤ c.getD t 0 := fun t h1 h2 => m2 _ (by
      rw [List.getD_eq_getElem?_getD, List.getElem?_eq_getElem (by omega)]
      exact List.mem_iff_getElem?.2 ⟨t - q, by rw [List.getElem?_drop, show q + (t - q) = t by omega, List.getElem?_eq_getElem (by omega)]; rfl⟩)
    have hn0 : 0 ≤ n := by
      rcases m3 with h | h
      · omega
      · obtain ⟨i, hi⟩ := List.mem_iff_getElem?.1 h
        rw [List.getElem?_drop] at hi
        have hlt := (List.getElem?_eq_some_iff.1 hi).1
        have := h0 (q + i) (by omega)
        rw [List.getD_eq_getElem?_getD, hi] at this; exact this
    have hg : grG qf c (x :: Z) = (x.1, x.2, n) :: grG qf (nxtC q n c) Z := by rw [hn, hqe]; rfl
    have he : endC qf c (x :: Z) = endC qf (nxtC q n c) Z := by rw [hn, hqe]; rfl
    obtain ⟨a1, a2, a3⟩ := gr_spec qf D Z (nxtC q n c) (by rw [nxtC_len]; exact hl) (fun t ht => by
      rw [nxtC_get (by omega)]
      have := h0 t ht
      split
      · rename_i h; have := hle t h ht; omega
      · omega) (fun e he => hZ e (by simp [he]))
    have hpos : ∀ t, 0 ≤ tagS qf t (grG qf (nxtC q n c) Z) := fun t => sumI_nn fun y hy => by
      obtain ⟨e, he, rfl⟩ := List.mem_map.1 hy
      have := (a3 e he).1
      split <;> omega
    rw [hg, he]
    refine ⟨a1, fun t ht => ⟨?_, (a2 t ht).2⟩, fun e hm => ?_⟩
    · rw [(a2 t ht).1, nxtC_get (by omega)]
      unfold tagS
      simp only [List.map_cons, sumI]
      rw [← hqe]
      split <;> omega
    · rcases List.mem_cons.1 hm with rfl | hm
      · refine ⟨hn0, ?_⟩
        dsimp only
        rcases m3 with h | h
        · exact .inl h
        · obtain ⟨i, hi⟩ := List.mem_iff_getElem?.1 h
          rw [List.getElem?_drop] at hi
          have hlt := (List.getElem?_eq_some_iff.1 hi).1
          refine .inr ⟨q + i, by omega, by omega, ?_⟩
          have h1 := a2 (q + i) (by omega)
          have h2 : (nxtC q n c).getD (q + i) 0 = 0 := by
            rw [nxtC_get hlt, if_pos (by omega), List.getD_eq_getElem?_getD, hi]; simp
          have h3 := hpos (q + i)
          omega
      · exact a3 e hm
theorem maxT {p : Nat → Prop} : ∀ D, (∀ t, t < D → ¬ p t) ∨ ∃ T, T < D ∧ p T ∧ ∀ t, T < t → t < D → ¬ p t
  | 0 => .inl fun t h => absurd h (Nat.not_lt_zero _)
  | D + 1 => by
    by_cases h : p D
    · exact .inr ⟨D, by omega, h, fun t h1 h2 => by omega⟩
    · rcases maxT (p := p) D with h1 | ⟨T, h1, h2, h3⟩
      · exact .inl fun t ht => by
          by_cases hD : t = D
          · subst hD; exact h
          · exact h1 t (by omega)
      · exact .inr ⟨T, by omega, h2, fun t h4 h5 => by
          by_cases hD : t = D
          · subst hD; exact h
          · exact h3 t h4 (by omega)⟩
theorem grG_map {qf : Ord → Nat} : ∀ {Z : List (Ord × Int)} {c : List Int}, (grG qf c Z).map (fun e => (e.1, e.2.1)) = Z
  | [], _ => rfl
  | x :: Z, c => by
    show (x.1, x.2) :: (grG qf _ Z).map _ = _
    rw [grG_map (Z := Z)]
theorem grG_take {qf : Ord → Nat} : ∀ {Z : List (Ord × Int)} {c : List Int} {k : Nat}, grG qf c (Z.take k) = (grG qf c Z).take k
  | [], _, k => by simp [grG]
  | x :: Z, c, 0 => by simp [grG]
  | x :: Z, c, k + 1 => by
    show (x.1, x.2, _) :: grG qf _ (Z.take k) = (x.1, x.2, _) :: (grG qf _ Z).take k
    rw [grG_take (Z := Z)]
theorem gr_total {qf : Ord → Nat} {D : Nat} {Z : List (Ord × Int)} {c : List Int} (hl : c.length = D) (h0 : ∀ t, t < D → 0 ≤ c.getD t 0) (hZ : ∀ e ∈ Z, qf e.1 < D ∧ 0 ≤ e.2 ∧ e.2 ≤ e.1.u)
    (hcap : ∀ t, t < D → sumI (Z.map fun e => if qf e.1 ≤ t then e.2 else 0) ≤ c.getD t 0) : sumI ((grG qf c Z).map fun e => e.2.1) ≤ sumI ((grG qf c Z).map fun e => e.2.2) := by
  obtain ⟨a1, a2, a3⟩ := gr_spec qf D Z c hl h0 (fun e he => ⟨(hZ e he).1, by have := hZ e he; omega⟩)
  have hm := grG_map (qf := qf) (Z := Z) (c := c)
  obtain ⟨L, hL⟩ : ∃ L, L = grG qf c Z := ⟨_, rfl⟩
  rw [← hL] at a2 a3 hm ⊢
  have hZL : ∀ e ∈ L, qf e.1 < D ∧ 0 ≤ e.2.1 ∧ e.2.1 ≤ e.1.u := fun e he => hZ (e.1, e.2.1) (by rw [← hm]; exact List.mem_map.2 ⟨e, he, rfl⟩)
  rcases maxT (p := fun t => (endC qf c Z).getD t 0 = 0) D with hn | ⟨T, hT, hp, hmx⟩
  · refine sumI_map_le fun e he => ?_
    rcases (a3 e he).2 with h1 | ⟨t, h1, _, h3⟩
    · have := hZL e he; omega
    · exact absurd h3 (hn t h1)
  · have hc := hcap T hT
    have h2 := (a2 T hT).1
    rw [← hm, List.map_map] at hc
    have hc : sumI (L.map fun e => if qf e.1 ≤ T then e.2.1 else 0) ≤ c.getD T 0 := hc
    have key : sumI (L.map fun e => e.2.1 + (if qf e.1 ≤ T then e.2.2 else 0)) ≤ sumI (L.map fun e => e.2.2 + (if qf e.1 ≤ T then e.2.1 else 0)) := by
      refine sumI_map_le fun e he => ?_
      by_cases hq : qf e.1 ≤ T
      · rw [if_pos hq, if_pos hq]; omega
      · rw [if_neg hq, if_neg hq]
        rcases (a3 e he).2 with h4 | ⟨t, h4, h5, h6⟩
        · have := hZL e he; omega
        · exact absurd h6 (hmx t (by omega) h4)
    rw [sumI_map_add, sumI_map_add] at key
    unfold tagS at h2
    omega
theorem dom : ∀ (T : List (Int × Int × Int)) (d P : Int), 0 ≤ d → 0 ≤ P → (∀ t ∈ T, 0 ≤ t.1 ∧ t.1 ≤ P) → T.Pairwise (fun a b => b.1 ≤ a.1) → (∀ k, 0 ≤ d + sumI ((T.take k).map fun t => t.2.2 - t.2.1)) → 0 ≤ d * P + sumI (T.map fun t => (t.2.2 - t.2.1) * t.1)
  | [], d, P, hd, hP, _, _, _ => by
    have := Int.mul_nonneg hd hP
    simp only [List.map_nil, sumI]; omega
  | ⟨l, y, g⟩ :: T, d, P, hd, hP, hb, hs, hk => by
    rw [List.pairwise_cons] at hs
    obtain ⟨hs1, hs2⟩ := hs
    have h1 := hb (l, y, g) (by simp)
    have hk1 := hk 1
    simp only [List.take_succ_cons, List.take_zero, List.map_cons, List.map_nil, sumI] at hk1
    have ih := dom T (d + (g - y)) l (by omega) h1.1 (fun t ht => ⟨(hb t (by simp [ht])).1, hs1 t ht⟩) hs2 (fun k => by
      have := hk (k + 1)
      simp only [List.take_succ_cons, List.map_cons, sumI] at this
      omega)
    simp only [List.map_cons, sumI]
    have e1 : (d + (g - y)) * l = d * l + (g - y) * l := Int.add_mul ..
    have e2 : d * l ≤ d * P := Int.mul_le_mul_of_nonneg_left h1.2 hd
    omega
theorem gr_le {qf : Ord → Nat} {D : Nat} {Z : List (Ord × Int)} {c : List Int} {K : Ord → Int} (hl : c.length = D) (h0 : ∀ t, t < D → 0 ≤ c.getD t 0) (hZ : ∀ e ∈ Z, qf e.1 < D ∧ 0 ≤ e.2 ∧ e.2 ≤ e.1.u)
    (hcap : ∀ t, t < D → sumI (Z.map fun e => if qf e.1 ≤ t then e.2 else 0) ≤ c.getD t 0) (hK : ∀ e ∈ Z, 0 ≤ K e.1 ∧ K e.1 ≤ 1000000) (hs : Z.Pairwise fun a b => K b.1 ≤ K a.1) :
    sumI (Z.map fun e => e.2 * K e.1) ≤ sumI ((grG qf c Z).map fun e => e.2.2 * K e.1) := by
  have hm := grG_map (qf := qf) (Z := Z) (c := c)
  have htk : ∀ k, sumI (((grG qf c Z).take k).map fun e => e.2.1) ≤ sumI (((grG qf c Z).take k).map fun e => e.2.2) := fun k => by
    rw [← grG_take]
    refine gr_total hl h0 (fun e he => hZ e (List.mem_of_mem_take he)) fun t ht => ?_
    refine Int.le_trans ?_ (hcap t ht)
    have e1 : Z = Z.take k ++ Z.drop k := (List.take_append_drop k Z).symm
    have e2 : sumI (Z.map fun e => if qf e.1 ≤ t then e.2 else 0) = sumI ((Z.take k).map fun e => if qf e.1 ≤ t then e.2 else 0) + sumI ((Z.drop k).map fun e => if qf e.1 ≤ t then e.2 else 0) := by
      rw [← sumI_append, ← List.map_append, List.take_append_drop]
    have e3 : 0 ≤ sumI ((Z.drop k).map fun e => if qf e.1 ≤ t then e.2 else 0) := sumI_nn fun y hy => by
      obtain ⟨e, he, rfl⟩ := List.mem_map.1 hy
      have := hZ e (List.mem_of_mem_drop he)
      split <;> omega
    omega
  obtain ⟨L, hL⟩ : ∃ L, L = grG qf c Z := ⟨_, rfl⟩
  rw [← hL] at hm htk ⊢
  have hd := dom (L.map fun e => (K e.1, e.2.1, e.2.2)) 0 1000000 (Int.le_refl _) (by omega) (fun t ht => by
      obtain ⟨e, he, rfl⟩ := List.mem_map.1 ht
      exact hK (e.1, e.2.1) (by rw [← hm]; exact List.mem_map.2 ⟨e, he, rfl⟩)) (by
      rw [List.pairwise_map]
      rw [← hm, List.pairwise_map] at hs
      exact hs) (fun k => by
      rw [← List.map_take, List.map_map]
      have h1 := htk k
      have h2 : sumI ((L.take k).map fun e => e.2.2 - e.2.1) = _ := sumI_map_sub
      have h3 : sumI ((L.take k).map ((fun t : Int × Int × Int => t.2.2 - t.2.1) ∘ fun e : Ord × Int × Int => (K e.1, e.2.1, e.2.2))) = sumI ((L.take k).map fun e => e.2.2 - e.2.1) := rfl
      rw [h3, h2]; omega)
  rw [List.map_map] at hd
  have h3 : sumI (L.map ((fun t : Int × Int × Int => (t.2.2 - t.2.1) * t.1) ∘ fun e : Ord × Int × Int => (K e.1, e.2.1, e.2.2))) = sumI (L.map fun e => e.2.2 * K e.1 - e.2.1 * K e.1) := by
    congr 1; apply List.map_congr_left; intro e _; exact Int.sub_mul ..
  rw [h3, sumI_map_sub] at hd
  rw [← hm, List.map_map]
  have h4 : sumI (L.map ((fun e : Ord × Int => e.2 * K e.1) ∘ fun e : Ord × Int × Int => (e.1, e.2.1))) = sumI (L.map fun e => e.2.1 * K e.1) := rfl
  rw [h4]; omega
theorem grA_fold {key : Ord → Int} : ∀ {Z : List (Ord × Int)} {a S : Int}, ((Z.map Prod.fst).foldl (bndA key) (a, S)).1 = a - sumI ((grG (fun _ => 0) [S] Z).map fun e => e.2.2 * key e.1)
  | [], a, S => by simp [grG, sumI]
  | x :: Z, a, S => by
    have ih := grA_fold (key := key) (Z := Z) (a := a - min x.1.u S * key x.1) (S := S - min x.1.u S)
    simp only [List.map_cons, List.foldl_cons]
    have e1 : bndA key (a, S) x.1 = (a - min x.1.u S * key x.1, S - min x.1.u S) := rfl
    have e2 : grG (fun _ => 0) [S] (x :: Z) = (x.1, x.2, min x.1.u S) :: grG (fun _ => 0) [S - min x.1.u S] Z := rfl
    rw [e1, ih, e2]
    simp only [List.map_cons, sumI]; omega
theorem grB_fold {D : Nat} : ∀ {Z : List (Ord × Int)} {a : Int} {c : List Int}, ((Z.map Prod.fst).foldl (bndB D) (a, c)).1 = a - sumI ((grG (fun o => min o.d.toNat (D - 1)) c Z).map fun e => e.2.2 * e.1.l)
  | [], a, c => by simp [grG, sumI]
  | x :: Z, a, c => by
    obtain ⟨n, hn⟩ : ∃ n, n = minF x.1.u (c.drop (min x.1.d.toNat (D - 1))) := ⟨_, rfl⟩
    have ih := grB_fold (D := D) (Z := Z) (a := a - n * x.1.l) (c := nxtC (min x.1.d.toNat (D - 1)) n c)
    simp only [List.map_cons, List.foldl_cons]
    have e1 : bndB D (a, c) x.1 = (a - n * x.1.l, nxtC (min x.1.d.toNat (D - 1)) n c) := by rw [hn]; rfl
    have e2 : grG (fun o => min o.d.toNat (D - 1)) c (x :: Z) = (x.1, x.2, n) :: grG (fun o => min o.d.toNat (D - 1)) (nxtC (min x.1.d.toNat (D - 1)) n c) Z := by rw [hn]; rfl
    rw [e1, ih, e2]
    simp only [List.map_cons, sumI]; omega
/-! ### Ways -/
theorem sumR_add {f g : Nat → Int} : ∀ n, sumR (fun e => f e + g e) n = sumR f n + sumR g n
  | 0 => rfl
  | n + 1 => by simp only [sumR, sumR_add n]; omega
theorem sumR_zero : ∀ n, sumR (fun _ => 0) n = 0
  | 0 => rfl
  | n + 1 => by simp only [sumR, sumR_zero n]; omega
theorem sumI_take {r : List Int} : ∀ {m}, sumI (r.take m) = sumR (fun e => r.getD e 0) m
  | 0 => by simp [sumI, sumR]
  | m + 1 => by
    simp only [sumR]
    rw [← sumI_take (m := m)]
    by_cases h : m < r.length
    · rw [List.take_succ_eq_append_getElem h, sumI_append, List.getD_eq_getElem?_getD, List.getElem?_eq_getElem h]
      simp [sumI]
    · rw [List.take_of_length_le (by omega), List.take_of_length_le (by omega), List.getD_eq_getElem?_getD, List.getElem?_eq_none (by omega)]; simp
theorem cols_sum {m : Nat} : ∀ {way : List (List Int)}, sumI (way.map fun r => sumI (r.take m)) = sumR (colS way) m
  | [] => by
    have : colS [] = fun _ => 0 := by funext d; rfl
    rw [this, sumR_zero]; rfl
  | r :: way => by
    have h1 : colS (r :: way) = fun e => r.getD e 0 + colS way e := by funext d; rfl
    rw [h1, sumR_add, ← cols_sum (way := way), ← sumI_take]; rfl
structure WayV (f : Frt) (w : Win) (way : List (List Int)) : Prop where
  n : way.length = f.ords.length
  d : ∀ r ∈ way, r.length = f.caps.length
  b : ∀ r ∈ way, ∀ x ∈ r, 0 ≤ x ∧ x ≤ 1000000
  c : ∀ d, d < f.caps.length → colS way d ≤ roomW w d
  u : ∀ p ∈ way.zip f.ords, sumI p.1 ≤ p.2.u
theorem checkWay_way {f : Frt} {w : Win} {way : List (List Int)} (h : checkWayS f w way = 0) : WayV f w way := by
  unfold checkWayS at h
  split at h
  · contradiction
  split at h
  · contradiction
  rename_i h1 h2
  split at h
  · contradiction
  rename_i h3
  split at h
  · contradiction
  rename_i h4
  split at h
  · contradiction
  rename_i h5
  rw [not_or] at h2
  obtain ⟨h2, h2'⟩ := h2
  rw [Bool.not_eq_true, List.any_eq_false] at h2'
  rw [Bool.not_eq_false, List.all_eq_true] at h3 h4 h5
  refine ⟨by omega, fun r hr => by have := h2' r hr; simpa using this, fun r hr x hx => ?_, fun d hd => of_decide_eq_true (h4 d (List.mem_range.2 hd)), fun p hp => of_decide_eq_true (h5 p hp)⟩
  have := h3 r hr
  rw [List.all_eq_true] at this
  exact okE_bnd (this x hx)
theorem upS_at {R : Nat → Int} {D t : Nat} (ht : t < D) : (upS R D).getD t 0 = sumR R (t + 1) := by
  unfold upS
  rw [List.getD_eq_getElem?_getD, List.getElem?_map, List.getElem?_range ht]; rfl
theorem pen_split : ∀ {Z : List (Ord × List Int)}, sumI (Z.map fun p => fineO p.1 (tellO p.1 p.2)) =
    sumI (Z.map fun p => p.1.u * p.1.s) - sumI (Z.map fun p => sumI p.2 * (p.1.s - p.1.l)) - sumI (Z.map fun p => sumI (p.2.take (p.1.d.toNat + 1)) * p.1.l)
  | [] => rfl
  | x :: Z => by
    have ih := pen_split (Z := Z)
    simp only [List.map_cons, sumI]
    have e : fineO x.1 (tellO x.1 x.2) = x.1.u * x.1.s - sumI x.2 * (x.1.s - x.1.l) - sumI (x.2.take (x.1.d.toNat + 1)) * x.1.l := by
      unfold fineO tellO
      simp only [Int.sub_mul, Int.mul_sub]; omega
    omega
theorem sumI_take_le {r : List Int} (h : ∀ x ∈ r, 0 ≤ x) {m : Nat} : 0 ≤ sumI (r.take m) ∧ sumI (r.take m) ≤ sumI r := by
  have e : sumI r = sumI (r.take m) + sumI (r.drop m) := by rw [← sumI_append, List.take_append_drop]
  have h1 := sumI_nn (l := r.take m) fun x hx => h x (List.mem_of_mem_take hx)
  have h2 := sumI_nn (l := r.drop m) fun x hx => h x (List.mem_of_mem_drop hx)
  omega
theorem take_take_le {r : List Int} (h : ∀ x ∈ r, 0 ≤ x) {a b : Nat} (hab : a ≤ b) : sumI (r.take a) ≤ sumI (r.take b) := by
  have := (sumI_take_le (r := r.take b) (fun x hx => h x (List.mem_of_mem_take hx)) (m := a)).2
  rw [List.take_take, Nat.min_eq_left hab] at this; exact this
/-- no way costs less than the bound -/
theorem bound_le {f : Frt} {way : List (List Int)} (hV : FrtV f) (hw : WayV f (worstW f) way) : boundV f ≤ penS f.ords way := by
  obtain ⟨os, hos⟩ : ∃ os, os = f.ords := ⟨_, rfl⟩
  obtain ⟨D, hD⟩ : ∃ D, D = f.caps.length := ⟨_, rfl⟩
  obtain ⟨R, hR⟩ : ∃ R, R = roomW (worstW f) := ⟨_, rfl⟩
  obtain ⟨w1, w2, w3, w4, w5⟩ := hw
  have hob := hV.ob
  have hD1 := hV.c1
  rw [← hos] at w1 w5 hob
  rw [← hD] at w2 w4 hD1
  rw [← hR] at w4
  have hR0 : ∀ d, 0 ≤ R d := by rw [hR]; exact roomW_nonneg hV.worst
  obtain ⟨Z, hZ⟩ : ∃ Z, Z = os.zip way := ⟨_, rfl⟩
  have hZ1 : Z.map Prod.fst = os := by rw [hZ]; exact List.map_fst_zip (by omega)
  have hZ2 : Z.map Prod.snd = way := by rw [hZ]; exact List.map_snd_zip (by omega)
  have hZm : ∀ p ∈ Z, p.1 ∈ os ∧ p.2 ∈ way ∧ sumI p.2 ≤ p.1.u := fun p hp => by
    refine ⟨by rw [← hZ1]; exact List.mem_map.2 ⟨p, hp, rfl⟩, by rw [← hZ2]; exact List.mem_map.2 ⟨p, hp, rfl⟩, ?_⟩
    have : (p.2, p.1) ∈ way.zip os := by
      rw [hZ] at hp
      obtain ⟨i, hi⟩ := List.mem_iff_getElem?.1 hp
      obtain ⟨g1, g2⟩ := List.getElem?_zip_eq_some.1 hi
      exact List.mem_iff_getElem?.2 ⟨i, List.getElem?_zip_eq_some.2 ⟨g2, g1⟩⟩
    exact w5 _ this
  have hpen : penS f.ords way = sumC os - sumI (Z.map fun p => sumI p.2 * (p.1.s - p.1.l)) - sumI (Z.map fun p => sumI (p.2.take (p.1.d.toNat + 1)) * p.1.l) := by
    unfold penS
    rw [← hos, ← hZ, pen_split]
    have : sumC os = sumI (Z.map fun p => p.1.u * p.1.s) := by
      unfold sumC; rw [← hZ1, List.map_map]; rfl
    omega
  obtain ⟨kA, hkA⟩ : ∃ k : Ord → Int, k = fun o => o.s - o.l := ⟨_, rfl⟩
  obtain ⟨ZA, hZA⟩ : ∃ Y : List (Ord × Int), Y = Z.map fun p => (p.1, sumI p.2) := ⟨_, rfl⟩
  obtain ⟨ZB, hZB⟩ : ∃ Y : List (Ord × Int), Y = Z.map fun p => (p.1, sumI (p.2.take (p.1.d.toNat + 1))) := ⟨_, rfl⟩
  have hA1 : ZA.map Prod.fst = os := by rw [hZA, List.map_map, ← hZ1]; rfl
  have hB1 : ZB.map Prod.fst = os := by rw [hZB, List.map_map, ← hZ1]; rfl
  have hAm : ∀ e ∈ ZA, e.1 ∈ os ∧ 0 ≤ e.2 ∧ e.2 ≤ e.1.u := fun e he => by
    rw [hZA] at he
    obtain ⟨p, hp, rfl⟩ := List.mem_map.1 he
    obtain ⟨g1, g2, g3⟩ := hZm p hp
    exact ⟨g1, sumI_nn fun x hx => (w3 _ g2 x hx).1, g3⟩
  have hBm : ∀ e ∈ ZB, e.1 ∈ os ∧ 0 ≤ e.2 ∧ e.2 ≤ e.1.u := fun e he => by
    rw [hZB] at he
    obtain ⟨p, hp, rfl⟩ := List.mem_map.1 he
    obtain ⟨g1, g2, g3⟩ := hZm p hp
    have := sumI_take_le (r := p.2) (fun x hx => (w3 _ g2 x hx).1) (m := p.1.d.toNat + 1)
    exact ⟨g1, this.1, by dsimp only; omega⟩
  have hA2 : (sortV (fun e : Ord × Int => kA e.1) ZA).map Prod.fst = sortV kA os := by rw [sortV_map (f := Prod.fst) (key := fun e : Ord × Int => kA e.1) (key' := kA) (fun _ => rfl), hA1]
  have hB2 : (sortV (fun e : Ord × Int => e.1.l) ZB).map Prod.fst = sortV (·.l) os := by rw [sortV_map (f := Prod.fst) (key := fun e : Ord × Int => e.1.l) (key' := (·.l)) (fun _ => rfl), hB1]
  have hcol : ∀ m, m ≤ D → sumI (Z.map fun p => sumI (p.2.take m)) ≤ sumR R m := fun m hm => by
    have e : Z.map (fun p => sumI (p.2.take m)) = way.map fun r => sumI (r.take m) := by rw [← hZ2, List.map_map]; rfl
    rw [e, cols_sum]
    exact sumR_le m fun e he => w4 e (by omega)
  have hall : ∀ p ∈ Z, p.2.take D = p.2 := fun p hp => List.take_of_length_le (by rw [w2 _ (hZm p hp).2.1]; exact Nat.le_refl _)
  have leA : sumI (ZA.map fun e => e.2 * kA e.1) ≤ sumI ((grG (fun _ => 0) [sumR R D] (sortV (fun e : Ord × Int => kA e.1) ZA)).map fun e => e.2.2 * kA e.1) := by
    rw [← sumI_perm ((sortV_perm (key := fun e : Ord × Int => kA e.1) (l := ZA)).map _)]
    refine gr_le (D := 1) rfl (fun t ht => by
      have : t = 0 := by omega
      subst this; exact sumR_nonneg hR0 D) (fun e he => by
      have := hAm e (sortV_perm.mem_iff.1 he); exact ⟨by omega, this.2⟩) (fun t ht => ?_) (fun e he => ?_) sortV_desc
    · have : t = 0 := by omega
      subst this
      rw [sumI_perm ((sortV_perm (key := fun e : Ord × Int => kA e.1) (l := ZA)).map _)]
      have h1 := hcol D (Nat.le_refl _)
      have e1 : Z.map (fun p => sumI (p.2.take D)) = ZA.map fun e => if (0 : Nat) ≤ 0 then e.2 else 0 := by
        rw [hZA, List.map_map]; apply List.map_congr_left; intro p hp
        rw [hall p hp]; rfl
      rw [e1] at h1; exact h1
    · have := hob _ (hAm e (sortV_perm.mem_iff.1 he)).1
      rw [hkA]; dsimp only; omega
  have leB : sumI (ZB.map fun e => e.2 * e.1.l) ≤ sumI ((grG (fun o => min o.d.toNat (D - 1)) (upS R D) (sortV (fun e : Ord × Int => e.1.l) ZB)).map fun e => e.2.2 * e.1.l) := by
    rw [← sumI_perm ((sortV_perm (key := fun e : Ord × Int => e.1.l) (l := ZB)).map _)]
    refine gr_le (D := D) (K := (·.l)) (by simp [upS]) (fun t ht => by rw [upS_at ht]; exact sumR_nonneg hR0 _) (fun e he => by
      have := hBm e (sortV_perm.mem_iff.1 he); exact ⟨by omega, this.2⟩) (fun t ht => ?_) (fun e he => ?_) sortV_desc
    · rw [sumI_perm ((sortV_perm (key := fun e : Ord × Int => e.1.l) (l := ZB)).map _), upS_at ht]
      refine Int.le_trans ?_ (hcol (t + 1) (by omega))
      rw [hZB, List.map_map]
      refine sumI_map_le fun p hp => ?_
      show (if min p.1.d.toNat (D - 1) ≤ t then sumI (p.2.take (p.1.d.toNat + 1)) else 0) ≤ _
      obtain ⟨g1, g2, g3⟩ := hZm p hp
      have hnn : ∀ x ∈ p.2, 0 ≤ x := fun x hx => (w3 _ g2 x hx).1
      split
      · rename_i hq
        by_cases hd : p.1.d.toNat ≤ t
        · exact take_take_le hnn (by omega)
        · have ht2 : t + 1 = D := by omega
          rw [ht2, hall p hp]
          exact (sumI_take_le hnn).2
      · exact (sumI_take_le hnn).1
    · have := hob _ (hBm e (sortV_perm.mem_iff.1 he)).1
      omega
  have hbv : boundV f = (((sortV (·.l) os).foldl (bndB D) (((sortV kA os).foldl (bndA kA) (sumC os, sumR R D)).1, upS R D))).1 := by
    rw [hos, hkA, hR, hD]; rfl
  rw [hbv, ← hA2, ← hB2, grB_fold, grA_fold, hpen]
  have e1 : sumI (ZA.map fun e => e.2 * kA e.1) = sumI (Z.map fun p => sumI p.2 * (p.1.s - p.1.l)) := by rw [hZA, List.map_map, hkA]; rfl
  have e2 : sumI (ZB.map fun e => e.2 * e.1.l) = sumI (Z.map fun p => sumI (p.2.take (p.1.d.toNat + 1)) * p.1.l) := by rw [hZB, List.map_map]; rfl
  omega
end Go.Sas
