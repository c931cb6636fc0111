/-
Freight: the plain law of merging in place: ranges exchanged, halves in order merged.
Freight: the stable order of places is the only one: by key, then by place.
Freight: the plain law of merging in place, continued: the parts after a rotation.
Freight: the plain law of merging in place, continued: two halves sorted apart.
Conditions: none.
-/
import Derived.Test.YtndnjmpebpampaaDoorHBf
import Derived.Test.YtndnjmpebpampaaDoorHRf
set_option linter.unusedVariables false
set_option linter.unusedSimpArgs false
namespace Go.Sas
section
variable {α : Type} {lt : α → α → Prop}
/-- a list in order, made of the same elements -/
def Ord1 (lt : α → α → Prop) (l l' : List α) : Prop := l'.Perm l ∧ l'.Pairwise lt
theorem ord_uniq (asym : ∀ a b, lt a b → ¬ lt b a) {l a b : List α} (h1 : Ord1 lt l a) (h2 : Ord1 lt l b) : a = b := by
  have hp : a.Perm b := h1.1.trans h2.1.symm
  have ha := h1.2
  have hb := h2.2
  clear h1 h2
  induction a generalizing b with
  | nil => exact hp.nil_eq
  | cons x a ih =>
    cases b with
    | nil => exact absurd hp.length_eq (by simp)
    | cons y b =>
      rw [List.pairwise_cons] at ha hb
      have hxy : x = y := by
        have h1 : x ∈ y :: b := hp.subset (List.mem_cons_self ..)
        have h2 : y ∈ x :: a := hp.symm.subset (List.mem_cons_self ..)
        rcases List.mem_cons.1 h1 with h1 | h1
        · exact h1
        · rcases List.mem_cons.1 h2 with h2 | h2
          · exact h2.symm
          · exact absurd (ha.1 y h2) (asym _ _ (hb.1 x h1))
      subst hxy
      rw [ih ((List.perm_cons _).1 hp) ha.2 hb.2]
/-- two halves merged: the lower parts, then the upper parts -/
theorem ord_split {X Y A B : List α} (hX : X.Pairwise lt) (hY : Y.Pairwise lt) (i j : Nat) (P1 : ∀ x ∈ X.take i, ∀ y ∈ Y.drop j, lt x y) (P2 : ∀ y ∈ Y.take j, ∀ x ∈ X.drop i, lt y x)
    (hA : Ord1 lt (X.take i ++ Y.take j) A) (hB : Ord1 lt (X.drop i ++ Y.drop j) B) : Ord1 lt (X ++ Y) (A ++ B) := by
  constructor
  · refine (hA.1.append hB.1).trans ?_
    have h1 : (X.take i ++ Y.take j ++ (X.drop i ++ Y.drop j)).Perm (X.take i ++ X.drop i ++ (Y.take j ++ Y.drop j)) := by
      rw [List.append_assoc, List.append_assoc]
      refine List.Perm.append_left _ ?_
      rw [← List.append_assoc, ← List.append_assoc]
      exact List.Perm.append_right _ List.perm_append_comm
    rwa [List.take_append_drop, List.take_append_drop] at h1
  · rw [List.pairwise_append]
    refine ⟨hA.2, hB.2, fun a ha b hb => ?_⟩
    have ha := hA.1.subset ha
    have hb := hB.1.subset hb
    have eX : ∀ x ∈ X.take i, ∀ y ∈ X.drop i, lt x y := by
      have h := hX; rw [← List.take_append_drop i X, List.pairwise_append] at h; exact h.2.2
    have eY : ∀ x ∈ Y.take j, ∀ y ∈ Y.drop j, lt x y := by
      have h := hY; rw [← List.take_append_drop j Y, List.pairwise_append] at h; exact h.2.2
    rcases List.mem_append.1 ha with ha | ha <;> rcases List.mem_append.1 hb with hb | hb
    · exact eX a ha b hb
    · exact P1 a ha b hb
    · exact P2 a ha b hb
    · exact eY a ha b hb
/-- two ranges exchanged -/
def swR (f : Nat → α) (a b n : Nat) : Nat → α := fun k => if a ≤ k ∧ k < a + n then f (k + (b - a)) else if b ≤ k ∧ k < b + n then f (k - (b - a)) else f k
theorem swR_zero {f : Nat → α} {a b : Nat} : swR f a b 0 = f := by
  funext k; unfold swR; rw [if_neg (by omega), if_neg (by omega)]
theorem swR_succ {f : Nat → α} {a b i : Nat} (h : a + i < b) : updF (updF (swR f a b i) (a + i) (swR f a b i (b + i))) (b + i) (swR f a b i (a + i)) = swR f a b (i + 1) := by
  funext k
  have e1 : swR f a b i (b + i) = f (b + i) := by unfold swR; rw [if_neg (by omega), if_neg (by omega)]
  have e2 : swR f a b i (a + i) = f (a + i) := by unfold swR; rw [if_neg (by omega), if_neg (by omega)]
  rw [e1, e2]
  unfold updF
  by_cases h1 : k = b + i
  · rw [if_pos h1]; unfold swR; rw [if_neg (by omega), if_pos (by omega)]; congr 1; omega
  · rw [if_neg h1]
    by_cases h2 : k = a + i
    · rw [if_pos h2]; unfold swR; rw [if_pos (by omega)]; congr 1; omega
    · rw [if_neg h2]
      by_cases h3 : a ≤ k ∧ k < a + i
      · have q1 : swR f a b i k = f (k + (b - a)) := by unfold swR; rw [if_pos h3]
        have q2 : swR f a b (i + 1) k = f (k + (b - a)) := by unfold swR; rw [if_pos (by omega)]
        rw [q1, q2]
      · by_cases h4 : b ≤ k ∧ k < b + i
        · have q1 : swR f a b i k = f (k - (b - a)) := by unfold swR; rw [if_neg h3, if_pos h4]
          have q2 : swR f a b (i + 1) k = f (k - (b - a)) := by unfold swR; rw [if_neg (by omega), if_pos (by omega)]
          rw [q1, q2]
        · have q1 : swR f a b i k = f k := by unfold swR; rw [if_neg h3, if_neg h4]
          have q2 : swR f a b (i + 1) k = f k := by unfold swR; rw [if_neg (by omega), if_neg (by omega)]
          rw [q1, q2]
/-- two neighbouring ranges exchanged -/
def rotR (f : Nat → α) (a m b : Nat) : Nat → α := fun k => if a ≤ k ∧ k < a + (b - m) then f (k + (m - a)) else if a + (b - m) ≤ k ∧ k < b then f (k - (b - m)) else f k
theorem rot_gt {f : Nat → α} {m i j : Nat} (h1 : j < i) (h2 : i ≤ m) : rotR (swR f (m - i) m j) (m - (i - j)) m (m + j) = rotR f (m - i) m (m + j) := by
  funext k
  unfold rotR
  by_cases c1 : m - i ≤ k ∧ k < m - i + (m + j - m)
  · rw [if_neg (by omega), if_neg (by omega), if_pos c1]; unfold swR; rw [if_pos (by omega)]
  · rw [if_neg c1]
    by_cases c2 : m - i + (m + j - m) ≤ k ∧ k < m + j
    · rw [if_pos c2]
      by_cases c3 : k < m - (i - j) + (m + j - m)
      · rw [if_pos (by omega)]; unfold swR; rw [if_neg (by omega), if_pos (by omega)]; congr 1; omega
      · rw [if_neg (by omega), if_pos (by omega)]; unfold swR; rw [if_neg (by omega), if_neg (by omega)]
    · rw [if_neg c2, if_neg (by omega), if_neg (by omega)]; unfold swR; rw [if_neg (by omega), if_neg (by omega)]
theorem rot_lt {f : Nat → α} {m i j : Nat} (h1 : i < j) (h2 : i ≤ m) : rotR (swR f (m - i) (m + j - i) i) (m - i) m (m + (j - i)) = rotR f (m - i) m (m + j) := by
  funext k
  unfold rotR
  by_cases c1 : m + (j - i) ≤ k ∧ k < m + j
  · rw [if_neg (by omega), if_neg (by omega), if_neg (by omega), if_pos (by omega)]; unfold swR; rw [if_neg (by omega), if_pos (by omega)]; congr 1; omega
  · by_cases c2 : m - i ≤ k ∧ k < m - i + (m + (j - i) - m)
    · rw [if_pos c2, if_pos (by omega)]; unfold swR; rw [if_neg (by omega), if_neg (by omega)]
    · rw [if_neg c2]
      by_cases c3 : m - i + (m + (j - i) - m) ≤ k ∧ k < m + (j - i)
      · rw [if_pos c3, if_pos (by omega)]; unfold swR; rw [if_pos (by omega)]; congr 1; omega
      · rw [if_neg c3, if_neg (by omega), if_neg (by omega)]; unfold swR; rw [if_neg (by omega), if_neg (by omega)]
theorem rot_eq {f : Nat → α} {m i : Nat} (h2 : i ≤ m) : swR f (m - i) m i = rotR f (m - i) m (m + i) := by
  funext k
  by_cases c1 : m - i ≤ k ∧ k < m - i + i
  · have e1 : swR f (m - i) m i k = f (k + (m - (m - i))) := by unfold swR; rw [if_pos c1]
    have e2 : rotR f (m - i) m (m + i) k = f (k + (m - (m - i))) := by unfold rotR; rw [if_pos (by omega)]
    rw [e1, e2]
  · by_cases c2 : m ≤ k ∧ k < m + i
    · have e1 : swR f (m - i) m i k = f (k - (m - (m - i))) := by unfold swR; rw [if_neg c1, if_pos c2]
      have e2 : rotR f (m - i) m (m + i) k = f (k - (m + i - m)) := by unfold rotR; rw [if_neg (by omega), if_pos (by omega)]
      rw [e1, e2]; congr 1; omega
    · have e1 : swR f (m - i) m i k = f k := by unfold swR; rw [if_neg c1, if_neg c2]
      have e2 : rotR f (m - i) m (m + i) k = f k := by unfold rotR; rw [if_neg (by omega), if_neg (by omega)]
      rw [e1, e2]
/-- a part of a row -/
def seg (f : Nat → α) (a b : Nat) : List α := (List.range (b - a)).map fun i => f (a + i)
theorem seg_len {f : Nat → α} {a b : Nat} : (seg f a b).length = b - a := by simp [seg]
theorem seg_get {f : Nat → α} {a b i : Nat} (h : i < b - a) : (seg f a b)[i]? = some (f (a + i)) := by simp [seg, h]
theorem seg_congr {f g : Nat → α} {a b : Nat} (h : ∀ k, a ≤ k → k < b → f k = g k) : seg f a b = seg g a b := by
  apply List.map_congr_left; intro i hi; have := List.mem_range.1 hi; exact h _ (by omega) (by omega)
theorem seg_take {f : Nat → α} {a b i : Nat} (h : a + i ≤ b) : (seg f a b).take i = seg f a (a + i) := by
  apply List.ext_getElem?; intro k
  rw [List.getElem?_take]
  by_cases hk : k < i
  · rw [if_pos hk, seg_get (by omega), seg_get (by omega)]
  · rw [if_neg hk, List.getElem?_eq_none (by rw [seg_len]; omega)]
theorem seg_drop {f : Nat → α} {a b i : Nat} : (seg f a b).drop i = seg f (a + i) b := by
  apply List.ext_getElem?; intro k
  rw [List.getElem?_drop]
  by_cases hk : i + k < b - a
  · rw [seg_get hk, seg_get (by omega), Nat.add_assoc]
  · rw [List.getElem?_eq_none (by rw [seg_len]; omega), List.getElem?_eq_none (by rw [seg_len]; omega)]
theorem seg_split {f : Nat → α} {a b : Nat} (c : Nat) (h1 : a ≤ c) (h2 : c ≤ b) : seg f a b = seg f a c ++ seg f c b := by
  have h := List.take_append_drop (c - a) (seg f a b)
  rw [seg_take (by omega), seg_drop, show a + (c - a) = c by omega] at h
  exact h.symm
theorem seg_mem {f : Nat → α} {a b : Nat} {x : α} (h : x ∈ seg f a b) : ∃ k, a ≤ k ∧ k < b ∧ f k = x := by
  obtain ⟨i, hi, rfl⟩ := List.mem_map.1 h
  have := List.mem_range.1 hi
  exact ⟨a + i, by omega, by omega, rfl⟩
theorem seg_pair {lt : α → α → Prop} {f : Nat → α} {a b : Nat} : (seg f a b).Pairwise lt ↔ ∀ i j, a ≤ i → i < j → j < b → lt (f i) (f j) := by
  rw [List.pairwise_iff_getElem]
  constructor
  · intro h i j h1 h2 h3
    have := h (i - a) (j - a) (by rw [seg_len]; omega) (by rw [seg_len]; omega) (by omega)
    simp only [seg, List.getElem_map, List.getElem_range] at this
    rwa [show a + (i - a) = i by omega, show a + (j - a) = j by omega] at this
  · intro h i j hi hj hij
    rw [seg_len] at hi hj
    simp only [seg, List.getElem_map, List.getElem_range]
    exact h _ _ (by omega) (by omega) (by omega)
theorem rot_segL {f : Nat → α} {a m b : Nat} (h1 : a ≤ m) : seg (rotR f a m b) a (a + (b - m)) = seg f m b := by
  apply List.ext_getElem?; intro k
  by_cases hk : k < b - m
  · rw [seg_get (by omega), seg_get hk]; unfold rotR; rw [if_pos (by omega)]; congr 2; omega
  · rw [List.getElem?_eq_none (by rw [seg_len]; omega), List.getElem?_eq_none (by rw [seg_len]; omega)]
theorem rot_segR {f : Nat → α} {a m b : Nat} (h1 : a ≤ m) (h2 : m ≤ b) : seg (rotR f a m b) (a + (b - m)) b = seg f a m := by
  apply List.ext_getElem?; intro k
  by_cases hk : k < m - a
  · rw [seg_get (by omega), seg_get hk]; unfold rotR; rw [if_neg (by omega), if_pos (by omega)]; congr 2; omega
  · rw [List.getElem?_eq_none (by rw [seg_len]; omega), List.getElem?_eq_none (by rw [seg_len]; omega)]
theorem rot_out {f : Nat → α} {a m b k : Nat} (h1 : a ≤ m) (h2 : m ≤ b) (h : k < a ∨ b ≤ k) : rotR f a m b k = f k := by
  unfold rotR; rw [if_neg (by omega), if_neg (by omega)]
theorem rot_triv {f : Nat → α} {a m b : Nat} (h1 : a ≤ m) (h2 : m ≤ b) (h : ¬ (a < m ∧ m < b)) : rotR f a m b = f := by
  funext k
  by_cases c1 : a ≤ k ∧ k < a + (b - m)
  · have e1 : rotR f a m b k = f (k + (m - a)) := by unfold rotR; rw [if_pos c1]
    rw [e1]; congr 1; omega
  · by_cases c2 : a + (b - m) ≤ k ∧ k < b
    · have e1 : rotR f a m b k = f (k - (b - m)) := by unfold rotR; rw [if_neg c1, if_pos c2]
      rw [e1]; congr 1; omega
    · unfold rotR; rw [if_neg c1, if_neg c2]
/-- what a part of a row holds once it is in order, all else being as it was -/
def OrdS (lt : α → α → Prop) (f g : Nat → α) (a b : Nat) : Prop := Ord1 lt (seg f a b) (seg g a b) ∧ ∀ k, k < a ∨ b ≤ k → g k = f k
def IncS (lt : α → α → Prop) (f : Nat → α) (a b : Nat) : Prop := ∀ i j, a ≤ i → i < j → j < b → lt (f i) (f j)
theorem IncS.ord {f : Nat → α} {a b : Nat} (h : IncS lt f a b) : OrdS lt f f a b := ⟨⟨List.Perm.refl _, seg_pair.2 h⟩, fun _ _ => rfl⟩
theorem sym_join (tr : ∀ x y z, lt x y → lt y z → lt x z) {f g h r : Nat → α} {a s m e b : Nat} (h1 : a ≤ s) (h2 : s ≤ m) (h3 : m ≤ e) (h4 : e ≤ b) (hX : IncS lt f a m) (hY : IncS lt f m b)
    (P1 : a < s → e < b → lt (f (s - 1)) (f e)) (P2 : m < e → s < m → lt (f (e - 1)) (f s)) (hg : g = rotR f s m e) (hA : OrdS lt g h a (s + (e - m))) (hB : OrdS lt h r (s + (e - m)) b) : OrdS lt f r a b := by
  have hle : s + (e - m) ≤ e := by omega
  have ea : seg h a (s + (e - m)) = seg r a (s + (e - m)) := seg_congr fun k _ hk => (hB.2 k (.inl hk)).symm
  have eb : seg h (s + (e - m)) b = seg g (s + (e - m)) b := seg_congr fun k hk _ => hA.2 k (.inr hk)
  have eg1 : seg g a (s + (e - m)) = seg f a s ++ seg f m e := by
    rw [seg_split s h1 (by omega), hg, rot_segL h2, seg_congr fun k _ hk => rot_out h2 h3 (.inl hk)]
  have eg2 : seg g (s + (e - m)) b = seg f s m ++ seg f e b := by
    rw [seg_split e (by omega) h4, hg, rot_segR h2 h3, seg_congr (a := e) fun k hk _ => rot_out h2 h3 (.inr hk)]
  have hA1 := hA.1
  have hB1 := hB.1
  rw [eg1, ea] at hA1
  rw [eb, eg2] at hB1
  constructor
  · rw [seg_split (f := f) m (by omega) (by omega), seg_split (f := r) (s + (e - m)) (by omega) (by omega)]
    have q := ord_split (lt := lt) (X := seg f a m) (Y := seg f m b) (seg_pair.2 hX) (seg_pair.2 hY) (s - a) (e - m) (A := seg r a (s + (e - m))) (B := seg r (s + (e - m)) b)
    rw [seg_take (by omega), seg_take (by omega), seg_drop, seg_drop, show a + (s - a) = s by omega, show m + (e - m) = e by omega] at q
    refine q (fun x hx y hy => ?_) (fun y hy x hx => ?_) hA1 hB1
    · obtain ⟨i, i1, i2, rfl⟩ := seg_mem hx
      obtain ⟨j, j1, j2, rfl⟩ := seg_mem hy
      have p1 := P1 (by omega) (by omega)
      have p2 : lt (f i) (f e) := by
        by_cases hi : i = s - 1
        · rw [hi]; exact p1
        · exact tr _ _ _ (hX i (s - 1) i1 (by omega) (by omega)) p1
      by_cases hj : j = e
      · rw [hj]; exact p2
      · exact tr _ _ _ p2 (hY e j h3 (by omega) j2)
    · obtain ⟨i, i1, i2, rfl⟩ := seg_mem hx
      obtain ⟨j, j1, j2, rfl⟩ := seg_mem hy
      have p1 := P2 (by omega) (by omega)
      have p2 : lt (f (e - 1)) (f i) := by
        by_cases hi : i = s
        · rw [hi]; exact p1
        · exact tr _ _ _ p1 (hX s i h1 (by omega) i2)
      by_cases hj : j = e - 1
      · rw [hj]; exact p2
      · exact tr _ _ _ (hY j (e - 1) j1 (by omega) (by omega)) p2
  · intro k hk
    rw [hB.2 k (by omega), hA.2 k (by omega), hg]
    exact rot_out h2 h3 (by omega)
/-- the place that the search finds -/
theorem sym_srch {lt : α → α → Prop} {f : Nat → α} {a m b mid s lo hi : Nat} (_ : a < m) (_ : m < b) (hmid : mid = (a + b) / 2) (hlo : lo = if mid < m then mid + m - b else a) (hhi : hi = if mid < m then mid else m)
    (h1 : lo ≤ s) (h2 : s ≤ hi) (q1 : lo < s → lt (f (s - 1)) (f (mid + m - s))) (q2 : s < hi → lt (f (mid + m - 1 - s)) (f s)) :
    a ≤ s ∧ s ≤ m ∧ m ≤ mid + m - s ∧ mid + m - s ≤ b ∧ s + (mid + m - s - m) = mid ∧ (a < s → mid + m - s < b → lt (f (s - 1)) (f (mid + m - s))) ∧ (m < mid + m - s → s < m → lt (f (mid + m - s - 1)) (f s)) := by
  rw [show mid + m - s - 1 = mid + m - 1 - s by omega]
  by_cases hm : mid < m
  · rw [if_pos hm] at hlo hhi
    exact ⟨by omega, by omega, by omega, by omega, by omega, fun _ _ => q1 (by omega), fun _ _ => q2 (by omega)⟩
  · rw [if_neg hm] at hlo hhi
    exact ⟨by omega, by omega, by omega, by omega, by omega, fun _ _ => q1 (by omega), fun _ _ => q2 (by omega)⟩
theorem rot_up0 {f : Nat → α} {a : Nat} : rotR f a (a + 1) (a + 1) = f := rot_triv (by omega) (by omega) (by omega)
theorem rot_dn0 {f : Nat → α} {m : Nat} : rotR f m m (m + 1) = f := rot_triv (by omega) (by omega) (by omega)
theorem rotR_lo {f : Nat → α} {a m b k : Nat} (h : a ≤ k ∧ k < a + (b - m)) : rotR f a m b k = f (k + (m - a)) := by unfold rotR; rw [if_pos h]
theorem rotR_hi {f : Nat → α} {a m b k : Nat} (h : a + (b - m) ≤ k ∧ k < b) : rotR f a m b k = f (k - (b - m)) := by unfold rotR; rw [if_neg (by omega), if_pos h]
theorem rot_up1 {f : Nat → α} {a k : Nat} (h : a ≤ k) : updF (updF (rotR f a (a + 1) (k + 1)) k (rotR f a (a + 1) (k + 1) (k + 1))) (k + 1) (rotR f a (a + 1) (k + 1) k) = rotR f a (a + 1) (k + 2) := by
  have e1 : rotR f a (a + 1) (k + 1) (k + 1) = f (k + 1) := rot_out (by omega) (by omega) (.inr (by omega))
  have e2 : rotR f a (a + 1) (k + 1) k = f a := by rw [rotR_hi (by omega)]; congr 1; omega
  rw [e1, e2]
  funext x
  unfold updF
  by_cases h1 : x = k + 1
  · rw [if_pos h1, rotR_hi (by omega)]; congr 1; omega
  · rw [if_neg h1]
    by_cases h2 : x = k
    · rw [if_pos h2, rotR_lo (by omega)]; congr 1; omega
    · rw [if_neg h2]
      by_cases h3 : a ≤ x ∧ x < k
      · rw [rotR_lo (by omega), rotR_lo (by omega)]
      · rw [rot_out (by omega) (by omega) (by omega), rot_out (by omega) (by omega) (by omega)]
theorem rot_dn1 {f : Nat → α} {k m : Nat} (h : k + 1 ≤ m) : updF (updF (rotR f (k + 1) m (m + 1)) (k + 1) (rotR f (k + 1) m (m + 1) k)) k (rotR f (k + 1) m (m + 1) (k + 1)) = rotR f k m (m + 1) := by
  have e1 : rotR f (k + 1) m (m + 1) k = f k := rot_out (by omega) (by omega) (.inl (by omega))
  have e2 : rotR f (k + 1) m (m + 1) (k + 1) = f m := by rw [rotR_lo (by omega)]; congr 1; omega
  rw [e1, e2]
  funext x
  unfold updF
  by_cases h1 : x = k
  · rw [if_pos h1, rotR_lo (by omega)]; congr 1; omega
  · rw [if_neg h1]
    by_cases h2 : x = k + 1
    · rw [if_pos h2, rotR_hi (by omega)]; congr 1; omega
    · rw [if_neg h2]
      by_cases h3 : k + 2 ≤ x ∧ x < m + 1
      · rw [rotR_hi (by omega), rotR_hi (by omega)]
      · rw [rot_out (by omega) (by omega) (by omega), rot_out (by omega) (by omega) (by omega)]
theorem one_up (tr : ∀ x y z, lt x y → lt y z → lt x z) {f : Nat → α} {a i b : Nat} (h1 : a + 1 ≤ i) (h2 : i ≤ b) (hY : IncS lt f (a + 1) b) (q1 : a + 1 < i → lt (f (i - 1)) (f a)) (q2 : i < b → lt (f a) (f i)) : OrdS lt f (rotR f a (a + 1) i) a b := by
  refine sym_join tr (Nat.le_refl a) (Nat.le_succ a) h1 h2 (fun i j _ _ _ => False.elim (by omega)) hY (fun h _ => absurd h (by omega)) (fun h _ => q1 h) rfl (IncS.ord (seg_pair.1 ?_)) (IncS.ord (seg_pair.1 ?_))
  · rw [rot_segL (by omega)]; exact seg_pair.2 fun x y x1 x2 x3 => hY x y x1 x2 (by omega)
  · rw [seg_split i (by omega) h2, rot_segR (by omega) h1, seg_congr (a := i) fun k hk _ => rot_out (by omega) h1 (.inr hk), List.pairwise_append]
    refine ⟨seg_pair.2 fun x y _ _ _ => False.elim (by omega), seg_pair.2 fun x y x1 x2 x3 => hY x y (by omega) x2 x3, fun x hx y hy => ?_⟩
    obtain ⟨u, u1, u2, rfl⟩ := seg_mem hx
    obtain ⟨v, v1, v2, rfl⟩ := seg_mem hy
    have p := q2 (by omega)
    rw [show u = a by omega]
    by_cases hv : v = i
    · rw [hv]; exact p
    · exact tr _ _ _ p (hY i v h1 (by omega) v2)
theorem one_dn (tr : ∀ x y z, lt x y → lt y z → lt x z) {f : Nat → α} {a i m : Nat} (h1 : a ≤ i) (h2 : i ≤ m) (hX : IncS lt f a m) (q1 : a < i → lt (f (i - 1)) (f m)) (q2 : i < m → lt (f m) (f i)) : OrdS lt f (rotR f i m (m + 1)) a (m + 1) := by
  refine sym_join tr h1 h2 (Nat.le_succ m) (Nat.le_refl _) hX (fun i j _ _ _ => False.elim (by omega)) (fun _ h => absurd h (by omega)) (fun _ h => q2 h) rfl (IncS.ord (seg_pair.1 ?_)) (IncS.ord (seg_pair.1 ?_))
  · rw [seg_split i h1 (by omega), rot_segL h2, seg_congr (b := i) fun k _ hk => rot_out h2 (by omega) (.inl hk), List.pairwise_append]
    refine ⟨seg_pair.2 fun x y x1 x2 x3 => hX x y x1 x2 (by omega), seg_pair.2 fun x y _ _ _ => False.elim (by omega), fun x hx y hy => ?_⟩
    obtain ⟨u, u1, u2, rfl⟩ := seg_mem hx
    obtain ⟨v, v1, v2, rfl⟩ := seg_mem hy
    have p := q1 (by omega)
    rw [show v = m by omega]
    by_cases hv : u = i - 1
    · rw [hv]; exact p
    · exact tr _ _ _ (hX u (i - 1) u1 (by omega) (by omega)) p
  · rw [rot_segR h2 (by omega)]; exact seg_pair.2 fun x y x1 x2 x3 => hX x y (by omega) x2 x3
end
end Go.Sas
namespace Go.Sas
/-- the larger key first, and the smaller place first where the keys are alike -/
def ltR (ky : Nat → Int) (x y : Nat) : Prop := ky y < ky x ∨ (ky x = ky y ∧ x < y)
theorem ltR_tr {ky : Nat → Int} (x y z : Nat) (h1 : ltR ky x y) (h2 : ltR ky y z) : ltR ky x z := by
  unfold ltR at *; omega
theorem ltR_as {ky : Nat → Int} (x y : Nat) (h1 : ltR ky x y) : ¬ ltR ky y x := by
  unfold ltR at *; omega
theorem ltR_yes {ky : Nat → Int} {x y : Nat} (h : ky y < ky x) : ltR ky x y := .inl h
theorem ltR_no {ky : Nat → Int} {x y : Nat} (hxy : x < y) (h : ¬ ky x < ky y) : ltR ky x y := by
  unfold ltR; omega
theorem insV_ord {ky : Nat → Int} {x : Nat} : ∀ {s : List Nat}, s.Pairwise (fun a b => ltR ky b a) → (∀ y ∈ s, y < x) → (insV (fun y => decide (ky y < ky x)) x s).Pairwise fun a b => ltR ky b a
  | [], _, _ => List.pairwise_singleton _ _
  | y :: r, h, hx => by
    rw [List.pairwise_cons] at h
    simp only [insV]
    split
    · rename_i hz
      have hz := of_decide_eq_true hz
      rw [List.pairwise_cons]
      refine ⟨fun z hm => ?_, insV_ord h.2 fun z hm => hx z (List.mem_cons_of_mem _ hm)⟩
      rcases List.mem_cons.1 ((insV_perm (l := r)).subset hm) with rfl | hm
      · exact .inl hz
      · exact h.1 z hm
    · rename_i hz
      have hz : ¬ ky y < ky x := by simpa using hz
      rw [List.pairwise_cons]
      refine ⟨fun z hm => ?_, List.pairwise_cons.2 h⟩
      have hzx := hx z hm
      rcases List.mem_cons.1 hm with rfl | hm
      · unfold ltR; omega
      · have := h.1 z hm
        unfold ltR at *; omega
theorem sortV_ord {ky : Nat → Int} {l : List Nat} (h : l.Pairwise (· < ·)) : Ord1 (ltR ky) l (sortV ky l) := by
  refine ⟨sortV_perm, ?_⟩
  unfold sortV
  rw [List.pairwise_reverse]
  have key : ∀ (l s : List Nat), l.Pairwise (· < ·) → s.Pairwise (fun a b => ltR ky b a) → (∀ y ∈ s, ∀ x ∈ l, y < x) → (l.foldl (fun s x => insV (fun y => decide (ky y < ky x)) x s) s).Pairwise fun a b => ltR ky b a := by
    intro l
    induction l with
    | nil => intro s _ hs _; exact hs
    | cons x l ih =>
      intro s hl hs hx
      rw [List.pairwise_cons] at hl
      refine ih _ hl.2 (insV_ord hs fun y hy => hx y hy x (List.mem_cons_self ..)) fun y hy z hz => ?_
      rcases List.mem_cons.1 (insV_perm.subset hy) with rfl | hy
      · exact hl.1 z hz
      · exact hx y hy z (List.mem_cons_of_mem _ hz)
  exact key l [] h List.Pairwise.nil (by simp)
end Go.Sas
namespace Go.Sas
theorem sym_parts {α : Type} {lt : α → α → Prop} {f : Nat → α} {a s m e b mid : Nat} (h1 : a ≤ s) (h2 : s ≤ m) (h3 : m ≤ e) (h4 : e ≤ b) (hm : s + (e - m) = mid) (hX : IncS lt f a m) (hY : IncS lt f m b) :
    IncS lt (rotR f s m e) a s ∧ IncS lt (rotR f s m e) s mid ∧ IncS lt (rotR f s m e) mid e ∧ IncS lt (rotR f s m e) e b := by
  subst hm
  refine ⟨fun i j i1 i2 i3 => ?_, fun i j i1 i2 i3 => ?_, fun i j i1 i2 i3 => ?_, fun i j i1 i2 i3 => ?_⟩
  · rw [rot_out h2 h3 (by omega), rot_out h2 h3 (by omega)]; exact hX i j i1 i2 (by omega)
  · rw [rotR_lo (by omega), rotR_lo (by omega)]; exact hY _ _ (by omega) (by omega) (by omega)
  · rw [rotR_hi (by omega), rotR_hi (by omega)]; exact hX _ _ (by omega) (by omega) (by omega)
  · rw [rot_out h2 h3 (by omega), rot_out h2 h3 (by omega)]; exact hY i j (by omega) i2 i3
theorem sym_place {f : Nat → Nat} {a s m e b mid : Nat} (h1 : a ≤ s) (h2 : s ≤ m) (h3 : m ≤ e) (h4 : e ≤ b) (hm : s + (e - m) = mid) (hP : ∀ i j, a ≤ i → i < m → m ≤ j → j < b → f i < f j) :
    (∀ i j, a ≤ i → i < s → s ≤ j → j < mid → rotR f s m e i < rotR f s m e j) ∧ (∀ i j, mid ≤ i → i < e → e ≤ j → j < b → rotR f s m e i < rotR f s m e j) := by
  subst hm
  refine ⟨fun i j i1 i2 i3 i4 => ?_, fun i j i1 i2 i3 i4 => ?_⟩
  · rw [rot_out h2 h3 (by omega), rotR_lo (by omega)]; exact hP _ _ (by omega) (by omega) (by omega) (by omega)
  · rw [rotR_hi (by omega), rot_out h2 h3 (by omega)]; exact hP _ _ (by omega) (by omega) (by omega) (by omega)
theorem rot_bnd {f : Nat → Nat} {a m b n : Nat} (h1 : a ≤ m) (h2 : m ≤ b) (hb : b ≤ n) (hf : ∀ k, k < n → f k < n) : ∀ k, k < n → rotR f a m b k < n := by
  intro k hk
  unfold rotR
  split
  · exact hf _ (by omega)
  · split
    · exact hf _ (by omega)
    · exact hf _ hk
theorem IncS.congr {α : Type} {lt : α → α → Prop} {f g : Nat → α} {a b : Nat} (h : IncS lt f a b) (hg : ∀ k, a ≤ k → k < b → g k = f k) : IncS lt g a b := by
  intro i j i1 i2 i3; rw [hg i i1 (by omega), hg j (by omega) i3]; exact h i j i1 i2 i3
/-- where the first merge is left out -/
theorem sym_noA {α : Type} {lt : α → α → Prop} {f : Nat → α} {a s m e b mid : Nat} (h1 : a ≤ s) (h2 : s ≤ m) (h3 : m ≤ e) (h4 : e ≤ b) (hm : s + (e - m) = mid) (hX : IncS lt f a m) (hY : IncS lt f m b) (hno : ¬ (a < s ∧ s < mid)) : OrdS lt (rotR f s m e) (rotR f s m e) a mid := by
  obtain ⟨p1, p2, _, _⟩ := sym_parts h1 h2 h3 h4 hm hX hY
  by_cases h : a < s
  · have hs : mid = s := by omega
    rw [hs]; exact p1.ord
  · have hs : a = s := by omega
    subst hs; exact p2.ord
/-- where the second merge is left out -/
theorem sym_noB {α : Type} {lt : α → α → Prop} {f g : Nat → α} {a s m e b mid : Nat} (h1 : a ≤ s) (h2 : s ≤ m) (h3 : m ≤ e) (h4 : e ≤ b) (hm : s + (e - m) = mid) (hX : IncS lt f a m) (hY : IncS lt f m b) (hg : ∀ k, mid ≤ k → k < b → g k = rotR f s m e k) (hno : ¬ (mid < e ∧ e < b)) : OrdS lt g g mid b := by
  obtain ⟨_, _, p3, p4⟩ := sym_parts h1 h2 h3 h4 hm hX hY
  by_cases h : mid < e
  · have hs : b = e := by omega
    subst hs
    exact (p3.congr fun k k1 k2 => hg k k1 k2).ord
  · have hs : e = mid := by omega
    subst hs
    exact (p4.congr fun k k1 k2 => hg k k1 k2).ord
/-- the places that the search looks at -/
theorem sym_rng {a m b mid lo hi : Nat} (h1 : a < m) (h2 : m < b) (hmid : mid = (a + b) / 2) (hlo : lo = if mid < m then mid + m - b else a) (hhi : hi = if mid < m then mid else m) :
    (lo ≤ hi ∧ hi ≤ m ∧ a ≤ lo ∧ hi ≤ mid) ∧ ∀ k, lo ≤ k → k < hi → a ≤ k ∧ k < m ∧ m ≤ mid + m - 1 - k ∧ mid + m - 1 - k < b := by
  by_cases hm : mid < m
  · rw [if_pos hm] at hlo hhi
    exact ⟨by omega, fun k k1 k2 => by omega⟩
  · rw [if_neg hm] at hlo hhi
    exact ⟨by omega, fun k k1 k2 => by omega⟩
end Go.Sas
namespace Go.Sas
theorem seg_getD {l : List Nat} {a b : Nat} (hb : b ≤ l.length) : seg (fun k => l.getD k 0) a b = (l.take b).drop a := by
  apply List.ext_getElem?; intro i
  by_cases hi : i < b - a
  · rw [seg_get hi, List.getElem?_drop, List.getElem?_take, if_pos (by omega), List.getD_eq_getElem?_getD, List.getElem?_eq_getElem (by omega)]
    rfl
  · rw [List.getElem?_eq_none (by rw [seg_len]; omega), List.getElem?_eq_none (by rw [List.length_drop, List.length_take]; omega)]
/-- what two halves in order, one behind the other, are to the merge -/
theorem halves {ky : Nat → Int} {l : List Nat} (hl : l.Pairwise (· < ·)) {c : Nat} (hc : c ≤ l.length) {f : Nat → Nat} (hf : f = fun k => (sortV ky (l.take c) ++ sortV ky (l.drop c)).getD k 0) :
    IncS (ltR ky) f 0 c ∧ IncS (ltR ky) f c l.length ∧ (∀ i j, 0 ≤ i → i < c → c ≤ j → j < l.length → f i < f j) ∧ (∀ N, (∀ k ∈ l, k < N) → ∀ k, k < l.length → f k < N) ∧ ∀ h, OrdS (ltR ky) f h 0 l.length → seg h 0 l.length = sortV ky l := by
  obtain ⟨A, hA⟩ : ∃ A, A = sortV ky (l.take c) := ⟨_, rfl⟩
  obtain ⟨B, hB⟩ : ∃ B, B = sortV ky (l.drop c) := ⟨_, rfl⟩
  have hAl : A.length = c := by rw [hA, sortV_len, List.length_take]; omega
  have hBl : B.length = l.length - c := by rw [hB, sortV_len, List.length_drop]
  rw [← hA, ← hB] at hf
  have hTl : (A ++ B).length = l.length := by rw [List.length_append]; omega
  have hlp : (l.take c ++ l.drop c).Pairwise (· < ·) := by rw [List.take_append_drop]; exact hl
  rw [List.pairwise_append] at hlp
  have oA := sortV_ord (ky := ky) hlp.1
  have oB := sortV_ord (ky := ky) hlp.2.1
  rw [← hA] at oA
  rw [← hB] at oB
  have sA : seg f 0 c = A := by rw [hf, seg_getD (by omega), List.drop_zero, List.take_append_of_le_length (by omega), List.take_of_length_le (by omega)]
  have sB : seg f c l.length = B := by rw [hf, seg_getD (by omega), List.take_of_length_le (by omega), ← hAl, List.drop_left]
  have sT : seg f 0 l.length = A ++ B := by rw [seg_split c (by omega) hc, sA, sB]
  have pT : (A ++ B).Perm l := by
    have h := oA.1.append oB.1
    rwa [List.take_append_drop] at h
  refine ⟨seg_pair.1 (by rw [sA]; exact oA.2), seg_pair.1 (by rw [sB]; exact oB.2), fun i j _ i2 j1 j2 => ?_, fun N hN k hk => ?_, fun h hh => ?_⟩
  · have m1 : f i ∈ l.take c := oA.1.subset (by rw [← sA]; exact List.mem_map.2 ⟨i, List.mem_range.2 (by omega), by simp⟩)
    have m2 : f j ∈ l.drop c := oB.1.subset (by rw [← sB]; exact List.mem_map.2 ⟨j - c, List.mem_range.2 (by omega), by congr 1; omega⟩)
    exact hlp.2.2 _ m1 _ m2
  · refine hN _ (pT.subset ?_)
    rw [← sT]
    exact List.mem_map.2 ⟨k, List.mem_range.2 (by omega), by simp⟩
  · have h1 := hh.1
    rw [sT] at h1
    exact ord_uniq ltR_as ⟨h1.1.trans pT, h1.2⟩ (sortV_ord hl)
end Go.Sas
