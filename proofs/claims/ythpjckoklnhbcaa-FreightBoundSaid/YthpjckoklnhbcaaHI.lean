/-
Freight: the next list of the same numbers: plain functions.
Freight: the best plan is the first one of the least cost: plain laws.
Freight: what is dearest first; the bound: plain functions.
Conditions: none.
-/
import Derived.Test.YthpjckoklnhbcaaQG20
import Derived.Test.YthpjckoklnhbcaaHG
set_option linter.unusedVariables false
set_option linter.unusedSimpArgs false
namespace Go.Sas
def pivF (l : List Nat) : Nat → Option Nat
  | 0 => none
  | i + 1 => if l.getD (i + 1) 0 ≤ l.getD i 0 then pivF l i else some i
def lastF (l : List Nat) (x : Nat) : Nat → Nat
  | 0 => 0
  | k + 1 => if l.getD (k + 1) 0 ≤ x then lastF l x k else k + 1
def swapF (l : List Nat) (i k : Nat) : List Nat := (l.set i (l.getD k 0)).set k (l.getD i 0)
def revF : Nat → List Nat → Nat → Nat → List Nat
  | 0, l, _, _ => l
  | f + 1, l, a, b => if a < b then revF f (swapF l a b) (a + 1) (b - 1) else l
def nextF (l : List Nat) : Option (List Nat) := match pivF l (l.length - 1) with
  | none => none
  | some i => some (revF l.length (swapF l i (lastF l (l.getD i 0) (l.length - 1))) (i + 1) (l.length - 1))
def chainF : Nat → List Nat → List (List Nat)
  | 0, _ => []
  | f + 1, l => l :: match nextF l with
    | none => []
    | some r => chainF f r
theorem chainA : ∀ n, 1 ≤ n → n ≤ 6 → plansS n = chainF 800 (List.range n)
  | 1, _, _ => by decide +kernel
  | 2, _, _ => by decide +kernel
  | 3, _, _ => by decide +kernel
  | 4, _, _ => by decide +kernel
  | 5, _, _ => by decide +kernel
  | 6, _, _ => by decide +kernel
  | 0, h, _ => absurd h (by decide)
  | n + 7, _, h => absurd h (by omega)
theorem plans_zero {n : Nat} (h1 : 1 ≤ n) (h2 : n ≤ 6) : (plansS n)[0]? = some (List.range n) := by
  rw [chainA n h1 h2]; rfl
end Go.Sas
namespace Go.Sas
theorem plans_perm {n : Nat} {p : List Nat} (h1 : 1 ≤ n) (h2 : n ≤ 6) (hp : p ∈ plansS n) : p.Perm (List.range n) := by
  have key : ∀ n, n ≤ 6 → ((plansS n).all fun p => p.isPerm (List.range n)) = true := by decide +kernel
  exact List.isPerm_iff.1 (List.all_eq_true.1 (key n h2) p hp)
theorem plans_ne {n : Nat} {p : List Nat} (h1 : 1 ≤ n) (h2 : n ≤ 6) (hp : p ∈ plansS n) : p ≠ [] := by
  have := (plans_perm h1 h2 hp).length_eq
  intro h; subst h; simp at this; omega
/-- the best so far -/
def BestAt (c : List Nat → Int) (L : List (List Nat)) (t : Nat) : Option ((Nat × List Nat) × Int) → Prop
  | none => t = 0
  | some ((x, r), m) => ∃ i, i < t ∧ L[i]? = some (x :: r) ∧ m = c (x :: r) ∧ (∀ (j : Nat) q, j < t → L[j]? = some q → m ≤ c q) ∧ ∀ (j : Nat) q, j < i → L[j]? = some q → m < c q
theorem bestAt {c : List Nat → Int} {L : List (List Nat)} (hne : ∀ p ∈ L, p ≠ []) : ∀ t, t ≤ L.length → BestAt c L t ((L.take t).foldl (stpB c) none)
  | 0, _ => rfl
  | t + 1, ht => by
    have ih := bestAt (c := c) hne t (by omega)
    obtain ⟨p, hp⟩ : ∃ p, L[t]? = some p := ⟨_, List.getElem?_eq_getElem (by omega)⟩
    obtain ⟨hlt, hpe⟩ := List.getElem?_eq_some_iff.1 hp
    rw [List.take_succ_eq_append_getElem hlt, List.foldl_append, hpe]
    simp only [List.foldl_cons, List.foldl_nil]
    obtain ⟨x, r, rfl⟩ : ∃ x r, p = x :: r := by
      cases p with
      | nil => exact absurd rfl (hne [] (List.mem_of_getElem? hp))
      | cons x r => exact ⟨x, r, rfl⟩
    rcases hs : (L.take t).foldl (stpB c) none with _ | ⟨⟨y, r2⟩, m⟩
    · rw [hs] at ih
      have ht0 : t = 0 := ih
      subst ht0
      refine ⟨0, by omega, hp, rfl, fun j q hj hq => ?_, fun j q hj hq => by omega⟩
      have : j = 0 := by omega
      subst this; rw [hp] at hq; cases hq; exact Int.le_refl _
    · rw [hs] at ih
      obtain ⟨i, h1, h2, h3, h4, h5⟩ := ih
      simp only [stpB]
      by_cases hc : c (x :: r) < m
      · rw [if_pos hc]
        refine ⟨t, by omega, hp, rfl, fun j q hj hq => ?_, fun j q hj hq => ?_⟩
        · rcases Nat.lt_or_ge j t with h6 | h6
          · have := h4 j q h6 hq; omega
          · have : j = t := by omega
            subst this; rw [hp] at hq; cases hq; exact Int.le_refl _
        · have := h4 j q hj hq; omega
      · rw [if_neg hc]
        refine ⟨i, by omega, h2, h3, fun j q hj hq => ?_, h5⟩
        rcases Nat.lt_or_ge j t with h6 | h6
        · exact h4 j q h6 hq
        · have : j = t := by omega
          subst this; rw [hp] at hq; cases hq; omega
/-- the best plan -/
theorem best_spec {f : Frt} (hV : FrtV f) (hf : checkF f = 0) : ∃ (b : List Nat) (i : Nat), bestS f = (b, costS f.ords f.caps.length (worstW f) b, 0) ∧ (plansS f.ords.length)[i]? = some b ∧
    (∀ (j : Nat) q, (plansS f.ords.length)[j]? = some q → costS f.ords f.caps.length (worstW f) b ≤ costS f.ords f.caps.length (worstW f) q) ∧
    (∀ (j : Nat) q, j < i → (plansS f.ords.length)[j]? = some q → costS f.ords f.caps.length (worstW f) b < costS f.ords f.caps.length (worstW f) q) := by
  have h1 := hV.o1
  have h2 := hV.o2
  have h := bestAt (c := costS f.ords f.caps.length (worstW f)) (fun p hp => plans_ne h1 h2 hp) (plansS f.ords.length).length (Nat.le_refl _)
  rw [List.take_length] at h
  have hb : bestS f = match bestO f with
    | none => ([], 0, 0)
    | some ((x, r), n) => (x :: r, n, 0) := by
    unfold bestS; rw [if_neg (by simp [hf])]
    rcases bestO f with _ | ⟨⟨_, _⟩, _⟩ <;> rfl
  rw [hb]
  unfold bestO
  rcases hs : (plansS f.ords.length).foldl (stpB (costS f.ords f.caps.length (worstW f))) none with _ | ⟨⟨y, r⟩, m⟩
  · rw [hs] at h
    exfalso
    have h3 : (plansS f.ords.length).length = 0 := h
    have h4 := plans_zero h1 h2
    rw [List.getElem?_eq_none (by omega)] at h4
    cases h4
  · rw [hs] at h
    obtain ⟨i, g1, g2, rfl, g4, g5⟩ := h
    exact ⟨y :: r, i, rfl, g2, fun j q hq => g4 j q (List.getElem?_eq_some_iff.1 hq).1 hq, g5⟩
end Go.Sas
namespace Go.Sas
/-- x is put behind those that are not less; the last one stands first -/
def insV {α : Type} (lt : α → Bool) (x : α) : List α → List α
  | [] => [x]
  | y :: r => if lt y then y :: insV lt x r else x :: y :: r
theorem insV_len {α : Type} {lt : α → Bool} {x : α} : ∀ {l : List α}, (insV lt x l).length = l.length + 1
  | [] => rfl
  | y :: r => by
    simp only [insV]
    split
    · simp [insV_len (l := r)]
    · simp
theorem insV_mem {α : Type} {lt : α → Bool} {x z : α} : ∀ {l : List α}, z ∈ insV lt x l ↔ z = x ∨ z ∈ l
  | [] => by simp [insV]
  | y :: r => by
    simp only [insV]
    split
    · simp only [List.mem_cons, insV_mem (l := r)]
      constructor
      · rintro (h | h | h)
        · exact .inr (.inl h)
        · exact .inl h
        · exact .inr (.inr h)
      · rintro (h | h | h)
        · exact .inr (.inl h)
        · exact .inl h
        · exact .inr (.inr h)
    · simp
/-- orders with the greatest keys first -/
def sortV {α : Type} (key : α → Int) (l : List α) : List α := (l.foldl (fun s x => insV (fun y => decide (key y < key x)) x s) []).reverse
theorem insV_map {α β : Type} {f : α → β} {lt : α → Bool} {lt' : β → Bool} (h : ∀ y, lt' (f y) = lt y) {x : α} : ∀ {l : List α}, (insV lt x l).map f = insV lt' (f x) (l.map f)
  | [] => rfl
  | y :: r => by
    simp only [insV, List.map_cons, h y]
    split
    · simp [insV_map h (l := r)]
    · simp
theorem foldl_insV_map {α β : Type} {f : α → β} {key : α → Int} {key' : β → Int} (h : ∀ y, key' (f y) = key y) : ∀ {l s : List α},
    (l.foldl (fun s x => insV (fun y => decide (key y < key x)) x s) s).map f = (l.map f).foldl (fun s x => insV (fun y => decide (key' y < key' x)) x s) (s.map f)
  | [], s => rfl
  | x :: l, s => by
    rw [List.foldl_cons, List.map_cons, List.foldl_cons, foldl_insV_map h (l := l)]
    rw [insV_map (lt' := fun y => decide (key' y < key' (f x))) (fun y => by simp only [h])]
theorem sortV_map {α β : Type} {f : α → β} {key : α → Int} {key' : β → Int} (h : ∀ y, key' (f y) = key y) (l : List α) : (sortV key l).map f = sortV key' (l.map f) := by
  unfold sortV
  rw [List.map_reverse, foldl_insV_map h]; rfl
theorem sortV_mem {α : Type} {key : α → Int} {z : α} {l : List α} : z ∈ sortV key l ↔ z ∈ l := by
  unfold sortV
  rw [List.mem_reverse]
  have : ∀ (l s : List α), z ∈ l.foldl (fun s x => insV (fun y => decide (key y < key x)) x s) s ↔ z ∈ s ∨ z ∈ l := by
    intro l
    induction l with
    | nil => intro s; simp
    | cons x l ih =>
      intro s
      rw [List.foldl_cons, ih, insV_mem]
      simp only [List.mem_cons]
      constructor
      · rintro ((h | h) | h)
        · exact .inr (.inl h)
        · exact .inl h
        · exact .inr (.inr h)
      · rintro (h | h | h)
        · exact .inl (.inr h)
        · exact .inl (.inl h)
        · exact .inr h
  rw [this]; simp
theorem sortV_len {α : Type} {key : α → Int} {l : List α} : (sortV key l).length = l.length := by
  unfold sortV
  rw [List.length_reverse]
  have : ∀ (l s : List α), (l.foldl (fun s x => insV (fun y => decide (key y < key x)) x s) s).length = s.length + l.length := by
    intro l
    induction l with
    | nil => intro s; simp
    | cons x l ih => intro s; rw [List.foldl_cons, ih, insV_len]; simp; omega
  rw [this]; simp
/-- one goes towards the front as long as those before it are less -/
def bubV {α : Type} (key : α → Int) (d : α) : List α → Nat → List α
  | l, 0 => l
  | l, j + 1 => if key (l.getD j d) < key (l.getD (j + 1) d) then bubV key d ((l.set (j + 1) (l.getD j d)).set j (l.getD (j + 1) d)) j else l
theorem bubV_eq {α : Type} {key : α → Int} {d : α} (x : α) : ∀ (zs rest : List α), bubV key d (zs.reverse ++ x :: rest) zs.length = (insV (fun y => decide (key y < key x)) x zs).reverse ++ rest
  | [], rest => by simp [bubV, insV]
  | y :: zs, rest => by
    have hl : (zs.reverse).length = zs.length := by simp
    have e1 : ((y :: zs).reverse ++ x :: rest) = zs.reverse ++ y :: x :: rest := by simp
    have g1 : (zs.reverse ++ y :: x :: rest).getD zs.length d = y := by
      rw [List.getD_eq_getElem?_getD, List.getElem?_append_right (by simp)]; simp
    have g2 : (zs.reverse ++ y :: x :: rest).getD (zs.length + 1) d = x := by
      rw [List.getD_eq_getElem?_getD, List.getElem?_append_right (by simp)]; simp
    rw [e1]
    simp only [List.length_cons, bubV, g1, g2, insV, decide_eq_true_eq]
    by_cases h : key y < key x
    · rw [if_pos h, if_pos h]
      have e2 : ((zs.reverse ++ y :: x :: rest).set (zs.length + 1) y).set zs.length x = zs.reverse ++ x :: (y :: rest) := by
        rw [List.set_append_right _ _ (by simp)]
        rw [List.set_append_right _ _ (by simp)]
        simp
      rw [e2, bubV_eq x zs (y :: rest)]
      simp
    · rw [if_neg h, if_neg h]; simp
/-- what is put in its place before i -/
theorem sort_step {α : Type} {key : α → Int} {d : α} {l : List α} {i : Nat} (hi : i < l.length) :
    bubV key d (sortV key (l.take i) ++ l.drop i) i = sortV key (l.take (i + 1)) ++ l.drop (i + 1) := by
  obtain ⟨x, hx⟩ : ∃ x, l[i]? = some x := ⟨_, List.getElem?_eq_getElem hi⟩
  have hlen : (sortV key (l.take i)).length = i := by rw [sortV_len]; simp; omega
  have hd : l.drop i = x :: l.drop (i + 1) := by
    obtain ⟨h, rfl⟩ := List.getElem?_eq_some_iff.1 hx
    exact List.drop_eq_getElem_cons h
  have ht : l.take (i + 1) = l.take i ++ [x] := by
    obtain ⟨h, rfl⟩ := List.getElem?_eq_some_iff.1 hx
    exact List.take_succ_eq_append_getElem h
  obtain ⟨zs, hzs⟩ : ∃ zs, zs = (l.take i).foldl (fun s x => insV (fun y => decide (key y < key x)) x s) [] := ⟨_, rfl⟩
  have hs : sortV key (l.take i) = zs.reverse := by rw [hzs]; rfl
  have hzl : zs.length = i := by rw [hs] at hlen; simpa using hlen
  rw [hs, hd]
  have := bubV_eq (key := key) (d := d) x zs (l.drop (i + 1))
  rw [hzl] at this
  rw [this]
  congr 1
  unfold sortV
  rw [ht, List.foldl_append, ← hzs]; rfl
/-! ### The bound -/
/-- units of an order that go, where S may go: what is left of the cost, and of S -/
def bndA (key : Ord → Int) (s : Int × Int) (o : Ord) : Int × Int := (s.1 - min o.u s.2 * key o, s.2 - min o.u s.2)
def minF (n : Int) (l : List Int) : Int := l.foldl (fun a x => min a x) n
/-- units of an order that go in time -/
def bndB (D : Nat) (s : Int × List Int) (o : Ord) : Int × List Int :=
  let q := min o.d.toNat (D - 1)
  let n := minF o.u (s.2.drop q)
  (s.1 - n * o.l, s.2.take q ++ (s.2.drop q).map (· - n))
def upS (R : Nat → Int) (D : Nat) : List Int := (List.range D).map fun d => sumR R (d + 1)
def sumC (os : List Ord) : Int := sumI (os.map fun o => o.u * o.s)
def boundV (f : Frt) : Int :=
  let R := roomW (worstW f)
  let D := f.caps.length
  let a := (sortV (fun o => o.s - o.l) f.ords).foldl (bndA fun o => o.s - o.l) (sumC f.ords, sumR R D)
  ((sortV (·.l) f.ords).foldl (bndB D) (a.1, upS R D)).1
def boundS (f : Frt) : Int × Int := if checkF f ≠ 0 then (0, checkF f) else (boundV f, 0)
end Go.Sas
