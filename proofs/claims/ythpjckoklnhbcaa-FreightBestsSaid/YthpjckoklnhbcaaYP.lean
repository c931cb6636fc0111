/-
Freight: what is dearest first; the bound: plain functions.
Conditions: none.
-/
import Derived.Test.YthpjckoklnhbcaaYN
import Derived.Test.YthpjckoklnhbcaaYM
set_option linter.unusedVariables false
set_option linter.unusedSimpArgs false
namespace Go.Sas
/-- x is put behind those that are not less; the last one stands first -/
def insV {α : Type} (lt : α → Bool) (x : α) : List α → List α
  | [] => [x]
  | y :: r => if lt y then y :: insV lt x r else x :: y :: r
theorem insV_len {α : Type} {lt : α → Bool} {x : α} : ∀ {l : List α}, (insV lt x l).length = l.length + 1
  | [] => rfl
  | y :: r => by
    simp only [insV]
    split
    · simp [insV_len (l := r)]
    · simp
theorem insV_mem {α : Type} {lt : α → Bool} {x z : α} : ∀ {l : List α}, z ∈ insV lt x l ↔ z = x ∨ z ∈ l
  | [] => by simp [insV]
  | y :: r => by
    simp only [insV]
    split
    · simp only [List.mem_cons, insV_mem (l := r)]
      constructor
      · rintro (h | h | h)
        · exact .inr (.inl h)
        · exact .inl h
        · exact .inr (.inr h)
      · rintro (h | h | h)
        · exact .inr (.inl h)
        · exact .inl h
        · exact .inr (.inr h)
    · simp
/-- at which place x is put -/
def posV {α : Type} (lt : α → Bool) : List α → Nat
  | [] => 0
  | y :: r => if lt y then posV lt r else r.length + 1
theorem posV_le {α : Type} {lt : α → Bool} : ∀ {l : List α}, posV lt l ≤ l.length
  | [] => Nat.le_refl _
  | y :: r => by
    simp only [posV]
    split
    · have := posV_le (lt := lt) (l := r); simp; omega
    · simp
theorem insV_pos {α : Type} {lt : α → Bool} {x : α} : ∀ {l : List α}, (insV lt x l).reverse = l.reverse.take (posV lt l) ++ x :: l.reverse.drop (posV lt l)
  | [] => rfl
  | y :: r => by
    simp only [insV, posV]
    by_cases h : lt y = true
    · rw [if_pos h, if_pos h, List.reverse_cons, insV_pos (l := r), List.reverse_cons]
      have := posV_le (lt := lt) (l := r)
      rw [List.take_append_of_le_length (by simp; omega), List.drop_append_of_le_length (by simp; omega)]
      simp
    · rw [if_neg h, if_neg h]
      rw [List.take_of_length_le (by simp), List.drop_eq_nil_of_le (by simp)]
      simp
/-- orders with the greatest keys first -/
def sortV {α : Type} (key : α → Int) (l : List α) : List α := (l.foldl (fun s x => insV (fun y => decide (key y < key x)) x s) []).reverse
theorem insV_map {α β : Type} {f : α → β} {lt : α → Bool} {lt' : β → Bool} (h : ∀ y, lt' (f y) = lt y) {x : α} : ∀ {l : List α}, (insV lt x l).map f = insV lt' (f x) (l.map f)
  | [] => rfl
  | y :: r => by
    simp only [insV, List.map_cons, h y]
    split
    · simp [insV_map h (l := r)]
    · simp
theorem foldl_insV_map {α β : Type} {f : α → β} {key : α → Int} {key' : β → Int} (h : ∀ y, key' (f y) = key y) : ∀ {l s : List α},
    (l.foldl (fun s x => insV (fun y => decide (key y < key x)) x s) s).map f = (l.map f).foldl (fun s x => insV (fun y => decide (key' y < key' x)) x s) (s.map f)
  | [], s => rfl
  | x :: l, s => by
    rw [List.foldl_cons, List.map_cons, List.foldl_cons, foldl_insV_map h (l := l)]
    rw [insV_map (lt' := fun y => decide (key' y < key' (f x))) (fun y => by simp only [h])]
theorem sortV_map {α β : Type} {f : α → β} {key : α → Int} {key' : β → Int} (h : ∀ y, key' (f y) = key y) (l : List α) : (sortV key l).map f = sortV key' (l.map f) := by
  unfold sortV
  rw [List.map_reverse, foldl_insV_map h]; rfl
theorem sortV_mem {α : Type} {key : α → Int} {z : α} {l : List α} : z ∈ sortV key l ↔ z ∈ l := by
  unfold sortV
  rw [List.mem_reverse]
  have : ∀ (l s : List α), z ∈ l.foldl (fun s x => insV (fun y => decide (key y < key x)) x s) s ↔ z ∈ s ∨ z ∈ l := by
    intro l
    induction l with
    | nil => intro s; simp
    | cons x l ih =>
      intro s
      rw [List.foldl_cons, ih, insV_mem]
      simp only [List.mem_cons]
      constructor
      · rintro ((h | h) | h)
        · exact .inr (.inl h)
        · exact .inl h
        · exact .inr (.inr h)
      · rintro (h | h | h)
        · exact .inl (.inr h)
        · exact .inl (.inl h)
        · exact .inr h
  rw [this]; simp
theorem sortV_len {α : Type} {key : α → Int} {l : List α} : (sortV key l).length = l.length := by
  unfold sortV
  rw [List.length_reverse]
  have : ∀ (l s : List α), (l.foldl (fun s x => insV (fun y => decide (key y < key x)) x s) s).length = s.length + l.length := by
    intro l
    induction l with
    | nil => intro s; simp
    | cons x l ih => intro s; rw [List.foldl_cons, ih, insV_len]; simp; omega
  rw [this]; simp
/-- one goes towards the front as long as those before it are less -/
def bubV {α : Type} (key : α → Int) (d : α) : List α → Nat → List α
  | l, 0 => l
  | l, j + 1 => if key (l.getD j d) < key (l.getD (j + 1) d) then bubV key d ((l.set (j + 1) (l.getD j d)).set j (l.getD (j + 1) d)) j else l
theorem bubV_eq {α : Type} {key : α → Int} {d : α} (x : α) : ∀ (zs rest : List α), bubV key d (zs.reverse ++ x :: rest) zs.length = (insV (fun y => decide (key y < key x)) x zs).reverse ++ rest
  | [], rest => by simp [bubV, insV]
  | y :: zs, rest => by
    have hl : (zs.reverse).length = zs.length := by simp
    have e1 : ((y :: zs).reverse ++ x :: rest) = zs.reverse ++ y :: x :: rest := by simp
    have g1 : (zs.reverse ++ y :: x :: rest).getD zs.length d = y := by
      rw [List.getD_eq_getElem?_getD, List.getElem?_append_right (by simp)]; simp
    have g2 : (zs.reverse ++ y :: x :: rest).getD (zs.length + 1) d = x := by
      rw [List.getD_eq_getElem?_getD, List.getElem?_append_right (by simp)]; simp
    rw [e1]
    simp only [List.length_cons, bubV, g1, g2, insV, decide_eq_true_eq]
    by_cases h : key y < key x
    · rw [if_pos h, if_pos h]
      have e2 : ((zs.reverse ++ y :: x :: rest).set (zs.length + 1) y).set zs.length x = zs.reverse ++ x :: (y :: rest) := by
        rw [List.set_append_right _ _ (by simp)]
        rw [List.set_append_right _ _ (by simp)]
        simp
      rw [e2, bubV_eq x zs (y :: rest)]
      simp
    · rw [if_neg h, if_neg h]; simp
theorem bubV_len {α : Type} {key : α → Int} {d : α} : ∀ {j : Nat} {l : List α}, (bubV key d l j).length = l.length
  | 0, l => rfl
  | j + 1, l => by
    simp only [bubV]
    split
    · rw [bubV_len]; simp
    · rfl
/-- what is put in its place before i -/
theorem sort_step {α : Type} {key : α → Int} {d : α} {l : List α} {i : Nat} (hi : i < l.length) :
    bubV key d (sortV key (l.take i) ++ l.drop i) i = sortV key (l.take (i + 1)) ++ l.drop (i + 1) := by
  obtain ⟨x, hx⟩ : ∃ x, l[i]? = some x := ⟨_, List.getElem?_eq_getElem hi⟩
  have hlen : (sortV key (l.take i)).length = i := by rw [sortV_len]; simp; omega
  have hd : l.drop i = x :: l.drop (i + 1) := by
    obtain ⟨h, rfl⟩ := List.getElem?_eq_some_iff.1 hx
    exact List.drop_eq_getElem_cons h
  have ht : l.take (i + 1) = l.take i ++ [x] := by
    obtain ⟨h, rfl⟩ := List.getElem?_eq_some_iff.1 hx
    exact List.take_succ_eq_append_getElem h
  obtain ⟨zs, hzs⟩ : ∃ zs, zs = (l.take i).foldl (fun s x => insV (fun y => decide (key y < key x)) x s) [] := ⟨_, rfl⟩
  have hs : sortV key (l.take i) = zs.reverse := by rw [hzs]; rfl
  have hzl : zs.length = i := by rw [hs] at hlen; simpa using hlen
  rw [hs, hd]
  have := bubV_eq (key := key) (d := d) x zs (l.drop (i + 1))
  rw [hzl] at this
  rw [this]
  congr 1
  unfold sortV
  rw [ht, List.foldl_append, ← hzs]; rfl
/-! ### The bound -/
/-- units of an order that go, where S may go: what is left of the cost, and of S -/
def bndA (key : Ord → Int) (s : Int × Int) (o : Ord) : Int × Int := (s.1 - min o.u s.2 * key o, s.2 - min o.u s.2)
def minF (n : Int) (l : List Int) : Int := l.foldl (fun a x => min a x) n
/-- units of an order that go in time -/
def bndB (D : Nat) (s : Int × List Int) (o : Ord) : Int × List Int :=
  let q := min o.d.toNat (D - 1)
  let n := minF o.u (s.2.drop q)
  (s.1 - n * o.l, s.2.take q ++ (s.2.drop q).map (· - n))
def upS (R : Nat → Int) (D : Nat) : List Int := (List.range D).map fun d => sumR R (d + 1)
def sumC (os : List Ord) : Int := sumI (os.map fun o => o.u * o.s)
def boundV (f : Frt) : Int :=
  let R := roomW (worstW f)
  let D := f.caps.length
  let a := (sortV (fun o => o.s - o.l) f.ords).foldl (bndA fun o => o.s - o.l) (sumC f.ords, sumR R D)
  ((sortV (·.l) f.ords).foldl (bndB D) (a.1, upS R D)).1
def boundS (f : Frt) : Int × Int := if checkF f ≠ 0 then (0, checkF f) else (boundV f, 0)
end Go.Sas
