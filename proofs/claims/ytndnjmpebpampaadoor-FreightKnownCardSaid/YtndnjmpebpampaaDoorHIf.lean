/-
Freight: the next list of the same numbers: plain functions.
Freight: the best plan is the first one of the least cost: plain laws.
Freight: what is dearest first; the bound: plain functions.
Conditions: none.
-/
import Derived.Test.YtndnjmpebpampaaDoorQG20
import Derived.Test.YtndnjmpebpampaaDoorHGf
set_option linter.unusedVariables false
set_option linter.unusedSimpArgs false
namespace Go.Sas
end Go.Sas
namespace Go.Sas
end Go.Sas
namespace Go.Sas
/-- x is put behind those that are not less; the last one stands first -/
def insV {α : Type} (lt : α → Bool) (x : α) : List α → List α
  | [] => [x]
  | y :: r => if lt y then y :: insV lt x r else x :: y :: r
theorem insV_len {α : Type} {lt : α → Bool} {x : α} : ∀ {l : List α}, (insV lt x l).length = l.length + 1
  | [] => rfl
  | y :: r => by
    simp only [insV]
    split
    · simp [insV_len (l := r)]
    · simp
theorem insV_mem {α : Type} {lt : α → Bool} {x z : α} : ∀ {l : List α}, z ∈ insV lt x l ↔ z = x ∨ z ∈ l
  | [] => by simp [insV]
  | y :: r => by
    simp only [insV]
    split
    · simp only [List.mem_cons, insV_mem (l := r)]
      constructor
      · rintro (h | h | h)
        · exact .inr (.inl h)
        · exact .inl h
        · exact .inr (.inr h)
      · rintro (h | h | h)
        · exact .inr (.inl h)
        · exact .inl h
        · exact .inr (.inr h)
    · simp
/-- orders with the greatest keys first -/
def sortV {α : Type} (key : α → Int) (l : List α) : List α := (l.foldl (fun s x => insV (fun y => decide (key y < key x)) x s) []).reverse
theorem sortV_mem {α : Type} {key : α → Int} {z : α} {l : List α} : z ∈ sortV key l ↔ z ∈ l := by
  unfold sortV
  rw [List.mem_reverse]
  have : ∀ (l s : List α), z ∈ l.foldl (fun s x => insV (fun y => decide (key y < key x)) x s) s ↔ z ∈ s ∨ z ∈ l := by
    intro l
    induction l with
    | nil => intro s; simp
    | cons x l ih =>
      intro s
      rw [List.foldl_cons, ih, insV_mem]
      simp only [List.mem_cons]
      constructor
      · rintro ((h | h) | h)
        · exact .inr (.inl h)
        · exact .inl h
        · exact .inr (.inr h)
      · rintro (h | h | h)
        · exact .inl (.inr h)
        · exact .inl (.inl h)
        · exact .inr h
  rw [this]; simp
theorem sortV_len {α : Type} {key : α → Int} {l : List α} : (sortV key l).length = l.length := by
  unfold sortV
  rw [List.length_reverse]
  have : ∀ (l s : List α), (l.foldl (fun s x => insV (fun y => decide (key y < key x)) x s) s).length = s.length + l.length := by
    intro l
    induction l with
    | nil => intro s; simp
    | cons x l ih => intro s; rw [List.foldl_cons, ih, insV_len]; simp; omega
  rw [this]; simp
/-- one goes towards the front as long as those before it are less -/
def bubV {α : Type} (key : α → Int) (d : α) : List α → Nat → List α
  | l, 0 => l
  | l, j + 1 => if key (l.getD j d) < key (l.getD (j + 1) d) then bubV key d ((l.set (j + 1) (l.getD j d)).set j (l.getD (j + 1) d)) j else l
theorem bubV_eq {α : Type} {key : α → Int} {d : α} (x : α) : ∀ (zs rest : List α), bubV key d (zs.reverse ++ x :: rest) zs.length = (insV (fun y => decide (key y < key x)) x zs).reverse ++ rest
  | [], rest => by simp [bubV, insV]
  | y :: zs, rest => by
    have hl : (zs.reverse).length = zs.length := by simp
    have e1 : ((y :: zs).reverse ++ x :: rest) = zs.reverse ++ y :: x :: rest := by simp
    have g1 : (zs.reverse ++ y :: x :: rest).getD zs.length d = y := by
      rw [List.getD_eq_getElem?_getD, List.getElem?_append_right (by simp)]; simp
    have g2 : (zs.reverse ++ y :: x :: rest).getD (zs.length + 1) d = x := by
      rw [List.getD_eq_getElem?_getD, List.getElem?_append_right (by simp)]; simp
    rw [e1]
    simp only [List.length_cons, bubV, g1, g2, insV, decide_eq_true_eq]
    by_cases h : key y < key x
    · rw [if_pos h, if_pos h]
      have e2 : ((zs.reverse ++ y :: x :: rest).set (zs.length + 1) y).set zs.length x = zs.reverse ++ x :: (y :: rest) := by
        rw [List.set_append_right _ _ (by simp)]
        rw [List.set_append_right _ _ (by simp)]
        simp
      rw [e2, bubV_eq x zs (y :: rest)]
      simp
    · rw [if_neg h, if_neg h]; simp
/-- what is put in its place before i -/
theorem sort_step {α : Type} {key : α → Int} {d : α} {l : List α} {i : Nat} (hi : i < l.length) :
    bubV key d (sortV key (l.take i) ++ l.drop i) i = sortV key (l.take (i + 1)) ++ l.drop (i + 1) := by
  obtain ⟨x, hx⟩ : ∃ x, l[i]? = some x := ⟨_, List.getElem?_eq_getElem hi⟩
  have hlen : (sortV key (l.take i)).length = i := by rw [sortV_len]; simp; omega
  have hd : l.drop i = x :: l.drop (i + 1) := by
    obtain ⟨h, rfl⟩ := List.getElem?_eq_some_iff.1 hx
    exact List.drop_eq_getElem_cons h
  have ht : l.take (i + 1) = l.take i ++ [x] := by
    obtain ⟨h, rfl⟩ := List.getElem?_eq_some_iff.1 hx
    exact List.take_succ_eq_append_getElem h
  obtain ⟨zs, hzs⟩ : ∃ zs, zs = (l.take i).foldl (fun s x => insV (fun y => decide (key y < key x)) x s) [] := ⟨_, rfl⟩
  have hs : sortV key (l.take i) = zs.reverse := by rw [hzs]; rfl
  have hzl : zs.length = i := by rw [hs] at hlen; simpa using hlen
  rw [hs, hd]
  have := bubV_eq (key := key) (d := d) x zs (l.drop (i + 1))
  rw [hzl] at this
  rw [this]
  congr 1
  unfold sortV
  rw [ht, List.foldl_append, ← hzs]; rfl
/-! ### The bound -/
end Go.Sas
