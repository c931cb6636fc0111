/-
Probe: marks in the order of their hours: plain functions; rows of many cells that are written to.
Probe: marks and looks of later hours say nothing.
Conditions: none.
-/
import Derived.Test.YtpokfjhlilbpfaaDoorPNd
import Derived.Test.YtpokfjhlilbpfaaDoorPMd
set_option linter.unusedVariables false
set_option linter.unusedSimpArgs false
namespace Go.Sas
theorem insV_len {α : Type} {lt : α → Bool} {x : α} : ∀ {l : List α}, (insV lt x l).length = l.length + 1
  | [] => rfl
  | y :: r => by
    simp only [insV]
    split
    · simp [insV_len (l := r)]
    · simp
theorem insV_mem {α : Type} {lt : α → Bool} {x z : α} : ∀ {l : List α}, z ∈ insV lt x l ↔ z = x ∨ z ∈ l
  | [] => by simp [insV]
  | y :: r => by
    simp only [insV]
    split
    · simp only [List.mem_cons, insV_mem (l := r)]
      constructor
      · rintro (h | h | h)
        · exact .inr (.inl h)
        · exact .inl h
        · exact .inr (.inr h)
      · rintro (h | h | h)
        · exact .inr (.inl h)
        · exact .inl h
        · exact .inr (.inr h)
    · simp
theorem sortV_mem {α : Type} {key : α → Int} {z : α} {l : List α} : z ∈ sortV key l ↔ z ∈ l := by
  unfold sortV
  rw [List.mem_reverse]
  have : ∀ (l s : List α), z ∈ l.foldl (fun s x => insV (fun y => decide (key y < key x)) x s) s ↔ z ∈ s ∨ z ∈ l := by
    intro l
    induction l with
    | nil => intro s; simp
    | cons x l ih =>
      intro s
      rw [List.foldl_cons, ih, insV_mem]
      simp only [List.mem_cons]
      constructor
      · rintro ((h | h) | h)
        · exact .inr (.inl h)
        · exact .inl h
        · exact .inr (.inr h)
      · rintro (h | h | h)
        · exact .inl (.inr h)
        · exact .inl (.inl h)
        · exact .inr h
  rw [this]; simp
theorem sortV_len {α : Type} {key : α → Int} {l : List α} : (sortV key l).length = l.length := by
  unfold sortV
  rw [List.length_reverse]
  have : ∀ (l s : List α), (l.foldl (fun s x => insV (fun y => decide (key y < key x)) x s) s).length = s.length + l.length := by
    intro l
    induction l with
    | nil => intro s; simp
    | cons x l ih => intro s; rw [List.foldl_cons, ih, insV_len]; simp; omega
  rw [this]; simp
/-- one goes towards the front as long as those before it are less -/
def bubV {α : Type} (key : α → Int) (d : α) : List α → Nat → List α
  | l, 0 => l
  | l, j + 1 => if key (l.getD j d) < key (l.getD (j + 1) d) then bubV key d ((l.set (j + 1) (l.getD j d)).set j (l.getD (j + 1) d)) j else l
theorem bubV_eq {α : Type} {key : α → Int} {d : α} (x : α) : ∀ (zs rest : List α), bubV key d (zs.reverse ++ x :: rest) zs.length = (insV (fun y => decide (key y < key x)) x zs).reverse ++ rest
  | [], rest => by simp [bubV, insV]
  | y :: zs, rest => by
    have hl : (zs.reverse).length = zs.length := by simp
    have e1 : ((y :: zs).reverse ++ x :: rest) = zs.reverse ++ y :: x :: rest := by simp
    have g1 : (zs.reverse ++ y :: x :: rest).getD zs.length d = y := by
      rw [List.getD_eq_getElem?_getD, List.getElem?_append_right (by simp)]; simp
    have g2 : (zs.reverse ++ y :: x :: rest).getD (zs.length + 1) d = x := by
      rw [List.getD_eq_getElem?_getD, List.getElem?_append_right (by simp)]; simp
    rw [e1]
    simp only [List.length_cons, bubV, g1, g2, insV, decide_eq_true_eq]
    by_cases h : key y < key x
    · rw [if_pos h, if_pos h]
      have e2 : ((zs.reverse ++ y :: x :: rest).set (zs.length + 1) y).set zs.length x = zs.reverse ++ x :: (y :: rest) := by
        rw [List.set_append_right _ _ (by simp)]
        rw [List.set_append_right _ _ (by simp)]
        simp
      rw [e2, bubV_eq x zs (y :: rest)]
      simp
    · rw [if_neg h, if_neg h]; simp
/-- what is put in its place before i -/
theorem sort_step {α : Type} {key : α → Int} {d : α} {l : List α} {i : Nat} (hi : i < l.length) :
    bubV key d (sortV key (l.take i) ++ l.drop i) i = sortV key (l.take (i + 1)) ++ l.drop (i + 1) := by
  obtain ⟨x, hx⟩ : ∃ x, l[i]? = some x := ⟨_, List.getElem?_eq_getElem hi⟩
  have hlen : (sortV key (l.take i)).length = i := by rw [sortV_len]; simp; omega
  have hd : l.drop i = x :: l.drop (i + 1) := by
    obtain ⟨h, rfl⟩ := List.getElem?_eq_some_iff.1 hx
    exact List.drop_eq_getElem_cons h
  have ht : l.take (i + 1) = l.take i ++ [x] := by
    obtain ⟨h, rfl⟩ := List.getElem?_eq_some_iff.1 hx
    exact List.take_succ_eq_append_getElem h
  obtain ⟨zs, hzs⟩ : ∃ zs, zs = (l.take i).foldl (fun s x => insV (fun y => decide (key y < key x)) x s) [] := ⟨_, rfl⟩
  have hs : sortV key (l.take i) = zs.reverse := by rw [hzs]; rfl
  have hzl : zs.length = i := by rw [hs] at hlen; simpa using hlen
  rw [hs, hd]
  have := bubV_eq (key := key) (d := d) x zs (l.drop (i + 1))
  rw [hzl] at this
  rw [this]
  congr 1
  unfold sortV
  rw [ht, List.foldl_append, ← hzs]; rfl
section
variable {α : Type} {g : α → List AV} {sz : Nat}
theorem flxDrop (hg : ∀ x, (g x).length = sz) : ∀ {l : List α} {i : Nat} {x : α}, l[i]? = some x → (l.flatMap g).drop (i * sz) = g x ++ (l.drop (i + 1)).flatMap g
  | [], i, x, h => by simp at h
  | y :: l, 0, x, h => by simp at h; subst h; simp
  | y :: l, i + 1, x, h => by
    simp only [List.getElem?_cons_succ] at h
    rw [List.flatMap_cons, show (i + 1) * sz = (g y).length + i * sz by rw [hg, Nat.add_mul]; omega, ← List.drop_drop, List.drop_left, flxDrop hg h]
    rfl
theorem flxTake (hg : ∀ x, (g x).length = sz) : ∀ {l : List α} {i : Nat}, i ≤ l.length → (l.flatMap g).take (i * sz) = (l.take i).flatMap g
  | l, 0, _ => by simp
  | [], i + 1, h => by simp at h
  | y :: l, i + 1, h => by
    rw [List.flatMap_cons, show (i + 1) * sz = (g y).length + i * sz by rw [hg, Nat.add_mul]; omega, List.take_length_add_append, flxTake hg (by simpa using h)]
    simp
theorem flxLen (hg : ∀ x, (g x).length = sz) (l : List α) : (l.flatMap g).length = l.length * sz := len_flat hg l
theorem flxGet (hg : ∀ x, (g x).length = sz) {l : List α} {i o : Nat} {x : α} (h : l[i]? = some x) (ho : o = i * sz) : getS (some sz) (l.flatMap g) o (.agg (g x)) := by
  subst ho
  have hi := (List.getElem?_eq_some_iff.1 h).1
  have hl := flxLen hg l
  have : (i + 1) * sz ≤ l.length * sz := Nat.mul_le_mul_right _ (by omega)
  rw [Nat.add_mul] at this
  unfold getS getN
  simp only
  rw [if_pos (by omega), flxDrop hg h, List.take_left' (hg x)]
theorem flxSet (hg : ∀ x, (g x).length = sz) {l : List α} {i o : Nat} {x y : α} (h : l[i]? = some x) (ho : o = i * sz) : updS sz (l.flatMap g) o (g y) ((l.set i y).flatMap g) := by
  subst ho
  have hi := (List.getElem?_eq_some_iff.1 h).1
  have hl := flxLen hg l
  have : (i + 1) * sz ≤ l.length * sz := Nat.mul_le_mul_right _ (by omega)
  rw [Nat.add_mul] at this
  refine ⟨hg y, by omega, ?_⟩
  rw [List.set_eq_take_append_cons_drop, if_pos hi, List.flatMap_append, List.flatMap_cons, flxTake hg (by omega)]
  have e2 : (l.flatMap g).drop (i * sz + sz) = (l.drop (i + 1)).flatMap g := by rw [← List.drop_drop, flxDrop hg h, List.drop_left' (hg x)]
  rw [e2]; simp
end
end Go.Sas
namespace Go.Sas
theorem why_zero {R : List Rch} {a b c : Int} {l : List Lk} {m : List Mrk} {need h : Int} {p : Nat} (hw : whyS R a b c l m need h p = 0) : need ≤ (knowS R l p h).1 ∧ verdS m h (iLen R.length) p = 2 ∧ staleS R a b c l h p = false := by
  unfold whyS at hw
  split at hw
  · omega
  · split at hw
    · omega
    · split at hw
      · omega
      · rename_i h1 h2 h3
        exact ⟨by omega, by simpa using h2, by simpa using h3⟩
end Go.Sas
