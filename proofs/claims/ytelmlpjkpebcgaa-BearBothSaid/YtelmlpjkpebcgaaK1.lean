/-
Rows that grow: small lemmas.
Conditions: none (lemmas over any program).
-/
import Derived.Test.YtelmlpjkpebcgaaAbs19
set_option linter.unusedVariables false
set_option linter.unusedSimpArgs false
namespace Go.Sas
variable {m : Nat} {H : AHeap} {Kk : AV → AHeap → Prop} {r r' : AV}
theorem Frees.wk (hw : Wk r r') (h : Frees m Kk r' H) : Frees m Kk r H := fun st0 w0 st w v hm he hH hr => h st0 w0 st w v hm he hH (hw _ _ hr)
theorem Wk.tup {as bs : List AV} (h : WkL as bs) : Wk (.tup as) (.tup bs) := fun st v hv => by
  simp only [RelV] at hv ⊢
  obtain ⟨us, h1, h2⟩ := hv
  exact ⟨us, h1, h.rel h2⟩
/-- one element more -/
theorem app_one {sz by_ n : Nat} {cs c : List AV} {v : AV} (hl : cs.length = n * sz) (hv : v.cells = some c) (hb : (n + 1) * by_ ≤ 140737488355328) : appS sz sz by_ cs 0 n [v] (cs ++ c) (n + 1) := by
  refine ⟨rfl, by omega, by simpa using hb, rfl, c, ?_, ?_⟩
  · rw [cellsL_eq]; simp [cellsL, hv]
  · rw [List.drop_zero, List.take_of_length_le (by omega)]
/-- elements of a slice -/
theorem app_all {sz by_ n : Nat} {cs c es : List AV} (hl : cs.length = n * sz) (hv : cellsL es = some c) (hb : (n + es.length) * by_ ≤ 140737488355328) : appS sz sz by_ cs 0 n es (cs ++ c) (n + es.length) := by
  refine ⟨rfl, by omega, hb, rfl, c, ?_, ?_⟩
  · rw [cellsL_eq]; exact hv
  · rw [List.drop_zero, List.take_of_length_le (by omega)]
/-- the cells of typed elements -/
theorem cellsL_map {α : Type} {f : α → AV} {g : α → List AV} (hf : ∀ x, (f x).cells = some (g x)) : ∀ (l : List α), cellsL (l.map f) = some (l.flatMap g)
  | [] => rfl
  | x :: l => by simp [cellsL, hf, cellsL_map hf l]
theorem Elems_map {α : Type} {f : α → AV} {g : α → List AV} {sz : Nat} (hf : ∀ x, (f x).cells = some (g x)) (hn : ∀ x, (f x).nid = true) (hs : ∀ x, (g x).length = sz) (l : List α) : Elems sz (l.map f) (l.flatMap g) := by
  refine ⟨cellsL_map hf l, ?_⟩
  simp only [elemsOk, elemsLen, Bool.and_eq_true]
  constructor
  · induction l with
    | nil => rfl
    | cons x l ih => simp only [List.map_cons, AV.nidL, Bool.and_eq_true]; exact ⟨hn x, ih⟩
  · rw [List.all_eq_true]
    intro a ha
    obtain ⟨x, _, rfl⟩ := List.mem_map.1 ha
    rw [hf]; simp [hs]
/-- a row of numbers -/
theorem Elems_I (l : List Int) : Elems 1 (l.map I) (l.map I) := by
  have := Elems_map (f := I) (g := fun n => [I n]) (sz := 1) (fun _ => rfl) (fun _ => rfl) (fun _ => rfl) l
  rw [List.flatMap_singleton'' ] at this
  exact this
where
  List.flatMap_singleton'' : l.flatMap (fun n => [I n]) = l.map I := by
    induction l with
    | nil => rfl
    | cons x l ih => simp [ih]
theorem Elems_sp (l : List (Int × Int)) : Elems 2 (l.map sp) (l.flatMap fun x => [I x.1, I x.2]) := Elems_map (f := sp) (g := fun x => [I x.1, I x.2]) (sz := 2) (fun _ => rfl) (fun _ => rfl) (fun _ => rfl) l
theorem frz_self {id g sz len : Nat} {xs : List AV} (hl : xs.length = len) : AV.frz id g sz xs (.ms sz id g 0 len) = .vs sz xs := by
  simp only [AV.frz, if_true]
  rw [if_pos (by simp [hl])]
  simp [← hl]
theorem len_flat {α β : Type} {f : α → List β} {k : Nat} (hf : ∀ x, (f x).length = k) : ∀ (l : List α), (l.flatMap f).length = l.length * k
  | [] => by simp
  | x :: l => by simp [hf, len_flat hf l, Nat.add_mul]; omega
end Go.Sas
