/-
What comes in, by the types of the chapter on probes.
Conditions: none.
-/
import Derived.Test.YtndnjmpebpampaaGreatDoorP7
import Derived.Test.YtndnjmpebpampaaGreatDoorP5
import Derived.Test.YtndnjmpebpampaaGreatDoorProg
set_option linter.unusedVariables false
set_option linter.unusedSimpArgs false
namespace Go.Sas
open Go.Proofs
set_option maxRecDepth 100000
theorem good_int {P : Program} {d : Nat} {t : TypeId} {us : List AV} (hu : P.underlying t = some (.int .i64)) (h : Good P (d + 1) t us) : ∃ n, us = [I n] := by
  simp only [Good, hu] at h
  obtain ⟨n, h1, _⟩ := h
  exact ⟨n, h1⟩
theorem good_slice {α : Type} {f : α → AV} {P : Program} {d : Nat} {t e : TypeId} {sz : Nat} {us : List AV} (hu : P.underlying t = some (.slice e)) (hsz : P.cellsOf e = sz) (hf : ∀ cs, Good P d e cs → ∃ x, mkE P e cs = f x) (h : Good P (d + 1) t us) :
    ∃ l : List α, us = [.vs sz (l.map f)] ∧ l.length ≤ 9223372036854775807 := by
  simp only [Good, hu] at h
  obtain ⟨css, h1, h2, h3⟩ := h
  have key : ∀ css : List (List AV), (∀ cs ∈ css, Good P d e cs) → ∃ l : List α, css.map (mkE P e) = l.map f ∧ l.length = css.length := by
    intro css
    induction css with
    | nil => exact fun _ => ⟨[], rfl, rfl⟩
    | cons c css ih =>
      intro hg
      obtain ⟨x, hx⟩ := hf c (hg c (by simp))
      obtain ⟨l, hl, hn⟩ := ih fun cs hc => hg cs (by simp [hc])
      exact ⟨x :: l, by simp [hx, hl], by simp [hn]⟩
  obtain ⟨l, hl, hn⟩ := key css h3
  refine ⟨l, by rw [h1, hsz, hl], ?_⟩
  rw [hn]
  have : maxLen = 9223372036854775807 := by decide
  omega
theorem mk_int {cs : List AV} {n : Int} {P : Program} {t : TypeId} (hu : P.underlying t = some (.int .i64)) (h : cs = [I n]) : mkE P t cs = I n := by simp [mkE, hu, h]
theorem mk_slice {P : Program} {t e : TypeId} {a : AV} (hu : P.underlying t = some (.slice e)) : mkE P t [a] = a := by simp [mkE, hu]
theorem uy3 : Tryz.prog.underlying 3 = some (.int .i64) := by kernel_rfl
theorem uy22 : Tryz.prog.underlying 22 = some (.slice 3) := by kernel_rfl
theorem zy3 : Tryz.prog.cellsOf 3 = 1 := by kernel_rfl
theorem in_ints {d : Nat} {us : List AV} (h : Good Tryz.prog (d + 2) 22 us) : ∃ l : List Int, us = [.vs 1 (l.map I)] ∧ l.length ≤ 9223372036854775807 :=
  good_slice (f := I) (e := 3) (sz := 1) uy22 zy3 (fun cs hc => by obtain ⟨n, hn⟩ := good_int uy3 hc; exact ⟨n, mk_int uy3 hn⟩) h
end Go.Sas
