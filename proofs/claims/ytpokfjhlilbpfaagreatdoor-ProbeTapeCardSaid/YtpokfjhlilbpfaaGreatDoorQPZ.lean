/-
What comes in, by the types of the laws on radar files.
Conditions: none.
-/
import Derived.Test.YtpokfjhlilbpfaaGreatDoorQPW3
import Derived.Test.YtpokfjhlilbpfaaGreatDoorP5g
import Derived.Test.YtpokfjhlilbpfaaGreatDoorProg
import Derived.Test.YtpokfjhlilbpfaaGreatDoorQSX1
set_option linter.unusedVariables false
set_option linter.unusedSimpArgs false
namespace Go.Sas
open Go.Proofs
set_option maxRecDepth 100000
theorem good_int {P : Program} {d : Nat} {t : TypeId} {us : List AV} (hu : P.underlying t = some (.int .i64)) (h : Good P (d + 1) t us) : ∃ n, us = [I n] := by
  simp only [Good, hu] at h
  obtain ⟨n, h1, _⟩ := h
  exact ⟨n, h1⟩
theorem good_str {P : Program} {d : Nat} {t : TypeId} {us : List AV} (hu : P.underlying t = some .string) (h : Good P (d + 1) t us) : ∃ s : ByteArray, us = [.lit (.string s)] := by
  simp only [Good, hu] at h
  obtain ⟨n, h1, _⟩ := h
  exact ⟨n, h1⟩
theorem good_slice {α : Type} {f : α → AV} {P : Program} {d : Nat} {t e : TypeId} {sz : Nat} {us : List AV} (hu : P.underlying t = some (.slice e)) (hsz : P.cellsOf e = sz) (hf : ∀ cs, Good P d e cs → ∃ x, mkE P e cs = f x) (h : Good P (d + 1) t us) :
    ∃ l : List α, us = [.vs sz (l.map f)] ∧ l.length ≤ 9223372036854775807 := by
  simp only [Good, hu] at h
  obtain ⟨css, h1, h2, h3⟩ := h
  have key : ∀ css : List (List AV), (∀ cs ∈ css, Good P d e cs) → ∃ l : List α, css.map (mkE P e) = l.map f ∧ l.length = css.length := by
    intro css
    induction css with
    | nil => exact fun _ => ⟨[], rfl, rfl⟩
    | cons c css ih =>
      intro hg
      obtain ⟨x, hx⟩ := hf c (hg c (by simp))
      obtain ⟨l, hl, hn⟩ := ih fun cs hc => hg cs (by simp [hc])
      exact ⟨x :: l, by simp [hx, hl], by simp [hn]⟩
  obtain ⟨l, hl, hn⟩ := key css h3
  refine ⟨l, by rw [h1, hsz, hl], ?_⟩
  rw [hn]
  have : maxLen = 9223372036854775807 := by decide
  omega
theorem mk_int {cs : List AV} {n : Int} {P : Program} {t : TypeId} (hu : P.underlying t = some (.int .i64)) (h : cs = [I n]) : mkE P t cs = I n := by simp [mkE, hu, h]
theorem mk_slice {P : Program} {t e : TypeId} {a : AV} (hu : P.underlying t = some (.slice e)) : mkE P t [a] = a := by simp [mkE, hu]
theorem mk_str {P : Program} {t : TypeId} {a : AV} (hu : P.underlying t = some .string) : mkE P t [a] = a := by simp [mkE, hu]
theorem zy3 : Tryz.prog.underlying 3 = some (.int .i64) := by kernel_rfl
theorem zy9 : Tryz.prog.underlying 9 = some .string := by kernel_rfl
theorem zy22 : Tryz.prog.underlying 22 = some (.slice 3) := by kernel_rfl
theorem cz3 : Tryz.prog.cellsOf 3 = 1 := by kernel_rfl
theorem in_ints {d : Nat} {us : List AV} (h : Good Tryz.prog (d + 2) 22 us) : ∃ l : List Int, us = [.vs 1 (l.map I)] ∧ l.length ≤ 9223372036854775807 :=
  good_slice (f := I) zy22 cz3 (fun cs hc => by
    obtain ⟨n, hn⟩ := good_int zy3 hc
    exact ⟨n, mk_int zy3 hn⟩) h
theorem in_str {d : Nat} {us : List AV} (h : Good Tryz.prog (d + 1) 9 us) : ∃ s : ByteArray, us = [.lit (.string s)] := good_str zy9 h
theorem ints_e64 (l : List Int) : (l.map I).all AV.e64 = true := by
  rw [List.all_eq_true]
  intro a ha
  obtain ⟨n, _, rfl⟩ := List.mem_map.1 ha
  rfl
end Go.Sas
