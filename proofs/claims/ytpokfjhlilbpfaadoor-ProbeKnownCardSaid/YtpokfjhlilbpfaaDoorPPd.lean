/-
Probe: courses made of numbers: contract.
Probe: looks made of numbers: contract.
Probe: surveys, courses and looks made of numbers, together: contract.
Probe: small contracts for statements: seeds, Has, In, Least.
Conditions: none.
-/
import Derived.Test.YtpokfjhlilbpfaaDoorPLd
import Derived.Test.YtpokfjhlilbpfaaDoorPOd
import Derived.Test.YtpokfjhlilbpfaaDoorP8d
import Derived.Test.YtpokfjhlilbpfaaDoorPCd
set_option linter.unusedVariables false
set_option linter.unusedSimpArgs false
namespace Go.Sas
open Go.Proofs
set_option maxRecDepth 100000
end Go.Sas
namespace Go.Sas
open Go.Proofs
set_option maxRecDepth 100000
end Go.Sas
namespace Go.Sas
open Go.Proofs
set_option maxRecDepth 100000
theorem SvD.road {m : Int} {rs : List Rch} {a b c : Int} (h : SvD m rs a b c) (hm : m ≤ 1000) : RoadOk rs := ⟨h.n1, by have := h.n2; omega, fun r hr => by
  obtain ⟨h1, h2, h3, h4, h5⟩ := h.all r hr
  have h6 := h.le
  have : r.lg ≤ sumLg rs := by
    clear h6
    have hall := h.all
    clear h
    induction rs with
    | nil => simp at hr
    | cons x rs ih =>
      have hx := (hall x (by simp)).1
      have hn : 0 ≤ sumLg rs := sumLg_nonneg fun y hy => by have := (hall y (by simp [hy])).1; omega
      simp only [sumLg]
      rcases List.mem_cons.1 hr with rfl | hr
      · omega
      · have := ih hr (fun y hy => hall y (by simp [hy])); omega
  exact ⟨by omega, by omega, by omega, by omega, by omega⟩, by have := h.le; omega⟩
/-- a survey, a course of six hours from the hour 3 on, and looks that it fits -/
structure MadeD (places looks : Int) (rs : List Rch) (a b c : Int) (T : Nat → Nat → Int) (l : List Lk) : Prop where
  sv : SvD places rs a b c
  crs : CrsOk (plc rs) T 6
  len : (l.length : Int) ≤ looks
  fit : ∀ x ∈ l, LkFit (plc rs) T 3 6 x
end Go.Sas
namespace Go.Sas
open Go.Proofs
set_option maxRecDepth 100000
end Go.Sas
