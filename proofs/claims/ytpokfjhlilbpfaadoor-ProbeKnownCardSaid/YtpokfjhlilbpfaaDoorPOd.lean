/-
Probe: how much thicker ice may be, along a way; courses.
Probe: what is known, and courses.
Conditions: none.
-/
import Derived.Test.YtpokfjhlilbpfaaDoorPMd
set_option linter.unusedVariables false
set_option linter.unusedSimpArgs false
namespace Go.Sas
theorem riseS_le {R : List Rch} {a b p : Nat} {t : Int} (hp : p < R.length) : riseS R a t b ≤ wayS R a t b p := minN_le (by omega)
theorem riseS_ex {R : List Rch} (h : PlcOk R) (a b : Nat) (t : Int) : ∃ p, p < R.length ∧ riseS R a t b = wayS R a t b p := by
  obtain ⟨p, hp, he⟩ := minN_ex (V := wayS R a t b) (R.length - 1)
  have := h.pos
  exact ⟨p, by omega, he⟩
/-- a course of some hours -/
structure CrsOk (R : List Rch) (T : Nat → Nat → Int) (hours : Nat) : Prop where
  rng : ∀ i p, i < hours → p < R.length → 0 ≤ T i p ∧ T i p ≤ 3000
  lip : ∀ i j p q, i < hours → j < hours → p < R.length → q < R.length → T j q ≤ T i p + riseS R q ((j : Int) - i) p
/-- looks that a course fits -/
def LkFit (R : List Rch) (T : Nat → Nat → Int) (f : Int) (hours : Nat) (x : Lk) : Prop :=
  (1 ≤ x.k ∧ x.k ≤ 3) ∧ ∃ i p : Nat, i < hours ∧ p < R.length ∧ x.p = p ∧ x.h = f + i ∧ 0 ≤ x.lo ∧ x.lo ≤ T i p ∧ T i p ≤ x.hi ∧ x.hi ≤ 3000
theorem LkFit.ok {R : List Rch} {T : Nat → Nat → Int} {f : Int} {hours : Nat} {x : Lk} (h : LkFit R T f hours x) (hf : 0 ≤ f ∧ f ≤ 100) (hn : hours ≤ 100) : LkOk R.length x := by
  obtain ⟨h1, i, p, h2, h3, h4, h5, h6, h7, h8, h9⟩ := h
  exact ⟨h1, by omega, by omega, h6, by omega, h9⟩
theorem LksOk.fits {R : List Rch} {T : Nat → Nat → Int} {f : Int} {hours : Nat} {l : List Lk} (hT : CrsOk R T hours) (hf : 0 ≤ f ∧ f ≤ 100) (hn : hours ≤ 100) (hl : l.length ≤ 200) (h : ∀ x ∈ l, LkFit R T f hours x) : LksOk R l := by
  refine ⟨hl, fun x hx => (h x hx).ok hf hn, fun x hx y hy => ?_⟩
  obtain ⟨_, i, p, h2, h3, h4, h5, h6, h7, h8, h9⟩ := h x hx
  obtain ⟨_, j, q, k2, k3, k4, k5, k6, k7, k8, k9⟩ := h y hy
  have := hT.lip i j p q h2 k2 h3 k3
  rw [h4, h5, k4, k5, show f + (j : Int) - (f + i) = j - i by omega]
  simp only [Int.toNat_natCast]
  omega
end Go.Sas
namespace Go.Sas
end Go.Sas
