/-
Radar files: which tracks are valid; their looks (plain).
Conditions: none.
-/
import Derived.Test.YtpokfjhlilbpfaaGreatDoorXAg
import Derived.Test.YtpokfjhlilbpfaaGreatDoorPMg
set_option linter.unusedVariables false
set_option linter.unusedSimpArgs false
namespace Go.Sas
/-- the first error of an echo -/
def echE (e : Ech) : Int := if (0 ≤ e.p ∧ e.p ≤ 999) ∧ (0 ≤ e.h ∧ e.h ≤ 10000) ∧ (0 ≤ e.lo ∧ e.lo ≤ 1000000) ∧ (0 ≤ e.hi ∧ e.hi ≤ 1000000) then (if e.lo ≤ e.hi then 0 else 11) else 2
def checkT (t : Trk) : Int :=
  if ¬ ((1 ≤ t.sp.1 ∧ t.sp.1 ≤ 1000) ∧ (1 ≤ t.sp.2 ∧ t.sp.2 ≤ 1000)) then 2
  else if t.sp.2 < t.sp.1 then 11
  else if 200 < t.ec.length then 8
  else firstE echE t.ec
structure TrkV (t : Trk) : Prop where
  s1 : 1 ≤ t.sp.1 ∧ t.sp.1 ≤ 1000
  s2 : 1 ≤ t.sp.2 ∧ t.sp.2 ≤ 1000
  so : t.sp.1 ≤ t.sp.2
  len : t.ec.length ≤ 200
  all : ∀ e ∈ t.ec, (0 ≤ e.p ∧ e.p ≤ 999) ∧ (0 ≤ e.h ∧ e.h ≤ 10000) ∧ (0 ≤ e.lo ∧ e.lo ≤ 1000000) ∧ (0 ≤ e.hi ∧ e.hi ≤ 1000000) ∧ e.lo ≤ e.hi
theorem echE_ok {e : Ech} (h : echE e = 0) : (0 ≤ e.p ∧ e.p ≤ 999) ∧ (0 ≤ e.h ∧ e.h ≤ 10000) ∧ (0 ≤ e.lo ∧ e.lo ≤ 1000000) ∧ (0 ≤ e.hi ∧ e.hi ≤ 1000000) ∧ e.lo ≤ e.hi := by
  unfold echE at h
  split at h
  · split at h
    · rename_i h1 h2; exact ⟨h1.1, h1.2.1, h1.2.2.1, h1.2.2.2, h2⟩
    · exact absurd h (by decide)
  · exact absurd h (by decide)
theorem echE_of {e : Ech} (h : (0 ≤ e.p ∧ e.p ≤ 999) ∧ (0 ≤ e.h ∧ e.h ≤ 10000) ∧ (0 ≤ e.lo ∧ e.lo ≤ 1000000) ∧ (0 ≤ e.hi ∧ e.hi ≤ 1000000) ∧ e.lo ≤ e.hi) : echE e = 0 := by
  unfold echE; rw [if_pos ⟨h.1, h.2.1, h.2.2.1, h.2.2.2.1⟩, if_pos h.2.2.2.2]
theorem checkT_ok {t : Trk} (h : checkT t = 0) : TrkV t := by
  unfold checkT at h
  split at h
  · exact absurd h (by decide)
  rename_i h1
  split at h
  · exact absurd h (by decide)
  rename_i h2
  split at h
  · exact absurd h (by decide)
  rename_i h3
  have h1 := Decidable.not_not.1 h1
  exact ⟨h1.1, h1.2, by omega, by omega, fun e he => echE_ok (firstE_zero h e he)⟩
theorem checkT_of {t : Trk} (h : TrkV t) : checkT t = 0 := by
  have h1 := h.so
  have h2 := h.len
  unfold checkT
  rw [if_neg (Decidable.not_not.2 ⟨h.s1, h.s2⟩), if_neg (by omega), if_neg (by omega)]
  exact firstE_all fun e he => echE_of (h.all e he)
/-- what a valid track holds are numbers that a file can hold -/
theorem TrkV.num {t : Trk} (h : TrkV t) : TrkN t := by
  have h1 := h.s1
  have h2 := h.s2
  refine ⟨⟨by omega, by omega⟩, ⟨by omega, by omega⟩, fun e he => ?_⟩
  have := h.all e he
  exact ⟨⟨by omega, by omega⟩, ⟨by omega, by omega⟩, ⟨by omega, by omega⟩, by omega, by omega⟩
def readK (text : List UInt8) : Trk × Int × Int := readT 5 3 checkT 20000 text
/-! ### Looks -/
def echL (sp : Int × Int) (e : Ech) : Lk := ⟨3, e.p, e.h, min (sp.1 * e.lo / 2000) 3000, min ((sp.2 * e.hi + 1999) / 2000) 3000⟩
def looksK (t : Trk) : List Lk := if checkT t = 0 then t.ec.map (echL t.sp) else []
end Go.Sas
