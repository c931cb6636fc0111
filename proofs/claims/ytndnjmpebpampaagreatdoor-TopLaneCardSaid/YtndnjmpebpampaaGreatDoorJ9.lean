/-
The law of the verdicts on loads answers true.
What truly is borne, as the laws ask it.
Roads that are drawn whole, and truths of them.
Conditions: none.
-/
import Derived.Test.YtndnjmpebpampaaGreatDoorJ5
import Derived.Test.YtndnjmpebpampaaGreatDoorJ7
import Derived.Test.YtndnjmpebpampaaGreatDoorJ8
set_option linter.unusedVariables false
set_option linter.unusedSimpArgs false
namespace Go.Sas
open Go.Proofs
set_option maxRecDepth 100000
def eSeed : List AV → AHeap → Option PT
  | [x], H => match asVs 1 x with
    | some xs => some fun K => ∃ l : List Int, (xs = l.map I ∧ l.length ≤ 9223372036854775807) ∧ ∀ w, K (.mp H.length 0 0) (H ++ [.own 0 [U w]])
    | none => none
  | _, _ => none
theorem eSeed_ok : ∀ args H pt, eSeed args H = some pt → ∀ (Kk : AV → AHeap → Prop), pt Kk → ACalls Tryz.prog 4 args H Kk := by
  intro args H pt h Kk hk
  unfold eSeed at h
  split at h
  · split at h
    · rename_i xs hx
      cases h
      obtain ⟨l, ⟨rfl, b⟩, h1⟩ := hk
      exact (p4 l b H h1).wk ⟨asVs_wk hx, trivial⟩
    · cases h
  · cases h
def edl : ETab := (4, eSeed) :: (6, eDraw sPlate) :: ed3
theorem edl_ok : ETabOk Tryz.prog edl := .cons eSeed_ok (.cons (eDraw_ok sPlate_ok) ed3_ok)
end Go.Sas
namespace Go.Sas
open Go.Proofs
set_option maxRecDepth 100000
/-- a truth that may be -/
structure TruB (p : Plate) (places : Nat) (l : List Load) (t : Tru) : Prop where
  st : 0 ≤ t.st ∧ t.st ≤ 100000
  il : t.ice.length = places
  ib : ∀ n ∈ t.ice, 0 ≤ n ∧ n ≤ 5000
  cl : t.cr.length ≤ 50
  cb : ∀ n ∈ t.cr, 0 ≤ n ∧ n ≤ 100000
  wl : t.ws.length = l.length
  wb : ∀ n ∈ t.ws, 0 ≤ n ∧ n ≤ 200000
end Go.Sas
namespace Go.Sas
open Go.Proofs
set_option maxRecDepth 100000
theorem firstE_of {α : Type} {f : α → Int} : ∀ {l : List α}, (∀ x ∈ l, f x = 0) → firstE f l = 0
  | [], _ => rfl
  | x :: l, h => by simp only [firstE, h x (by simp)]; simp; exact firstE_of fun y hy => h y (by simp [hy])
theorem faultS_of {a b lo hi : Int} (h : lo ≤ a ∧ a ≤ b ∧ b ≤ hi) : faultS a b lo hi = 0 := by unfold faultS; rw [if_neg (by omega), if_neg (by omega)]
theorem faultsS_of {l : List (Int × Int)} {most high : Int} (hl : (l.length : Int) ≤ most) (h : ∀ x ∈ l, 0 ≤ x.1 ∧ x.1 ≤ x.2 ∧ x.2 ≤ high) : faultsS l most high = 0 := by
  unfold faultsS
  rw [if_neg (by omega)]
  exact firstE_of fun x hx => faultS_of (h x hx)
theorem loadsS_of {l : List Load} {places : Int} (hl : l.length ≤ 30) (h : ∀ x ∈ l, LoadV places x) : loadsS places l = 0 := by
  unfold loadsS
  rw [if_neg (by omega)]
  refine firstE_of fun x hx => ?_
  obtain ⟨h1, h2, h3, h4, h5, h6, h7⟩ := h x hx
  unfold loadE
  rw [if_neg (by omega), if_neg (by simp [faultS_of ⟨h3, h4, h5⟩]), if_neg (by omega)]
theorem roadS_of {p : Plate} {ice cr : List (Int × Int)} (hp : checkS p = 0) (h1 : ice.length ≤ 1000) (h2 : ∀ x ∈ ice, 0 ≤ x.1 ∧ x.1 ≤ x.2 ∧ x.2 ≤ 5000) (h3 : cr.length ≤ 50) (h4 : ∀ x ∈ cr, 0 ≤ x.1 ∧ x.1 ≤ x.2 ∧ x.2 ≤ 100000) : checkAllS p ice cr = 0 := by
  unfold checkAllS
  rw [if_neg (by simp [hp]), faultsS_of (by omega) h2]
  simp
  exact faultsS_of (by omega) h4
/-- a plate with ice, cracks and loads that fit -/
structure MadeV (p : Plate) (ice cr : List (Int × Int)) (l : List Load) : Prop where
  pl : checkS p = 0
  il : 1 ≤ ice.length ∧ ice.length ≤ 4
  ib : ∀ x ∈ ice, 0 ≤ x.1 ∧ x.1 ≤ x.2 ∧ x.2 ≤ 1500
  cl : cr.length ≤ 3
  cb : ∀ x ∈ cr, 0 ≤ x.1 ∧ x.1 ≤ 100 * iLen ice.length - 1 ∧ x.1 ≤ x.2 ∧ x.2 ≤ x.1 + 30
  ll : l.length ≤ 5
  lb : ∀ x ∈ l, LoadV ice.length x
theorem MadeV.all {p : Plate} {ice cr : List (Int × Int)} {l : List Load} (h : MadeV p ice cr l) : checkAllS p ice cr = 0 := by
  obtain ⟨h1, h2, h3, h4, h5, h6, h7⟩ := h
  unfold iLen at h5
  exact roadS_of h1 (by omega) (fun x hx => by have := h3 x hx; omega) (by omega) fun x hx => by have := h5 x hx; omega
theorem MadeV.road {p : Plate} {ice cr : List (Int × Int)} {l : List Load} (h : MadeV p ice cr l) : RoadV p ice cr := checkAllS_ok h.all
theorem MadeV.holds {p : Plate} {ice cr : List (Int × Int)} {l : List Load} (h : MadeV p ice cr l) : holdsS p ice cr l = (l.map (veS p ice cr l), 0) := by
  unfold holdsS
  rw [if_neg (by simp [h.all]), if_neg (by simp [loadsS_of (by have := h.ll; omega) h.lb])]
end Go.Sas
