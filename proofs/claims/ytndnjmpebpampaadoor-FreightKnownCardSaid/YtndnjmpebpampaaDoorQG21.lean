/-
The examples of the chapter on freight hold.
Conditions: none.
-/
import Derived.Test.YtndnjmpebpampaaDoorQG20
import Derived.Test.YtndnjmpebpampaaDoorQG1
set_option linter.unusedVariables false
set_option linter.unusedSimpArgs false
namespace Go.Sas
open Go.Proofs
set_option maxRecDepth 100000
abbrev seaF : Frt := ⟨(1, 2), (4, 5), [(2, 3), (2, 3), (2, 3), (2, 3), (2, 3), (2, 3), (2, 3)], [⟨4, 3, 5, 20⟩, ⟨5, 5, 1, 10⟩]⟩
abbrev bestF : AV := .tup [.vs 1 [AV.lit (.int .i64 0), AV.lit (.int .i64 1)], AV.lit (.int .i64 30), AV.lit (.int .i64 0)]
def isI (n : Int) : AV → Bool
  | .lit (.int .i64 m) => n == m
  | _ => false
def areI : List Int → List AV → Bool
  | [], [] => true
  | n :: ns, a :: r => isI n a && areI ns r
  | _, _ => false
def aggI (ns : List Int) : AV → Bool
  | .agg cs => areI ns cs
  | _ => false
def allV (nss : List (List Int)) : List AV → Bool := match nss with
  | [] => fun | [] => true | _ => false
  | ns :: r => fun | a :: b => aggI ns a && allV r b | _ => false
def isSea : AV → Bool
  | .agg [a, b, c, d, .vs 2 xs, .vs 4 ys] => areI [1, 2, 4, 5] [a, b, c, d] && (allV [[2, 3], [2, 3], [2, 3], [2, 3], [2, 3], [2, 3], [2, 3]] xs && allV [[4, 3, 5, 20], [5, 5, 1, 10]] ys)
  | _ => false
theorem isI_eq {n : Int} {a : AV} (h : isI n a = true) : a = I n := by
  unfold isI at h
  split at h
  · simp at h; subst h; rfl
  · cases h
theorem areI_eq : ∀ {ns : List Int} {l : List AV}, areI ns l = true → l = ns.map I
  | [], [], _ => rfl
  | [], _ :: _, h => by simp [areI] at h
  | _ :: _, [], h => by simp [areI] at h
  | n :: ns, a :: r, h => by
    simp only [areI, Bool.and_eq_true] at h
    rw [isI_eq h.1, areI_eq h.2]; rfl
theorem aggI_eq {ns : List Int} {a : AV} (h : aggI ns a = true) : a = .agg (ns.map I) := by
  unfold aggI at h
  split at h
  · rw [areI_eq h]
  · cases h
theorem allV_eq : ∀ {nss : List (List Int)} {l : List AV}, allV nss l = true → l = nss.map fun ns => .agg (ns.map I)
  | [], [], _ => rfl
  | [], _ :: _, h => by simp [allV] at h
  | _ :: _, [], h => by simp [allV] at h
  | n :: ns, a :: r, h => by
    simp only [allV, Bool.and_eq_true] at h
    rw [aggI_eq h.1, allV_eq h.2]; rfl
theorem isSea_eq {a : AV} (h : isSea a = true) : a = frV 1 2 4 5 (.vs 2 (seaF.caps.map sp)) (.vs 4 (seaF.ords.map orV)) := by
  unfold isSea at h
  split at h
  · simp only [Bool.and_eq_true] at h
    have h1 := areI_eq h.1
    simp only [List.map_cons, List.map_nil, List.cons.injEq, and_true] at h1
    obtain ⟨rfl, rfl, rfl, rfl⟩ := h1
    rw [allV_eq h.2.1, allV_eq h.2.2]; rfl
  · cases h
theorem bestSea : bestS seaF = ([0, 1], 30, 0) := by kernel_rfl
def ftF2 : FTab := [(18, fun args => match args with
  | [a] => if isSea a then some bestF else none
  | _ => none)]
theorem ftF2_ok : FTabOk Tryd.prog ftF2 := by
  refine .cons (fun args r hr H Kk hk => ?_) .nil
  split at hr
  · rename_i a
    split at hr
    · rename_i hs
      cases hr
      rw [isSea_eq hs]
      refine p18 1 2 4 5 seaF.caps seaF.ords (by decide) (by decide) H ?_
      rw [show (⟨(1, 2), (4, 5), seaF.caps, seaF.ords⟩ : Frt) = seaF from rfl, bestSea]
      exact hk
    · cases hr
  · cases hr
theorem awakeF : runK ctF ftF2 100000 5 [] = some (.lit (.bool true)) := isTrueK_spec (by kernel_rfl)
theorem p5 (H : AHeap) {Kk : AV → AHeap → Prop} (h : Kk (B true) H) : ACalls Tryd.prog 5 [] H Kk :=
  liftP (runK_calls ctF_ok ftF2_ok awakeF) rfl rfl H h
end Go.Sas
