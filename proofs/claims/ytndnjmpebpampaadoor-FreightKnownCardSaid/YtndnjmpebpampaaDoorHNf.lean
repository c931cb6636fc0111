/-
Freight: the reference's bound: contract.
Freight: orders with the greatest keys first: contracts.
Conditions: none.
-/
import Derived.Test.YtndnjmpebpampaaDoorHMf
import Derived.Test.YtndnjmpebpampaaDoorP8f
import Derived.Test.YtndnjmpebpampaaDoorHXf
import Derived.Test.YtndnjmpebpampaaDoorHIf
set_option linter.unusedVariables false
set_option linter.unusedSimpArgs false
namespace Go.Sas
open Go.Proofs
set_option maxRecDepth 100000
theorem getS_I {l : List Int} {i : Nat} {x : Int} (h : l[i]? = some x) : getS none (l.map I) i (I x) := by simp [getS, getN, h]
theorem updS_I {l : List Int} {i : Nat} {x : Int} (h : i < l.length) : updS 1 (l.map I) i [I x] ((l.set i x).map I) := by
  refine ⟨rfl, by simp; omega, ?_⟩
  rw [List.set_eq_take_append_cons_drop, if_pos h]
  simp [List.map_append, List.map_take, List.map_drop]
end Go.Sas
namespace Go.Sas
open Go.Proofs
set_option maxRecDepth 100000
section
variable {α : Type} {g : α → List AV} {sz : Nat}
end
theorem p68 (n : Int) (H : AHeap) {Kk : AV → AHeap → Prop} (h : Kk (B false) H) : ACalls Tryd.prog 68 [I n] H Kk := by
  refine (fun q => pureC (by rfl) (by rfl) q H h) ?_
  clear h
  intro Kk h
  obtain ⟨A, hA⟩ : ∃ A, A = std := ⟨_, rfl⟩
  have hnx : A.ne n n = false := by subst hA; simp [std, iNe]
  refine go68 rfl (SGo_run hA ⟨[], [], [], []⟩ .nil .nil 200 fun T TD hT hTD => ?_)
  cbv
  exact leaf h (congrArg B hnx.symm) rfl
def eIsNaN : List AV → Option ((AV → Prop) → Prop)
  | [.lit (.int .i64 _)] => some fun K => K (B false)
  | _ => none
theorem eIsNaN_ok : ∀ args pt, eIsNaN args = some pt → ∀ (H : AHeap) (Kk : AV → AHeap → Prop), pt (fun r => Kk r H) → ACalls Tryd.prog 68 args H Kk := by
  intro args pt h H Kk hk
  unfold eIsNaN at h
  split at h
  · cases h; exact p68 _ H hk
  · cases h
def cmpI (a b : Int) : Int := if a < b then -1 else if b < a then 1 else 0
theorem p58 (x y : Int) (H : AHeap) {Kk : AV → AHeap → Prop} (h : Kk (I (cmpI x y)) H) : ACalls Tryd.prog 58 [I x, I y] H Kk := by
  refine (fun q => pureC (by rfl) (by rfl) q H h) ?_
  clear h
  intro Kk h
  obtain ⟨W, hW⟩ : ∃ W, W = cmpI x y := ⟨_, rfl⟩
  rw [← hW] at h
  unfold cmpI at hW
  obtain ⟨A, hA⟩ : ∃ A, A = std := ⟨_, rfl⟩
  have hl1 : A.lt x y = decide (x < y) := by subst hA; rfl
  have hl2 : A.lt y x = decide (y < x) := by subst hA; rfl
  refine go58 rfl (SGo_run hA ⟨[], [], (68, eIsNaN) :: [], []⟩ (.cons eIsNaN_ok .nil) .nil 200 fun T TD hT hTD => ?_)
  cbv
  split <;> cbv
  · rename_i hz
    have hz := hl1.symm.trans hz
    exact leaf h (congrArg I (by rw [hW, if_pos (by simpa using hz)])) rfl
  rename_i hz
  have hz := hl1.symm.trans hz
  split <;> cbv
  · rename_i hz2
    have hz2 := hl2.symm.trans hz2
    exact leaf h (congrArg I (by rw [hW, if_neg (by simpa using hz), if_pos (by simpa using hz2)])) rfl
  · rename_i hz2
    have hz2 := hl2.symm.trans hz2
    exact leaf h (congrArg I (by rw [hW, if_neg (by simpa using hz), if_neg (by simpa using hz2)])) rfl
def eCmp : List AV → Option ((AV → Prop) → Prop)
  | [.lit (.int .i64 x), .lit (.int .i64 y)] => some fun K => ∀ q, q = cmpI x y → K (I q)
  | _ => none
theorem eCmp_ok : ∀ args pt, eCmp args = some pt → ∀ (H : AHeap) (Kk : AV → AHeap → Prop), pt (fun r => Kk r H) → ACalls Tryd.prog 58 args H Kk := by
  intro args pt h H Kk hk
  unfold eCmp at h
  split at h
  · cases h; exact p58 _ _ H (hk _ rfl)
  · cases h
end Go.Sas
