/-
Freight: the next list of the same numbers: contract.
Freight: the reference's best plan: contract.
Freight: what the law FreightSpreads calls: contracts.
Conditions: none.
-/
import Derived.Test.YthpjckoklnhbcaaHF
import Derived.Test.YthpjckoklnhbcaaHI
import Derived.Test.YthpjckoklnhbcaaHD
import Derived.Test.YthpjckoklnhbcaaHK
import Derived.Test.YthpjckoklnhbcaaH8
set_option linter.unusedVariables false
set_option linter.unusedSimpArgs false
namespace Go.Sas
open Go.Proofs
set_option maxRecDepth 100000
end Go.Sas
namespace Go.Sas
open Go.Proofs
set_option maxRecDepth 100000
def hF (j k : Nat) : Int := if k < j then iLen k else 0
theorem nidL_natI (l : List Nat) : AV.nidL (l.map natI) = true := by
  induction l with
  | nil => rfl
  | cons x l ih => simpa [AV.nidL, AV.nid] using ih
end Go.Sas
namespace Go.Sas
open Go.Proofs
set_option maxRecDepth 100000
theorem p37 (l : List Int) (hc : l.length ≤ 1000000) (H : AHeap) {Kk : AV → AHeap → Prop} (h : Kk (.vs 1 (l.map I)) H) : ACalls Try.prog 37 [.vs 1 (l.map I)] H Kk := by
  refine (fun q => pureC (by rfl) (by rfl) q H h) ?_
  clear h
  intro Kk h
  have hfz : fzS 1 1 8 (l.map I) := ⟨rfl, by simp; omega, elemsOk_map (g := fun x => [I x]) (fun _ => rfl) (fun _ => rfl) (fun _ => rfl) l⟩
  obtain ⟨xs, hxs⟩ : ∃ xs, xs = l.map I := ⟨_, rfl⟩
  rw [← hxs] at hfz h ⊢
  obtain ⟨A, hA⟩ : ∃ A, A = std := ⟨_, rfl⟩
  have hfz : A.fz 1 1 8 xs := by subst hA; exact hfz
  refine go37 rfl (SGo_run hA ⟨[], [], [], []⟩ .nil .nil 200 fun T TD hT hTD => ?_)
  cbv
  refine And.intro hfz ?_
  exact h
def eOwnI : List AV → Option ((AV → Prop) → Prop)
  | [.vs 1 xs] => some fun K => ∃ l : List Int, (xs = l.map I ∧ l.length ≤ 1000000) ∧ K (.vs 1 xs)
  | _ => none
theorem eOwnI_ok : ∀ args pt, eOwnI args = some pt → ∀ (H : AHeap) (Kk : AV → AHeap → Prop), pt (fun r => Kk r H) → ACalls Try.prog 37 args H Kk := by
  intro args pt h H Kk hk
  unfold eOwnI at h
  split at h
  · cases h
    obtain ⟨l, ⟨rfl, h1⟩, h2⟩ := hk
    exact p37 _ h1 H h2
  · cases h
def eSameI2 : List AV → Option ((AV → Prop) → Prop)
  | [.vs 1 xs, .vs 1 ys] => some fun K => ∃ l : List Int, (xs = l.map I ∧ ys = l.map I ∧ l.length ≤ 9223372036854775807) ∧ K (B true)
  | _ => none
theorem eSameI2_ok : ∀ args pt, eSameI2 args = some pt → ∀ (H : AHeap) (Kk : AV → AHeap → Prop), pt (fun r => Kk r H) → ACalls Try.prog 28 args H Kk := by
  intro args pt h H Kk hk
  unfold eSameI2 at h
  split at h
  · cases h
    obtain ⟨l, ⟨rfl, rfl, h1⟩, h3⟩ := hk
    exact p28 _ _ h1 h1 H (by simpa using h3)
  · cases h
end Go.Sas
