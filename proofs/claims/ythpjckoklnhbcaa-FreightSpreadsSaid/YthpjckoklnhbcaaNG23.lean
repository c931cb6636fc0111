/-
Freight: the law FreightChecks: its core.
Conditions: none.
-/
import Derived.Test.YthpjckoklnhbcaaZ13
import Derived.Test.YthpjckoklnhbcaaZ7
import Derived.Test.YthpjckoklnhbcaaZ12
import Derived.Test.YthpjckoklnhbcaaNFL3
set_option linter.unusedVariables false
set_option linter.unusedSimpArgs false
namespace Go.Sas
open Go.Proofs
set_option maxRecDepth 100000
def eBigF : List AV → Option ((AV → Prop) → Prop)
  | [.agg [.lit (.int .i64 _), .lit (.int .i64 _), .lit (.int .i64 _), .lit (.int .i64 _), .vs 2 xs, .vs 4 ys]] =>
    some fun K => ∃ (cs : List (Int × Int)) (os : List Ord), xs = cs.map sp ∧ ys = os.map orV ∧ ∀ q, q = bigF cs.length os.length → K (B q)
  | _ => none
theorem eBigF_ok : ∀ args pt, eBigF args = some pt → ∀ (H : AHeap) (Kk : AV → AHeap → Prop), pt (fun r => Kk r H) → ACalls Try.prog 16 args H Kk := by
  intro args pt h H Kk hk
  unfold eBigF at h
  split at h
  · cases h
    obtain ⟨cs, os, rfl, rfl, h3⟩ := hk
    exact p16 _ _ _ _ _ _ H (h3 _ rfl)
  · cases h
def eAwake : List AV → Option ((AV → Prop) → Prop)
  | [] => some fun K => K (B true)
  | _ => none
theorem eAwake_ok : ∀ args pt, eAwake args = some pt → ∀ (H : AHeap) (Kk : AV → AHeap → Prop), pt (fun r => Kk r H) → ACalls Try.prog 17 args H Kk := by
  intro args pt h H Kk hk
  unfold eAwake at h
  split at h
  · cases h; exact p17 H hk
  · cases h
theorem bigF_no {n k : Nat} (h : bigF n k = false) : n ≤ 1000000 ∧ k ≤ 1000000 := by
  unfold bigF at h
  simp only [decide_eq_false_iff_not] at h
  omega
theorem core3 (a b c d : Int) (cs : List (Int × Int)) (os : List Ord) (hc : cs.length ≤ 9223372036854775807) (ho : os.length ≤ 9223372036854775807) :
    ACalls Try.prog 3 [frV a b c d (.vs 2 (cs.map sp)) (.vs 4 (os.map orV))] [] fun r _ => r = .lit (.bool true) := by
  obtain ⟨Kk, hKk⟩ : ∃ K : AV → AHeap → Prop, K = fun r _ => r = .lit (.bool true) := ⟨_, rfl⟩
  rw [← hKk]
  have h : ∀ H, Kk (B true) H := fun H => by rw [hKk]
  clear hKk
  obtain ⟨xs, hxs⟩ : ∃ xs, xs = cs.map sp := ⟨_, rfl⟩
  obtain ⟨ys, hys⟩ : ∃ ys, ys = os.map orV := ⟨_, rfl⟩
  rw [← hxs, ← hys]
  obtain ⟨A, hA⟩ : ∃ A, A = std := ⟨_, rfl⟩
  have hee : ∀ x, A.eq x x = true := by subst hA; intro x; simp [std, iEq]
  refine go3 rfl (SGo_run hA ⟨[], [], (16, eBigF) :: (17, eAwake) :: (18, eOwnFr) :: (19, eCheckFr) :: (20, eCheckFr) :: (21, eSameFr) :: [], []⟩ (.cons eBigF_ok (.cons eAwake_ok (.cons eOwnFr_ok (.cons (eCheckFr_ok p19) (.cons (eCheckFr_ok p20) (.cons eSameFr_ok .nil)))))) .nil 200 fun T TD hT hTD => ?_)
  cbv
  refine Exists.intro cs (Exists.intro os (And.intro hxs (And.intro hys ?_)))
  intro q hq; cbv
  split <;> cbv
  · exact h _
  obtain ⟨h1, h2⟩ := bigF_no hq.symm
  refine Exists.intro cs (Exists.intro os (And.intro hxs (And.intro hys (And.intro h1 (And.intro h2 ?_))))); cbv
  refine Exists.intro cs (Exists.intro os (And.intro hxs (And.intro hys (And.intro hc (And.intro ho ?_)))))
  intro q1 hq1; cbv
  refine Exists.intro cs (Exists.intro os (And.intro hxs (And.intro hys (And.intro hc (And.intro ho ?_)))))
  intro q2 hq2; cbv
  have hq12 : A.eq q1 q2 = true := by rw [hq1, hq2]; exact hee _
  split <;> cbv
  · refine Exists.intro cs (Exists.intro os (And.intro rfl (And.intro rfl (And.intro rfl (And.intro rfl (And.intro rfl (And.intro rfl (And.intro hxs (And.intro hys (And.intro h1 (And.intro h2 ?_))))))))))); cbv
    exact h _
  · rename_i hz; exact Bool.noConfusion (hz.symm.trans hq12)
end Go.Sas
