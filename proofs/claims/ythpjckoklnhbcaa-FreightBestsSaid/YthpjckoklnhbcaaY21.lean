/-
The code of some functions with its types resolved, printed by a program; that it is the code is checked by the kernel.
Freight: the law FreightChecks: its core.
Conditions: none.
-/
import Derived.Test.YthpjckoklnhbcaaZ4
import Derived.Test.YthpjckoklnhbcaaProg
import Derived.Test.YthpjckoklnhbcaaY13
import Derived.Test.YthpjckoklnhbcaaY7
import Derived.Test.YthpjckoklnhbcaaY12
set_option linter.unusedVariables false
set_option linter.unusedSimpArgs false
namespace Go.Sas
open Go.Proofs
set_option maxRecDepth 100000
/-- sastrugi/sastrugilaw08.FreightChecks -/
def c3 : ACode :=
  (.seq
(.reg [
  ⟨(some (true, 1)), .box (.g 0), none⟩,
  ⟨(some (true, 2)), .mv (.c (.lit (.bool false))), none⟩])
(.seq
(.seq
(.reg [
  ⟨(some (false, 4)), .ld (some 6) (.g 1), none⟩,
  ⟨(some (true, 5)), .call (.c (.fn 16 [])) [.l 4], none⟩])
(.cond (.g 5)
(.seq
(.reg [
  ⟨(some (false, 6)), .call (.c (.fn 17 [])) [], none⟩,
  ⟨(some (true, 2)), .mv (.l 6), none⟩])
.ret)
.skip))
(.seq
(.reg [
  ⟨(some (false, 7)), .ld (some 6) (.g 1), none⟩,
  ⟨(some (false, 8)), .call (.c (.fn 18 [])) [.l 7], none⟩,
  ⟨(some (true, 3)), .new [.int .i64 0, .int .i64 0, .int .i64 0, .int .i64 0, .slice none 0 0, .slice none 0 0], none⟩,
  ⟨none, .st 6 (.g 3) (.l 8), none⟩])
(.seq
(.draw [
  ⟨⟨(some (false, 9)), .ld (some 6) (.g 3), none⟩, 0, true, []⟩,
  ⟨⟨(some (false, 11)), .ld (some 6) (.g 1), none⟩, 2, true, []⟩,
  ⟨⟨(some (false, 10)), .call (.c (.fn 19 [])) [.l 9], none⟩, 1, false, []⟩,
  ⟨⟨(some (false, 12)), .call (.c (.fn 20 [])) [.l 11], none⟩, 3, false, []⟩,
  ⟨⟨(some (false, 13)), .bin .eql (.l 10) (.l 12), none⟩, 4, true, []⟩,
  ⟨⟨(some (false, 14)), .mv (.l 13), none⟩, 5, true, []⟩,
  ⟨⟨(some (false, 15)), .ld (some 6) (.g 3), (some (.l 14, true))⟩, 6, true, []⟩,
  ⟨⟨(some (false, 16)), .ld (some 6) (.g 1), (some (.l 14, true))⟩, 7, true, []⟩,
  ⟨⟨(some (false, 17)), .call (.c (.fn 21 [])) [.l 15, .l 16], (some (.l 14, true))⟩, 8, false, []⟩,
  ⟨⟨(some (false, 18)), .pick (.l 14) (.l 17) (.c (.lit (.bool false))), none⟩, 9, true, []⟩,
  ⟨⟨(some (false, 19)), .mv (.l 18), none⟩, 10, true, []⟩,
  ⟨⟨(some (false, 20)), .call (.c (.fn 17 [])) [], (some (.l 19, true))⟩, 11, false, []⟩,
  ⟨⟨(some (false, 21)), .pick (.l 19) (.l 20) (.c (.lit (.bool false))), none⟩, 12, true, []⟩,
  ⟨⟨(some (true, 2)), .mv (.l 21), none⟩, 13, true, []⟩])
.ret))))
def K3 : List Nat := [0, 5, 2, 1, 3]
noncomputable def b3 : Code := match Try.f3.body with | some c => c | none => .skip
theorem t3 : trCode ⟨Try.prog, K3, [], 22, none⟩ b3 = some c3 := by kernel_rfl
theorem go3 {args : List AV} {H : AHeap} {Kk : AV → AHeap → Prop} (hn : args.length = 1) (h : AGo ⟨Try.prog, K3, [], 22, none⟩ H.length [.code c3] (RetP [.t (.g 2)] H.length Kk) ⟨[], argsG 0 args⟩ H) : ACalls Try.prog 3 args H Kk :=
  ACalls_of Try.func3 (c := b3) rfl (by kernel_rfl) t3 (rs := [.t (.g 2)]) (by kernel_rfl) (by rw [hn]; exact Nat.le_of_ble_eq_true rfl) (by rw [hn]; rfl) (h.weaken (fun _ _ => RetP.hands) (by simp))

end Go.Sas
namespace Go.Sas
open Go.Proofs
set_option maxRecDepth 100000
def eBigF : List AV → Option ((AV → Prop) → Prop)
  | [.agg [.lit (.int .i64 _), .lit (.int .i64 _), .lit (.int .i64 _), .lit (.int .i64 _), .vs 2 xs, .vs 4 ys]] =>
    some fun K => ∃ (cs : List (Int × Int)) (os : List Ord), xs = cs.map sp ∧ ys = os.map orV ∧ ∀ q, q = bigF cs.length os.length → K (B q)
  | _ => none
theorem eBigF_ok : ∀ args pt, eBigF args = some pt → ∀ (H : AHeap) (Kk : AV → AHeap → Prop), pt (fun r => Kk r H) → ACalls Try.prog 16 args H Kk := by
  intro args pt h H Kk hk
  unfold eBigF at h
  split at h
  · cases h
    obtain ⟨cs, os, rfl, rfl, h3⟩ := hk
    exact p16 _ _ _ _ _ _ H (h3 _ rfl)
  · cases h
def eAwake : List AV → Option ((AV → Prop) → Prop)
  | [] => some fun K => K (B true)
  | _ => none
theorem eAwake_ok : ∀ args pt, eAwake args = some pt → ∀ (H : AHeap) (Kk : AV → AHeap → Prop), pt (fun r => Kk r H) → ACalls Try.prog 17 args H Kk := by
  intro args pt h H Kk hk
  unfold eAwake at h
  split at h
  · cases h; exact p17 H hk
  · cases h
theorem bigF_no {n k : Nat} (h : bigF n k = false) : n ≤ 1000000 ∧ k ≤ 1000000 := by
  unfold bigF at h
  simp only [decide_eq_false_iff_not] at h
  omega
theorem core3 (a b c d : Int) (cs : List (Int × Int)) (os : List Ord) (hc : cs.length ≤ 9223372036854775807) (ho : os.length ≤ 9223372036854775807) :
    ACalls Try.prog 3 [frV a b c d (.vs 2 (cs.map sp)) (.vs 4 (os.map orV))] [] fun r _ => r = .lit (.bool true) := by
  obtain ⟨Kk, hKk⟩ : ∃ K : AV → AHeap → Prop, K = fun r _ => r = .lit (.bool true) := ⟨_, rfl⟩
  rw [← hKk]
  have h : ∀ H, Kk (B true) H := fun H => by rw [hKk]
  clear hKk
  obtain ⟨xs, hxs⟩ : ∃ xs, xs = cs.map sp := ⟨_, rfl⟩
  obtain ⟨ys, hys⟩ : ∃ ys, ys = os.map orV := ⟨_, rfl⟩
  rw [← hxs, ← hys]
  obtain ⟨A, hA⟩ : ∃ A, A = std := ⟨_, rfl⟩
  have hee : ∀ x, A.eq x x = true := by subst hA; intro x; simp [std, iEq]
  refine go3 rfl (SGo_run hA ⟨[], [], (16, eBigF) :: (17, eAwake) :: (18, eOwnFr) :: (19, eCheckFr) :: (20, eCheckFr) :: (21, eSameFr) :: [], []⟩ (.cons eBigF_ok (.cons eAwake_ok (.cons eOwnFr_ok (.cons (eCheckFr_ok p19) (.cons (eCheckFr_ok p20) (.cons eSameFr_ok .nil)))))) .nil 200 fun T TD hT hTD => ?_)
  cbv
  refine Exists.intro cs (Exists.intro os (And.intro hxs (And.intro hys ?_)))
  intro q hq; cbv
  split <;> cbv
  · exact h _
  obtain ⟨h1, h2⟩ := bigF_no hq.symm
  refine Exists.intro cs (Exists.intro os (And.intro hxs (And.intro hys (And.intro h1 (And.intro h2 ?_))))); cbv
  refine Exists.intro cs (Exists.intro os (And.intro hxs (And.intro hys (And.intro hc (And.intro ho ?_)))))
  intro q1 hq1; cbv
  refine Exists.intro cs (Exists.intro os (And.intro hxs (And.intro hys (And.intro hc (And.intro ho ?_)))))
  intro q2 hq2; cbv
  have hq12 : A.eq q1 q2 = true := by rw [hq1, hq2]; exact hee _
  split <;> cbv
  · refine Exists.intro cs (Exists.intro os (And.intro rfl (And.intro rfl (And.intro rfl (And.intro rfl (And.intro rfl (And.intro rfl (And.intro hxs (And.intro hys (And.intro h1 (And.intro h2 ?_))))))))))); cbv
    exact h _
  · rename_i hz; exact Bool.noConfusion (hz.symm.trans hq12)
end Go.Sas
