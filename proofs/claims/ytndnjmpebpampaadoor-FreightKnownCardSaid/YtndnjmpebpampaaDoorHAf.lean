/-
Freight: contracts of the small checks.
Freight: what freights are, and which are valid.
Conditions: none.
-/
import Derived.Test.YtndnjmpebpampaaDoorXFf
import Derived.Test.YtndnjmpebpampaaDoorP7f
set_option linter.unusedVariables false
set_option linter.unusedSimpArgs false
namespace Go.Sas
open Go.Proofs
set_option maxRecDepth 100000
theorem p21 (n a b : Int) (H : AHeap) {Kk : AV → AHeap → Prop} (h : Kk (B (decide (a ≤ n ∧ n ≤ b))) H) : ACalls Tryd.prog 21 [I n, I a, I b] H Kk := by
  refine (fun q => pureC (by rfl) (by rfl) q H h) ?_
  clear h
  intro Kk h
  obtain ⟨A, hA⟩ : ∃ A, A = std := ⟨_, rfl⟩
  refine go21 rfl (SGo_run hA ⟨[], [], [], []⟩ .nil .nil 200 fun T TD hT hTD => ?_)
  cbv
  split <;> cbv
  all_goals
    refine leaf h (congrArg B ?_) rfl
    subst hA
    simp only [std, iLe, decide_eq_true_eq, decide_eq_false_iff_not] at *
    simp [*]
/-- a span of numbers -/
def faultF (a b lo hi : Int) : Int := if a < lo ∨ hi < a ∨ b < lo ∨ hi < b then 2 else if b < a then 11 else 0
def eIn : List AV → Option ((AV → Prop) → Prop)
  | [.lit (.int .i64 n), .lit (.int .i64 a), .lit (.int .i64 b)] => some fun K => ∀ q, q = decide (a ≤ n ∧ n ≤ b) → K (B q)
  | _ => none
theorem eIn_ok {f : Nat} (hf : ∀ (n a b : Int) (H : AHeap) {Kk : AV → AHeap → Prop}, Kk (B (decide (a ≤ n ∧ n ≤ b))) H → ACalls Tryd.prog f [I n, I a, I b] H Kk) : ∀ args pt, eIn args = some pt → ∀ (H : AHeap) (Kk : AV → AHeap → Prop), pt (fun r => Kk r H) → ACalls Tryd.prog f args H Kk := by
  intro args pt h H Kk hk
  unfold eIn at h
  split at h
  · cases h; exact hf _ _ _ H (hk _ rfl)
  · cases h
theorem p20 (a b lo hi : Int) (H : AHeap) {Kk : AV → AHeap → Prop} (h : Kk (I (faultF a b lo hi)) H) : ACalls Tryd.prog 20 [.agg [I a, I b], I lo, I hi] H Kk := by
  refine pureC (by rfl) (by rfl) (fun Kk h => ?_) H h
  obtain ⟨A, hA⟩ : ∃ A, A = std := ⟨_, rfl⟩
  obtain ⟨W, hW⟩ : ∃ W, W = faultF a b lo hi := ⟨_, rfl⟩
  rw [← hW] at h
  refine go20 rfl (SGo_run hA ⟨[], [], [(21, eIn)], []⟩ (.cons (eIn_ok p21) .nil) .nil 200 fun T TD hT hTD => ?_)
  clear hT hTD
  cbv
  intro q1 hq1
  cbv
  repeat' (first | (intro q2 hq2; cbv) | (split <;> cbv))
  all_goals
    refine leaf h (congrArg I ?_) rfl
    subst hA hW
    simp only [std, iLt] at *
    simp only [faultF]
    by_cases h1 : lo ≤ a ∧ a ≤ hi <;> by_cases h2 : lo ≤ b ∧ b ≤ hi <;> by_cases h3 : b < a <;> simp_all <;> (repeat' split) <;> omega
end Go.Sas
namespace Go.Sas
structure Ord where
  u : Int
  d : Int
  l : Int
  s : Int
/-- a freight: its first and last days, what may go, its orders -/
structure Frt where
  fi : Int × Int
  la : Int × Int
  caps : List (Int × Int)
  ords : List Ord
abbrev orV (o : Ord) : AV := .agg [I o.u, I o.d, I o.l, I o.s]
abbrev frV (a b c d : Int) (xs os : AV) : AV := .agg [I a, I b, I c, I d, xs, os]
/-- the first error of a row -/
def firstE {α : Type} (f : α → Int) : List α → Int
  | [] => 0
  | x :: r => if f x = 0 then firstE f r else f x
def ordE (o : Ord) : Int := if ¬(1 ≤ o.u ∧ o.u ≤ 1000000) ∨ ¬(0 ≤ o.d ∧ o.d ≤ 200) ∨ ¬(0 ≤ o.l ∧ o.l ≤ 1000000) ∨ ¬(0 ≤ o.s ∧ o.s ≤ 1000000) then 2 else if o.s < o.l then 11 else 0
def capE (x : Int × Int) : Int := faultF x.1 x.2 0 1000000
def orsF (os : List Ord) : Int := if os.length = 0 then 6 else if 6 < os.length then 8 else firstE ordE os
def orElse (a b : Int) : Int := if a = 0 then b else a
def checkF (f : Frt) : Int :=
  if f.caps.length = 0 then 6 else if 200 < f.caps.length then 8 else
  orElse (firstE capE f.caps) (orElse (faultF f.fi.1 f.fi.2 0 (f.caps.length - 1)) (orElse (faultF f.la.1 f.la.2 0 (f.caps.length - 1)) (orsF f.ords)))
theorem firstE_drop {α : Type} {f : α → Int} {l : List α} {i : Nat} {x : α} (h : l[i]? = some x) : firstE f (l.drop i) = if f x = 0 then firstE f (l.drop (i + 1)) else f x := by
  rw [drop_cons h]; rfl
end Go.Sas
