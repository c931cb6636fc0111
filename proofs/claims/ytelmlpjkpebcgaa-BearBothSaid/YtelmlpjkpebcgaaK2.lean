/-
Functions that draw numbers from a seed: contracts.
Conditions: none (lemmas over any program).
-/
import Derived.Test.YtelmlpjkpebcgaaK1
set_option linter.unusedVariables false
set_option linter.unusedSimpArgs false
namespace Go.Sas
/-- called with a seed, wherever it lies, the function yields what is of Q, and the seed has another word -/
def Draws (P : Program) (f : Nat) (rest : List AV) (Q : AV → Prop) : Prop := ∀ (w : Int) (id : Nat) (H : AHeap), H[id]? = some (.own 0 [U w]) →
  ∀ (Kk : AV → AHeap → Prop), (∀ w' r, Q r → Kk r (H.set id (.own 0 [U w']))) → ACalls P f (.mp id 0 0 :: rest) H Kk

theorem Draws.of {P : Program} {f : Nat} {rest : List AV} {Q : AV → Prop} (hr : AV.nidL rest = true) (hQ : ∀ r, Q r → r.nid = true)
    (h : ∀ (w : Int) (Kk : AV → AHeap → Prop), (∀ w' r, Q r → Kk r [.own 0 [U w']]) → ACalls P f (.mp 0 0 0 :: rest) [.own 0 [U w]] Kk) : Draws P f rest Q := by
  intro w id H hH Kk hk
  have h1 := h w (fun r H' => ∃ w', Q r ∧ H' = [.own 0 [U w']]) fun w' r hq => ⟨w', hq, rfl⟩
  have h2 := ACalls.frame (H := H) [id] h1 (by simp) rfl (by simp only [AV.ltL, AV.lt, List.length_cons, List.length_nil]; exact ⟨by omega, AV.ltL_nid hr⟩) (by simp [ltH, AObj.lt, AV.ltL, AV.lt])
    (fun k X hX => by
      cases k with
      | zero => simp at hX; subst hX; simpa [at_, AObj.ren, AV.renL, AV.ren] using hH
      | succ k => simp at hX)
  rw [show AV.renL [id] (.mp 0 0 0 :: rest) = .mp id 0 0 :: rest by simp [AV.renL, AV.ren, at_, AV.renL_nid hr]] at h2
  refine h2.mono fun r H' hx => ?_
  obtain ⟨r0, H1, ⟨w', hq, rfl⟩, _, rfl, rfl⟩ := hx
  rw [AV.ren_nid (hQ _ hq)]
  have := hk w' r0 hq
  simpa [merge, updL, AObj.ren, AV.renL, AV.ren] using this

/-- an entry of a table of such functions -/
def eDraw (spec : List AV → Option ((Unit → Prop) × (AV → Prop))) : List AV → AHeap → Option PT
  | .mp id 0 0 :: rest, H => match spec rest with
    | some (pre, Q) => match H[id]? with
      | some (.own 0 [.lit (.int .u64 _)]) => some fun K => ∃ _u : Unit, pre () ∧ ∀ w' r, Q r → K r (H.set id (.own 0 [U w']))
      | _ => none
    | none => none
  | _, _ => none
theorem eDraw_ok {P : Program} {f : Nat} {spec : List AV → Option ((Unit → Prop) × (AV → Prop))} (h : ∀ rest pre Q, spec rest = some (pre, Q) → pre () → Draws P f rest Q) : ∀ args H pt, eDraw spec args H = some pt → ∀ (Kk : AV → AHeap → Prop), pt Kk → ACalls P f args H Kk := by
  intro args H pt hp Kk hk
  unfold eDraw at hp
  split at hp
  · split at hp
    · rename_i pre Q hQ
      split at hp
      · rename_i w hX
        cases hp
        obtain ⟨_, h1, h2⟩ := hk
        exact h _ _ _ hQ h1 _ _ _ hX Kk h2
      · cases hp
    · cases hp
  · cases hp
/-- a number from one to another -/
def Num (lo hi : Int) (r : AV) : Prop := ∃ n, r = I n ∧ lo ≤ n ∧ n ≤ hi
/-- a span between two numbers -/
def Spn (lo hi : Int) (r : AV) : Prop := ∃ a b, r = .agg [I a, I b] ∧ lo ≤ a ∧ a ≤ b ∧ b ≤ hi
def AllI (xs : List AV) : Prop := ∀ x ∈ xs, ∃ n, x = I n
def sNext : List AV → Option ((Unit → Prop) × (AV → Prop))
  | [] => some (fun _ => True, fun r => ∃ n, r = U n ∧ 0 ≤ n ∧ n < 18446744073709551616)
  | _ => none
def sBelow : List AV → Option ((Unit → Prop) × (AV → Prop))
  | [.lit (.int .i64 n)] => some (fun _ => n ≤ 9223372036854775807, fun r => ∃ k, r = I k ∧ 0 ≤ k ∧ (k < n ∨ k = 0))
  | _ => none
def sFrom : List AV → Option ((Unit → Prop) × (AV → Prop))
  | [.lit (.int .i64 a), .lit (.int .i64 b)] => some (fun _ => (-1000000000000 ≤ a ∧ a ≤ 1000000000000) ∧ (-1000000000000 ≤ b ∧ b ≤ 1000000000000), fun r => ∃ k, r = I k ∧ a ≤ k ∧ (k ≤ b ∨ k = a))
  | _ => none
def sYes : List AV → Option ((Unit → Prop) × (AV → Prop))
  | [.lit (.int .i64 n)] => some (fun _ => n ≤ 9223372036854775807, fun r => ∃ b, r = B b)
  | _ => none
def sOf : List AV → Option ((Unit → Prop) × (AV → Prop))
  | [x] => match asVs 1 x with
    | some xs => some (fun _ => xs ≠ [] ∧ xs.length < 1000000 ∧ AllI xs, fun r => ∃ k, r = I k ∧ I k ∈ xs)
    | none => none
  | _ => none
def sSpan : List AV → Option ((Unit → Prop) × (AV → Prop))
  | [.lit (.int .i64 a), .lit (.int .i64 b)] => some (fun _ => -1000000000 ≤ a ∧ a ≤ b ∧ b ≤ 1000000000, Spn a b)
  | _ => none
def sInside : List AV → Option ((Unit → Prop) × (AV → Prop))
  | [.agg [.lit (.int .i64 a), .lit (.int .i64 b)]] => some (fun _ => -1000000000 ≤ a ∧ a ≤ b ∧ b ≤ 1000000000, Num a b)
  | _ => none
def sPart : List AV → Option ((Unit → Prop) × (AV → Prop))
  | [.agg [.lit (.int .i64 a), .lit (.int .i64 b)]] => some (fun _ => -1000000000 ≤ a ∧ a ≤ b ∧ b ≤ 1000000000, Spn a b)
  | _ => none
end Go.Sas
