/-
Entries of tables for whole answers.
Conditions: none (definitions).
-/
import Derived.Test.YtelmlpjkpebcgaaS4
import Derived.Test.YtelmlpjkpebcgaaK1
set_option linter.unusedVariables false
set_option linter.unusedSimpArgs false
namespace Go.Sas
abbrev BigL {α : Type} (l : List α) : Prop := l.length ≤ 9223372036854775807
def eHolds : List AV → Option ((AV → Prop) → Prop)
  | [pl, ic, cc, ls] => match asPl pl, asVs 2 ic, asVs 2 cc, asVs 4 ls with
    | some x, some xi, some xc, some xl => some fun K => ∃ p ice cr l, PlIs p x ∧ Big p.shares ∧ Big p.creep ∧ (xi = ice.map sp ∧ BigL ice) ∧ (xc = cr.map sp ∧ BigL cr) ∧ (xl = l.map ldV ∧ BigL l) ∧
        ∀ r e ys, (r, e) = holdsS p ice cr l → ys = r.map I → K (.tup [.vs 1 ys, I e])
    | _, _, _, _ => none
  | _ => none
def eSame : List AV → Option ((AV → Prop) → Prop)
  | [x, y] => match asVs 1 x, asVs 1 y with
    | some xs, some ys => some fun K => ∃ l l' : List Int, (xs = l.map I ∧ BigL l) ∧ (ys = l'.map I ∧ BigL l') ∧ ∀ b, b = decide (l = l') → K (B b)
    | _, _ => none
  | _ => none
def eSameSp : List AV → Option ((AV → Prop) → Prop)
  | [x, y] => match asVs 2 x, asVs 2 y with
    | some xs, some ys => some fun K => ∃ l l' : List (Int × Int), (xs = l.map sp ∧ BigL l) ∧ (ys = l'.map sp ∧ BigL l') ∧ ∀ b, b = decide (l = l') → K (B b)
    | _, _ => none
  | _ => none
def eBearsA : List AV → Option ((AV → Prop) → Prop)
  | [pl, .lit (.int .i64 t), .lit (.int .i64 n)] => match asPl pl with
    | some x => some fun K => ∃ p, PlIs p x ∧ Big p.shares ∧ Big p.creep ∧ ∀ a e, (a, e) = bearsS p t n → K (.tup [I a, I e])
    | none => none
  | _ => none
def eSpeedA : List AV → Option ((AV → Prop) → Prop)
  | [pl, .agg [.lit (.int .i64 a), .lit (.int .i64 b)], .lit (.int .i64 n), .lit (.int .i64 v)] => match asPl pl with
    | some x => some fun K => ∃ p, PlIs p x ∧ Big p.shares ∧ Big p.creep ∧ ∀ q e, (q, e) = speedS p a b n v → K (.tup [I q, I e])
    | none => none
  | _ => none
def eMkLoads : List AV → Option ((AV → Prop) → Prop)
  | [.agg [.lit (.int .i64 u), .lit (.int .i64 v)], x] => match asVs 1 x with
    | some xs => some fun K => ∃ l : List Int, (xs = l.map I ∧ l.length < 1000000) ∧ ∀ ys, ys = (l.map fun n => (⟨n, (u, v), 0⟩ : Load)).map ldV → K (.vs 4 ys)
    | none => none
  | _ => none
def eTrue : List AV → Option ((AV → Prop) → Prop)
  | [] => some fun K => K (B true)
  | _ => none
end Go.Sas
