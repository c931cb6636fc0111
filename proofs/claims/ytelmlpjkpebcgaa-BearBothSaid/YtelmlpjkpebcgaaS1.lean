/-
What chapter 3 says, as plain functions: plates, tables, loads, verdicts.
Conditions: none (definitions).
-/
import Derived.Test.YtelmlpjkpebcgaaAbs19
set_option linter.unusedVariables false
set_option linter.unusedSimpArgs false
namespace Go.Sas
structure Plate where
  str : Int × Int
  shares : List (Int × Int)
  creep : List (Int × Int)
  near : Int
  edge : Int
  grav : Int
  low : Int
  high : Int
  shore : Int
  wider : Int
structure Load where
  at_ : Int
  w : Int × Int
  st : Int
abbrev ldV (x : Load) : AV := .agg [I x.at_, I x.w.1, I x.w.2, I x.st]
/-- a plate, by its cells -/
structure PlateIs (p : Plate) (a b : Int) (xs ec : List AV) (ne ed gr lo hi sh wi : Int) : Prop where
  hs : xs = p.shares.map sp
  hc : ec = p.creep.map sp
  str : p.str = (a, b)
  ne : p.near = ne
  ed : p.edge = ed
  gr : p.grav = gr
  lo : p.low = lo
  hi : p.high = hi
  sh : p.shore = sh
  wi : p.wider = wi
abbrev plV (a b : Int) (xs ec : AV) (ne ed gr lo hi sh wi : Int) : AV := .agg [I a, I b, xs, ec, I ne, I ed, I gr, I lo, I hi, I sh, I wi]

def wiS (a b c : Int) : Bool := decide (b ≤ a ∧ a ≤ c)
def ouS (a b c : Int) : Bool := decide (a < b ∨ c < a)
def faultS (a b lo hi : Int) : Int := if a < lo ∨ hi < a ∨ b < lo ∨ hi < b then 2 else if b < a then 11 else 0
def entE : Option (Int × Int) → Int × Int → Int
  | none, x => if x.1 < 0 ∨ 10000 < x.1 then 2 else if x.1 ≠ 0 then 11 else if x.2 < 0 ∨ 1000000 < x.2 then 2 else if x.2 ≠ 1000000 then 3 else 0
  | some q, x => if x.1 < 0 ∨ 10000 < x.1 then 2 else if x.1 ≤ q.1 then 11 else if x.2 < 0 ∨ 1000000 < x.2 then 2 else if q.2 < x.2 then 11 else 0
def tabGo : Option (Int × Int) → List (Int × Int) → Int
  | _, [] => 0
  | p, x :: l => if entE p x ≠ 0 then entE p x else tabGo (some x) l
def tabS (l : List (Int × Int)) : Int := if l.length = 0 then 6 else if 20 < l.length then 8 else tabGo none l
def checkS (p : Plate) : Int :=
  if faultS p.str.1 p.str.2 1 100000 ≠ 0 then faultS p.str.1 p.str.2 1 100000 else
  if tabS p.shares ≠ 0 then tabS p.shares else if tabS p.creep ≠ 0 then tabS p.creep else
  if p.near < 0 ∨ 10000 < p.near ∨ p.edge < 0 ∨ 1000000 < p.edge ∨ p.grav < 1 ∨ 1000 < p.grav ∨ p.low < 1 ∨ 4000000 < p.low ∨ p.high < 1 ∨ 4000000 < p.high then 2 else
  if p.high < p.low then 11 else
  if p.shore < 0 ∨ 10000 < p.shore ∨ p.wider < 0 ∨ 1000000 < p.wider then 2 else 0
/-- the first error of a list -/
def firstE {α : Type} (f : α → Int) : List α → Int
  | [] => 0
  | x :: l => if f x ≠ 0 then f x else firstE f l
def faultsS (l : List (Int × Int)) (most high : Int) : Int := if most < l.length then 8 else firstE (fun x => faultS x.1 x.2 0 high) l
def loadE (places : Int) (x : Load) : Int := if x.at_ < 0 ∨ 100 * places - 1 < x.at_ then 7 else if faultS x.w.1 x.w.2 0 200000 ≠ 0 then faultS x.w.1 x.w.2 0 200000 else if x.st < 0 ∨ 10000 < x.st then 2 else 0
def loadsS (places : Int) (l : List Load) : Int := if 30 < l.length then 8 else firstE (loadE places) l
def checkAllS (p : Plate) (ice cracks : List (Int × Int)) : Int :=
  if checkS p ≠ 0 then checkS p else if faultsS ice 1000 5000 ≠ 0 then faultsS ice 1000 5000 else faultsS cracks 50 100000
/-- what the last entry says that begins at most at a number -/
def lastF (n : Int) (o x : Int × Int) : Int × Int := if x.1 ≤ n then x else o
def lastS (l : List (Int × Int)) (n : Int) : Int × Int := l.foldl (lastF n) (l.headD (0, 0))
def partS (l : List (Int × Int)) (n : Int) : Int := (lastS l n).2

structure Sp where
  wi : Int → Int → Int → Bool
  ou : Int → Int → Int → Bool
  fault : Int → Int → Int → Int → Int
  tab : List (Int × Int) → Int
  check : Plate → Int
  faults : List (Int × Int) → Int → Int → Int
  loads : Int → List Load → Int
  checkAll : Plate → List (Int × Int) → List (Int × Int) → Int
  part : List (Int × Int) → Int → Int
def stS : Sp := ⟨wiS, ouS, faultS, tabS, checkS, faultsS, loadsS, checkAllS, partS⟩

/-! ### Entries of tables -/
def eWi (S : Sp) : List AV → Option ((AV → Prop) → Prop)
  | [.lit (.int .i64 a), .lit (.int .i64 b), .lit (.int .i64 c)] => some fun K => K (B (S.wi a b c))
  | _ => none
def eOu (S : Sp) : List AV → Option ((AV → Prop) → Prop)
  | [.lit (.int .i64 a), .lit (.int .i64 b), .lit (.int .i64 c)] => some fun K => K (B (S.ou a b c))
  | _ => none
def eFault (S : Sp) : List AV → Option ((AV → Prop) → Prop)
  | [.agg [.lit (.int .i64 a), .lit (.int .i64 b)], .lit (.int .i64 c), .lit (.int .i64 d)] => some fun K => K (I (S.fault a b c d))
  | _ => none
/-- a list of pairs -/
def eTab (S : Sp) : List AV → Option ((AV → Prop) → Prop)
  | [x] => match asVs 2 x with
    | some xs => some fun K => ∃ l, xs = l.map sp ∧ l.length ≤ 9223372036854775807 ∧ K (I (S.tab l))
    | none => none
  | _ => none
def eCheck (S : Sp) : List AV → Option ((AV → Prop) → Prop)
  | [.agg [.lit (.int .i64 a), .lit (.int .i64 b), s, c, .lit (.int .i64 ne), .lit (.int .i64 ed), .lit (.int .i64 gr), .lit (.int .i64 lo), .lit (.int .i64 hi), .lit (.int .i64 sh), .lit (.int .i64 wi)]] => match asVs 2 s, asVs 2 c with
    | some xs, some ec => some fun K => ∃ p, PlateIs p a b xs ec ne ed gr lo hi sh wi ∧ p.shares.length ≤ 9223372036854775807 ∧ p.creep.length ≤ 9223372036854775807 ∧ K (I (S.check p))
    | _, _ => none
  | _ => none
def eFaults (S : Sp) : List AV → Option ((AV → Prop) → Prop)
  | [x, .lit (.int .i64 a), .lit (.int .i64 b)] => match asVs 2 x with
    | some xs => some fun K => ∃ l, xs = l.map sp ∧ l.length ≤ 9223372036854775807 ∧ K (I (S.faults l a b))
    | none => none
  | _ => none
/-- a list of loads, and how many places there are -/
def eLoads1 (S : Sp) : List AV → Option ((AV → Prop) → Prop)
  | [x, .lit (.int .i64 a)] => match asVs 4 x with
    | some xs => some fun K => ∃ l, xs = l.map ldV ∧ l.length ≤ 9223372036854775807 ∧ (0 ≤ a ∧ a < 46116860184273879) ∧ K (I (S.loads a l))
    | none => none
  | _ => none
def eLoads2 (S : Sp) : List AV → Option ((AV → Prop) → Prop)
  | [.lit (.int .i64 a), x] => match asVs 4 x with
    | some xs => some fun K => ∃ l, xs = l.map ldV ∧ l.length ≤ 9223372036854775807 ∧ (0 ≤ a ∧ a < 46116860184273879) ∧ K (I (S.loads a l))
    | none => none
  | _ => none
def eCheckAll (S : Sp) : List AV → Option ((AV → Prop) → Prop)
  | [.agg [.lit (.int .i64 a), .lit (.int .i64 b), s, c, .lit (.int .i64 ne), .lit (.int .i64 ed), .lit (.int .i64 gr), .lit (.int .i64 lo), .lit (.int .i64 hi), .lit (.int .i64 sh), .lit (.int .i64 wi)], x, y] => match asVs 2 s, asVs 2 c, asVs 2 x, asVs 2 y with
    | some xs, some ec, some xi, some xc => some fun K => ∃ p ice cr, PlateIs p a b xs ec ne ed gr lo hi sh wi ∧ p.shares.length ≤ 9223372036854775807 ∧ p.creep.length ≤ 9223372036854775807 ∧ xi = ice.map sp ∧ xc = cr.map sp ∧ ice.length ≤ 9223372036854775807 ∧ cr.length ≤ 9223372036854775807 ∧ K (I (S.checkAll p ice cr))
    | _, _, _, _ => none
  | _ => none
def ePart (S : Sp) : List AV → Option ((AV → Prop) → Prop)
  | [x, .lit (.int .i64 n)] => match asVs 2 x with
    | some xs => some fun K => ∃ l, xs = l.map sp ∧ l ≠ [] ∧ l.length ≤ 9223372036854775807 ∧ K (I (S.part l n))
    | none => none
  | _ => none
end Go.Sas
