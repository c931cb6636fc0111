/-
Season files: what is read of a freight's file is the freight; a text that is read is the file of what it gives.
Conditions: none.
-/
import Derived.Test.YtaeaamhlejhgkaaGreatDoorXA
import Derived.Test.YtaeaamhlejhgkaaGreatDoorHA
set_option linter.unusedVariables false
set_option linter.unusedSimpArgs false
namespace Go.Sas
open Go.Lib
/-! ### Season files -/
def seasonW : List UInt8 := [115, 101, 97, 115, 111, 110]
def capW : List UInt8 := [99, 97, 112]
def orderW : List UInt8 := [111, 114, 100, 101, 114]
def headR (f : Frt) : List UInt8 := rowL seasonW [f.fi.1, f.fi.2, f.la.1, f.la.2]
def capR (c : Int × Int) : List UInt8 := rowL capW [c.1, c.2]
def ordR (o : Ord) : List UInt8 := rowL orderW [o.u, o.d, o.l, o.s]
/-- the rows of a freight's file -/
def rowsS (f : Frt) : List (List UInt8) := headR f :: (f.caps.map capR ++ f.ords.map ordR)
def textS (f : Frt) : List UInt8 := (rowsS f).flatMap fun r => r ++ [10]
/-- a row behind the first one -/
def moreS (f : Frt) (row : List UInt8) : Option Frt :=
  match numsL capW 2 row, f.ords with
  | some [a, b], [] => some { f with caps := f.caps ++ [(a, b)] }
  | _, _ => match numsL orderW 4 row with
    | some [a, b, c, d] => some { f with ords := f.ords ++ [⟨a, b, c, d⟩] }
    | _ => none
def firstS (row : List UInt8) : Option Frt :=
  match numsL seasonW 4 row with
  | some [a, b, c, d] => some ⟨(a, b), (c, d), [], []⟩
  | _ => none
/-- all rows, with the number of the first one that is not as said -/
def takeS : Frt → Nat → List (List UInt8) → Frt × Nat
  | f, _, [] => (f, 0)
  | f, 0, r :: rs => match firstS r with
    | some g => takeS g 1 rs
    | none => (f, 1)
  | f, n + 1, r :: rs => match moreS f r with
    | some g => takeS g (n + 2) rs
    | none => (f, n + 2)
def frt0 : Frt := ⟨(0, 0), (0, 0), [], []⟩
/-- what is read of a text; 18 is the error of a form, 10 that of a length -/
def readS (eL eF : Int) (check : Frt → Int) (most : Nat) (text : List UInt8) : Frt × Int × Int :=
  if most < text.length then (frt0, 0, eL) else
  let rows := splitL 10 text
  let r := takeS frt0 0 rows.dropLast
  if r.2 ≠ 0 then (frt0, (r.2 : Int), eF) else
  if rows.length = 1 ∨ rows.getLast? ≠ some [] then (frt0, (rows.length : Int), eF) else
  if check r.1 ≠ 0 then (frt0, 0, check r.1) else (r.1, 0, 0)
theorem firstS_some {row : List UInt8} {f : Frt} (h : firstS row = some f) : row = headR f ∧ f.caps = [] ∧ f.ords = [] := by
  unfold firstS at h
  split at h
  · rename_i a b c d hn
    cases h
    exact ⟨(row_nums hn).1, rfl, rfl⟩
  · cases h
/-- numbers that a file may hold -/
def Nb (n : Int) : Prop := 0 ≤ n ∧ n < 1000000000
structure SeaV (f : Frt) : Prop where
  a : Nb f.fi.1
  b : Nb f.fi.2
  c : Nb f.la.1
  d : Nb f.la.2
  cs : ∀ x ∈ f.caps, Nb x.1 ∧ Nb x.2
  os : ∀ o ∈ f.ords, Nb o.u ∧ Nb o.d ∧ Nb o.l ∧ Nb o.s
end Go.Sas
