/-
Laws with texts: plain law of numbers in words: what the program takes as a number is what the reference takes.
Laws with texts: plain law of parting a text at a byte; what Go's library parts, and what a loop parts.
Laws with texts: plain law of rows of a word and numbers, and of texts of rows.
Radar files: what is read of a track's file is the track; a text that is read is the file of what it gives.
Conditions: none.
-/
import Derived.Lib.Atoi
import Derived.Lib.AtoiTie
import Derived.Lib.ItoaMem
import Derived.Lib.Split
import Derived.Lib.IndexMore
set_option linter.unusedVariables false
set_option linter.unusedSimpArgs false
namespace Go.Sas
open Go.Lib
end Go.Sas
namespace Go.Sas
open Go.Lib
end Go.Sas
namespace Go.Sas
open Go.Lib
/-! ### Joining again -/
/-! ### Rows of a word and numbers -/
def rowL (word : List UInt8) (l : List Int) : List UInt8 := word ++ l.flatMap (fun n => 32 :: itoa n)
/-! ### Rows of a text -/
end Go.Sas
namespace Go.Sas
open Go.Lib
/-- an echo: its place, its hour, its time -/
structure Ech where
  p : Int
  h : Int
  lo : Int
  hi : Int
structure Trk where
  sp : Int × Int
  ec : List Ech
def radarW : List UInt8 := [114, 97, 100, 97, 114]
def echoW : List UInt8 := [101, 99, 104, 111]
def headT (t : Trk) : List UInt8 := rowL radarW [t.sp.1, t.sp.2]
def echR (e : Ech) : List UInt8 := rowL echoW [e.p, e.h, e.lo, e.hi]
def rowsT (t : Trk) : List (List UInt8) := headT t :: t.ec.map echR
def textT (t : Trk) : List UInt8 := (rowsT t).flatMap fun r => r ++ [10]
def NbT (n : Int) : Prop := 0 ≤ n ∧ n < 1000000000
structure TrkN (t : Trk) : Prop where
  a : NbT t.sp.1
  b : NbT t.sp.2
  es : ∀ e ∈ t.ec, NbT e.p ∧ NbT e.h ∧ NbT e.lo ∧ NbT e.hi
end Go.Sas
