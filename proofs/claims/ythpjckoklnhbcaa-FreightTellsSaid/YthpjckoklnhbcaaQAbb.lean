/-
Short names for operations of codes, and the shape of a code's entry.
Conditions: none.
-/
import Derived.Test.YthpjckoklnhbcaaH4
set_option linter.unusedVariables false
set_option linter.unusedSimpArgs false
namespace Go.Sas
@[reducible] def Od.i (n : Int) : Od := .c (.lit (.int .i64 n))
@[reducible] def Od.b (b : Bool) : Od := .c (.lit (.bool b))
@[reducible] def AOper.l (t : Nat) (o : AOp) : AOper := ⟨some (false, t), o, none⟩
@[reducible] def AOper.g (t : Nat) (o : AOp) : AOper := ⟨some (true, t), o, none⟩
@[reducible] def AOper.n (o : AOp) : AOper := ⟨none, o, none⟩
@[reducible] def AOper.lw (t : Nat) (o : AOp) (x : Od) (b : Bool) : AOper := ⟨some (false, t), o, some (x, b)⟩
@[reducible] def AOper.gw (t : Nat) (o : AOp) (x : Od) (b : Bool) : AOper := ⟨some (true, t), o, some (x, b)⟩
@[reducible] def AOper.nw (o : AOp) (x : Od) (b : Bool) : AOper := ⟨none, o, some (x, b)⟩
@[reducible] def DItm.l (t : Nat) (o : AOp) (i : Nat) : DItm := ⟨⟨some (false, t), o, none⟩, i, true, []⟩
@[reducible] def DItm.g (t : Nat) (o : AOp) (i : Nat) : DItm := ⟨⟨some (true, t), o, none⟩, i, true, []⟩
@[reducible] def DItm.n (o : AOp) (i : Nat) : DItm := ⟨⟨none, o, none⟩, i, true, []⟩
@[reducible] def DItm.lw (t : Nat) (o : AOp) (x : Od) (b : Bool) (i : Nat) : DItm := ⟨⟨some (false, t), o, some (x, b)⟩, i, true, []⟩
@[reducible] def DItm.gw (t : Nat) (o : AOp) (x : Od) (b : Bool) (i : Nat) : DItm := ⟨⟨some (true, t), o, some (x, b)⟩, i, true, []⟩
@[reducible] def DItm.nw (o : AOp) (x : Od) (b : Bool) (i : Nat) : DItm := ⟨⟨none, o, some (x, b)⟩, i, true, []⟩
@[reducible] def DItm.lf (t : Nat) (o : AOp) (i : Nat) : DItm := ⟨⟨some (false, t), o, none⟩, i, false, []⟩
@[reducible] def DItm.gf (t : Nat) (o : AOp) (i : Nat) : DItm := ⟨⟨some (true, t), o, none⟩, i, false, []⟩
@[reducible] def DItm.nf (o : AOp) (i : Nat) : DItm := ⟨⟨none, o, none⟩, i, false, []⟩
@[reducible] def DItm.lwf (t : Nat) (o : AOp) (x : Od) (b : Bool) (i : Nat) : DItm := ⟨⟨some (false, t), o, some (x, b)⟩, i, false, []⟩
@[reducible] def DItm.gwf (t : Nat) (o : AOp) (x : Od) (b : Bool) (i : Nat) : DItm := ⟨⟨some (true, t), o, some (x, b)⟩, i, false, []⟩
@[reducible] def DItm.nwf (o : AOp) (x : Od) (b : Bool) (i : Nat) : DItm := ⟨⟨none, o, some (x, b)⟩, i, false, []⟩
@[reducible] def DItm.lx (t : Nat) (o : AOp) (i : Nat) (b : Bool) (w : List Nat) : DItm := ⟨⟨some (false, t), o, none⟩, i, b, w⟩
@[reducible] def DItm.gx (t : Nat) (o : AOp) (i : Nat) (b : Bool) (w : List Nat) : DItm := ⟨⟨some (true, t), o, none⟩, i, b, w⟩
@[reducible] def DItm.nx (o : AOp) (i : Nat) (b : Bool) (w : List Nat) : DItm := ⟨⟨none, o, none⟩, i, b, w⟩
@[reducible] def DItm.lwx (t : Nat) (o : AOp) (x : Od) (c : Bool) (i : Nat) (b : Bool) (w : List Nat) : DItm := ⟨⟨some (false, t), o, some (x, c)⟩, i, b, w⟩
@[reducible] def DItm.gwx (t : Nat) (o : AOp) (x : Od) (c : Bool) (i : Nat) (b : Bool) (w : List Nat) : DItm := ⟨⟨some (true, t), o, some (x, c)⟩, i, b, w⟩
@[reducible] def DItm.nwx (o : AOp) (x : Od) (c : Bool) (i : Nat) (b : Bool) (w : List Nat) : DItm := ⟨⟨none, o, some (x, c)⟩, i, b, w⟩
def GoS (P : Program) (f n : Nat) (K mu : List Nat) (nt : Nat) (ac : ACode) (rs : List ARes) : Prop := ∀ ⦃args : List AV⦄ ⦃H : AHeap⦄ ⦃Kk : AV → AHeap → Prop⦄, args.length = n →
  AGo ⟨P, K, mu, nt, none⟩ H.length [.code ac] (RetP rs H.length Kk) ⟨[], argsG 0 args⟩ H → ACalls P f args H Kk
theorem GoS.mk {P : Program} {f n nt : Nat} {K mu : List Nat} {fn : Func} {c : Code} {ac : ACode} {rs : List ARes} (hf : P.funcs[f]? = some fn) (hb : fn.body = some c) (hname : (fn.name != "runtime.NumGoroutine") = true)
    (htr : trCode ⟨P, K, mu, nt, none⟩ c = some ac) (ht : fn.ntmps = nt) (hres : trRes P K fn.results.toList = some rs) (hn : Nat.ble n nt = true) (hK : argsIn K 0 n = true) : GoS P f n K mu nt ac rs := by
  subst ht
  intro args H Kk hl h
  exact ACalls_of hf hb hname htr (rs := rs) hres (by rw [hl]; exact Nat.le_of_ble_eq_true hn) (by rw [hl]; exact hK) (h.weaken (fun _ _ => RetP.hands) (by simp))
end Go.Sas
