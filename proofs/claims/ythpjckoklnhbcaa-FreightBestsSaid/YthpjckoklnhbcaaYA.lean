/-
An abstract machine over values, part 26: a copy of a row that is written to, which nobody writes any more.
Conditions: none.
-/
import Derived.Test.YthpjckoklnhbcaaZA
set_option linter.unusedVariables false
set_option linter.unusedSimpArgs false
namespace Go.Sas
variable {cx : Cx} {m : Nat} {k : List AItm} {R : Env → AHeap → Prop} {e : Env} {H H' : AHeap} {D : Option DM} {L : List DItm} {it : DItm}
theorem cellsOfSl_ms {sz id g : Nat} {cs xs : List AV} (hX : H[id]? = some (.own g cs)) (hE : Elems sz xs cs) : cellsOfSl H sz (.ms sz id g 0 xs.length) = some cs := by
  have hok := hE.2
  simp only [elemsOk, Bool.and_eq_true] at hok
  have hl := cellsL_len hE.1 hok.2
  simp only [cellsOfSl, hX]
  rw [if_pos (by simp; omega), List.drop_zero, List.take_of_length_le (by omega)]
theorem appMs_act {sz by_ id g : Nat} {s x : Od} {cs xs : List AV} {len : Nat} (hs : ev e s = .es) (hx : ev e x = .ms sz id g 0 len) (hl : xs.length = len) (hX : H[id]? = some (.own g cs)) (hE : Elems sz xs cs) (hb : len * by_ ≤ 140737488355328) :
    opAct (ev e) H (.app sz by_ s x) = some (.ms sz H.length 0 0 len, H ++ [.own 0 cs]) := by
  subst hl
  simp only [opAct, hs, hx, lenOfSl, cellsOfSl_ms hX hE]
  rw [if_pos hb]
/-- the copy, frozen at once -/
theorem AGo_appMs {d : Option (Bool × Nat)} {g0 : Option (Od × Bool)} {rest : List AOper} {sz by_ id g : Nat} {s x : Od} {cs xs : List AV} {len : Nat} (hg : gOk e g0 = some true) (hs : ev e s = .es) (hx : ev e x = .ms sz id g 0 len) (hl : xs.length = len) (hX : H[id]? = some (.own g cs)) (hE : Elems sz xs cs) (hb : len * by_ ≤ 140737488355328)
    (h : AGo cx m (.ops rest :: k) R (put e d (.vs sz xs)) (H ++ [.gone])) : AGo cx m (.ops (⟨d, .app sz by_ s x, g0⟩ :: rest) :: k) R e H := by
  have hact := appMs_act hs hx hl hX hE hb
  subst hl
  have hok := hE.2
  simp only [elemsOk, Bool.and_eq_true] at hok
  have hcl := cellsL_len hE.1 hok.2
  refine AGo_op hg fun ops o' st0 w0 kc l hm hk hl hp hd st a w hrel K' Q hK => ?_
  obtain ⟨mu, hp⟩ := hp
  obtain ⟨v, w', st', hrun, hext, hH', hr⟩ := opAct_sound hp hrel.ops hrel.hH hact
  obtain ⟨st2, g1, g2, g3⟩ := freeze_st (id := H.length) (g := 0) (cs := cs) hH' (by simp)
  have hset : (H ++ [AObj.own 0 cs]).set H.length .gone = H ++ [.gone] := by simp
  rw [hset] at g2
  have hv := g3 sz 0 xs.length xs v (by rw [cellsL_eq, hE.1, List.drop_zero, List.take_of_length_le (by omega)]) (by omega) rfl hE.2 hr
  exact upon_step hrel hd ⟨v, w', st2, hrun, hext.trans g1, g2, hv⟩ fun st' w' a' hr' => hK _ _ _ _ _ hr' h
/-- the copy, in a region that draws its order -/
theorem DGo_appMs {d : Option (Bool × Nat)} {g0 : Option (Od × Bool)} {i : Nat} {tl : Bool} {ws : List Nat} {sz by_ id g : Nat} {s x : Od} {cs xs : List AV} {len : Nat} (hg : gOk e g0 = some true) (hs : ev e s = .es) (hx : ev e x = .ms sz id g 0 len) (hl : xs.length = len) (hX : H[id]? = some (.own g cs)) (hE : Elems sz xs cs) (hb : len * by_ ≤ 140737488355328)
    (hk : Keep D ⟨⟨d, .app sz by_ s x, g0⟩, i, tl, ws⟩ H (H ++ [.own 0 cs]))
    (h : DGo cx m k R (nx D ⟨⟨d, .app sz by_ s x, g0⟩, i, tl, ws⟩) L (put e d (.ms sz H.length 0 0 len)) (H ++ [.own 0 cs])) : DGo cx m k R D (⟨⟨d, .app sz by_ s x, g0⟩, i, tl, ws⟩ :: L) e H :=
  DGo_act (by rfl) hg (appMs_act hs hx hl hX hE hb) hk h
/-- one slot's row is frozen -/
theorem AGo_frzS (t : Nat) {id g sz n : Nat} {xs cs : List AV} (hX : H[id]? = some (.own g cs)) (ht : look e.g t = .ms sz id g 0 n) (hn : xs.length = n) (hE : Elems sz xs cs) (h : AGo cx m k R ⟨e.l, gset e.g t (.vs sz xs)⟩ (H.set id .gone)) : AGo cx m k R e H := by
  have hok := hE.2
  simp only [elemsOk, Bool.and_eq_true] at hok
  have hl := cellsL_len hE.1 hok.2
  refine AGo_freeze t hX ht ?_ (by rw [hl, hn]; omega) hn hE.2 h
  rw [cellsL_eq, hE.1, List.drop_zero, List.take_of_length_le (by rw [← hn]; omega)]
theorem SubH.gone {y : AObj} {M H : AHeap} (h : SubH M H) : SubH (.gone :: M) (y :: H) := by cases y <;> simpa only [SubH] using h
end Go.Sas
