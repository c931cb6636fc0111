/-
Laws with texts: contracts of the kit as contracts of the machine; variables of packages as objects that nobody touches.
Laws with texts: contracts of the kit that lay new blocks, whose cells are read later.
Conditions: none.
-/
import Derived.Test.YtndnjmpebpampaaDoorP6f
import Derived.Below
import Derived.Sort.Grow
import Derived.Lib.LaidTab
import Derived.Deep.Draws
set_option linter.unusedVariables false
set_option linter.unusedSimpArgs false
namespace Go.Sas
open Go.RowKit
theorem cell_below {w w' : World} (h : Below w.heap.size w w') {b o : Nat} {c : Value} (hc : w.cell? ⟨b, o, none⟩ = some c) : w'.cell? ⟨b, o, none⟩ = some c := by
  have hb : b < w.heap.size := by
    rcases Nat.lt_or_ge b w.heap.size with h1 | h1
    · exact h1
    · simp [World.cell?, Array.getElem?_eq_none h1] at hc
  unfold World.cell? at hc ⊢
  simp only at hc ⊢
  rw [h.block b hb]
  exact hc
theorem Ext.below {st : St} {w w' : World} (h : Below w.heap.size w w') : Ext st w st w' :=
  ⟨.refl _, h.size, fun b hb _ => h.block b hb, fun _ hb => .inl hb, h.os, h.output, fun _ _ _ hc => .inl hc⟩
theorem RelH.below {st : St} {w w' : World} {H : AHeap} (hH : RelH st w H) (h : Below w.heap.size w w') : RelH st w' H :=
  ⟨hH.len, fun b o c hc => ⟨(hH.rd b o c hc).1, cell_below h (hH.rd b o c hc).2.1, (hH.rd b o c hc).2.2⟩,
    fun id l X hl hX => (hH.obj id l X hl hX).mono (.refl _) fun b o r hb => h.block b (owned_lt hH ⟨id, l, o, r, hl, hb⟩), hH.inj⟩
/-- a contract that lays new blocks at most -/
theorem ACalls.kit {P : Program} {f : Nat} {args : List AV} {H : AHeap} {Kk : AV → AHeap → Prop} (hc : callable P f = true)
    (h : ∀ st w vals, RelH st w H → RelL st args vals → Calls P f vals.toArray w fun x w' => ∃ v r, x = .returned v ∧ Below w.heap.size w w' ∧ RelV st r v ∧ Kk r H) : ACalls P f args H Kk :=
  ⟨hc, fun st w vals hH hr => (h st w vals hH hr).mono fun x w' ⟨v, r, e1, e2, e3, e4⟩ => ⟨v, r, H, st, e1, Ext.below e2, hH.below e2, e3, e4⟩⟩
theorem below_grow {w : World} {k : Nat} {os : Array Obj} : Below w.heap.size w (Go.Sort.grow (w.drewN k) os) :=
  ⟨rfl, rfl, rfl, by simp [Go.Sort.grow, World.drewN], fun b hb => by
    show (w.heap ++ os)[b]? = _
    rw [Array.getElem?_append_left hb]⟩
/-- a variable of a package: block g, and what it holds -/
def rawG (id g : Nat) (ob : Obj) : AObj := .raw 0 ob [.mp id 0 0] [.pointer (some ⟨g, 0, none⟩)]
theorem rawG_heap {st : St} {w : World} {H : AHeap} {id g : Nat} {ob : Obj} (hH : RelH st w H) (hX : H[id]? = some (rawG id g ob)) : w.heap[g]? = some ob := by
  have hlt : id < st.loc.length := by rw [hH.len]; exact (List.getElem?_eq_some_iff.1 hX).1
  obtain ⟨l, hl⟩ : ∃ l, st.loc[id]? = some l := ⟨_, List.getElem?_eq_getElem hlt⟩
  have h := hH.obj id l _ hl hX
  simp only [rawG, ObjOk] at h
  obtain ⟨hg, hes, b, o, r, hb, hw⟩ := h
  obtain ⟨u, us', he, hv, _⟩ := hes.uncons
  cases he
  simp only [RelV] at hv
  obtain ⟨l', h1, _, _, h4⟩ := hv
  rw [hl] at h1; cases h1
  obtain ⟨b', o', r', h5, h6⟩ := h4 hg.symm
  rw [hb] at h5; cases h5
  cases h6
  exact hw
end Go.Sas
namespace Go.Sas
open Go.RowKit
end Go.Sas
