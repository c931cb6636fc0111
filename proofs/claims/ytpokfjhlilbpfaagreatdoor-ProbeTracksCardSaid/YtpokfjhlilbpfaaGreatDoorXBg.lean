/-
Laws with texts: contracts of the kit as contracts of the machine; variables of packages as objects that nobody touches.
Laws with texts: contracts of the kit that lay new blocks, whose cells are read later.
Conditions: none.
-/
import Derived.Test.YtpokfjhlilbpfaaGreatDoorP6g
import Derived.Below
import Derived.Sort.Grow
import Derived.Lib.LaidTab
import Derived.Deep.Draws
set_option linter.unusedVariables false
set_option linter.unusedSimpArgs false
namespace Go.Sas
open Go.RowKit
theorem cell_below {w w' : World} (h : Below w.heap.size w w') {b o : Nat} {c : Value} (hc : w.cell? ⟨b, o, none⟩ = some c) : w'.cell? ⟨b, o, none⟩ = some c := by
  have hb : b < w.heap.size := by
    rcases Nat.lt_or_ge b w.heap.size with h1 | h1
    · exact h1
    · simp [World.cell?, Array.getElem?_eq_none h1] at hc
  unfold World.cell? at hc ⊢
  simp only at hc ⊢
  rw [h.block b hb]
  exact hc
theorem Ext.below {st : St} {w w' : World} (h : Below w.heap.size w w') : Ext st w st w' :=
  ⟨.refl _, h.size, fun b hb _ => h.block b hb, fun _ hb => .inl hb, h.os, h.output, fun _ _ _ hc => .inl hc⟩
theorem RelH.below {st : St} {w w' : World} {H : AHeap} (hH : RelH st w H) (h : Below w.heap.size w w') : RelH st w' H :=
  ⟨hH.len, fun b o c hc => ⟨(hH.rd b o c hc).1, cell_below h (hH.rd b o c hc).2.1, (hH.rd b o c hc).2.2⟩,
    fun id l X hl hX => (hH.obj id l X hl hX).mono (.refl _) fun b o r hb => h.block b (owned_lt hH ⟨id, l, o, r, hl, hb⟩), hH.inj⟩
/-- a contract that lays new blocks at most -/
theorem ACalls.kit {P : Program} {f : Nat} {args : List AV} {H : AHeap} {Kk : AV → AHeap → Prop} (hc : callable P f = true)
    (h : ∀ st w vals, RelH st w H → RelL st args vals → Calls P f vals.toArray w fun x w' => ∃ v r, x = .returned v ∧ Below w.heap.size w w' ∧ RelV st r v ∧ Kk r H) : ACalls P f args H Kk :=
  ⟨hc, fun st w vals hH hr => (h st w vals hH hr).mono fun x w' ⟨v, r, e1, e2, e3, e4⟩ => ⟨v, r, H, st, e1, Ext.below e2, hH.below e2, e3, e4⟩⟩
theorem below_grow {w : World} {k : Nat} {os : Array Obj} : Below w.heap.size w (Go.Sort.grow (w.drewN k) os) :=
  ⟨rfl, rfl, rfl, by simp [Go.Sort.grow, World.drewN], fun b hb => by
    show (w.heap ++ os)[b]? = _
    rw [Array.getElem?_append_left hb]⟩
/-- a variable of a package: block g, and what it holds -/
def rawG (id g : Nat) (ob : Obj) : AObj := .raw 0 ob [.mp id 0 0] [.pointer (some ⟨g, 0, none⟩)]
theorem rawG_heap {st : St} {w : World} {H : AHeap} {id g : Nat} {ob : Obj} (hH : RelH st w H) (hX : H[id]? = some (rawG id g ob)) : w.heap[g]? = some ob := by
  have hlt : id < st.loc.length := by rw [hH.len]; exact (List.getElem?_eq_some_iff.1 hX).1
  obtain ⟨l, hl⟩ : ∃ l, st.loc[id]? = some l := ⟨_, List.getElem?_eq_getElem hlt⟩
  have h := hH.obj id l _ hl hX
  simp only [rawG, ObjOk] at h
  obtain ⟨hg, hes, b, o, r, hb, hw⟩ := h
  obtain ⟨u, us', he, hv, _⟩ := hes.uncons
  cases he
  simp only [RelV] at hv
  obtain ⟨l', h1, _, _, h4⟩ := hv
  rw [hl] at h1; cases h1
  obtain ⟨b', o', r', h5, h6⟩ := h4 hg.symm
  rw [hb] at h5; cases h5
  cases h6
  exact hw
theorem rawG_cell {st : St} {w : World} {H : AHeap} {id g : Nat} {ob : Obj} {v : Value} (hH : RelH st w H) (hX : H[id]? = some (rawG id g ob)) (ho : ∃ cs T fz, ob = .cells cs T fz ∧ cs[0]? = some v) : w.cell? ⟨g, 0, none⟩ = some v := by
  obtain ⟨cs, T, fz, rfl, h0⟩ := ho
  simp [World.cell?, rawG_heap hH hX, h0]
end Go.Sas
namespace Go.Sas
open Go.RowKit
open Classical in
/-- what was known, and the cells of new blocks -/
noncomputable def stN (st : St) (w w' : World) : St := ⟨fun b o => if w.heap.size ≤ b then (if ∃ c, w'.cell? ⟨b, o, none⟩ = some c ∧ Scal c then w'.cell? ⟨b, o, none⟩ else none) else st.rd b o, st.loc⟩
theorem stN_new {st : St} {w w' : World} {b o : Nat} {c : Value} (hb : w.heap.size ≤ b) (hc : w'.cell? ⟨b, o, none⟩ = some c) (hs : Scal c) : (stN st w w').rd b o = some c := by
  unfold stN
  simp only
  rw [if_pos hb, if_pos ⟨c, hc, hs⟩, hc]
theorem stN_old {st : St} {w w' : World} {b o : Nat} (hb : b < w.heap.size) : (stN st w w').rd b o = st.rd b o := by
  unfold stN
  simp only
  rw [if_neg (by omega)]
theorem stN_inv {st : St} {w w' : World} {b o : Nat} {c : Value} (hb : w.heap.size ≤ b) (h : (stN st w w').rd b o = some c) : w'.cell? ⟨b, o, none⟩ = some c ∧ Scal c := by
  unfold stN at h
  simp only at h
  rw [if_pos hb] at h
  split at h
  · rename_i hx
    obtain ⟨c', h1, h2⟩ := hx
    rw [h1] at h
    cases h
    exact ⟨h1, h2⟩
  · cases h
theorem stN_le {st : St} {w w' : World} {H : AHeap} (hH : RelH st w H) : st.le (stN st w w') :=
  ⟨fun b o c h => by rw [stN_old (rd_lt hH h)]; exact h, fun id l h => ⟨l, h, Nat.le_refl _, fun _ => rfl⟩⟩
theorem stN_owned {st : St} {w w' : World} {b : Nat} (h : Owned (stN st w w') b) : Owned st b := h
theorem Ext.belowN {st : St} {w w' : World} {H : AHeap} (hH : RelH st w H) (h : Below w.heap.size w w') : Ext st w (stN st w w') w' :=
  ⟨stN_le hH, h.size, fun b hb _ => h.block b hb, fun _ hb => .inl hb, h.os, h.output, fun b o c hc => by
    rcases Nat.lt_or_ge b w.heap.size with h1 | h1
    · rw [stN_old h1] at hc; exact .inl hc
    · exact .inr (.inl h1)⟩
theorem RelH.belowN {st : St} {w w' : World} {H : AHeap} (hH : RelH st w H) (h : Below w.heap.size w w') : RelH (stN st w w') w' H :=
  ⟨hH.len, fun b o c hc => by
      rcases Nat.lt_or_ge b w.heap.size with h1 | h1
      · rw [stN_old h1] at hc
        exact ⟨(hH.rd b o c hc).1, cell_below h (hH.rd b o c hc).2.1, (hH.rd b o c hc).2.2⟩
      · obtain ⟨h2, h3⟩ := stN_inv h1 hc
        exact ⟨h3, h2, fun ho => by have := owned_lt hH (stN_owned ho); omega⟩,
    fun id l X hl hX => (hH.obj id l X hl hX).mono (stN_le hH) fun b o r hb => h.block b (owned_lt hH ⟨id, l, o, r, hl, hb⟩), hH.inj⟩
/-- a contract that lays new blocks at most; what it hands back may be read in them -/
theorem ACalls.kitN {P : Program} {f : Nat} {args : List AV} {H : AHeap} {Kk : AV → AHeap → Prop} (hc : callable P f = true)
    (h : ∀ st w vals, RelH st w H → RelL st args vals → Calls P f vals.toArray w fun x w' => ∃ v r, x = .returned v ∧ Below w.heap.size w w' ∧ RelV (stN st w w') r v ∧ Kk r H) : ACalls P f args H Kk :=
  ⟨hc, fun st w vals hH hr => (h st w vals hH hr).mono fun x w' ⟨v, r, e1, e2, e3, e4⟩ => ⟨v, r, H, stN st w w', e1, Ext.belowN hH e2, hH.belowN e2, e3, e4⟩⟩
theorem flat_strs : ∀ l : List ByteArray, flat (l.map Value.string) = l.map Value.string
  | [] => rfl
  | s :: l => by
    show [Value.string s] ++ flat (l.map Value.string) = _
    rw [flat_strs l]; rfl
/-- a new slice of strings -/
theorem relS {st : St} {w w' : World} {n : Nat} (hn : w.heap.size ≤ n) {l : List ByteArray} (hc : ∀ i s, l[i]? = some s → w'.cell? ⟨n, i, none⟩ = some (.string s)) : RelV (stN st w w') (.vs 1 (l.map fun s => .lit (.string s))) (.slice (some ⟨n, 0, none⟩) l.length l.length) := by
  simp only [RelV]
  refine ⟨some ⟨n, 0, none⟩, l.length, l.map Value.string, by simp, by simp, ?_, ?_, fun _ => ⟨n, 0, rfl, ?_⟩⟩
  · clear hc
    induction l with
    | nil => rfl
    | cons s l ih => exact ⟨_, _, rfl, rfl, ih⟩
  · intro u hu
    obtain ⟨s, _, rfl⟩ := List.mem_map.1 hu
    rfl
  · intro i c hi
    rw [flat_strs, List.getElem?_map, Option.map_eq_some_iff] at hi
    obtain ⟨s, hs, rfl⟩ := hi
    rw [Nat.zero_add]
    exact stN_new hn (hc i s hs) (by simp [Scal])
end Go.Sas
