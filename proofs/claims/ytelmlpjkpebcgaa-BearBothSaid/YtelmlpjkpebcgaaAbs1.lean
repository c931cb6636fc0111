/-
An abstract machine over values, part 1: abstract values, what they stand for in a world, and that this is kept.
Conditions: none (definitions and plain lemmas; no program in sight).
-/
import Derived.OrdersIn
import Derived.WalkKit
set_option linter.unusedVariables false
set_option linter.unusedSimpArgs false
namespace Go.Sas

/-- Abstract values. `vs`: a slice that nobody writes any more, by its elements; `vp`: a pointer into such cells;
`mp`, `ms`: a pointer to a cell, a slice, of an object of the abstract heap; `es`: an empty slice without room. -/
inductive AV where
  | bad
  | lit (v : Value)
  | agg (cs : List AV)
  | tup (cs : List AV)
  | vs (sz : Nat) (es : List AV)
  | vp (cs : List AV)
  | mp (id g off : Nat)
  | ms (sz id g off len : Nat)
  | es
  | fn (f : Nat) (caps : List AV)
  | yl (id g : Nat)
  deriving Inhabited

/-- A value of one cell. -/
def Scal : Value → Prop
  | .agg _ => False
  | .tuple _ => False
  | _ => True

structure Loc where
  g : Nat
  base : Option (Nat × Nat × Nat)

structure St where
  rd : Nat → Nat → Option Value
  loc : List Loc

def St.pure (st : St) : St := ⟨st.rd, []⟩

def RdAt (rd : Nat → Nat → Option Value) (b o : Nat) (us : List Value) : Prop := ∀ i c, us[i]? = some c → rd b (o + i) = some c

def flat (us : List Value) : List Value := us.flatMap fun u => u.cells.toList

mutual
def RelV (st : St) (a : AV) (v : Value) : Prop := match a with
  | .bad => True
  | .lit u => v = u
  | .agg cs => ∃ us : Array Value, v = .agg us ∧ RelL st cs us.toList ∧ ∀ u ∈ us.toList, Scal u
  | .tup cs => ∃ us : Array Value, v = .tuple us ∧ RelL st cs us.toList
  | .vs sz es => ∃ (a : Option Addr) (cap : Nat) (us : List Value), v = .slice a es.length cap ∧ es.length ≤ cap ∧ RelL st.pure es us ∧ (∀ u ∈ us, u.cells.size = sz) ∧
      (es ≠ [] → ∃ b o, a = some ⟨b, o, none⟩ ∧ RdAt st.rd b o (flat us))
  | .vp cs => ∃ (b o : Nat) (us : List Value), v = .pointer (some ⟨b, o, none⟩) ∧ RelL st.pure cs us ∧ RdAt st.rd b o us
  | .mp id g off => ∃ l : Loc, st.loc[id]? = some l ∧ g ≤ l.g ∧ (g < l.g → Scal v) ∧
      (g = l.g → ∃ b o r, l.base = some (b, o, r) ∧ v = .pointer (some ⟨b, o + off, none⟩))
  | .ms sz id g off len => ∃ l : Loc, st.loc[id]? = some l ∧ g ≤ l.g ∧ (g < l.g → Scal v) ∧
      (g = l.g → ∃ (a : Option Addr) (cap : Nat), v = .slice a len cap ∧ len ≤ cap ∧ (0 < cap → ∃ b o r, l.base = some (b, o, r) ∧ a = some ⟨b, o + off, none⟩ ∧ off + cap * sz ≤ r))
  | .es => ∃ a : Option Addr, v = .slice a 0 0
  | .fn f caps => ∃ us : Array Value, v = .func (.func f) #[] us ∧ RelL st caps us.toList
  | .yl id g => ∃ l : Loc, st.loc[id]? = some l ∧ g ≤ l.g ∧ (g < l.g → Scal v) ∧ (g = l.g → ∃ b o r, l.base = some (b, o, r) ∧ v = .func (.yield b) #[] #[])
def RelL (st : St) (as : List AV) (us : List Value) : Prop := match as with
  | [] => us = []
  | a :: as => ∃ u us', us = u :: us' ∧ RelV st a u ∧ RelL st as us'
end

/-- What was known stays known. -/
structure St.le (st st' : St) : Prop where
  rd : ∀ b o c, st.rd b o = some c → st'.rd b o = some c
  loc : ∀ (id : Nat) (l : Loc), st.loc[id]? = some l → ∃ l' : Loc, st'.loc[id]? = some l' ∧ l.g ≤ l'.g ∧ (l'.g = l.g → l'.base = l.base)

theorem St.le.refl (st : St) : st.le st := ⟨fun _ _ _ h => h, fun _ l h => ⟨l, h, Nat.le_refl _, fun _ => rfl⟩⟩
theorem St.le.trans {a b c : St} (h : a.le b) (h' : b.le c) : a.le c where
  rd := fun x o v hv => h'.rd x o v (h.rd x o v hv)
  loc := fun id l hl => by
    obtain ⟨l1, h1, hg, hb⟩ := h.loc id l hl
    obtain ⟨l2, h2, hg2, hb2⟩ := h'.loc id l1 h1
    refine ⟨l2, h2, by omega, fun e => ?_⟩
    have : l1.g = l.g := by omega
    rw [hb2 (by omega), hb this]
theorem St.le.pure {a b : St} (h : a.le b) : a.pure.le b.pure := ⟨h.rd, fun id l hl => by simp [St.pure] at hl⟩

theorem RdAt.mono {rd rd' : Nat → Nat → Option Value} {b o : Nat} {us : List Value} (h : RdAt rd b o us) (hr : ∀ b o c, rd b o = some c → rd' b o = some c) : RdAt rd' b o us :=
  fun i c hc => hr _ _ _ (h i c hc)

mutual
theorem RelV.mono {st st' : St} (h : st.le st') : ∀ {a : AV} {v : Value}, RelV st a v → RelV st' a v
  | .bad, _, _ => by simp only [RelV]
  | .lit u, v, hv => by simp only [RelV] at hv ⊢; exact hv
  | .agg cs, v, hv => by
    simp only [RelV] at hv ⊢
    obtain ⟨us, h1, h2, h3⟩ := hv
    exact ⟨us, h1, RelL.mono h h2, h3⟩
  | .tup cs, v, hv => by
    simp only [RelV] at hv ⊢
    obtain ⟨us, h1, h2⟩ := hv
    exact ⟨us, h1, RelL.mono h h2⟩
  | .vs sz es, v, hv => by
    simp only [RelV] at hv ⊢
    obtain ⟨a, cap, us, h1, hc, h2, h3, h4⟩ := hv
    exact ⟨a, cap, us, h1, hc, RelL.mono h.pure h2, h3, fun hn => let ⟨b, o, e1, e2⟩ := h4 hn; ⟨b, o, e1, e2.mono h.rd⟩⟩
  | .vp cs, v, hv => by
    simp only [RelV] at hv ⊢
    obtain ⟨b, o, us, h1, h2, h3⟩ := hv
    exact ⟨b, o, us, h1, RelL.mono h.pure h2, h3.mono h.rd⟩
  | .mp id g off, v, hv => by
    simp only [RelV] at hv ⊢
    obtain ⟨l, h1, h2, h3, h4⟩ := hv
    obtain ⟨l', h1', hg, hb⟩ := h.loc id l h1
    refine ⟨l', h1', by omega, fun hlt => ?_, fun he => ?_⟩
    · by_cases hx : g < l.g
      · exact h3 hx
      · obtain ⟨b, o, r, _, hv⟩ := h4 (by omega); rw [hv]; exact trivial
    · have e : l.g = l'.g := by omega
      rw [hb e.symm]; exact h4 (by omega)
  | .ms sz id g off len, v, hv => by
    simp only [RelV] at hv ⊢
    obtain ⟨l, h1, h2, h3, h4⟩ := hv
    obtain ⟨l', h1', hg, hb⟩ := h.loc id l h1
    refine ⟨l', h1', by omega, fun hlt => ?_, fun he => ?_⟩
    · by_cases hx : g < l.g
      · exact h3 hx
      · obtain ⟨b, o, hv, _⟩ := h4 (by omega); rw [hv]; exact trivial
    · have e : l.g = l'.g := by omega
      rw [hb e.symm]; exact h4 (by omega)
  | .es, v, hv => by simp only [RelV] at hv ⊢; exact hv
  | .fn f caps, v, hv => by
    simp only [RelV] at hv ⊢
    obtain ⟨us, h1, h2⟩ := hv
    exact ⟨us, h1, RelL.mono h h2⟩
  | .yl id g, v, hv => by
    simp only [RelV] at hv ⊢
    obtain ⟨l, h1, h2, h3, h4⟩ := hv
    obtain ⟨l', h1', hg, hb⟩ := h.loc id l h1
    refine ⟨l', h1', by omega, fun hlt => ?_, fun he => ?_⟩
    · by_cases hx : g < l.g
      · exact h3 hx
      · obtain ⟨b, o, r, _, hv⟩ := h4 (by omega); rw [hv]; exact trivial
    · have e : l.g = l'.g := by omega
      rw [hb e.symm]; exact h4 (by omega)
theorem RelL.mono {st st' : St} (h : st.le st') : ∀ {as : List AV} {us : List Value}, RelL st as us → RelL st' as us
  | [], us, hv => by simp only [RelL] at hv ⊢; exact hv
  | a :: as, us, hv => by
    simp only [RelL] at hv ⊢
    obtain ⟨u, us', h1, h2, h3⟩ := hv
    exact ⟨u, us', h1, RelV.mono h h2, RelL.mono h h3⟩
end

/-! ### Lists -/
theorem RelL.length {st : St} : ∀ {as : List AV} {us : List Value}, RelL st as us → us.length = as.length
  | [], us, h => by simp only [RelL] at h; simp [h]
  | a :: as, us, h => by
    simp only [RelL] at h
    obtain ⟨u, us', rfl, _, h3⟩ := h
    simp [RelL.length h3]
theorem RelL.get {st : St} : ∀ {as : List AV} {us : List Value} {i : Nat} {a : AV}, RelL st as us → as[i]? = some a → ∃ u, us[i]? = some u ∧ RelV st a u
  | [], us, i, a, h, hi => by simp at hi
  | a :: as, us, 0, x, h, hi => by
    simp only [RelL] at h
    obtain ⟨u, us', rfl, h2, h3⟩ := h
    simp at hi; subst hi
    exact ⟨u, by simp, h2⟩
  | a :: as, us, i + 1, x, h, hi => by
    simp only [RelL] at h
    obtain ⟨u, us', rfl, h2, h3⟩ := h
    simp at hi
    obtain ⟨u', e1, e2⟩ := RelL.get h3 hi
    exact ⟨u', by simp [e1], e2⟩
theorem RelL.getr {st : St} {as : List AV} {us : List Value} {i : Nat} {u : Value} (h : RelL st as us) (hi : us[i]? = some u) : ∃ a, as[i]? = some a ∧ RelV st a u := by
  have hl := h.length
  have : i < as.length := by
    rcases Nat.lt_or_ge i us.length with h' | h'
    · omega
    · simp [List.getElem?_eq_none h'] at hi
  obtain ⟨u', e1, e2⟩ := h.get (List.getElem?_eq_getElem this)
  rw [hi] at e1; cases e1
  exact ⟨_, List.getElem?_eq_getElem this, e2⟩
theorem RelL.drop {st : St} : ∀ (n : Nat) {as : List AV} {us : List Value}, RelL st as us → RelL st (as.drop n) (us.drop n)
  | 0, as, us, h => by simpa using h
  | n + 1, [], us, h => by simp only [RelL] at h; simp [h, RelL]
  | n + 1, a :: as, us, h => by
    simp only [RelL] at h
    obtain ⟨u, us', rfl, h2, h3⟩ := h
    simpa using RelL.drop n h3
theorem RelL.take {st : St} : ∀ (n : Nat) {as : List AV} {us : List Value}, RelL st as us → RelL st (as.take n) (us.take n)
  | 0, as, us, h => by simp [RelL]
  | n + 1, [], us, h => by simp only [RelL] at h; simp [h, RelL]
  | n + 1, a :: as, us, h => by
    simp only [RelL] at h
    obtain ⟨u, us', rfl, h2, h3⟩ := h
    simp only [List.take_succ_cons, RelL]
    exact ⟨u, _, rfl, h2, RelL.take n h3⟩
theorem RelL.append {st : St} : ∀ {as bs : List AV} {us vs : List Value}, RelL st as us → RelL st bs vs → RelL st (as ++ bs) (us ++ vs)
  | [], bs, us, vs, h, h' => by simp only [RelL] at h; simpa [h] using h'
  | a :: as, bs, us, vs, h, h' => by
    simp only [RelL] at h
    obtain ⟨u, us', rfl, h2, h3⟩ := h
    simp only [List.cons_append, RelL]
    exact ⟨u, _, rfl, h2, RelL.append h3 h'⟩
theorem RelL.nil {st : St} : RelL st [] [] := by simp [RelL]
theorem RelL.cons {st : St} {a : AV} {as : List AV} {u : Value} {us : List Value} (h : RelV st a u) (h' : RelL st as us) : RelL st (a :: as) (u :: us) := by
  simp only [RelL]; exact ⟨u, us, rfl, h, h'⟩
theorem RelL.uncons {st : St} {a : AV} {as : List AV} {us : List Value} (h : RelL st (a :: as) us) : ∃ u us', us = u :: us' ∧ RelV st a u ∧ RelL st as us' := by
  simpa only [RelL] using h
theorem RelL.lits {st : St} : ∀ (us : List Value), RelL st (us.map .lit) us
  | [] => by simp [RelL]
  | u :: us => by simp only [List.map_cons, RelL]; exact ⟨u, us, rfl, by simp [RelV], RelL.lits us⟩

/-- The cells of an abstract value, where they are known. -/
def AV.cells : AV → Option (List AV)
  | .bad => none
  | .lit v => if v.oneCell' then some [.lit v] else none
  | .agg cs => some cs
  | .tup _ => none
  | a => some [a]

theorem Scal.cells {v : Value} (h : Scal v) : v.cells = #[v] := by cases v <;> first | rfl | exact h.elim
theorem oneCell_of_scal {v : Value} (h : Scal v) : v.oneCell' = true := by cases v <;> first | rfl | exact h.elim
theorem scal_of_oneCell {v : Value} (h : v.oneCell' = true) : Scal v := by cases v <;> first | trivial | (simp [Value.oneCell'] at h)

theorem RelV.cells {st : St} {a : AV} {v : Value} {cs : List AV} (h : RelV st a v) (hc : a.cells = some cs) : RelL st cs v.cells.toList ∧ ∀ u ∈ v.cells.toList, Scal u := by
  have one : Scal v → RelL st [a] v.cells.toList ∧ ∀ u ∈ v.cells.toList, Scal u := fun hs => by rw [hs.cells]; exact ⟨RelL.cons h RelL.nil, fun u hu => by simp at hu; exact hu ▸ hs⟩
  have scalOf : ∀ {id g : Nat} {X : Loc → Prop}, (∀ l, g = l.g → X l → Scal v) → (∃ l : Loc, st.loc[id]? = some l ∧ g ≤ l.g ∧ (g < l.g → Scal v) ∧ (g = l.g → X l)) → Scal v := by
    intro id g X hX h
    obtain ⟨l, _, hle, h1, h2⟩ := h
    by_cases hlt : g < l.g
    · exact h1 hlt
    · exact hX l (by omega) (h2 (by omega))
  cases a <;> simp only [AV.cells, Option.some.injEq, reduceCtorEq] at hc
  case lit u =>
    split at hc
    · rename_i hu
      simp only [Option.some.injEq] at hc; subst hc
      refine one ?_
      simp only [RelV] at h; subst h; exact scal_of_oneCell hu
    · cases hc
  case agg cs' => subst hc; simp only [RelV] at h; obtain ⟨us, rfl, h2, h3⟩ := h; exact ⟨h2, h3⟩
  case vs sz es => subst hc; refine one ?_; simp only [RelV] at h; obtain ⟨_, _, _, rfl, _⟩ := h; trivial
  case vp cs' => subst hc; refine one ?_; simp only [RelV] at h; obtain ⟨_, _, _, rfl, _⟩ := h; trivial
  case mp id g off =>
    subst hc; refine one ?_; simp only [RelV] at h
    exact scalOf (fun l _ hx => by obtain ⟨b, o, r, _, rfl⟩ := hx; trivial) h
  case ms sz id g off len =>
    subst hc; refine one ?_; simp only [RelV] at h
    exact scalOf (fun l _ hx => by obtain ⟨a, cap, rfl, _⟩ := hx; trivial) h
  case es => subst hc; refine one ?_; simp only [RelV] at h; obtain ⟨_, rfl⟩ := h; trivial
  case fn f caps => subst hc; refine one ?_; simp only [RelV] at h; obtain ⟨_, rfl, _⟩ := h; trivial
  case yl id g =>
    subst hc; refine one ?_; simp only [RelV] at h
    exact scalOf (fun l _ hx => by obtain ⟨b, o, r, _, rfl⟩ := hx; trivial) h

/-! ### Values that name no object -/
mutual
def AV.nid (a : AV) : Bool := match a with
  | .agg cs => AV.nidL cs
  | .tup cs => AV.nidL cs
  | .fn _ cs => AV.nidL cs
  | .mp _ _ _ => false
  | .ms _ _ _ _ _ => false
  | .yl _ _ => false
  | _ => true
def AV.nidL (as : List AV) : Bool := match as with
  | [] => true
  | a :: as => a.nid && AV.nidL as
end
mutual
theorem RelV.nid {st st' : St} (h : ∀ b o c, st.rd b o = some c → st'.rd b o = some c) : ∀ {a : AV} {v : Value}, a.nid = true → RelV st a v → RelV st' a v
  | .bad, _, _, _ => by simp only [RelV]
  | .lit u, v, _, hv => by simp only [RelV] at hv ⊢; exact hv
  | .agg cs, v, hn, hv => by
    simp only [AV.nid] at hn
    simp only [RelV] at hv ⊢
    obtain ⟨us, h1, h2, h3⟩ := hv
    exact ⟨us, h1, RelL.nid h hn h2, h3⟩
  | .tup cs, v, hn, hv => by
    simp only [AV.nid] at hn
    simp only [RelV] at hv ⊢
    obtain ⟨us, h1, h2⟩ := hv
    exact ⟨us, h1, RelL.nid h hn h2⟩
  | .vs sz es, v, _, hv => by
    simp only [RelV] at hv ⊢
    obtain ⟨a, cap, us, h1, hc, h2, h3, h4⟩ := hv
    exact ⟨a, cap, us, h1, hc, RelL.mono (st := st.pure) (st' := st'.pure) ⟨h, fun id l hl => by simp [St.pure] at hl⟩ h2, h3, fun hn => let ⟨b, o, e1, e2⟩ := h4 hn; ⟨b, o, e1, e2.mono h⟩⟩
  | .vp cs, v, _, hv => by
    simp only [RelV] at hv ⊢
    obtain ⟨b, o, us, h1, h2, h3⟩ := hv
    exact ⟨b, o, us, h1, RelL.mono (st := st.pure) (st' := st'.pure) ⟨h, fun id l hl => by simp [St.pure] at hl⟩ h2, h3.mono h⟩
  | .mp _ _ _, v, hn, _ => by simp [AV.nid] at hn
  | .ms _ _ _ _ _, v, hn, _ => by simp [AV.nid] at hn
  | .yl _ _, v, hn, _ => by simp [AV.nid] at hn
  | .es, v, _, hv => by simp only [RelV] at hv ⊢; exact hv
  | .fn f caps, v, hn, hv => by
    simp only [AV.nid] at hn
    simp only [RelV] at hv ⊢
    obtain ⟨us, h1, h2⟩ := hv
    exact ⟨us, h1, RelL.nid h hn h2⟩
theorem RelL.nid {st st' : St} (h : ∀ b o c, st.rd b o = some c → st'.rd b o = some c) : ∀ {as : List AV} {us : List Value}, AV.nidL as = true → RelL st as us → RelL st' as us
  | [], us, _, hv => by simp only [RelL] at hv ⊢; exact hv
  | a :: as, us, hn, hv => by
    simp only [AV.nidL, Bool.and_eq_true] at hn
    simp only [RelL] at hv ⊢
    obtain ⟨u, us', h1, h2, h3⟩ := hv
    exact ⟨u, us', h1, RelV.nid h hn.1 h2, RelL.nid h hn.2 h3⟩
end

/-! ### The abstract heap -/
inductive AObj where
  | gone
  | own (g : Nat) (cs : List AV)
  | raw (g : Nat) (o : Obj)
  deriving Inhabited

abbrev AHeap := List AObj

def Owned (st : St) (b : Nat) : Prop := ∃ (id : Nat) (l : Loc) (o r : Nat), st.loc[id]? = some l ∧ l.base = some (b, o, r)

def ObjOk (st : St) (w : World) (l : Loc) : AObj → Prop
  | .gone => l.base = none
  | .own g cs => l.g = g ∧ ∀ b o r, l.base = some (b, o, r) →
      ∃ (arr : Array Value) (T : TypeId) (us : List Value), w.heap[b]? = some (.cells arr T (0, 0)) ∧ o + r ≤ arr.size ∧ cs.length ≤ r ∧ RelL st cs us ∧ (∀ u ∈ us, Scal u) ∧ ∀ i c, us[i]? = some c → arr[o + i]? = some c
  | .raw g ob => l.g = g ∧ ∃ b o r, l.base = some (b, o, r) ∧ w.heap[b]? = some ob

structure RelH (st : St) (w : World) (H : AHeap) : Prop where
  len : st.loc.length = H.length
  rd : ∀ b o c, st.rd b o = some c → Scal c ∧ w.cell? ⟨b, o, none⟩ = some c ∧ ¬ Owned st b
  obj : ∀ (id : Nat) (l : Loc) (X : AObj), st.loc[id]? = some l → H[id]? = some X → ObjOk st w l X
  inj : ∀ (id id' : Nat) (l l' : Loc) (b o r o' r' : Nat), st.loc[id]? = some l → st.loc[id']? = some l' → l.base = some (b, o, r) → l'.base = some (b, o', r') → id = id'

/-- How a run may change the world: blocks that are owned, and new ones. -/
structure Ext (st : St) (w : World) (st' : St) (w' : World) : Prop where
  le : st.le st'
  size : w.heap.size ≤ w'.heap.size
  frame : ∀ b, b < w.heap.size → ¬ Owned st b → w'.heap[b]? = w.heap[b]?
  own : ∀ b, Owned st' b → Owned st b ∨ w.heap.size ≤ b
  os : w'.os = w.os
  output : w'.output = w.output
  fro : ∀ a, w'.frozen? a = w.frozen? a
  rdn : ∀ b o c, st'.rd b o = some c → st.rd b o = some c ∨ w.heap.size ≤ b ∨ Owned st b

theorem Ext.refl (st : St) (w : World) : Ext st w st w := ⟨.refl _, Nat.le_refl _, fun _ _ _ => rfl, fun _ h => .inl h, rfl, rfl, fun _ => rfl, fun _ _ _ h => .inl h⟩
theorem Ext.trans {s1 s2 s3 : St} {w1 w2 w3 : World} (h : Ext s1 w1 s2 w2) (h' : Ext s2 w2 s3 w3) : Ext s1 w1 s3 w3 where
  le := h.le.trans h'.le
  size := Nat.le_trans h.size h'.size
  frame := fun b hb ho => by
    rw [h'.frame b (Nat.lt_of_lt_of_le hb h.size) (fun ho2 => (h.own b ho2).elim ho (fun hle => absurd hb (by omega))), h.frame b hb ho]
  own := fun b hb => (h'.own b hb).elim (fun h2 => h.own b h2) (fun h2 => .inr (Nat.le_trans h.size h2))
  os := h'.os.trans h.os
  output := h'.output.trans h.output
  fro := fun a => (h'.fro a).trans (h.fro a)
  rdn := fun b o c hc => (h'.rdn b o c hc).elim (h.rdn b o c) fun h2 => h2.elim (fun hs => .inr (.inl (Nat.le_trans h.size hs))) fun ho => (h.own b ho).elim (fun h3 => .inr (.inr h3)) fun h3 => .inr (.inl h3)

/-- A world in which only the count of draws differs. -/
theorem RelH.drawn {st : St} {w : World} {H : AHeap} (h : RelH st w H) (n : Nat) : RelH st { w with drawn := n } H :=
  ⟨h.len, h.rd, fun id l X hl hX => by have := h.obj id l X hl hX; cases X <;> exact this, h.inj⟩
theorem Ext.drawn (st : St) (w : World) (n : Nat) : Ext st w st { w with drawn := n } := ⟨.refl _, Nat.le_refl _, fun _ _ _ => rfl, fun _ h => .inl h, rfl, rfl, fun _ => rfl, fun _ _ _ h => .inl h⟩
end Go.Sas
