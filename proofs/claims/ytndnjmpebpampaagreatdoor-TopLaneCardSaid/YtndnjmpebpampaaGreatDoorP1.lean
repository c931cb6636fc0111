/-
An abstract machine over values, part 1: abstract values, what they stand for in a world, and that this is kept.
An abstract machine over values, part 2: operations with their types resolved, the translation into them, and what they yield.
An abstract machine over values, part 3: an operation that changes nothing yields, in every world that fits, a value that fits.
An abstract machine over values, part 4: the other operations that change nothing, and the sum of them.
An abstract machine over values, part 5: how the abstract heap follows the world.
Conditions: none.
-/
import Derived.OrdersIn
import Derived.WalkKit
import Derived.ChangeKeysEq
import Derived.Laws.Tables
import Derived.Laws.StructEq
import Derived.RowKit3
set_option linter.unusedVariables false
set_option linter.unusedSimpArgs false
namespace Go.Sas

/-- Abstract values. `vs`: a slice that nobody writes any more, by its elements; `vp`: a pointer into such cells;
`mp`, `ms`: a pointer to a cell, a slice, of an object of the abstract heap; `es`: an empty slice without room; `nni`: an interface value that is not nil. -/
inductive AV where
  | bad
  | lit (v : Value)
  | agg (cs : List AV)
  | tup (cs : List AV)
  | vs (sz : Nat) (es : List AV)
  | vp (cs : List AV)
  | mp (id g off : Nat)
  | ms (sz id g off len : Nat)
  | es
  | fn (f : Nat) (caps : List AV)
  | yl (id g : Nat)
  | nni
  deriving Inhabited

/-- A value of one cell. -/
def Scal : Value → Prop
  | .agg _ => False
  | .tuple _ => False
  | _ => True

structure Loc where
  g : Nat
  base : Option (Nat × Nat × Nat)

structure St where
  rd : Nat → Nat → Option Value
  loc : List Loc

def St.pure (st : St) : St := ⟨st.rd, []⟩

def RdAt (rd : Nat → Nat → Option Value) (b o : Nat) (us : List Value) : Prop := ∀ i c, us[i]? = some c → rd b (o + i) = some c

def flat (us : List Value) : List Value := us.flatMap fun u => u.cells.toList

/-- a function value: with what it has captured; or (from 1000 on) bound to what stands before its arguments -/
def fnV (f : Nat) (us : Array Value) : Value := if f ≤ 999 then .func (.func f) #[] us else .func (.func (f - 1000)) us #[]
def fnI (f : Nat) : Nat := if f ≤ 999 then f else f - 1000
def fnA {α : Type} (f : Nat) (caps xs : List α) : List α := if f ≤ 999 then xs ++ caps else caps ++ xs
mutual
def RelV (st : St) (a : AV) (v : Value) : Prop := match a with
  | .bad => True
  | .lit u => v = u
  | .agg cs => ∃ us : Array Value, v = .agg us ∧ RelL st cs us.toList ∧ ∀ u ∈ us.toList, Scal u
  | .tup cs => ∃ us : Array Value, v = .tuple us ∧ RelL st cs us.toList
  | .vs sz es => ∃ (a : Option Addr) (cap : Nat) (us : List Value), v = .slice a es.length cap ∧ es.length ≤ cap ∧ RelL st.pure es us ∧ (∀ u ∈ us, u.cells.size = sz) ∧
      (es ≠ [] → ∃ b o, a = some ⟨b, o, none⟩ ∧ RdAt st.rd b o (flat us))
  | .vp cs => ∃ (b o : Nat) (us : List Value), v = .pointer (some ⟨b, o, none⟩) ∧ RelL st.pure cs us ∧ RdAt st.rd b o us
  | .mp id g off => ∃ l : Loc, st.loc[id]? = some l ∧ g ≤ l.g ∧ (g < l.g → Scal v) ∧
      (g = l.g → ∃ b o r, l.base = some (b, o, r) ∧ v = .pointer (some ⟨b, o + off, none⟩))
  | .ms sz id g off len => ∃ l : Loc, st.loc[id]? = some l ∧ g ≤ l.g ∧ (g < l.g → Scal v) ∧
      (g = l.g → ∃ (a : Option Addr) (cap : Nat), v = .slice a len cap ∧ len ≤ cap ∧ (0 < cap → ∃ b o r, l.base = some (b, o, r) ∧ a = some ⟨b, o + off, none⟩ ∧ off + cap * sz ≤ r))
  | .es => ∃ a : Option Addr, v = .slice a 0 0
  | .nni => ∃ (t : TypeId) (u : Value), v = .iface t u
  | .fn f caps => ∃ us : Array Value, v = fnV f us ∧ RelL st caps us.toList
  | .yl id g => ∃ l : Loc, st.loc[id]? = some l ∧ g ≤ l.g ∧ (g < l.g → Scal v) ∧ (g = l.g → ∃ b o r, l.base = some (b, o, r) ∧ v = .func (.yield b) #[] #[])
def RelL (st : St) (as : List AV) (us : List Value) : Prop := match as with
  | [] => us = []
  | a :: as => ∃ u us', us = u :: us' ∧ RelV st a u ∧ RelL st as us'
end

/-- What was known stays known. -/
structure St.le (st st' : St) : Prop where
  rd : ∀ b o c, st.rd b o = some c → st'.rd b o = some c
  loc : ∀ (id : Nat) (l : Loc), st.loc[id]? = some l → ∃ l' : Loc, st'.loc[id]? = some l' ∧ l.g ≤ l'.g ∧ (l'.g = l.g → l'.base = l.base)

theorem St.le.refl (st : St) : st.le st := ⟨fun _ _ _ h => h, fun _ l h => ⟨l, h, Nat.le_refl _, fun _ => rfl⟩⟩
theorem St.le.trans {a b c : St} (h : a.le b) (h' : b.le c) : a.le c where
  rd := fun x o v hv => h'.rd x o v (h.rd x o v hv)
  loc := fun id l hl => by
    obtain ⟨l1, h1, hg, hb⟩ := h.loc id l hl
    obtain ⟨l2, h2, hg2, hb2⟩ := h'.loc id l1 h1
    refine ⟨l2, h2, by omega, fun e => ?_⟩
    have : l1.g = l.g := by omega
    rw [hb2 (by omega), hb this]
theorem St.le.pure {a b : St} (h : a.le b) : a.pure.le b.pure := ⟨h.rd, fun id l hl => by simp [St.pure] at hl⟩

theorem RdAt.mono {rd rd' : Nat → Nat → Option Value} {b o : Nat} {us : List Value} (h : RdAt rd b o us) (hr : ∀ b o c, rd b o = some c → rd' b o = some c) : RdAt rd' b o us :=
  fun i c hc => hr _ _ _ (h i c hc)

mutual
theorem RelV.mono {st st' : St} (h : st.le st') : ∀ {a : AV} {v : Value}, RelV st a v → RelV st' a v
  | .bad, _, _ => by simp only [RelV]
  | .lit u, v, hv => by simp only [RelV] at hv ⊢; exact hv
  | .agg cs, v, hv => by
    simp only [RelV] at hv ⊢
    obtain ⟨us, h1, h2, h3⟩ := hv
    exact ⟨us, h1, RelL.mono h h2, h3⟩
  | .tup cs, v, hv => by
    simp only [RelV] at hv ⊢
    obtain ⟨us, h1, h2⟩ := hv
    exact ⟨us, h1, RelL.mono h h2⟩
  | .vs sz es, v, hv => by
    simp only [RelV] at hv ⊢
    obtain ⟨a, cap, us, h1, hc, h2, h3, h4⟩ := hv
    exact ⟨a, cap, us, h1, hc, RelL.mono h.pure h2, h3, fun hn => let ⟨b, o, e1, e2⟩ := h4 hn; ⟨b, o, e1, e2.mono h.rd⟩⟩
  | .vp cs, v, hv => by
    simp only [RelV] at hv ⊢
    obtain ⟨b, o, us, h1, h2, h3⟩ := hv
    exact ⟨b, o, us, h1, RelL.mono h.pure h2, h3.mono h.rd⟩
  | .mp id g off, v, hv => by
    simp only [RelV] at hv ⊢
    obtain ⟨l, h1, h2, h3, h4⟩ := hv
    obtain ⟨l', h1', hg, hb⟩ := h.loc id l h1
    refine ⟨l', h1', by omega, fun hlt => ?_, fun he => ?_⟩
    · by_cases hx : g < l.g
      · exact h3 hx
      · obtain ⟨b, o, r, _, hv⟩ := h4 (by omega); rw [hv]; exact trivial
    · have e : l.g = l'.g := by omega
      rw [hb e.symm]; exact h4 (by omega)
  | .ms sz id g off len, v, hv => by
    simp only [RelV] at hv ⊢
    obtain ⟨l, h1, h2, h3, h4⟩ := hv
    obtain ⟨l', h1', hg, hb⟩ := h.loc id l h1
    refine ⟨l', h1', by omega, fun hlt => ?_, fun he => ?_⟩
    · by_cases hx : g < l.g
      · exact h3 hx
      · obtain ⟨b, o, hv, _⟩ := h4 (by omega); rw [hv]; exact trivial
    · have e : l.g = l'.g := by omega
      rw [hb e.symm]; exact h4 (by omega)
  | .es, v, hv => by simp only [RelV] at hv ⊢; exact hv
  | .nni, v, hv => by simp only [RelV] at hv ⊢; exact hv
  | .fn f caps, v, hv => by
    simp only [RelV] at hv ⊢
    obtain ⟨us, h1, h2⟩ := hv
    exact ⟨us, h1, RelL.mono h h2⟩
  | .yl id g, v, hv => by
    simp only [RelV] at hv ⊢
    obtain ⟨l, h1, h2, h3, h4⟩ := hv
    obtain ⟨l', h1', hg, hb⟩ := h.loc id l h1
    refine ⟨l', h1', by omega, fun hlt => ?_, fun he => ?_⟩
    · by_cases hx : g < l.g
      · exact h3 hx
      · obtain ⟨b, o, r, _, hv⟩ := h4 (by omega); rw [hv]; exact trivial
    · have e : l.g = l'.g := by omega
      rw [hb e.symm]; exact h4 (by omega)
theorem RelL.mono {st st' : St} (h : st.le st') : ∀ {as : List AV} {us : List Value}, RelL st as us → RelL st' as us
  | [], us, hv => by simp only [RelL] at hv ⊢; exact hv
  | a :: as, us, hv => by
    simp only [RelL] at hv ⊢
    obtain ⟨u, us', h1, h2, h3⟩ := hv
    exact ⟨u, us', h1, RelV.mono h h2, RelL.mono h h3⟩
end

/-! ### Lists -/
theorem RelL.length {st : St} : ∀ {as : List AV} {us : List Value}, RelL st as us → us.length = as.length
  | [], us, h => by simp only [RelL] at h; simp [h]
  | a :: as, us, h => by
    simp only [RelL] at h
    obtain ⟨u, us', rfl, _, h3⟩ := h
    simp [RelL.length h3]
theorem RelL.get {st : St} : ∀ {as : List AV} {us : List Value} {i : Nat} {a : AV}, RelL st as us → as[i]? = some a → ∃ u, us[i]? = some u ∧ RelV st a u
  | [], us, i, a, h, hi => by simp at hi
  | a :: as, us, 0, x, h, hi => by
    simp only [RelL] at h
    obtain ⟨u, us', rfl, h2, h3⟩ := h
    simp at hi; subst hi
    exact ⟨u, by simp, h2⟩
  | a :: as, us, i + 1, x, h, hi => by
    simp only [RelL] at h
    obtain ⟨u, us', rfl, h2, h3⟩ := h
    simp at hi
    obtain ⟨u', e1, e2⟩ := RelL.get h3 hi
    exact ⟨u', by simp [e1], e2⟩
theorem RelL.getr {st : St} {as : List AV} {us : List Value} {i : Nat} {u : Value} (h : RelL st as us) (hi : us[i]? = some u) : ∃ a, as[i]? = some a ∧ RelV st a u := by
  have hl := h.length
  have : i < as.length := by
    rcases Nat.lt_or_ge i us.length with h' | h'
    · omega
    · simp [List.getElem?_eq_none h'] at hi
  obtain ⟨u', e1, e2⟩ := h.get (List.getElem?_eq_getElem this)
  rw [hi] at e1; cases e1
  exact ⟨_, List.getElem?_eq_getElem this, e2⟩
theorem RelL.drop {st : St} : ∀ (n : Nat) {as : List AV} {us : List Value}, RelL st as us → RelL st (as.drop n) (us.drop n)
  | 0, as, us, h => by simpa using h
  | n + 1, [], us, h => by simp only [RelL] at h; simp [h, RelL]
  | n + 1, a :: as, us, h => by
    simp only [RelL] at h
    obtain ⟨u, us', rfl, h2, h3⟩ := h
    simpa using RelL.drop n h3
theorem RelL.take {st : St} : ∀ (n : Nat) {as : List AV} {us : List Value}, RelL st as us → RelL st (as.take n) (us.take n)
  | 0, as, us, h => by simp [RelL]
  | n + 1, [], us, h => by simp only [RelL] at h; simp [h, RelL]
  | n + 1, a :: as, us, h => by
    simp only [RelL] at h
    obtain ⟨u, us', rfl, h2, h3⟩ := h
    simp only [List.take_succ_cons, RelL]
    exact ⟨u, _, rfl, h2, RelL.take n h3⟩
theorem RelL.append {st : St} : ∀ {as bs : List AV} {us vs : List Value}, RelL st as us → RelL st bs vs → RelL st (as ++ bs) (us ++ vs)
  | [], bs, us, vs, h, h' => by simp only [RelL] at h; simpa [h] using h'
  | a :: as, bs, us, vs, h, h' => by
    simp only [RelL] at h
    obtain ⟨u, us', rfl, h2, h3⟩ := h
    simp only [List.cons_append, RelL]
    exact ⟨u, _, rfl, h2, RelL.append h3 h'⟩
theorem RelL.nil {st : St} : RelL st [] [] := by simp [RelL]
theorem RelL.cons {st : St} {a : AV} {as : List AV} {u : Value} {us : List Value} (h : RelV st a u) (h' : RelL st as us) : RelL st (a :: as) (u :: us) := by
  simp only [RelL]; exact ⟨u, us, rfl, h, h'⟩
theorem RelL.uncons {st : St} {a : AV} {as : List AV} {us : List Value} (h : RelL st (a :: as) us) : ∃ u us', us = u :: us' ∧ RelV st a u ∧ RelL st as us' := by
  simpa only [RelL] using h
theorem RelL.lits {st : St} : ∀ (us : List Value), RelL st (us.map .lit) us
  | [] => by simp [RelL]
  | u :: us => by simp only [List.map_cons, RelL]; exact ⟨u, us, rfl, by simp [RelV], RelL.lits us⟩

/-- The cells of an abstract value, where they are known. -/
def AV.cells : AV → Option (List AV)
  | .bad => none
  | .lit v => if v.oneCell' then some [.lit v] else none
  | .agg cs => some cs
  | .tup _ => none
  | a => some [a]

theorem Scal.cells {v : Value} (h : Scal v) : v.cells = #[v] := by cases v <;> first | rfl | exact h.elim
theorem oneCell_of_scal {v : Value} (h : Scal v) : v.oneCell' = true := by cases v <;> first | rfl | exact h.elim
theorem scal_of_oneCell {v : Value} (h : v.oneCell' = true) : Scal v := by cases v <;> first | trivial | (simp [Value.oneCell'] at h)

theorem RelV.cells {st : St} {a : AV} {v : Value} {cs : List AV} (h : RelV st a v) (hc : a.cells = some cs) : RelL st cs v.cells.toList ∧ ∀ u ∈ v.cells.toList, Scal u := by
  have one : Scal v → RelL st [a] v.cells.toList ∧ ∀ u ∈ v.cells.toList, Scal u := fun hs => by rw [hs.cells]; exact ⟨RelL.cons h RelL.nil, fun u hu => by simp at hu; exact hu ▸ hs⟩
  have scalOf : ∀ {id g : Nat} {X : Loc → Prop}, (∀ l, g = l.g → X l → Scal v) → (∃ l : Loc, st.loc[id]? = some l ∧ g ≤ l.g ∧ (g < l.g → Scal v) ∧ (g = l.g → X l)) → Scal v := by
    intro id g X hX h
    obtain ⟨l, _, hle, h1, h2⟩ := h
    by_cases hlt : g < l.g
    · exact h1 hlt
    · exact hX l (by omega) (h2 (by omega))
  cases a <;> simp only [AV.cells, Option.some.injEq, reduceCtorEq] at hc
  case lit u =>
    split at hc
    · rename_i hu
      simp only [Option.some.injEq] at hc; subst hc
      refine one ?_
      simp only [RelV] at h; subst h; exact scal_of_oneCell hu
    · cases hc
  case agg cs' => subst hc; simp only [RelV] at h; obtain ⟨us, rfl, h2, h3⟩ := h; exact ⟨h2, h3⟩
  case vs sz es => subst hc; refine one ?_; simp only [RelV] at h; obtain ⟨_, _, _, rfl, _⟩ := h; trivial
  case vp cs' => subst hc; refine one ?_; simp only [RelV] at h; obtain ⟨_, _, _, rfl, _⟩ := h; trivial
  case mp id g off =>
    subst hc; refine one ?_; simp only [RelV] at h
    exact scalOf (fun l _ hx => by obtain ⟨b, o, r, _, rfl⟩ := hx; trivial) h
  case ms sz id g off len =>
    subst hc; refine one ?_; simp only [RelV] at h
    exact scalOf (fun l _ hx => by obtain ⟨a, cap, rfl, _⟩ := hx; trivial) h
  case es => subst hc; refine one ?_; simp only [RelV] at h; obtain ⟨_, rfl⟩ := h; trivial
  case nni => subst hc; refine one ?_; simp only [RelV] at h; obtain ⟨_, _, rfl⟩ := h; trivial
  case fn f caps => subst hc; refine one ?_; simp only [RelV] at h; obtain ⟨_, rfl, _⟩ := h; unfold fnV; split <;> trivial
  case yl id g =>
    subst hc; refine one ?_; simp only [RelV] at h
    exact scalOf (fun l _ hx => by obtain ⟨b, o, r, _, rfl⟩ := hx; trivial) h

/-! ### Values that name no object -/
mutual
def AV.nid (a : AV) : Bool := match a with
  | .agg cs => AV.nidL cs
  | .tup cs => AV.nidL cs
  | .fn _ cs => AV.nidL cs
  | .mp _ _ _ => false
  | .ms _ _ _ _ _ => false
  | .yl _ _ => false
  | _ => true
def AV.nidL (as : List AV) : Bool := match as with
  | [] => true
  | a :: as => a.nid && AV.nidL as
end
mutual
theorem RelV.nid {st st' : St} (h : ∀ b o c, st.rd b o = some c → st'.rd b o = some c) : ∀ {a : AV} {v : Value}, a.nid = true → RelV st a v → RelV st' a v
  | .bad, _, _, _ => by simp only [RelV]
  | .lit u, v, _, hv => by simp only [RelV] at hv ⊢; exact hv
  | .agg cs, v, hn, hv => by
    simp only [AV.nid] at hn
    simp only [RelV] at hv ⊢
    obtain ⟨us, h1, h2, h3⟩ := hv
    exact ⟨us, h1, RelL.nid h hn h2, h3⟩
  | .tup cs, v, hn, hv => by
    simp only [AV.nid] at hn
    simp only [RelV] at hv ⊢
    obtain ⟨us, h1, h2⟩ := hv
    exact ⟨us, h1, RelL.nid h hn h2⟩
  | .vs sz es, v, _, hv => by
    simp only [RelV] at hv ⊢
    obtain ⟨a, cap, us, h1, hc, h2, h3, h4⟩ := hv
    exact ⟨a, cap, us, h1, hc, RelL.mono (st := st.pure) (st' := st'.pure) ⟨h, fun id l hl => by simp [St.pure] at hl⟩ h2, h3, fun hn => let ⟨b, o, e1, e2⟩ := h4 hn; ⟨b, o, e1, e2.mono h⟩⟩
  | .vp cs, v, _, hv => by
    simp only [RelV] at hv ⊢
    obtain ⟨b, o, us, h1, h2, h3⟩ := hv
    exact ⟨b, o, us, h1, RelL.mono (st := st.pure) (st' := st'.pure) ⟨h, fun id l hl => by simp [St.pure] at hl⟩ h2, h3.mono h⟩
  | .mp _ _ _, v, hn, _ => by simp [AV.nid] at hn
  | .ms _ _ _ _ _, v, hn, _ => by simp [AV.nid] at hn
  | .yl _ _, v, hn, _ => by simp [AV.nid] at hn
  | .es, v, _, hv => by simp only [RelV] at hv ⊢; exact hv
  | .nni, v, _, hv => by simp only [RelV] at hv ⊢; exact hv
  | .fn f caps, v, hn, hv => by
    simp only [AV.nid] at hn
    simp only [RelV] at hv ⊢
    obtain ⟨us, h1, h2⟩ := hv
    exact ⟨us, h1, RelL.nid h hn h2⟩
theorem RelL.nid {st st' : St} (h : ∀ b o c, st.rd b o = some c → st'.rd b o = some c) : ∀ {as : List AV} {us : List Value}, AV.nidL as = true → RelL st as us → RelL st' as us
  | [], us, _, hv => by simp only [RelL] at hv ⊢; exact hv
  | a :: as, us, hn, hv => by
    simp only [AV.nidL, Bool.and_eq_true] at hn
    simp only [RelL] at hv ⊢
    obtain ⟨u, us', h1, h2, h3⟩ := hv
    exact ⟨u, us', h1, RelV.nid h hn.1 h2, RelL.nid h hn.2 h3⟩
end

/-! ### The abstract heap -/
inductive AObj where
  | gone
  | own (g : Nat) (cs : List AV)
  | raw (g : Nat) (o : Obj) (es : List AV) (us : List Value)
  deriving Inhabited

abbrev AHeap := List AObj

def Owned (st : St) (b : Nat) : Prop := ∃ (id : Nat) (l : Loc) (o r : Nat), st.loc[id]? = some l ∧ l.base = some (b, o, r)

def pinO : Obj := .cells #[] 0 (0, 0)

def ObjOk (st : St) (w : World) (l : Loc) : AObj → Prop
  | .gone => l.base = none
  | .own g cs => l.g = g ∧ ∀ b o r, l.base = some (b, o, r) →
      ∃ (arr : Array Value) (T : TypeId) (us : List Value), w.heap[b]? = some (.cells arr T (0, 0)) ∧ o + r ≤ arr.size ∧ cs.length ≤ r ∧ RelL st cs us ∧ (∀ u ∈ us, Scal u) ∧ ∀ i c, us[i]? = some c → arr[o + i]? = some c
  | .raw g ob es us => l.g = g ∧ RelL st es us ∧ ((∃ b o r, l.base = some (b, o, r) ∧ w.heap[b]? = some ob) ∨ (l.base = none ∧ ob = pinO))

structure RelH (st : St) (w : World) (H : AHeap) : Prop where
  len : st.loc.length = H.length
  rd : ∀ b o c, st.rd b o = some c → Scal c ∧ w.cell? ⟨b, o, none⟩ = some c ∧ ¬ Owned st b
  obj : ∀ (id : Nat) (l : Loc) (X : AObj), st.loc[id]? = some l → H[id]? = some X → ObjOk st w l X
  inj : ∀ (id id' : Nat) (l l' : Loc) (b o r o' r' : Nat), st.loc[id]? = some l → st.loc[id']? = some l' → l.base = some (b, o, r) → l'.base = some (b, o', r') → id = id'

/-- How a run may change the world: blocks that are owned, and new ones. -/
structure Ext (st : St) (w : World) (st' : St) (w' : World) : Prop where
  le : st.le st'
  size : w.heap.size ≤ w'.heap.size
  frame : ∀ b, b < w.heap.size → ¬ Owned st b → w'.heap[b]? = w.heap[b]?
  own : ∀ b, Owned st' b → Owned st b ∨ w.heap.size ≤ b
  os : w'.os = w.os
  output : w'.output = w.output
  rdn : ∀ b o c, st'.rd b o = some c → st.rd b o = some c ∨ w.heap.size ≤ b ∨ Owned st b

theorem Ext.refl (st : St) (w : World) : Ext st w st w := ⟨.refl _, Nat.le_refl _, fun _ _ _ => rfl, fun _ h => .inl h, rfl, rfl, fun _ _ _ h => .inl h⟩
theorem Ext.trans {s1 s2 s3 : St} {w1 w2 w3 : World} (h : Ext s1 w1 s2 w2) (h' : Ext s2 w2 s3 w3) : Ext s1 w1 s3 w3 where
  le := h.le.trans h'.le
  size := Nat.le_trans h.size h'.size
  frame := fun b hb ho => by
    rw [h'.frame b (Nat.lt_of_lt_of_le hb h.size) (fun ho2 => (h.own b ho2).elim ho (fun hle => absurd hb (by omega))), h.frame b hb ho]
  own := fun b hb => (h'.own b hb).elim (fun h2 => h.own b h2) (fun h2 => .inr (Nat.le_trans h.size h2))
  os := h'.os.trans h.os
  output := h'.output.trans h.output
  rdn := fun b o c hc => (h'.rdn b o c hc).elim (h.rdn b o c) fun h2 => h2.elim (fun hs => .inr (.inl (Nat.le_trans h.size hs))) fun ho => (h.own b ho).elim (fun h3 => .inr (.inr h3)) fun h3 => .inr (.inl h3)

/-- A world in which only the count of draws differs. -/
theorem RelH.drawn {st : St} {w : World} {H : AHeap} (h : RelH st w H) (n : Nat) : RelH st { w with drawn := n } H :=
  ⟨h.len, h.rd, fun id l X hl hX => by have := h.obj id l X hl hX; cases X <;> exact this, h.inj⟩
theorem Ext.drawn (st : St) (w : World) (n : Nat) : Ext st w st { w with drawn := n } := ⟨.refl _, Nat.le_refl _, fun _ _ _ => rfl, fun _ h => .inl h, rfl, rfl, fun _ _ _ h => .inl h⟩
end Go.Sas
namespace Go.Sas

/-- Operands: a temporary of this region, one that lives on, a constant. -/
inductive Od where
  | l (t : Nat)
  | g (t : Nat)
  | c (a : AV)
  deriving Inhabited

/-- How a value is compared: a number, a truth value, a text, a struct by its fields. -/
inductive ESh where
  | i
  | b
  | s
  | nil
  | fld (off : Nat) (n : Option Nat) (sh rest : ESh)
  deriving Inhabited

inductive AOp where
  | mv (x : Od)
  | pick (c a b : Od)
  | new (zero : List Value)
  | box (x : Od)
  | mk (zero : List Value) (parts : List (Nat × Nat × Od))
  | mks (mu : Bool) (sz : Nat) (xs : List Od)
  | ld (n : Option Nat) (a : Od)
  | st (n : Nat) (a v : Od)
  | nilc (x : Od)
  | bin (op : BinOp) (x y : Od)
  | binb (neg : Bool) (x y : Od)
  | eqs (neg : Bool) (sh : ESh) (x y : Od)
  | eqn (neg : Bool) (x : Od)
  | eqi (neg : Bool) (x : Od)
  | un (op : UnOp) (x : Od)
  | cv (k : IntKind) (x : Od)
  | cvs (x : Od)
  | mkf (f : Nat) (caps : List Od)
  | newl (sz by_ : Nat) (zero : List Value) (l c : Od)
  | newm (sz : Nat) (xs : List Od)
  | mksl (sz bytes : Nat) (zero : List Value) (l c : Od)
  | sl (sz : Nat) (x : Od) (lo hi mx : Option Od)
  | ssl (x : Od) (lo hi : Option Od)
  | fa (x : Od) (off : Nat)
  | fd (n : Option Nat) (x : Od) (off : Nat)
  | ia (sz : Nat) (x i : Od)
  | iaa (len sz : Nat) (x i : Od)
  | ix (len sz : Nat) (n : Option Nat) (x i : Od)
  | sx (x i : Od)
  | ex (x : Od) (i : Nat)
  | len (x : Od)
  | lens (x : Od)
  | lenc (n : Nat)
  | app (sz bytes : Nat) (s x : Od)
  | cpy (sz : Nat) (d s : Od)
  | mx (xs : List Od)
  | mn (xs : List Od)
  | call (f : Od) (args : List Od)
  deriving Inhabited

/-! ### The translation -/
def ofVal : Value → AV
  | .agg us => if us.all (·.oneCell') then .agg (us.toList.map .lit) else .bad
  | v => .lit v

def od (K : List Nat) : Operand → Option Od
  | .tmp t => some (if K.contains t then .g t else .l t)
  | .const v => some (.c (ofVal v))
  | .func f => if f ≤ 999 then some (.c (.fn f [])) else none
  | .global g => some (.c (.lit (.pointer (some ⟨g, 0, none⟩))))

def ods (K : List Nat) : List Operand → Option (List Od)
  | [] => some []
  | x :: xs => match od K x, ods K xs with
    | some y, some ys => some (y :: ys)
    | _, _ => none

def odo (K : List Nat) : Option Operand → Option (Option Od)
  | none => some none
  | some x => (od K x).map some

def szT (P : Program) (t : TypeId) : Option Nat := (P.info? t).map (·.size)
def byT (P : Program) (t : TypeId) : Option Nat := (P.info? t).map (·.bytes)
def shT (P : Program) (t : TypeId) : Option (Option Nat) := match P.underlying t with
  | some (.struct _) | some (.array _ _) => (szT P t).map some
  | some _ => some none
  | none => none
def zrT (P : Program) (t : TypeId) : Option (List Value) := match (P.info? t).bind (·.zero) with
  | some z => if z.cells.all (·.oneCell') then some z.cells.toList else none
  | none => none
/-- a field: its offset, its type; none where it has no cells -/
def flT (P : Program) (s : TypeId) (f : Nat) : Option (Nat × TypeId) := match P.underlying s with
  | some (.struct fs) => match fs[f]? with
    | some x => match szT P x.type with
      | some (_ + 1) => some (x.offset, x.type)
      | _ => none
    | none => none
  | _ => none
def slT (P : Program) (t : TypeId) : Option TypeId := match P.underlying t with
  | some (.slice e) => some e
  | _ => none

def trParts (pl : Nat → Option (Nat × Nat)) (K : List Nat) : List (Nat × Operand) → Option (List (Nat × Nat × Od))
  | [] => some []
  | (i, x) :: r => match pl i, od K x, trParts pl K r with
    | some (off, n), some y, some ys => some ((off, n, y) :: ys)
    | _, _, _ => none

/-- what may be put behind a row: a slice, a string -/
def apT (P : Program) (t : TypeId) : Option Unit := match P.underlying t with
  | some (.slice _) => some ()
  | some .string => some ()
  | _ => none

def trCall (P : Program) (K : List Nat) (c : Call) : Option AOp := match c.callee with
  | .value f => match od K f, ods K c.args.toList with
    | some g, some xs => some (.call g xs)
    | _, _ => none
  | .invoke _ _ => none
  | .builtin b => match b, c.args.toList, c.argTypes.toList with
    | .len, [x], [t] => match P.underlying t, od K x with
      | some (.slice _), some y => some (.len y)
      | some .string, some y => some (.lens y)
      | some (.array n _), some _ => some (.lenc n)
      | _, _ => none
    | .append, [s, x], [ts, tx] => match slT P ts, od K s, od K x with
      | some e, some s', some x' => match szT P e, byT P e, zrT P e, apT P tx with
        | some (sz + 1), some (by_ + 1), some z, some _ => if z.length = sz + 1 then some (.app (sz + 1) (by_ + 1) s' x') else none
        | _, _, _, _ => none
      | _, _, _ => none
    | .copy, [d, s], [td, _] => match slT P td, od K d, od K s with
      | some e, some d', some s' => match szT P e with
        | some (sz + 1) => some (.cpy (sz + 1) d' s')
        | _ => none
      | _, _, _ => none
    | .max, xs, _ => (ods K xs).map .mx
    | .min, xs, _ => (ods K xs).map .mn
    | _, _, _ => none

def eqShT (P : Program) : Nat → TypeId → Option ESh
  | 0, _ => none
  | d + 1, t => match P.underlying t with
    | some .bool => some .b
    | some (.int _) => some .i
    | some .string => some .s
    | some (.struct fs) => if P.stoodInHeld t then none else
      fs.toList.foldr (fun f acc => match acc, (if f.name = "_" then none else eqShT P d f.type), shT P f.type with
        | some r, some sh, some n => some (.fld f.offset n sh r)
        | _, _, _ => none) (some .nil)
    | some (.array n e) => (match eqShT P d e, shT P e, P.info? e with
      | some sh, some m, some _ => if n ≤ 16 then some ((List.range n).foldr (fun i acc => ESh.fld (i * P.cellsOf e) m sh acc) ESh.nil) else none
      | _, _, _ => none)
    | _ => none

def trEqs (P : Program) (t : TypeId) : Option ESh := match eqShT P 8 t with
  | some sh => if P.eqGuardType P.depth t then none else some sh
  | none => none

def trBin (P : Program) (op : BinOp) (t : TypeId) (x y : Od) : Option AOp := match op, P.underlying t with
  | .eql, some .bool => some (.binb false x y)
  | .neq, some .bool => some (.binb true x y)
  | .eql, some (.slice _) => match y with | .c (.lit (.slice none 0 0)) => some (.eqn false x) | _ => none
  | .neq, some (.slice _) => match y with | .c (.lit (.slice none 0 0)) => some (.eqn true x) | _ => none
  | .eql, some (.interface _) => match y with | .c (.lit .nilIface) => some (.eqi false x) | _ => none
  | .neq, some (.interface _) => match y with | .c (.lit .nilIface) => some (.eqi true x) | _ => none
  | .eql, some (.struct _) => (trEqs P t).map fun sh => .eqs false sh x y
  | .neq, some (.struct _) => (trEqs P t).map fun sh => .eqs true sh x y
  | .eql, some (.array _ _) => (trEqs P t).map fun sh => .eqs false sh x y
  | .neq, some (.array _ _) => (trEqs P t).map fun sh => .eqs true sh x y
  | op, some (.int _) => some (.bin op x y)
  | op, some .string => some (.bin op x y)
  | _, _ => none

def trOp (P : Program) (K : List Nat) (mu : Bool) (o : Oper) : Option AOp := match o.op with
  | .move x | .assign x => (od K x).map .mv
  | .pick c a b => match od K c, od K a, od K b with
    | some c', some a', some b' => some (.pick c' a' b')
    | _, _, _ => none
  | .alloc e => match zrT P e with | some z => if z.length = 0 then none else some (.new z) | none => none
  | .box _ x => (od K x).map .box
  | .build t parts => match P.underlying t, zrT P t with
    | some (.struct fs), some z => match fs.toList.mapM (fun f => (P.info? f.type).map fun i => (f.offset, i.size)) with
      | some pls => (trParts (pls[·]?) K parts.toList).map (.mk z)
      | none => none
    | some (.array _ e), some z => match szT P e with
      | some sz => (trParts (fun i => some (i * sz, sz)) K parts.toList).map (.mk z)
      | none => none
    | _, _ => none
  | .buildSlice t len parts => match slT P t with
    | some e => match szT P e, zrT P e with
      | some (sz + 1), some z => if z.length = sz + 1 ∧ parts.toList.map (·.1) = List.range len ∧ len * (sz + 1) ≤ 16777216 then (ods K (parts.toList.map (·.2))).map (.mks mu (sz + 1)) else none
      | _, _ => none
    | none => none
  | .load t a => match shT P t, od K a with
    | some n, some a' => some (.ld n a')
    | _, _ => none
  | .store t a v => match szT P t, od K a, od K v with
    | some n, some a', some v' => some (.st n a' v')
    | _, _, _ => none
  | .nilCheck x => (od K x).map .nilc
  | .binOp op t x y _ => match od K x, od K y with
    | some x', some y' => trBin P op t x' y'
    | _, _ => none
  | .unOp op _ x => (od K x).map (.un op)
  | .convert s d x => match P.underlying s, P.underlying d, od K x with
    | some _, some (.int k), some x' => some (.cv k x')
    | some (.slice e), some .string, some x' => (match P.underlying e with
      | some (.int .u8) => some (.cvs x')
      | _ => none)
    | _, _, _ => none
  | .makeFunc (.func f) first caps => if f ≤ 999 then (if first.size = 0 then (ods K caps.toList).map (.mkf f) else if caps.size = 0 then (ods K first.toList).map (.mkf (f + 1000)) else none) else none
  | .makeSlice t l c => match slT P t with
    | some e => match szT P e, byT P e, zrT P e, od K l, od K c with
      | some (sz + 1), some b, some z, some l', some c' => if z.length = sz + 1 then some (.mksl (sz + 1) b z l' c') else none
      | _, _, _, _, _ => none
    | none => none
  | .slice t x lo hi mx => match P.underlying t, od K x, odo K lo, odo K hi, odo K mx with
    | some (.slice e), some x', some lo', some hi', some mx' => match szT P e with
      | some (sz + 1) => if mx'.isNone || hi'.isSome then some (.sl (sz + 1) x' lo' hi' mx') else none
      | _ => none
    | some .string, some x', some lo', some hi', some none => some (.ssl x' lo' hi')
    | _, _, _, _, _ => none
  | .fieldAddr s x f => match flT P s f, od K x with
    | some (off, _), some x' => some (.fa x' off)
    | _, _ => none
  | .field t x f => match flT P t f, od K x with
    | some (off, ft), some x' => match shT P ft with
      | some n => some (.fd n x' off)
      | none => none
    | _, _ => none
  | .indexAddr t x i => match P.underlying t, od K x, od K i with
    | some (.slice e), some x', some i' => match szT P e with
      | some (sz + 1) => some (.ia (sz + 1) x' i')
      | _ => none
    | some (.array len e), some x', some i' => match szT P e with
      | some (sz + 1) => some (.iaa len (sz + 1) x' i')
      | _ => none
    | _, _, _ => none
  | .index t x i => match P.underlying t, od K x, od K i with
    | some (.array len e), some x', some i' => match szT P e, shT P e with
      | some (sz + 1), some n => some (.ix len (sz + 1) n x' i')
      | _, _ => none
    | some .string, some x', some i' => some (.sx x' i')
    | _, _, _ => none
  | .extract x i => (od K x).map (.ex · i)
  | .call c => trCall P K c
  | _ => none

/-! ### What they yield -/
/-- the object is there, in this state of it -/
def live (H : AHeap) (id g : Nat) : Bool := match H[id]? with
  | some (.own g' _) => g == g'
  | some (.raw g' _ _ _) => g == g'
  | _ => false

def fillA (cells : List AV) : List (Nat × Nat × AV) → Option (List AV)
  | [] => some cells
  | (off, n, a) :: r => match a.cells with
    | some cs => if cs.length = n ∧ off + n ≤ cells.length then fillA (cells.take off ++ cs ++ cells.drop (off + n)) r else none
    | none => none

/-! Arithmetic, under names of its own -/
def iAdd (k : IntKind) (a b : Int) : Int := k.wrap (a + b)
def iSub (k : IntKind) (a b : Int) : Int := k.wrap (a - b)
def iMul (k : IntKind) (a b : Int) : Int := k.wrap (a * b)
def iQuo (k : IntKind) (a b : Int) : Int := k.wrap (a.tdiv b)
def iRem (_ : IntKind) (a b : Int) : Int := a.tmod b
def iAnd (k : IntKind) (a b : Int) : Int := k.wrap ((BitVec.ofInt k.bits a &&& BitVec.ofInt k.bits b).toNat : Int)
def iOr (k : IntKind) (a b : Int) : Int := k.wrap ((BitVec.ofInt k.bits a ||| BitVec.ofInt k.bits b).toNat : Int)
def iXor (k : IntKind) (a b : Int) : Int := k.wrap ((BitVec.ofInt k.bits a ^^^ BitVec.ofInt k.bits b).toNat : Int)
def iShl (k : IntKind) (a b : Int) : Int := k.wrap (a * 2 ^ (min b.toNat k.bits))
def iShr (k : IntKind) (a b : Int) : Int := a.fdiv (2 ^ (min b.toNat k.bits))
def iNeg (k : IntKind) (a : Int) : Int := k.wrap (0 - a)
def iCv (k : IntKind) (a : Int) : Int := k.wrap a
def iEq (a b : Int) : Bool := a == b
def iNe (a b : Int) : Bool := a != b
def iLt (a b : Int) : Bool := decide (a < b)
def iLe (a b : Int) : Bool := decide (a ≤ b)
def iMax (a b : Int) : Int := if b > a then b else a
def iMin (a b : Int) : Int := if b < a then b else a
def iLen (n : Nat) : Int := n
def sEq (a b : ByteArray) : Bool := a.toList == b.toList
def sApp (a b : ByteArray) : ByteArray := a ++ b

/-- numbers of bytes -/
def bytesL : List AV → Option (List Int)
  | [] => some []
  | .lit (.int .u8 n) :: r => match bytesL r with
    | some ns => some (n :: ns)
    | none => none
  | _ => none
def strN (ns : List Int) : ByteArray := ⟨(ns.map fun n => UInt8.ofNat n.toNat).toArray⟩
def binA (op : BinOp) : AV → AV → Option AV
  | .lit (.int k a), .lit (.int k' b) => match op with
    | .shl => if b < 0 then none else some (.lit (.int k (iShl k a b)))
    | .shr => if b < 0 then none else some (.lit (.int k (iShr k a b)))
    | .add => if k = k' then some (.lit (.int k (iAdd k a b))) else none
    | .sub => if k = k' then some (.lit (.int k (iSub k a b))) else none
    | .mul => if k = k' then some (.lit (.int k (iMul k a b))) else none
    | .quo => if k = k' then (if b = 0 then none else some (.lit (.int k (iQuo k a b)))) else none
    | .rem => if k = k' then (if b = 0 then none else some (.lit (.int k (iRem k a b)))) else none
    | .and => if k = k' then some (.lit (.int k (iAnd k a b))) else none
    | .or => if k = k' then some (.lit (.int k (iOr k a b))) else none
    | .xor => if k = k' then some (.lit (.int k (iXor k a b))) else none
    | .andNot => none
    | .eql => if k = k' then some (.lit (.bool (iEq a b))) else none
    | .neq => if k = k' then some (.lit (.bool (iNe a b))) else none
    | .lss => if k = k' then some (.lit (.bool (iLt a b))) else none
    | .leq => if k = k' then some (.lit (.bool (iLe a b))) else none
    | .gtr => if k = k' then some (.lit (.bool (iLt b a))) else none
    | .geq => if k = k' then some (.lit (.bool (iLe b a))) else none
  | .lit (.string a), .lit (.string b) => match op with
    | .eql => some (.lit (.bool (sEq a b)))
    | .neq => some (.lit (.bool (!sEq a b)))
    | .add => if a.size + b.size ≤ 9223372036854775807 then some (.lit (.string (sApp a b))) else none
    | _ => none
  | _, _ => none

def getN (n : Option Nat) (cs : List AV) (off : Nat) : Option AV := match n with
  | none => cs[off]?
  | some k => if off + k ≤ cs.length then some (.agg ((cs.drop off).take k)) else none

def ldA (H : AHeap) (n : Option Nat) : AV → Option AV
  | .vp cs => getN n cs 0
  | .mp id g off => match H[id]? with
    | some (.own g' cs) => if g = g' then getN n cs off else none
    | _ => none
  | _ => none

def nilcA (H : AHeap) : AV → Option AV
  | .vp cs => some (.vp cs)
  | .mp id g off => if live H id g then some (.mp id g off) else none
  | .fn f caps => some (.fn f caps)
  | .yl id g => if live H id g then some (.yl id g) else none
  | _ => none

def faA (H : AHeap) (off : Nat) : AV → Option AV
  | .vp cs => some (.vp (cs.drop off))
  | .mp id g o => if live H id g then some (.mp id g (o + off)) else none
  | _ => none

def iaA (H : AHeap) (sz : Nat) : AV → AV → Option AV
  | .vs sz' es, .lit (.int _ n) => if sz = sz' ∧ 0 ≤ n then (match es[n.toNat]? with
    | some e => match e.cells with
      | some cs => some (.vp cs)
      | none => none
    | none => none) else none
  | .ms sz' id g off len, .lit (.int _ n) => if sz = sz' ∧ 0 ≤ n ∧ n < len ∧ live H id g then some (.mp id g (off + n.toNat * sz)) else none
  | _, _ => none

def iaaA (H : AHeap) (len sz : Nat) : AV → AV → Option AV
  | .vp cs, .lit (.int _ n) => if 0 ≤ n ∧ n < len then some (.vp (cs.drop (n.toNat * sz))) else none
  | .mp id g o, .lit (.int _ n) => if 0 ≤ n ∧ n < len ∧ live H id g then some (.mp id g (o + n.toNat * sz)) else none
  | _, _ => none

def lenA (H : AHeap) : AV → Option AV
  | .vs _ es => some (.lit (.int .i64 (iLen es.length)))
  | .ms _ id g _ len => if live H id g then some (.lit (.int .i64 (iLen len))) else none
  | .es => some (.lit (.int .i64 0))
  | .lit (.slice none 0 0) => some (.lit (.int .i64 0))
  | _ => none

def foldA (f : Int → Int → Int) : AV → List AV → Option AV
  | .lit (.int k a), [] => some (.lit (.int k a))
  | .lit (.int k a), .lit (.int _ b) :: r => foldA f (.lit (.int k (f a b))) r
  | _, _ => none

/-- a bound of a slice expression, if it is a number of the right size -/
def bdA (d : Nat) : Option AV → Option Nat
  | none => some d
  | some (.lit (.int _ n)) => if 0 ≤ n then some n.toNat else none
  | some _ => none

def slA (H : AHeap) (sz : Nat) (x : AV) (lo hi : Option AV) (mx : Option AV) : Option AV := match x with
  | .vs sz' es => match bdA 0 lo, bdA es.length hi with
    | some l, some h => if sz = sz' ∧ l ≤ h ∧ h ≤ es.length then (match mx with
      | none => some (.vs sz ((es.drop l).take (h - l)))
      | some m => match bdA 0 (some m) with
        | some m' => if h ≤ m' ∧ m' ≤ es.length then (if m' = l then some .es else some (.vs sz ((es.drop l).take (h - l)))) else none
        | none => none) else none
    | _, _ => none
  | .ms sz' id g off len => match bdA 0 lo, bdA len hi, mx with
    | some l, some h, none => if sz = sz' ∧ l ≤ h ∧ h ≤ len ∧ live H id g then some (.ms sz id g (off + l * sz) (h - l)) else none
    | some l, some h, some m => match bdA 0 (some m) with
      | some m' => if sz = sz' ∧ l ≤ h ∧ h ≤ len ∧ h ≤ m' ∧ m' ≤ len ∧ live H id g then (if m' = l then some .es else some (.ms sz id g (off + l * sz) (h - l))) else none
      | none => none
    | _, _, _ => none
  | .es => match bdA 0 lo, bdA 0 hi, mx with
    | some 0, some 0, none => some .es
    | _, _, _ => none
  | .lit (.slice none 0 0) => match bdA 0 lo, bdA 0 hi, mx with
    | some 0, some 0, none => some (.lit (.slice none 0 0))
    | _, _, _ => none
  | _ => none

def sslA (x : AV) (lo hi : Option AV) : Option AV := match x with
  | .lit (.string s) => match bdA 0 lo, bdA s.size hi with
    | some l, some h => if l ≤ h ∧ h ≤ s.size then some (.lit (.string (s.extract l h))) else none
    | _, _ => none
  | _ => none

def eqnA (H : AHeap) : AV → Option Bool
  | .lit (.slice none 0 0) => some true
  | .vs _ (_ :: _) => some false
  | .ms _ id g _ (_ + 1) => if live H id g then some false else none
  | _ => none

/-- an interface value held against nil -/
def eqiA : AV → Option Bool
  | .lit .nilIface => some true
  | .nni => some false
  | _ => none

def eqE : ESh → AV → AV → Option Bool
  | .i, .lit (.int k a), .lit (.int k' b) => if k = k' then some (iEq a b) else none
  | .b, .lit (.bool a), .lit (.bool b) => some (a == b)
  | .s, .lit (.string a), .lit (.string b) => some (sEq a b)
  | .nil, .agg _, .agg _ => some true
  | .fld off n sh rest, .agg xs, .agg ys => match getN n xs off, getN n ys off with
    | some a, some b => match eqE sh a b, eqE rest (.agg xs) (.agg ys) with
      | some p, some q => some (p && q)
      | _, _ => none
    | _, _ => none
  | _, _, _ => none

def elemsLen (sz : Nat) (as : List AV) : Bool := as.all fun a => match a.cells with
  | some cs => cs.length == sz
  | none => false

/-- elements that may stand in a slice that nobody writes any more -/
def elemsOk (sz : Nat) (as : List AV) : Bool := AV.nidL as && elemsLen sz as

/-- An operation that changes nothing: its value. -/
def opVal (e : Od → AV) (H : AHeap) : AOp → Option AV
  | .mv x => some (e x)
  | .pick c a b => match e c with
    | .lit (.bool t) => some (if t then e a else e b)
    | _ => none
  | .mk zero parts => (fillA (zero.map .lit) (parts.map fun (o, n, x) => (o, n, e x))).map .agg
  | .mks false sz xs => if xs.length = 0 then some .es else if elemsOk sz (xs.map e) then some (.vs sz (xs.map e)) else none
  | .ld n a => ldA H n (e a)
  | .nilc x => nilcA H (e x)
  | .bin op x y => binA op (e x) (e y)
  | .binb neg x y => match e x, e y with
    | .lit (.bool a), .lit (.bool b) => some (.lit (.bool (if neg then !(a == b) else (a == b))))
    | _, _ => none
  | .eqs neg sh x y => (eqE sh (e x) (e y)).map fun r => .lit (.bool (if neg then !r else r))
  | .eqn neg x => (eqnA H (e x)).map fun r => .lit (.bool (if neg then !r else r))
  | .eqi neg x => (eqiA (e x)).map fun r => .lit (.bool (if neg then !r else r))
  | .un op x => match op, e x with
    | .not, .lit (.bool b) => some (.lit (.bool (!b)))
    | .neg, .lit (.int k n) => some (.lit (.int k (iNeg k n)))
    | _, _ => none
  | .cv k x => match e x with
    | .lit (.int _ n) => some (.lit (.int k (iCv k n)))
    | _ => none
  | .cvs x => match e x with
    | .vs 1 es => match bytesL es with
      | some (n :: ns) => some (.lit (.string (strN (n :: ns))))
      | _ => none
    | _ => none
  | .mkf f caps => some (.fn f (caps.map e))
  | .sl sz x lo hi mx => slA H sz (e x) (lo.map e) (hi.map e) (mx.map e)
  | .ssl x lo hi => sslA (e x) (lo.map e) (hi.map e)
  | .fa x off => faA H off (e x)
  | .fd n x off => match e x with
    | .agg cs => getN n cs off
    | _ => none
  | .ia sz x i => iaA H sz (e x) (e i)
  | .iaa len sz x i => iaaA H len sz (e x) (e i)
  | .ix len sz n x i => match e x, e i with
    | .agg cs, .lit (.int _ m) => if 0 ≤ m ∧ m < len then getN n cs (m.toNat * sz) else none
    | _, _ => none
  | .sx x i => match e x, e i with
    | .lit (.string s), .lit (.int _ m) => if 0 ≤ m then (match s[m.toNat]? with
      | some b => some (.lit (.int .u8 b.toNat))
      | none => none) else none
    | _, _ => none
  | .ex x i => match e x with
    | .tup vs => vs[i]?
    | _ => none
  | .len x => lenA H (e x)
  | .lens x => match e x with
    | .lit (.string s) => some (.lit (.int .i64 (iLen s.size)))
    | _ => none
  | .lenc n => some (.lit (.int .i64 n))
  | .mx xs => match xs.map e with
    | a :: r => foldA iMax a r
    | [] => none
  | .mn xs => match xs.map e with
    | a :: r => foldA iMin a r
    | [] => none
  | _ => none

/-- the cells that a string shows -/
def strC (s : ByteArray) : List AV := s.data.toList.map fun b => .lit (.int .u8 (b.toNat : Int))
/-- the cells that a value of a slice type, or a string, shows -/
def cellsOfSl (H : AHeap) (sz : Nat) : AV → Option (List AV)
  | .vs sz' es => if sz = sz' then es.foldr (fun e acc => match e.cells, acc with | some cs, some r => some (cs ++ r) | _, _ => none) (some []) else none
  | .ms sz' id g off len => match H[id]? with
    | some (.own g' cs) => if sz = sz' ∧ g = g' ∧ off + len * sz ≤ cs.length then some ((cs.drop off).take (len * sz)) else none
    | _ => none
  | .es => some []
  | .lit (.slice none 0 0) => some []
  | .lit (.string s) => if sz = 1 then some (strC s) else none
  | _ => none

def lenOfSl : AV → Option Nat
  | .vs _ es => some es.length
  | .ms _ _ _ _ len => some len
  | .es => some 0
  | .lit (.slice none 0 0) => some 0
  | .lit (.string s) => some s.size
  | _ => none

/-- An operation that writes or makes objects. -/
def opAct (e : Od → AV) (H : AHeap) : AOp → Option (AV × AHeap)
  | .new zero => some (.mp H.length 0 0, H ++ [.own 0 (zero.map .lit)])
  | .box x => match (e x).cells with
    | some cs => some (.mp H.length 0 0, H ++ [.own 0 cs])
    | none => none
  | .st n a v => match e a, (e v).cells with
    | .mp id g off, some xs => match H[id]? with
      | some (.own g' cs) => if g = g' ∧ xs.length = n ∧ off + n ≤ cs.length then some (.lit undef, H.set id (.own g (cs.take off ++ xs ++ cs.drop (off + n)))) else none
      | _ => none
    | _, _ => none
  | .mks true sz xs => match cellsOfSl H sz (.vs sz (xs.map e)) with
    | some cs => if elemsLen sz (xs.map e) then some (.ms sz H.length 0 0 xs.length, H ++ [.own 0 cs]) else none
    | none => none
  | .mksl sz by_ zero l c => match e l, e c with
    | .lit (.int .i64 ln), .lit (.int .i64 cp) => if 0 ≤ ln ∧ ln ≤ cp ∧ cp ≤ 9223372036854775807 ∧ by_ * cp ≤ 281474976710656 ∧ zero.length = sz then
        some (.ms sz H.length 0 0 ln.toNat, H ++ [.own 0 (List.flatten (List.replicate ln.toNat (zero.map .lit)))]) else none
    | _, _ => none
  | .app sz by_ s x => match cellsOfSl H sz (e x), lenOfSl (e x) with
    | some xs, some n => (match e s with
      | .ms sz' id g off len => match H[id]? with
        | some (.own g' cs) => if sz = sz' ∧ g = g' ∧ off + len * sz ≤ cs.length ∧ (len + n) * by_ ≤ 140737488355328 then
            some (.ms sz id (g + 1) 0 (len + n), H.set id (.own (g + 1) ((cs.drop off).take (len * sz) ++ xs))) else none
        | _ => none
      | .es => if n * by_ ≤ 140737488355328 then some (.ms sz H.length 0 0 n, H ++ [.own 0 xs]) else none
      | .lit (.slice none 0 0) => if n * by_ ≤ 140737488355328 then some (.ms sz H.length 0 0 n, H ++ [.own 0 xs]) else none
      | _ => none)
    | _, _ => none
  | .cpy sz d s => match cellsOfSl H sz (e s), lenOfSl (e s), e d with
    | some xs, some n, .ms sz' id g off len => match H[id]? with
      | some (.own g' cs) => if sz = sz' ∧ g = g' ∧ off + len * sz ≤ cs.length then
          some (.lit (.int .i64 ((min n len : Nat) : Int)), H.set id (.own g (cs.take off ++ xs.take (min n len * sz) ++ cs.drop (off + min n len * sz)))) else none
      | _ => none
    | _, _, _ => none
  | _ => none
end Go.Sas
namespace Go.Sas
variable {P : Program} {K : List Nat} {st : St} {w : World} {H : AHeap} {ρ : Operand → Value} {e : Od → AV}

theorem St.pure_le (st : St) : st.pure.le st := ⟨fun _ _ _ h => h, fun id l hl => by simp [St.pure] at hl⟩

theorem relV_ofVal (st : St) (v : Value) : RelV st (ofVal v) v := by
  unfold ofVal
  split
  · rename_i us
    split
    · rename_i h
      simp only [RelV]
      exact ⟨us, rfl, RelL.lits _, fun u hu => scal_of_oneCell (by simpa using (Array.all_eq_true'.1 h) u (by simpa using hu))⟩
    · simp only [RelV]
  · simp only [RelV]

/-- operands fit -/
def RelO (st : St) (K : List Nat) (e : Od → AV) (ρ : Operand → Value) : Prop := ∀ x y, od K x = some y → RelV st (e y) (ρ x)

theorem RelO.mono {st' : St} (h : RelO st K e ρ) (hle : st.le st') : RelO st' K e ρ := fun x y hy => (h x y hy).mono hle

theorem RelO.list (h : RelO st K e ρ) : ∀ {xs : List Operand} {ys : List Od}, ods K xs = some ys → RelL st (ys.map e) (xs.map ρ)
  | [], ys, hy => by simp only [ods, Option.some.injEq] at hy; subst hy; exact RelL.nil
  | x :: xs, ys, hy => by
    simp only [ods] at hy
    split at hy
    · rename_i y ys' h1 h2
      simp only [Option.some.injEq] at hy; subst hy
      exact RelL.cons (h x y h1) (RelO.list h h2)
    · cases hy

theorem live_mp {id g : Nat} (hH : RelH st w H) (hl : live H id g = true) {l : Loc} (h1 : st.loc[id]? = some l) : l.g = g := by
  unfold live at hl
  split at hl
  · rename_i g' cs hX
    have := hH.obj id l _ h1 hX
    simp only [ObjOk] at this
    simp at hl; omega
  · rename_i g' o hX
    have := hH.obj id l _ h1 hX
    simp only [ObjOk] at this
    simp at hl; omega
  · cases hl

theorem relV_mp_live {id g off : Nat} {v : Value} (hH : RelH st w H) (hl : live H id g = true) (hv : RelV st (.mp id g off) v) :
    ∃ l b o r, st.loc[id]? = some l ∧ l.g = g ∧ l.base = some (b, o, r) ∧ v = .pointer (some ⟨b, o + off, none⟩) := by
  simp only [RelV] at hv
  obtain ⟨l, h1, h2, h3, h4⟩ := hv
  have hg := live_mp hH hl h1
  obtain ⟨b, o, r, h5, h6⟩ := h4 hg.symm
  exact ⟨l, b, o, r, h1, hg, h5, h6⟩

theorem relV_ms_live {sz id g off len : Nat} {v : Value} (hH : RelH st w H) (hl : live H id g = true) (hv : RelV st (.ms sz id g off len) v) :
    ∃ l a cap, st.loc[id]? = some l ∧ l.g = g ∧ v = .slice a len cap ∧ len ≤ cap ∧ (0 < cap → ∃ b o r, l.base = some (b, o, r) ∧ a = some ⟨b, o + off, none⟩ ∧ off + cap * sz ≤ r) := by
  simp only [RelV] at hv
  obtain ⟨l, h1, h2, h3, h4⟩ := hv
  have hg := live_mp hH hl h1
  obtain ⟨a, cap, h5, h6, h7⟩ := h4 hg.symm
  exact ⟨l, a, cap, h1, hg, h5, h6, h7⟩

theorem live_of_own {id g : Nat} {cs : List AV} (h : H[id]? = some (.own g cs)) : live H id g = true := by simp [live, h]

/-- the cells behind a live pointer to an object -/
theorem own_cells {id g : Nat} {cs : List AV} (hH : RelH st w H) (hX : H[id]? = some (.own g cs)) {l : Loc} (h1 : st.loc[id]? = some l) {b o r : Nat} (hb : l.base = some (b, o, r)) :
    ∃ us, RelL st cs us ∧ (∀ u ∈ us, Scal u) ∧ ∀ i c, us[i]? = some c → w.cell? ⟨b, o + i, none⟩ = some c := by
  have := hH.obj id l _ h1 hX
  simp only [ObjOk] at this
  obtain ⟨_, h⟩ := this
  obtain ⟨arr, T, us, ha, _, _, h3, h4, h5⟩ := h b o r hb
  exact ⟨us, h3, h4, fun i c hc => by simp [World.cell?, ha, h5 i c hc]⟩

theorem run_underlying' {t : TypeId} {d : TypeDesc} (h : P.underlying t = some d) : (underlying t).run P w = .ok d w := run_underlying h w
theorem run_sizeOf' {t : TypeId} {n : Nat} (h : szT P t = some n) : (sizeOf t).run P w = .ok n w := by
  unfold szT at h
  obtain ⟨i, hi, rfl⟩ := Option.map_eq_some_iff.1 h
  simp [sizeOf, typeInfo, hi]

theorem run_isAgg_none {t : TypeId} (h : shT P t = some none) : (isAgg t).run P w = .ok false w := by
  unfold shT at h
  split at h
  · rename_i fs hu; cases hz : szT P t <;> simp [hz] at h
  · rename_i n m hu; cases hz : szT P t <;> simp [hz] at h
  · rename_i d hn1 hn2 hu
    simp only [isAgg, Sem.run_bind, run_underlying' hu, Result.andThen_ok]
    rfl
  · cases h
theorem run_isAgg_some {t : TypeId} {k : Nat} (h : shT P t = some (some k)) : (isAgg t).run P w = .ok true w ∧ szT P t = some k := by
  unfold shT at h
  split at h
  · rename_i fs hu
    cases hz : szT P t <;> simp [hz] at h
    exact ⟨by simp [isAgg, run_underlying' hu], by simpa [hz] using h⟩
  · rename_i n m hu
    cases hz : szT P t <;> simp [hz] at h
    exact ⟨by simp [isAgg, run_underlying' hu], by simpa [hz] using h⟩
  · cases h
  · cases h

theorem getN_sound {t : TypeId} {n : Option Nat} {cs : List AV} {us : List Value} {b o off : Nat} {r : AV} (hs : shT P t = some n)
    (hr : RelL st cs us) (hsc : ∀ u ∈ us, Scal u) (hc : ∀ i c, us[i]? = some c → w.cell? ⟨b, o + i, none⟩ = some c) (hg : getN n cs off = some r) :
    ∃ v, (loadVar t ⟨b, o + off, none⟩).run P w = .ok v w ∧ RelV st r v := by
  cases n with
  | none =>
    simp only [getN] at hg
    obtain ⟨u, hu, hru⟩ := hr.get hg
    refine ⟨u, ?_, hru⟩
    simp only [loadVar, Sem.run_bind, run_isAgg_none hs, Result.andThen_ok, Bool.false_eq_true, if_false, run_load, hc off u hu]
  | some k =>
    simp only [getN] at hg
    split at hg
    · rename_i hle
      simp only [Option.some.injEq] at hg
      subst hg
      obtain ⟨h1, h2⟩ := run_isAgg_some (w := w) hs
      have hlen := hr.length
      have hl : ((us.drop off).take k).length = k := by simp; omega
      have hload := run_loadCells_list (P := P) w ⟨b, o + off, none⟩ ((us.drop off).take k) (fun j v hv => by
        have hj : j < k := by
          rcases Nat.lt_or_ge j k with h | h
          · exact h
          · rw [List.getElem?_eq_none (by omega)] at hv; cases hv
        rw [List.getElem?_take_of_lt hj, List.getElem?_drop] at hv
        have := hc (off + j) v hv
        have ha : (⟨b, o + off, none⟩ : Addr).add j = ⟨b, o + (off + j), none⟩ := by unfold Addr.add; split <;> simp_all [Nat.add_assoc]
        rw [ha]; exact this)
      rw [hl] at hload
      refine ⟨.agg ((us.drop off).take k).toArray, ?_, ?_⟩
      · simp only [loadVar, Sem.run_bind, h1, Result.andThen_ok, if_true, run_sizeOf' h2, hload]
        rfl
      · simp only [RelV]
        exact ⟨_, rfl, by simpa using (hr.drop off).take k, fun u hu => hsc u (List.mem_of_mem_drop (List.mem_of_mem_take (by simpa using hu)))⟩
    · cases hg

theorem getN_part {t : TypeId} {n : Option Nat} {cs : List AV} {us : Array Value} {off : Nat} {r : AV} (hs : shT P t = some n)
    (hr : RelL st cs us.toList) (hsc : ∀ u ∈ us.toList, Scal u) (hg : getN n cs off = some r) :
    ∃ v, (part t us off).run P w = .ok v w ∧ RelV st r v := by
  cases n with
  | none =>
    simp only [getN] at hg
    obtain ⟨u, hu, hru⟩ := hr.get hg
    refine ⟨u, ?_, hru⟩
    have : us[off]? = some u := by simpa using hu
    simp [part, run_isAgg_none hs, this]
  | some k =>
    simp only [getN] at hg
    split at hg
    · rename_i hle
      simp only [Option.some.injEq] at hg
      subst hg
      obtain ⟨h1, h2⟩ := run_isAgg_some (w := w) hs
      refine ⟨.agg (us.extract off (off + k)), ?_, ?_⟩
      · simp [part, h1, run_sizeOf' h2]
      · simp only [RelV]
        have he : (us.extract off (off + k)).toList = (us.toList.drop off).take k := by simp [Array.toList_extract]
        refine ⟨_, rfl, ?_, ?_⟩
        · rw [he]; exact (hr.drop off).take k
        · rw [he]; exact fun u hu => hsc u (List.mem_of_mem_drop (List.mem_of_mem_take hu))
    · cases hg

theorem rd_cells (hH : RelH st w H) {b o : Nat} {us : List Value} (h : RdAt st.rd b o us) :
    (∀ u ∈ us, Scal u) ∧ ∀ i c, us[i]? = some c → w.cell? ⟨b, o + i, none⟩ = some c :=
  ⟨fun u hu => by obtain ⟨i, hi⟩ := List.mem_iff_getElem?.1 hu; exact (hH.rd _ _ _ (h i u hi)).1, fun i c hc => (hH.rd _ _ _ (h i c hc)).2.1⟩

theorem ld_sound {t : TypeId} {n : Option Nat} {a r : AV} {v : Value} (hs : shT P t = some n) (hH : RelH st w H) (hv : RelV st a v) (hr : ldA H n a = some r) :
    ∃ u, (Instr.loadAt t v).run P w = .ok u w ∧ RelV st r u := by
  unfold ldA at hr
  split at hr
  · rename_i cs
    simp only [RelV] at hv
    obtain ⟨b, o, us, rfl, h2, h3⟩ := hv
    obtain ⟨h4, h5⟩ := rd_cells hH h3
    obtain ⟨u, hu, hru⟩ := getN_sound (P := P) hs (h2.mono st.pure_le) h4 h5 hr
    exact ⟨u, by simpa [Instr.loadAt, Instr.sureAddr] using hu, hru⟩
  · rename_i id g off
    split at hr
    · rename_i g' cs hX
      split at hr
      · rename_i hgg; subst hgg
        obtain ⟨l, b, o, r', h1, h2, h3, rfl⟩ := relV_mp_live hH (live_of_own hX) hv
        obtain ⟨us, h4, h5, h6⟩ := own_cells hH hX h1 h3
        obtain ⟨u, hu, hru⟩ := getN_sound (P := P) hs h4 h5 h6 hr
        exact ⟨u, by simpa [Instr.loadAt, Instr.sureAddr] using hu, hru⟩
      · cases hr
    · cases hr
  · cases hr

theorem nilc_sound {a r : AV} {v : Value} {o : Oper} {x : Operand} (ho : o.op = .nilCheck x) (hx : ρ x = v) (hH : RelH st w H) (hv : RelV st a v) (hr : nilcA H a = some r) :
    (execOp ρ o).run P w = .ok (.value v) w ∧ RelV st r v := by
  unfold nilcA at hr
  split at hr
  · simp only [Option.some.injEq] at hr; subst hr
    refine ⟨?_, hv⟩
    simp only [RelV] at hv
    obtain ⟨b, o', us, rfl, _⟩ := hv
    simp [execOp, ho, hx]
  · split at hr
    · rename_i hl
      simp only [Option.some.injEq] at hr; subst hr
      refine ⟨?_, hv⟩
      obtain ⟨_, _, _, _, _, _, _, rfl⟩ := relV_mp_live hH hl hv
      simp [execOp, ho, hx]
    · cases hr
  · simp only [Option.some.injEq] at hr; subst hr
    refine ⟨?_, hv⟩
    simp only [RelV] at hv
    obtain ⟨us, rfl, _⟩ := hv
    unfold fnV at hx ⊢
    split at hx <;> rename_i hl <;> simp [execOp, ho, hx, hl]
  · split at hr
    · rename_i hl
      simp only [Option.some.injEq] at hr; subst hr
      refine ⟨?_, hv⟩
      simp only [RelV] at hv
      obtain ⟨l, h1, h2, h3, h4⟩ := hv
      obtain ⟨b, o', r', _, rfl⟩ := h4 (live_mp hH hl h1).symm
      simp [execOp, ho, hx]
    · cases hr
  · cases hr

theorem addr_add (b o n : Nat) : (⟨b, o, none⟩ : Addr).add n = ⟨b, o + n, none⟩ := by unfold Addr.add; split <;> simp_all

theorem flT_spec {s : TypeId} {f off : Nat} {ft : TypeId} (h : flT P s f = some (off, ft)) :
    ∃ fs x n, P.underlying s = some (.struct fs) ∧ fs[f]? = some x ∧ x.offset = off ∧ x.type = ft ∧ szT P ft = some (n + 1) := by
  unfold flT at h
  split at h
  · rename_i fs hu
    split at h
    · rename_i x hx
      split at h
      · rename_i n hn
        simp only [Option.some.injEq, Prod.mk.injEq] at h
        obtain ⟨rfl, rfl⟩ := h
        exact ⟨fs, x, n, hu, hx, rfl, rfl, hn⟩
      · cases h
    · cases h
  · cases h

theorem fa_sound {s : TypeId} {f off : Nat} {ft : TypeId} {a r : AV} {v : Value} (hf : flT P s f = some (off, ft)) (hH : RelH st w H) (hv : RelV st a v) (hr : faA H off a = some r) :
    ∃ u, (Instr.fieldAt s v f).run P w = .ok u w ∧ RelV st r u := by
  obtain ⟨fs, x, n, hu, hx, rfl, rfl, hn⟩ := flT_spec hf
  have key : ∀ b o : Nat, (Instr.fieldAt s (.pointer (some ⟨b, o, none⟩)) f).run P w = .ok (.pointer (some ⟨b, o + x.offset, none⟩)) w := by
    intro b o
    simp [Instr.fieldAt, run_underlying' hu, hx, Instr.sureAddr, fieldPlace, run_sizeOf' hn, addr_add]
  unfold faA at hr
  split at hr
  · simp only [Option.some.injEq] at hr; subst hr
    simp only [RelV] at hv
    obtain ⟨b, o, us, rfl, h2, h3⟩ := hv
    refine ⟨_, key b o, ?_⟩
    simp only [RelV]
    exact ⟨b, o + x.offset, us.drop x.offset, rfl, h2.drop _, fun i c hc => by rw [List.getElem?_drop] at hc; rw [Nat.add_assoc]; exact h3 _ c hc⟩
  · rename_i id g o
    split at hr
    · rename_i hl
      simp only [Option.some.injEq] at hr; subst hr
      obtain ⟨l, b, o', r', h1, h2, h3, rfl⟩ := relV_mp_live hH hl hv
      refine ⟨_, key b (o' + o), ?_⟩
      simp only [RelV]
      exact ⟨l, h1, by omega, fun h => absurd h (by omega), fun _ => ⟨b, o', r', h3, by simp [Nat.add_assoc]⟩⟩
    · cases hr
  · cases hr

/-! ### The cells of a slice's elements, of one size each -/
theorem flat_get {sz : Nat} : ∀ {us : List Value} {i : Nat} {u : Value}, (∀ u ∈ us, u.cells.size = sz) → us[i]? = some u → ∀ j c, u.cells.toList[j]? = some c → (flat us)[i * sz + j]? = some c
  | [], i, u, _, h, _, _, _ => by simp at h
  | x :: us, 0, u, hs, h, j, c, hc => by
    simp at h; subst h
    have : j < x.cells.toList.length := by
      rcases Nat.lt_or_ge j x.cells.toList.length with h' | h'
      · exact h'
      · rw [List.getElem?_eq_none h'] at hc; cases hc
    simp only [flat, List.flatMap_cons, Nat.zero_mul, Nat.zero_add]
    rw [List.getElem?_append_left this]; exact hc
  | x :: us, i + 1, u, hs, h, j, c, hc => by
    simp at h
    have ih := flat_get (fun u hu => hs u (by simp [hu])) h j c hc
    have hx : x.cells.toList.length = sz := by simpa using hs x (by simp)
    simp only [flat, List.flatMap_cons] at ih ⊢
    rw [List.getElem?_append_right (by rw [hx, Nat.add_mul]; omega), hx]
    rw [← ih]; congr 1; rw [Nat.add_mul]; omega
theorem flat_length {sz : Nat} : ∀ {us : List Value}, (∀ u ∈ us, u.cells.size = sz) → (flat us).length = us.length * sz
  | [], _ => by simp [flat]
  | x :: us, hs => by
    have hx : x.cells.toList.length = sz := by simpa using hs x (by simp)
    have ih := flat_length (us := us) (fun u hu => hs u (by simp [hu]))
    simp only [flat, List.flatMap_cons, List.length_append, List.length_cons] at ih ⊢
    rw [ih, hx, Nat.add_mul]; omega
theorem flat_drop {sz : Nat} : ∀ (n : Nat) {us : List Value}, (∀ u ∈ us, u.cells.size = sz) → flat (us.drop n) = (flat us).drop (n * sz)
  | 0, us, _ => by simp
  | n + 1, [], _ => by simp [flat]
  | n + 1, x :: us, hs => by
    have hx : x.cells.toList.length = sz := by simpa using hs x (by simp)
    have ih := flat_drop n (us := us) (fun u hu => hs u (by simp [hu]))
    simp only [List.drop_succ_cons, ih]
    simp only [flat, List.flatMap_cons]
    rw [Nat.add_mul, Nat.one_mul, Nat.add_comm, List.drop_append, hx]
    simp [← hx]
theorem flat_take {sz : Nat} : ∀ (n : Nat) {us : List Value}, (∀ u ∈ us, u.cells.size = sz) → flat (us.take n) = (flat us).take (n * sz)
  | 0, us, _ => by simp [flat]
  | n + 1, [], _ => by simp [flat]
  | n + 1, x :: us, hs => by
    have hx : x.cells.toList.length = sz := by simpa using hs x (by simp)
    have ih := flat_take n (us := us) (fun u hu => hs u (by simp [hu]))
    simp only [List.take_succ_cons]
    simp only [flat, List.flatMap_cons] at ih ⊢
    have e1 : List.take (sz + n * sz) x.cells.toList = x.cells.toList := List.take_of_length_le (by omega)
    rw [ih, Nat.add_mul, Nat.one_mul, Nat.add_comm, List.take_append, hx, e1, show sz + n * sz - sz = n * sz by omega]

theorem ia_sound {t e' : TypeId} {sz : Nat} {a i r : AV} {v vi : Value} (hu : P.underlying t = some (.slice e')) (hz : szT P e' = some sz) (hH : RelH st w H) (hv : RelV st a v) (hi : RelV st i vi)
    (hr : iaA H sz a i = some r) : ∃ u, (Instr.indexAt t v vi).run P w = .ok u w ∧ RelV st r u := by
  unfold iaA at hr
  split at hr
  · rename_i sz' es k n
    split at hr
    · rename_i hc
      obtain ⟨rfl, hn⟩ := hc
      split at hr
      · rename_i el hel
        split at hr
        · rename_i cs hcs
          simp only [Option.some.injEq] at hr; subst hr
          simp only [RelV] at hi; subst hi
          simp only [RelV] at hv
          obtain ⟨a', cap, us, rfl, hcap, h2, h3, h4⟩ := hv
          have hlt : n.toNat < es.length := (List.getElem?_eq_some_iff.1 hel).1
          obtain ⟨b, o, rfl, h5⟩ := h4 (by intro h; simp [h] at hlt)
          obtain ⟨u, hu1, hu2⟩ := h2.get hel
          refine ⟨.pointer (some ⟨b, o + n.toNat * sz, none⟩), ?_, ?_⟩
          · have hb : 0 ≤ n ∧ n < (es.length : Int) := ⟨hn, by omega⟩
            simp [Instr.indexAt, asIntOf, run_underlying' hu, hb, run_sizeOf' hz, addr_add]
          · simp only [RelV]
            refine ⟨b, o + n.toNat * sz, u.cells.toList, rfl, (hu2.cells hcs).1, fun j c hc => ?_⟩
            rw [Nat.add_assoc]; exact h5 _ c (flat_get h3 hu1 j c hc)
        · cases hr
      · cases hr
    · cases hr
  · rename_i sz' id g off len k n
    split at hr
    · rename_i hc
      obtain ⟨rfl, hn, hlt, hl⟩ := hc
      simp only [Option.some.injEq] at hr; subst hr
      simp only [RelV] at hi; subst hi
      obtain ⟨l, a', cap, h1, h2, rfl, h3, h4⟩ := relV_ms_live hH hl hv
      obtain ⟨b, o, r', h5, rfl, h6⟩ := h4 (by omega)
      refine ⟨.pointer (some ⟨b, o + off + n.toNat * sz, none⟩), ?_, ?_⟩
      · simp [Instr.indexAt, asIntOf, run_underlying' hu, hn, hlt, run_sizeOf' hz, addr_add]
      · simp only [RelV]
        exact ⟨l, h1, by omega, fun h => absurd h (by omega), fun _ => ⟨b, o, r', h5, by simp [Nat.add_assoc]⟩⟩
    · cases hr
  · cases hr

theorem iaa_sound {t e' : TypeId} {len sz : Nat} {a i r : AV} {v vi : Value} (hu : P.underlying t = some (.array len e')) (hz : szT P e' = some sz) (hH : RelH st w H) (hv : RelV st a v) (hi : RelV st i vi)
    (hr : iaaA H len sz a i = some r) : ∃ u, (Instr.indexAt t v vi).run P w = .ok u w ∧ RelV st r u := by
  have key : ∀ (b o : Nat) (k : IntKind) (n : Int), 0 ≤ n → n < (len : Int) → (Instr.indexAt t (.pointer (some ⟨b, o, none⟩)) (.int k n)).run P w = .ok (.pointer (some ⟨b, o + n.toNat * sz, none⟩)) w := by
    intro b o k n h1 h2
    simp [Instr.indexAt, asIntOf, run_underlying' hu, h1, h2, run_sizeOf' hz, addr_add, Instr.sureAddr]
  unfold iaaA at hr
  split at hr
  · rename_i cs k n
    split at hr
    · rename_i hc
      simp only [Option.some.injEq] at hr; subst hr
      simp only [RelV] at hi; subst hi
      simp only [RelV] at hv
      obtain ⟨b, o, us, rfl, h2, h3⟩ := hv
      refine ⟨_, key b o k n hc.1 hc.2, ?_⟩
      simp only [RelV]
      exact ⟨b, o + n.toNat * sz, us.drop (n.toNat * sz), rfl, h2.drop _, fun i c hc => by rw [List.getElem?_drop] at hc; rw [Nat.add_assoc]; exact h3 _ c hc⟩
    · cases hr
  · rename_i id g o k n
    split at hr
    · rename_i hc
      obtain ⟨hn, hlt, hl⟩ := hc
      simp only [Option.some.injEq] at hr; subst hr
      simp only [RelV] at hi; subst hi
      obtain ⟨l, b, o', r', h1, h2, h3, rfl⟩ := relV_mp_live hH hl hv
      refine ⟨_, key b (o' + o) k n hn hlt, ?_⟩
      simp only [RelV]
      exact ⟨l, h1, by omega, fun h => absurd h (by omega), fun _ => ⟨b, o', r', h3, by simp [Nat.add_assoc]⟩⟩
    · cases hr
  · cases hr
end Go.Sas
namespace Go.Sas
variable {P : Program} {K : List Nat} {st : St} {w : World} {H : AHeap} {ρ : Operand → Value} {e : Od → AV}

theorem relLit {st : St} {u : Value} : RelV st (.lit u) u := by simp only [RelV]

theorem bin_sound {op : BinOp} {t : TypeId} {x y : Operand} {a b r : AV} {va vb : Value} (ha : RelV st a va) (hb : RelV st b vb) (hr : binA op a b = some r) :
    ∃ v, (do eqGuard op t x y va vb; binOp op t va vb : Sem Value).run P w = .ok v w ∧ RelV st r v := by
  unfold binA at hr
  split at hr
  · rename_i k i k' j
    simp only [RelV] at ha hb
    subst ha; subst hb
    cases op <;> simp only at hr
    case shl => split at hr <;> simp at hr; subst hr; rename_i h; refine ⟨_, ?_, relLit⟩; simp [eqGuard, binOp, Op.shift, h, iShl, iShr]
    case shr => split at hr <;> simp at hr; subst hr; rename_i h; refine ⟨_, ?_, relLit⟩; simp [eqGuard, binOp, Op.shift, h, iShl, iShr]
    case quo =>
      split at hr <;> simp at hr
      obtain ⟨hj, rfl⟩ := hr; rename_i h; subst h
      refine ⟨_, ?_, relLit⟩; simp [eqGuard, binOp, Op.intDiv, hj, iQuo, iRem]
    case rem =>
      split at hr <;> simp at hr
      obtain ⟨hj, rfl⟩ := hr; rename_i h; subst h
      refine ⟨_, ?_, relLit⟩; simp [eqGuard, binOp, Op.intDiv, hj, iQuo, iRem]
    case andNot => cases hr
    case add => split at hr <;> simp at hr; subst hr; rename_i h; subst h; refine ⟨_, ?_, relLit⟩; simp [eqGuard, binOp, Op.intArith, iAdd, iSub, iMul]
    case sub => split at hr <;> simp at hr; subst hr; rename_i h; subst h; refine ⟨_, ?_, relLit⟩; simp [eqGuard, binOp, Op.intArith, iAdd, iSub, iMul]
    case mul => split at hr <;> simp at hr; subst hr; rename_i h; subst h; refine ⟨_, ?_, relLit⟩; simp [eqGuard, binOp, Op.intArith, iAdd, iSub, iMul]
    case and => split at hr <;> simp at hr; subst hr; rename_i h; subst h; refine ⟨_, ?_, relLit⟩; simp [eqGuard, binOp, Op.intBits, iAnd, iOr, iXor]
    case or => split at hr <;> simp at hr; subst hr; rename_i h; subst h; refine ⟨_, ?_, relLit⟩; simp [eqGuard, binOp, Op.intBits, iAnd, iOr, iXor]
    case xor => split at hr <;> simp at hr; subst hr; rename_i h; subst h; refine ⟨_, ?_, relLit⟩; simp [eqGuard, binOp, Op.intBits, iAnd, iOr, iXor]
    case eql => split at hr <;> simp at hr; subst hr; rename_i h; subst h; refine ⟨_, ?_, relLit⟩; simp [eqGuard, binOp, Op.intCmp, iEq, iNe, iLt, iLe]
    case neq => split at hr <;> simp at hr; subst hr; rename_i h; subst h; refine ⟨_, ?_, relLit⟩; simp [eqGuard, binOp, Op.intCmp, iEq, iNe, iLt, iLe]
    case lss => split at hr <;> simp at hr; subst hr; rename_i h; subst h; refine ⟨_, ?_, relLit⟩; simp [eqGuard, binOp, Op.intCmp, iEq, iNe, iLt, iLe]
    case leq => split at hr <;> simp at hr; subst hr; rename_i h; subst h; refine ⟨_, ?_, relLit⟩; simp [eqGuard, binOp, Op.intCmp, iEq, iNe, iLt, iLe]
    case gtr => split at hr <;> simp at hr; subst hr; rename_i h; subst h; refine ⟨_, ?_, relLit⟩; simp [eqGuard, binOp, Op.intCmp, iEq, iNe, iLt, iLe]
    case geq => split at hr <;> simp at hr; subst hr; rename_i h; subst h; refine ⟨_, ?_, relLit⟩; simp [eqGuard, binOp, Op.intCmp, iEq, iNe, iLt, iLe]
  · rename_i s s'
    simp only [RelV] at ha hb
    subst ha; subst hb
    cases op <;> simp only [Option.some.injEq, reduceCtorEq] at hr
    case eql => subst hr; refine ⟨_, ?_, relLit⟩; simp [eqGuard, binOp, Op.stringOp, sEq]
    case neq => subst hr; refine ⟨_, ?_, relLit⟩; simp [eqGuard, binOp, Op.stringOp, sEq]
    case add =>
      split at hr <;> simp at hr
      subst hr; rename_i h
      refine ⟨_, ?_, relLit⟩
      have h' : ¬ ((s.size + s'.size : Nat) : Int) > IntKind.i64.max := by
        have : IntKind.i64.max = 9223372036854775807 := by decide
        omega
      simp only [eqGuard, binOp, Op.stringOp, Sem.run_bind, Result.andThen, sApp]
      simp
      simpa using h'
  · cases hr

theorem binb_sound {t : TypeId} {x y : Operand} {neg i j : Bool} (hu : P.underlying t = some .bool) :
    (do eqGuard (if neg then .neq else .eql) t x y (.bool i) (.bool j); binOp (if neg then .neq else .eql) t (.bool i) (.bool j) : Sem Value).run P w = .ok (.bool (if neg then !(i == j) else (i == j))) w := by
  have h : ∀ d, (Op.equalIn (d + 1) t (.bool i) (.bool j)).run P w = .ok (i == j) w := fun d => by simp [Op.equalIn, run_underlying' hu]
  cases neg <;> simp [eqGuard, binOp, Op.equal, Op.maxDepth, h 9999]

theorem eqn_sound {t e' : TypeId} {x y : Operand} {neg : Bool} {a : AV} {v : Value} {r : Bool} (hu : P.underlying t = some (.slice e')) (hH : RelH st w H) (ha : RelV st a v) (hr : eqnA H a = some r) :
    (do eqGuard (if neg then .neq else .eql) t x y v (.slice none 0 0); binOp (if neg then .neq else .eql) t v (.slice none 0 0) : Sem Value).run P w = .ok (.bool (if neg then !r else r)) w := by
  have h : ∀ d (a : Option Addr) (n c : Nat), (Op.equalIn (d + 1) t (.slice a n c) (.slice none 0 0)).run P w = .ok a.isNone w := fun d a n c => by cases a <;> simp [Op.equalIn, run_underlying' hu]
  unfold eqnA at hr
  split at hr
  · simp only [Option.some.injEq] at hr; subst hr
    simp only [RelV] at ha; subst ha
    cases neg <;> simp [eqGuard, binOp, Op.equal, Op.maxDepth, h 9999]
  · simp only [Option.some.injEq] at hr; subst hr
    simp only [RelV] at ha
    obtain ⟨a', cap, us, rfl, hc, h2, h3, h4⟩ := ha
    obtain ⟨b, o, rfl, _⟩ := h4 (by simp)
    cases neg <;> simp [eqGuard, binOp, Op.equal, Op.maxDepth, h 9999]
  · split at hr
    · rename_i hl
      simp only [Option.some.injEq] at hr; subst hr
      obtain ⟨l, a', cap, _, _, rfl, hc, h4⟩ := relV_ms_live hH hl ha
      obtain ⟨b, o, r', _, rfl, _⟩ := h4 (by omega)
      cases neg <;> simp [eqGuard, binOp, Op.equal, Op.maxDepth, h 9999]
    · cases hr
  · cases hr

theorem eqi_sound {t : TypeId} {ms : Array (String × TypeId)} {x : Operand} {c : Value} {neg : Bool} {a : AV} {v : Value} {r : Bool} (hu : P.underlying t = some (.interface ms)) (ha : RelV st a v) (hr : eqiA a = some r) :
    (do eqGuard (if neg then .neq else .eql) t x (.const c) v .nilIface; binOp (if neg then .neq else .eql) t v .nilIface : Sem Value).run P w = .ok (.bool (if neg then !r else r)) w := by
  have h1 : ∀ d, (Op.equalIn (d + 1) t .nilIface .nilIface).run P w = .ok true w := fun d => by simp [Op.equalIn, run_underlying' hu]
  have h2 : ∀ d T u, (Op.equalIn (d + 1) t (.iface T u) .nilIface).run P w = .ok false w := fun d T u => by simp [Op.equalIn, run_underlying' hu]
  unfold eqiA at hr
  split at hr
  · simp only [Option.some.injEq] at hr; subst hr
    simp only [RelV] at ha; subst ha
    cases neg <;> simp [eqGuard, binOp, Op.equal, Op.maxDepth, h1 9999]
  · simp only [Option.some.injEq] at hr; subst hr
    simp only [RelV] at ha
    obtain ⟨T, u, rfl⟩ := ha
    cases neg <;> simp [eqGuard, binOp, Op.equal, Op.maxDepth, h2 9999]
  · cases hr

theorem eqE_b {a b : AV} {r : Bool} (h : eqE .b a b = some r) : ∃ x y, a = .lit (.bool x) ∧ b = .lit (.bool y) ∧ r = (x == y) := by
  unfold eqE at h
  split at h
  all_goals first
    | (cases h; done)
    | (rename_i x y hs; simp only [Option.some.injEq] at h; exact ⟨_, _, rfl, rfl, h.symm⟩)
    | (rename_i hs; cases hs; done)
    | (simp_all; done)
theorem eqE_i {a b : AV} {r : Bool} (h : eqE .i a b = some r) : ∃ k x y, a = .lit (.int k x) ∧ b = .lit (.int k y) ∧ r = (x == y) := by
  unfold eqE at h
  split at h
  all_goals first
    | (cases h; done)
    | (split at h
       · rename_i hk; subst hk; simp only [Option.some.injEq, iEq] at h; exact ⟨_, _, _, rfl, rfl, h.symm⟩
       · cases h)
    | (simp_all; done)
theorem eqE_s {a b : AV} {r : Bool} (h : eqE .s a b = some r) : ∃ x y, a = .lit (.string x) ∧ b = .lit (.string y) ∧ r = (x.toList == y.toList) := by
  unfold eqE at h
  split at h
  all_goals first
    | (cases h; done)
    | (simp only [Option.some.injEq, sEq] at h; exact ⟨_, _, rfl, rfl, h.symm⟩)
    | (simp_all; done)
theorem eqE_nil {a b : AV} {r : Bool} (h : eqE .nil a b = some r) : ∃ x y, a = .agg x ∧ b = .agg y ∧ r = true := by
  unfold eqE at h
  split at h
  all_goals first
    | (cases h; done)
    | (simp only [Option.some.injEq] at h; exact ⟨_, _, rfl, rfl, h.symm⟩)
    | (simp_all; done)
theorem eqE_fld {a b : AV} {r : Bool} {off : Nat} {n : Option Nat} {sh rest : ESh} (h : eqE (.fld off n sh rest) a b = some r) :
    ∃ xs ys x y p q, a = .agg xs ∧ b = .agg ys ∧ getN n xs off = some x ∧ getN n ys off = some y ∧ eqE sh x y = some p ∧ eqE rest a b = some q ∧ r = (p && q) := by
  unfold eqE at h
  split at h
  all_goals first
    | (cases h; done)
    | skip
  all_goals first
    | (rename_i hs; cases hs; done)
    | skip
  all_goals first
    | (rename_i hs
       simp only [ESh.fld.injEq] at hs
       obtain ⟨rfl, rfl, rfl, rfl⟩ := hs
       split at h
       · rename_i x y hx hy
         split at h
         · rename_i p q hp hq
           simp only [Option.some.injEq] at h
           exact ⟨_, _, x, y, p, q, rfl, rfl, hx, hy, hp, hq, h.symm⟩
         · cases h
       · cases h)
    | (split at h
       · rename_i x y hx hy
         split at h
         · rename_i p q hp hq
           simp only [Option.some.injEq] at h
           exact ⟨_, _, x, y, p, q, rfl, rfl, hx, hy, hp, hq, h.symm⟩
         · cases h
       · cases h)

theorem eqE_sound : ∀ (d : Nat) {t : TypeId} {sh : ESh} {a b : AV} {va vb : Value} {r : Bool}, eqShT P d t = some sh → RelV st a va → RelV st b vb → eqE sh a b = some r →
    ∀ d', d ≤ d' → (Op.equalIn d' t va vb).run P w = .ok r w
  | 0, t, sh, a, b, va, vb, r, ht, _, _, _, _, _ => by simp [eqShT] at ht
  | d + 1, t, sh, a, b, va, vb, r, ht, ha, hb, hr, 0, hd => by omega
  | d + 1, t, sh, a, b, va, vb, r, ht, ha, hb, hr, d' + 1, hd => by
    simp only [eqShT] at ht
    split at ht
    · rename_i hu
      simp only [Option.some.injEq] at ht; subst ht
      obtain ⟨x, y, rfl, rfl, rfl⟩ := eqE_b hr
      simp only [RelV] at ha hb; subst ha; subst hb
      exact run_equalIn_bool w d' t _ _ hu
    · rename_i k0 hu
      simp only [Option.some.injEq] at ht; subst ht
      obtain ⟨k, x, y, rfl, rfl, rfl⟩ := eqE_i hr
      simp only [RelV] at ha hb; subst ha; subst hb
      exact run_equalIn_int w d' t _ _ _ _ hu
    · rename_i hu
      simp only [Option.some.injEq] at ht; subst ht
      obtain ⟨x, y, rfl, rfl, rfl⟩ := eqE_s hr
      simp only [RelV] at ha hb; subst ha; subst hb
      exact run_equalIn_string w d' t _ _ hu
    · rename_i fs hu
      split at ht
      · cases ht
      · rename_i hp
        have hfs : P.fieldsOf t = fs := by simp [Program.fieldsOf, hu]
        have key : ∀ (l : List Field) (sh : ESh) (r : Bool), l.foldr (fun f acc => match acc, (if f.name = "_" then none else eqShT P d f.type), shT P f.type with
            | some r, some sh, some n => some (ESh.fld f.offset n sh r)
            | _, _, _ => none) (some .nil) = some sh → eqE sh a b = some r → ∃ xs ys : Array Value, va = .agg xs ∧ vb = .agg ys ∧ (Op.eqFields d' xs ys l).run P w = .ok r w := by
          intro l
          induction l with
          | nil =>
            intro sh r h1 h2
            simp only [List.foldr_nil, Option.some.injEq] at h1; subst h1
            obtain ⟨x, y, rfl, rfl, rfl⟩ := eqE_nil h2
            simp only [RelV] at ha hb
            obtain ⟨xs, rfl, _⟩ := ha
            obtain ⟨ys, rfl, _⟩ := hb
            exact ⟨xs, ys, rfl, rfl, by simp [Op.eqFields]⟩
          | cons f l ih =>
            intro sh r h1 h2
            simp only [List.foldr_cons] at h1
            split at h1
            · rename_i r0 sh0 n0 h3 h4 h5
              simp only [Option.some.injEq] at h1; subst h1
              split at h4
              · cases h4
              · rename_i hname
                obtain ⟨xs, ys, x, y, p, q, rfl, rfl, hx, hy, hp, hq, rfl⟩ := eqE_fld h2
                obtain ⟨us, vs, e1, e2, h6⟩ := ih _ _ h3 hq
                subst e1; subst e2
                have ha' := ha; have hb' := hb
                simp only [RelV] at ha' hb'
                obtain ⟨us', e1, hL, hs⟩ := ha'
                obtain ⟨vs', e2, hL2, hs2⟩ := hb'
                cases e1; cases e2
                obtain ⟨v1, g1, g2⟩ := getN_part (P := P) (w := w) h5 hL hs hx
                obtain ⟨v2, g3, g4⟩ := getN_part (P := P) (w := w) h5 hL2 hs2 hy
                have g5 := eqE_sound d h4 g2 g4 hp d' (by omega)
                refine ⟨us, vs, rfl, rfl, ?_⟩
                simp only [Op.eqFields, ne_eq, hname, not_false_eq_true, if_true, Sem.run_bind, g1, g3, g5, Result.andThen_ok]
                cases p
                · simp
                · simpa using h6
            · cases h1
        obtain ⟨xs, ys, rfl, rfl, h⟩ := key fs.toList sh r ht hr
        rw [run_equalIn_struct w d' t xs ys (by rw [hfs]; exact hu) (by simpa using hp), hfs]
        exact h
    · rename_i n e hu
      split at ht
      · rename_i sh0 m0 i0 h1 h2 h3
        split at ht
        · simp only [Option.some.injEq] at ht; subst ht
          have key : ∀ (is : List Nat) (r : Bool), eqE (is.foldr (fun i acc => ESh.fld (i * P.cellsOf e) m0 sh0 acc) ESh.nil) a b = some r → ∃ xs ys : Array Value, va = .agg xs ∧ vb = .agg ys ∧ (Op.eqItems d' e (P.cellsOf e) xs ys is).run P w = .ok r w := by
            intro is
            induction is with
            | nil =>
              intro r h4
              obtain ⟨x, y, rfl, rfl, rfl⟩ := eqE_nil h4
              simp only [RelV] at ha hb
              obtain ⟨xs, rfl, _⟩ := ha
              obtain ⟨ys, rfl, _⟩ := hb
              exact ⟨xs, ys, rfl, rfl, by simp [Op.eqItems]⟩
            | cons j is ih =>
              intro r h4
              rw [List.foldr_cons] at h4
              obtain ⟨xs, ys, x, y, p, q, rfl, rfl, hx, hy, hp, hq, rfl⟩ := eqE_fld h4
              obtain ⟨us, vs, e1, e2, h6⟩ := ih _ hq
              subst e1; subst e2
              have ha' := ha; have hb' := hb
              simp only [RelV] at ha' hb'
              obtain ⟨us', e1, hL, hs⟩ := ha'
              obtain ⟨vs', e2, hL2, hs2⟩ := hb'
              cases e1; cases e2
              obtain ⟨v1, g1, g2⟩ := getN_part (P := P) (w := w) h2 hL hs hx
              obtain ⟨v2, g3, g4⟩ := getN_part (P := P) (w := w) h2 hL2 hs2 hy
              have g5 := eqE_sound d h1 g2 g4 hp d' (by omega)
              refine ⟨us, vs, rfl, rfl, ?_⟩
              simp only [Op.eqItems, Sem.run_bind, g1, g3, g5, Result.andThen_ok]
              cases p
              · simp
              · simpa using h6
          obtain ⟨xs, ys, rfl, rfl, h⟩ := key _ r hr
          rw [run_equalIn_array w d' xs ys hu h3]
          exact h
        · cases ht
      · cases ht
    · cases ht

theorem eqE_agg {sh : ESh} {a b : AV} {va vb : Value} {r : Bool} {t : TypeId} (hu : (∃ fs, P.underlying t = some (.struct fs)) ∨ ∃ n e, P.underlying t = some (.array n e)) (hs : eqShT P 8 t = some sh) (ha : RelV st a va) (hb : RelV st b vb) (hr : eqE sh a b = some r) :
    ∃ xs ys, va = .agg xs ∧ vb = .agg ys := by
  have fin : ∀ x y, a = .agg x → b = .agg y → ∃ xs ys, va = .agg xs ∧ vb = .agg ys := by
    rintro x y rfl rfl
    simp only [RelV] at ha hb
    obtain ⟨xs, rfl, _⟩ := ha
    obtain ⟨ys, rfl, _⟩ := hb
    exact ⟨_, _, rfl, rfl⟩
  rw [eqShT] at hs
  rcases hu with ⟨fs, hu⟩ | ⟨n, e, hu⟩
  case inr =>
    simp only [hu] at hs
    split at hs
    · split at hs
      · simp only [Option.some.injEq] at hs; subst hs
        cases n with
        | zero =>
          obtain ⟨x, y, h1, h2, _⟩ := eqE_nil hr
          exact fin x y h1 h2
        | succ n =>
          rw [List.range_succ_eq_map, List.foldr_cons] at hr
          obtain ⟨x, y, _, _, _, _, h1, h2, _⟩ := eqE_fld hr
          exact fin x y h1 h2
      · cases hs
    · cases hs
  simp only [hu] at hs
  split at hs
  · cases hs
  · cases hl : fs.toList with
    | nil =>
      rw [hl] at hs
      simp only [List.foldr_nil, Option.some.injEq] at hs; subst hs
      obtain ⟨x, y, h1, h2, _⟩ := eqE_nil hr
      exact fin x y h1 h2
    | cons f l =>
      rw [hl, List.foldr_cons] at hs
      split at hs
      · simp only [Option.some.injEq] at hs; subst hs
        obtain ⟨x, y, _, _, _, _, h1, h2, _⟩ := eqE_fld hr
        exact fin x y h1 h2
      · cases hs

theorem eqs_sound {t : TypeId} {x y : Operand} {neg : Bool} {sh : ESh} {a b : AV} {va vb : Value} {r : Bool} (hu : (∃ fs, P.underlying t = some (.struct fs)) ∨ ∃ n e, P.underlying t = some (.array n e)) (hs : trEqs P t = some sh) (ha : RelV st a va) (hb : RelV st b vb) (hr : eqE sh a b = some r) :
    (do eqGuard (if neg then .neq else .eql) t x y va vb; binOp (if neg then .neq else .eql) t va vb : Sem Value).run P w = .ok (.bool (if neg then !r else r)) w := by
  unfold trEqs at hs
  split at hs
  · rename_i sh' hs'
    split at hs
    · cases hs
    · rename_i hg
      simp only [Option.some.injEq] at hs; subst hs
      have h := eqE_sound (w := w) 8 hs' ha hb hr 10000 (by decide)
      obtain ⟨xs, ys, rfl, rfl⟩ := eqE_agg hu hs' ha hb hr
      have hg' := run_eqGuard_agg (P := P) w (if neg then .neq else .eql) t x y xs ys (by simpa using hg)
      simp only [Sem.run_bind, hg', Result.andThen_ok]
      cases neg
      · simp only [Bool.false_eq_true, if_false, run_eql_struct, h, Result.andThen_ok]
      · simp only [if_true, run_neq_struct, h, Result.andThen_ok]
  · cases hs

theorem len_sound {t ty e' : TypeId} {a r : AV} {v : Value} (hu : P.underlying t = some (.slice e')) (hH : RelH st w H) (ha : RelV st a v) (hr : lenA H a = some r) :
    ∃ u, (Builtin.len_ #[t] ty #[v]).run P w = .ok u w ∧ RelV st r u := by
  unfold lenA at hr
  have key : ∀ (a : Option Addr) (n c : Nat), (Builtin.len_ #[t] ty #[.slice a n c]).run P w = .ok (.int .i64 n) w := fun a n c => by
    simp [Builtin.len_, run_underlying' hu, goInt]
  split at hr
  · simp only [Option.some.injEq] at hr; subst hr
    simp only [RelV] at ha
    obtain ⟨a', cap, us, rfl, hc, h2, h3, h4⟩ := ha
    exact ⟨_, key _ _ _, relLit⟩
  · split at hr
    · rename_i hl
      simp only [Option.some.injEq] at hr; subst hr
      obtain ⟨l, a', cap, _, _, rfl, hc, h4⟩ := relV_ms_live hH hl ha
      exact ⟨_, key _ _ _, relLit⟩
    · cases hr
  · simp only [Option.some.injEq] at hr; subst hr
    simp only [RelV] at ha
    obtain ⟨a', rfl⟩ := ha
    exact ⟨_, key _ _ _, relLit⟩
  · simp only [Option.some.injEq] at hr; subst hr
    simp only [RelV] at ha; subst ha
    exact ⟨_, key _ _ _, relLit⟩
  · cases hr

theorem mx_sound {f : Int → Int → Int} {m2 : Value → Value → Sem Value} (hm : ∀ (k k' : IntKind) (a b : Int), m2 (.int k a) (.int k' b) = Pure.pure (.int k (f a b))) :
    ∀ {as : List AV} {us : List Value} {a r : AV} {u : Value}, RelV st a u → RelL st as us → foldA f a as = some r → ∃ v, (us.foldlM m2 u).run P w = .ok v w ∧ RelV st r v
  | [], us, a, r, u, ha, hl, hr => by
    simp only [RelL] at hl; subst hl
    unfold foldA at hr
    split at hr
    · simp only [Option.some.injEq] at hr; subst hr
      exact ⟨u, by simp, ha⟩
    · rename_i h; cases h
    · cases hr
  | b :: as, us, a, r, u, ha, hl, hr => by
    obtain ⟨u', us', rfl, hb, hl'⟩ := hl.uncons
    unfold foldA at hr
    split at hr
    · rename_i h; cases h
    · rename_i k i k' j rest heq
      obtain ⟨rfl, rfl⟩ := List.cons.inj heq
      simp only [RelV] at ha hb
      subst ha; subst hb
      obtain ⟨v, h1, h2⟩ := mx_sound hm (a := .lit (.int k (f i j))) (u := .int k (f i j)) (by simp only [RelV]) hl' hr
      exact ⟨v, by simp [hm, h1], h2⟩
    · cases hr

theorem bd_run {x : Option AV} {v : Option Value} {d n y : Nat} {code : BoundsCode} (hx : bdA d x = some n) (hv : ∀ a, x = some a → ∃ u, v = some u ∧ RelV st a u) (hn : x = none → v = none) (hle : n ≤ y) :
    (match (generalizing := false) v with
      | some v => Instr.sliceBound v y code
      | none => Pure.pure d : Sem Nat).run P w = .ok n w := by
  cases x with
  | none => rw [hn rfl]; simp only [bdA, Option.some.injEq] at hx; subst hx; rfl
  | some a =>
    obtain ⟨u, rfl, hu⟩ := hv a rfl
    unfold bdA at hx
    split at hx
    · rename_i h; cases h
    · rename_i k m h
      cases h
      split at hx
      · rename_i hm
        simp only [Option.some.injEq] at hx; subst hx
        simp only [RelV] at hu; subst hu
        have h1 : m ≤ (y : Int) := by omega
        simp [Instr.sliceBound, asIntOf, hm, h1]
      · cases hx
    · cases hx

/-- optional operands fit -/
def RelOpt (st : St) (x : Option AV) (v : Option Value) : Prop := (∀ a, x = some a → ∃ u, v = some u ∧ RelV st a u) ∧ (x = none → v = none)

theorem RelO.opt (h : RelO st K e ρ) {x : Option Operand} {y : Option Od} (hy : odo K x = some y) : RelOpt st (y.map e) (x.map ρ) := by
  cases x with
  | none => simp only [odo, Option.some.injEq] at hy; subst hy; exact ⟨fun a h => by simp at h, fun _ => rfl⟩
  | some x =>
    simp only [odo] at hy
    obtain ⟨z, hz, rfl⟩ := Option.map_eq_some_iff.1 hy
    exact ⟨fun a ha => by simp at ha; subst ha; exact ⟨ρ x, rfl, h x z hz⟩, fun h => by simp at h⟩

theorem bounds_run {isSlice : Bool} {len cap l h m : Nat} {lo hi mx : Option AV} {vlo vhi vmx : Option Value} (h1 : RelOpt st lo vlo) (h2 : RelOpt st hi vhi) (h3 : RelOpt st mx vmx)
    (e1 : bdA 0 lo = some l) (e2 : bdA len hi = some h) (e3 : bdA cap mx = some m) (hmx : mx = none ∨ hi ≠ none) (hl : l ≤ h) (hh : h ≤ m) (hm : m ≤ cap) :
    (Instr.sliceBounds isSlice len cap vlo vhi vmx).run P w = .ok (l, h, m) w := by
  have r3 : (match (generalizing := false) vmx with | some v => Instr.sliceBound v cap (if isSlice then .slice3Acap else .slice3Alen) | none => Pure.pure cap : Sem Nat).run P w = .ok m w := bd_run e3 h3.1 h3.2 hm
  have r1 : ∀ c : BoundsCode, (match (generalizing := false) vlo with | some v => Instr.sliceBound v h c | none => Pure.pure 0 : Sem Nat).run P w = .ok l w := fun c => bd_run e1 h1.1 h1.2 hl
  have r2 : ∀ c : BoundsCode, (match (generalizing := false) vhi with | some v => Instr.sliceBound v m c | none => Pure.pure len : Sem Nat).run P w = .ok h w := fun c => bd_run e2 h2.1 h2.2 hh
  have hn : vhi = none → vmx = none := by
    intro hv
    rcases hmx with h' | h'
    · exact h3.2 h'
    · exfalso
      cases hi with
      | none => exact h' rfl
      | some a => obtain ⟨u, hu, _⟩ := h2.1 a rfl; rw [hv] at hu; cases hu
  have r1n : vlo = none → l = 0 := fun hv => by have := r1 .index; subst hv; simp at this; exact this.symm
  have r2n : vhi = none → h = len := fun hv => by have := r2 .index; subst hv; simp at this; exact this.symm
  have r3n : vmx = none → m = cap := fun hv => by subst hv; simp at r3; exact r3.symm
  have r1s : ∀ v, vlo = some v → ∀ c, (Instr.sliceBound v h c).run P w = .ok l w := fun v hv c => by have := r1 c; subst hv; exact this
  have r2s : ∀ v, vhi = some v → ∀ c, (Instr.sliceBound v m c).run P w = .ok h w := fun v hv c => by have := r2 c; subst hv; exact this
  have r3s : ∀ v, vmx = some v → (Instr.sliceBound v cap (if isSlice then .slice3Acap else .slice3Alen)).run P w = .ok m w := fun v hv => by subst hv; exact r3
  clear r1 r2 r3 e1 e2 e3 h1 h2 h3
  unfold Instr.sliceBounds
  cases vmx with
  | none =>
    have := r3n rfl; subst this
    cases vhi with
    | none =>
      have := r2n rfl; subst this
      cases vlo with
      | none => have := r1n rfl; subst this; simp
      | some vl => simp [r1s vl rfl]
    | some vh =>
      cases vlo with
      | none => have := r1n rfl; subst this; simp [r2s vh rfl]
      | some vl => simp [r1s vl rfl, r2s vh rfl]
  | some vm =>
    cases vhi with
    | none => exact absurd (hn rfl) (by simp)
    | some vh =>
      cases vlo with
      | none => have := r1n rfl; subst this; simp [r2s vh rfl, r3s vm rfl]
      | some vl => simp [r1s vl rfl, r2s vh rfl, r3s vm rfl]

theorem mul_split {l c sz : Nat} (h : l ≤ c) : l * sz + (c - l) * sz = c * sz := by rw [← Nat.add_mul, Nat.add_sub_cancel' h]

theorem sl_sound {t e' : TypeId} {sz : Nat} {a r : AV} {v : Value} {lo hi mx : Option AV} {vlo vhi vmx : Option Value} (hu : P.underlying t = some (.slice e')) (hz : szT P e' = some sz)
    (h1 : RelOpt st lo vlo) (h2 : RelOpt st hi vhi) (h3 : RelOpt st mx vmx) (hmx : mx = none ∨ hi ≠ none) (hH : RelH st w H) (ha : RelV st a v) (hr : slA H sz a lo hi mx = some r) :
    ∃ u, (Instr.sliceAt t v vlo vhi vmx).run P w = .ok u w ∧ RelV st r u := by
  have key : ∀ (a : Option Addr) (len cap l h m : Nat), (Instr.sliceBounds true len cap vlo vhi vmx).run P w = .ok (l, h, m) w →
      (Instr.sliceAt t (.slice a len cap) vlo vhi vmx).run P w = .ok (.slice (if m = l then a else a.map (·.add (l * sz))) (h - l) (m - l)) w := fun a len cap l h m hb => by
    simp [Instr.sliceAt, Instr.slice, run_underlying' hu, hb, run_sizeOf' hz]
  unfold slA at hr
  split at hr
  · rename_i sz' es
    split at hr
    · rename_i l h el eh
      split at hr
      · rename_i hc
        obtain ⟨rfl, hlh, hhl⟩ := hc
        simp only [RelV] at ha
        obtain ⟨a', cap, us, rfl, hcap, g2, g3, g4⟩ := ha
        -- the part that is left
        have part : ∀ m, h ≤ m → RelV st (.vs sz ((es.drop l).take (h - l))) (.slice (if m = l then a' else a'.map (·.add (l * sz))) (h - l) (m - l)) := by
          intro m hm
          simp only [RelV]
          refine ⟨_, m - l, (us.drop l).take (h - l), by congr 1; simp; omega, by simp; omega, (g2.drop l).take _, fun u hu => g3 u (List.mem_of_mem_drop (List.mem_of_mem_take hu)), fun hne => ?_⟩
          have hlt : l < h := by
            rcases Nat.lt_or_ge l h with h' | h'
            · exact h'
            · exact absurd (by simp; omega) hne
          obtain ⟨b, o, rfl, g5⟩ := g4 (by intro h0; simp [h0] at hhl; omega)
          rw [if_neg (by omega)]
          refine ⟨b, o + l * sz, by simp [addr_add], fun i c hc => ?_⟩
          have g6 : flat ((us.drop l).take (h - l)) = ((flat us).drop (l * sz)).take ((h - l) * sz) := by
            rw [flat_take _ (fun u hu => g3 u (List.mem_of_mem_drop hu)), flat_drop _ g3]
          rw [g6] at hc
          have hi' : i < (h - l) * sz := by
            rcases Nat.lt_or_ge i ((h - l) * sz) with h' | h'
            · exact h'
            · rw [List.getElem?_eq_none (by simp; omega)] at hc; cases hc
          rw [List.getElem?_take_of_lt hi', List.getElem?_drop] at hc
          rw [Nat.add_assoc]; exact g5 _ c hc
        split at hr
        · simp only [Option.some.injEq] at hr; subst hr
          exact ⟨_, key _ _ _ l h cap (bounds_run h1 h2 h3 el eh (by simp [bdA]) hmx hlh (by omega) (Nat.le_refl _)), part cap (by omega)⟩
        · rename_i m
          split at hr
          · rename_i m' em
            split at hr
            · rename_i hc
              have hb := bounds_run (P := P) (w := w) (isSlice := true) (cap := cap) h1 h2 h3 el eh (m := m') (by unfold bdA at em ⊢; split at em <;> simp_all) hmx hlh hc.1 (by omega)
              split at hr
              · rename_i hml
                simp only [Option.some.injEq] at hr; subst hr
                refine ⟨_, key _ _ _ l h m' hb, ?_⟩
                simp only [RelV]
                exact ⟨_, by rw [show h - l = 0 by omega, show m' - l = 0 by omega]⟩
              · simp only [Option.some.injEq] at hr; subst hr
                exact ⟨_, key _ _ _ l h m' hb, part m' hc.1⟩
            · cases hr
          · cases hr
      · cases hr
    · cases hr
  · rename_i sz' id g off len
    split at hr
    · rename_i l h el eh
      split at hr
      · rename_i hc
        obtain ⟨rfl, hlh, hhl, hlv⟩ := hc
        simp only [Option.some.injEq] at hr; subst hr
        obtain ⟨ll, a', cap, g1, g2, rfl, g3, g4⟩ := relV_ms_live hH hlv ha
        have hhc : h ≤ cap := by omega
        have hlc : h - l ≤ cap - l := by omega
        have hg1 : g ≤ ll.g := by omega
        have hg2 : ¬ g < ll.g := by omega
        refine ⟨_, key _ _ _ l h cap (bounds_run h1 h2 h3 el eh (by simp [bdA]) hmx hlh hhc (Nat.le_refl _)), ?_⟩
        simp only [RelV]
        refine ⟨ll, g1, hg1, fun h => absurd h hg2, fun _ => ⟨_, cap - l, rfl, hlc, fun hpos => ?_⟩⟩
        obtain ⟨b, o, r', g5, rfl, g6⟩ := g4 (by omega)
        refine ⟨b, o, r', g5, ?_, ?_⟩
        · rw [if_neg (by omega)]; simp [addr_add, Nat.add_assoc]
        · have := mul_split (sz := sz) (Nat.le_trans hlh hhc)
          omega
      · cases hr
    · rename_i l h m el eh
      split at hr
      · rename_i m' em
        split at hr
        · rename_i hc
          obtain ⟨rfl, hlh, hhl, hhm, hml, hlv⟩ := hc
          obtain ⟨ll, a', cap, g1, g2, rfl, g3, g4⟩ := relV_ms_live hH hlv ha
          have hb := bounds_run (P := P) (w := w) (isSlice := true) (cap := cap) h1 h2 h3 el eh (m := m') (by unfold bdA at em ⊢; split at em <;> simp_all) hmx hlh hhm (by omega)
          split at hr
          · simp only [Option.some.injEq] at hr; subst hr
            refine ⟨_, key _ _ _ l h m' hb, ?_⟩
            simp only [RelV]
            exact ⟨_, by rw [show h - l = 0 by omega, show m' - l = 0 by omega]⟩
          · simp only [Option.some.injEq] at hr; subst hr
            refine ⟨_, key _ _ _ l h m' hb, ?_⟩
            simp only [RelV]
            have hlc : h - l ≤ m' - l := by omega
            have hg1 : g ≤ ll.g := by omega
            have hg2 : ¬ g < ll.g := by omega
            refine ⟨ll, g1, hg1, fun h => absurd h hg2, fun _ => ⟨_, m' - l, rfl, hlc, fun hpos => ?_⟩⟩
            obtain ⟨b, o, r', g5, rfl, g6⟩ := g4 (by omega)
            refine ⟨b, o, r', g5, ?_, ?_⟩
            · rw [if_neg (by omega)]; simp [addr_add, Nat.add_assoc]
            · have := mul_split (sz := sz) (Nat.le_trans hlh hhm)
              have : m' * sz ≤ cap * sz := Nat.mul_le_mul_right _ (by omega)
              omega
        · cases hr
      · cases hr
    · cases hr
  · split at hr
    · rename_i el eh
      simp only [Option.some.injEq] at hr; subst hr
      simp only [RelV] at ha
      obtain ⟨a', rfl⟩ := ha
      exact ⟨_, key _ _ _ 0 0 0 (bounds_run h1 h2 h3 el eh (by simp [bdA]) hmx (Nat.le_refl _) (Nat.le_refl _) (Nat.le_refl _)), by simp only [RelV]; exact ⟨_, rfl⟩⟩
    · cases hr
  · split at hr
    · rename_i el eh
      simp only [Option.some.injEq] at hr; subst hr
      simp only [RelV] at ha
      subst ha
      exact ⟨_, key _ _ _ 0 0 0 (bounds_run h1 h2 h3 el eh (by simp [bdA]) hmx (Nat.le_refl _) (Nat.le_refl _) (Nat.le_refl _)), by simp only [RelV]; rfl⟩
    · cases hr
  · cases hr

theorem ssl_sound {t : TypeId} {a r : AV} {v : Value} {lo hi : Option AV} {vlo vhi : Option Value} (hu : P.underlying t = some .string)
    (h1 : RelOpt st lo vlo) (h2 : RelOpt st hi vhi) (ha : RelV st a v) (hr : sslA a lo hi = some r) :
    ∃ u, (Instr.sliceAt t v vlo vhi none).run P w = .ok u w ∧ RelV st r u := by
  unfold sslA at hr
  split at hr
  · rename_i s
    split at hr
    · rename_i l h el eh
      split at hr
      · rename_i hc
        simp only [Option.some.injEq] at hr; subst hr
        simp only [RelV] at ha; subst ha
        have hb := bounds_run (P := P) (w := w) (isSlice := false) (cap := s.size) (mx := none) (vmx := none) h1 h2 ⟨fun a h => by simp at h, fun _ => rfl⟩ el eh (m := s.size) (by simp [bdA]) (.inl rfl) hc.1 hc.2 (Nat.le_refl _)
        exact ⟨.string (s.extract l h), by simp [Instr.sliceAt, Instr.slice, run_underlying' hu, hb], relLit⟩
      · cases hr
    · cases hr
  · cases hr
end Go.Sas
namespace Go.Sas
variable {P : Program} {K : List Nat} {st : St} {w : World} {H : AHeap} {ρ : Operand → Value} {e : Od → AV}

theorem owned_lt (hH : RelH st w H) {b : Nat} (h : Owned st b) : b < w.heap.size := by
  obtain ⟨id, l, o, r, h1, h2⟩ := h
  have hid : id < H.length := by rw [← hH.len]; exact (List.getElem?_eq_some_iff.1 h1).1
  have hX : H[id]? = some H[id] := List.getElem?_eq_getElem hid
  have := hH.obj id l _ h1 hX
  revert this
  generalize H[id] = X
  intro this
  cases X with
  | gone => simp only [ObjOk] at this; rw [h2] at this; cases this
  | own g cs =>
    simp only [ObjOk] at this
    obtain ⟨_, h3⟩ := this
    obtain ⟨arr, T, us, ha, _⟩ := h3 b o r h2
    exact (Array.getElem?_eq_some_iff.1 ha).1
  | raw g ob es us =>
    simp only [ObjOk] at this
    obtain ⟨_, _, ⟨b', o', r', h3, ha⟩ | ⟨h3, _⟩⟩ := this
    · rw [h2] at h3; cases h3
      exact (Array.getElem?_eq_some_iff.1 ha).1
    · rw [h2] at h3; cases h3

theorem rd_lt (hH : RelH st w H) {b o : Nat} {c : Value} (h : st.rd b o = some c) : b < w.heap.size := by
  have := (hH.rd b o c h).2.1
  unfold World.cell? at this
  rcases Nat.lt_or_ge b w.heap.size with h' | h'
  · exact h'
  · simp [Array.getElem?_eq_none h'] at this

theorem ObjOk.mono {st' : St} {w' : World} {l : Loc} {X : AObj} (h : ObjOk st w l X) (hle : st.le st') (hb : ∀ b o r, l.base = some (b, o, r) → w'.heap[b]? = w.heap[b]?) : ObjOk st' w' l X := by
  cases X with
  | gone => exact h
  | own g cs =>
    simp only [ObjOk] at h ⊢
    refine ⟨h.1, fun b o r hbase => ?_⟩
    obtain ⟨arr, T, us, ha, h1, h2, h3, h4, h5⟩ := h.2 b o r hbase
    exact ⟨arr, T, us, by rw [hb b o r hbase]; exact ha, h1, h2, h3.mono hle, h4, h5⟩
  | raw g ob es us =>
    simp only [ObjOk] at h ⊢
    obtain ⟨h0, he, ⟨b, o, r, h1, h2⟩ | h1⟩ := h
    · exact ⟨h0, he.mono hle, .inl ⟨b, o, r, h1, by rw [hb b o r h1]; exact h2⟩⟩
    · exact ⟨h0, he.mono hle, .inr h1⟩

theorem cell_of_heap {w w' : World} {b o : Nat} (h : w'.heap[b]? = w.heap[b]?) : w'.cell? ⟨b, o, none⟩ = w.cell? ⟨b, o, none⟩ := by
  unfold World.cell?; simp only [h]

theorem heap_alloc_lt (w : World) (o : Obj) {b : Nat} (h : b < w.heap.size) : (w.alloc o).heap[b]? = w.heap[b]? := by
  show (w.heap.push o)[b]? = w.heap[b]?
  rw [Array.getElem?_push, if_neg (Nat.ne_of_lt h)]
theorem heap_alloc_new (w : World) (o : Obj) : (w.alloc o).heap[w.heap.size]? = some o := by
  show (w.heap.push o)[w.heap.size]? = some o
  simp
theorem size_alloc (w : World) (o : Obj) : (w.alloc o).heap.size = w.heap.size + 1 := by
  show (w.heap.push o).size = _
  simp

/-- a new block that nobody writes any more -/
theorem push_imm (hH : RelH st w H) (cells : List Value) (hs : ∀ c ∈ cells, Scal c) (T : TypeId) :
    ∃ st', Ext st w st' (w.alloc (.cells cells.toArray T)) ∧ RelH st' (w.alloc (.cells cells.toArray T)) H ∧ RdAt st'.rd w.heap.size 0 cells := by
  let st' : St := ⟨fun b o => if b = w.heap.size then cells[o]? else st.rd b o, st.loc⟩
  have hle : st.le st' := ⟨fun b o c h => by
    have : b ≠ w.heap.size := Nat.ne_of_lt (rd_lt hH h)
    simp [st', this, h], fun id l hl => ⟨l, hl, Nat.le_refl _, fun _ => rfl⟩⟩
  refine ⟨st', ⟨hle, by simp [size_alloc], fun b hb _ => heap_alloc_lt _ _ hb, fun b hb => .inl hb, rfl, rfl, fun b o c hc => by
    simp only [st'] at hc
    split at hc
    · rename_i hb; exact .inr (.inl (Nat.le_of_eq hb.symm))
    · exact .inl hc⟩, ⟨hH.len, ?_, ?_, hH.inj⟩, fun i c hc => by simp [st', hc]⟩
  · intro b o c hc
    simp only [st'] at hc
    split at hc
    · rename_i hb; subst hb
      exact ⟨hs c (List.mem_of_getElem? hc), by simp only [World.cell?, heap_alloc_new]; simpa using hc, fun ho => absurd (owned_lt hH ho) (Nat.lt_irrefl _)⟩
    · have h := hH.rd b o c hc
      exact ⟨h.1, by rw [cell_of_heap (heap_alloc_lt _ _ (rd_lt hH hc))]; exact h.2.1, h.2.2⟩
  · intro id l X hl hX
    exact (hH.obj id l X hl hX).mono hle fun b o r hb => heap_alloc_lt _ _ (owned_lt hH ⟨id, l, o, r, hl, hb⟩)

/-- a new block that is owned -/
theorem push_own (hH : RelH st w H) {cs : List AV} {us : List Value} (hr : RelL st cs us) (hs : ∀ u ∈ us, Scal u) (arr : Array Value) (T : TypeId) (room : Nat)
    (h1 : room ≤ arr.size) (h2 : cs.length ≤ room) (h3 : ∀ (i : Nat) (c : Value), us[i]? = some c → arr[i]? = some c) :
    let st' : St := ⟨st.rd, st.loc ++ [⟨0, some (w.heap.size, 0, room)⟩]⟩
    Ext st w st' (w.alloc (.cells arr T)) ∧ RelH st' (w.alloc (.cells arr T)) (H ++ [.own 0 cs]) ∧ st'.loc[H.length]? = some ⟨0, some (w.heap.size, 0, room)⟩ := by
  intro st'
  have hle : st.le st' := ⟨fun _ _ _ h => h, fun id l hl => ⟨l, by
    have : id < st.loc.length := (List.getElem?_eq_some_iff.1 hl).1
    simp [st', List.getElem?_append_left this, hl], Nat.le_refl _, fun _ => rfl⟩⟩
  have hget : ∀ (id : Nat) (l : Loc), st'.loc[id]? = some l → (st.loc[id]? = some l ∧ id < st.loc.length) ∨ (id = st.loc.length ∧ l = ⟨0, some (w.heap.size, 0, room)⟩) := by
    intro id l hl
    simp only [st'] at hl
    rcases Nat.lt_or_ge id st.loc.length with h | h
    · rw [List.getElem?_append_left h] at hl; exact .inl ⟨hl, h⟩
    · rw [List.getElem?_append_right h] at hl
      have : id - st.loc.length = 0 := by
        rcases Nat.eq_zero_or_pos (id - st.loc.length) with h0 | h0
        · exact h0
        · rw [List.getElem?_eq_none (by simp; omega)] at hl; cases hl
      rw [this] at hl; simp at hl
      exact .inr ⟨by omega, hl.symm⟩
  have hown : ∀ b, Owned st' b → Owned st b ∨ b = w.heap.size := by
    rintro b ⟨id, l, o, r, hl, hb⟩
    rcases hget id l hl with ⟨h, _⟩ | ⟨_, rfl⟩
    · exact .inl ⟨id, l, o, r, h, hb⟩
    · cases hb; exact .inr rfl
  refine ⟨⟨hle, by simp [size_alloc], fun b hb _ => heap_alloc_lt _ _ hb, fun b hb => (hown b hb).imp id fun h => by omega, rfl, rfl, fun _ _ _ h => .inl h⟩, ⟨by simp [st', hH.len], ?_, ?_, ?_⟩, by simp [st', hH.len]⟩
  · intro b o c hc
    have h := hH.rd b o c hc
    have hb := rd_lt hH hc
    exact ⟨h.1, by rw [cell_of_heap (heap_alloc_lt _ _ hb)]; exact h.2.1, fun ho => (hown b ho).elim h.2.2 (fun he => by omega)⟩
  · intro id l X hl hX
    rcases hget id l hl with ⟨h, hlt⟩ | ⟨rfl, rfl⟩
    · rw [List.getElem?_append_left (by rw [← hH.len]; exact hlt)] at hX
      exact (hH.obj id l X h hX).mono hle fun b o r hb => heap_alloc_lt _ _ (owned_lt hH ⟨id, l, o, r, h, hb⟩)
    · rw [hH.len] at hX
      simp at hX; subst hX
      simp only [ObjOk]
      refine ⟨trivial, fun b o r hb => ?_⟩
      simp at hb
      obtain ⟨rfl, rfl, rfl⟩ := hb
      exact ⟨arr, T, us, heap_alloc_new _ _, by omega, h2, hr.mono hle, hs, fun i c hc => by rw [Nat.zero_add]; exact h3 i c hc⟩
  · intro id id' l l' b o r o' r' hl hl' hb hb'
    rcases hget id l hl with ⟨h, hlt⟩ | ⟨rfl, rfl⟩ <;> rcases hget id' l' hl' with ⟨h', hlt'⟩ | ⟨rfl, rfl⟩
    · exact hH.inj id id' l l' b o r o' r' h h' hb hb'
    · cases hb'; exact absurd (owned_lt hH ⟨id, l, o, r, h, hb⟩) (Nat.lt_irrefl _)
    · cases hb; exact absurd (owned_lt hH ⟨id', l', o', r', h', hb'⟩) (Nat.lt_irrefl _)
    · rfl

/-- a new object without a block: an empty row, or one whose block is still to come -/
theorem push_none (hH : RelH st w H) (cs : List AV := []) :
    let st' : St := ⟨st.rd, st.loc ++ [⟨0, none⟩]⟩
    Ext st w st' w ∧ RelH st' w (H ++ [.own 0 cs]) ∧ st'.loc[H.length]? = some ⟨0, none⟩ := by
  intro st'
  have hle : st.le st' := ⟨fun _ _ _ h => h, fun id l hl => ⟨l, by
    have : id < st.loc.length := (List.getElem?_eq_some_iff.1 hl).1
    simp [st', List.getElem?_append_left this, hl], Nat.le_refl _, fun _ => rfl⟩⟩
  have hget : ∀ (id : Nat) (l : Loc), st'.loc[id]? = some l → (st.loc[id]? = some l ∧ id < st.loc.length) ∨ (id = st.loc.length ∧ l = ⟨0, none⟩) := by
    intro id l hl
    simp only [st'] at hl
    rcases Nat.lt_or_ge id st.loc.length with h | h
    · rw [List.getElem?_append_left h] at hl; exact .inl ⟨hl, h⟩
    · rw [List.getElem?_append_right h] at hl
      have : id - st.loc.length = 0 := by
        rcases Nat.eq_zero_or_pos (id - st.loc.length) with h0 | h0
        · exact h0
        · rw [List.getElem?_eq_none (by simp; omega)] at hl; cases hl
      rw [this] at hl; simp at hl
      exact .inr ⟨by omega, hl.symm⟩
  have hown : ∀ b, Owned st' b → Owned st b := by
    rintro b ⟨id, l, o, r, hl, hb⟩
    rcases hget id l hl with ⟨h, _⟩ | ⟨_, rfl⟩
    · exact ⟨id, l, o, r, h, hb⟩
    · cases hb
  refine ⟨⟨hle, Nat.le_refl _, fun b hb _ => rfl, fun b hb => .inl (hown b hb), rfl, rfl, fun _ _ _ h => .inl h⟩, ⟨by simp [st', hH.len], ?_, ?_, ?_⟩, by simp [st', hH.len]⟩
  · intro b o c hc
    have h := hH.rd b o c hc
    exact ⟨h.1, h.2.1, fun ho => h.2.2 (hown b ho)⟩
  · intro id l X hl hX
    rcases hget id l hl with ⟨h, hlt⟩ | ⟨rfl, rfl⟩
    · rw [List.getElem?_append_left (by rw [← hH.len]; exact hlt)] at hX
      exact (hH.obj id l X h hX).mono hle fun b o r hb => rfl
    · rw [hH.len] at hX
      simp at hX; subst hX
      simp only [ObjOk]
      exact ⟨trivial, fun b o r hb => by simp at hb⟩
  · intro id id' l l' b o r o' r' hl hl' hb hb'
    rcases hget id l hl with ⟨h, hlt⟩ | ⟨rfl, rfl⟩ <;> rcases hget id' l' hl' with ⟨h', hlt'⟩ | ⟨rfl, rfl⟩
    · exact hH.inj id id' l l' b o r o' r' h h' hb hb'
    · cases hb'
    · cases hb
    · cases hb

/-- one object turns -/
theorem rel_upd (hH : RelH st w H) {id : Nat} {l l' : Loc} {X X' : AObj} {w' : World} (h1 : st.loc[id]? = some l) (hX : H[id]? = some X)
    (hg : l.g ≤ l'.g) (hgb : l'.g = l.g → l'.base = l.base) (hsize : w.heap.size ≤ w'.heap.size)
    (hfr : ∀ b, b < w.heap.size → (∀ o r, l.base ≠ some (b, o, r)) → w'.heap[b]? = w.heap[b]?)
    (hos : w'.os = w.os) (hout : w'.output = w.output)
    (hnew : ∀ b o r, l'.base = some (b, o, r) → (∃ o r, l.base = some (b, o, r)) ∨ w.heap.size ≤ b)
    (hobj : ∀ st' : St, st.le st' → ObjOk st' w' l' X') :
    let st' : St := ⟨st.rd, st.loc.set id l'⟩
    Ext st w st' w' ∧ RelH st' w' (H.set id X') ∧ st'.loc[id]? = some l' := by
  intro st'
  have hid : id < st.loc.length := (List.getElem?_eq_some_iff.1 h1).1
  have hget : ∀ (j : Nat) (x : Loc), st'.loc[j]? = some x → (j = id ∧ x = l') ∨ (j ≠ id ∧ st.loc[j]? = some x) := by
    intro j x hx
    simp only [st', List.getElem?_set] at hx
    split at hx
    · rename_i he; subst he
      simp [hid] at hx
      exact .inl ⟨rfl, hx.symm⟩
    · rename_i he; exact .inr ⟨fun h => he h.symm, hx⟩
  have hle : st.le st' := by
    refine ⟨fun _ _ _ h => h, fun j x hx => ?_⟩
    by_cases hj : j = id
    · subst hj
      rw [h1] at hx; cases hx
      exact ⟨l', by simp [st', hid], hg, hgb⟩
    · exact ⟨x, by simp [st', List.getElem?_set, Ne.symm hj, hx], Nat.le_refl _, fun _ => rfl⟩
  have hother : ∀ (j : Nat) (x : Loc) (b o r : Nat), j ≠ id → st.loc[j]? = some x → x.base = some (b, o, r) → w'.heap[b]? = w.heap[b]? := by
    intro j x b o r hj hx hb
    exact hfr b (owned_lt hH ⟨j, x, o, r, hx, hb⟩) fun o' r' hl => hj (hH.inj j id x l b o r o' r' hx h1 hb hl)
  have hown : ∀ b, Owned st' b → Owned st b ∨ w.heap.size ≤ b := by
    rintro b ⟨j, x, o, r, hx, hb⟩
    rcases hget j x hx with ⟨rfl, rfl⟩ | ⟨_, hx'⟩
    · exact (hnew b o r hb).imp (fun ⟨o', r', h⟩ => ⟨j, l, o', r', h1, h⟩) id
    · exact .inl ⟨j, x, o, r, hx', hb⟩
  refine ⟨⟨hle, hsize, fun b hb ho => hfr b hb fun o r hl => ho ⟨id, l, o, r, h1, hl⟩, hown, hos, hout, fun _ _ _ h => .inl h⟩, ⟨by simp [st', hH.len], ?_, ?_, ?_⟩, by simp [st', hid]⟩
  · intro b o c hc
    have h := hH.rd b o c hc
    have hb := rd_lt hH hc
    exact ⟨h.1, by rw [cell_of_heap (hfr b hb fun o r hl => h.2.2 ⟨id, l, o, r, h1, hl⟩)]; exact h.2.1, fun ho => (hown b ho).elim h.2.2 (fun he => by omega)⟩
  · intro j x Y hx hY
    rcases hget j x hx with ⟨rfl, rfl⟩ | ⟨hj, hx'⟩
    · have : j < H.length := by rw [← hH.len]; exact hid
      rw [List.getElem?_set, if_pos rfl] at hY
      simp [this] at hY; subst hY
      exact hobj st' hle
    · rw [List.getElem?_set, if_neg (Ne.symm hj)] at hY
      exact (hH.obj j x Y hx' hY).mono hle fun b o r hb => hother j x b o r hj hx' hb
  · intro i j x y b o r o' r' hx hy hb hb'
    rcases hget i x hx with ⟨rfl, rfl⟩ | ⟨hi, hx'⟩ <;> rcases hget j y hy with ⟨rfl, rfl⟩ | ⟨hj, hy'⟩
    · rfl
    · rcases hnew b o r hb with ⟨o2, r2, hl⟩ | hge
      · exact absurd (hH.inj i j l y b o2 r2 o' r' h1 hy' hl hb') (Ne.symm hj)
      · exact absurd (owned_lt hH ⟨j, y, o', r', hy', hb'⟩) (by omega)
    · rcases hnew b o' r' hb' with ⟨o2, r2, hl⟩ | hge
      · exact absurd (hH.inj i j x l b o r o2 r2 hx' h1 hb hl) hi
      · exact absurd (owned_lt hH ⟨i, x, o, r, hx', hb⟩) (by omega)
    · exact hH.inj i j x y b o r o' r' hx' hy' hb hb'

/-! ### Literals of structs, arrays and slices -/
theorem fold_set (off : Nat) : ∀ (l : List Value) (k : Nat) (cells : Array Value), off + k + l.length ≤ cells.size →
    ((l.zipIdx k).foldl (fun cs (x : Value × Nat) => cs.setIfInBounds (off + x.2) x.1) cells).toList = cells.toList.take (off + k) ++ l ++ cells.toList.drop (off + k + l.length)
  | [], k, cells, _ => by simp
  | v :: l, k, cells, h => by
    simp only [List.length_cons] at h
    simp only [List.zipIdx_cons, List.foldl_cons]
    rw [fold_set off l (k + 1) _ (by simp; omega)]
    simp only [Array.toList_setIfInBounds, List.length_cons]
    have e1 : off + (k + 1) = off + k + 1 := by omega
    rw [e1, List.take_add_one, List.take_set_of_le (Nat.le_refl _), List.getElem?_set_self (by simp; omega), List.drop_set_of_lt (by omega)]
    simp only [Option.toList_some, List.append_assoc, List.singleton_append]
    congr 3
    omega

theorem fill_step (pl : Nat → Option (Nat × Nat)) (i off n : Nat) (v : Value) (rest : List (Nat × Value)) (cells : Array Value) (hp : pl i = some (off, n)) (hn : v.cells.size = n) (hle : off + n ≤ cells.size) :
    Instr.fill pl cells ((i, v) :: rest) = Instr.fill pl (cells.toList.take off ++ v.cells.toList ++ cells.toList.drop (off + n)).toArray rest := by
  have h0 : (v.cells.zipIdx.foldl (fun cs (x : Value × Nat) => cs.setIfInBounds (off + x.2) x.1) cells) = (cells.toList.take off ++ v.cells.toList ++ cells.toList.drop (off + n)).toArray := by
    apply Array.ext'
    rw [← Array.foldl_toList, Array.toList_zipIdx, fold_set off _ 0 cells (by simp; omega)]
    simp [hn]
  simp only [Instr.fill, hp]
  rw [if_neg (by simp [hn]; omega)]
  exact congrArg (fun c => Instr.fill pl c rest) h0

theorem fillA_sound (hρ : RelO st K e ρ) {pl : Nat → Option (Nat × Nat)} : ∀ {parts : List (Nat × Operand)} {ps : List (Nat × Nat × Od)} {cs r : List AV} {cells : Array Value},
    trParts pl K parts = some ps → RelL st cs cells.toList → (∀ u ∈ cells.toList, Scal u) → fillA cs (ps.map fun (o, n, x) => (o, n, e x)) = some r →
    ∃ cells' : Array Value, Instr.fill pl cells (parts.map fun (i, x) => (i, ρ x)) = some cells' ∧ RelL st r cells'.toList ∧ ∀ u ∈ cells'.toList, Scal u
  | [], ps, cs, r, cells, ht, hr, hs, hf => by
    simp only [trParts, Option.some.injEq] at ht; subst ht
    simp only [List.map_nil, fillA, Option.some.injEq] at hf; subst hf
    exact ⟨cells, rfl, hr, hs⟩
  | (i, x) :: parts, ps, cs, r, cells, ht, hr, hs, hf => by
    simp only [trParts] at ht
    split at ht
    · rename_i off n y ys hp hy hys
      simp only [Option.some.injEq] at ht; subst ht
      simp only [List.map_cons, fillA] at hf
      split at hf
      · rename_i xs hxs
        split at hf
        · rename_i hc
          obtain ⟨rfl, hle⟩ := hc
          obtain ⟨hr2, hs2⟩ := (hρ x y hy).cells hxs
          have hl2 := hr2.length
          have hlc := hr.length
          have hn : (ρ x).cells.size = xs.length := by simpa using hl2
          have := fillA_sound hρ (cells := (cells.toList.take off ++ (ρ x).cells.toList ++ cells.toList.drop (off + xs.length)).toArray) hys
            (((hr.take off).append hr2).append (hr.drop _)) (fun u hu => by
              simp only [List.mem_append] at hu
              rcases hu with (hu | hu) | hu
              · exact hs u (List.mem_of_mem_take hu)
              · exact hs2 u hu
              · exact hs u (List.mem_of_mem_drop hu)) hf
          obtain ⟨cells', h1, h2, h3⟩ := this
          refine ⟨cells', ?_, h2, h3⟩
          rw [List.map_cons, fill_step pl i off xs.length (ρ x) _ cells hp hn (by simp at hlc; omega)]
          exact h1
        · cases hf
      · cases hf
    · cases ht

theorem fill_full (sz : Nat) : ∀ (vs : List Value) (k : Nat) (cells : Array Value), (∀ v ∈ vs, v.cells.size = sz) → (k + vs.length) * sz = cells.size →
    Instr.fill (fun i => some (i * sz, sz)) cells ((vs.zipIdx k).map fun x => (x.2, x.1)) = some (cells.toList.take (k * sz) ++ flat vs).toArray
  | [], k, cells, _, h => by
    simp only [List.zipIdx_nil, List.map_nil, Instr.fill, flat, List.flatMap_nil, List.append_nil]
    have : k * sz = cells.toList.length := by simpa using h
    rw [this, List.take_length, Array.toArray_toList]
  | v :: vs, k, cells, hs, h => by
    have hv := hs v (by simp)
    have hb : k * sz + sz ≤ cells.size := by rw [← h, ← Nat.succ_mul]; exact Nat.mul_le_mul_right _ (by simp)
    simp only [List.zipIdx_cons, List.map_cons]
    rw [fill_step _ k (k * sz) sz v _ cells rfl hv hb, fill_full sz vs (k + 1) _ (fun v hv => hs v (by simp [hv])) (by simp [hv] at h ⊢; rw [Nat.min_eq_left (by omega)]; rw [show k + 1 + vs.length = k + (vs.length + 1) by omega, h]; omega)]
    congr 2
    have e1 : (cells.toList.take (k * sz) ++ v.cells.toList).length = (k + 1) * sz := by simp [hv]; rw [Nat.min_eq_left (by omega), Nat.succ_mul]
    simp only
    rw [← e1, List.take_append_of_le_length (Nat.le_refl _), List.take_length]
    simp [flat]
end Go.Sas
