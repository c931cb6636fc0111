/-
An abstract machine over values, part 5: how the abstract heap follows the world.
Conditions: none (lemmas over any program).
-/
import Derived.Test.YtelmlpjkpebcgaaAbs4
import Derived.RowKit3
set_option linter.unusedVariables false
set_option linter.unusedSimpArgs false
namespace Go.Sas
variable {P : Program} {K : List Nat} {st : St} {w : World} {H : AHeap} {ρ : Operand → Value} {e : Od → AV}

theorem owned_lt (hH : RelH st w H) {b : Nat} (h : Owned st b) : b < w.heap.size := by
  obtain ⟨id, l, o, r, h1, h2⟩ := h
  have hid : id < H.length := by rw [← hH.len]; exact (List.getElem?_eq_some_iff.1 h1).1
  have hX : H[id]? = some H[id] := List.getElem?_eq_getElem hid
  have := hH.obj id l _ h1 hX
  revert this
  generalize H[id] = X
  intro this
  cases X with
  | gone => simp only [ObjOk] at this; rw [h2] at this; cases this
  | own g cs =>
    simp only [ObjOk] at this
    obtain ⟨_, h3⟩ := this
    obtain ⟨arr, T, us, ha, _⟩ := h3 b o r h2
    exact (Array.getElem?_eq_some_iff.1 ha).1
  | raw g ob =>
    simp only [ObjOk] at this
    obtain ⟨_, b', o', r', h3, ha⟩ := this
    rw [h2] at h3; cases h3
    exact (Array.getElem?_eq_some_iff.1 ha).1

theorem rd_lt (hH : RelH st w H) {b o : Nat} {c : Value} (h : st.rd b o = some c) : b < w.heap.size := by
  have := (hH.rd b o c h).2.1
  unfold World.cell? at this
  rcases Nat.lt_or_ge b w.heap.size with h' | h'
  · exact h'
  · simp [Array.getElem?_eq_none h'] at this

theorem ObjOk.mono {st' : St} {w' : World} {l : Loc} {X : AObj} (h : ObjOk st w l X) (hle : st.le st') (hb : ∀ b o r, l.base = some (b, o, r) → w'.heap[b]? = w.heap[b]?) : ObjOk st' w' l X := by
  cases X with
  | gone => exact h
  | own g cs =>
    simp only [ObjOk] at h ⊢
    refine ⟨h.1, fun b o r hbase => ?_⟩
    obtain ⟨arr, T, us, ha, h1, h2, h3, h4, h5⟩ := h.2 b o r hbase
    exact ⟨arr, T, us, by rw [hb b o r hbase]; exact ha, h1, h2, h3.mono hle, h4, h5⟩
  | raw g ob =>
    simp only [ObjOk] at h ⊢
    obtain ⟨h0, b, o, r, h1, h2⟩ := h
    exact ⟨h0, b, o, r, h1, by rw [hb b o r h1]; exact h2⟩

theorem cell_of_heap {w w' : World} {b o : Nat} (h : w'.heap[b]? = w.heap[b]?) : w'.cell? ⟨b, o, none⟩ = w.cell? ⟨b, o, none⟩ := by
  unfold World.cell?; simp only [h]

theorem heap_alloc_lt (w : World) (o : Obj) {b : Nat} (h : b < w.heap.size) : (w.alloc o).heap[b]? = w.heap[b]? := by
  show (w.heap.push o)[b]? = w.heap[b]?
  rw [Array.getElem?_push, if_neg (Nat.ne_of_lt h)]
theorem heap_alloc_new (w : World) (o : Obj) : (w.alloc o).heap[w.heap.size]? = some o := by
  show (w.heap.push o)[w.heap.size]? = some o
  simp
theorem size_alloc (w : World) (o : Obj) : (w.alloc o).heap.size = w.heap.size + 1 := by
  show (w.heap.push o).size = _
  simp

/-- a new block that nobody writes any more -/
theorem push_imm (hH : RelH st w H) (cells : List Value) (hs : ∀ c ∈ cells, Scal c) (T : TypeId) :
    ∃ st', Ext st w st' (w.alloc (.cells cells.toArray T)) ∧ RelH st' (w.alloc (.cells cells.toArray T)) H ∧ RdAt st'.rd w.heap.size 0 cells := by
  let st' : St := ⟨fun b o => if b = w.heap.size then cells[o]? else st.rd b o, st.loc⟩
  have hle : st.le st' := ⟨fun b o c h => by
    have : b ≠ w.heap.size := Nat.ne_of_lt (rd_lt hH h)
    simp [st', this, h], fun id l hl => ⟨l, hl, Nat.le_refl _, fun _ => rfl⟩⟩
  refine ⟨st', ⟨hle, by simp [size_alloc], fun b hb _ => heap_alloc_lt _ _ hb, fun b hb => .inl hb, rfl, rfl, fun a => RowKit.frozen?_alloc_cells _ _ _ _, fun b o c hc => by
    simp only [st'] at hc
    split at hc
    · rename_i hb; exact .inr (.inl (Nat.le_of_eq hb.symm))
    · exact .inl hc⟩, ⟨hH.len, ?_, ?_, hH.inj⟩, fun i c hc => by simp [st', hc]⟩
  · intro b o c hc
    simp only [st'] at hc
    split at hc
    · rename_i hb; subst hb
      exact ⟨hs c (List.mem_of_getElem? hc), by simp only [World.cell?, heap_alloc_new]; simpa using hc, fun ho => absurd (owned_lt hH ho) (Nat.lt_irrefl _)⟩
    · have h := hH.rd b o c hc
      exact ⟨h.1, by rw [cell_of_heap (heap_alloc_lt _ _ (rd_lt hH hc))]; exact h.2.1, h.2.2⟩
  · intro id l X hl hX
    exact (hH.obj id l X hl hX).mono hle fun b o r hb => heap_alloc_lt _ _ (owned_lt hH ⟨id, l, o, r, hl, hb⟩)

/-- a new block that is owned -/
theorem push_own (hH : RelH st w H) {cs : List AV} {us : List Value} (hr : RelL st cs us) (hs : ∀ u ∈ us, Scal u) (arr : Array Value) (T : TypeId) (room : Nat)
    (h1 : room ≤ arr.size) (h2 : cs.length ≤ room) (h3 : ∀ (i : Nat) (c : Value), us[i]? = some c → arr[i]? = some c) :
    let st' : St := ⟨st.rd, st.loc ++ [⟨0, some (w.heap.size, 0, room)⟩]⟩
    Ext st w st' (w.alloc (.cells arr T)) ∧ RelH st' (w.alloc (.cells arr T)) (H ++ [.own 0 cs]) ∧ st'.loc[H.length]? = some ⟨0, some (w.heap.size, 0, room)⟩ := by
  intro st'
  have hle : st.le st' := ⟨fun _ _ _ h => h, fun id l hl => ⟨l, by
    have : id < st.loc.length := (List.getElem?_eq_some_iff.1 hl).1
    simp [st', List.getElem?_append_left this, hl], Nat.le_refl _, fun _ => rfl⟩⟩
  have hget : ∀ (id : Nat) (l : Loc), st'.loc[id]? = some l → (st.loc[id]? = some l ∧ id < st.loc.length) ∨ (id = st.loc.length ∧ l = ⟨0, some (w.heap.size, 0, room)⟩) := by
    intro id l hl
    simp only [st'] at hl
    rcases Nat.lt_or_ge id st.loc.length with h | h
    · rw [List.getElem?_append_left h] at hl; exact .inl ⟨hl, h⟩
    · rw [List.getElem?_append_right h] at hl
      have : id - st.loc.length = 0 := by
        rcases Nat.eq_zero_or_pos (id - st.loc.length) with h0 | h0
        · exact h0
        · rw [List.getElem?_eq_none (by simp; omega)] at hl; cases hl
      rw [this] at hl; simp at hl
      exact .inr ⟨by omega, hl.symm⟩
  have hown : ∀ b, Owned st' b → Owned st b ∨ b = w.heap.size := by
    rintro b ⟨id, l, o, r, hl, hb⟩
    rcases hget id l hl with ⟨h, _⟩ | ⟨_, rfl⟩
    · exact .inl ⟨id, l, o, r, h, hb⟩
    · cases hb; exact .inr rfl
  refine ⟨⟨hle, by simp [size_alloc], fun b hb _ => heap_alloc_lt _ _ hb, fun b hb => (hown b hb).imp id fun h => by omega, rfl, rfl, fun a => RowKit.frozen?_alloc_cells _ _ _ _, fun _ _ _ h => .inl h⟩, ⟨by simp [st', hH.len], ?_, ?_, ?_⟩, by simp [st', hH.len]⟩
  · intro b o c hc
    have h := hH.rd b o c hc
    have hb := rd_lt hH hc
    exact ⟨h.1, by rw [cell_of_heap (heap_alloc_lt _ _ hb)]; exact h.2.1, fun ho => (hown b ho).elim h.2.2 (fun he => by omega)⟩
  · intro id l X hl hX
    rcases hget id l hl with ⟨h, hlt⟩ | ⟨rfl, rfl⟩
    · rw [List.getElem?_append_left (by rw [← hH.len]; exact hlt)] at hX
      exact (hH.obj id l X h hX).mono hle fun b o r hb => heap_alloc_lt _ _ (owned_lt hH ⟨id, l, o, r, h, hb⟩)
    · rw [hH.len] at hX
      simp at hX; subst hX
      simp only [ObjOk]
      refine ⟨trivial, fun b o r hb => ?_⟩
      simp at hb
      obtain ⟨rfl, rfl, rfl⟩ := hb
      exact ⟨arr, T, us, heap_alloc_new _ _, by omega, h2, hr.mono hle, hs, fun i c hc => by rw [Nat.zero_add]; exact h3 i c hc⟩
  · intro id id' l l' b o r o' r' hl hl' hb hb'
    rcases hget id l hl with ⟨h, hlt⟩ | ⟨rfl, rfl⟩ <;> rcases hget id' l' hl' with ⟨h', hlt'⟩ | ⟨rfl, rfl⟩
    · exact hH.inj id id' l l' b o r o' r' h h' hb hb'
    · cases hb'; exact absurd (owned_lt hH ⟨id, l, o, r, h, hb⟩) (Nat.lt_irrefl _)
    · cases hb; exact absurd (owned_lt hH ⟨id', l', o', r', h', hb'⟩) (Nat.lt_irrefl _)
    · rfl

/-- a new object without a block: an empty row, or one whose block is still to come -/
theorem push_none (hH : RelH st w H) (cs : List AV := []) :
    let st' : St := ⟨st.rd, st.loc ++ [⟨0, none⟩]⟩
    Ext st w st' w ∧ RelH st' w (H ++ [.own 0 cs]) ∧ st'.loc[H.length]? = some ⟨0, none⟩ := by
  intro st'
  have hle : st.le st' := ⟨fun _ _ _ h => h, fun id l hl => ⟨l, by
    have : id < st.loc.length := (List.getElem?_eq_some_iff.1 hl).1
    simp [st', List.getElem?_append_left this, hl], Nat.le_refl _, fun _ => rfl⟩⟩
  have hget : ∀ (id : Nat) (l : Loc), st'.loc[id]? = some l → (st.loc[id]? = some l ∧ id < st.loc.length) ∨ (id = st.loc.length ∧ l = ⟨0, none⟩) := by
    intro id l hl
    simp only [st'] at hl
    rcases Nat.lt_or_ge id st.loc.length with h | h
    · rw [List.getElem?_append_left h] at hl; exact .inl ⟨hl, h⟩
    · rw [List.getElem?_append_right h] at hl
      have : id - st.loc.length = 0 := by
        rcases Nat.eq_zero_or_pos (id - st.loc.length) with h0 | h0
        · exact h0
        · rw [List.getElem?_eq_none (by simp; omega)] at hl; cases hl
      rw [this] at hl; simp at hl
      exact .inr ⟨by omega, hl.symm⟩
  have hown : ∀ b, Owned st' b → Owned st b := by
    rintro b ⟨id, l, o, r, hl, hb⟩
    rcases hget id l hl with ⟨h, _⟩ | ⟨_, rfl⟩
    · exact ⟨id, l, o, r, h, hb⟩
    · cases hb
  refine ⟨⟨hle, Nat.le_refl _, fun b hb _ => rfl, fun b hb => .inl (hown b hb), rfl, rfl, fun a => rfl, fun _ _ _ h => .inl h⟩, ⟨by simp [st', hH.len], ?_, ?_, ?_⟩, by simp [st', hH.len]⟩
  · intro b o c hc
    have h := hH.rd b o c hc
    exact ⟨h.1, h.2.1, fun ho => h.2.2 (hown b ho)⟩
  · intro id l X hl hX
    rcases hget id l hl with ⟨h, hlt⟩ | ⟨rfl, rfl⟩
    · rw [List.getElem?_append_left (by rw [← hH.len]; exact hlt)] at hX
      exact (hH.obj id l X h hX).mono hle fun b o r hb => rfl
    · rw [hH.len] at hX
      simp at hX; subst hX
      simp only [ObjOk]
      exact ⟨trivial, fun b o r hb => by simp at hb⟩
  · intro id id' l l' b o r o' r' hl hl' hb hb'
    rcases hget id l hl with ⟨h, hlt⟩ | ⟨rfl, rfl⟩ <;> rcases hget id' l' hl' with ⟨h', hlt'⟩ | ⟨rfl, rfl⟩
    · exact hH.inj id id' l l' b o r o' r' h h' hb hb'
    · cases hb'
    · cases hb
    · cases hb

/-- one object turns -/
theorem rel_upd (hH : RelH st w H) {id : Nat} {l l' : Loc} {X X' : AObj} {w' : World} (h1 : st.loc[id]? = some l) (hX : H[id]? = some X)
    (hg : l.g ≤ l'.g) (hgb : l'.g = l.g → l'.base = l.base) (hsize : w.heap.size ≤ w'.heap.size)
    (hfr : ∀ b, b < w.heap.size → (∀ o r, l.base ≠ some (b, o, r)) → w'.heap[b]? = w.heap[b]?)
    (hos : w'.os = w.os) (hout : w'.output = w.output) (hfro : ∀ a, w'.frozen? a = w.frozen? a)
    (hnew : ∀ b o r, l'.base = some (b, o, r) → (∃ o r, l.base = some (b, o, r)) ∨ w.heap.size ≤ b)
    (hobj : ∀ st' : St, st.le st' → ObjOk st' w' l' X') :
    let st' : St := ⟨st.rd, st.loc.set id l'⟩
    Ext st w st' w' ∧ RelH st' w' (H.set id X') ∧ st'.loc[id]? = some l' := by
  intro st'
  have hid : id < st.loc.length := (List.getElem?_eq_some_iff.1 h1).1
  have hget : ∀ (j : Nat) (x : Loc), st'.loc[j]? = some x → (j = id ∧ x = l') ∨ (j ≠ id ∧ st.loc[j]? = some x) := by
    intro j x hx
    simp only [st', List.getElem?_set] at hx
    split at hx
    · rename_i he; subst he
      simp [hid] at hx
      exact .inl ⟨rfl, hx.symm⟩
    · rename_i he; exact .inr ⟨fun h => he h.symm, hx⟩
  have hle : st.le st' := by
    refine ⟨fun _ _ _ h => h, fun j x hx => ?_⟩
    by_cases hj : j = id
    · subst hj
      rw [h1] at hx; cases hx
      exact ⟨l', by simp [st', hid], hg, hgb⟩
    · exact ⟨x, by simp [st', List.getElem?_set, Ne.symm hj, hx], Nat.le_refl _, fun _ => rfl⟩
  have hother : ∀ (j : Nat) (x : Loc) (b o r : Nat), j ≠ id → st.loc[j]? = some x → x.base = some (b, o, r) → w'.heap[b]? = w.heap[b]? := by
    intro j x b o r hj hx hb
    exact hfr b (owned_lt hH ⟨j, x, o, r, hx, hb⟩) fun o' r' hl => hj (hH.inj j id x l b o r o' r' hx h1 hb hl)
  have hown : ∀ b, Owned st' b → Owned st b ∨ w.heap.size ≤ b := by
    rintro b ⟨j, x, o, r, hx, hb⟩
    rcases hget j x hx with ⟨rfl, rfl⟩ | ⟨_, hx'⟩
    · exact (hnew b o r hb).imp (fun ⟨o', r', h⟩ => ⟨j, l, o', r', h1, h⟩) id
    · exact .inl ⟨j, x, o, r, hx', hb⟩
  refine ⟨⟨hle, hsize, fun b hb ho => hfr b hb fun o r hl => ho ⟨id, l, o, r, h1, hl⟩, hown, hos, hout, hfro, fun _ _ _ h => .inl h⟩, ⟨by simp [st', hH.len], ?_, ?_, ?_⟩, by simp [st', hid]⟩
  · intro b o c hc
    have h := hH.rd b o c hc
    have hb := rd_lt hH hc
    exact ⟨h.1, by rw [cell_of_heap (hfr b hb fun o r hl => h.2.2 ⟨id, l, o, r, h1, hl⟩)]; exact h.2.1, fun ho => (hown b ho).elim h.2.2 (fun he => by omega)⟩
  · intro j x Y hx hY
    rcases hget j x hx with ⟨rfl, rfl⟩ | ⟨hj, hx'⟩
    · have : j < H.length := by rw [← hH.len]; exact hid
      rw [List.getElem?_set, if_pos rfl] at hY
      simp [this] at hY; subst hY
      exact hobj st' hle
    · rw [List.getElem?_set, if_neg (Ne.symm hj)] at hY
      exact (hH.obj j x Y hx' hY).mono hle fun b o r hb => hother j x b o r hj hx' hb
  · intro i j x y b o r o' r' hx hy hb hb'
    rcases hget i x hx with ⟨rfl, rfl⟩ | ⟨hi, hx'⟩ <;> rcases hget j y hy with ⟨rfl, rfl⟩ | ⟨hj, hy'⟩
    · rfl
    · rcases hnew b o r hb with ⟨o2, r2, hl⟩ | hge
      · exact absurd (hH.inj i j l y b o2 r2 o' r' h1 hy' hl hb') (Ne.symm hj)
      · exact absurd (owned_lt hH ⟨j, y, o', r', hy', hb'⟩) (by omega)
    · rcases hnew b o' r' hb' with ⟨o2, r2, hl⟩ | hge
      · exact absurd (hH.inj i j x l b o r o2 r2 hx' h1 hb hl) hi
      · exact absurd (owned_lt hH ⟨i, x, o, r, hx', hb⟩) (by omega)
    · exact hH.inj i j x y b o r o' r' hx' hy' hb hb'

/-! ### Literals of structs, arrays and slices -/
theorem fold_set (off : Nat) : ∀ (l : List Value) (k : Nat) (cells : Array Value), off + k + l.length ≤ cells.size →
    ((l.zipIdx k).foldl (fun cs (x : Value × Nat) => cs.setIfInBounds (off + x.2) x.1) cells).toList = cells.toList.take (off + k) ++ l ++ cells.toList.drop (off + k + l.length)
  | [], k, cells, _ => by simp
  | v :: l, k, cells, h => by
    simp only [List.length_cons] at h
    simp only [List.zipIdx_cons, List.foldl_cons]
    rw [fold_set off l (k + 1) _ (by simp; omega)]
    simp only [Array.toList_setIfInBounds, List.length_cons]
    have e1 : off + (k + 1) = off + k + 1 := by omega
    rw [e1, List.take_add_one, List.take_set_of_le (Nat.le_refl _), List.getElem?_set_self (by simp; omega), List.drop_set_of_lt (by omega)]
    simp only [Option.toList_some, List.append_assoc, List.singleton_append]
    congr 3
    omega

theorem fill_step (pl : Nat → Option (Nat × Nat)) (i off n : Nat) (v : Value) (rest : List (Nat × Value)) (cells : Array Value) (hp : pl i = some (off, n)) (hn : v.cells.size = n) (hle : off + n ≤ cells.size) :
    Instr.fill pl cells ((i, v) :: rest) = Instr.fill pl (cells.toList.take off ++ v.cells.toList ++ cells.toList.drop (off + n)).toArray rest := by
  have h0 : (v.cells.zipIdx.foldl (fun cs (x : Value × Nat) => cs.setIfInBounds (off + x.2) x.1) cells) = (cells.toList.take off ++ v.cells.toList ++ cells.toList.drop (off + n)).toArray := by
    apply Array.ext'
    rw [← Array.foldl_toList, Array.toList_zipIdx, fold_set off _ 0 cells (by simp; omega)]
    simp [hn]
  simp only [Instr.fill, hp]
  rw [if_neg (by simp [hn]; omega)]
  exact congrArg (fun c => Instr.fill pl c rest) h0

theorem fillA_sound (hρ : RelO st K e ρ) {pl : Nat → Option (Nat × Nat)} : ∀ {parts : List (Nat × Operand)} {ps : List (Nat × Nat × Od)} {cs r : List AV} {cells : Array Value},
    trParts pl K parts = some ps → RelL st cs cells.toList → (∀ u ∈ cells.toList, Scal u) → fillA cs (ps.map fun (o, n, x) => (o, n, e x)) = some r →
    ∃ cells' : Array Value, Instr.fill pl cells (parts.map fun (i, x) => (i, ρ x)) = some cells' ∧ RelL st r cells'.toList ∧ ∀ u ∈ cells'.toList, Scal u
  | [], ps, cs, r, cells, ht, hr, hs, hf => by
    simp only [trParts, Option.some.injEq] at ht; subst ht
    simp only [List.map_nil, fillA, Option.some.injEq] at hf; subst hf
    exact ⟨cells, rfl, hr, hs⟩
  | (i, x) :: parts, ps, cs, r, cells, ht, hr, hs, hf => by
    simp only [trParts] at ht
    split at ht
    · rename_i off n y ys hp hy hys
      simp only [Option.some.injEq] at ht; subst ht
      simp only [List.map_cons, fillA] at hf
      split at hf
      · rename_i xs hxs
        split at hf
        · rename_i hc
          obtain ⟨rfl, hle⟩ := hc
          obtain ⟨hr2, hs2⟩ := (hρ x y hy).cells hxs
          have hl2 := hr2.length
          have hlc := hr.length
          have hn : (ρ x).cells.size = xs.length := by simpa using hl2
          have := fillA_sound hρ (cells := (cells.toList.take off ++ (ρ x).cells.toList ++ cells.toList.drop (off + xs.length)).toArray) hys
            (((hr.take off).append hr2).append (hr.drop _)) (fun u hu => by
              simp only [List.mem_append] at hu
              rcases hu with (hu | hu) | hu
              · exact hs u (List.mem_of_mem_take hu)
              · exact hs2 u hu
              · exact hs u (List.mem_of_mem_drop hu)) hf
          obtain ⟨cells', h1, h2, h3⟩ := this
          refine ⟨cells', ?_, h2, h3⟩
          rw [List.map_cons, fill_step pl i off xs.length (ρ x) _ cells hp hn (by simp at hlc; omega)]
          exact h1
        · cases hf
      · cases hf
    · cases ht

theorem fill_full (sz : Nat) : ∀ (vs : List Value) (k : Nat) (cells : Array Value), (∀ v ∈ vs, v.cells.size = sz) → (k + vs.length) * sz = cells.size →
    Instr.fill (fun i => some (i * sz, sz)) cells ((vs.zipIdx k).map fun x => (x.2, x.1)) = some (cells.toList.take (k * sz) ++ flat vs).toArray
  | [], k, cells, _, h => by
    simp only [List.zipIdx_nil, List.map_nil, Instr.fill, flat, List.flatMap_nil, List.append_nil]
    have : k * sz = cells.toList.length := by simpa using h
    rw [this, List.take_length, Array.toArray_toList]
  | v :: vs, k, cells, hs, h => by
    have hv := hs v (by simp)
    have hb : k * sz + sz ≤ cells.size := by rw [← h, ← Nat.succ_mul]; exact Nat.mul_le_mul_right _ (by simp)
    simp only [List.zipIdx_cons, List.map_cons]
    rw [fill_step _ k (k * sz) sz v _ cells rfl hv hb, fill_full sz vs (k + 1) _ (fun v hv => hs v (by simp [hv])) (by simp [hv] at h ⊢; rw [Nat.min_eq_left (by omega)]; rw [show k + 1 + vs.length = k + (vs.length + 1) by omega, h]; omega)]
    congr 2
    have e1 : (cells.toList.take (k * sz) ++ v.cells.toList).length = (k + 1) * sz := by simp [hv]; rw [Nat.min_eq_left (by omega), Nat.succ_mul]
    simp only
    rw [← e1, List.take_append_of_le_length (Nat.le_refl _), List.take_length]
    simp [flat]
end Go.Sas
