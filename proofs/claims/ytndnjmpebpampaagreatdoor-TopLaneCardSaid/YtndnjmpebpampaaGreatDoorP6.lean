/-
An abstract machine over values, part 19: results whose rows nobody writes any more; weaker arguments; many rows frozen at once.
An abstract machine over values, part 20: loops over functions.
Conditions: none.
-/
import Derived.Test.YtndnjmpebpampaaGreatDoorP5
import Derived.RangeFuncIn
import Derived.RangeFuncRecord
set_option linter.unusedVariables false
set_option linter.unusedSimpArgs false
namespace Go.Sas
variable {cx : Cx} {m : Nat} {k : List AItm} {R : Env → AHeap → Prop} {e : Env} {H H' : AHeap}

mutual
def AV.frz (id g sz : Nat) (xs0 : List AV) (a : AV) : AV := match a with
  | .agg cs => .agg (AV.frzL id g sz xs0 cs)
  | .tup cs => .tup (AV.frzL id g sz xs0 cs)
  | .fn f cs => .fn f (AV.frzL id g sz xs0 cs)
  | .ms sz' id' g' off len => if id' = id then (if g' = g ∧ sz' = sz ∧ off = off / sz * sz ∧ off / sz + len ≤ xs0.length then .vs sz ((xs0.drop (off / sz)).take len) else .bad) else .ms sz' id' g' off len
  | a => a
def AV.frzL (id g sz : Nat) (xs0 : List AV) (as : List AV) : List AV := match as with
  | [] => []
  | a :: as => a.frz id g sz xs0 :: AV.frzL id g sz xs0 as
end
def AObj.frz (id g sz : Nat) (xs0 : List AV) : AObj → AObj
  | .own g' cs => .own g' (AV.frzL id g sz xs0 cs)
  | .raw g' o es us => .raw g' o (AV.frzL id g sz xs0 es) us
  | .gone => .gone
def frzG (id g sz : Nat) (xs0 : List AV) : List (Nat × AV) → List (Nat × AV)
  | [] => []
  | (t, a) :: r => (t, a.frz id g sz xs0) :: frzG id g sz xs0 r
def frzH (id g sz : Nat) (xs0 : List AV) : AHeap → AHeap
  | [] => []
  | X :: r => X.frz id g sz xs0 :: frzH id g sz xs0 r

theorem frzL_length {id g sz : Nat} {xs0 : List AV} : ∀ {as : List AV}, (AV.frzL id g sz xs0 as).length = as.length
  | [] => by simp [AV.frzL]
  | a :: as => by simp [AV.frzL, frzL_length (as := as)]
theorem frzH_map {id g sz : Nat} {xs0 : List AV} : ∀ {H : AHeap}, frzH id g sz xs0 H = H.map (AObj.frz id g sz xs0)
  | [] => rfl
  | a :: as => by simp [frzH, frzH_map (H := as)]
theorem look_frzG {id g sz : Nat} {xs0 : List AV} : ∀ {l : List (Nat × AV)} {t : Nat}, look (frzG id g sz xs0 l) t = (look l t).frz id g sz xs0
  | [], t => by simp [frzG, look, AV.frz]
  | (i, a) :: r, t => by
    simp only [frzG, look]
    split
    · rfl
    · exact look_frzG

mutual
theorem RelV.frz {st st' : St} {id g sz : Nat} {xs0 : List AV} (hle : st.le st')
    (hms : ∀ off len v, off = off / sz * sz → off / sz + len ≤ xs0.length → RelV st (.ms sz id g off len) v → RelV st' (.vs sz ((xs0.drop (off / sz)).take len)) v) : ∀ {a : AV} {v : Value}, RelV st a v → RelV st' (a.frz id g sz xs0) v
  | .bad, v, h => by simp only [AV.frz, RelV]
  | .lit u, v, h => by simp only [AV.frz]; exact h.mono hle
  | .agg cs, v, h => by
    simp only [RelV] at h; simp only [AV.frz, RelV]
    obtain ⟨us, h1, h2, h3⟩ := h
    exact ⟨us, h1, RelL.frz hle hms h2, h3⟩
  | .tup cs, v, h => by
    simp only [RelV] at h; simp only [AV.frz, RelV]
    obtain ⟨us, h1, h2⟩ := h
    exact ⟨us, h1, RelL.frz hle hms h2⟩
  | .fn f cs, v, h => by
    simp only [RelV] at h; simp only [AV.frz, RelV]
    obtain ⟨us, h1, h2⟩ := h
    exact ⟨us, h1, RelL.frz hle hms h2⟩
  | .ms sz' id' g' off len, v, h => by
    simp only [AV.frz]
    split
    · rename_i h1; subst h1
      split
      · rename_i h2
        obtain ⟨rfl, rfl, h3, h4⟩ := h2
        exact hms off len v h3 h4 h
      · simp only [RelV]
    · exact h.mono hle
  | .vs sz es, v, h => by simp only [AV.frz]; exact h.mono hle
  | .vp cs, v, h => by simp only [AV.frz]; exact h.mono hle
  | .mp a b c, v, h => by simp only [AV.frz]; exact h.mono hle
  | .es, v, h => by simp only [AV.frz]; exact h.mono hle
  | .nni, v, h => by simp only [AV.frz]; exact h.mono hle
  | .yl a b, v, h => by simp only [AV.frz]; exact h.mono hle
theorem RelL.frz {st st' : St} {id g sz : Nat} {xs0 : List AV} (hle : st.le st')
    (hms : ∀ off len v, off = off / sz * sz → off / sz + len ≤ xs0.length → RelV st (.ms sz id g off len) v → RelV st' (.vs sz ((xs0.drop (off / sz)).take len)) v) : ∀ {as : List AV} {us : List Value}, RelL st as us → RelL st' (AV.frzL id g sz xs0 as) us
  | [], us, h => by simp only [RelL] at h; simp only [AV.frzL, RelL]; exact h
  | a :: as, us, h => by
    simp only [RelL] at h; simp only [AV.frzL, RelL]
    obtain ⟨u, us', h1, h2, h3⟩ := h
    exact ⟨u, us', h1, RelV.frz hle hms h2, RelL.frz hle hms h3⟩
end

/-- the cells of some elements, one behind another -/
def cellsL : List AV → Option (List AV)
  | [] => some []
  | a :: as => match a.cells, cellsL as with
    | some cs, some r => some (cs ++ r)
    | _, _ => none
theorem cellsL_eq {sz : Nat} : ∀ (xs : List AV), cellsOfSl [] sz (.vs sz xs) = cellsL xs := by
  intro xs
  simp only [cellsOfSl, if_true]
  induction xs with
  | nil => rfl
  | cons x xs ih => simp only [List.foldr_cons, cellsL, ih]; rfl

theorem cellsL_len {sz : Nat} : ∀ {xs cs : List AV}, cellsL xs = some cs → elemsLen sz xs = true → cs.length = xs.length * sz
  | [], cs, h, _ => by simp only [cellsL, Option.some.injEq] at h; subst h; simp
  | x :: xs, cs, h, he => by
    simp only [elemsLen, List.all_cons, Bool.and_eq_true] at he
    simp only [cellsL] at h
    split at h
    · rename_i c r hc hr
      simp only [Option.some.injEq] at h; subst h
      have h1 := cellsL_len hr he.2
      rw [hc] at he
      simp only [beq_iff_eq] at he
      simp [h1, he.1, Nat.add_mul]; omega
    · cases h
theorem cellsL_drop {sz : Nat} : ∀ {n : Nat} {xs cs : List AV}, cellsL xs = some cs → elemsLen sz xs = true → cellsL (xs.drop n) = some (cs.drop (n * sz)) ∧ elemsLen sz (xs.drop n) = true
  | 0, xs, cs, h, he => by simpa using ⟨h, he⟩
  | n + 1, [], cs, h, he => by simp only [cellsL, Option.some.injEq] at h; subst h; simp [cellsL, elemsLen]
  | n + 1, x :: xs, cs, h, he => by
    simp only [elemsLen, List.all_cons, Bool.and_eq_true] at he
    simp only [cellsL] at h
    split at h
    · rename_i c r hc hr
      simp only [Option.some.injEq] at h; subst h
      rw [hc] at he
      simp only [beq_iff_eq] at he
      have := cellsL_drop (n := n) hr he.2
      simp only [List.drop_succ_cons]
      rw [show (n + 1) * sz = c.length + n * sz by rw [he.1, Nat.add_mul]; omega, ← List.drop_drop, List.drop_left]
      exact this
    · cases h
theorem cellsL_take {sz : Nat} : ∀ {n : Nat} {xs cs : List AV}, cellsL xs = some cs → elemsLen sz xs = true → cellsL (xs.take n) = some (cs.take (n * sz)) ∧ elemsLen sz (xs.take n) = true
  | 0, xs, cs, h, he => by simp [cellsL, elemsLen]
  | n + 1, [], cs, h, he => by simp only [cellsL, Option.some.injEq] at h; subst h; simp [cellsL, elemsLen]
  | n + 1, x :: xs, cs, h, he => by
    simp only [elemsLen, List.all_cons, Bool.and_eq_true] at he
    simp only [cellsL] at h
    split at h
    · rename_i c r hc hr
      simp only [Option.some.injEq] at h; subst h
      rw [hc] at he
      simp only [beq_iff_eq] at he
      have := cellsL_take (n := n) hr he.2
      refine ⟨?_, ?_⟩
      · simp only [List.take_succ_cons, cellsL, hc, this.1]
        rw [show (n + 1) * sz = c.length + n * sz by rw [he.1, Nat.add_mul]; omega, List.take_length_add_append]
      · simp only [elemsLen, List.take_succ_cons, List.all_cons, Bool.and_eq_true, hc, beq_iff_eq]
        exact ⟨he.1, by simpa [elemsLen] using this.2⟩
    · cases h
theorem nidL_drop : ∀ {n : Nat} {xs : List AV}, AV.nidL xs = true → AV.nidL (xs.drop n) = true
  | 0, xs, h => by simpa using h
  | n + 1, [], h => by simp [AV.nidL]
  | n + 1, x :: xs, h => by simp only [AV.nidL, Bool.and_eq_true] at h; simpa using nidL_drop h.2
theorem nidL_take : ∀ {n : Nat} {xs : List AV}, AV.nidL xs = true → AV.nidL (xs.take n) = true
  | 0, xs, h => by simp [AV.nidL]
  | n + 1, [], h => by simp [AV.nidL]
  | n + 1, x :: xs, h => by
    simp only [AV.nidL, Bool.and_eq_true] at h
    simp only [List.take_succ_cons, AV.nidL, Bool.and_eq_true]
    exact ⟨h.1, nidL_take h.2⟩

/-- an object, by its elements -/
def Elems (sz : Nat) (xs cs : List AV) : Prop := cellsL xs = some cs ∧ elemsOk sz xs = true

theorem freezeAll {st : St} {w : World} {id g sz : Nat} {cs xs0 : List AV} (hH : RelH st w H) (hX : H[id]? = some (.own g cs)) (hE : Elems sz xs0 cs) :
    ∃ st', Ext st w st' w ∧ RelH st' w (frzH id g sz xs0 (H.set id .gone)) ∧ ∀ a v, RelV st a v → RelV st' (a.frz id g sz xs0) v := by
  obtain ⟨hxs, hok⟩ := hE
  obtain ⟨st', h1, h2, h3⟩ := freeze_st hH hX
  have hms : ∀ off len v, off = off / sz * sz → off / sz + len ≤ xs0.length → RelV st (.ms sz id g off len) v → RelV st' (.vs sz ((xs0.drop (off / sz)).take len)) v := by
    intro off len v ho hl hv
    have hok' := hok
    simp only [elemsOk, Bool.and_eq_true] at hok
    have hd := cellsL_drop (n := off / sz) hxs hok.2
    have ht := cellsL_take (n := len) hd.1 hd.2
    have hlen := cellsL_len hxs hok.2
    rw [← ho] at ht
    refine h3 sz off len _ v (by rw [cellsL_eq]; exact ht.1) ?_ (by simp; omega) (by simp only [elemsOk, Bool.and_eq_true]; exact ⟨nidL_take (nidL_drop hok.1), ht.2⟩) hv
    rw [hlen]
    calc off + len * sz = (off / sz + len) * sz := by rw [Nat.add_mul, ← ho]
      _ ≤ xs0.length * sz := Nat.mul_le_mul_right _ hl
  refine ⟨st', h1, ⟨?_, h2.rd, ?_, h2.inj⟩, fun a v hv => RelV.frz h1.le hms hv⟩
  · rw [h2.len, frzH_map]; simp
  · intro j l X hl hX'
    rw [frzH_map, List.getElem?_map] at hX'
    cases hY : (H.set id .gone)[j]? with
    | none => rw [hY] at hX'; cases hX'
    | some Y =>
      rw [hY] at hX'
      simp only [Option.map_some, Option.some.injEq] at hX'
      subst hX'
      have h4 := h2.obj j l Y hl hY
      cases Y with
      | gone => exact h4
      | raw g' ob es us =>
        have hj : j ≠ id := by
          rintro rfl
          have := (List.getElem?_eq_some_iff.1 hX).1
          rw [List.getElem?_set_self this] at hY; cases hY
        rw [List.getElem?_set_ne (Ne.symm hj)] at hY
        obtain ⟨l0, hl0⟩ : ∃ l0, st.loc[j]? = some l0 := ⟨_, List.getElem?_eq_getElem (by rw [hH.len]; exact (List.getElem?_eq_some_iff.1 hY).1)⟩
        have h5 := hH.obj j l0 _ hl0 hY
        exact ⟨h4.1, RelL.frz h1.le hms h5.2.1, h4.2.2⟩
      | own g' ds =>
        have hj : j ≠ id := by
          rintro rfl
          have := (List.getElem?_eq_some_iff.1 hX).1
          rw [List.getElem?_set_self this] at hY; cases hY
        rw [List.getElem?_set_ne (Ne.symm hj)] at hY
        obtain ⟨l0, hl0⟩ : ∃ l0, st.loc[j]? = some l0 := ⟨_, List.getElem?_eq_getElem (by rw [hH.len]; exact (List.getElem?_eq_some_iff.1 hY).1)⟩
        have h5 := hH.obj j l0 _ hl0 hY
        obtain ⟨l1, hl1, _, hb⟩ := h1.le.loc j l0 hl0
        rw [hl] at hl1; cases hl1
        refine ⟨h4.1, fun b o r hbase => ?_⟩
        rw [hb (by rw [h4.1, h5.1])] at hbase
        obtain ⟨arr, T, us, e1, e2, e3, e4, e5, e6⟩ := h5.2 b o r hbase
        exact ⟨arr, T, us, e1, e2, by rw [frzL_length]; exact e3, RelL.frz h1.le hms e4, e5, e6⟩

theorem AGo_frz (id g sz : Nat) {cs : List AV} (xs0 : List AV) (hX : H[id]? = some (.own g cs)) (hE : Elems sz xs0 cs) (h : AGo cx m k R ⟨frzG id g sz xs0 e.l, frzG id g sz xs0 e.g⟩ (frzH id g sz xs0 (H.set id .gone))) : AGo cx m k R e H := by
  refine AGo_turn (fun st w hH => ?_) h
  obtain ⟨st', g1, g2, g3⟩ := freezeAll hH hX hE
  refine ⟨st', g1, g2, fun t v hv => ?_, fun t v hv => ?_, fun t hb => ?_, fun t hb => ?_⟩
  · rw [look_frzG]; exact g3 _ _ hv
  · rw [look_frzG]; exact g3 _ _ hv
  · rw [look_frzG, hb]; simp [AV.frz]
  · rw [look_frzG, hb]; simp [AV.frz]

/-! ### At a function's end -/
def Frees (m : Nat) (Kk : AV → AHeap → Prop) (r : AV) (H : AHeap) : Prop := ∀ st0 w0 st w v, st0.loc.length = m → Ext st0 w0 st w → RelH st w H → RelV st r v → ∃ st' r' H', Ext st0 w0 st' w ∧ RelH st' w H' ∧ RelV st' r' v ∧ Kk r' H'

theorem ACalls.frees {P : Program} {f : Nat} {args : List AV} {Kk : AV → AHeap → Prop} (h : ACalls P f args H (Frees H.length Kk)) : ACalls P f args H Kk :=
  ⟨h.1, fun st w vals hH hr => (h.2 st w vals hH hr).mono fun x w' ⟨v, r, H', st', e1, e2, e3, e4, e5⟩ => by
    obtain ⟨st2, r2, H2, f1, f2, f3, f4⟩ := e5 st w st' w' v hH.len e2 e3 e4
    exact ⟨v, r2, H2, st2, e1, f1, f2, f3, f4⟩⟩

variable {Kk : AV → AHeap → Prop} {r : AV}
theorem Frees.now (h : Kk r H) : Frees m Kk r H := fun st0 w0 st w v _ he hH hr => ⟨st, r, H, he, hH, hr, h⟩
theorem Frees.frz (id g sz : Nat) {cs : List AV} (xs0 : List AV) (hX : H[id]? = some (.own g cs)) (hE : Elems sz xs0 cs) (h : Frees m Kk (r.frz id g sz xs0) (frzH id g sz xs0 (H.set id .gone))) : Frees m Kk r H := by
  intro st0 w0 st w v hm he hH hr
  obtain ⟨st', g1, g2, g3⟩ := freezeAll hH hX hE
  exact h st0 w0 st' w v hm (he.trans g1) g2 (g3 _ _ hr)
theorem Frees.drop {T : AHeap} (hm : m ≤ H.length) (hr : r.ltB H.length = true) (hl : ltHB H.length H = true) (h : Frees m Kk r H) : Frees m Kk r (H ++ T) := by
  intro st0 w0 st w v hm' he hH hv
  exact h st0 w0 (st.take H.length) w v hm' (he.take (by omega)) (hH.take (ltHB_spec hl)) (RelV.take (AV.ltB_spec hr) hv)
theorem Frees.drop0 (h : Kk r []) (hr : r.nid = true) : Frees 0 Kk r H := by
  have := Frees.drop (m := 0) (H := []) (T := H) (Nat.le_refl 0) (r := r) (Kk := Kk) ?_ rfl (Frees.now h)
  · simpa using this
  · clear h
    exact nid_ltB hr
where
  nid_ltB : ∀ {r : AV}, r.nid = true → r.ltB 0 = true
  | .bad, _ | .lit _, _ | .vs _ _, _ | .vp _, _ | .es, _ | .nni, _ => by simp only [AV.ltB]
  | .agg cs, h => by simp only [AV.nid] at h; simp only [AV.ltB]; exact nid_ltLB h
  | .tup cs, h => by simp only [AV.nid] at h; simp only [AV.ltB]; exact nid_ltLB h
  | .fn f cs, h => by simp only [AV.nid] at h; simp only [AV.ltB]; exact nid_ltLB h
  nid_ltLB : ∀ {as : List AV}, AV.nidL as = true → AV.ltLB 0 as = true
  | [], _ => by simp only [AV.ltLB]
  | a :: as, h => by
    simp only [AV.nidL, Bool.and_eq_true] at h
    simp only [AV.ltLB, Bool.and_eq_true]; exact ⟨nid_ltB h.1, nid_ltLB h.2⟩

/-! ### Weaker values -/
def Wk (a b : AV) : Prop := ∀ st v, RelV st a v → RelV st b v
def WkL : List AV → List AV → Prop
  | [], [] => True
  | a :: as, b :: bs => Wk a b ∧ WkL as bs
  | _, _ => False
theorem WkL.rel {st : St} : ∀ {as bs : List AV} {us : List Value}, WkL as bs → RelL st as us → RelL st bs us
  | [], [], _, _, h => h
  | a :: as, b :: bs, us, hw, h => by
    obtain ⟨u, us', rfl, h1, h2⟩ := h.uncons
    exact RelL.cons (hw.1 _ _ h1) (WkL.rel hw.2 h2)
theorem ACalls.wk {P : Program} {f : Nat} {as bs : List AV} (h : ACalls P f bs H Kk) (hw : WkL as bs) : ACalls P f as H Kk :=
  ⟨h.1, fun st w vals hH hr => h.2 st w vals hH (hw.rel hr)⟩
theorem Wk.rfl {a : AV} : Wk a a := fun _ _ h => h
theorem Wk.agg {as bs : List AV} (h : WkL as bs) : Wk (.agg as) (.agg bs) := fun st v hv => by
  simp only [RelV] at hv ⊢
  obtain ⟨us, h1, h2, h3⟩ := hv
  exact ⟨us, h1, h.rel h2, h3⟩
theorem Wk.nil {sz : Nat} : Wk (.lit (.slice none 0 0)) (.vs sz []) := fun st v hv => by
  simp only [RelV] at hv ⊢
  subst hv
  exact ⟨none, 0, [], Eq.refl _, Nat.le_refl _, by simp [RelL], by simp, fun h => absurd (Eq.refl _) h⟩
theorem Wk.es {sz : Nat} : Wk .es (.vs sz []) := fun st v hv => by
  simp only [RelV] at hv ⊢
  obtain ⟨a, rfl⟩ := hv
  exact ⟨a, 0, [], Eq.refl _, Nat.le_refl _, by simp [RelL], by simp, fun h => absurd (Eq.refl _) h⟩
/-- a slice by its elements -/
def asVs (sz : Nat) : AV → Option (List AV)
  | .vs sz' es => match Nat.beq sz sz' with | true => some es | false => none
  | .lit (.slice none 0 0) => some []
  | .es => some []
  | _ => none
theorem asVs_wk {sz : Nat} {a : AV} {es : List AV} (h : asVs sz a = some es) : Wk a (.vs sz es) := by
  unfold asVs at h
  split at h
  · split at h
    · rename_i hb; have := Nat.eq_of_beq_eq_true hb; subst this; cases h; exact Wk.rfl
    · cases h
  · cases h; exact Wk.nil
  · cases h; exact Wk.es
  · cases h

/-! ### Loops that count, elements -/
/-- a loop that counts up -/
theorem AGo_up {c : ACode} (N : Nat) (Pr : Nat → Prop) (S : Nat → Int → List (Nat × AV)) (HS : Nat → AHeap) (h0 : Pr 0) (hf0 : Fits e (S 0 (iLen 0))) (hH0 : HFits m (S 0 (iLen 0)) (HS 0) H)
    (hround : ∀ (j : Nat) (i : Int), i = iLen j → j ≤ N → Pr j → ∀ Bk : Env → AHeap → Prop, (∀ e' H', j < N → Pr (j + 1) → Fits e' (S (j + 1) (iLen (j + 1))) → HFits m (S (j + 1) (iLen (j + 1))) (HS (j + 1)) H' → Bk e' H') →
      AGo cx m (.code c :: .bk Bk :: k) R ⟨[], S j i⟩ (HS j)) : AGo cx m (.code (.loop c) :: k) R e H := by
  refine AGo_loop (σ := { j : Nat // j ≤ N ∧ Pr j }) (fun j => S j.1 (iLen j.1)) (fun j => HS j.1) (fun j => N - j.1) ⟨0, Nat.zero_le _, h0⟩ hf0 hH0 fun ⟨j, hj, hP⟩ => ?_
  exact hround j _ rfl hj hP _ fun e' H' h1 h2 h3 h4 => ⟨⟨j + 1, h1, h2⟩, by simp only; omega, h3, h4⟩
/-- a loop that counts up, with a state -/
theorem AGo_upS {c : ACode} {σ : Type} (N : Nat) (Pr : Nat → σ → Prop) (S : Nat → σ → Int → List (Nat × AV)) (HS : Nat → σ → AHeap) (s0 : σ) (h0 : Pr 0 s0) (hf0 : Fits e (S 0 s0 (iLen 0))) (hH0 : HFits m (S 0 s0 (iLen 0)) (HS 0 s0) H)
    (hround : ∀ (j : Nat) (s : σ) (i : Int), i = iLen j → j ≤ N → Pr j s → ∀ Bk : Env → AHeap → Prop, (∀ s' e' H', j < N → Pr (j + 1) s' → Fits e' (S (j + 1) s' (iLen (j + 1))) → HFits m (S (j + 1) s' (iLen (j + 1))) (HS (j + 1) s') H' → Bk e' H') →
      AGo cx m (.code c :: .bk Bk :: k) R ⟨[], S j s i⟩ (HS j s)) : AGo cx m (.code (.loop c) :: k) R e H := by
  refine AGo_loop (σ := { x : Nat × σ // x.1 ≤ N ∧ Pr x.1 x.2 }) (fun x => S x.1.1 x.1.2 (iLen x.1.1)) (fun x => HS x.1.1 x.1.2) (fun x => N - x.1.1) ⟨(0, s0), Nat.zero_le _, h0⟩ hf0 hH0 fun ⟨⟨j, t⟩, hj, hP⟩ => ?_
  exact hround j t _ rfl hj hP _ fun s' e' H' h1 h2 h3 h4 => ⟨⟨(j + 1, s'), h1, h2⟩, by simp only at hj ⊢; omega, h3, h4⟩
/-- a loop, by a measure -/
theorem AGo_while {c : ACode} {σ : Type} (μ : σ → Nat) (S : σ → List (Nat × AV)) (HS : σ → AHeap) (x0 : σ) (hf0 : Fits e (S x0)) (hH0 : HFits m (S x0) (HS x0) H)
    (hround : ∀ (x : σ), ∀ Bk : Env → AHeap → Prop, (∀ y e' H', μ y < μ x → Fits e' (S y) → HFits m (S y) (HS y) H' → Bk e' H') → AGo cx m (.code c :: .bk Bk :: k) R ⟨[], S x⟩ (HS x)) : AGo cx m (.code (.loop c) :: k) R e H :=
  AGo_loop S HS μ x0 hf0 hH0 fun x => hround x _ fun y _ _ h1 h2 h3 => ⟨y, h1, h2, h3⟩
theorem ix_map {α : Type} {f : α → AV} {xs : List AV} {l : List α} {sz j : Nat} {i : Int} {x : α} {c : List AV} (hxs : xs = l.map f) (hi : i = iLen j) (hx : l[j]? = some x) (hc : (f x).cells = some c) : ixS sz sz xs i c := by
  subst hxs; subst hi
  exact ⟨rfl, Int.natCast_nonneg j, f x, by simp [iLen, hx], hc⟩
theorem lt_len {xs : List AV} {N j : Nat} {i : Int} (hN : xs.length = N) (hi : i = iLen j) : iLt i (iLen xs.length) = decide (j < N) := by
  subst hN; subst hi; simp only [iLt, iLen, Int.ofNat_lt]
theorem add_one {N j : Nat} {i : Int} (hi : i = iLen j) (hj : j < N) (hN : N ≤ 9223372036854775807) : iAdd .i64 i 1 = iLen (j + 1) := by
  subst hi
  show iAdd .i64 (j : Int) 1 = ((j + 1 : Nat) : Int)
  rw [iAdd_id] <;> omega
theorem drop_cons {α : Type} {l : List α} {j : Nat} {x : α} (hx : l[j]? = some x) : l.drop j = x :: l.drop (j + 1) := by
  obtain ⟨h, hx⟩ := List.getElem?_eq_some_iff.1 hx
  rw [List.drop_eq_getElem_cons h, hx]

/-- of a function that names no object -/
theorem pureC {P : Program} {f : Nat} {args : List AV} {res : AV} (ha : AV.nidL args = true) (hr : res.nid = true) (h : ∀ Kk : AV → AHeap → Prop, Kk res [] → ACalls P f args [] Kk) (H : AHeap) {Kk : AV → AHeap → Prop} (hk : Kk res H) : ACalls P f args H Kk :=
  liftP (h _ ⟨rfl, rfl⟩) ha hr H hk
/-- the same, its rows to be frozen -/
theorem pureF {P : Program} {f : Nat} {args : List AV} {res : AV} (ha : AV.nidL args = true) (hr : res.nid = true) (h : ∀ Kk : AV → AHeap → Prop, Kk res [] → ACalls P f args [] (Frees 0 Kk)) (H : AHeap) {Kk : AV → AHeap → Prop} (hk : Kk res H) : ACalls P f args H Kk :=
  pureC ha hr (fun _ hk => ACalls.frees (h _ hk)) H hk
end Go.Sas
namespace Go.Sas
variable {cx : Cx} {st0 st st' : St} {w0 w w' : World} {e e' : Env} {H H' : AHeap} {a : Act} {m : Nat} {k : List AItm} {R : Env → AHeap → Prop}

/-! ### The round that it is does not matter to the code -/
theorem trOps_ro {P : Program} {K mu : List Nat} {n : Nat} {r r' : Option Nat} {ops : Array Oper} : ∀ (l : List Oper), trOps ⟨P, K, mu, n, r⟩ ops l = trOps ⟨P, K, mu, n, r'⟩ ops l
  | [] => rfl
  | o :: l => by
    simp only [trOps]
    rw [trOps_ro l]
    rfl
theorem canon_ro {P : Program} {K mu : List Nat} {n : Nat} {r r' : Option Nat} {ops : Array Oper} : canon ⟨P, K, mu, n, r⟩ ops = canon ⟨P, K, mu, n, r'⟩ ops := by
  unfold canon
  rw [trOps_ro (r := r) (r' := r')]
theorem trCode_ro {P : Program} {K mu : List Nat} {n : Nat} {r r' : Option Nat} : ∀ (c : Code), trCode ⟨P, K, mu, n, r⟩ c = trCode ⟨P, K, mu, n, r'⟩ c := by
  intro c
  induction c <;> (try simp only [trCode])
  case region id ops d => cases d <;> simp only [trCode, trOps_ro (r := r) (r' := r'), canon_ro (r := r) (r' := r')]
  all_goals (try simp only [*])

/-! ### What a loop remembers -/
def esOf (S : List (Nat × AV)) : List AV := S.map (·.2)
def usOf (S : List (Nat × AV)) (ts : Array Value) : List Value := S.map fun x => ts.getD x.1 undef
theorem esOf_rel {ts : Array Value} : ∀ {S : List (Nat × AV)}, (∀ x ∈ S, RelV st x.2 (ts.getD x.1 undef)) → RelL st (esOf S) (usOf S ts)
  | [], _ => RelL.nil
  | x :: S, h => RelL.cons (h x (by simp)) (esOf_rel fun y hy => h y (by simp [hy]))
theorem esOf_look {ts : Array Value} : ∀ {S : List (Nat × AV)}, RelL st (esOf S) (usOf S ts) → ∀ t, RelV st (look S t) (ts.getD t undef)
  | [], _, t => by simp only [look, RelV]
  | (i, x) :: S, h, t => by
    obtain ⟨u, us, h1, h2, h3⟩ := h.uncons
    simp only [usOf, List.map_cons, List.cons.injEq] at h1
    obtain ⟨rfl, rfl⟩ := h1
    simp only [look]
    split
    · rename_i he; subst he; exact h2
    · exact esOf_look h3 t
def psG : List (Nat × AV) → List Nat → List AV → List (Nat × AV)
  | G, p :: ps, a :: as => psG (gset G p a) ps as
  | G, _, _ => G
def psT : Array Value → List Nat → List Value → Array Value
  | ts, p :: ps, v :: vs => psT (ts.setIfInBounds p v) ps vs
  | ts, _, _ => ts
theorem psT_eq : ∀ (ps : List Nat) (vs : List Value) (ts : Array Value), ((ps.toArray.zip vs.toArray).foldl (fun tmps (t, a) => tmps.setIfInBounds t a) ts) = psT ts ps vs := by
  intro ps vs ts
  rw [List.zip_toArray, List.foldl_toArray]
  induction ps generalizing vs ts with
  | nil => simp [psT]
  | cons p ps ih =>
    cases vs with
    | nil => simp [psT]
    | cons v vs => simp only [List.zip_cons_cons, List.foldl_cons, psT]; exact ih vs _
theorem psT_size : ∀ {ps : List Nat} {vs : List Value} {ts : Array Value}, (psT ts ps vs).size = ts.size
  | [], vs, ts => by simp [psT]
  | p :: ps, [], ts => by simp [psT]
  | p :: ps, v :: vs, ts => by simp only [psT]; rw [psT_size]; simp
theorem psG_rel : ∀ {ps : List Nat} {as : List AV} {vs : List Value} {G : List (Nat × AV)} {ts : Array Value}, (∀ p ∈ ps, p < ts.size) → (∀ t, RelV st (look G t) (ts.getD t undef)) → RelL st as vs → ∀ t, RelV st (look (psG G ps as) t) ((psT ts ps vs).getD t undef)
  | [], as, vs, G, ts, _, h, _, t => by simp only [psG, psT]; exact h t
  | p :: ps, [], vs, G, ts, _, h, hr, t => by simp only [RelL] at hr; subst hr; simp only [psG, psT]; exact h t
  | p :: ps, x :: as, vs, G, ts, hp, h, hr, t => by
    obtain ⟨u, us, rfl, h2, h3⟩ := hr.uncons
    simp only [psG, psT]
    refine psG_rel (fun q hq => by simpa using hp q (by simp [hq])) (fun s => ?_) h3 t
    have hlt := hp p (by simp)
    rw [look_gset]
    simp only [Array.getD_eq_getD_getElem?, Array.getElem?_setIfInBounds]
    split
    · rename_i he; subst he; simpa [hlt] using h2
    · simpa [Array.getD_eq_getD_getElem?] using h s
def okS (K : List Nat) (n : Nat) (S : List (Nat × AV)) (ps : List Nat) : Bool := S.all (fun x => K.contains x.1) && ps.all fun p => K.contains p && decide (p < n)
theorem look_keys {K : List Nat} : ∀ {S : List (Nat × AV)}, (∀ x ∈ S, K.contains x.1 = true) → ∀ t, K.contains t = false → look S t = .bad
  | [], _, t, _ => rfl
  | (i, x) :: S, h, t, ht => by
    simp only [look]
    split
    · rename_i he; subst he; have := h (i, x) (by simp); simp only at this; rw [ht] at this; cases this
    · exact look_keys (fun y hy => h y (by simp [hy])) t ht
theorem gset_keys {K : List Nat} {p : Nat} {v : AV} (hp : K.contains p = true) : ∀ {S : List (Nat × AV)}, (∀ x ∈ S, K.contains x.1 = true) → ∀ x ∈ gset S p v, K.contains x.1 = true
  | [], _, x, hx => by simp only [gset, List.mem_singleton] at hx; subst hx; exact hp
  | (i, u) :: S, h, x, hx => by
    simp only [gset] at hx
    split at hx
    · rcases List.mem_cons.1 hx with rfl | hx
      · exact h (i, u) (by simp)
      · exact h x (by simp [hx])
    · rcases List.mem_cons.1 hx with rfl | hx
      · exact h (i, u) (by simp)
      · exact gset_keys hp (fun y hy => h y (by simp [hy])) x hx
theorem psG_keys {K : List Nat} : ∀ {ps : List Nat} {as : List AV} {S : List (Nat × AV)}, (∀ p ∈ ps, K.contains p = true) → (∀ x ∈ S, K.contains x.1 = true) → ∀ x ∈ psG S ps as, K.contains x.1 = true
  | [], as, S, _, h => by simpa only [psG] using h
  | p :: ps, [], S, _, h => by simpa only [psG] using h
  | p :: ps, a :: as, S, hp, h => by simp only [psG]; exact psG_keys (fun q hq => hp q (by simp [hq])) (gset_keys (hp p (by simp)) h)

/-! ### Calls of yield -/
/-- a call of the function that runs a loop's round -/
def AYields (P : Program) (id : Nat) (args : List AV) (H : AHeap) (K : AV → AHeap → Prop) : Prop :=
  ∀ st w vals (L : Loc) l o r, RelH st w H → RelL st args vals → st.loc[id]? = some L → L.base = some (l, o, r) →
    ∃ fn tmps assign body, (Instr.yield l vals.toArray).run P w = .ok (.round l fn tmps assign body) w ∧
      RoundIn (Fc none) 0 P l fn tmps assign body w fun x w' => ∃ v r' H' st', x = .returned v ∧ Ext st w st' w' ∧ RelH st' w' H' ∧ RelV st' r' v ∧ K r' H'

theorem AYields.mono {P : Program} {id : Nat} {args : List AV} {K K' : AV → AHeap → Prop} (h : AYields P id args H K) (hk : ∀ r H', K r H' → K' r H') : AYields P id args H K' := by
  intro st w vals L l o r h1 h2 h3 h4
  obtain ⟨fn, tmps, assign, body, g1, g2⟩ := h st w vals L l o r h1 h2 h3 h4
  exact ⟨fn, tmps, assign, body, g1, RoundIn.mono g2 fun x w' ⟨v, r', H', st', e1, e2, e3, e4, e5⟩ => ⟨v, r', H', st', e1, e2, e3, e4, hk _ _ e5⟩⟩

theorem AGo_yield {d : Option (Bool × Nat)} {g : Option (Od × Bool)} {rest : List AOper} {f : Od} {xs : List Od} {id gg : Nat} {ob : Obj} {es : List AV} {us : List Value} (hro : cx.ro = none) (hg : gOk e g = some true) (hf : ev e f = .yl id gg) (hX : H[id]? = some (.raw gg ob es us))
    (h : AYields cx.P id (xs.map (ev e)) H fun r H' => AGo cx m (.ops rest :: k) R (put e d r) H') : AGo cx m (.ops (⟨d, .call f xs, g⟩ :: rest) :: k) R e H := by
  refine AGo_op hg fun ops o' st0 w0 kc l hm hk hl hp hd st a w hrel K' Q hK => ?_
  obtain ⟨mu, hp⟩ := hp
  obtain ⟨c, f', hop, hcal, hf', hxs⟩ := trOp_call hp
  have hfv := hrel.ops f' f hf'
  rw [hf] at hfv; simp only [RelV] at hfv
  obtain ⟨L, hL, _, _, hfv⟩ := hfv
  have hobj := hrel.hH.obj id L _ hL hX
  simp only [ObjOk] at hobj
  obtain ⟨b, o, r, hb, hfv⟩ := hfv hobj.1.symm
  have hargs := hrel.ops.list hxs
  obtain ⟨fn, tmps, assign, body, hy, hround⟩ := h st w _ L b o r hrel.hH hargs hL hb
  have harr : (c.args.toList.map a.eval).toArray = c.args.map a.eval := by apply Array.ext'; simp
  rw [harr] at hy
  have hrun : (execOp a.eval o').run cx.P w = .ok (.round b fn tmps assign body) w := by
    simp only [execOp, hop, resolve, hcal, Deferred.ofValue, hfv, Sem.run_bind, Sem.run_pure, Result.andThen_ok, invoke]
    simpa using hy
  rw [hrun]; simp only [Oper.uponIn]
  refine ⟨fun h => (by simp [Fc] at h), ?_⟩
  rw [hro]
  refine RoundIn.mono hround fun x w' hx => ?_
  obtain ⟨v, r, H', st', rfl, e2, e3, e4, e5⟩ := hx
  exact hK _ _ _ _ _ (hrel.put e2 e3 hd e4) e5

/-! ### Objects that are not cells, turned -/
theorem RelH.setRaw {id g b o r : Nat} {ob ob' : Obj} {es : List AV} {us : List Value} {L : Loc} (hH : RelH st w H) (hX : H[id]? = some (.raw g ob es us)) (hL : st.loc[id]? = some L) (hb : L.base = some (b, o, r)) (h1 : Obj.plain ob = true) : w.heap[b]? = some ob ∧ RelH st (w.putObj b ob') (H.set id (.raw g ob' es us)) := by
  have hid := (List.getElem?_eq_some_iff.1 hX).1
  have hobj := hH.obj id L _ hL hX
  simp only [ObjOk] at hobj
  obtain ⟨h2, h3, hxx⟩ := hobj
  obtain ⟨b', o', r', h4, h5⟩ : ∃ b' o' r', L.base = some (b', o', r') ∧ w.heap[b']? = some ob := hxx.elim (fun hx => hx) fun hx => by rw [hb] at hx; cases hx.1
  rw [hb] at h4; cases h4
  have hlt := (Array.getElem?_eq_some_iff.1 h5).1
  refine ⟨h5, by rw [hH.len]; simp, fun x y c hc => ⟨(hH.rd x y c hc).1, cell_put h5 h1 (hH.rd x y c hc).2.1, (hH.rd x y c hc).2.2⟩, fun j l X hl hY => ?_, hH.inj⟩
  by_cases hj : j = id
  · subst hj
    rw [List.getElem?_set_self hid] at hY; cases hY
    rw [hL] at hl; cases hl
    exact ⟨h2, h3, .inl ⟨b, o, r, hb, World.putObj_heap_same hlt⟩⟩
  · rw [List.getElem?_set_ne (Ne.symm hj)] at hY
    exact (hH.obj j l X hl hY).mono (.refl _) fun b' o' r' hb' => World.putObj_heap_other fun he => hj (hH.inj j id l L b' o' r' o r hl hL hb' (by rw [he]; exact hb))

theorem Mk.put {b : Nat} {o' : Obj} {ds : List Deferred} (h : Mk w0 st w ds) (hb : Owned st b) : Mk w0 st (w.putObj b o') ds :=
  ⟨h.nd, fun d hd => by
    obtain ⟨D, h1, h2, h3, h4⟩ := h.all d hd
    exact ⟨D, h1, h2, by rw [World.putObj_heap_other fun he => h4 (by rw [he]; exact hb)]; exact h3, h4⟩⟩

/-- a round, by its body -/
theorem AYields_of {P : Program} {K mu : List Nat} {n id : Nat} {ac bc : ACode} {S : List (Nat × AV)} {ps : List Nat} {args : List AV} {H1 : AHeap} {K' : AV → AHeap → Prop} (rec : Loop)
    (hta : ∀ l, trCode ⟨P, K, mu, n, some l⟩ rec.assign = some ac) (htb : ∀ l, trCode ⟨P, K, mu, n, some l⟩ rec.body = some bc) (hrs : rec.state = .ready) (hpd : rec.pending = none) (hps : rec.params = ps.toArray) (hsz : rec.tmps.size = n) (hlen : args.length = ps.length) (hok : okS K n S ps = true)
    (hX : H1[id]? = some (.raw 0 (.loop rec) (esOf S) (usOf S rec.tmps))) (R1 : Env → AHeap → Prop) (h1 : ∀ l, AGo ⟨P, K, mu, n, some l⟩ H1.length [.code ac] R1 ⟨[], psG S ps args⟩ H1)
    (h2 : ∀ l e1 H2, R1 e1 H2 → H2[id]? = some (.raw 0 (.loop rec) (esOf S) (usOf S rec.tmps)) ∧ AGo ⟨P, K, mu, n, some l⟩ H1.length [.code bc] (fun _ H3 => H3[id]? = some (.raw 0 (.loop { rec with state := .busy }) (esOf S) (usOf S rec.tmps)) ∧ K' (.lit (.bool true)) (H3.set id (.raw 0 (.loop rec) (esOf S) (usOf S rec.tmps))))
      ⟨[], e1.g⟩ (H2.set id (.raw 0 (.loop { rec with state := .busy }) (esOf S) (usOf S rec.tmps)))) : AYields P id args H1 K' := by
  intro st w vals L l o r hH hargs hL hb
  simp only [okS, Bool.and_eq_true, List.all_eq_true] at hok
  obtain ⟨hok1, hok2⟩ := hok
  have hobj := hH.obj id L _ hL hX
  simp only [ObjOk] at hobj
  obtain ⟨hLg, hes, hxx⟩ := hobj
  obtain ⟨b', o', r', hb', hheap⟩ : ∃ b' o' r', L.base = some (b', o', r') ∧ w.heap[b']? = some (.loop rec) := hxx.elim (fun hx => hx) fun hx => by rw [hb] at hx; cases hx.1
  rw [hb] at hb'; cases hb'
  have hvl := hargs.length
  have hy := run_yield (P := P) (args := vals.toArray) hheap (by rw [hps]; simp [hvl, hlen])
  refine ⟨rec.fn, _, rec.assign, rec.body, hy, ?_⟩
  rw [hps, psT_eq]
  have hround : Rel ⟨P, K, mu, n, some l⟩ st w st w ⟨[], psG S ps args⟩ H1 { tmps := psT rec.tmps ps vals, defers := [] } := by
    refine ⟨.refl _ _, hH, fun t => by simp only [look, RelV], fun t => ?_, fun t _ => rfl, fun t ht => ?_, by simp only; rw [psT_size]; exact hsz, .nil⟩
    · exact psG_rel (fun p hp => by rw [hsz]; have := hok2 p hp; simp only [Bool.and_eq_true, decide_eq_true_eq] at this; exact this.2) (esOf_look hes) hargs t
    · exact look_keys (psG_keys (fun p hp => by have := hok2 p hp; first | exact this.1 | (simp only [Bool.and_eq_true] at this; exact this.1)) hok1) t ht
  have hgo := h1 l st w [.code rec.assign] hH.len ⟨_, _, rfl, hta l, rfl⟩ st _ w hround
  simp only [GoK, ExK] at hgo
  have base : ∀ {st1 : St} {w1 : World}, Ext st w st1 w1 → ∀ {L1 : Loc}, st1.loc[id]? = some L1 → L1.g = 0 → L1.base = some (l, o, r) := fun hx L1 hL1 hg => by
    obtain ⟨L2, h3, _, h4⟩ := hx.le.loc id L hL
    rw [hL1] at h3; cases h3
    rw [h4 (by rw [hg, hLg])]; exact hb
  have locOf : ∀ {st1 : St} {w1 : World} {H2 : AHeap} {X : AObj}, RelH st1 w1 H2 → H2[id]? = some X → ∃ L1, st1.loc[id]? = some L1 := fun hH2 hX2 => ⟨_, List.getElem?_eq_getElem (by rw [hH2.len]; exact (List.getElem?_eq_some_iff.1 hX2).1)⟩
  refine roundIn_of_wpIn (F := Fc none) trivial (wpIn_mono (show rec.assign.wpIn ((Fc none).inRound l) 0 P _ _ w from hgo) fun ex a1 w1 hq => ?_)
  cases ex <;> (try simp only [Exit.then] at hq ⊢)
  case normal =>
    obtain ⟨st1, e1, H2, hr1, hR1⟩ := hq
    obtain ⟨hX2, hgo2⟩ := h2 l e1 H2 hR1
    obtain ⟨L1, hL1⟩ := locOf hr1.hH hX2
    have hg1 : L1.g = 0 := (hr1.hH.obj id L1 _ hL1 hX2).1
    have hb1 := base hr1.ext hL1 hg1
    obtain ⟨hh1, hH2'⟩ := hr1.hH.setRaw (ob' := .loop { rec with state := .busy }) hX2 hL1 hb1 rfl
    refine ⟨_, run_beginRound hh1 hrs, ?_⟩
    have hr2 : Rel ⟨P, K, mu, n, some l⟩ st w st1 (w1.putObj l (.loop { rec with state := .busy })) ⟨[], e1.g⟩ (H2.set id (.raw 0 (.loop { rec with state := .busy }) (esOf S) (usOf S rec.tmps))) a1 :=
      ⟨hr1.ext.put hh1 rfl rfl (.inr ⟨id, L, o, r, hL, hb⟩), hH2', fun t => by simp only [look, RelV], hr1.g, fun t _ => rfl, hr1.kg, hr1.n, hr1.d.put ⟨id, L1, o, r, hL1, hb1⟩⟩
    have hgo3 := hgo2 st w [.code rec.body] hH.len ⟨_, _, rfl, htb l, rfl⟩ st1 a1 _ hr2
    simp only [GoK, ExK] at hgo3
    refine wpIn_mono (show rec.body.wpIn ((Fc none).inRound l) 0 P _ _ _ from hgo3) fun ex2 a2 w2 hq2 => ?_
    cases ex2 <;> (try simp only [roundPost] at hq2 ⊢)
    case normal =>
      obtain ⟨st2, e2, H3, hr3, hX3, hK3⟩ := hq2
      obtain ⟨L2, hL2⟩ := locOf hr3.hH hX3
      have hg2 : L2.g = 0 := (hr3.hH.obj id L2 _ hL2 hX3).1
      have hb2 := base hr3.ext hL2 hg2
      obtain ⟨hh3, hH3'⟩ := hr3.hH.setRaw (ob' := .loop rec) hX3 hL2 hb2 rfl
      have hend := run_endRound (P := P) none hh3
      have hrec : ({ { rec with state := .busy } with state := if (none : Option Code).isNone then .ready else .done, pending := none } : Loop) = rec := by
        cases rec; simp only at hrs hpd; subst hrs; subst hpd; rfl
      rw [hrec] at hend
      exact ⟨_, _, hend, _, _, _, st2, rfl, hr3.ext.put hh3 rfl rfl (.inr ⟨id, L, o, r, hL, hb⟩), hH3', by simp only [RelV]; rfl, hK3⟩
    all_goals exact (show False from hq2).elim
  all_goals exact (show False from hq).elim

/-! ### The loop -/
theorem push_raw {ob : Obj} {es : List AV} {us : List Value} (hH : RelH st w H) (hp : Obj.plain ob = true) (hr : RelL st es us) :
    let st' : St := ⟨st.rd, st.loc ++ [⟨0, some (w.heap.size, 0, 0)⟩]⟩
    Ext st w st' (w.alloc ob) ∧ RelH st' (w.alloc ob) (H ++ [.raw 0 ob es us]) ∧ st'.loc[H.length]? = some ⟨0, some (w.heap.size, 0, 0)⟩ := by
  intro st'
  have hle : st.le st' := ⟨fun _ _ _ h => h, fun id l hl => ⟨l, by
    have : id < st.loc.length := (List.getElem?_eq_some_iff.1 hl).1
    simp [st', List.getElem?_append_left this, hl], Nat.le_refl _, fun _ => rfl⟩⟩
  have hget : ∀ (id : Nat) (l : Loc), st'.loc[id]? = some l → (st.loc[id]? = some l ∧ id < st.loc.length) ∨ (id = st.loc.length ∧ l = ⟨0, some (w.heap.size, 0, 0)⟩) := by
    intro id l hl
    simp only [st'] at hl
    rcases Nat.lt_or_ge id st.loc.length with h | h
    · rw [List.getElem?_append_left h] at hl; exact .inl ⟨hl, h⟩
    · rw [List.getElem?_append_right h] at hl
      have : id - st.loc.length = 0 := by
        rcases Nat.eq_zero_or_pos (id - st.loc.length) with h0 | h0
        · exact h0
        · rw [List.getElem?_eq_none (by simp; omega)] at hl; cases hl
      rw [this] at hl; simp at hl
      exact .inr ⟨by omega, hl.symm⟩
  have hown : ∀ b, Owned st' b → Owned st b ∨ b = w.heap.size := by
    rintro b ⟨id, l, o, r, hl, hb⟩
    rcases hget id l hl with ⟨h, _⟩ | ⟨_, rfl⟩
    · exact .inl ⟨id, l, o, r, h, hb⟩
    · cases hb; exact .inr rfl
  refine ⟨⟨hle, by simp [size_alloc], fun b hb _ => heap_alloc_lt _ _ hb, fun b hb => (hown b hb).imp id fun h => by omega, rfl, rfl, fun _ _ _ h => .inl h⟩, ⟨by simp [st', hH.len], ?_, ?_, ?_⟩, by simp [st', hH.len]⟩
  · intro b o c hc
    have h := hH.rd b o c hc
    have hb := rd_lt hH hc
    exact ⟨h.1, by rw [cell_of_heap (heap_alloc_lt _ _ hb)]; exact h.2.1, fun ho => (hown b ho).elim h.2.2 (fun he => by omega)⟩
  · intro id l X hl hX
    rcases hget id l hl with ⟨h, hlt⟩ | ⟨rfl, rfl⟩
    · rw [List.getElem?_append_left (by rw [← hH.len]; exact hlt)] at hX
      exact (hH.obj id l X h hX).mono hle fun b o r hb => heap_alloc_lt _ _ (owned_lt hH ⟨id, l, o, r, h, hb⟩)
    · rw [hH.len] at hX
      simp at hX; subst hX
      exact ⟨rfl, hr.mono hle, .inl ⟨_, _, _, rfl, heap_alloc_new _ _⟩⟩
  · intro id id' l l' b o r o' r' h1 h2 h3 h4
    rcases hget id l h1 with ⟨g1, g2⟩ | ⟨rfl, rfl⟩ <;> rcases hget id' l' h2 with ⟨g1', g2'⟩ | ⟨rfl, rfl⟩
    · exact hH.inj id id' l l' b o r o' r' g1 g1' h3 h4
    · cases h4; exact absurd (owned_lt hH ⟨id, l, o, r, g1, h3⟩) (Nat.lt_irrefl _)
    · cases h3; exact absurd (owned_lt hH ⟨id', l', o', r', g1', h4⟩) (Nat.lt_irrefl _)
    · rfl

theorem RelH.alloc {ob : Obj} (hH : RelH st w H) : RelH st (w.alloc ob) H :=
  ⟨hH.len, fun b o c hc => ⟨(hH.rd b o c hc).1, by rw [cell_of_heap (heap_alloc_lt _ _ (rd_lt hH hc))]; exact (hH.rd b o c hc).2.1, (hH.rd b o c hc).2.2⟩,
    fun id l X hl hX => (hH.obj id l X hl hX).mono (.refl _) fun b o r hb => heap_alloc_lt _ _ (owned_lt hH ⟨id, l, o, r, hl, hb⟩), hH.inj⟩
theorem Ext.alloc {ob : Obj} (st : St) (w : World) (hp : Obj.plain ob = true) : Ext st w st (w.alloc ob) :=
  ⟨.refl _, by simp [size_alloc], fun b hb _ => heap_alloc_lt _ _ hb, fun b hb => .inl hb, rfl, rfl, fun _ _ _ h => .inl h⟩

/-- an object that is not cells is let go -/
theorem RelH.dropRaw {id g b o r : Nat} {ob ob' : Obj} {es : List AV} {us : List Value} {L : Loc} (hH : RelH st w H) (hX : H[id]? = some (.raw g ob es us)) (hL : st.loc[id]? = some L) (hb : L.base = some (b, o, r)) (h1 : Obj.plain ob = true) :
    let st' : St := ⟨st.rd, st.loc.set id ⟨L.g + 1, none⟩⟩
    st.le st' ∧ (∀ b, Owned st' b → Owned st b) ∧ RelH st' (w.putObj b ob') (H.set id .gone) := by
  intro st'
  have hid := (List.getElem?_eq_some_iff.1 hX).1
  have hidl := (List.getElem?_eq_some_iff.1 hL).1
  obtain ⟨h5, hH2⟩ := hH.setRaw (ob' := ob') hX hL hb h1
  have hget : ∀ (j : Nat) (l : Loc), st'.loc[j]? = some l → (j = id ∧ l = ⟨L.g + 1, none⟩) ∨ (j ≠ id ∧ st.loc[j]? = some l) := by
    intro j l hl
    simp only [st'] at hl
    by_cases hj : j = id
    · subst hj; rw [List.getElem?_set_self hidl] at hl; cases hl; exact .inl ⟨rfl, rfl⟩
    · rw [List.getElem?_set_ne (Ne.symm hj)] at hl; exact .inr ⟨hj, hl⟩
  have hle : st.le st' := ⟨fun _ _ _ h => h, fun j l hl => by
    by_cases hj : j = id
    · subst hj
      rw [hL] at hl; cases hl
      exact ⟨⟨L.g + 1, none⟩, by simp only [st']; rw [List.getElem?_set_self hidl], by simp, fun h => by simp at h⟩
    · exact ⟨l, by simp only [st']; rw [List.getElem?_set_ne (Ne.symm hj)]; exact hl, Nat.le_refl _, fun _ => rfl⟩⟩
  have hown : ∀ b, Owned st' b → Owned st b := by
    rintro b ⟨j, l, o, r, hj, hb⟩
    rcases hget j l hj with ⟨rfl, rfl⟩ | ⟨_, h⟩
    · cases hb
    · exact ⟨j, l, o, r, h, hb⟩
  refine ⟨hle, hown, by simp [st', hH.len], fun x y c hc => ⟨(hH2.rd x y c hc).1, (hH2.rd x y c hc).2.1, fun ho => (hH2.rd x y c hc).2.2 (hown x ho)⟩, fun j l X hl hY => ?_, fun i i' l l' x p q p' q' g1 g2 g3 g4 => ?_⟩
  · rcases hget j l hl with ⟨rfl, rfl⟩ | ⟨hj, hl⟩
    · rw [List.getElem?_set_self hid] at hY; cases hY
      rfl
    · rw [List.getElem?_set_ne (Ne.symm hj)] at hY
      exact (hH2.obj j l X hl (by rw [List.getElem?_set_ne (Ne.symm hj)]; exact hY)).mono hle fun _ _ _ _ => rfl
  · rcases hget i l g1 with ⟨rfl, rfl⟩ | ⟨_, g1⟩
    · cases g3
    · rcases hget i' l' g2 with ⟨rfl, rfl⟩ | ⟨_, g2⟩
      · cases g4
      · exact hH.inj i i' l l' x p q p' q' g1 g2 g3 g4

theorem AGo_range {z : Od} {ps : List Nat} {ac bc : ACode} {fid : Nat} {caps : List AV} (hro : cx.ro = none) (hz : ev e z = .fn fid caps) (S : List (Nat × AV)) (hS : Fits e S) (hok : okS cx.K cx.n S ps = true)
    (h : ∀ (lp lb : Obj) (us : List Value), (∀ args H1 K' R1, args.length = ps.length → H1[H.length]? = some (.raw 0 lp (esOf S) us) → (∀ l, AGo ⟨cx.P, cx.K, cx.mu, cx.n, some l⟩ H1.length [.code ac] R1 ⟨[], psG S ps args⟩ H1) →
        (∀ l e1 H2, R1 e1 H2 → H2[H.length]? = some (.raw 0 lp (esOf S) us) ∧ AGo ⟨cx.P, cx.K, cx.mu, cx.n, some l⟩ H1.length [.code bc] (fun _ H3 => H3[H.length]? = some (.raw 0 lb (esOf S) us) ∧ K' (.lit (.bool true)) (H3.set H.length (.raw 0 lp (esOf S) us))) ⟨[], e1.g⟩ (H2.set H.length (.raw 0 lb (esOf S) us))) →
        AYields cx.P H.length args H1 K') →
      ACalls cx.P fid (.yl H.length 0 :: caps) (H ++ [.raw 0 lp (esOf S) us]) fun _ H' => H'[H.length]? = some (.raw 0 lp (esOf S) us) ∧ AGo cx m k R ⟨[], e.g⟩ (H'.set H.length .gone))  (hfl : fid ≤ 999 := by decide) :
    AGo cx m (.code (.rng z ps ac bc) :: k) R e H := by
  refine AGo_code fun c Q st0 w0 kc hm hk ht hn hx hr st a w hrel => ?_
  cases c <;> (try simp only [trCode] at ht)
  case region id ops d => cases d <;> simp [trCode] at ht
  case rangeFunc g' ps' ca cb =>
    split at ht
    · rename_i z' x' y' hz' hca hcb
      cases ht
      have hfv := hrel.ops g' z hz'
      rw [hz] at hfv; simp only [RelV] at hfv
      obtain ⟨lbv, hfv, hlb⟩ := hfv
      rw [fnV, if_pos hfl] at hfv
      refine wpIn_rangeFunc fun fn _ => ?_
      have hround : (Fc cx.ro).round = none := by rw [hro]; rfl
      rw [hround]
      obtain ⟨rec, hrec⟩ : ∃ rec : Loop, rec = { state := .ready, pending := none, fn, tmps := a.tmps, params := ps', assign := ca, body := cb, defers := w.heap.size } := ⟨_, rfl⟩
      have hes : RelL st (esOf S) (usOf S a.tmps) := esOf_rel fun x hx => by
        have : ∀ {S : List (Nat × AV)}, Fits e S → x ∈ S → look e.g x.1 = x.2 := by
          intro S
          induction S with
          | nil => intro _ h; cases h
          | cons y S ih =>
            intro h1 h2
            rcases List.mem_cons.1 h2 with rfl | h2
            · exact h1.1
            · exact ih h1.2 h2
        rw [← this hS hx]; exact hrel.g x.1
      have hH0 := hrel.hH.alloc (ob := .deferred (some []))
      have hX0 := Ext.alloc (ob := .deferred (some [])) st w rfl
      obtain ⟨hX1, hH1, hloc⟩ := push_raw (ob := .loop rec) hH0 rfl hes
      have hsz0 : (w.alloc (.deferred (some []))).heap.size = w.heap.size + 1 := size_alloc _ _
      rw [hsz0] at hX1 hH1 hloc
      have hrs : rec.state = .ready := by rw [hrec]
      have hpd : rec.pending = none := by rw [hrec]
      have hcall := h (.loop rec) (.loop { rec with state := .busy }) (usOf S a.tmps) fun args H1 K' R1 g1 g2 g3 g4 => by
        have ht2 : rec.tmps = a.tmps := by rw [hrec]
        rw [← ht2] at g2 g4
        exact AYields_of rec (fun l => by rw [hrec]; exact (trCode_ro ca).trans hca) (fun l => by rw [hrec]; exact (trCode_ro cb).trans hcb) hrs hpd (by rw [hrec]) (by rw [ht2]; exact hrel.n) g1 hok g2 R1 g3 g4
      obtain ⟨hcb1, hcalls⟩ := hcall
      unfold callable at hcb1
      split at hcb1
      · rename_i fnn hfn
        simp only [Bool.and_eq_true, bne_iff_ne, ne_eq] at hcb1
        have hbn : fnn.body.isNone = false := by cases hx : fnn.body <;> simp [hx] at hcb1 ⊢
        have hnn : (fnn.name == "runtime.NumGoroutine") = false := by simpa using hcb1.1
        have eg : ∀ args w, (callFunc fid args).run cx.P w = .ok (.enter fid args) w := fun args w => by
          simp only [callFunc, Sem.run_bind, run_program, Result.andThen_ok, hfn, hnn, hbn, Bool.false_eq_true, if_false]
          simp
        obtain ⟨W1, hW1⟩ : ∃ W1, W1 = (w.alloc (.deferred (some []))).alloc (.loop rec) := ⟨_, rfl⟩
        rw [← hW1] at hX1 hH1
        refine ⟨w.heap.size + 1, [{ target := .collected w.heap.size, args := #[] }], W1, { target := .fn (.func fid) lbv, args := #[.func (.yield (w.heap.size + 1)) #[] #[]] }, W1, fid,
          #[.func (.yield (w.heap.size + 1)) #[] #[]] ++ lbv, W1, ?_, ?_, fun _ _ => trivial, ?_, fun h => (by simp [Fc] at h), ?_⟩
        · rw [hW1, hrec]; exact run_enterLoop_outer _ _ _ _ _
        · simp only [resolve, hfv]
          simp [go_sem]
        · simp [invoke, go_sem, eg]
        · have hargs : RelL ⟨st.rd, st.loc ++ [⟨0, some (w.heap.size + 1, 0, 0)⟩]⟩ (.yl H.length 0 :: caps) (.func (.yield (w.heap.size + 1)) #[] #[] :: lbv.toList) := by
            refine RelL.cons ?_ (hlb.mono hX1.le)
            simp only [RelV]
            exact ⟨_, hloc, Nat.le_refl _, fun h => absurd h (Nat.lt_irrefl _), fun _ => ⟨_, _, _, rfl, rfl⟩⟩
          have h2 := hcalls _ _ _ hH1 hargs
          have harr : (Value.func (.yield (w.heap.size + 1)) #[] #[] :: lbv.toList).toArray = #[.func (.yield (w.heap.size + 1)) #[] #[]] ++ lbv := by apply Array.ext'; simp
          rw [harr] at h2
          refine CallsIn.mono (F := Fc cx.ro) (by rw [hro]; exact callsIn_wide (n := 0 - 1).2 h2) fun x w' hx2 => ?_
          obtain ⟨v, r, H', st', rfl, f1, f2, f3, hX', hgo⟩ := hx2
          simp only [rangePost]
          obtain ⟨L1, hL1⟩ : ∃ L1, st'.loc[H.length]? = some L1 := ⟨_, List.getElem?_eq_getElem (by rw [f2.len]; exact (List.getElem?_eq_some_iff.1 hX').1)⟩
          have hg1 : L1.g = 0 := (f2.obj _ L1 _ hL1 hX').1
          have hb1 : L1.base = some (w.heap.size + 1, 0, 0) := by
            obtain ⟨L2, h3, _, h4⟩ := f1.le.loc _ _ hloc
            rw [hL1] at h3; cases h3
            exact h4 hg1
          obtain ⟨hle2, hown2, hH2⟩ := f2.dropRaw (ob' := .loop { rec with state := .exhausted }) hX' hL1 hb1 rfl
          obtain ⟨hhl, _⟩ := f2.setRaw (ob' := .loop { rec with state := .exhausted }) hX' hL1 hb1 rfl
          have hend : (Instr.endLoop (w.heap.size + 1)).run cx.P w' = .ok none (w'.putObj (w.heap.size + 1) (.loop { rec with state := .exhausted })) :=
            (run_endLoop (P := cx.P) hhl (by rw [hrs]; simp)).trans (congrArg (fun j => Result.ok j _) hpd)
          refine ⟨none, _, hend, ?_⟩
          refine hn _ _ ?_
          have hsizeW : w.heap.size < W1.heap.size := by rw [hW1, size_alloc, hsz0]; omega
          have hext : Ext st w st' w' := (hX0.trans hX1).trans f1
          have hlb2 : ∀ (j : Nat) (l : Loc), st.loc[j]? = some l → j ≠ H.length := fun j l hj he => by
            have := (List.getElem?_eq_some_iff.1 hj).1
            rw [hrel.hH.len] at this; omega
          have hext2 : Ext st w ⟨st'.rd, st'.loc.set H.length ⟨L1.g + 1, none⟩⟩ (w'.putObj (w.heap.size + 1) (.loop { rec with state := .exhausted })) := by
            have h9 : Ext st w st' (w'.putObj (w.heap.size + 1) (.loop { rec with state := .exhausted })) := hext.put hhl rfl rfl (.inl (by omega))
            exact ⟨⟨h9.le.rd, fun j l hj => by
              obtain ⟨l', q1, q2⟩ := h9.le.loc j l hj
              exact ⟨l', by simp only; rw [List.getElem?_set_ne (Ne.symm (hlb2 j l hj))]; exact q1, q2⟩⟩, h9.size, h9.frame, fun b hb => h9.own b (hown2 b hb), h9.os, h9.output, h9.rdn⟩
          refine hgo st0 w0 kc hm hk _ _ _ ⟨hrel.ext.trans hext2, hH2, fun t => by simp only [look, RelV], fun t => (hrel.g t).mono hext2.le, fun t _ => rfl, hrel.kg, hrel.n, ?_⟩
          have hD1 : ¬ Owned (⟨st.rd, st.loc ++ [⟨0, some (w.heap.size + 1, 0, 0)⟩]⟩ : St) w.heap.size := by
            intro ho
            rcases hX1.own _ ho with h3 | h3
            · exact absurd (owned_lt hrel.hH h3) (Nat.lt_irrefl _)
            · rw [hsz0] at h3; omega
          have hD2 : w'.heap[w.heap.size]? = some (.deferred (some [])) := by
            rw [f1.frame _ hsizeW hD1, hW1, heap_alloc_lt _ _ (by rw [hsz0]; omega)]
            exact heap_alloc_new _ _
          have hmk := hrel.d.mono hext2
          refine ⟨?_, ?_⟩
          · refine List.nodup_cons.2 ⟨fun hmem => ?_, hmk.nd⟩
            obtain ⟨D, q1, _, q3, _⟩ := hrel.d.all _ hmem
            have : D < w.heap.size := (Array.getElem?_eq_some_iff.1 q3).1
            simp only [Deferred.mk.injEq, Target.collected.injEq, and_true] at q1
            omega
          · intro d hd
            rcases List.mem_cons.1 hd with rfl | hd
            · refine ⟨w.heap.size, rfl, hrel.ext.size, by rw [World.putObj_heap_other (by omega)]; exact hD2, fun ho => ?_⟩
              rcases f1.own _ (hown2 _ ho) with h3 | h3
              · exact hD1 h3
              · omega
            · exact hmk.all d hd
      · cases hcb1
    · cases ht
  all_goals first | cases ht | (split at ht <;> cases ht) | (obtain ⟨_, _, h'⟩ := Option.map_eq_some_iff.1 ht; cases h')
theorem RetP.same {rs : List ARes} {m : Nat} {Kk : AV → AHeap → Prop} {e : Env} {H : AHeap} {vs : List AV} (h1 : aResL e H rs = some vs) (hm : m = H.length) (h : Kk (aTup vs) H) : RetP rs m Kk e H := by
  unfold RetP
  rw [h1]
  simp only
  subst hm
  rw [List.take_length]
  split <;> exact h
/-- what is to be shown at the end is not looked into -/
theorem AGo_opq (h : ∀ R2 : Env → AHeap → Prop, (∀ e' H', R e' H' → R2 e' H') → AGo cx m k R2 e H) : AGo cx m k R e H := h R fun _ _ h => h
end Go.Sas
