/-
An abstract machine over values, part 19: results whose rows nobody writes any more; weaker arguments; many rows frozen at once.
Conditions: none (lemmas over any program).
-/
import Derived.Test.YtelmlpjkpebcgaaAbs18
set_option linter.unusedVariables false
set_option linter.unusedSimpArgs false
namespace Go.Sas
variable {cx : Cx} {m : Nat} {k : List AItm} {R : Env → AHeap → Prop} {e : Env} {H H' : AHeap}

mutual
def AV.frz (id g sz : Nat) (xs0 : List AV) (a : AV) : AV := match a with
  | .agg cs => .agg (AV.frzL id g sz xs0 cs)
  | .tup cs => .tup (AV.frzL id g sz xs0 cs)
  | .fn f cs => .fn f (AV.frzL id g sz xs0 cs)
  | .ms sz' id' g' off len => if id' = id then (if g' = g ∧ sz' = sz ∧ off = off / sz * sz ∧ off / sz + len ≤ xs0.length then .vs sz ((xs0.drop (off / sz)).take len) else .bad) else .ms sz' id' g' off len
  | a => a
def AV.frzL (id g sz : Nat) (xs0 : List AV) (as : List AV) : List AV := match as with
  | [] => []
  | a :: as => a.frz id g sz xs0 :: AV.frzL id g sz xs0 as
end
def AObj.frz (id g sz : Nat) (xs0 : List AV) : AObj → AObj
  | .own g' cs => .own g' (AV.frzL id g sz xs0 cs)
  | X => X
def frzG (id g sz : Nat) (xs0 : List AV) : List (Nat × AV) → List (Nat × AV)
  | [] => []
  | (t, a) :: r => (t, a.frz id g sz xs0) :: frzG id g sz xs0 r
def frzH (id g sz : Nat) (xs0 : List AV) : AHeap → AHeap
  | [] => []
  | X :: r => X.frz id g sz xs0 :: frzH id g sz xs0 r

theorem frzL_length {id g sz : Nat} {xs0 : List AV} : ∀ {as : List AV}, (AV.frzL id g sz xs0 as).length = as.length
  | [] => by simp [AV.frzL]
  | a :: as => by simp [AV.frzL, frzL_length (as := as)]
theorem frzH_map {id g sz : Nat} {xs0 : List AV} : ∀ {H : AHeap}, frzH id g sz xs0 H = H.map (AObj.frz id g sz xs0)
  | [] => rfl
  | a :: as => by simp [frzH, frzH_map (H := as)]
theorem look_frzG {id g sz : Nat} {xs0 : List AV} : ∀ {l : List (Nat × AV)} {t : Nat}, look (frzG id g sz xs0 l) t = (look l t).frz id g sz xs0
  | [], t => by simp [frzG, look, AV.frz]
  | (i, a) :: r, t => by
    simp only [frzG, look]
    split
    · rfl
    · exact look_frzG

mutual
theorem RelV.frz {st st' : St} {id g sz : Nat} {xs0 : List AV} (hle : st.le st')
    (hms : ∀ off len v, off = off / sz * sz → off / sz + len ≤ xs0.length → RelV st (.ms sz id g off len) v → RelV st' (.vs sz ((xs0.drop (off / sz)).take len)) v) : ∀ {a : AV} {v : Value}, RelV st a v → RelV st' (a.frz id g sz xs0) v
  | .bad, v, h => by simp only [AV.frz, RelV]
  | .lit u, v, h => by simp only [AV.frz]; exact h.mono hle
  | .agg cs, v, h => by
    simp only [RelV] at h; simp only [AV.frz, RelV]
    obtain ⟨us, h1, h2, h3⟩ := h
    exact ⟨us, h1, RelL.frz hle hms h2, h3⟩
  | .tup cs, v, h => by
    simp only [RelV] at h; simp only [AV.frz, RelV]
    obtain ⟨us, h1, h2⟩ := h
    exact ⟨us, h1, RelL.frz hle hms h2⟩
  | .fn f cs, v, h => by
    simp only [RelV] at h; simp only [AV.frz, RelV]
    obtain ⟨us, h1, h2⟩ := h
    exact ⟨us, h1, RelL.frz hle hms h2⟩
  | .ms sz' id' g' off len, v, h => by
    simp only [AV.frz]
    split
    · rename_i h1; subst h1
      split
      · rename_i h2
        obtain ⟨rfl, rfl, h3, h4⟩ := h2
        exact hms off len v h3 h4 h
      · simp only [RelV]
    · exact h.mono hle
  | .vs sz es, v, h => by simp only [AV.frz]; exact h.mono hle
  | .vp cs, v, h => by simp only [AV.frz]; exact h.mono hle
  | .mp a b c, v, h => by simp only [AV.frz]; exact h.mono hle
  | .es, v, h => by simp only [AV.frz]; exact h.mono hle
  | .yl a b, v, h => by simp only [AV.frz]; exact h.mono hle
theorem RelL.frz {st st' : St} {id g sz : Nat} {xs0 : List AV} (hle : st.le st')
    (hms : ∀ off len v, off = off / sz * sz → off / sz + len ≤ xs0.length → RelV st (.ms sz id g off len) v → RelV st' (.vs sz ((xs0.drop (off / sz)).take len)) v) : ∀ {as : List AV} {us : List Value}, RelL st as us → RelL st' (AV.frzL id g sz xs0 as) us
  | [], us, h => by simp only [RelL] at h; simp only [AV.frzL, RelL]; exact h
  | a :: as, us, h => by
    simp only [RelL] at h; simp only [AV.frzL, RelL]
    obtain ⟨u, us', h1, h2, h3⟩ := h
    exact ⟨u, us', h1, RelV.frz hle hms h2, RelL.frz hle hms h3⟩
end

/-- the cells of some elements, one behind another -/
def cellsL : List AV → Option (List AV)
  | [] => some []
  | a :: as => match a.cells, cellsL as with
    | some cs, some r => some (cs ++ r)
    | _, _ => none
theorem cellsL_eq {sz : Nat} : ∀ (xs : List AV), cellsOfSl [] sz (.vs sz xs) = cellsL xs := by
  intro xs
  simp only [cellsOfSl, if_true]
  induction xs with
  | nil => rfl
  | cons x xs ih => simp only [List.foldr_cons, cellsL, ih]; rfl

theorem cellsL_len {sz : Nat} : ∀ {xs cs : List AV}, cellsL xs = some cs → elemsLen sz xs = true → cs.length = xs.length * sz
  | [], cs, h, _ => by simp only [cellsL, Option.some.injEq] at h; subst h; simp
  | x :: xs, cs, h, he => by
    simp only [elemsLen, List.all_cons, Bool.and_eq_true] at he
    simp only [cellsL] at h
    split at h
    · rename_i c r hc hr
      simp only [Option.some.injEq] at h; subst h
      have h1 := cellsL_len hr he.2
      rw [hc] at he
      simp only [beq_iff_eq] at he
      simp [h1, he.1, Nat.add_mul]; omega
    · cases h
theorem cellsL_drop {sz : Nat} : ∀ {n : Nat} {xs cs : List AV}, cellsL xs = some cs → elemsLen sz xs = true → cellsL (xs.drop n) = some (cs.drop (n * sz)) ∧ elemsLen sz (xs.drop n) = true
  | 0, xs, cs, h, he => by simpa using ⟨h, he⟩
  | n + 1, [], cs, h, he => by simp only [cellsL, Option.some.injEq] at h; subst h; simp [cellsL, elemsLen]
  | n + 1, x :: xs, cs, h, he => by
    simp only [elemsLen, List.all_cons, Bool.and_eq_true] at he
    simp only [cellsL] at h
    split at h
    · rename_i c r hc hr
      simp only [Option.some.injEq] at h; subst h
      rw [hc] at he
      simp only [beq_iff_eq] at he
      have := cellsL_drop (n := n) hr he.2
      simp only [List.drop_succ_cons]
      rw [show (n + 1) * sz = c.length + n * sz by rw [he.1, Nat.add_mul]; omega, ← List.drop_drop, List.drop_left]
      exact this
    · cases h
theorem cellsL_take {sz : Nat} : ∀ {n : Nat} {xs cs : List AV}, cellsL xs = some cs → elemsLen sz xs = true → cellsL (xs.take n) = some (cs.take (n * sz)) ∧ elemsLen sz (xs.take n) = true
  | 0, xs, cs, h, he => by simp [cellsL, elemsLen]
  | n + 1, [], cs, h, he => by simp only [cellsL, Option.some.injEq] at h; subst h; simp [cellsL, elemsLen]
  | n + 1, x :: xs, cs, h, he => by
    simp only [elemsLen, List.all_cons, Bool.and_eq_true] at he
    simp only [cellsL] at h
    split at h
    · rename_i c r hc hr
      simp only [Option.some.injEq] at h; subst h
      rw [hc] at he
      simp only [beq_iff_eq] at he
      have := cellsL_take (n := n) hr he.2
      refine ⟨?_, ?_⟩
      · simp only [List.take_succ_cons, cellsL, hc, this.1]
        rw [show (n + 1) * sz = c.length + n * sz by rw [he.1, Nat.add_mul]; omega, List.take_length_add_append]
      · simp only [elemsLen, List.take_succ_cons, List.all_cons, Bool.and_eq_true, hc, beq_iff_eq]
        exact ⟨he.1, by simpa [elemsLen] using this.2⟩
    · cases h
theorem nidL_drop : ∀ {n : Nat} {xs : List AV}, AV.nidL xs = true → AV.nidL (xs.drop n) = true
  | 0, xs, h => by simpa using h
  | n + 1, [], h => by simp [AV.nidL]
  | n + 1, x :: xs, h => by simp only [AV.nidL, Bool.and_eq_true] at h; simpa using nidL_drop h.2
theorem nidL_take : ∀ {n : Nat} {xs : List AV}, AV.nidL xs = true → AV.nidL (xs.take n) = true
  | 0, xs, h => by simp [AV.nidL]
  | n + 1, [], h => by simp [AV.nidL]
  | n + 1, x :: xs, h => by
    simp only [AV.nidL, Bool.and_eq_true] at h
    simp only [List.take_succ_cons, AV.nidL, Bool.and_eq_true]
    exact ⟨h.1, nidL_take h.2⟩

/-- an object, by its elements -/
def Elems (sz : Nat) (xs cs : List AV) : Prop := cellsL xs = some cs ∧ elemsOk sz xs = true

theorem freezeAll {st : St} {w : World} {id g sz : Nat} {cs xs0 : List AV} (hH : RelH st w H) (hX : H[id]? = some (.own g cs)) (hE : Elems sz xs0 cs) :
    ∃ st', Ext st w st' w ∧ RelH st' w (frzH id g sz xs0 (H.set id .gone)) ∧ ∀ a v, RelV st a v → RelV st' (a.frz id g sz xs0) v := by
  obtain ⟨hxs, hok⟩ := hE
  obtain ⟨st', h1, h2, h3⟩ := freeze_st hH hX
  have hms : ∀ off len v, off = off / sz * sz → off / sz + len ≤ xs0.length → RelV st (.ms sz id g off len) v → RelV st' (.vs sz ((xs0.drop (off / sz)).take len)) v := by
    intro off len v ho hl hv
    have hok' := hok
    simp only [elemsOk, Bool.and_eq_true] at hok
    have hd := cellsL_drop (n := off / sz) hxs hok.2
    have ht := cellsL_take (n := len) hd.1 hd.2
    have hlen := cellsL_len hxs hok.2
    rw [← ho] at ht
    refine h3 sz off len _ v (by rw [cellsL_eq]; exact ht.1) ?_ (by simp; omega) (by simp only [elemsOk, Bool.and_eq_true]; exact ⟨nidL_take (nidL_drop hok.1), ht.2⟩) hv
    rw [hlen]
    calc off + len * sz = (off / sz + len) * sz := by rw [Nat.add_mul, ← ho]
      _ ≤ xs0.length * sz := Nat.mul_le_mul_right _ hl
  refine ⟨st', h1, ⟨?_, h2.rd, ?_, h2.inj⟩, fun a v hv => RelV.frz h1.le hms hv⟩
  · rw [h2.len, frzH_map]; simp
  · intro j l X hl hX'
    rw [frzH_map, List.getElem?_map] at hX'
    cases hY : (H.set id .gone)[j]? with
    | none => rw [hY] at hX'; cases hX'
    | some Y =>
      rw [hY] at hX'
      simp only [Option.map_some, Option.some.injEq] at hX'
      subst hX'
      have h4 := h2.obj j l Y hl hY
      cases Y with
      | gone => exact h4
      | raw g' o => exact h4
      | own g' ds =>
        have hj : j ≠ id := by
          rintro rfl
          have := (List.getElem?_eq_some_iff.1 hX).1
          rw [List.getElem?_set_self this] at hY; cases hY
        rw [List.getElem?_set_ne (Ne.symm hj)] at hY
        obtain ⟨l0, hl0⟩ : ∃ l0, st.loc[j]? = some l0 := ⟨_, List.getElem?_eq_getElem (by rw [hH.len]; exact (List.getElem?_eq_some_iff.1 hY).1)⟩
        have h5 := hH.obj j l0 _ hl0 hY
        obtain ⟨l1, hl1, _, hb⟩ := h1.le.loc j l0 hl0
        rw [hl] at hl1; cases hl1
        refine ⟨h4.1, fun b o r hbase => ?_⟩
        rw [hb (by rw [h4.1, h5.1])] at hbase
        obtain ⟨arr, T, us, e1, e2, e3, e4, e5, e6⟩ := h5.2 b o r hbase
        exact ⟨arr, T, us, e1, e2, by rw [frzL_length]; exact e3, RelL.frz h1.le hms e4, e5, e6⟩

theorem AGo_frz (id g sz : Nat) {cs : List AV} (xs0 : List AV) (hX : H[id]? = some (.own g cs)) (hE : Elems sz xs0 cs) (h : AGo cx m k R ⟨frzG id g sz xs0 e.l, frzG id g sz xs0 e.g⟩ (frzH id g sz xs0 (H.set id .gone))) : AGo cx m k R e H := by
  refine AGo_turn (fun st w hH => ?_) h
  obtain ⟨st', g1, g2, g3⟩ := freezeAll hH hX hE
  refine ⟨st', g1, g2, fun t v hv => ?_, fun t v hv => ?_, fun t hb => ?_, fun t hb => ?_⟩
  · rw [look_frzG]; exact g3 _ _ hv
  · rw [look_frzG]; exact g3 _ _ hv
  · rw [look_frzG, hb]; simp [AV.frz]
  · rw [look_frzG, hb]; simp [AV.frz]

/-! ### At a function's end -/
def Frees (m : Nat) (Kk : AV → AHeap → Prop) (r : AV) (H : AHeap) : Prop := ∀ st0 w0 st w v, st0.loc.length = m → Ext st0 w0 st w → RelH st w H → RelV st r v → ∃ st' r' H', Ext st0 w0 st' w ∧ RelH st' w H' ∧ RelV st' r' v ∧ Kk r' H'

theorem ACalls.frees {P : Program} {f : Nat} {args : List AV} {Kk : AV → AHeap → Prop} (h : ACalls P f args H (Frees H.length Kk)) : ACalls P f args H Kk :=
  ⟨h.1, fun st w vals hH hr => (h.2 st w vals hH hr).mono fun x w' ⟨v, r, H', st', e1, e2, e3, e4, e5⟩ => by
    obtain ⟨st2, r2, H2, f1, f2, f3, f4⟩ := e5 st w st' w' v hH.len e2 e3 e4
    exact ⟨v, r2, H2, st2, e1, f1, f2, f3, f4⟩⟩

variable {Kk : AV → AHeap → Prop} {r : AV}
theorem Frees.now (h : Kk r H) : Frees m Kk r H := fun st0 w0 st w v _ he hH hr => ⟨st, r, H, he, hH, hr, h⟩
theorem Frees.frz (id g sz : Nat) {cs : List AV} (xs0 : List AV) (hX : H[id]? = some (.own g cs)) (hE : Elems sz xs0 cs) (h : Frees m Kk (r.frz id g sz xs0) (frzH id g sz xs0 (H.set id .gone))) : Frees m Kk r H := by
  intro st0 w0 st w v hm he hH hr
  obtain ⟨st', g1, g2, g3⟩ := freezeAll hH hX hE
  exact h st0 w0 st' w v hm (he.trans g1) g2 (g3 _ _ hr)
theorem Frees.drop {T : AHeap} (hm : m ≤ H.length) (hr : r.ltB H.length = true) (hl : ltHB H.length H = true) (h : Frees m Kk r H) : Frees m Kk r (H ++ T) := by
  intro st0 w0 st w v hm' he hH hv
  exact h st0 w0 (st.take H.length) w v hm' (he.take (by omega)) (hH.take (ltHB_spec hl)) (RelV.take (AV.ltB_spec hr) hv)
theorem Frees.drop0 (h : Kk r []) (hr : r.nid = true) : Frees 0 Kk r H := by
  have := Frees.drop (m := 0) (H := []) (T := H) (Nat.le_refl 0) (r := r) (Kk := Kk) ?_ rfl (Frees.now h)
  · simpa using this
  · clear h
    exact nid_ltB hr
where
  nid_ltB : ∀ {r : AV}, r.nid = true → r.ltB 0 = true
  | .bad, _ | .lit _, _ | .vs _ _, _ | .vp _, _ | .es, _ => by simp only [AV.ltB]
  | .agg cs, h => by simp only [AV.nid] at h; simp only [AV.ltB]; exact nid_ltLB h
  | .tup cs, h => by simp only [AV.nid] at h; simp only [AV.ltB]; exact nid_ltLB h
  | .fn f cs, h => by simp only [AV.nid] at h; simp only [AV.ltB]; exact nid_ltLB h
  nid_ltLB : ∀ {as : List AV}, AV.nidL as = true → AV.ltLB 0 as = true
  | [], _ => by simp only [AV.ltLB]
  | a :: as, h => by
    simp only [AV.nidL, Bool.and_eq_true] at h
    simp only [AV.ltLB, Bool.and_eq_true]; exact ⟨nid_ltB h.1, nid_ltLB h.2⟩

/-! ### Weaker values -/
def Wk (a b : AV) : Prop := ∀ st v, RelV st a v → RelV st b v
def WkL : List AV → List AV → Prop
  | [], [] => True
  | a :: as, b :: bs => Wk a b ∧ WkL as bs
  | _, _ => False
theorem WkL.rel {st : St} : ∀ {as bs : List AV} {us : List Value}, WkL as bs → RelL st as us → RelL st bs us
  | [], [], _, _, h => h
  | a :: as, b :: bs, us, hw, h => by
    obtain ⟨u, us', rfl, h1, h2⟩ := h.uncons
    exact RelL.cons (hw.1 _ _ h1) (WkL.rel hw.2 h2)
theorem ACalls.wk {P : Program} {f : Nat} {as bs : List AV} (h : ACalls P f bs H Kk) (hw : WkL as bs) : ACalls P f as H Kk :=
  ⟨h.1, fun st w vals hH hr => h.2 st w vals hH (hw.rel hr)⟩
theorem Wk.rfl {a : AV} : Wk a a := fun _ _ h => h
theorem Wk.agg {as bs : List AV} (h : WkL as bs) : Wk (.agg as) (.agg bs) := fun st v hv => by
  simp only [RelV] at hv ⊢
  obtain ⟨us, h1, h2, h3⟩ := hv
  exact ⟨us, h1, h.rel h2, h3⟩
theorem Wk.nil {sz : Nat} : Wk (.lit (.slice none 0 0)) (.vs sz []) := fun st v hv => by
  simp only [RelV] at hv ⊢
  subst hv
  exact ⟨none, 0, [], Eq.refl _, Nat.le_refl _, by simp [RelL], by simp, fun h => absurd (Eq.refl _) h⟩
theorem Wk.es {sz : Nat} : Wk .es (.vs sz []) := fun st v hv => by
  simp only [RelV] at hv ⊢
  obtain ⟨a, rfl⟩ := hv
  exact ⟨a, 0, [], Eq.refl _, Nat.le_refl _, by simp [RelL], by simp, fun h => absurd (Eq.refl _) h⟩
/-- a slice by its elements -/
def asVs (sz : Nat) : AV → Option (List AV)
  | .vs sz' es => match Nat.beq sz sz' with | true => some es | false => none
  | .lit (.slice none 0 0) => some []
  | .es => some []
  | _ => none
theorem asVs_wk {sz : Nat} {a : AV} {es : List AV} (h : asVs sz a = some es) : Wk a (.vs sz es) := by
  unfold asVs at h
  split at h
  · split at h
    · rename_i hb; have := Nat.eq_of_beq_eq_true hb; subst this; cases h; exact Wk.rfl
    · cases h
  · cases h; exact Wk.nil
  · cases h; exact Wk.es
  · cases h

/-! ### Loops that count, elements -/
/-- a loop that counts up -/
theorem AGo_up {c : ACode} (N : Nat) (Pr : Nat → Prop) (S : Nat → Int → List (Nat × AV)) (HS : Nat → AHeap) (h0 : Pr 0) (hf0 : Fits e (S 0 (iLen 0))) (hH0 : HFits m (S 0 (iLen 0)) (HS 0) H)
    (hround : ∀ (j : Nat) (i : Int), i = iLen j → j ≤ N → Pr j → ∀ Bk : Env → AHeap → Prop, (∀ e' H', j < N → Pr (j + 1) → Fits e' (S (j + 1) (iLen (j + 1))) → HFits m (S (j + 1) (iLen (j + 1))) (HS (j + 1)) H' → Bk e' H') →
      AGo cx m (.code c :: .bk Bk :: k) R ⟨[], S j i⟩ (HS j)) : AGo cx m (.code (.loop c) :: k) R e H := by
  refine AGo_loop (σ := { j : Nat // j ≤ N ∧ Pr j }) (fun j => S j.1 (iLen j.1)) (fun j => HS j.1) (fun j => N - j.1) ⟨0, Nat.zero_le _, h0⟩ hf0 hH0 fun ⟨j, hj, hP⟩ => ?_
  exact hround j _ rfl hj hP _ fun e' H' h1 h2 h3 h4 => ⟨⟨j + 1, h1, h2⟩, by simp only; omega, h3, h4⟩
/-- a loop that counts up, with a state -/
theorem AGo_upS {c : ACode} {σ : Type} (N : Nat) (Pr : Nat → σ → Prop) (S : Nat → σ → Int → List (Nat × AV)) (HS : Nat → σ → AHeap) (s0 : σ) (h0 : Pr 0 s0) (hf0 : Fits e (S 0 s0 (iLen 0))) (hH0 : HFits m (S 0 s0 (iLen 0)) (HS 0 s0) H)
    (hround : ∀ (j : Nat) (s : σ) (i : Int), i = iLen j → j ≤ N → Pr j s → ∀ Bk : Env → AHeap → Prop, (∀ s' e' H', j < N → Pr (j + 1) s' → Fits e' (S (j + 1) s' (iLen (j + 1))) → HFits m (S (j + 1) s' (iLen (j + 1))) (HS (j + 1) s') H' → Bk e' H') →
      AGo cx m (.code c :: .bk Bk :: k) R ⟨[], S j s i⟩ (HS j s)) : AGo cx m (.code (.loop c) :: k) R e H := by
  refine AGo_loop (σ := { x : Nat × σ // x.1 ≤ N ∧ Pr x.1 x.2 }) (fun x => S x.1.1 x.1.2 (iLen x.1.1)) (fun x => HS x.1.1 x.1.2) (fun x => N - x.1.1) ⟨(0, s0), Nat.zero_le _, h0⟩ hf0 hH0 fun ⟨⟨j, t⟩, hj, hP⟩ => ?_
  exact hround j t _ rfl hj hP _ fun s' e' H' h1 h2 h3 h4 => ⟨⟨(j + 1, s'), h1, h2⟩, by simp only at hj ⊢; omega, h3, h4⟩
/-- a loop, by a measure -/
theorem AGo_while {c : ACode} {σ : Type} (μ : σ → Nat) (S : σ → List (Nat × AV)) (HS : σ → AHeap) (x0 : σ) (hf0 : Fits e (S x0)) (hH0 : HFits m (S x0) (HS x0) H)
    (hround : ∀ (x : σ), ∀ Bk : Env → AHeap → Prop, (∀ y e' H', μ y < μ x → Fits e' (S y) → HFits m (S y) (HS y) H' → Bk e' H') → AGo cx m (.code c :: .bk Bk :: k) R ⟨[], S x⟩ (HS x)) : AGo cx m (.code (.loop c) :: k) R e H :=
  AGo_loop S HS μ x0 hf0 hH0 fun x => hround x _ fun y _ _ h1 h2 h3 => ⟨y, h1, h2, h3⟩
theorem ix_map {α : Type} {f : α → AV} {xs : List AV} {l : List α} {sz j : Nat} {i : Int} {x : α} {c : List AV} (hxs : xs = l.map f) (hi : i = iLen j) (hx : l[j]? = some x) (hc : (f x).cells = some c) : ixS sz sz xs i c := by
  subst hxs; subst hi
  exact ⟨rfl, Int.natCast_nonneg j, f x, by simp [iLen, hx], hc⟩
theorem lt_len {xs : List AV} {N j : Nat} {i : Int} (hN : xs.length = N) (hi : i = iLen j) : iLt i (iLen xs.length) = decide (j < N) := by
  subst hN; subst hi; simp only [iLt, iLen, Int.ofNat_lt]
theorem add_one {N j : Nat} {i : Int} (hi : i = iLen j) (hj : j < N) (hN : N ≤ 9223372036854775807) : iAdd .i64 i 1 = iLen (j + 1) := by
  subst hi
  show iAdd .i64 (j : Int) 1 = ((j + 1 : Nat) : Int)
  rw [iAdd_id] <;> omega
theorem drop_cons {α : Type} {l : List α} {j : Nat} {x : α} (hx : l[j]? = some x) : l.drop j = x :: l.drop (j + 1) := by
  obtain ⟨h, hx⟩ := List.getElem?_eq_some_iff.1 hx
  rw [List.drop_eq_getElem_cons h, hx]

/-- of a function that names no object -/
theorem pureC {P : Program} {f : Nat} {args : List AV} {res : AV} (ha : AV.nidL args = true) (hr : res.nid = true) (h : ∀ Kk : AV → AHeap → Prop, Kk res [] → ACalls P f args [] Kk) (H : AHeap) {Kk : AV → AHeap → Prop} (hk : Kk res H) : ACalls P f args H Kk :=
  liftP (h _ ⟨rfl, rfl⟩) ha hr H hk
/-- the same, its rows to be frozen -/
theorem pureF {P : Program} {f : Nat} {args : List AV} {res : AV} (ha : AV.nidL args = true) (hr : res.nid = true) (h : ∀ Kk : AV → AHeap → Prop, Kk res [] → ACalls P f args [] (Frees 0 Kk)) (H : AHeap) {Kk : AV → AHeap → Prop} (hk : Kk res H) : ACalls P f args H Kk :=
  pureC ha hr (fun _ hk => ACalls.frees (h _ hk)) H hk
end Go.Sas
