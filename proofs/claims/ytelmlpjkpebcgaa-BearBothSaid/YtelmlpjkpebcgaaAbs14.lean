/-
An abstract machine over values, part 14: runs through regions that draw their order; what nobody writes any more; calls of functions that name no object.
Conditions: none (lemmas over any program).
-/
import Derived.Test.YtelmlpjkpebcgaaAbs13
set_option linter.unusedVariables false
set_option linter.unusedSimpArgs false
namespace Go.Sas
variable {cx : Cx} {m : Nat} {k : List AItm} {R : Env → AHeap → Prop} {e : Env} {H H' : AHeap} {D : Option DM} {L : List DItm} {it : DItm}

/-! ### Runs -/
def weakO : AObj → AObj
  | .own g _ => .own g []
  | _ => .gone

/-- i + 1000: nothing is said of the object i -/
def maskGo (us : List Nat) : Nat → AHeap → AHeap
  | _, [] => []
  | i, x :: H => (if us.contains i then weakO x else if us.contains (i + 1000) then .gone else x) :: maskGo us (i + 1) H

/-- the heap, but for what some objects hold -/
def mask (us : List Nat) (H : AHeap) : AHeap := maskGo us 0 H

theorem maskGo_sub {us : List Nat} : ∀ {i : Nat} {H T : AHeap}, SubH (maskGo us i H) (H ++ T)
  | _, [], _ => by simp [maskGo, SubH]
  | i, x :: H, T => by
    have ih := maskGo_sub (us := us) (i := i + 1) (H := H) (T := T)
    simp only [maskGo, List.cons_append]
    split
    · cases x <;> simp only [weakO, SubH] <;> first | exact ih | exact ⟨trivial, ih⟩
    split
    · exact ih
    · rcases x with _ | ⟨g, _ | ⟨c, cs⟩⟩ | ⟨g, o⟩ <;> simp only [SubH] <;> first | exact ih | exact ⟨trivial, ih⟩ | exact ⟨rfl, ih⟩

theorem AGo_drw (us : List Nat) (h : DGo cx m k R (some ⟨mask us H, H.length, (newsOf L).map (·.1)⟩) L e (H ++ kept L)) : AGo cx m (.code (.draw L) :: k) R e H :=
  AGo_draw (mask us H) maskGo_sub h

theorem DGo_nil (h : AGo cx m k R ⟨[], e.g⟩ H) : DGo cx m k R D [] e H := h

def stepD (D : Option DM) (L : List DItm) (e : Env) (H : AHeap) : Option (Option DM × List DItm × Env × AHeap) := match L with
  | [] => none
  | it :: l => match movB it.o.op with
    | true => match D with
      | none => none
      | some D' => match MVal D' it e with
        | some r => some (some D', l, put e it.o.dst r, H)
        | none => none
    | false => match gOk e it.o.grd with
      | none => none
      | some false => some (nx D it, l, put e it.o.dst (.lit undef), H)
      | some true => if it.tail || D.isNone then (match opAct (ev e) H it.o.op with
        | some (r, H') => some (nx D it, l, put e it.o.dst r, H')
        | none => none) else none

theorem DGo_act {r : AV} (hm : movB it.o.op = false) (hg : gOk e it.o.grd = some true) (hv : opAct (ev e) H it.o.op = some (r, H')) (hk : Keep D it H H') (h : DGo cx m k R (nx D it) L (put e it.o.dst r) H') : DGo cx m k R D (it :: L) e H := by
  simp only [DGo, JStep, hm, hg]
  split
  · rename_i f xs hop; rw [hop] at hv; simp [opAct] at hv
  · exact ⟨r, H', hv, hk, h⟩

theorem DGo_call {d : Option (Bool × Nat)} {f : Od} {xs : List Od} {g : Option (Od × Bool)} {i : Nat} {tl : Bool} {ws : List Nat} {fid : Nat} {caps : List AV} (hg : gOk e g = some true) (hf : ev e f = .fn fid caps)
    (h : ACalls cx.P fid (xs.map (ev e) ++ caps) H fun r H' => Keep D ⟨⟨d, .call f xs, g⟩, i, tl, ws⟩ H H' ∧ DGo cx m k R (nx D ⟨⟨d, .call f xs, g⟩, i, tl, ws⟩) L (put e d r) H') :
    DGo cx m k R D (⟨⟨d, .call f xs, g⟩, i, tl, ws⟩ :: L) e H := by
  simp only [DGo, JStep, movB, hg]
  exact ⟨fid, caps, hf, h⟩

theorem stepD_sound {D' : Option DM} {L' : List DItm} {e' : Env} (hs : stepD D L e H = some (D', L', e', H')) (h : DGo cx m k R D' L' e' H') : DGo cx m k R D L e H := by
  unfold stepD at hs
  split at hs
  · cases hs
  · rename_i it l
    split at hs
    · rename_i hm
      split at hs
      · cases hs
      · split at hs
        · rename_i r hr
          simp only [Option.some.injEq, Prod.mk.injEq] at hs
          obtain ⟨rfl, rfl, rfl, rfl⟩ := hs
          simp only [DGo, JStep, hm]
          exact ⟨r, hr, h⟩
        · cases hs
    · rename_i hm
      split at hs
      · cases hs
      · rename_i hg
        simp only [Option.some.injEq, Prod.mk.injEq] at hs
        obtain ⟨rfl, rfl, rfl, rfl⟩ := hs
        simp only [DGo, JStep, hm, hg]
        exact h
      · rename_i hg
        split at hs
        · rename_i ht
          split at hs
          · rename_i r H2 hv
            simp only [Option.some.injEq, Prod.mk.injEq] at hs
            obtain ⟨rfl, rfl, rfl, rfl⟩ := hs
            refine DGo_act hm hg hv ?_ h
            simp only [Bool.or_eq_true, Option.isNone_iff_eq_none] at ht
            cases D with
            | none => trivial
            | some D => exact .inl (ht.resolve_right (by simp))
          · cases hs
        · cases hs

def runD : Nat → Option DM → List DItm → Env → AHeap → Option DM × List DItm × Env × AHeap
  | 0, D, L, e, H => (D, L, e, H)
  | n + 1, D, L, e, H => match stepD D L e H with
    | some (D', L', e', H') => runD n D' L' e' H'
    | none => (D, L, e, H)

theorem DGo_run : ∀ (n : Nat) {D : Option DM} {L : List DItm} {e : Env} {H : AHeap}, (∀ s, s = runD n D L e H → DGo cx m k R s.1 s.2.1 s.2.2.1 s.2.2.2) → DGo cx m k R D L e H
  | 0, D, L, e, H, h => h _ rfl
  | n + 1, D, L, e, H, h => by
    cases hs : stepD D L e H with
    | none => exact h (D, L, e, H) (by simp [runD, hs])
    | some x =>
      obtain ⟨D', L', e', H'⟩ := x
      exact stepD_sound hs (DGo_run n fun s hs' => h s (by simp [runD, hs, hs']))

/-! ### Calls of functions that name no object -/
/-- called with these values, whatever there is, it yields a value of Q and leaves all as it was -/
def PCalls (P : Program) (f : Nat) (args : List AV) (Q : AV → Prop) : Prop := ACalls P f args [] fun r H' => H' = [] ∧ r.nid = true ∧ Q r

theorem PCalls.calls {P : Program} {f : Nat} {args : List AV} {Q : AV → Prop} (h : PCalls P f args Q) (ha : AV.nidL args = true) (H : AHeap) : ACalls P f args H fun r H' => H' = H ∧ r.nid = true ∧ Q r := by
  have := ACalls.frame (H := H) [] h List.nodup_nil rfl (AV.ltL_nid ha) (by simp [ltH]) (fun k X hk => by simp at hk)
  rw [AV.renL_nid ha] at this
  refine this.mono fun r H' hr => ?_
  obtain ⟨r0, H1, ⟨rfl, hn, hq⟩, _, rfl, rfl⟩ := hr
  exact ⟨by simp [merge, updL], by rw [AV.ren_nid hn]; exact hn, by rw [AV.ren_nid hn]; exact hq⟩

/-! ### What nobody writes any more -/
/-- other values for what lives on, another heap: whatever fits the one fits the other -/
def Turns (e : Env) (H : AHeap) (e' : Env) (H' : AHeap) : Prop := ∀ st w, RelH st w H → ∃ st', Ext st w st' w ∧ RelH st' w H' ∧
  (∀ t v, RelV st (look e.l t) v → RelV st' (look e'.l t) v) ∧ (∀ t v, RelV st (look e.g t) v → RelV st' (look e'.g t) v) ∧ (∀ t, look e.l t = .bad → look e'.l t = .bad) ∧ (∀ t, look e.g t = .bad → look e'.g t = .bad)

theorem AGo_turn {e' : Env} (ht : Turns e H e' H') (h : AGo cx m k R e' H') : AGo cx m k R e H := by
  intro st0 w0 kc hm hk st a w hr
  obtain ⟨st', h1, h2, h3, h4, h5, h6⟩ := ht st w hr.hH
  exact h st0 w0 kc hm hk st' a w ⟨hr.ext.trans h1, h2, fun t => h3 t _ (hr.l t), fun t => h4 t _ (hr.g t), fun t ht => h5 t (hr.kl t ht), fun t ht => h6 t (hr.kg t ht), hr.n, hr.d⟩

theorem DGo_turn {e' : Env} : D = none → Turns e H e' H' → DGo cx m k R D [] e' H' → DGo cx m k R D [] e H := by
  rintro - ht h
  simp only [DGo] at h ⊢
  refine AGo_turn (e' := ⟨[], e'.g⟩) (H' := H') ?_ h
  intro st w hH
  obtain ⟨st', h1, h2, h3, h4, h5, h6⟩ := ht st w hH
  exact ⟨st', h1, h2, fun t v _ => by simp only [look, RelV], h4, fun t _ => rfl, h6⟩

theorem uncell {st : St} {x : AV} {cs : List AV} {us : List Value} (hx : x.cells = some cs) (hr : RelL st cs us) (hs : ∀ u ∈ us, Scal u) : ∃ v, RelV st x v ∧ v.cells.toList = us := by
  have one : RelL st [x] us → ∃ v, RelV st x v ∧ v.cells.toList = us := fun h => by
    obtain ⟨u, us', rfl, h1, h2⟩ := h.uncons
    simp only [RelL] at h2; subst h2
    exact ⟨u, h1, by rw [(hs u (by simp)).cells]⟩
  cases x with
  | bad => simp [AV.cells] at hx
  | tup _ => simp [AV.cells] at hx
  | lit v =>
    simp only [AV.cells] at hx
    split at hx
    · simp only [Option.some.injEq] at hx; subst hx; exact one hr
    · cases hx
  | agg cs' =>
    simp only [AV.cells, Option.some.injEq] at hx; subst hx
    refine ⟨.agg us.toArray, ?_, by simp [Value.cells]⟩
    simp only [RelV]
    exact ⟨_, rfl, by simpa using hr, by simpa using hs⟩
  | _ => simp only [AV.cells, Option.some.injEq] at hx; subst hx; exact one hr

theorem uncells {st : St} : ∀ {xs : List AV} {cs : List AV} {us : List Value}, xs.foldr (fun e acc => match e.cells, acc with | some cs, some r => some (cs ++ r) | _, _ => none) (some []) = some cs → RelL st cs us → (∀ u ∈ us, Scal u) →
    ∃ vs, RelL st xs vs ∧ flat vs = us
  | [], cs, us, h, hr, hs => by
    simp only [List.foldr_nil, Option.some.injEq] at h; subst h
    simp only [RelL] at hr; subst hr
    exact ⟨[], RelL.nil, rfl⟩
  | x :: xs, cs, us, h, hr, hs => by
    simp only [List.foldr_cons] at h
    split at h
    · rename_i c1 c2 h1 h2
      simp only [Option.some.injEq] at h; subst h
      have g1 := hr.take c1.length
      have g2 := hr.drop c1.length
      rw [List.take_left] at g1; rw [List.drop_left] at g2
      obtain ⟨v, f1, f2⟩ := uncell h1 g1 (fun u hu => hs u (List.mem_of_mem_take hu))
      obtain ⟨vs, f3, f4⟩ := uncells h2 g2 (fun u hu => hs u (List.mem_of_mem_drop hu))
      exact ⟨v :: vs, RelL.cons f1 f3, by simp only [flat, List.flatMap_cons, f2] at f4 ⊢; rw [f4, List.take_append_drop]⟩
    · cases h

theorem uncells_size {st : St} {sz : Nat} : ∀ {xs : List AV} {vs : List Value}, RelL st xs vs → elemsLen sz xs = true → ∀ u ∈ vs, u.cells.size = sz
  | [], vs, h, _, u, hu => by simp only [RelL] at h; subst h; cases hu
  | x :: xs, vs, h, he, u, hu => by
    obtain ⟨v, vs', rfl, h1, h2⟩ := h.uncons
    simp only [elemsLen, List.all_cons, Bool.and_eq_true] at he
    rcases List.mem_cons.1 hu with rfl | hu
    · have := he.1
      split at this
      · rename_i cs hcs
        have h3 := (h1.cells hcs).1.length
        simp at h3 this; omega
      · cases this
    · exact uncells_size h2 he.2 u hu

/-- A row is nobody's to write any more: every value that shows it as it is now becomes a slice of its elements. -/
theorem freeze_st {st : St} {w : World} {id g : Nat} {cs : List AV} (hH : RelH st w H) (hX : H[id]? = some (.own g cs)) :
    ∃ st', Ext st w st' w ∧ RelH st' w (H.set id .gone) ∧ ∀ (sz off len : Nat) (xs : List AV) (v : Value), cellsOfSl [] sz (.vs sz xs) = some ((cs.drop off).take (len * sz)) → off + len * sz ≤ cs.length → xs.length = len → elemsOk sz xs = true →
      RelV st (.ms sz id g off len) v → RelV st' (.vs sz xs) v := by
  have hlt : id < st.loc.length := by rw [hH.len]; exact (List.getElem?_eq_some_iff.1 hX).1
  have hl : st.loc[id]? = some st.loc[id] := List.getElem?_eq_getElem hlt
  generalize st.loc[id] = l at hl
  have hg : l.g = g := (hH.obj id l _ hl hX).1
  -- what is known of the cells
  obtain ⟨rd', hrd1, hrd2, hrd3⟩ : ∃ rd' : Nat → Nat → Option Value, (∀ b o c, st.rd b o = some c → rd' b o = some c) ∧
      (∀ b o c, rd' b o = some c → st.rd b o = some c ∨ (Scal c ∧ w.cell? ⟨b, o, none⟩ = some c ∧ ∃ o' r, l.base = some (b, o', r))) ∧
      (∀ b o r, l.base = some (b, o, r) → ∃ us, RelL st cs us ∧ (∀ u ∈ us, Scal u) ∧ ∀ i c, us[i]? = some c → rd' b (o + i) = some c) := by
    cases hb : l.base with
    | none => exact ⟨st.rd, fun _ _ _ h => h, fun _ _ _ h => .inl h, fun b o r h => by cases h⟩
    | some x =>
      obtain ⟨b, o, r⟩ := x
      obtain ⟨us, h1, h2, h3⟩ := own_cells hH hX hl hb
      have hnone : ∀ o', st.rd b o' = none := fun o' => by
        cases hq : st.rd b o' with
        | none => rfl
        | some c => exact absurd ⟨id, l, o, r, hl, hb⟩ (hH.rd b o' c hq).2.2
      refine ⟨fun b' o' => if b' = b then (if o ≤ o' then us[o' - o]? else none) else st.rd b' o', fun b' o' c h => ?_, fun b' o' c h => ?_, fun b' o' r' h => ?_⟩
      · have : b' ≠ b := fun he => by subst he; rw [hnone] at h; cases h
        simp only [if_neg this]; exact h
      · simp only at h
        split at h
        · rename_i he; subst he
          split at h
          · rename_i hle
            have := h3 _ c h
            rw [Nat.add_sub_cancel' hle] at this
            exact .inr ⟨h2 c (List.mem_of_getElem? h), this, o, r, rfl⟩
          · cases h
        · exact .inl h
      · cases h
        exact ⟨us, h1, h2, fun i c hc => by simp [hc]⟩
  let st' : St := ⟨rd', st.loc.set id ⟨g + 1, none⟩⟩
  have hget : ∀ (j : Nat) (x : Loc), st'.loc[j]? = some x → (j = id ∧ x = ⟨g + 1, none⟩) ∨ (j ≠ id ∧ st.loc[j]? = some x) := by
    intro j x hx
    simp only [st', List.getElem?_set] at hx
    split at hx
    · rename_i he; subst he
      simp [hlt] at hx
      exact .inl ⟨rfl, hx.symm⟩
    · rename_i he; exact .inr ⟨fun h => he h.symm, hx⟩
  have hown : ∀ b, Owned st' b → Owned st b ∧ ∀ o r, l.base ≠ some (b, o, r) := by
    rintro b ⟨j, x, o, r, hx, hb⟩
    rcases hget j x hx with ⟨rfl, rfl⟩ | ⟨hj, hx'⟩
    · cases hb
    · exact ⟨⟨j, x, o, r, hx', hb⟩, fun o' r' h => hj (hH.inj j id x l b o r o' r' hx' hl hb h)⟩
  have hle : st.le st' := ⟨hrd1, fun j x hx => by
    by_cases hj : j = id
    · subst hj
      rw [hl] at hx; cases hx
      exact ⟨⟨g + 1, none⟩, by simp [st', hlt], by simp only; omega, fun h => by simp only at h; omega⟩
    · exact ⟨x, by simp [st', List.getElem?_set, Ne.symm hj, hx], Nat.le_refl _, fun _ => rfl⟩⟩
  refine ⟨st', ⟨hle, Nat.le_refl _, fun _ _ _ => rfl, fun b hb => .inl (hown b hb).1, rfl, rfl, fun _ => rfl, fun b o c hc => ?_⟩, ⟨by simp [st', hH.len], ?_, ?_, ?_⟩, ?_⟩
  · rcases hrd2 b o c hc with h | ⟨_, _, o', r, h⟩
    · exact .inl h
    · exact .inr (.inr ⟨id, l, o', r, hl, h⟩)
  · intro b o c hc
    rcases hrd2 b o c hc with h | ⟨h1, h2, o', r, h3⟩
    · exact ⟨(hH.rd b o c h).1, (hH.rd b o c h).2.1, fun ho => (hH.rd b o c h).2.2 (hown b ho).1⟩
    · exact ⟨h1, h2, fun ho => (hown b ho).2 o' r h3⟩
  · intro j x X hx hXj
    rcases hget j x hx with ⟨rfl, rfl⟩ | ⟨hj, hx'⟩
    · rw [List.getElem?_set_self (by rw [← hH.len]; exact hlt)] at hXj
      cases hXj; rfl
    · rw [List.getElem?_set_ne (Ne.symm hj)] at hXj
      exact (hH.obj j x X hx' hXj).mono hle fun _ _ _ _ => rfl
  · intro j j' x x' b o r o' r' hx hx' hb hb'
    rcases hget j x hx with ⟨rfl, rfl⟩ | ⟨_, hx⟩
    · cases hb
    · rcases hget j' x' hx' with ⟨rfl, rfl⟩ | ⟨_, hx'⟩
      · cases hb'
      · exact hH.inj j j' x x' b o r o' r' hx hx' hb hb'
  · intro sz off len xs v hxs hle2 hlen hok hv
    simp only [RelV] at hv
    obtain ⟨l2, h1, h2, h3, h4⟩ := hv
    rw [hl] at h1; cases h1
    obtain ⟨a, cap, rfl, hcap, h5⟩ := h4 hg.symm
    simp only [cellsOfSl, if_true] at hxs
    simp only [elemsOk, Bool.and_eq_true] at hok
    simp only [RelV]
    by_cases hc : 0 < cap
    · obtain ⟨b, o, r, h6, rfl, h7⟩ := h5 hc
      obtain ⟨us, f1, f2, f3⟩ := hrd3 b o r h6
      obtain ⟨vs, f4, f5⟩ := uncells hxs ((f1.drop off).take (len * sz)) (fun u hu => f2 u (List.mem_of_mem_drop (List.mem_of_mem_take hu)))
      refine ⟨_, cap, vs, by rw [hlen], by rw [hlen]; exact hcap, RelL.nid (st' := st'.pure) hrd1 hok.1 f4, uncells_size f4 hok.2, fun _ => ⟨b, o + off, rfl, ?_⟩⟩
      intro i c hi
      rw [f5] at hi
      have hi2 : i < len * sz := by
        rcases Nat.lt_or_ge i (len * sz) with h | h
        · exact h
        · rw [List.getElem?_eq_none (by simp; omega)] at hi; cases hi
      rw [List.getElem?_take_of_lt hi2, List.getElem?_drop] at hi
      have := f3 (off + i) c hi
      rw [Nat.add_assoc]; exact this
    · have : len = 0 := by omega
      subst this
      have : xs = [] := List.length_eq_zero_iff.1 hlen
      subst this
      exact ⟨a, cap, [], rfl, by simp, by simp [RelL], by simp, fun h => absurd rfl h⟩

theorem AGo_freeze (t : Nat) {id g sz off len : Nat} {xs cs : List AV} (hX : H[id]? = some (.own g cs)) (ht : look e.g t = .ms sz id g off len) (h1 : cellsOfSl [] sz (.vs sz xs) = some ((cs.drop off).take (len * sz)))
    (h2 : off + len * sz ≤ cs.length) (h3 : xs.length = len) (h4 : elemsOk sz xs = true) (h : AGo cx m k R ⟨e.l, gset e.g t (.vs sz xs)⟩ (H.set id .gone)) : AGo cx m k R e H := by
  refine AGo_turn (fun st w hH => ?_) h
  obtain ⟨st', g1, g2, g3⟩ := freeze_st hH hX
  refine ⟨st', g1, g2, fun t v hv => hv.mono g1.le, fun t' v hv => ?_, fun _ h => h, fun t' hb => ?_⟩
  · rw [look_gset]
    split
    · rename_i he; subst he
      rw [ht] at hv
      exact g3 sz off len xs v h1 h2 h3 h4 hv
    · exact hv.mono g1.le
  · rw [look_gset]
    split
    · rename_i he; subst he; rw [ht] at hb; cases hb
    · exact hb

/-- the slice that is none, as a row without room -/
theorem AGo_nilms (t sz : Nat) (ht : look e.g t = .lit (.slice none 0 0)) (h : AGo cx m k R ⟨e.l, gset e.g t (.ms sz H.length 0 0 0)⟩ (H ++ [.own 0 []])) : AGo cx m k R e H := by
  refine AGo_turn (fun st w hH => ?_) h
  obtain ⟨g1, g2, g3⟩ := push_none hH []
  refine ⟨_, g1, g2, fun t v hv => hv.mono g1.le, fun t' v hv => ?_, fun _ h => h, fun t' hb => ?_⟩
  · rw [look_gset]
    split
    · rename_i he; subst he
      rw [ht] at hv
      simp only [RelV] at hv ⊢
      subst hv
      exact ⟨_, g3, Nat.le_refl _, fun h => absurd h (Nat.lt_irrefl _), fun _ => ⟨none, 0, rfl, Nat.le_refl _, fun h => absurd h (Nat.lt_irrefl _)⟩⟩
    · exact hv.mono g1.le
  · rw [look_gset]
    split
    · rename_i he; subst he; rw [ht] at hb; cases hb
    · exact hb
end Go.Sas
