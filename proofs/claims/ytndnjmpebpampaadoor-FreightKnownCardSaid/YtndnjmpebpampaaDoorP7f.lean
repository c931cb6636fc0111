/-
Rows that grow: small lemmas.
Functions that draw numbers from a seed: contracts.
Lists that are drawn: loops that append, and how they end.
An abstract machine over values, part 24: loops that name only what changes; steps at objects whose number is not written out.
Small lemmas on numbers of Go's int.
Conditions: none.
-/
import Derived.Test.YtndnjmpebpampaaDoorP6f
set_option linter.unusedVariables false
set_option linter.unusedSimpArgs false
namespace Go.Sas
variable {m : Nat} {H : AHeap} {Kk : AV → AHeap → Prop} {r r' : AV}
theorem Frees.wk (hw : Wk r r') (h : Frees m Kk r' H) : Frees m Kk r H := fun st0 w0 st w v hm he hH hr => h st0 w0 st w v hm he hH (hw _ _ hr)
theorem Wk.tup {as bs : List AV} (h : WkL as bs) : Wk (.tup as) (.tup bs) := fun st v hv => by
  simp only [RelV] at hv ⊢
  obtain ⟨us, h1, h2⟩ := hv
  exact ⟨us, h1, h.rel h2⟩
/-- one element more -/
theorem app_one {sz by_ n : Nat} {cs c : List AV} {v : AV} (hl : cs.length = n * sz) (hv : v.cells = some c) (hb : (n + 1) * by_ ≤ 140737488355328) : appS sz sz by_ cs 0 n [v] (cs ++ c) (n + 1) := by
  refine ⟨rfl, by omega, by simpa using hb, rfl, c, ?_, ?_⟩
  · rw [cellsL_eq]; simp [cellsL, hv]
  · rw [List.drop_zero, List.take_of_length_le (by omega)]
/-- elements of a slice -/
theorem app_all {sz by_ n : Nat} {cs c es : List AV} (hl : cs.length = n * sz) (hv : cellsL es = some c) (hb : (n + es.length) * by_ ≤ 140737488355328) : appS sz sz by_ cs 0 n es (cs ++ c) (n + es.length) := by
  refine ⟨rfl, by omega, hb, rfl, c, ?_, ?_⟩
  · rw [cellsL_eq]; exact hv
  · rw [List.drop_zero, List.take_of_length_le (by omega)]
/-- the cells of typed elements -/
theorem cellsL_map {α : Type} {f : α → AV} {g : α → List AV} (hf : ∀ x, (f x).cells = some (g x)) : ∀ (l : List α), cellsL (l.map f) = some (l.flatMap g)
  | [] => rfl
  | x :: l => by simp [cellsL, hf, cellsL_map hf l]
theorem Elems_map {α : Type} {f : α → AV} {g : α → List AV} {sz : Nat} (hf : ∀ x, (f x).cells = some (g x)) (hn : ∀ x, (f x).nid = true) (hs : ∀ x, (g x).length = sz) (l : List α) : Elems sz (l.map f) (l.flatMap g) := by
  refine ⟨cellsL_map hf l, ?_⟩
  simp only [elemsOk, elemsLen, Bool.and_eq_true]
  constructor
  · induction l with
    | nil => rfl
    | cons x l ih => simp only [List.map_cons, AV.nidL, Bool.and_eq_true]; exact ⟨hn x, ih⟩
  · rw [List.all_eq_true]
    intro a ha
    obtain ⟨x, _, rfl⟩ := List.mem_map.1 ha
    rw [hf]; simp [hs]
/-- a row of numbers -/
theorem Elems_I (l : List Int) : Elems 1 (l.map I) (l.map I) := by
  have := Elems_map (f := I) (g := fun n => [I n]) (sz := 1) (fun _ => rfl) (fun _ => rfl) (fun _ => rfl) l
  rw [List.flatMap_singleton'' ] at this
  exact this
where
  List.flatMap_singleton'' : l.flatMap (fun n => [I n]) = l.map I := by
    induction l with
    | nil => rfl
    | cons x l ih => simp [ih]
theorem frz_self {id g sz len : Nat} {xs : List AV} (hl : xs.length = len) : AV.frz id g sz xs (.ms sz id g 0 len) = .vs sz xs := by
  simp only [AV.frz, if_true]
  rw [if_pos (by simp [hl])]
  simp [← hl]
theorem len_flat {α β : Type} {f : α → List β} {k : Nat} (hf : ∀ x, (f x).length = k) : ∀ (l : List α), (l.flatMap f).length = l.length * k
  | [] => by simp
  | x :: l => by simp [hf, len_flat hf l, Nat.add_mul]; omega
end Go.Sas
namespace Go.Sas
/-- called with a seed, wherever it lies, the function yields what is of Q, and the seed has another word -/
def Draws (P : Program) (f : Nat) (rest : List AV) (Q : AV → Prop) : Prop := ∀ (w : Int) (id : Nat) (H : AHeap), H[id]? = some (.own 0 [U w]) →
  ∀ (Kk : AV → AHeap → Prop), (∀ w' r, Q r → Kk r (H.set id (.own 0 [U w']))) → ACalls P f (.mp id 0 0 :: rest) H Kk

theorem Draws.of {P : Program} {f : Nat} {rest : List AV} {Q : AV → Prop} (hr : AV.nidL rest = true) (hQ : ∀ r, Q r → r.nid = true)
    (h : ∀ (w : Int) (Kk : AV → AHeap → Prop), (∀ w' r, Q r → Kk r [.own 0 [U w']]) → ACalls P f (.mp 0 0 0 :: rest) [.own 0 [U w]] Kk) : Draws P f rest Q := by
  intro w id H hH Kk hk
  have h1 := h w (fun r H' => ∃ w', Q r ∧ H' = [.own 0 [U w']]) fun w' r hq => ⟨w', hq, rfl⟩
  have h2 := ACalls.frame (H := H) [id] h1 (by simp) rfl (by simp only [AV.ltL, AV.lt, List.length_cons, List.length_nil]; exact ⟨by omega, AV.ltL_nid hr⟩) (by simp [ltH, AObj.lt, AV.ltL, AV.lt])
    (fun k X hX => by
      cases k with
      | zero => simp at hX; subst hX; simpa [at_, AObj.ren, AV.renL, AV.ren] using hH
      | succ k => simp at hX)
  rw [show AV.renL [id] (.mp 0 0 0 :: rest) = .mp id 0 0 :: rest by simp [AV.renL, AV.ren, at_, AV.renL_nid hr]] at h2
  refine h2.mono fun r H' hx => ?_
  obtain ⟨r0, H1, ⟨w', hq, rfl⟩, _, rfl, rfl⟩ := hx
  rw [AV.ren_nid (hQ _ hq)]
  have := hk w' r0 hq
  simpa [merge, updL, AObj.ren, AV.renL, AV.ren] using this

end Go.Sas
namespace Go.Sas
variable {cx : Cx} {m : Nat} {k : List AItm} {R : Env → AHeap → Prop} {e : Env} {H : AHeap}
/-- spans within spans -/
def Inner : List (Int × Int) → List (Int × Int) → Prop
  | [], [] => True
  | x :: r, y :: l => (y.1 ≤ x.1 ∧ x.1 ≤ x.2 ∧ x.2 ≤ y.2) ∧ Inner r l
  | _, _ => False
theorem Inner.app {x y : Int × Int} : ∀ {r l : List (Int × Int)}, Inner r l → (y.1 ≤ x.1 ∧ x.1 ≤ x.2 ∧ x.2 ≤ y.2) → Inner (r ++ [x]) (l ++ [y])
  | [], [], _, h => ⟨h, trivial⟩
  | _ :: _, _ :: _, h, h' => ⟨h.1, Inner.app h.2 h'⟩
variable {Kk : AV → AHeap → Prop} {r r' : AV}
theorem Frees.row {w : Int} {n sz : Nat} {xs cs : List AV} (hE : Elems sz xs cs) (hr : r.frz 1 n sz xs = r') (hn : r'.nid = true) (h : Kk r' [.own 0 [U w]]) : Frees 1 Kk r [.own 0 [U w], .own n cs] := by
  refine Frees.frz 1 n sz xs rfl hE ?_
  rw [hr]
  have h2 : Frees 1 Kk r' ([.own 0 [U w]] ++ [.gone]) := by
    refine Frees.drop (by simp) ?_ (by simp [ltHB, AV.ltLB, AV.ltB]) (Frees.now h)
    exact ltB_up (Frees.drop0.nid_ltB hn)
  simpa [frzH, AObj.frz, AV.frzL, AV.frz] using h2
where
  ltB_up : ∀ {r : AV}, r.ltB 0 = true → r.ltB 1 = true
    | .bad, _ | .lit _, _ | .vs _ _, _ | .vp _, _ | .es, _ | .nni, _ => by simp only [AV.ltB]
    | .agg cs, h => by simp only [AV.ltB] at h ⊢; exact ltLB_up h
    | .tup cs, h => by simp only [AV.ltB] at h ⊢; exact ltLB_up h
    | .fn f cs, h => by simp only [AV.ltB] at h ⊢; exact ltLB_up h
    | .mp _ _ _, h | .ms _ _ _ _ _, h | .yl _ _, h => by simp [AV.ltB] at h
  ltLB_up : ∀ {as : List AV}, AV.ltLB 0 as = true → AV.ltLB 1 as = true
    | [], _ => by simp only [AV.ltLB]
    | a :: as, h => by
      simp only [AV.ltLB, Bool.and_eq_true] at h ⊢
      exact ⟨ltB_up h.1, ltLB_up h.2⟩
end Go.Sas
namespace Go.Sas
variable {cx : Cx} {m : Nat} {k : List AItm} {R : Env → AHeap → Prop} {e : Env} {H H' : AHeap}
/-- what some temporaries hold -/
def keepS (ks : List Nat) (G : List (Nat × AV)) : List (Nat × AV) := ks.map fun t => (t, look G t)
theorem fits_app {e : Env} : ∀ {a b : List (Nat × AV)}, Fits e a → Fits e b → Fits e (a ++ b)
  | [], _, _, h => h
  | _ :: _, _, h1, h2 => ⟨h1.1, fits_app h1.2 h2⟩
theorem fits_keep {e : Env} : ∀ (ks : List Nat), Fits e (keepS ks e.g)
  | [] => trivial
  | _ :: ks => ⟨rfl, fits_keep ks⟩
/-- a loop that counts up: what changes, and what is kept -/
theorem AGo_upE {c : ACode} {σ : Type} (ks : List Nat) (N : Nat) (Pr : Nat → σ → Prop) (S : Nat → σ → Int → List (Nat × AV)) (HS : Nat → σ → AHeap) (s0 : σ) (h0 : Pr 0 s0) (hf0 : Fits e (S 0 s0 (iLen 0))) (hH0 : HFits m (S 0 s0 (iLen 0) ++ keepS ks e.g) (HS 0 s0) H)
    (hround : ∀ (j : Nat) (s : σ) (i : Int), i = iLen j → j ≤ N → Pr j s → ∀ Bk : Env → AHeap → Prop, (∀ s' e' H', j < N → Pr (j + 1) s' → Fits e' (S (j + 1) s' (iLen (j + 1))) → Fits e' (keepS ks e.g) → HFits m (S (j + 1) s' (iLen (j + 1)) ++ keepS ks e.g) (HS (j + 1) s') H' → Bk e' H') →
      AGo cx m (.code c :: .bk Bk :: k) R ⟨[], S j s i ++ keepS ks e.g⟩ (HS j s)) : AGo cx m (.code (.loop c) :: k) R e H :=
  AGo_upS N Pr (fun j s i => S j s i ++ keepS ks e.g) HS s0 h0 (fits_app hf0 (fits_keep ks)) hH0 fun j s i hi hj hP Bk hB =>
    hround j s i hi hj hP Bk fun s' e' H' h1 h2 h3 h4 h5 => hB s' e' H' h1 h2 (fits_app h3 h4) h5
/-- a loop, by a measure: what changes, and what is kept -/
theorem AGo_whileE {c : ACode} {σ : Type} (ks : List Nat) (μ : σ → Nat) (Pr : σ → Prop) (S : σ → List (Nat × AV)) (HS : σ → AHeap) (x0 : σ) (h0 : Pr x0) (hf0 : Fits e (S x0)) (hH0 : HFits m (S x0 ++ keepS ks e.g) (HS x0) H)
    (hround : ∀ (x : σ), Pr x → ∀ Bk : Env → AHeap → Prop, (∀ y e' H', μ y < μ x → Pr y → Fits e' (S y) → Fits e' (keepS ks e.g) → HFits m (S y ++ keepS ks e.g) (HS y) H' → Bk e' H') → AGo cx m (.code c :: .bk Bk :: k) R ⟨[], S x ++ keepS ks e.g⟩ (HS x)) : AGo cx m (.code (.loop c) :: k) R e H :=
  AGo_while (σ := { x : σ // Pr x }) (fun x => μ x.1) (fun x => S x.1 ++ keepS ks e.g) (fun x => HS x.1) ⟨x0, h0⟩ (fits_app hf0 (fits_keep ks)) hH0 fun x Bk hB =>
    hround x.1 x.2 Bk fun y e' H' h1 h2 h3 h4 h5 => hB ⟨y, h2⟩ e' H' h1 (fits_app h3 h4) h5
section
variable {d : Option (Bool × Nat)} {op : AOp} {g : Option (Od × Bool)} {rest : List AOper}
/-- a step by what is to be shown behind it -/
theorem AGo_pt (sy : List Nat) (hg : gOk e g = some true) (h : opPT std sy (ev e) H op (fun r H' => AGo cx m (.ops rest :: k) R (put e d r) H') (fun _ => False)) : AGo cx m (.ops (⟨d, op, g⟩ :: rest) :: k) R e H := by
  rcases opPT_sound h with h | ⟨r, H', h1, h2⟩
  · exact h.elim
  · exact AGo_run1 hg h1 h2
theorem isSy_self {id : Nat} : isSy [id] id = true := by simp [isSy]
theorem AGo_iaN {sz : Nat} {x i : Od} {id gg off len : Nat} {q : IntKind} {n : Int} {cs : List AV} {o : Nat} (hg : gOk e g = some true) (hx : ev e x = .ms sz id gg off len) (hi : ev e i = .lit (.int q n)) (hX : H[id]? = some (.own gg cs)) (hn : ixmS sz sz off len n o)
    (h : AGo cx m (.ops rest :: k) R (put e d (.mp id gg o)) H) : AGo cx m (.ops (⟨d, .ia sz x i, g⟩ :: rest) :: k) R e H := by
  refine AGo_pt [id] hg ?_
  simp only [opPT, hx, hi, isSy_self, symP, hX]
  exact ⟨rfl, o, hn, h⟩
theorem AGo_stN {n : Nat} {a v : Od} {id gg o : Nat} {cs cs' xs : List AV} (hg : gOk e g = some true) (ha : ev e a = .mp id gg o) (hv : (ev e v).cells = some xs) (hX : H[id]? = some (.own gg cs)) (hu : updS n cs o xs cs') {H2 : AHeap} (h2 : H.set id (.own gg cs') = H2)
    (h : AGo cx m (.ops rest :: k) R (put e d (.lit undef)) H2) : AGo cx m (.ops (⟨d, .st n a v, g⟩ :: rest) :: k) R e H := by
  subst h2
  refine AGo_pt [id] hg ?_
  simp only [opPT, ha, isSy_self, symP, hX, hv]
  exact ⟨rfl, cs', hu, h⟩
theorem AGo_mkslN {sz by_ : Nat} {z : List Value} {l c : Od} {ln cp : Int} {cs : List AV} {n : Nat} (hg : gOk e g = some true) (hl : ev e l = I ln) (hc : ev e c = I cp) (hm : mkS sz by_ z ln cp cs n) {q : Nat} {H2 : AHeap} (hq : H.length = q) (h2 : H ++ [.own 0 cs] = H2)
    (h : AGo cx m (.ops rest :: k) R (put e d (.ms sz q 0 0 n)) H2) : AGo cx m (.ops (⟨d, .mksl sz by_ z l c, g⟩ :: rest) :: k) R e H := by
  subst hq h2
  refine AGo_pt [H.length] hg ?_
  simp only [opPT, hl, hc, isSy_self]
  exact ⟨cs, n, hm, h⟩
/-- a variable is laid where one lay that is not wanted any more -/
theorem AGo_newAt (q : Nat) {gg : Nat} {cs : List AV} {z : List Value} (hg : gOk e g = some true) (hX : H[q]? = some (.own gg cs))
    (h : AGo cx m (.ops rest :: k) R (put e d (.mp q (gg + 1) 0)) (H.set q (.own (gg + 1) (z.map .lit)))) : AGo cx m (.ops (⟨d, .new z, g⟩ :: rest) :: k) R e H := by
  refine AGo_op hg fun ops o' st0 w0 kc l hm hk hl htr hd st a w hr K' Q hK => ?_
  obtain ⟨mu, htr⟩ := htr
  refine upon_step (r := .mp q (gg + 1) 0) (H' := H.set q (.own (gg + 1) (z.map .lit))) hr hd ?_ fun st' w' a' hr' => hK _ _ _ _ _ hr' h
  have hH := hr.hH
  have hq : q < st.loc.length := by rw [hH.len]; exact (List.getElem?_eq_some_iff.1 hX).1
  obtain ⟨L, hL⟩ : ∃ L, st.loc[q]? = some L := ⟨_, List.getElem?_eq_getElem hq⟩
  have hLg : L.g = gg := (hH.obj q L _ hL hX).1
  obtain ⟨t, hop, hz⟩ := trOp_new htr
  obtain ⟨i, zv, hi, hzv, rfl, hs⟩ := zrT_spec hz
  obtain ⟨h1, h2, h3⟩ := rel_upd hH (l' := ⟨gg + 1, some (w.heap.size, 0, zv.cells.size)⟩) (X' := .own (gg + 1) (zv.cells.toList.map .lit)) (w' := w.alloc (.cells zv.cells t)) hL hX (by simp only; omega) (fun h => absurd h (by simp only; omega)) (by rw [size_alloc]; exact Nat.le_succ _)
    (fun b hb _ => heap_alloc_lt _ _ hb) rfl rfl (fun b o r h => by simp at h; exact .inr (by omega)) (fun st' _ => by
      simp only [ObjOk]
      refine ⟨trivial, fun b o r hb => ?_⟩
      simp at hb
      obtain ⟨rfl, rfl, rfl⟩ := hb
      exact ⟨zv.cells, t, zv.cells.toList, heap_alloc_new _ _, by omega, by simp, RelL.lits _, hs, fun i c hc => by rw [Nat.zero_add]; simpa using hc⟩)
  refine ⟨.pointer (some ⟨w.heap.size, 0, none⟩), w.alloc (.cells zv.cells t), _, .inl (by simp [execOp, hop, Instr.alloc, zeroValue, typeInfo, hi, hzv, newVar, newRow]), h1, h2, ?_⟩
  simp only [RelV]
  exact ⟨_, h3, Nat.le_refl _, fun h => absurd h (Nat.lt_irrefl _), fun _ => ⟨_, 0, _, rfl, rfl⟩⟩
end
/-- of an object nothing is said any more -/
theorem RelH.weak {st : St} {w : World} {q gg : Nat} {cs : List AV} (hH : RelH st w H) (hX : H[q]? = some (.own gg cs)) : RelH st w (H.set q (.own gg [])) := by
  refine ⟨by simp [hH.len], hH.rd, fun id l X hl hXX => ?_, hH.inj⟩
  rw [List.getElem?_set] at hXX
  split at hXX
  · rename_i he; subst he
    split at hXX
    · cases hXX
      have h := hH.obj q l _ hl hX
      simp only [ObjOk] at h ⊢
      refine ⟨h.1, fun b o r hb => ?_⟩
      obtain ⟨arr, T, us, f1, f2, _, _, _, _⟩ := h.2 b o r hb
      exact ⟨arr, T, [], f1, f2, Nat.zero_le _, RelL.nil, by simp, by simp⟩
    · cases hXX
  · exact hH.obj id l X hl hXX
theorem AGo_weakO (q : Nat) {gg : Nat} {cs : List AV} (hX : H[q]? = some (.own gg cs)) (h : AGo cx m k R e (H.set q (.own gg []))) : AGo cx m k R e H :=
  AGo_turn (fun st w hH => ⟨st, .refl _ _, hH.weak hX, fun _ _ h => h, fun _ _ h => h, fun _ h => h, fun _ h => h⟩) h
/-- a place for a variable that is laid later -/
theorem AGo_place (h : AGo cx m k R e (H ++ [.own 0 []])) : AGo cx m k R e H :=
  AGo_turn (fun st w hH => by
    obtain ⟨g1, g2, g3⟩ := push_none hH []
    exact ⟨_, g1, g2, fun _ _ h => h.mono g1.le, fun _ _ h => h.mono g1.le, fun _ h => h, fun _ h => h⟩) h
theorem RelL.setAt {st : St} {a : AV} : ∀ {cs : List AV} {us : List Value} {i : Nat}, RelL st cs us → (∀ u, us[i]? = some u → RelV st a u) → RelL st (cs.set i a) us
  | [], us, i, h, _ => by simpa using h
  | c :: cs, us, 0, h, ha => by
    obtain ⟨u, us', rfl, h2, h3⟩ := h.uncons
    exact RelL.cons (ha u (by simp)) h3
  | c :: cs, us, i + 1, h, ha => by
    obtain ⟨u, us', rfl, h2, h3⟩ := h.uncons
    exact RelL.cons h2 (RelL.setAt h3 fun v hv => ha v (by simpa using hv))
theorem AGo_nilcell {cx : Cx} {m : Nat} {k : List AItm} {R : Env → AHeap → Prop} {e : Env} {H : AHeap} (id i sz : Nat) {g : Nat} {cs : List AV} (hX : H[id]? = some (.own g cs)) (hi : cs[i]? = some (.lit (.slice none 0 0)))
    (h : AGo cx m k R e (H.set id (.own g (cs.set i (.ms sz H.length 0 0 0))) ++ [.own 0 []])) : AGo cx m k R e H := by
  refine AGo_turn (fun st w hH => ?_) (h := h)
  obtain ⟨g1, g2, g3⟩ := push_none hH []
  have hid := (List.getElem?_eq_some_iff.1 hX).1
  refine ⟨_, g1, ⟨by rw [g2.len]; simp, g2.rd, fun j l X hl hY => ?_, g2.inj⟩, fun t v hv => hv.mono g1.le, fun t v hv => hv.mono g1.le, fun _ h => h, fun _ h => h⟩
  rcases Nat.lt_trichotomy j H.length with hj | hj | hj
  · rw [List.getElem?_append_left (by simpa using hj)] at hY
    by_cases he : j = id
    · subst he
      rw [List.getElem?_set_self hid] at hY; cases hY
      have h4 := g2.obj j l _ hl (by rw [List.getElem?_append_left hj]; exact hX)
      simp only [ObjOk] at h4 ⊢
      refine ⟨h4.1, fun b o r hb => ?_⟩
      obtain ⟨arr, T, us, f1, f2, f3, f4, f5, f6⟩ := h4.2 b o r hb
      refine ⟨arr, T, us, f1, f2, by simpa using f3, RelL.setAt f4 fun u hu => ?_, f5, f6⟩
      obtain ⟨u2, e1, e2⟩ := f4.get hi
      rw [hu] at e1; cases e1
      simp only [RelV] at e2 ⊢
      exact ⟨_, g3, Nat.le_refl _, fun h => absurd h (Nat.lt_irrefl _), fun _ => ⟨none, 0, e2, Nat.le_refl _, fun h => absurd h (Nat.lt_irrefl _)⟩⟩
    · rw [List.getElem?_set_ne (Ne.symm he)] at hY
      exact g2.obj j l X hl (by rw [List.getElem?_append_left hj]; exact hY)
  · subst hj
    rw [List.getElem?_append_right (by simp)] at hY
    refine g2.obj _ l X hl ?_
    rw [List.getElem?_append_right (Nat.le_refl _)]
    simpa using hY
  · rw [List.getElem?_eq_none (by simp; omega)] at hY; cases hY
end Go.Sas
namespace Go.Sas
theorem iQuo_id {a b : Int} (h0 : 0 ≤ a) (h1 : a ≤ 9223372036854775807) (hb : 0 < b) : iQuo .i64 a b = a / b := by
  have h2 : a / b ≤ a := Int.ediv_le_self _ h0
  have h3 : 0 ≤ a / b := Int.ediv_nonneg h0 (by omega)
  unfold iQuo
  rw [Int.tdiv_eq_ediv_of_nonneg h0]
  exact wrap_id (by omega) (by omega)
theorem iRem_id {a b : Int} (h0 : 0 ≤ a) : iRem .i64 a b = a % b := by
  unfold iRem; exact Int.tmod_eq_emod_of_nonneg h0
theorem iMin_eq (a b : Int) : iMin a b = min a b := by unfold iMin; split <;> omega
theorem ixm1 {len j : Nat} {i : Int} (hi : i = iLen j) (h : j < len) : ixmS 1 1 0 len i j := by
  subst hi; unfold iLen
  exact ⟨rfl, by omega, by omega, by omega⟩
theorem mul_bnd {a b A B : Int} (h1 : -A ≤ a) (h2 : a ≤ A) (h3 : 0 ≤ b) (h4 : b ≤ B) : -(A * B) ≤ a * b ∧ a * b ≤ A * B := by
  have hA : 0 ≤ A := by omega
  have e1 : a * b ≤ A * b := Int.mul_le_mul_of_nonneg_right h2 h3
  have e2 : A * b ≤ A * B := Int.mul_le_mul_of_nonneg_left h4 hA
  have e3 : (-A) * b ≤ a * b := Int.mul_le_mul_of_nonneg_right h1 h3
  have e4 : (-A) * b = -(A * b) := Int.neg_mul A b
  omega
/-- a length, under a name of its own -/
def LenIs {α : Type} (l : List α) (n : Nat) : Prop := l.length = n
theorem flat_one {α β : Type} {f : α → β} : ∀ (l : List α), (l.flatMap fun x => [f x]) = l.map f
  | [] => rfl
  | x :: l => by rw [List.flatMap_cons, flat_one l]; rfl
theorem SubH.self : ∀ (H : AHeap), SubH H H
  | [] => trivial
  | .gone :: H => by simp only [SubH]; exact SubH.self H
  | .raw _ _ _ _ :: H => ⟨rfl, SubH.self H⟩
  | .own _ [] :: H => by simp only [SubH]; exact ⟨trivial, SubH.self H⟩
  | .own _ (_ :: _) :: H => ⟨rfl, SubH.self H⟩
end Go.Sas
