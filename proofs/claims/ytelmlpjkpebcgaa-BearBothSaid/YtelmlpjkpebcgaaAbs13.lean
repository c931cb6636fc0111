/-
An abstract machine over values, part 13: the rule for regions that draw their order of evaluation.
Conditions: none (lemmas over any program).
-/
import Derived.Test.YtelmlpjkpebcgaaAbs12
set_option linter.unusedVariables false
set_option linter.unusedSimpArgs false
namespace Go.Sas

/-! ### A place that was kept is taken -/
def St.fill (st : St) (id : Nat) (l : Loc) : St := ⟨st.rd, st.loc.set id l⟩

theorem fill_get {st : St} {id g : Nat} {ba : Option (Nat × Nat × Nat)} (h : st.loc[id]? = some ⟨g, none⟩) {j : Nat} {l : Loc} (hj : st.loc[j]? = some l) :
    ∃ l', (st.fill id ⟨g, ba⟩).loc[j]? = some l' ∧ l'.g = l.g ∧ (l.base = none ∨ l'.base = l.base) := by
  by_cases he : id = j
  · subst he
    rw [h] at hj; cases hj
    exact ⟨⟨g, ba⟩, by simp [St.fill, (List.getElem?_eq_some_iff.1 h).1], rfl, .inl rfl⟩
  · exact ⟨l, by simp [St.fill, List.getElem?_set, he, hj], rfl, .inr rfl⟩

mutual
theorem RelV.fill {st : St} {id g : Nat} {ba : Option (Nat × Nat × Nat)} (h : st.loc[id]? = some ⟨g, none⟩) : ∀ {a : AV} {v : Value}, RelV st a v → RelV (st.fill id ⟨g, ba⟩) a v
  | .bad, _, _ => by simp only [RelV]
  | .lit u, v, hv => by simp only [RelV] at hv ⊢; exact hv
  | .agg cs, v, hv => by
    simp only [RelV] at hv ⊢
    obtain ⟨us, h1, h2, h3⟩ := hv
    exact ⟨us, h1, RelL.fill h h2, h3⟩
  | .tup cs, v, hv => by
    simp only [RelV] at hv ⊢
    obtain ⟨us, h1, h2⟩ := hv
    exact ⟨us, h1, RelL.fill h h2⟩
  | .vs sz es, v, hv => by simp only [RelV] at hv ⊢; exact hv
  | .vp cs, v, hv => by simp only [RelV] at hv ⊢; exact hv
  | .mp i g' off, v, hv => by
    simp only [RelV] at hv ⊢
    obtain ⟨l, h1, h2, h3, h4⟩ := hv
    obtain ⟨l', e1, e2, e3⟩ := fill_get (ba := ba) h h1
    refine ⟨l', e1, by omega, fun hlt => h3 (by omega), fun he => ?_⟩
    obtain ⟨b, o, r, f1, f2⟩ := h4 (by omega)
    rcases e3 with e3 | e3
    · rw [e3] at f1; cases f1
    · exact ⟨b, o, r, by rw [e3]; exact f1, f2⟩
  | .ms sz i g' off len, v, hv => by
    simp only [RelV] at hv ⊢
    obtain ⟨l, h1, h2, h3, h4⟩ := hv
    obtain ⟨l', e1, e2, e3⟩ := fill_get (ba := ba) h h1
    refine ⟨l', e1, by omega, fun hlt => h3 (by omega), fun he => ?_⟩
    obtain ⟨a, cap, f1, f2, f3⟩ := h4 (by omega)
    refine ⟨a, cap, f1, f2, fun hc => ?_⟩
    obtain ⟨b, o, r, f4, f5⟩ := f3 hc
    rcases e3 with e3 | e3
    · rw [e3] at f4; cases f4
    · exact ⟨b, o, r, by rw [e3]; exact f4, f5⟩
  | .yl i g', v, hv => by
    simp only [RelV] at hv ⊢
    obtain ⟨l, h1, h2, h3, h4⟩ := hv
    obtain ⟨l', e1, e2, e3⟩ := fill_get (ba := ba) h h1
    refine ⟨l', e1, by omega, fun hlt => h3 (by omega), fun he => ?_⟩
    obtain ⟨b, o, r, f1, f2⟩ := h4 (by omega)
    rcases e3 with e3 | e3
    · rw [e3] at f1; cases f1
    · exact ⟨b, o, r, by rw [e3]; exact f1, f2⟩
  | .es, v, hv => by simp only [RelV] at hv ⊢; exact hv
  | .fn f caps, v, hv => by
    simp only [RelV] at hv ⊢
    obtain ⟨us, h1, h2⟩ := hv
    exact ⟨us, h1, RelL.fill h h2⟩
theorem RelL.fill {st : St} {id g : Nat} {ba : Option (Nat × Nat × Nat)} (h : st.loc[id]? = some ⟨g, none⟩) : ∀ {as : List AV} {us : List Value}, RelL st as us → RelL (st.fill id ⟨g, ba⟩) as us
  | [], us, hv => by simp only [RelL] at hv ⊢; exact hv
  | a :: as, us, hv => by
    simp only [RelL] at hv ⊢
    obtain ⟨u, us', h1, h2, h3⟩ := hv
    exact ⟨u, us', h1, RelV.fill h h2, RelL.fill h h3⟩
end

theorem fill_new {st0 st : St} {w0 w : World} {H : AHeap} {id : Nat} (hH : RelH st w H) (hl : st.loc[id]? = some ⟨0, none⟩) (arr : Array Value) (T : TypeId) (hs : ∀ u ∈ arr.toList, Scal u)
    (hX : H[id]? = some (.own 0 (arr.toList.map .lit))) (hext : Ext st0 w0 st w) (hm : st0.loc.length ≤ id) :
    RelH (st.fill id ⟨0, some (w.heap.size, 0, arr.size)⟩) (w.alloc (.cells arr T)) H ∧ Ext st0 w0 (st.fill id ⟨0, some (w.heap.size, 0, arr.size)⟩) (w.alloc (.cells arr T)) := by
  have hid := (List.getElem?_eq_some_iff.1 hl).1
  have hget : ∀ (j : Nat) (x : Loc), (st.fill id ⟨0, some (w.heap.size, 0, arr.size)⟩).loc[j]? = some x → (j = id ∧ x = ⟨0, some (w.heap.size, 0, arr.size)⟩) ∨ (j ≠ id ∧ st.loc[j]? = some x) := by
    intro j x hx
    simp only [St.fill, List.getElem?_set] at hx
    split at hx
    · rename_i he; subst he
      simp [hid] at hx
      exact .inl ⟨rfl, hx.symm⟩
    · rename_i he; exact .inr ⟨fun h => he h.symm, hx⟩
  have hown : ∀ b, Owned (st.fill id ⟨0, some (w.heap.size, 0, arr.size)⟩) b → Owned st b ∨ b = w.heap.size := by
    rintro b ⟨j, x, o, r, hx, hb⟩
    rcases hget j x hx with ⟨rfl, rfl⟩ | ⟨_, hx'⟩
    · cases hb; exact .inr rfl
    · exact .inl ⟨j, x, o, r, hx', hb⟩
  refine ⟨⟨by simp [St.fill, hH.len], ?_, ?_, ?_⟩, ⟨⟨fun b o c h => hext.le.rd b o c h, ?_⟩, by rw [size_alloc]; exact Nat.le_succ_of_le hext.size, fun b hb ho => ?_, fun b hb => ?_, hext.os, hext.output, fun a => (RowKit.frozen?_alloc_cells _ _ _ _).trans (hext.fro a), hext.rdn⟩⟩
  · intro b o c hc
    have h := hH.rd b o c hc
    have hb := rd_lt hH hc
    exact ⟨h.1, by rw [cell_of_heap (heap_alloc_lt _ _ hb)]; exact h.2.1, fun ho => (hown b ho).elim h.2.2 (fun he => by omega)⟩
  · intro j x X hx hXj
    rcases hget j x hx with ⟨rfl, rfl⟩ | ⟨hj, hx'⟩
    · rw [hX] at hXj; cases hXj
      simp only [ObjOk]
      refine ⟨trivial, fun b o r hb => ?_⟩
      simp at hb
      obtain ⟨rfl, rfl, rfl⟩ := hb
      exact ⟨arr, T, arr.toList, heap_alloc_new _ _, by omega, by simp, RelL.lits _, hs, fun i c hc => by rw [Nat.zero_add]; simpa using hc⟩
    · have h := hH.obj j x X hx' hXj
      have hb : ∀ b o r, x.base = some (b, o, r) → (w.alloc (.cells arr T)).heap[b]? = w.heap[b]? := fun b o r hb => heap_alloc_lt _ _ (owned_lt hH ⟨j, x, o, r, hx', hb⟩)
      cases X with
      | gone => exact h
      | own g cs =>
        simp only [ObjOk] at h ⊢
        refine ⟨h.1, fun b o r hbb => ?_⟩
        obtain ⟨arr', T', us, f1, f2, f3, f4, f5, f6⟩ := h.2 b o r hbb
        exact ⟨arr', T', us, by rw [hb b o r hbb]; exact f1, f2, f3, f4.fill hl, f5, f6⟩
      | raw g ob =>
        simp only [ObjOk] at h ⊢
        obtain ⟨h1, b, o, r, h2, h3⟩ := h
        exact ⟨h1, b, o, r, h2, by rw [hb b o r h2]; exact h3⟩
  · intro i i' l l' b o r o' r' h1 h2 h3 h4
    rcases hget i l h1 with ⟨rfl, rfl⟩ | ⟨g1, g2⟩ <;> rcases hget i' l' h2 with ⟨rfl, rfl⟩ | ⟨g1', g2'⟩
    · rfl
    · cases h3; exact absurd (owned_lt hH ⟨i', l', o', r', g2', h4⟩) (Nat.lt_irrefl _)
    · cases h4; exact absurd (owned_lt hH ⟨i, l, o, r, g2, h3⟩) (Nat.lt_irrefl _)
    · exact hH.inj i i' l l' b o r o' r' g2 g2' h3 h4
  · intro j l hj
    have hlt : j < st0.loc.length := (List.getElem?_eq_some_iff.1 hj).1
    obtain ⟨l', h1, h2⟩ := hext.le.loc j l hj
    exact ⟨l', by simp only [St.fill]; rw [List.getElem?_set_ne (by omega)]; exact h1, h2⟩
  · rw [heap_alloc_lt _ _ (Nat.lt_of_lt_of_le hb hext.size)]; exact hext.frame b hb ho
  · rcases hown b hb with h | h
    · exact hext.own b h
    · exact .inr (by rw [h]; exact hext.size)

/-! ### Soundness of a step -/
theorem posOf_ge : ∀ {l : List Nat} {b i id : Nat}, posOf l b i = some id → b ≤ id
  | [], b, i, id, h => by simp [posOf] at h
  | x :: r, b, i, id, h => by
    simp only [posOf] at h
    split at h
    · simp at h; omega
    · have := posOf_ge h; omega

theorem posOf_inj : ∀ {l : List Nat} {b i i' id : Nat}, posOf l b i = some id → posOf l b i' = some id → i = i'
  | [], b, i, i', id, h, _ => by simp [posOf] at h
  | x :: r, b, i, i', id, h, h' => by
    simp only [posOf] at h h'
    split at h <;> split at h'
    · omega
    · simp at h; have := posOf_ge h'; omega
    · simp at h'; have := posOf_ge h; omega
    · exact posOf_inj h h'

theorem ResK.get : ∀ {l : List Nat} {b i id : Nat} {ws : List Nat} {H H' : AHeap}, ResK l b ws H H' → posOf l b i = some id → ws.contains i = false → H'[id]? = H[id]?
  | [], b, i, id, ws, H, H', h, hp, _ => by simp [posOf] at hp
  | x :: r, b, i, id, ws, H, H', h, hp, hw => by
    simp only [ResK] at h
    simp only [posOf] at hp
    split at hp
    · rename_i hx; subst hx
      simp at hp; subst hp
      rcases h.1 with h1 | h1
      · rw [h1] at hw; cases hw
      · exact h1
    · exact ResK.get h.2 hp hw

def Inv (m : Nat) (D : Option DM) (L : List DItm) (st : St) (H : AHeap) : Prop := ∀ D', D = some D' → SubH D'.M H ∧
  ∀ it ∈ L, ∀ z, it.o.op = .new z → ∃ id, posOf D'.news D'.base it.i = some id ∧ m ≤ id ∧ H[id]? = some (.own 0 (z.map .lit)) ∧ st.loc[id]? = some ⟨0, none⟩

theorem virt_keep {st st' : St} {w w' : World} {H' : AHeap} {id : Nat} {cs : List AV} (hext : Ext st w st' w') (hH' : RelH st' w' H') (hl : st.loc[id]? = some ⟨0, none⟩) (hX : H'[id]? = some (.own 0 cs)) : st'.loc[id]? = some ⟨0, none⟩ := by
  obtain ⟨l', h1, h2, h3⟩ := hext.le.loc id _ hl
  have := hH'.obj id l' _ h1 hX
  simp only [ObjOk] at this
  have hb := h3 this.1
  obtain ⟨g, ba⟩ := l'
  simp only at this hb
  rw [h1, this.1, hb]

theorem trOp_new {P : Program} {K : List Nat} {mu : Bool} {o : Oper} {z : List Value} (h : trOp P K mu o = some (.new z)) : ∃ t, o.op = .alloc t ∧ zrT P t = some z := by
  cases hop : o.op <;> simp only [trOp, hop] at h
  case alloc t =>
    split at h
    · rename_i z' hz
      split at h
      · cases h
      · simp only [Option.some.injEq, AOp.new.injEq] at h; subst h; exact ⟨t, rfl, hz⟩
    · cases h
  case call c =>
    exfalso
    unfold trCall at h
    repeat' split at h
    all_goals first
      | contradiction
      | (cases h; done)
      | (obtain ⟨ys, hys, h'⟩ := Option.map_eq_some_iff.1 h; cases h')
  all_goals
    exfalso
    repeat' split at h
    all_goals first
      | contradiction
      | (cases h; done)
      | (obtain ⟨ys, hys, h'⟩ := Option.map_eq_some_iff.1 h; cases h'; done)
      | (unfold trBin at h; repeat' split at h
         all_goals first
           | (cases h; done)
           | (simp only [Option.some.injEq] at h; cases h; done)
           | (obtain ⟨ys, hys, h'⟩ := Option.map_eq_some_iff.1 h; cases h'; done))

theorem call_run {cx : Cx} {st0 st : St} {w0 w : World} {e : Env} {H : AHeap} {a : Act} {o' : Oper} {mu : Bool} {f : Od} {xs : List Od} {fid : Nat} {caps : List AV} {ad : Option (Bool × Nat)} {K : AV → AHeap → Prop}
    (hrel : Rel cx st0 w0 st w e H a) (hp : trOp cx.P cx.K mu o' = some (.call f xs)) (hf : ev e f = .fn fid caps) (h : ACalls cx.P fid (xs.map (ev e) ++ caps) H K)
    {K' : Act → World → Prop} {Q : Exit → Act → World → Prop} (hd : trDst cx o'.dst = some ad)
    (hk : ∀ st' w' a' r H', Ext st w st' w' → RelH st' w' H' → Rel cx st0 w0 st' w' (put e ad r) H' a' → K r H' → K' a' w') : o'.uponIn (Fc cx.ro) 0 cx.P a K' Q ((execOp a.eval o').run cx.P w) := by
  obtain ⟨c, f', hop, hcal, hf', hxs⟩ := trOp_call hp
  have hfv := hrel.ops f' f hf'
  rw [hf] at hfv; simp only [RelV] at hfv
  obtain ⟨us, hfv, hus⟩ := hfv
  have hargs := hrel.ops.list hxs
  obtain ⟨hc, hcalls⟩ := h
  unfold callable at hc
  split at hc
  · rename_i fn hfn
    simp only [Bool.and_eq_true, bne_iff_ne, ne_eq] at hc
    have hrun : (execOp a.eval o').run cx.P w = .ok (.enter fid ((c.args.map a.eval) ++ us)) w := by
      have hb : fn.body.isNone = false := by cases hx : fn.body <;> simp [hx] at hc ⊢
      have hn : (fn.name == "runtime.NumGoroutine") = false := by simpa using hc.1
      simp only [execOp, hop, resolve, hcal, Deferred.ofValue, hfv, Sem.run_bind, Sem.run_pure, Result.andThen_ok, invoke, callFunc, run_program, hfn, hn, hb, Bool.false_eq_true, if_false]
      simp
    rw [hrun]; simp only [Oper.uponIn]
    refine ⟨fun h => (by simp [Fc] at h), ?_⟩
    have h2 := hcalls st w (c.args.toList.map a.eval ++ us.toList) hrel.hH (hargs.append hus)
    have harr : (c.args.toList.map a.eval ++ us.toList).toArray = c.args.map a.eval ++ us := by apply Array.ext'; simp
    rw [harr] at h2
    have h3 := callsIn_wide (n := 0 - 1).2 h2
    refine CallsIn.mono (F := Fc cx.ro) h3 fun x w' hx => ?_
    obtain ⟨v, r, H', st', rfl, e2, e3, e4, e5⟩ := hx
    exact hk _ _ _ _ _ e2 e3 (hrel.put e2 e3 hd e4) e5
  · cases hc

section
variable {cx : Cx} {m : Nat} {k : List AItm} {R : Env → AHeap → Prop} {ops : Array Oper} {A : List AOper}

theorem ws_waits {i j : Nat} (h : (wsA ops A j).contains i = true) : waitsFor ops j i = true := by
  simp only [wsA, List.contains_iff_mem, List.mem_filter, Bool.and_eq_true] at h
  exact h.2.2

theorem jstep_sound (hA : trOps cx ops ops.toList = some A) {listed : Array Bool} {l l' : List Nat} {D : Option DM} {e : Env} {H : AHeap} {j : Nat} {K : Option DM → AV → AHeap → Prop}
    (hj : j ∈ Region.ready .any ops listed) (hjl : j ∈ l) (hsub : ∀ i ∈ l', i ∈ l) (hun : ∀ i ∈ l', listed.getD i true = false) (hne : ∀ i ∈ l', i ≠ j)
    {st0 st : St} {w0 w : World} {a : Act} (hm : st0.loc.length = m) (hrel : Rel cx st0 w0 st w e H a) (hinv : Inv m D (l.map (itm ops A)) st H) (hs : JStep cx.P D (itm ops A j) e H K)
    {Kc : Act → World → Prop} {Q : Exit → Act → World → Prop}
    (hk : ∀ D' r H' st' w' a', Rel cx st0 w0 st' w' (put e (itm ops A j).o.dst r) H' a' → Inv m D' (l'.map (itm ops A)) st' H' → K D' r H' → Kc a' w') : wpOpIn (Fc cx.ro) 0 cx.P ops Q j Kc a w := by
  have hjlt : j < ops.size := by
    obtain ⟨_, o, ho, _⟩ := mem_ready.1 hj
    exact (Array.getElem?_eq_some_iff.1 ho).1
  have hAl : A.length = ops.size := by rw [trOps_length hA]; simp
  have hAj : A[j]? = some A[j] := List.getElem?_eq_getElem (by omega)
  have hio : (itm ops A j).o = A[j] := by simp [itm, hAj]
  obtain ⟨o', ho, htr⟩ := trOps_get hA hAj
  have ho : ops[j]? = some o' := by simpa using ho
  rw [← hio] at htr
  obtain ⟨hd, ⟨mu, hp⟩, hgr⟩ := trOper_spec htr
  have hii : (itm ops A j).i = j := rfl
  have hsame : ∀ {D'}, (∀ D1, D' = some D1 → D = some D1) → Inv m D' (l'.map (itm ops A)) st H := fun {D'} hD D1 h1 => by
    obtain ⟨g1, g2⟩ := hinv D1 (hD D1 h1)
    refine ⟨g1, fun it hit => g2 it ?_⟩
    obtain ⟨i, hi, rfl⟩ := List.mem_map.1 hit
    exact List.mem_map.2 ⟨i, hsub i hi, rfl⟩
  have hnx : ∀ D1, nx D (itm ops A j) = some D1 → D = some D1 ∧ (itm ops A j).tail = false := by
    intro D1 h; unfold nx at h; split at h
    · cases h
    · rename_i ht; exact ⟨h, by simpa using ht⟩
  have hstep : ∀ {st' : St} {w' : World} {H' : AHeap}, Ext st w st' w' → RelH st' w' H' → Keep D (itm ops A j) H H' → Inv m (nx D (itm ops A j)) (l'.map (itm ops A)) st' H' := by
    intro st' w' H' hext hH' hkeep D1 h1
    obtain ⟨h2, h3⟩ := hnx D1 h1
    subst h2
    simp only [Keep, h3, Bool.false_eq_true, false_or] at hkeep
    obtain ⟨g1, g2⟩ := hinv D1 rfl
    refine ⟨hkeep.1, fun it hit z hz => ?_⟩
    obtain ⟨i, hi, rfl⟩ := List.mem_map.1 hit
    obtain ⟨id, f1, f2, f3, f4⟩ := g2 _ (List.mem_map.2 ⟨i, hsub i hi, rfl⟩) z hz
    have hnw : (itm ops A j).ws.contains i = false := by
      cases hc : (itm ops A j).ws.contains i with
      | false => rfl
      | true =>
        have := ws_waits (ops := ops) (A := A) (j := j) hc
        rw [not_waits hj (hun i hi)] at this; cases this
    have hX : H'[id]? = some (.own 0 (z.map .lit)) := by rw [hkeep.2.get f1 hnw]; exact f3
    exact ⟨id, f1, f2, hX, virt_keep hext hH' f4 hX⟩
  have hstepV : ∀ {st' : St} {w' : World} {D' : Option DM}, (∀ D1, D' = some D1 → D = some D1) → Ext st w st' w' → RelH st' w' H → Inv m D' (l'.map (itm ops A)) st' H := by
    intro st' w' D' hD hext hH' D1 h1
    obtain ⟨g1, g2⟩ := hsame hD D1 h1
    refine ⟨g1, fun it hit z hz => ?_⟩
    obtain ⟨id, f1, f2, f3, f4⟩ := g2 it hit z hz
    exact ⟨id, f1, f2, f3, virt_keep hext hH' f4 f3⟩
  have hwant : ∀ b, gOk e (itm ops A j).o.grd = some b → Region.wanted o' (yielded ops a.tmps) = b := fun b hg => wanted_of hrel hgr hg
  have skip : gOk e (itm ops A j).o.grd = some false → (∀ a', Rel cx st0 w0 st w (put e (itm ops A j).o.dst (.lit undef)) H a' → Kc a' w) → wpOpIn (Fc cx.ro) 0 cx.P ops Q j Kc a w := by
    intro hg hkc
    simp only [wpOpIn, ho]
    rw [if_neg (by rw [hwant _ hg]; simp)]
    exact ⟨fun _ _ => trivial, hkc _ (hrel.put (.refl _ _) hrel.hH hd relLit)⟩
  have run : gOk e (itm ops A j).o.grd = some true → o'.uponIn (Fc cx.ro) 0 cx.P a Kc Q ((execOp a.eval o').run cx.P w) → wpOpIn (Fc cx.ro) 0 cx.P ops Q j Kc a w := by
    intro hg hu
    simp only [wpOpIn, ho]
    rw [if_pos (hwant _ hg)]
    exact ⟨fun _ _ => trivial, by rw [Oper.semAt_eq _ _ _ (trOp_noDefer hp)]; exact hu⟩
  have viaStep : ∀ {r : AV} {H' : AHeap}, StepV cx.P a.eval o' st w r H' → (∀ st' w' a', Ext st w st' w' → RelH st' w' H' → Rel cx st0 w0 st' w' (put e (itm ops A j).o.dst r) H' a' → Kc a' w') → o'.uponIn (Fc cx.ro) 0 cx.P a Kc Q ((execOp a.eval o').run cx.P w) := by
    intro r H' hsv hkc
    obtain ⟨v, w', st', hrun, hext, hH', hr⟩ := hsv
    rcases hrun with hrun | ⟨hrun, rfl⟩
    · rw [hrun]; simp only [Oper.uponIn]
      exact hkc st' w' _ hext hH' (hrel.put hext hH' hd hr)
    · rw [hrun]; simp only [Oper.uponIn]
      exact hkc st' w' _ hext hH' (hrel.put hext hH' hd hr)
  unfold JStep at hs
  split at hs
  · cases D with
    | none => exact hs.elim
    | some D' =>
      simp only at hs
      obtain ⟨r, hr, hK⟩ := hs
      unfold MVal at hr
      split at hr
      · rename_i hg
        simp only [Option.some.injEq] at hr; subst hr
        exact skip hg fun a' hr' => hk _ _ _ _ _ _ hr' (hsame fun _ h => h) hK
      · rename_i hg
        split at hr
        · rename_i z hz
          obtain ⟨id, hid, rfl⟩ := Option.map_eq_some_iff.1 hr
          obtain ⟨g1, g2⟩ := hinv D' rfl
          obtain ⟨id', f1, f2, f3, f4⟩ := g2 _ (List.mem_map.2 ⟨j, hjl, rfl⟩) z hz
          have : id = id' := by rw [hii] at hid f1; rw [hid] at f1; exact Option.some.inj f1
          subst this
          rw [hz] at hp
          obtain ⟨t, hop, hzr⟩ := trOp_new hp
          obtain ⟨i, zv, hi, hzv, rfl, hsc⟩ := zrT_spec hzr
          obtain ⟨h1, h2⟩ := fill_new hrel.hH f4 zv.cells t hsc f3 hrel.ext (by omega)
          have hrun : (execOp a.eval o').run cx.P w = .ok (.value (.pointer (some ⟨w.heap.size, 0, none⟩))) (w.alloc (.cells zv.cells t)) := by
            simp [execOp, hop, Instr.alloc, zeroValue, typeInfo, hi, hzv, newVar, newRow]
          refine run hg ?_
          rw [hrun]; simp only [Oper.uponIn]
          have hrel2 : Rel cx st0 w0 (st.fill id ⟨0, some (w.heap.size, 0, zv.cells.size)⟩) (w.alloc (.cells zv.cells t)) e H a :=
            ⟨h2, h1, fun t => (hrel.l t).fill f4, fun t => (hrel.g t).fill f4, hrel.kl, hrel.kg, hrel.n, hrel.d⟩
          have hptr : RelV (st.fill id ⟨0, some (w.heap.size, 0, zv.cells.size)⟩) (.mp id 0 0) (.pointer (some ⟨w.heap.size, 0, none⟩)) := by
            simp only [RelV]
            refine ⟨⟨0, some (w.heap.size, 0, zv.cells.size)⟩, by simp [St.fill, (List.getElem?_eq_some_iff.1 f4).1], Nat.le_refl _, fun h => absurd h (Nat.lt_irrefl _), fun _ => ⟨_, _, _, rfl, rfl⟩⟩
          refine hk _ _ _ _ _ _ (hrel2.put (.refl _ _) h1 hd hptr) ?_ hK
          intro D1 h3
          obtain ⟨g3, g4⟩ := hsame (D' := some D') (fun _ h => h) D1 h3
          refine ⟨g3, fun it hit z' hz' => ?_⟩
          obtain ⟨id', e1, e2, e3, e4⟩ := g4 it hit z' hz'
          refine ⟨id', e1, e2, e3, ?_⟩
          obtain ⟨i', hi', rfl⟩ := List.mem_map.1 hit
          simp only [Option.some.injEq] at h3; subst h3
          have hne' : id ≠ id' := by
            intro he; subst he
            exact hne i' hi' (posOf_inj e1 f1)
          simp only [St.fill]; rw [List.getElem?_set_ne hne']; exact e4
        · have hv := opVal_sub (hinv D' rfl).1 hr
          refine run hg (viaStep (opVal_sound (fun a => rfl) hp hrel.ops hrel.hH hv) fun st' w' a' hext hH' hr' => hk _ _ _ _ _ _ hr' (hstepV (fun _ h => h) hext hH') hK)
      · cases hr
  · split at hs
    · exact hs.elim
    · rename_i hg
      exact skip hg fun a' hr' => hk _ _ _ _ _ _ hr' (hsame fun D1 h => (hnx D1 h).1) hs
    · rename_i hg
      split at hs
      · rename_i f xs hop
        obtain ⟨fid, caps, hf, hcalls⟩ := hs
        rw [hop] at hp
        exact run hg (call_run hrel hp hf hcalls hd fun st' w' a' r H' hext hH' hr' hK => hk _ _ _ _ _ _ hr' (hstep hext hH' hK.1) hK.2)
      · obtain ⟨r, H', hact, hkeep, hK⟩ := hs
        exact run hg (viaStep (opAct_sound hp hrel.ops hrel.hH hact) fun st' w' a' hext hH' hr' => hk _ _ _ _ _ _ hr' (hstep hext hH' hkeep) hK)

theorem draw_any (hA : trOps cx ops ops.toList = some A) {Q : Exit → Act → World → Prop} {st0 : St} {w0 : World} {kc : List CItm} (hm : st0.loc.length = m) (hkc : TrK cx st0 w0 k kc)
    (hn : ∀ a' w', GoK cx.P cx.ro kc (fun a' w' => ∃ st' e' H', Rel cx st0 w0 st' w' e' H' a' ∧ R e' H') a' w' → Q .normal a' w') :
    ∀ (n : Nat) {l : List Nat} {listed : Array Bool} {D : Option DM} {e : Env} {H : AHeap}, l.length ≤ n → Cl ops listed → Valid ops A listed l → DGo cx m k R D (l.map (itm ops A)) e H →
      ∀ st a w, Rel cx st0 w0 st w e H a → Inv m D (l.map (itm ops A)) st H → wpAnyIn (Fc cx.ro) 0 cx.P .any ops Q n listed a w := by
  have hAl : A.length = ops.size := by rw [trOps_length hA]; simp
  have done : ∀ {D : Option DM} {e : Env} {H : AHeap}, DGo cx m k R D [] e H → ∀ st a w, Rel cx st0 w0 st w e H a → Q .normal a w := by
    intro D e H hg st a w hr
    simp only [DGo] at hg
    exact hn _ _ (hg st0 w0 kc hm hkc st a w ⟨hr.ext, hr.hH, fun t => by simp only [look, RelV], hr.g, fun t _ => rfl, hr.kg, hr.n, hr.d⟩)
  intro n
  induction n with
  | zero =>
    intro l listed D e H hl _ hv hg st a w hr hinv
    have : l = [] := List.length_eq_zero_iff.1 (by omega)
    subst this
    cases hv with
    | nil h => exact ⟨h, done hg st a w hr⟩
  | succ n ih =>
    intro l listed D e H hl hcl hv hg st a w hr hinv
    refine ⟨fun hnil => ?_, fun j hj => ?_⟩
    · cases hv with
      | nil h => exact done hg st a w hr
      | mov h1 _ _ _ => rw [hnil] at h1; cases h1
      | one h1 _ => rw [hnil] at h1; cases h1
    · obtain ⟨l', g1, g2, g3, g4, g5⟩ := pull hAl hcl hv hg hj
      have hun := hv.unlisted
      refine jstep_sound hA hj g1 g2 (fun i hi => hun i (g2 i hi)) (fun i hi he => ?_) hm hr hinv g5 fun D' r H' st' w' a' hr' hinv' hK => ih (by omega) (hcl.step hj) g4 hK st' a' w' hr' hinv'
      subst he
      have := g4.unlisted i hi
      rw [getD_set_self] at this; cases this
end

theorem canonGo_len {ops : Array Oper} {A : List AOper} : ∀ {n : Nat} {listed : Array Bool} {l : List Nat}, canonGo ops A n listed = some l → l.length ≤ n
  | 0, listed, l, h => by
    simp only [canonGo] at h
    split at h
    · simp only [Option.some.injEq] at h; subst h; simp
    · cases h
  | n + 1, listed, l, h => by
    simp only [canonGo] at h
    split at h
    · split at h
      · split at h
        · rename_i l' hl'
          simp only [Option.some.injEq] at h; subst h
          have := canonGo_len hl'; simp; omega
        · cases h
      · cases h
    · split at h
      · simp only [Option.some.injEq] at h; subst h; simp
      · split at h
        · rename_i l' hl'
          simp only [Option.some.injEq] at h; subst h
          have := canonGo_len hl'; simp; omega
        · cases h
      · cases h

/-! ### The rule -/
def newsOf : List DItm → List (Nat × List Value)
  | [] => []
  | ⟨⟨_, .new z, _⟩, i, _, _⟩ :: l => (i, z) :: newsOf l
  | _ :: l => newsOf l

/-- the places that are kept for the new variables -/
def kept (l : List DItm) : AHeap := (newsOf l).map fun p => .own 0 (p.2.map .lit)

theorem push_nones {st : St} {w : World} : ∀ (zs : List (Nat × List Value)) {H : AHeap}, RelH st w H → ∃ st', Ext st w st' w ∧ RelH st' w (H ++ zs.map fun p => .own 0 (p.2.map .lit)) ∧ ∀ k, k < zs.length → st'.loc[H.length + k]? = some ⟨0, none⟩
  | [], H, h => ⟨st, .refl _ _, by simpa using h, fun k hk => absurd hk (Nat.not_lt_zero _)⟩
  | z :: zs, H, h => by
    obtain ⟨h1, h2, h3⟩ := push_none h (z.2.map .lit)
    obtain ⟨st', g1, g2, g3⟩ := push_nones zs h2
    refine ⟨st', h1.trans g1, by simpa using g2, fun k hk => ?_⟩
    cases k with
    | zero =>
      exact virt_keep (cs := z.2.map .lit) g1 g2 h3 (by simp)
    | succ k =>
      have := g3 k (by simp at hk; omega)
      rw [← this]; congr 1; simp; omega

theorem newsOf_cons {it : DItm} {l : List DItm} : (∃ z, it.o.op = .new z ∧ newsOf (it :: l) = (it.i, z) :: newsOf l) ∨ ((∀ z, it.o.op ≠ .new z) ∧ newsOf (it :: l) = newsOf l) := by
  obtain ⟨⟨d, op, g⟩, i, t, ws⟩ := it
  cases op <;> first | (left; exact ⟨_, rfl, rfl⟩) | (right; exact ⟨fun z h => (by cases h), rfl⟩)

theorem newsOf_pos {ops : Array Oper} {A : List AOper} : ∀ {l : List Nat} (b : Nat) {i : Nat} {z : List Value}, i ∈ l → (itm ops A i).o.op = .new z →
    ∃ k, posOf ((newsOf (l.map (itm ops A))).map (·.1)) b i = some (b + k) ∧ (newsOf (l.map (itm ops A)))[k]? = some (i, z)
  | [], b, i, z, h, _ => by cases h
  | x :: l, b, i, z, h, hz => by
    rw [List.map_cons]
    rcases newsOf_cons (it := itm ops A x) (l := l.map (itm ops A)) with ⟨z', h1, h2⟩ | ⟨h1, h2⟩
    · rw [h2]
      have hx : (itm ops A x).i = x := rfl
      by_cases hxi : x = i
      · subst hxi
        rw [h1] at hz; cases hz
        exact ⟨0, by simp [posOf, hx], by simp [hx]⟩
      · have hi : i ∈ l := by
          rcases List.mem_cons.1 h with rfl | h
          · exact absurd rfl hxi
          · exact h
        obtain ⟨k, g1, g2⟩ := newsOf_pos (b + 1) hi hz
        refine ⟨k + 1, ?_, by simpa using g2⟩
        simp only [List.map_cons, posOf, hx, if_neg hxi, g1]
        congr 1; omega
    · rw [h2]
      have hi : i ∈ l := by
        rcases List.mem_cons.1 h with rfl | h
        · exact absurd hz (h1 z)
        · exact h
      exact newsOf_pos b hi hz

theorem AGo_draw {cx : Cx} {m : Nat} {k : List AItm} {R : Env → AHeap → Prop} {e : Env} {H : AHeap} {L : List DItm} (M : AHeap) (hM : SubH M (H ++ kept L))
    (h : DGo cx m k R (some ⟨M, H.length, (newsOf L).map (·.1)⟩) L e (H ++ kept L)) : AGo cx m (.code (.draw L) :: k) R e H := by
  refine AGo_code fun c Q st0 w0 kc hm hk ht hn hx hr st a w hrel => ?_
  cases c <;> (try simp only [trCode] at ht)
  case region id ops d =>
    cases d <;> simp only [trCode] at ht
    · obtain ⟨_, _, h'⟩ := Option.map_eq_some_iff.1 ht; cases h'
    · obtain ⟨L', hL, h'⟩ := Option.map_eq_some_iff.1 ht
      cases h'
      unfold canon at hL
      split at hL
      · rename_i A hA
        split at hL
        · rename_i hmx
          split at hL
          · rename_i l hl
            obtain ⟨rfl, hlt⟩ := pickA_spec hL
            refine wpIn_region_any hmx ?_
            have hrel1 : RelH st { w with drawn := w.drawn + 1 } H := hrel.hH.drawn _
            obtain ⟨st', g1, g2, g3⟩ := push_nones (newsOf (l.map (itm ops A))) hrel1
            have hrel2 : Rel cx st0 w0 st' { w with drawn := w.drawn + 1 } e (H ++ kept (l.map (itm ops A))) a :=
              ⟨(hrel.ext.trans (Ext.drawn st w _)).trans g1, g2, fun t => (hrel.l t).mono g1.le, fun t => (hrel.g t).mono g1.le, hrel.kl, hrel.kg, hrel.n, hrel.d⟩
            refine draw_any hA hm hk hn ops.size (canonGo_len hl) (fun k i hk hks => by simp [hks] at hk) (canonGo_valid hl) h st' a _ hrel2 fun D' hD => ?_
            cases hD
            refine ⟨hM, fun it hit z hz => ?_⟩
            obtain ⟨i, hi, rfl⟩ := List.mem_map.1 hit
            obtain ⟨p, h1, h2⟩ := newsOf_pos H.length hi hz
            have hplt := (List.getElem?_eq_some_iff.1 h2).1
            refine ⟨H.length + p, h1, ?_, ?_, g3 p hplt⟩
            · have : st0.loc.length ≤ st.loc.length := by
                rcases Nat.eq_zero_or_pos st0.loc.length with h0 | h0
                · omega
                · obtain ⟨l', e1, _⟩ := hrel.ext.le.loc (st0.loc.length - 1) _ (List.getElem?_eq_getElem (by omega))
                  have := (List.getElem?_eq_some_iff.1 e1).1
                  omega
              rw [hrel.hH.len, hm] at this; omega
            · rw [List.getElem?_append_right (by omega), Nat.add_sub_cancel_left]
              simp [kept, h2]
          · cases hL
        · cases hL
      · cases hL
  all_goals first | cases ht | (split at ht <;> cases ht) | (obtain ⟨_, _, h'⟩ := Option.map_eq_some_iff.1 ht; cases h')
end Go.Sas
