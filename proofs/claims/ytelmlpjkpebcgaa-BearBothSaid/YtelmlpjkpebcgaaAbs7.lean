/-
An abstract machine over values, part 7: the operations that write or make objects.
Conditions: none (lemmas over any program).
-/
import Derived.Test.YtelmlpjkpebcgaaAbs6
import Derived.Laws.CopyRow
set_option linter.unusedVariables false
set_option linter.unusedSimpArgs false
namespace Go.Sas
variable {P : Program} {K : List Nat} {mu : Bool} {st : St} {w : World} {H H' : AHeap} {ρ : Operand → Value} {e : Od → AV} {o : Oper} {ao : AOp} {r : AV}

theorem frozen?_setRow (w : World) (g : Nat) (cs : Array Value) (a : Addr) : (w.setRow g cs).frozen? a = w.frozen? a := by
  unfold World.frozen?
  by_cases h : a.block = g
  · rcases hx : w.heap[g]? with _ | x
    · have : (w.setRow g cs).heap[g]? = none := by
        rw [Array.getElem?_eq_none_iff] at hx ⊢; simpa using hx
      rw [h, this, hx]
    · have hlt : g < w.heap.size := (Array.getElem?_eq_some_iff.1 hx).1
      cases x
      case cells c t fr => rw [h, setRow_heap w g c cs t fr hx, hx]
      all_goals
        have : (w.setRow g cs).heap[g]? = w.heap[g]? := by
          unfold World.setRow
          simp only [Array.getElem?_modify]
          simp [hx]
        rw [h, this]
  · rw [setRow_other w g a.block cs h]

theorem splice_get {us arr xs : List Value} {o off : Nat} (h : ∀ (i : Nat) (c : Value), us[i]? = some c → arr[o + i]? = some c) (hl : off + xs.length ≤ us.length) (ha : o + us.length ≤ arr.length) :
    ∀ (i : Nat) (c : Value), (us.take off ++ xs ++ us.drop (off + xs.length))[i]? = some c → (arr.take (o + off) ++ xs ++ arr.drop (o + off + xs.length))[o + i]? = some c := by
  intro i c hi
  have l1 : (us.take off).length = off := by simp; omega
  have l2 : (arr.take (o + off)).length = o + off := by simp; omega
  rw [List.append_assoc] at hi ⊢
  rcases Nat.lt_or_ge i off with h1 | h1
  · rw [List.getElem?_append_left (by omega), List.getElem?_take_of_lt h1] at hi
    rw [List.getElem?_append_left (by omega), List.getElem?_take_of_lt (by omega)]
    exact h i c hi
  · rw [List.getElem?_append_right (by omega), l1] at hi
    rw [List.getElem?_append_right (by omega), l2, show o + i - (o + off) = i - off by omega]
    rcases Nat.lt_or_ge (i - off) xs.length with h2 | h2
    · rw [List.getElem?_append_left h2] at hi ⊢; exact hi
    · rw [List.getElem?_append_right h2] at hi ⊢
      rw [List.getElem?_drop] at hi ⊢
      have := h _ c hi
      rw [← this]; congr 1; omega

/-- a row of cells is written into an object -/
theorem write_own (hH : RelH st w H) {id g : Nat} {cs xs : List AV} {vs : List Value} {l : Loc} {b o r off : Nat} (hX : H[id]? = some (.own g cs)) (h1 : st.loc[id]? = some l) (hb : l.base = some (b, o, r))
    (hr : RelL st xs vs) (hs : ∀ v ∈ vs, Scal v) (hle : off + xs.length ≤ cs.length) :
    ∃ st' w', (storeCells ⟨b, o + off, none⟩ vs).run P w = .ok () w' ∧ Ext st w st' w' ∧ RelH st' w' (H.set id (.own g (cs.take off ++ xs ++ cs.drop (off + xs.length)))) ∧ st'.loc[id]? = some l ∧ st.le st' := by
  have hob := hH.obj id l _ h1 hX
  simp only [ObjOk] at hob
  obtain ⟨hg, hob⟩ := hob
  obtain ⟨arr, T, us, ha, ho1, ho2, ho3, ho4, ho5⟩ := hob b o r hb
  have hlen := ho3.length
  have hlv := hr.length
  have hrun := run_storeCells_at (P := P) b (o + off) T vs 0 arr w ha (by omega) (fun v hv => oneCell_of_scal (hs v hv))
  simp only [Nat.add_zero] at hrun
  obtain ⟨hext, hrel, hl⟩ := rel_upd hH (l' := l) (X' := .own g (cs.take off ++ xs ++ cs.drop (off + xs.length))) (w' := w.setRow b (arr.toList.take (o + off) ++ vs ++ arr.toList.drop (o + off + vs.length)).toArray) h1 hX (Nat.le_refl _) (fun _ => rfl) (by simp)
    (fun b' hb' hne => setRow_other w b b' _ (fun he => hne o r (he ▸ hb))) rfl rfl (frozen?_setRow _ _ _) (fun b' o' r' h => .inl ⟨o', r', h⟩) (fun st' hst' => by
      simp only [ObjOk]
      refine ⟨hg, fun b' o' r' h => ?_⟩
      rw [hb] at h; cases h
      refine ⟨_, T, us.take off ++ vs ++ us.drop (off + vs.length), setRow_heap w b arr _ T (0, 0) ha, by simp; omega, by simp; omega, ?_, ?_, ?_⟩
      · rw [hlv]; exact (((ho3.mono hst').take off).append (hr.mono hst')).append ((ho3.mono hst').drop _)
      · intro u hu
        simp only [List.mem_append] at hu
        rcases hu with (hu | hu) | hu
        · exact ho4 u (List.mem_of_mem_take hu)
        · exact hs u hu
        · exact ho4 u (List.mem_of_mem_drop hu)
      · intro i c hi
        have := splice_get (arr := arr.toList) (o := o) (fun i c h => by simpa using ho5 i c h) (by omega) (by simp; omega) i c hi
        simpa using this)
  exact ⟨_, _, hrun, hext, hrel, hl, hext.le⟩

theorem mp_new {st' : St} {n b room : Nat} (h : st'.loc[n]? = some ⟨0, some (b, 0, room)⟩) : RelV st' (.mp n 0 0) (.pointer (some ⟨b, 0, none⟩)) := by
  simp only [RelV]
  exact ⟨_, h, Nat.le_refl _, fun h => absurd h (Nat.lt_irrefl _), fun _ => ⟨b, 0, room, rfl, rfl⟩⟩

theorem new_sound {t : TypeId} (hop : o.op = .alloc t) (htr : trOp P K mu o = some ao) (hH : RelH st w H) (hv : opAct e H ao = some (r, H')) : StepV P ρ o st w r H' := by
  simp only [trOp, hop] at htr
  split at htr
  · rename_i z hz
    split at htr
    · cases htr
    · simp only [Option.some.injEq] at htr; subst htr
      simp only [opAct, Option.some.injEq, Prod.mk.injEq] at hv
      obtain ⟨rfl, rfl⟩ := hv
      obtain ⟨i, zv, hi, hzv, rfl, hs⟩ := zrT_spec hz
      obtain ⟨hext, hrel, hl⟩ := push_own hH (RelL.lits (st := st) zv.cells.toList) hs zv.cells t zv.cells.size (Nat.le_refl _) (by simp) (fun i c h => by simpa using h)
      exact ⟨_, _, _, .inl (by simp [execOp, hop, Instr.alloc, zeroValue, typeInfo, hi, hzv, newVar, newRow]), hext, hrel, mp_new hl⟩
  · cases htr

theorem box_sound {t : TypeId} {x : Operand} (hop : o.op = .box t x) (htr : trOp P K mu o = some ao) (hρ : RelO st K e ρ) (hH : RelH st w H) (hv : opAct e H ao = some (r, H')) : StepV P ρ o st w r H' := by
  simp only [trOp, hop] at htr
  obtain ⟨y, hy, rfl⟩ := od_map htr
  simp only [opAct] at hv
  split at hv
  · rename_i cs hcs
    simp only [Option.some.injEq, Prod.mk.injEq] at hv
    obtain ⟨rfl, rfl⟩ := hv
    obtain ⟨h1, h2⟩ := (hρ x y hy).cells hcs
    have hl := h1.length
    obtain ⟨hext, hrel, hl⟩ := push_own hH h1 h2 (ρ x).cells t (ρ x).cells.size (Nat.le_refl _) (by simp at hl; omega) (fun i c h => by simpa using h)
    exact ⟨_, _, _, .inl (by simp [execOp, hop, Instr.box, newVar, newRow]), hext, hrel, mp_new hl⟩
  · cases hv

theorem st_sound {t : TypeId} {a v : Operand} (hop : o.op = .store t a v) (htr : trOp P K mu o = some ao) (hρ : RelO st K e ρ) (hH : RelH st w H) (hv : opAct e H ao = some (r, H')) : StepV P ρ o st w r H' := by
  simp only [trOp, hop] at htr
  split at htr
  · rename_i n a' v' hn ha hv'
    simp only [Option.some.injEq] at htr; subst htr
    simp only [opAct] at hv
    split at hv
    · rename_i id g off xs he hxs
      split at hv
      · rename_i g' cs hX
        split at hv
        · rename_i hc
          obtain ⟨rfl, hxn, hle⟩ := hc
          simp only [Option.some.injEq, Prod.mk.injEq] at hv
          obtain ⟨rfl, rfl⟩ := hv
          have haa := hρ a a' ha
          rw [he] at haa
          obtain ⟨l, b, o', r', h1, h2, h3, h4⟩ := relV_mp_live hH (live_of_own hX) haa
          obtain ⟨h5, h6⟩ := (hρ v v' hv').cells hxs
          obtain ⟨st', w', h7, h8, h9, _, _⟩ := write_own (P := P) (off := off) hH hX h1 h3 h5 h6 (by omega)
          have hl := h5.length
          have hsz : (ρ v).cells.size = n := by simp at hl; omega
          refine ⟨undef, w', st', .inr ⟨?_, rfl⟩, h8, by rw [hxn] at h9; exact h9, relLit⟩
          simp [execOp, hop, Instr.storeAt, h4, Instr.sureAddr, storeVar, run_sizeOf' hn, hsz, h7]
        · cases hv
      · cases hv
    · cases hv
  · cases htr

/-! ### What a slice shows -/
theorem cells_flat {sz : Nat} : ∀ {es : List AV} {us : List Value} {xs : List AV}, RelL st es us → es.foldr (fun e acc => match e.cells, acc with | some cs, some r => some (cs ++ r) | _, _ => none) (some []) = some xs →
    RelL st xs (flat us) ∧ ∀ c ∈ flat us, Scal c
  | [], us, xs, h, hx => by
    simp only [RelL] at h; subst h
    simp at hx; subst hx
    exact ⟨by simp [flat, RelL], by simp [flat]⟩
  | a :: es, us, xs, h, hx => by
    obtain ⟨u, us', rfl, h1, h2⟩ := h.uncons
    simp only [List.foldr_cons] at hx
    split at hx
    · rename_i cs r hcs hr
      simp only [Option.some.injEq] at hx; subst hx
      obtain ⟨h3, h4⟩ := cells_flat (sz := sz) h2 hr
      obtain ⟨h5, h6⟩ := h1.cells hcs
      simp only [flat, List.flatMap_cons] at h3 h4 ⊢
      exact ⟨h5.append h3, fun c hc => (List.mem_append.1 hc).elim (h6 c) (h4 c)⟩
    · cases hx

theorem sl_cells {sz : Nat} {a : AV} {v : Value} {xs : List AV} {n : Nat} (hH : RelH st w H) (ha : RelV st a v) (hx : cellsOfSl H sz a = some xs) (hn : lenOfSl a = some n) :
    ∃ (base : Option Addr) (cap : Nat) (us : List Value), v = .slice base n cap ∧ n ≤ cap ∧ RelL st xs us ∧ (∀ u ∈ us, Scal u) ∧ us.length = n * sz ∧
      (∀ (w' : World), w'.heap = w.heap → ∀ m, m ≤ n → (Builtin.firstCells sz m v).run P w' = .ok (us.take (m * sz)).toArray w') := by
  have ldm : ∀ (w' : World) (b o m : Nat) (us : List Value), w'.heap = w.heap → us.length = n * sz → m ≤ n → (∀ i c, us[i]? = some c → w.cell? ⟨b, o + i, none⟩ = some c) → (loadCells ⟨b, o, none⟩ (m * sz)).run P w' = .ok (us.take (m * sz)).toArray w' := by
    intro w' b o m us hw hl hm hc
    have h := run_loadCells_list (P := P) w' ⟨b, o, none⟩ (us.take (m * sz)) (fun j v hv => by
      have hj : j < m * sz := by
        rcases Nat.lt_or_ge j (m * sz) with h | h
        · exact h
        · rw [List.getElem?_eq_none (by simp; omega)] at hv; cases hv
      rw [List.getElem?_take_of_lt hj] at hv
      rw [addr_add]; have := hc j v hv; unfold World.cell? at this ⊢; rw [hw]; exact this)
    have : (us.take (m * sz)).length = m * sz := by simp; rw [hl]; exact Nat.min_eq_left (Nat.mul_le_mul_right _ hm)
    rw [this] at h; exact h
  unfold cellsOfSl at hx
  split at hx
  · rename_i sz' es
    split at hx
    · rename_i hs; subst hs
      simp only [lenOfSl, Option.some.injEq] at hn; subst hn
      simp only [RelV] at ha
      obtain ⟨a', cap, us, rfl, hc, h2, h3, h4⟩ := ha
      obtain ⟨h5, h6⟩ := cells_flat (sz := sz) (h2.mono st.pure_le) hx
      have hfl : (flat us).length = es.length * sz := by rw [flat_length h3, h2.length]
      refine ⟨a', cap, flat us, rfl, hc, h5, h6, hfl, fun w' hw m hm => ?_⟩
      by_cases he : es = []
      · subst he
        have hm0 : m = 0 := by simpa using hm
        subst hm0
        cases a' <;> simp [Builtin.firstCells, loadCells, loadCellsFrom]
      · obtain ⟨b, o', rfl, h7⟩ := h4 he
        exact ldm w' b o' m (flat us) hw hfl hm (rd_cells hH h7).2
    · cases hx
  · rename_i sz' id g off len
    split at hx
    · rename_i g' cs hX
      split at hx
      · rename_i hc
        obtain ⟨rfl, rfl, hle⟩ := hc
        simp only [Option.some.injEq] at hx; subst hx
        simp only [lenOfSl, Option.some.injEq] at hn; subst hn
        obtain ⟨l, a', cap, h1, h2, rfl, h3, h4⟩ := relV_ms_live hH (live_of_own hX) ha
        by_cases hcap : 0 < cap
        · obtain ⟨b, o', r', h5, rfl, h6⟩ := h4 hcap
          obtain ⟨us, h7, h8, h9⟩ := own_cells hH hX h1 h5
          have hul := h7.length
          have hl2 : ((us.drop off).take (len * sz)).length = len * sz := by simp; omega
          refine ⟨_, cap, (us.drop off).take (len * sz), rfl, h3, (h7.drop off).take _, fun u hu => h8 u (List.mem_of_mem_drop (List.mem_of_mem_take hu)), hl2, fun w' hw m hm => ?_⟩
          exact ldm w' b (o' + off) m _ hw hl2 hm (fun i c hi => by
            have hj : i < len * sz := by
              rcases Nat.lt_or_ge i (len * sz) with h | h
              · exact h
              · rw [List.getElem?_eq_none (by omega)] at hi; cases hi
            rw [List.getElem?_take_of_lt hj, List.getElem?_drop] at hi
            rw [Nat.add_assoc]; exact h9 _ c hi)
        · have hl0 : len = 0 := by omega
          subst hl0
          refine ⟨a', cap, [], rfl, by omega, by simp [RelL], by simp, by simp, fun w' hw m hm => ?_⟩
          have hm0 : m = 0 := by omega
          subst hm0
          cases a' <;> simp [Builtin.firstCells, loadCells, loadCellsFrom]
      · cases hx
    · cases hx
  · simp only [Option.some.injEq] at hx; subst hx
    simp only [lenOfSl, Option.some.injEq] at hn; subst hn
    simp only [RelV] at ha
    obtain ⟨a', rfl⟩ := ha
    refine ⟨a', 0, [], rfl, Nat.le_refl _, by simp [RelL], by simp, by simp, fun w' hw m hm => ?_⟩
    have hm0 : m = 0 := by omega
    subst hm0
    cases a' <;> simp [Builtin.firstCells, loadCells, loadCellsFrom]
  · simp only [Option.some.injEq] at hx; subst hx
    simp only [lenOfSl, Option.some.injEq] at hn; subst hn
    simp only [RelV] at ha
    subst ha
    refine ⟨none, 0, [], rfl, Nat.le_refl _, by simp [RelL], by simp, by simp, fun w' hw m hm => ?_⟩
    simp [Builtin.firstCells]
  · cases hx

/-! ### append -/
theorem growBy_le (N : Nat) (hN : 256 ≤ N) : ∀ (k c : Nat), c ≤ 2 * N → Builtin.growBy N k c ≤ 2 * N
  | 0, c, h => by simpa [Builtin.growBy] using h
  | k + 1, c, h => by
    simp only [Builtin.growBy]
    split
    · exact h
    · exact growBy_le N hN k _ (by omega)
theorem nextslicecap_le {N c : Nat} (h : c < N) : Builtin.nextslicecap N c ≤ 2 * N := by
  unfold Builtin.nextslicecap
  split
  · omega
  · split
    · omega
    · exact growBy_le N (by omega) 4 c (by omega)

theorem zeroCells_scal {z : Array Value} (hz : ∀ u ∈ z.toList, Scal u) (hpos : z.size ≠ 0) (n : Nat) : ∀ u ∈ (Builtin.zeroCells z n).toList, Scal u := by
  intro u hu
  simp only [Builtin.zeroCells, Array.toList_map, List.mem_map] at hu
  obtain ⟨i, _, rfl⟩ := hu
  have hlt : i % z.size < z.size := Nat.mod_lt _ (by omega)
  rw [getElem!_pos z (i % z.size) hlt]
  exact hz _ (Array.getElem_mem_toList hlt)

theorem byT_spec {t : TypeId} {n : Nat} (h : byT P t = some n) : ∃ i, P.info? t = some i ∧ i.bytes = n := by
  unfold byT at h
  obtain ⟨i, hi, hn⟩ := Option.map_eq_some_iff.1 h
  exact ⟨i, hi, hn⟩

/-- what 'append' does, told by the cells that it shows -/
theorem append_run {ts tx ty e' ex : TypeId} {sz by_ : Nat} {z : List Value} {base bx : Option Addr} {len cap n capx : Nat} {old new : List Value}
    (hts : P.underlying ts = some (.slice e')) (htx : P.underlying tx = some (.slice ex)) (hsz : szT P e' = some sz) (hby : byT P e' = some (by_ + 1)) (hz : zrT P e' = some z)
    (hold : ∀ d, (Builtin.firstCells sz len (.slice base len cap)).run P { w with drawn := d } = .ok old.toArray { w with drawn := d }) (hnew : ∀ d, (Builtin.firstCells sz n (.slice bx n capx)).run P { w with drawn := d } = .ok new.toArray { w with drawn := d })
    (hbound : (len + n) * (by_ + 1) ≤ 140737488355328) :
    (len + n ≤ cap → (Builtin.append_ #[ts, tx] ty #[.slice base len cap, .slice bx n capx]).run P w =
      ((match (generalizing := false) base with | some a => storeCells (a.add (len * sz)) new | none => Pure.pure () : Sem Unit).run P w).andThen fun _ w' => .ok (.slice base (len + n) cap) w') ∧
    (cap < len + n → ∃ newCap d, len + n ≤ newCap ∧ (Builtin.append_ #[ts, tx] ty #[.slice base len cap, .slice bx n capx]).run P w =
      .ok (.slice (some ⟨w.heap.size, 0, none⟩) (len + n) newCap) (({ w with drawn := d } : World).alloc (.cells (old ++ new ++ (Builtin.zeroCells z.toArray (newCap - (len + n))).toList).toArray e'))) := by
  obtain ⟨i, zv, hi, hzv, rfl, _⟩ := zrT_spec hz
  obtain ⟨i', hi', hb⟩ := byT_spec hby
  rw [hi] at hi'; cases hi'
  have hnew0 : (Builtin.firstCells sz n (.slice bx n capx)).run P w = .ok new.toArray w := hnew w.drawn
  constructor
  · intro hle
    simp only [Builtin.append_]
    cases base <;> simp [run_underlying' hts, run_underlying' htx, run_sizeOf' hsz, Builtin.lenOf, hnew0, hle]
  · intro hlt
    have hneed : ¬ ((len : Int) + (n : Int)) > IntKind.i64.max := by
      have h1 : IntKind.i64.max = 9223372036854775807 := by decide
      have h2 : (len + n) * 1 ≤ (len + n) * (by_ + 1) := Nat.mul_le_mul_left _ (by omega)
      omega
    have hcap : ¬ Builtin.nextslicecap (len + n) cap * (by_ + 1) > 2 ^ 48 := by
      have h1 := nextslicecap_le hlt
      have h2 : Builtin.nextslicecap (len + n) cap * (by_ + 1) ≤ 2 * (len + n) * (by_ + 1) := Nat.mul_le_mul_right _ h1
      have h3 : 2 * (len + n) * (by_ + 1) = 2 * ((len + n) * (by_ + 1)) := Nat.mul_assoc _ _ _
      omega
    have hnle : ¬ len + n ≤ cap := by omega
    refine ⟨(Question.appendCap (len + n) cap e').cut (w.tape w.drawn (.appendCap (len + n) cap e')), w.drawn + 1, by simp only [Question.cut]; omega, ?_⟩
    generalize hN : (Question.appendCap (len + n) cap e').cut (w.tape w.drawn (.appendCap (len + n) cap e')) = N
    have hf : (Question.appendCap (len + n) cap e').forced = false := rfl
    have hold1 : (Builtin.firstCells sz len (.slice base len cap)).run P w.drew = .ok old.toArray w.drew := hold (w.drawn + 1)
    have hnew1 : (Builtin.firstCells sz n (.slice bx n capx)).run P w.drew = .ok new.toArray w.drew := hnew (w.drawn + 1)
    simp only [Builtin.append_]
    simp only [Sem.run_bind, run_underlying' hts, run_underlying' htx, run_sizeOf' hsz, Builtin.lenOf, Result.andThen_ok, List.getElem?_toArray, List.getElem?_cons_zero, List.getElem?_cons_succ]
    simp [hnle, hneed, hcap, typeInfo, hi, hb, hold1, hnew1, zeroValue, hzv, newRow, hf, hN]
    congr 2
    apply Array.ext'
    simp

theorem len_zeroCells (z : Array Value) (n : Nat) : (Builtin.zeroCells z n).size = n * z.size := by simp [Builtin.zeroCells]

/-- append to an object -/
theorem app_ms {ts tx ty e' ex : TypeId} {sz by_ n : Nat} {z : List Value} {id g off len : Nat} {cs xs : List AV} {vs vx : Value} {ax : AV}
    (hts : P.underlying ts = some (.slice e')) (htx : P.underlying tx = some (.slice ex)) (hsz : szT P e' = some (sz + 1)) (hby : byT P e' = some (by_ + 1)) (hz : zrT P e' = some z) (hzl : z.length = sz + 1)
    (hH : RelH st w H) (hs : RelV st (.ms (sz + 1) id g off len) vs) (hX : H[id]? = some (.own g cs)) (hle : off + len * (sz + 1) ≤ cs.length)
    (hx : RelV st ax vx) (hxs : cellsOfSl H (sz + 1) ax = some xs) (hn : lenOfSl ax = some n) (hbound : (len + n) * (by_ + 1) ≤ 140737488355328) :
    ∃ v w' st', (Builtin.append_ #[ts, tx] ty #[vs, vx]).run P w = .ok v w' ∧ Ext st w st' w' ∧ RelH st' w' (H.set id (.own (g + 1) ((cs.drop off).take (len * (sz + 1)) ++ xs))) ∧ RelV st' (.ms (sz + 1) id (g + 1) 0 (len + n)) v := by
  obtain ⟨bx, capx, ux, rfl, hcapx, hx1, hx2, hx3, hx4⟩ := sl_cells (P := P) hH hx hxs hn
  have hscells : cellsOfSl H (sz + 1) (.ms (sz + 1) id g off len) = some ((cs.drop off).take (len * (sz + 1))) := by simp [cellsOfSl, hX, hle]
  obtain ⟨base, cap, us, rfl, hcap, hs1, hs2, hs3, hs4⟩ := sl_cells (P := P) (n := len) hH hs hscells rfl
  have tk : ∀ (l : List Value) (m : Nat), l.length = m * (sz + 1) → l.take (m * (sz + 1)) = l := fun l m h => by rw [← h, List.take_length]
  obtain ⟨hin, hout⟩ := append_run (P := P) (w := w) (ty := ty) (base := base) (cap := cap) (bx := bx) (capx := capx) (old := us) (new := ux) hts htx hsz hby hz
    (fun d => by have := hs4 { w with drawn := d } rfl len (Nat.le_refl _); rw [tk us len hs3] at this; exact this)
    (fun d => by have := hx4 { w with drawn := d } rfl n (Nat.le_refl _); rw [tk ux n hx3] at this; exact this) hbound
  obtain ⟨l, a', cap', h1, h2, h3, h4, h5⟩ := relV_ms_live hH (live_of_own hX) hs
  cases h3
  have hxl := hx1.length
  have hsl := hs1.length
  have hob := hH.obj id l _ h1 hX
  simp only [ObjOk] at hob
  obtain ⟨hg, hob⟩ := hob
  have msrel : ∀ (st' : St) (l' : Loc) (a : Option Addr) (c : Nat), st'.loc[id]? = some l' → l'.g = g + 1 → len + n ≤ c → (0 < c → ∃ b o r, l'.base = some (b, o, r) ∧ a = some ⟨b, o + 0, none⟩ ∧ 0 + c * (sz + 1) ≤ r) → RelV st' (.ms (sz + 1) id (g + 1) 0 (len + n)) (.slice a (len + n) c) := by
    intro st' l' a c e1 e2 e3 e4
    simp only [RelV]
    exact ⟨l', e1, by omega, fun h => absurd h (by omega), fun _ => ⟨a, c, rfl, e3, e4⟩⟩
  by_cases hfit : len + n ≤ cap
  · have hrun := hin hfit
    by_cases hc0 : cap = 0
    · have hn0 : n = 0 := by omega
      have hl0 : len = 0 := by omega
      have hux : ux = [] := by rw [hn0] at hx3; simpa using hx3
      have hxs0 : xs = [] := by rw [hux] at hxl; simpa using hxl.symm
      subst hux; subst hxs0
      obtain ⟨e1, e2, e3⟩ := rel_upd hH (l' := ⟨g + 1, l.base⟩) (X' := .own (g + 1) ((cs.drop off).take (len * (sz + 1)) ++ [])) (w' := w) h1 hX (by simp; omega) (fun h => absurd h (by simp; omega)) (Nat.le_refl _) (fun _ _ _ => rfl) rfl rfl (fun _ => rfl) (fun b o r h => .inl ⟨o, r, h⟩) (fun st' hst' => by
        simp only [ObjOk]
        refine ⟨trivial, fun b o r hb => ?_⟩
        obtain ⟨arr, T, u, f1, f2, f3, f4, f5, f6⟩ := hob b o r hb
        exact ⟨arr, T, [], f1, f2, by simp [hl0], by simp [hl0, RelL], by simp, by simp⟩)
      refine ⟨_, w, _, ?_, e1, e2, msrel _ _ base cap e3 rfl hfit (fun h => absurd h (by omega))⟩
      rw [hrun]
      cases base <;> simp [storeCells]
    · obtain ⟨b, o, r, hb, rfl, hroom⟩ := h5 (by omega)
      obtain ⟨arr, T, u, f1, f2, f3, f4, f5, f6⟩ := hob b o r hb
      have hul := f4.length
      have hmul : (len + n) * (sz + 1) ≤ cap * (sz + 1) := Nat.mul_le_mul_right _ hfit
      have hmul2 : (len + n) * (sz + 1) = len * (sz + 1) + n * (sz + 1) := Nat.add_mul _ _ _
      have hst := run_storeCells_at (P := P) b (o + off + len * (sz + 1)) T ux 0 arr w f1 (by omega) (fun v hv => oneCell_of_scal (hx2 v hv))
      simp only [Nat.add_zero] at hst
      obtain ⟨e1, e2, e3⟩ := rel_upd hH (l' := ⟨g + 1, some (b, o + off, r - off)⟩) (X' := .own (g + 1) ((cs.drop off).take (len * (sz + 1)) ++ xs)) (w' := w.setRow b (arr.toList.take (o + off + len * (sz + 1)) ++ ux ++ arr.toList.drop (o + off + len * (sz + 1) + ux.length)).toArray) h1 hX (by simp; omega) (fun h => absurd h (by simp; omega)) (by simp)
        (fun b' hb' hne => setRow_other w b b' _ (fun he => hne o r (he ▸ hb))) rfl rfl (frozen?_setRow _ _ _) (fun b' o' r' h => by cases h; exact .inl ⟨o, r, hb⟩) (fun st' hst' => by
          simp only [ObjOk]
          refine ⟨trivial, fun b' o' r' h => ?_⟩
          simp only [Option.some.injEq, Prod.mk.injEq] at h
          obtain ⟨rfl, rfl, rfl⟩ := h
          refine ⟨_, T, (u.drop off).take (len * (sz + 1)) ++ ux, setRow_heap w b arr _ T (0, 0) f1, by simp; omega, by simp; omega, (((f4.mono hst').drop off).take _).append (hx1.mono hst'), ?_, ?_⟩
          · intro y hy
            simp only [List.mem_append] at hy
            exact hy.elim (fun hy => f5 y (List.mem_of_mem_drop (List.mem_of_mem_take hy))) (hx2 y)
          · intro i c hi
            have l1 : ((u.drop off).take (len * (sz + 1))).length = len * (sz + 1) := by simp; omega
            have l2 : (arr.toList.take (o + off + len * (sz + 1))).length = o + off + len * (sz + 1) := by simp; omega
            simp only [List.getElem?_toArray]
            rw [List.append_assoc]
            rcases Nat.lt_or_ge i (len * (sz + 1)) with hi' | hi'
            · rw [List.getElem?_append_left (by omega), List.getElem?_take_of_lt hi', List.getElem?_drop] at hi
              rw [List.getElem?_append_left (by omega), List.getElem?_take_of_lt (by omega)]
              have := f6 _ c hi
              simpa [Nat.add_assoc] using this
            · rw [List.getElem?_append_right (by omega), l1] at hi
              have hi2 : i - len * (sz + 1) < ux.length := by
                rcases Nat.lt_or_ge (i - len * (sz + 1)) ux.length with h | h
                · exact h
                · rw [List.getElem?_eq_none h] at hi; cases hi
              rw [List.getElem?_append_right (by omega), l2, List.getElem?_append_left (by omega), show o + off + i - (o + off + len * (sz + 1)) = i - len * (sz + 1) by omega]
              exact hi)
      refine ⟨_, _, _, ?_, e1, e2, msrel _ _ _ cap e3 rfl hfit (fun _ => ⟨b, o + off, r - off, rfl, rfl, by omega⟩)⟩
      rw [hrun]
      simp only [addr_add, hst, Result.andThen_ok, Nat.add_zero]
  · obtain ⟨newCap, d, hnc, hrun⟩ := hout (by omega)
    have hsize : (us ++ ux ++ (Builtin.zeroCells z.toArray (newCap - (len + n))).toList).length = newCap * (sz + 1) := by
      simp only [List.length_append, hs3, hx3, Array.length_toList, len_zeroCells, List.size_toArray, hzl]
      rw [← Nat.add_mul, ← Nat.add_mul]; congr 1; omega
    obtain ⟨e1, e2, e3⟩ := rel_upd hH (l' := ⟨g + 1, some (w.heap.size, 0, newCap * (sz + 1))⟩) (X' := .own (g + 1) ((cs.drop off).take (len * (sz + 1)) ++ xs)) (w' := ({ w with drawn := d } : World).alloc (.cells (us ++ ux ++ (Builtin.zeroCells z.toArray (newCap - (len + n))).toList).toArray e')) h1 hX (by simp; omega) (fun h => absurd h (by simp; omega)) (by rw [size_alloc]; exact Nat.le_succ _)
      (fun b' hb' _ => heap_alloc_lt _ _ hb') rfl rfl (fun a => RowKit.frozen?_alloc_cells _ _ _ _) (fun b' o' r' h => by cases h; exact .inr (Nat.le_refl _)) (fun st' hst' => by
        simp only [ObjOk]
        refine ⟨trivial, fun b' o' r' h => ?_⟩
        simp only [Option.some.injEq, Prod.mk.injEq] at h
        obtain ⟨rfl, rfl, rfl⟩ := h
        refine ⟨_, e', us ++ ux, heap_alloc_new _ _, by simp only [List.size_toArray, hsize]; omega, ?_, (hs1.mono hst').append (hx1.mono hst'), ?_, ?_⟩
        · have : (len + n) * (sz + 1) ≤ newCap * (sz + 1) := Nat.mul_le_mul_right _ hnc
          have h2 : (len + n) * (sz + 1) = len * (sz + 1) + n * (sz + 1) := Nat.add_mul _ _ _
          simp only [List.length_append]; rw [← hsl, ← hxl]; omega
        · intro y hy
          exact (List.mem_append.1 hy).elim (hs2 y) (hx2 y)
        · intro i c hi
          have hil : i < (us ++ ux).length := by
            rcases Nat.lt_or_ge i (us ++ ux).length with h | h
            · exact h
            · rw [List.getElem?_eq_none h] at hi; cases hi
          simp only [List.getElem?_toArray, Nat.zero_add]
          rw [List.getElem?_append_left hil]; exact hi)
    refine ⟨_, _, _, hrun, e1, e2, msrel _ _ _ newCap e3 rfl hnc (fun _ => ⟨w.heap.size, 0, newCap * (sz + 1), rfl, rfl, by omega⟩)⟩

/-- append to a slice without room -/
theorem app_new {ts tx ty e' ex : TypeId} {sz by_ n : Nat} {z : List Value} {xs : List AV} {vx : Value} {ax : AV} {a : Option Addr}
    (hts : P.underlying ts = some (.slice e')) (htx : P.underlying tx = some (.slice ex)) (hsz : szT P e' = some (sz + 1)) (hby : byT P e' = some (by_ + 1)) (hz : zrT P e' = some z) (hzl : z.length = sz + 1)
    (hH : RelH st w H) (hx : RelV st ax vx) (hxs : cellsOfSl H (sz + 1) ax = some xs) (hn : lenOfSl ax = some n) (hbound : n * (by_ + 1) ≤ 140737488355328) :
    ∃ v w' st', (Builtin.append_ #[ts, tx] ty #[.slice a 0 0, vx]).run P w = .ok v w' ∧ Ext st w st' w' ∧ RelH st' w' (H ++ [.own 0 xs]) ∧ RelV st' (.ms (sz + 1) H.length 0 0 n) v := by
  obtain ⟨bx, capx, ux, rfl, hcapx, hx1, hx2, hx3, hx4⟩ := sl_cells (P := P) hH hx hxs hn
  have tk : ∀ (l : List Value) (m : Nat), l.length = m * (sz + 1) → l.take (m * (sz + 1)) = l := fun l m h => by rw [← h, List.take_length]
  obtain ⟨hin, hout⟩ := append_run (P := P) (w := w) (ty := ty) (base := a) (len := 0) (cap := 0) (bx := bx) (capx := capx) (old := []) (new := ux) hts htx hsz hby hz
    (fun d => by cases a <;> simp [Builtin.firstCells, loadCells, loadCellsFrom])
    (fun d => by have := hx4 { w with drawn := d } rfl n (Nat.le_refl _); rw [tk ux n hx3] at this; exact this) (by simpa using hbound)
  have hxl := hx1.length
  by_cases hn0 : n = 0
  · subst hn0
    have hux : ux = [] := by simpa using hx3
    have hxs0 : xs = [] := by rw [hux] at hxl; simpa using hxl.symm
    subst hux; subst hxs0
    obtain ⟨e1, e2, e3⟩ := push_none hH
    refine ⟨.slice a 0 0, w, _, ?_, e1, e2, ?_⟩
    · rw [hin (Nat.le_refl _)]
      cases a <;> simp [storeCells]
    · simp only [RelV]
      exact ⟨_, e3, Nat.le_refl _, fun h => absurd h (Nat.lt_irrefl _), fun _ => ⟨a, 0, rfl, Nat.le_refl _, fun h => absurd h (Nat.lt_irrefl _)⟩⟩
  · obtain ⟨newCap, d, hnc, hrun⟩ := hout (by omega)
    simp only [Nat.zero_add, List.nil_append] at hrun hnc
    have hsize : (ux ++ (Builtin.zeroCells z.toArray (newCap - n)).toList).length = newCap * (sz + 1) := by
      simp only [List.length_append, hx3, Array.length_toList, len_zeroCells, List.size_toArray, hzl]
      rw [← Nat.add_mul]; congr 1; omega
    have hmul : n * (sz + 1) ≤ newCap * (sz + 1) := Nat.mul_le_mul_right _ hnc
    obtain ⟨e1, e2, e3⟩ := push_own (hH.drawn d) hx1 hx2 (ux ++ (Builtin.zeroCells z.toArray (newCap - n)).toList).toArray e' (newCap * (sz + 1)) (by simp only [List.size_toArray, hsize]; exact Nat.le_refl _) (by rw [← hxl]; omega) (fun i c hi => by
      have hil : i < ux.length := by
        rcases Nat.lt_or_ge i ux.length with h | h
        · exact h
        · rw [List.getElem?_eq_none h] at hi; cases hi
      simp only [List.getElem?_toArray]
      rw [List.getElem?_append_left hil]; exact hi)
    refine ⟨_, _, _, hrun, (Ext.drawn st w d).trans e1, e2, ?_⟩
    simp only [RelV]
    exact ⟨_, e3, Nat.le_refl _, fun h => absurd h (Nat.lt_irrefl _), fun _ => ⟨_, newCap, rfl, hnc, fun _ => ⟨_, 0, _, rfl, rfl, by omega⟩⟩⟩

theorem app_sound {args : Array Operand} {argTypes : Array TypeId} (hop : o.op = .call ⟨.builtin .append, args, argTypes⟩) (htr : trCall P K ⟨.builtin .append, args, argTypes⟩ = some ao) (hρ : RelO st K e ρ) (hH : RelH st w H) (hv : opAct e H ao = some (r, H')) : StepV P ρ o st w r H' := by
  simp only [trCall] at htr
  split at htr
  · rename_i heq _ _; cases heq
  · rename_i s x ts tx _ hargs htys
    have ha : args = #[s, x] := by cases args; simp_all
    have ht : argTypes = #[ts, tx] := by cases argTypes; simp_all
    subst ha; subst ht
    split at htr
    · rename_i e' s' x' hts hs hx
      split at htr
      · rename_i sz by_ z ex hsz hby hz htx
        split at htr
        · rename_i hzl
          simp only [Option.some.injEq] at htr; subst htr
          have hts := slT_spec hts
          have htx := slT_spec htx
          have hex : ∀ v w', (Builtin.append_ #[ts, tx] o.type #[ρ s, ρ x]).run P w = .ok v w' → (execOp ρ o).run P w = .ok (.value v) w' := by
            intro v w' hr
            simp [execOp, hop, resolve, invoke, builtin, hr]
          have hss := hρ s s' hs
          have hxx := hρ x x' hx
          simp only [opAct] at hv
          split at hv
          · rename_i xs n hxs hn
            split at hv
            · rename_i sz' id g off len hes
              rw [hes] at hss
              split at hv
              · rename_i g' cs hX
                split at hv
                · rename_i hc
                  obtain ⟨rfl, rfl, hle, hbound⟩ := hc
                  simp only [Option.some.injEq, Prod.mk.injEq] at hv
                  obtain ⟨rfl, rfl⟩ := hv
                  obtain ⟨v, w', st', h1, h2, h3, h4⟩ := app_ms (ty := o.type) hts htx hsz hby hz hzl hH hss hX hle hxx hxs hn hbound
                  exact ⟨v, w', st', .inl (hex v w' h1), h2, h3, h4⟩
                · cases hv
              · cases hv
            · rename_i hes
              rw [hes] at hss
              split at hv
              · rename_i hbound
                simp only [Option.some.injEq, Prod.mk.injEq] at hv
                obtain ⟨rfl, rfl⟩ := hv
                simp only [RelV] at hss
                obtain ⟨a, hss⟩ := hss
                obtain ⟨v, w', st', h1, h2, h3, h4⟩ := app_new (a := a) (ty := o.type) hts htx hsz hby hz hzl hH hxx hxs hn hbound
                exact ⟨v, w', st', .inl (hex v w' (by rw [hss]; exact h1)), h2, h3, h4⟩
              · cases hv
            · rename_i hes
              rw [hes] at hss
              split at hv
              · rename_i hbound
                simp only [Option.some.injEq, Prod.mk.injEq] at hv
                obtain ⟨rfl, rfl⟩ := hv
                simp only [RelV] at hss
                obtain ⟨v, w', st', h1, h2, h3, h4⟩ := app_new (a := none) (ty := o.type) hts htx hsz hby hz hzl hH hxx hxs hn hbound
                exact ⟨v, w', st', .inl (hex v w' (by rw [hss]; exact h1)), h2, h3, h4⟩
              · cases hv
            · cases hv
          · cases hv
        · cases htr
      · cases htr
    · cases htr
  · rename_i heq _ _; cases heq
  · rename_i heq; cases heq
  · rename_i heq; cases heq
  · cases htr

theorem ms_new {st' : St} {n b room sz len cap : Nat} (h : st'.loc[n]? = some ⟨0, some (b, 0, room)⟩) (hl : len ≤ cap) (hr : cap * sz ≤ room) : RelV st' (.ms sz n 0 0 len) (.slice (some ⟨b, 0, none⟩) len cap) := by
  simp only [RelV]
  exact ⟨_, h, Nat.le_refl _, fun h => absurd h (Nat.lt_irrefl _), fun _ => ⟨_, cap, rfl, hl, fun _ => ⟨b, 0, room, rfl, rfl, by omega⟩⟩⟩

theorem mks_mut_sound {t : TypeId} {len : Nat} {parts : Array (Nat × Operand)} (hop : o.op = .buildSlice t len parts) (htr : trOp P K mu o = some ao) (hρ : RelO st K e ρ) (hH : RelH st w H) (hv : opAct e H ao = some (r, H')) : StepV P ρ o st w r H' := by
  simp only [trOp, hop] at htr
  split at htr
  · rename_i e' he
    split at htr
    · rename_i sz z hsz hz
      split at htr
      · rename_i hc
        obtain ⟨hzl, hidx, hle⟩ := hc
        obtain ⟨xs, hxs, rfl⟩ := Option.map_eq_some_iff.1 htr
        cases mu with
        | false => simp [opAct] at hv
        | true =>
          have hL := hρ.list hxs
          have hxl := ods_length hxs
          have hlen : parts.toList.length = len := by have := congrArg List.length hidx; simpa using this
          simp only [opAct] at hv
          split at hv
          · rename_i cs hcs
            split at hv
            · rename_i hok
              simp only [Option.some.injEq, Prod.mk.injEq] at hv
              obtain ⟨rfl, rfl⟩ := hv
              simp only [elemsLen, List.all_eq_true] at hok
              have hcells : ∀ u ∈ (parts.toList.map (·.2)).map ρ, u.cells.size = sz + 1 := by
                intro u hu
                obtain ⟨j, hj⟩ := List.mem_iff_getElem?.1 hu
                obtain ⟨a, ha, hra⟩ := hL.getr hj
                have hall := hok a (List.mem_of_getElem? ha)
                split at hall
                · rename_i cs hcs
                  obtain ⟨h1, h2⟩ := hra.cells hcs
                  have := h1.length; simp at this hall; omega
                · cases hall
              have hrun := buildSlice_run (w := w) (ρ := ρ) hop (slT_spec he) hsz hz hidx hle hcells hzl
              simp only [cellsOfSl, if_true] at hcs
              obtain ⟨h1, h2⟩ := cells_flat (sz := sz + 1) hL hcs
              have hfl := flat_length hcells
              have hl2 : xs.length = len := by simp at hxl hlen ⊢; omega
              have hl3 : ((parts.toList.map (·.2)).map ρ).length = len := by simpa using hlen
              rw [hl3] at hfl
              have hcl := h1.length
              obtain ⟨e1, e2, e3⟩ := push_own hH h1 h2 (flat ((parts.toList.map (·.2)).map ρ)).toArray e' (len * (sz + 1)) (by simp only [List.size_toArray, hfl]; exact Nat.le_refl _) (by omega) (fun i c h => by simpa using h)
              refine ⟨_, _, _, .inl hrun, e1, e2, ?_⟩
              rw [hl2]
              exact ms_new e3 (Nat.le_refl _) (Nat.le_refl _)
            · cases hv
          · cases hv
      · cases htr
    · cases htr
  · cases htr

theorem zeros_flatten (z : List Value) (n : Nat) : (List.replicate n (z.map AV.lit)).flatten = ((List.replicate n z).flatten).map AV.lit := by
  induction n with
  | zero => rfl
  | succ n ih => rw [List.replicate_succ, List.replicate_succ, List.flatten_cons, List.flatten_cons, List.map_append, ih]
theorem zeros_get {z : Array Value} (hz : z.size ≠ 0) : ∀ (n m : Nat), n ≤ m → ∀ (i : Nat) (c : Value), ((List.replicate n z.toList).flatten)[i]? = some c → ((Array.range (m * z.size)).map (z[· % z.size]!))[i]? = some c
  | 0, m, _, i, c, h => by simp at h
  | n + 1, m, hm, i, c, h => by
    rw [List.replicate_succ', List.flatten_append] at h
    have hl : ((List.replicate n z.toList).flatten).length = n * z.size := by simp [List.length_flatten]
    rcases Nat.lt_or_ge i (n * z.size) with hi | hi
    · rw [List.getElem?_append_left (by rw [hl]; exact hi)] at h
      exact zeros_get hz n m (by omega) i c h
    · rw [List.getElem?_append_right (by rw [hl]; exact hi), hl] at h
      simp only [List.flatten_cons, List.flatten_nil, List.append_nil] at h
      have hj : i - n * z.size < z.size := by
        rcases Nat.lt_or_ge (i - n * z.size) z.size with h' | h'
        · exact h'
        · rw [List.getElem?_eq_none (by simpa using h')] at h; cases h
      have him : i < m * z.size := by
        have : (n + 1) * z.size ≤ m * z.size := Nat.mul_le_mul_right _ hm
        rw [Nat.add_mul] at this; omega
      have hmod : i % z.size = i - n * z.size := by
        have : i = (i - n * z.size) + n * z.size := by omega
        rw [this, Nat.add_mul_mod_self_right, Nat.mod_eq_of_lt (by omega)]; omega
      simp only [Array.getElem?_map, Array.getElem?_range, him, if_true, Option.map_some, hmod]
      rw [getElem!_pos z _ hj]
      rw [Array.getElem?_toList, Array.getElem?_eq_getElem hj] at h
      exact h

theorem mksl_sound {t : TypeId} {l c : Operand} (hop : o.op = .makeSlice t l c) (htr : trOp P K mu o = some ao) (hρ : RelO st K e ρ) (hH : RelH st w H) (hv : opAct e H ao = some (r, H')) : StepV P ρ o st w r H' := by
  simp only [trOp, hop] at htr
  split at htr
  · rename_i e' he
    split at htr
    · rename_i sz by_ z l' c' hsz hby hz hl hc
      split at htr
      · rename_i hzl
        simp only [Option.some.injEq] at htr; subst htr
        simp only [opAct] at hv
        split at hv
        · rename_i ln cp hln hcp
          split at hv
          · rename_i hcond
            obtain ⟨h0, h1, h2, h3, _⟩ := hcond
            simp only [Option.some.injEq, Prod.mk.injEq] at hv
            obtain ⟨rfl, rfl⟩ := hv
            have hll := hρ l l' hl
            have hcc := hρ c c' hc
            rw [hln] at hll; rw [hcp] at hcc
            simp only [RelV] at hll hcc
            obtain ⟨i, zv, hi, hzv, rfl, hs⟩ := zrT_spec hz
            obtain ⟨i', hi', hb⟩ := byT_spec hby
            rw [hi] at hi'; cases hi'
            have hsize : zv.cells.size = sz + 1 := by simpa using hzl
            have wr : ∀ n : Int, 0 ≤ n → n ≤ 9223372036854775807 → IntKind.i64.wrap n = n := fun n a b => by
              rw [IntWalk.i64_left]; exact IntWalk.wrap64_in n ⟨by omega, b⟩
            have hrun : (execOp ρ o).run P w = .ok (.value (.slice (some ⟨w.heap.size, 0, none⟩) ln.toNat cp.toNat)) (w.alloc (.cells ((Array.range (cp.toNat * zv.cells.size)).map (zv.cells[· % zv.cells.size]!)) e')) := by
              have hw1 := wr ln h0 (by omega)
              have hw2 := wr cp (by omega) h2
              have hn1 : ¬ cp < 0 := by omega
              have hn2 : ¬ (by_ : Int) * cp > 281474976710656 := by omega
              have hn3 : ¬ ln < 0 := by omega
              have hn4 : ¬ ln > cp := by omega
              have hcond : (decide (cp < 0) || decide ((by_ : Int) * cp > 2 ^ 48) || decide (ln < 0) || decide (ln > cp)) = false := by
                have : ¬ (by_ : Int) * cp > 2 ^ 48 := by simpa using hn2
                simp [hn1, h3, hn3, hn4]
              simp only [execOp, hop, hll, hcc, Instr.makeSlice, Sem.run_bind, run_underlying' (slT_spec he), Result.andThen_ok, asInt, asIntOf, Sem.run_pure, typeInfo, run_program, hi, hb, hw1, hw2, hcond, Bool.false_eq_true, if_false, run_askRoom, run_sizeOf' hsz]
              by_cases hc0 : cp.toNat * (sz + 1) = 0
              · have : cp.toNat = 0 := by rcases Nat.mul_eq_zero.1 hc0 with h | h <;> omega
                have z0 : ∀ f : Nat → Value, (Array.range 0).map f = #[] := fun f => by simp
                simp [hc0, this, newRow, z0]
              · simp [hc0, zeroValue, typeInfo, hi, hzv, newRow, hsize]
            have hlen : ((List.replicate ln.toNat (zv.cells.toList.map AV.lit)).flatten).length = ln.toNat * (sz + 1) := by simp [List.length_flatten, hsize]
            have hmul : ln.toNat * (sz + 1) ≤ cp.toNat * (sz + 1) := Nat.mul_le_mul_right _ (by omega)
            obtain ⟨e1, e2, e3⟩ := push_own hH (cs := (List.replicate ln.toNat (zv.cells.toList.map AV.lit)).flatten) (us := (List.replicate ln.toNat zv.cells.toList).flatten) (by rw [zeros_flatten]; exact RelL.lits _)
              (fun u hu => by
                obtain ⟨x, hx, hu⟩ := List.mem_flatten.1 hu
                have := List.eq_of_mem_replicate hx
                exact hs u (this ▸ hu)) ((Array.range (cp.toNat * zv.cells.size)).map (zv.cells[· % zv.cells.size]!)) e' (cp.toNat * (sz + 1)) (by simp [hsize]) (by omega)
              (zeros_get (by omega) ln.toNat cp.toNat (by omega))
            exact ⟨_, _, _, .inl hrun, e1, e2, ms_new e3 (by omega) (Nat.le_refl _)⟩
          · cases hv
        · cases hv
      · cases htr
    · cases htr
  · cases htr

theorem cpy_sound {args : Array Operand} {argTypes : Array TypeId} (hop : o.op = .call ⟨.builtin .copy, args, argTypes⟩) (htr : trCall P K ⟨.builtin .copy, args, argTypes⟩ = some ao) (hρ : RelO st K e ρ) (hH : RelH st w H) (hv : opAct e H ao = some (r, H')) : StepV P ρ o st w r H' := by
  simp only [trCall] at htr
  split at htr
  · rename_i heq _ _; cases heq
  · rename_i heq _ _; cases heq
  · rename_i d s td ts _ hargs htys
    have ha : args = #[d, s] := by cases args; simp_all
    have ht : argTypes = #[td, ts] := by cases argTypes; simp_all
    subst ha; subst ht
    split at htr
    · rename_i e' d' s' htd hd hs
      split at htr
      · rename_i sz hsz
        simp only [Option.some.injEq] at htr; subst htr
        simp only [opAct] at hv
        split at hv
        · rename_i xs n sz' id g off len hxs hn hed
          split at hv
          · rename_i g' cs hX
            split at hv
            · rename_i hc
              obtain ⟨rfl, rfl, hle⟩ := hc
              simp only [Option.some.injEq, Prod.mk.injEq] at hv
              obtain ⟨rfl, rfl⟩ := hv
              have hdd := hρ d d' hd
              have hss := hρ s s' hs
              rw [hed] at hdd
              obtain ⟨bx, capx, ux, hxv, hcapx, hx1, hx2, hx3, hx4⟩ := sl_cells (P := P) hH hss hxs hn
              obtain ⟨l, a', cap, h1, h2, h3, h4, h5⟩ := relV_ms_live hH (live_of_own hX) hdd
              have hf := hx4 w rfl (min n len) (Nat.min_le_left _ _)
              have hxl := hx1.length
              have hex : ∀ w', ((match (generalizing := false) a' with | some a => storeCells a (ux.take (min n len * (sz + 1))) | none => Pure.pure () : Sem Unit).run P w = .ok () w') → (execOp ρ o).run P w = .ok (.value (goInt (min n len : Nat))) w' := by
                intro w' h
                have hr : (Builtin.copy_ #[td, ts] o.type #[ρ d, ρ s]).run P w = .ok (goInt (min n len : Nat)) w' := by
                  rw [hxv] at hf ⊢
                  simp only [h3, Builtin.copy_]
                  cases a' <;> simp_all [run_underlying' (slT_spec htd), run_sizeOf' hsz, Builtin.lenOf]
                simp [execOp, hop, resolve, invoke, builtin, hr]
              have hm1 : min n len * (sz + 1) ≤ n * (sz + 1) := Nat.mul_le_mul_right _ (Nat.min_le_left _ _)
              have hm2 : min n len * (sz + 1) ≤ len * (sz + 1) := Nat.mul_le_mul_right _ (Nat.min_le_right _ _)
              by_cases hc0 : 0 < cap
              · obtain ⟨b, o', r', h6, rfl, h7⟩ := h5 hc0
                obtain ⟨st', w', h8, h9, h10, _, _⟩ := write_own (P := P) (off := off) hH hX h1 h6 (hx1.take (min n len * (sz + 1))) (fun v hv => hx2 v (List.mem_of_mem_take hv)) (by simp; omega)
                have hlt : (xs.take (min n len * (sz + 1))).length = min n len * (sz + 1) := by simp; omega
                rw [hlt] at h10
                exact ⟨_, w', st', .inl (hex w' h8), h9, h10, relLit⟩
              · have hl0 : len = 0 := by omega
                subst hl0
                have : cs.take off ++ xs.take (min n 0 * (sz + 1)) ++ cs.drop (off + min n 0 * (sz + 1)) = cs := by simp
                rw [this]
                have hset : H.set id (.own g cs) = H := by
                  apply List.ext_getElem?
                  intro j
                  rw [List.getElem?_set]
                  split
                  · rename_i hj; subst hj; split
                    · exact hX.symm
                    · rename_i hn; rw [List.getElem?_eq_none (by omega)] at hX; cases hX
                  · rfl
                rw [hset]
                refine ⟨_, w, st, .inl (hex w ?_), .refl _ _, hH, relLit⟩
                cases a' <;> simp [storeCells]
            · cases hv
          · cases hv
        · cases hv
      · cases htr
    · cases htr
  · rename_i heq; cases heq
  · rename_i heq; cases heq
  · cases htr

theorem opAct_sound (htr : trOp P K mu o = some ao) (hρ : RelO st K e ρ) (hH : RelH st w H) (hv : opAct e H ao = some (r, H')) : StepV P ρ o st w r H' := by
  cases hop : o.op
  case buildSlice => exact mks_mut_sound hop htr hρ hH hv
  case alloc => exact new_sound hop htr hH hv
  case box => exact box_sound hop htr hρ hH hv
  case store => exact st_sound hop htr hρ hH hv
  case makeSlice => exact mksl_sound hop htr hρ hH hv
  case call c =>
    obtain ⟨callee, args, argTypes⟩ := c
    simp only [trOp, hop] at htr
    cases callee with
    | value f =>
      simp only [trCall] at htr
      split at htr
      · simp only [Option.some.injEq] at htr; subst htr; simp [opAct] at hv
      · cases htr
    | invoke a b => cases htr
    | builtin b =>
      cases b
      case append => exact app_sound hop htr hρ hH hv
      case copy => exact cpy_sound hop htr hρ hH hv
      all_goals
        exfalso
        simp only [trCall] at htr
        repeat' split at htr
        all_goals first
          | contradiction
          | (cases htr; done)
          | (rename_i heq _ _; cases heq; done)
          | (rename_i heq; cases heq; done)
          | (simp only [Option.some.injEq] at htr; subst htr; simp [opAct] at hv; done)
          | (obtain ⟨ys, hys, rfl⟩ := Option.map_eq_some_iff.1 htr; simp [opAct] at hv; done)
  all_goals
    exfalso
    simp only [trOp, hop] at htr
    repeat' split at htr
    all_goals first
      | contradiction
      | (cases htr; done)
      | (simp only [Option.some.injEq] at htr; subst htr; simp [opAct] at hv; done)
      | (obtain ⟨ys, hys, rfl⟩ := Option.map_eq_some_iff.1 htr; simp [opAct] at hv; done)
      | (unfold trBin at htr; repeat' split at htr
         all_goals first
           | (cases htr; done)
           | (simp only [Option.some.injEq] at htr; subst htr; simp [opAct] at hv; done)
           | (obtain ⟨ys, hys, rfl⟩ := Option.map_eq_some_iff.1 htr; simp [opAct] at hv; done))
end Go.Sas
