/-
An abstract machine over values, part 3: an operation that changes nothing yields, in every world that fits, a value that fits.
Conditions: none (lemmas over any program).
-/
import Derived.Test.YtelmlpjkpebcgaaAbs2
set_option linter.unusedVariables false
set_option linter.unusedSimpArgs false
namespace Go.Sas
variable {P : Program} {K : List Nat} {st : St} {w : World} {H : AHeap} {ρ : Operand → Value} {e : Od → AV}

theorem St.pure_le (st : St) : st.pure.le st := ⟨fun _ _ _ h => h, fun id l hl => by simp [St.pure] at hl⟩

theorem relV_ofVal (st : St) (v : Value) : RelV st (ofVal v) v := by
  unfold ofVal
  split
  · rename_i us
    split
    · rename_i h
      simp only [RelV]
      exact ⟨us, rfl, RelL.lits _, fun u hu => scal_of_oneCell (by simpa using (Array.all_eq_true'.1 h) u (by simpa using hu))⟩
    · simp only [RelV]
  · simp only [RelV]

/-- operands fit -/
def RelO (st : St) (K : List Nat) (e : Od → AV) (ρ : Operand → Value) : Prop := ∀ x y, od K x = some y → RelV st (e y) (ρ x)

theorem RelO.mono {st' : St} (h : RelO st K e ρ) (hle : st.le st') : RelO st' K e ρ := fun x y hy => (h x y hy).mono hle

theorem RelO.list (h : RelO st K e ρ) : ∀ {xs : List Operand} {ys : List Od}, ods K xs = some ys → RelL st (ys.map e) (xs.map ρ)
  | [], ys, hy => by simp only [ods, Option.some.injEq] at hy; subst hy; exact RelL.nil
  | x :: xs, ys, hy => by
    simp only [ods] at hy
    split at hy
    · rename_i y ys' h1 h2
      simp only [Option.some.injEq] at hy; subst hy
      exact RelL.cons (h x y h1) (RelO.list h h2)
    · cases hy

theorem live_mp {id g : Nat} (hH : RelH st w H) (hl : live H id g = true) {l : Loc} (h1 : st.loc[id]? = some l) : l.g = g := by
  unfold live at hl
  split at hl
  · rename_i g' cs hX
    have := hH.obj id l _ h1 hX
    simp only [ObjOk] at this
    simp at hl; omega
  · rename_i g' o hX
    have := hH.obj id l _ h1 hX
    simp only [ObjOk] at this
    simp at hl; omega
  · cases hl

theorem relV_mp_live {id g off : Nat} {v : Value} (hH : RelH st w H) (hl : live H id g = true) (hv : RelV st (.mp id g off) v) :
    ∃ l b o r, st.loc[id]? = some l ∧ l.g = g ∧ l.base = some (b, o, r) ∧ v = .pointer (some ⟨b, o + off, none⟩) := by
  simp only [RelV] at hv
  obtain ⟨l, h1, h2, h3, h4⟩ := hv
  have hg := live_mp hH hl h1
  obtain ⟨b, o, r, h5, h6⟩ := h4 hg.symm
  exact ⟨l, b, o, r, h1, hg, h5, h6⟩

theorem relV_ms_live {sz id g off len : Nat} {v : Value} (hH : RelH st w H) (hl : live H id g = true) (hv : RelV st (.ms sz id g off len) v) :
    ∃ l a cap, st.loc[id]? = some l ∧ l.g = g ∧ v = .slice a len cap ∧ len ≤ cap ∧ (0 < cap → ∃ b o r, l.base = some (b, o, r) ∧ a = some ⟨b, o + off, none⟩ ∧ off + cap * sz ≤ r) := by
  simp only [RelV] at hv
  obtain ⟨l, h1, h2, h3, h4⟩ := hv
  have hg := live_mp hH hl h1
  obtain ⟨a, cap, h5, h6, h7⟩ := h4 hg.symm
  exact ⟨l, a, cap, h1, hg, h5, h6, h7⟩

theorem live_of_own {id g : Nat} {cs : List AV} (h : H[id]? = some (.own g cs)) : live H id g = true := by simp [live, h]

/-- the cells behind a live pointer to an object -/
theorem own_cells {id g : Nat} {cs : List AV} (hH : RelH st w H) (hX : H[id]? = some (.own g cs)) {l : Loc} (h1 : st.loc[id]? = some l) {b o r : Nat} (hb : l.base = some (b, o, r)) :
    ∃ us, RelL st cs us ∧ (∀ u ∈ us, Scal u) ∧ ∀ i c, us[i]? = some c → w.cell? ⟨b, o + i, none⟩ = some c := by
  have := hH.obj id l _ h1 hX
  simp only [ObjOk] at this
  obtain ⟨_, h⟩ := this
  obtain ⟨arr, T, us, ha, _, _, h3, h4, h5⟩ := h b o r hb
  exact ⟨us, h3, h4, fun i c hc => by simp [World.cell?, ha, h5 i c hc]⟩

theorem run_underlying' {t : TypeId} {d : TypeDesc} (h : P.underlying t = some d) : (underlying t).run P w = .ok d w := run_underlying h w
theorem run_sizeOf' {t : TypeId} {n : Nat} (h : szT P t = some n) : (sizeOf t).run P w = .ok n w := by
  unfold szT at h
  obtain ⟨i, hi, rfl⟩ := Option.map_eq_some_iff.1 h
  simp [sizeOf, typeInfo, hi]

theorem run_isAgg_none {t : TypeId} (h : shT P t = some none) : (isAgg t).run P w = .ok false w := by
  unfold shT at h
  split at h
  · rename_i fs hu; cases hz : szT P t <;> simp [hz] at h
  · rename_i n m hu; cases hz : szT P t <;> simp [hz] at h
  · rename_i d hn1 hn2 hu
    simp only [isAgg, Sem.run_bind, run_underlying' hu, Result.andThen_ok]
    rfl
  · cases h
theorem run_isAgg_some {t : TypeId} {k : Nat} (h : shT P t = some (some k)) : (isAgg t).run P w = .ok true w ∧ szT P t = some k := by
  unfold shT at h
  split at h
  · rename_i fs hu
    cases hz : szT P t <;> simp [hz] at h
    exact ⟨by simp [isAgg, run_underlying' hu], by simpa [hz] using h⟩
  · rename_i n m hu
    cases hz : szT P t <;> simp [hz] at h
    exact ⟨by simp [isAgg, run_underlying' hu], by simpa [hz] using h⟩
  · cases h
  · cases h

theorem getN_sound {t : TypeId} {n : Option Nat} {cs : List AV} {us : List Value} {b o off : Nat} {r : AV} (hs : shT P t = some n)
    (hr : RelL st cs us) (hsc : ∀ u ∈ us, Scal u) (hc : ∀ i c, us[i]? = some c → w.cell? ⟨b, o + i, none⟩ = some c) (hg : getN n cs off = some r) :
    ∃ v, (loadVar t ⟨b, o + off, none⟩).run P w = .ok v w ∧ RelV st r v := by
  cases n with
  | none =>
    simp only [getN] at hg
    obtain ⟨u, hu, hru⟩ := hr.get hg
    refine ⟨u, ?_, hru⟩
    simp only [loadVar, Sem.run_bind, run_isAgg_none hs, Result.andThen_ok, Bool.false_eq_true, if_false, run_load, hc off u hu]
  | some k =>
    simp only [getN] at hg
    split at hg
    · rename_i hle
      simp only [Option.some.injEq] at hg
      subst hg
      obtain ⟨h1, h2⟩ := run_isAgg_some (w := w) hs
      have hlen := hr.length
      have hl : ((us.drop off).take k).length = k := by simp; omega
      have hload := run_loadCells_list (P := P) w ⟨b, o + off, none⟩ ((us.drop off).take k) (fun j v hv => by
        have hj : j < k := by
          rcases Nat.lt_or_ge j k with h | h
          · exact h
          · rw [List.getElem?_eq_none (by omega)] at hv; cases hv
        rw [List.getElem?_take_of_lt hj, List.getElem?_drop] at hv
        have := hc (off + j) v hv
        have ha : (⟨b, o + off, none⟩ : Addr).add j = ⟨b, o + (off + j), none⟩ := by unfold Addr.add; split <;> simp_all [Nat.add_assoc]
        rw [ha]; exact this)
      rw [hl] at hload
      refine ⟨.agg ((us.drop off).take k).toArray, ?_, ?_⟩
      · simp only [loadVar, Sem.run_bind, h1, Result.andThen_ok, if_true, run_sizeOf' h2, hload]
        rfl
      · simp only [RelV]
        exact ⟨_, rfl, by simpa using (hr.drop off).take k, fun u hu => hsc u (List.mem_of_mem_drop (List.mem_of_mem_take (by simpa using hu)))⟩
    · cases hg

theorem getN_part {t : TypeId} {n : Option Nat} {cs : List AV} {us : Array Value} {off : Nat} {r : AV} (hs : shT P t = some n)
    (hr : RelL st cs us.toList) (hsc : ∀ u ∈ us.toList, Scal u) (hg : getN n cs off = some r) :
    ∃ v, (part t us off).run P w = .ok v w ∧ RelV st r v := by
  cases n with
  | none =>
    simp only [getN] at hg
    obtain ⟨u, hu, hru⟩ := hr.get hg
    refine ⟨u, ?_, hru⟩
    have : us[off]? = some u := by simpa using hu
    simp [part, run_isAgg_none hs, this]
  | some k =>
    simp only [getN] at hg
    split at hg
    · rename_i hle
      simp only [Option.some.injEq] at hg
      subst hg
      obtain ⟨h1, h2⟩ := run_isAgg_some (w := w) hs
      refine ⟨.agg (us.extract off (off + k)), ?_, ?_⟩
      · simp [part, h1, run_sizeOf' h2]
      · simp only [RelV]
        have he : (us.extract off (off + k)).toList = (us.toList.drop off).take k := by simp [Array.toList_extract]
        refine ⟨_, rfl, ?_, ?_⟩
        · rw [he]; exact (hr.drop off).take k
        · rw [he]; exact fun u hu => hsc u (List.mem_of_mem_drop (List.mem_of_mem_take hu))
    · cases hg

theorem rd_cells (hH : RelH st w H) {b o : Nat} {us : List Value} (h : RdAt st.rd b o us) :
    (∀ u ∈ us, Scal u) ∧ ∀ i c, us[i]? = some c → w.cell? ⟨b, o + i, none⟩ = some c :=
  ⟨fun u hu => by obtain ⟨i, hi⟩ := List.mem_iff_getElem?.1 hu; exact (hH.rd _ _ _ (h i u hi)).1, fun i c hc => (hH.rd _ _ _ (h i c hc)).2.1⟩

theorem ld_sound {t : TypeId} {n : Option Nat} {a r : AV} {v : Value} (hs : shT P t = some n) (hH : RelH st w H) (hv : RelV st a v) (hr : ldA H n a = some r) :
    ∃ u, (Instr.loadAt t v).run P w = .ok u w ∧ RelV st r u := by
  unfold ldA at hr
  split at hr
  · rename_i cs
    simp only [RelV] at hv
    obtain ⟨b, o, us, rfl, h2, h3⟩ := hv
    obtain ⟨h4, h5⟩ := rd_cells hH h3
    obtain ⟨u, hu, hru⟩ := getN_sound (P := P) hs (h2.mono st.pure_le) h4 h5 hr
    exact ⟨u, by simpa [Instr.loadAt, Instr.sureAddr] using hu, hru⟩
  · rename_i id g off
    split at hr
    · rename_i g' cs hX
      split at hr
      · rename_i hgg; subst hgg
        obtain ⟨l, b, o, r', h1, h2, h3, rfl⟩ := relV_mp_live hH (live_of_own hX) hv
        obtain ⟨us, h4, h5, h6⟩ := own_cells hH hX h1 h3
        obtain ⟨u, hu, hru⟩ := getN_sound (P := P) hs h4 h5 h6 hr
        exact ⟨u, by simpa [Instr.loadAt, Instr.sureAddr] using hu, hru⟩
      · cases hr
    · cases hr
  · cases hr

theorem nilc_sound {a r : AV} {v : Value} {o : Oper} {x : Operand} (ho : o.op = .nilCheck x) (hx : ρ x = v) (hH : RelH st w H) (hv : RelV st a v) (hr : nilcA H a = some r) :
    (execOp ρ o).run P w = .ok (.value v) w ∧ RelV st r v := by
  unfold nilcA at hr
  split at hr
  · simp only [Option.some.injEq] at hr; subst hr
    refine ⟨?_, hv⟩
    simp only [RelV] at hv
    obtain ⟨b, o', us, rfl, _⟩ := hv
    simp [execOp, ho, hx]
  · split at hr
    · rename_i hl
      simp only [Option.some.injEq] at hr; subst hr
      refine ⟨?_, hv⟩
      obtain ⟨_, _, _, _, _, _, _, rfl⟩ := relV_mp_live hH hl hv
      simp [execOp, ho, hx]
    · cases hr
  · simp only [Option.some.injEq] at hr; subst hr
    refine ⟨?_, hv⟩
    simp only [RelV] at hv
    obtain ⟨us, rfl, _⟩ := hv
    simp [execOp, ho, hx]
  · split at hr
    · rename_i hl
      simp only [Option.some.injEq] at hr; subst hr
      refine ⟨?_, hv⟩
      simp only [RelV] at hv
      obtain ⟨l, h1, h2, h3, h4⟩ := hv
      obtain ⟨b, o', r', _, rfl⟩ := h4 (live_mp hH hl h1).symm
      simp [execOp, ho, hx]
    · cases hr
  · cases hr

theorem addr_add (b o n : Nat) : (⟨b, o, none⟩ : Addr).add n = ⟨b, o + n, none⟩ := by unfold Addr.add; split <;> simp_all

theorem flT_spec {s : TypeId} {f off : Nat} {ft : TypeId} (h : flT P s f = some (off, ft)) :
    ∃ fs x n, P.underlying s = some (.struct fs) ∧ fs[f]? = some x ∧ x.offset = off ∧ x.type = ft ∧ szT P ft = some (n + 1) := by
  unfold flT at h
  split at h
  · rename_i fs hu
    split at h
    · rename_i x hx
      split at h
      · rename_i n hn
        simp only [Option.some.injEq, Prod.mk.injEq] at h
        obtain ⟨rfl, rfl⟩ := h
        exact ⟨fs, x, n, hu, hx, rfl, rfl, hn⟩
      · cases h
    · cases h
  · cases h

theorem fa_sound {s : TypeId} {f off : Nat} {ft : TypeId} {a r : AV} {v : Value} (hf : flT P s f = some (off, ft)) (hH : RelH st w H) (hv : RelV st a v) (hr : faA H off a = some r) :
    ∃ u, (Instr.fieldAt s v f).run P w = .ok u w ∧ RelV st r u := by
  obtain ⟨fs, x, n, hu, hx, rfl, rfl, hn⟩ := flT_spec hf
  have key : ∀ b o : Nat, (Instr.fieldAt s (.pointer (some ⟨b, o, none⟩)) f).run P w = .ok (.pointer (some ⟨b, o + x.offset, none⟩)) w := by
    intro b o
    simp [Instr.fieldAt, run_underlying' hu, hx, Instr.sureAddr, fieldPlace, run_sizeOf' hn, addr_add]
  unfold faA at hr
  split at hr
  · simp only [Option.some.injEq] at hr; subst hr
    simp only [RelV] at hv
    obtain ⟨b, o, us, rfl, h2, h3⟩ := hv
    refine ⟨_, key b o, ?_⟩
    simp only [RelV]
    exact ⟨b, o + x.offset, us.drop x.offset, rfl, h2.drop _, fun i c hc => by rw [List.getElem?_drop] at hc; rw [Nat.add_assoc]; exact h3 _ c hc⟩
  · rename_i id g o
    split at hr
    · rename_i hl
      simp only [Option.some.injEq] at hr; subst hr
      obtain ⟨l, b, o', r', h1, h2, h3, rfl⟩ := relV_mp_live hH hl hv
      refine ⟨_, key b (o' + o), ?_⟩
      simp only [RelV]
      exact ⟨l, h1, by omega, fun h => absurd h (by omega), fun _ => ⟨b, o', r', h3, by simp [Nat.add_assoc]⟩⟩
    · cases hr
  · cases hr

/-! ### The cells of a slice's elements, of one size each -/
theorem flat_get {sz : Nat} : ∀ {us : List Value} {i : Nat} {u : Value}, (∀ u ∈ us, u.cells.size = sz) → us[i]? = some u → ∀ j c, u.cells.toList[j]? = some c → (flat us)[i * sz + j]? = some c
  | [], i, u, _, h, _, _, _ => by simp at h
  | x :: us, 0, u, hs, h, j, c, hc => by
    simp at h; subst h
    have : j < x.cells.toList.length := by
      rcases Nat.lt_or_ge j x.cells.toList.length with h' | h'
      · exact h'
      · rw [List.getElem?_eq_none h'] at hc; cases hc
    simp only [flat, List.flatMap_cons, Nat.zero_mul, Nat.zero_add]
    rw [List.getElem?_append_left this]; exact hc
  | x :: us, i + 1, u, hs, h, j, c, hc => by
    simp at h
    have ih := flat_get (fun u hu => hs u (by simp [hu])) h j c hc
    have hx : x.cells.toList.length = sz := by simpa using hs x (by simp)
    simp only [flat, List.flatMap_cons] at ih ⊢
    rw [List.getElem?_append_right (by rw [hx, Nat.add_mul]; omega), hx]
    rw [← ih]; congr 1; rw [Nat.add_mul]; omega
theorem flat_length {sz : Nat} : ∀ {us : List Value}, (∀ u ∈ us, u.cells.size = sz) → (flat us).length = us.length * sz
  | [], _ => by simp [flat]
  | x :: us, hs => by
    have hx : x.cells.toList.length = sz := by simpa using hs x (by simp)
    have ih := flat_length (us := us) (fun u hu => hs u (by simp [hu]))
    simp only [flat, List.flatMap_cons, List.length_append, List.length_cons] at ih ⊢
    rw [ih, hx, Nat.add_mul]; omega
theorem flat_drop {sz : Nat} : ∀ (n : Nat) {us : List Value}, (∀ u ∈ us, u.cells.size = sz) → flat (us.drop n) = (flat us).drop (n * sz)
  | 0, us, _ => by simp
  | n + 1, [], _ => by simp [flat]
  | n + 1, x :: us, hs => by
    have hx : x.cells.toList.length = sz := by simpa using hs x (by simp)
    have ih := flat_drop n (us := us) (fun u hu => hs u (by simp [hu]))
    simp only [List.drop_succ_cons, ih]
    simp only [flat, List.flatMap_cons]
    rw [Nat.add_mul, Nat.one_mul, Nat.add_comm, List.drop_append, hx]
    simp [← hx]
theorem flat_take {sz : Nat} : ∀ (n : Nat) {us : List Value}, (∀ u ∈ us, u.cells.size = sz) → flat (us.take n) = (flat us).take (n * sz)
  | 0, us, _ => by simp [flat]
  | n + 1, [], _ => by simp [flat]
  | n + 1, x :: us, hs => by
    have hx : x.cells.toList.length = sz := by simpa using hs x (by simp)
    have ih := flat_take n (us := us) (fun u hu => hs u (by simp [hu]))
    simp only [List.take_succ_cons]
    simp only [flat, List.flatMap_cons] at ih ⊢
    have e1 : List.take (sz + n * sz) x.cells.toList = x.cells.toList := List.take_of_length_le (by omega)
    rw [ih, Nat.add_mul, Nat.one_mul, Nat.add_comm, List.take_append, hx, e1, show sz + n * sz - sz = n * sz by omega]

theorem ia_sound {t e' : TypeId} {sz : Nat} {a i r : AV} {v vi : Value} (hu : P.underlying t = some (.slice e')) (hz : szT P e' = some sz) (hH : RelH st w H) (hv : RelV st a v) (hi : RelV st i vi)
    (hr : iaA H sz a i = some r) : ∃ u, (Instr.indexAt t v vi).run P w = .ok u w ∧ RelV st r u := by
  unfold iaA at hr
  split at hr
  · rename_i sz' es k n
    split at hr
    · rename_i hc
      obtain ⟨rfl, hn⟩ := hc
      split at hr
      · rename_i el hel
        split at hr
        · rename_i cs hcs
          simp only [Option.some.injEq] at hr; subst hr
          simp only [RelV] at hi; subst hi
          simp only [RelV] at hv
          obtain ⟨a', cap, us, rfl, hcap, h2, h3, h4⟩ := hv
          have hlt : n.toNat < es.length := (List.getElem?_eq_some_iff.1 hel).1
          obtain ⟨b, o, rfl, h5⟩ := h4 (by intro h; simp [h] at hlt)
          obtain ⟨u, hu1, hu2⟩ := h2.get hel
          refine ⟨.pointer (some ⟨b, o + n.toNat * sz, none⟩), ?_, ?_⟩
          · have hb : 0 ≤ n ∧ n < (es.length : Int) := ⟨hn, by omega⟩
            simp [Instr.indexAt, asIntOf, run_underlying' hu, hb, run_sizeOf' hz, addr_add]
          · simp only [RelV]
            refine ⟨b, o + n.toNat * sz, u.cells.toList, rfl, (hu2.cells hcs).1, fun j c hc => ?_⟩
            rw [Nat.add_assoc]; exact h5 _ c (flat_get h3 hu1 j c hc)
        · cases hr
      · cases hr
    · cases hr
  · rename_i sz' id g off len k n
    split at hr
    · rename_i hc
      obtain ⟨rfl, hn, hlt, hl⟩ := hc
      simp only [Option.some.injEq] at hr; subst hr
      simp only [RelV] at hi; subst hi
      obtain ⟨l, a', cap, h1, h2, rfl, h3, h4⟩ := relV_ms_live hH hl hv
      obtain ⟨b, o, r', h5, rfl, h6⟩ := h4 (by omega)
      refine ⟨.pointer (some ⟨b, o + off + n.toNat * sz, none⟩), ?_, ?_⟩
      · simp [Instr.indexAt, asIntOf, run_underlying' hu, hn, hlt, run_sizeOf' hz, addr_add]
      · simp only [RelV]
        exact ⟨l, h1, by omega, fun h => absurd h (by omega), fun _ => ⟨b, o, r', h5, by simp [Nat.add_assoc]⟩⟩
    · cases hr
  · cases hr

theorem iaa_sound {t e' : TypeId} {len sz : Nat} {a i r : AV} {v vi : Value} (hu : P.underlying t = some (.array len e')) (hz : szT P e' = some sz) (hH : RelH st w H) (hv : RelV st a v) (hi : RelV st i vi)
    (hr : iaaA H len sz a i = some r) : ∃ u, (Instr.indexAt t v vi).run P w = .ok u w ∧ RelV st r u := by
  have key : ∀ (b o : Nat) (k : IntKind) (n : Int), 0 ≤ n → n < (len : Int) → (Instr.indexAt t (.pointer (some ⟨b, o, none⟩)) (.int k n)).run P w = .ok (.pointer (some ⟨b, o + n.toNat * sz, none⟩)) w := by
    intro b o k n h1 h2
    simp [Instr.indexAt, asIntOf, run_underlying' hu, h1, h2, run_sizeOf' hz, addr_add, Instr.sureAddr]
  unfold iaaA at hr
  split at hr
  · rename_i cs k n
    split at hr
    · rename_i hc
      simp only [Option.some.injEq] at hr; subst hr
      simp only [RelV] at hi; subst hi
      simp only [RelV] at hv
      obtain ⟨b, o, us, rfl, h2, h3⟩ := hv
      refine ⟨_, key b o k n hc.1 hc.2, ?_⟩
      simp only [RelV]
      exact ⟨b, o + n.toNat * sz, us.drop (n.toNat * sz), rfl, h2.drop _, fun i c hc => by rw [List.getElem?_drop] at hc; rw [Nat.add_assoc]; exact h3 _ c hc⟩
    · cases hr
  · rename_i id g o k n
    split at hr
    · rename_i hc
      obtain ⟨hn, hlt, hl⟩ := hc
      simp only [Option.some.injEq] at hr; subst hr
      simp only [RelV] at hi; subst hi
      obtain ⟨l, b, o', r', h1, h2, h3, rfl⟩ := relV_mp_live hH hl hv
      refine ⟨_, key b (o' + o) k n hn hlt, ?_⟩
      simp only [RelV]
      exact ⟨l, h1, by omega, fun h => absurd h (by omega), fun _ => ⟨b, o', r', h3, by simp [Nat.add_assoc]⟩⟩
    · cases hr
  · cases hr
end Go.Sas
