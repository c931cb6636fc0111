/-
An abstract machine over values, part 6: every operation that changes nothing, in one statement.
An abstract machine over values, part 7: the operations that write or make objects.
An abstract machine over values, part 8: code, what it is to run the rest of a body, and the rules.
An abstract machine over values, part 9: the rules for operations, calls and loops; contracts of functions.
An abstract machine over values, part 10: from a body to a contract; freezing; runs of plain steps.
Conditions: none.
-/
import Derived.Test.YtndnjmpebpampaaGreatDoorP1
import Derived.Great.BuildSlice
import Derived.Laws.BytesArg
import Derived.Laws.CopyRow
import Derived.RangeFuncLeaves
import Derived.RangeFuncRecord
set_option linter.unusedVariables false
set_option linter.unusedSimpArgs false
namespace Go.Sas
variable {P : Program} {K : List Nat} {mu : Bool} {st : St} {w : World} {H : AHeap} {ρ : Operand → Value} {e : Od → AV} {o : Oper} {ao : AOp} {r : AV}

/-- The operation, run: it yields a value that fits, and a world that fits. -/
def StepV (P : Program) (ρ : Operand → Value) (o : Oper) (st : St) (w : World) (r : AV) (H' : AHeap) : Prop :=
  ∃ v w' st', ((execOp ρ o).run P w = .ok (.value v) w' ∨ ((execOp ρ o).run P w = .ok .skip w' ∧ v = undef)) ∧ Ext st w st' w' ∧ RelH st' w' H' ∧ RelV st' r v

theorem StepV.same (hH : RelH st w H) {v : Value} (h : (execOp ρ o).run P w = .ok (.value v) w) (hr : RelV st r v) : StepV P ρ o st w r H :=
  ⟨v, w, st, .inl h, .refl _ _, hH, hr⟩

theorem zrT_spec {t : TypeId} {z : List Value} (h : zrT P t = some z) : ∃ i zv, P.info? t = some i ∧ i.zero = some zv ∧ zv.cells.toList = z ∧ ∀ u ∈ z, Scal u := by
  unfold zrT at h
  split at h
  · rename_i zv hz
    split at h
    · rename_i hc
      simp only [Option.some.injEq] at h; subst h
      obtain ⟨i, hi, hz'⟩ := Option.bind_eq_some_iff.1 hz
      exact ⟨i, zv, hi, hz', rfl, fun u hu => scal_of_oneCell (Array.all_eq_true'.1 hc u (by simpa using hu))⟩
    · cases h
  · cases h

theorem slT_spec {t e' : TypeId} (h : slT P t = some e') : P.underlying t = some (.slice e') := by
  unfold slT at h
  split at h
  · rename_i x hx; simp only [Option.some.injEq] at h; subst h; exact hx
  · cases h

theorem szT_spec {t : TypeId} {n : Nat} (h : szT P t = some n) : ∃ i, P.info? t = some i ∧ i.size = n := by
  unfold szT at h
  obtain ⟨i, hi, hn⟩ := Option.map_eq_some_iff.1 h
  exact ⟨i, hi, hn⟩

theorem ods_length : ∀ {xs : List Operand} {ys : List Od}, ods K xs = some ys → ys.length = xs.length
  | [], ys, h => by simp only [ods, Option.some.injEq] at h; subst h; rfl
  | x :: xs, ys, h => by
    simp only [ods] at h
    split at h
    · rename_i y ys' h1 h2
      simp only [Option.some.injEq] at h; subst h
      simp [ods_length h2]
    · cases h

theorem build_sound {t : TypeId} {parts : Array (Nat × Operand)} (hop : o.op = .build t parts) (htr : trOp P K mu o = some ao) (hρ : RelO st K e ρ) (hH : RelH st w H) (hv : opVal e H ao = some r) : StepV P ρ o st w r H := by
  simp only [trOp, hop] at htr
  have fin : ∀ (z : List Value) (ps : List (Nat × Nat × Od)) (pl : Nat → Option (Nat × Nat)), zrT P t = some z → trParts pl K parts.toList = some ps → opVal e H (.mk z ps) = some r →
      (∀ cells : Array Value, ∀ i zv, P.info? t = some i → i.zero = some zv → Instr.fill pl zv.cells (parts.toList.map fun (i, x) => (i, ρ x)) = some cells → P.built t (parts.map fun (i, x) => (i, ρ x)).toList = some cells) → StepV P ρ o st w r H := by
    intro z ps pl hz hp hv hb
    simp only [opVal] at hv
    obtain ⟨cs, hcs, rfl⟩ := Option.map_eq_some_iff.1 hv
    obtain ⟨i, zv, hi, hzv, rfl, hs⟩ := zrT_spec hz
    obtain ⟨cells, h1, h2, h3⟩ := fillA_sound hρ (cells := zv.cells) hp (RelL.lits _) hs hcs
    have hrun := run_build w t (parts.map fun (i, x) => (i, ρ x)) cells (hb cells i zv hi hzv h1)
    refine StepV.same hH (v := .agg cells) (by simp [execOp, hop, hrun]) ?_
    simp only [RelV]
    exact ⟨cells, rfl, h2, h3⟩
  split at htr
  · rename_i fs z hu hz
    split at htr
    · rename_i pls hpl
      obtain ⟨ps, hps, rfl⟩ := Option.map_eq_some_iff.1 htr
      refine fin z ps _ hz hps hv fun cells i zv hi hzv hf => ?_
      have hf' : Instr.fill (fun x => pls[x]?) zv.cells (parts.toList.map fun (i, x) => (i, ρ x)) = some cells := hf
      simp only [Program.built, hi, hu, hzv, hpl, Array.toList_map]
      simpa using hf'
    · cases htr
  · rename_i n e' z hu hz
    split at htr
    · rename_i sz hsz
      obtain ⟨ps, hps, rfl⟩ := Option.map_eq_some_iff.1 htr
      refine fin z ps _ hz hps hv fun cells i zv hi hzv hf => ?_
      obtain ⟨ie, hie, hn⟩ := szT_spec hsz
      simp only [Program.built, hi, hu, hzv, hie, hn, Array.toList_map]
      exact hf
    · cases htr
  · cases htr

/-- the block of a slice literal -/
theorem buildSlice_run {t : TypeId} {len sz : Nat} {parts : Array (Nat × Operand)} {e' : TypeId} {z : List Value} (hop : o.op = .buildSlice t len parts) (hu : P.underlying t = some (.slice e')) (hsz : szT P e' = some (sz + 1)) (hz : zrT P e' = some z)
    (hidx : parts.toList.map (·.1) = List.range len) (hle : len * (sz + 1) ≤ 16777216) (hcs : ∀ u ∈ (parts.toList.map (·.2)).map ρ, u.cells.size = sz + 1) (hz0 : z.length = sz + 1) :
    (execOp ρ o).run P w = .ok (.value (.slice (some ⟨w.heap.size, 0, none⟩) len len)) (w.alloc (.cells (flat ((parts.toList.map (·.2)).map ρ)).toArray e')) := by
  obtain ⟨i, zv, hi, hzv, rfl, hs⟩ := zrT_spec hz
  obtain ⟨i', hi', hn⟩ := szT_spec hsz
  rw [hi] at hi'; cases hi'
  have hlen : parts.toList.length = len := by have := congrArg List.length hidx; simpa using this
  have hparts : (parts.map fun (i, x) => (i, ρ x)).toList = ((((parts.toList.map (·.2)).map ρ).zipIdx 0).map fun x => (x.2, x.1)) := by
    apply List.ext_getElem?
    intro j
    simp only [Array.toList_map, List.getElem?_map, List.getElem?_zipIdx, Option.map_map]
    cases hj : parts.toList[j]? with
    | none => simp [hj]
    | some p =>
      have h1 : (parts.toList.map (·.1))[j]? = some p.1 := by simp [hj]
      rw [hidx] at h1
      have hjl : j < len := by
        rcases Nat.lt_or_ge j len with h | h
        · exact h
        · rw [List.getElem?_eq_none (by simpa using h)] at h1; cases h1
      rw [List.getElem?_range hjl] at h1
      simp at h1
      simp [hj, h1]
  have hsmall : ¬ len * i.size > 2 ^ 24 := by rw [hn]; omega
  by_cases hl0 : len = 0
  · subst hl0
    have hp0 : parts.toList = [] := List.length_eq_zero_iff.1 hlen
    have hp1 : parts = #[] := by cases parts; simp_all
    subst hp1
    have h0 : (Array.range 0).map (fun _ => (default : Value)) = #[] := by simp
    simp only [execOp, hop, Instr.buildSlice, Sem.run_bind, run_underlying' hu, sizeOf, typeInfo, zeroValue, hi, hzv, Result.andThen_ok, run_program, Nat.zero_mul]
    simp [Instr.fill, newRow, flat, h0]
  · have hpos : ¬ len * i.size = 0 := by rw [hn]; intro h; rcases Nat.mul_eq_zero.1 h with h | h <;> omega
    have hrun := run_buildSlice (P := P) w t e' len (parts.map fun (i, x) => (i, ρ x)) (flat ((parts.toList.map (·.2)).map ρ)).toArray i zv hu hi hzv hsmall hpos (by
      rw [hparts, hn]
      rw [fill_full (sz + 1) ((parts.toList.map (·.2)).map ρ) 0 _ hcs (by simp at hlen ⊢; rw [hlen])]
      simp)
    simp [execOp, hop, hrun]

theorem mks_sound {t : TypeId} {len : Nat} {parts : Array (Nat × Operand)} (hop : o.op = .buildSlice t len parts) (htr : trOp P K mu o = some ao) (hρ : RelO st K e ρ) (hH : RelH st w H) (hv : opVal e H ao = some r) : StepV P ρ o st w r H := by
  simp only [trOp, hop] at htr
  split at htr
  · rename_i e' he
    split at htr
    · rename_i sz z hsz hz
      split at htr
      · rename_i hc
        obtain ⟨hzl, hidx, hle⟩ := hc
        obtain ⟨xs, hxs, rfl⟩ := Option.map_eq_some_iff.1 htr
        cases mu with
        | true => simp [opVal] at hv
        | false =>
          have hL := hρ.list hxs
          have hxl := ods_length hxs
          have hlen : parts.toList.length = len := by have := congrArg List.length hidx; simpa using this
          simp only [opVal] at hv
          split at hv
          · simp only [Option.some.injEq] at hv; subst hv
            have hl0 : len = 0 := by simp at hxl hlen; omega
            subst hl0
            have hp0 : parts.toList = [] := List.length_eq_zero_iff.1 hlen
            have hrun := buildSlice_run (w := w) (ρ := ρ) hop (slT_spec he) hsz hz hidx hle (fun u hu => by simp [hp0] at hu) hzl
            obtain ⟨st', hext, hH', hrd⟩ := push_imm hH (flat ((parts.toList.map (·.2)).map ρ)) (fun c hc => by simp [hp0, flat] at hc) e'
            refine ⟨_, _, st', .inl hrun, hext, hH', ?_⟩
            simp only [RelV]
            exact ⟨_, rfl⟩
          · split at hv
            · rename_i hok
              simp only [Option.some.injEq] at hv; subst hv
              simp only [elemsOk, elemsLen, Bool.and_eq_true, List.all_eq_true] at hok
              have hcells : ∀ u ∈ (parts.toList.map (·.2)).map ρ, u.cells.size = sz + 1 ∧ ∀ c ∈ u.cells.toList, Scal c := by
                intro u hu
                obtain ⟨j, hj⟩ := List.mem_iff_getElem?.1 hu
                obtain ⟨a, ha, hra⟩ := hL.getr hj
                have hall := hok.2 a (List.mem_of_getElem? ha)
                split at hall
                · rename_i cs hcs
                  obtain ⟨h1, h2⟩ := hra.cells hcs
                  exact ⟨by have := h1.length; simp at this hall; omega, h2⟩
                · cases hall
              have hrun := buildSlice_run (w := w) (ρ := ρ) hop (slT_spec he) hsz hz hidx hle (fun u hu => (hcells u hu).1) hzl
              obtain ⟨st', hext, hH', hrd⟩ := push_imm hH (flat ((parts.toList.map (·.2)).map ρ)) (fun c hc => by
                simp only [flat, List.mem_flatMap] at hc
                obtain ⟨u, hu, hc⟩ := hc
                exact (hcells u hu).2 c hc) e'
              refine ⟨_, _, st', .inl hrun, hext, hH', ?_⟩
              simp only [RelV]
              have hl2 : (xs.map e).length = len := by simp at hxl hlen ⊢; omega
              exact ⟨_, len, _, by rw [hl2], by rw [hl2]; exact Nat.le_refl _, RelL.nid (st' := st'.pure) hext.le.rd hok.1 hL, fun u hu => (hcells u hu).1, fun _ => ⟨_, 0, rfl, hrd⟩⟩
            · cases hv
      · cases htr
    · cases htr
  · cases htr

theorem trBin_spec {op : BinOp} {t : TypeId} {x y : Operand} {x' y' : Od} (hop : ∃ yt, o.op = .binOp op t x y yt) (hx : od K x = some x') (hy : od K y = some y') (htr : trBin P op t x' y' = some ao)
    (hc : ∀ a, e (.c a) = a) (hρ : RelO st K e ρ) (hH : RelH st w H) (hv : opVal e H ao = some r) : StepV P ρ o st w r H := by
  obtain ⟨yt, hop⟩ := hop
  have hxx := hρ x x' hx
  have hyy := hρ y y' hy
  have hex : ∀ v, (do eqGuard op t x y (ρ x) (ρ y); binOp op t (ρ x) (ρ y) : Sem Value).run P w = .ok v w → (execOp ρ o).run P w = .ok (.value v) w := by
    intro v h
    simp only [execOp, hop, Sem.run_bind] at h ⊢
    revert h
    generalize (eqGuard op t x y (ρ x) (ρ y)).run P w = g
    cases g with
    | halt h w' => simp
    | ok u w' =>
      simp only [Result.andThen_ok]
      intro h
      simp [h]
  have hint : opVal e H (.bin op x' y') = some r → StepV P ρ o st w r H := fun hv => by
    simp only [opVal] at hv
    obtain ⟨v, h1, h2⟩ := bin_sound (P := P) (t := t) (x := x) (y := y) hxx hyy hv
    exact StepV.same hH (hex v h1) h2
  have hbool : ∀ neg : Bool, op = (if neg then .neq else .eql) → P.underlying t = some .bool → opVal e H (.binb neg x' y') = some r → StepV P ρ o st w r H := fun neg ho hu hv => by
    simp only [opVal] at hv
    split at hv
    · rename_i i j h1 h2
      simp only [Option.some.injEq] at hv; subst hv
      rw [h1] at hxx; rw [h2] at hyy
      simp only [RelV] at hxx hyy
      have := binb_sound (P := P) (w := w) (x := x) (y := y) (neg := neg) (i := i) (j := j) hu
      rw [← ho, ← hxx, ← hyy] at this
      exact StepV.same hH (hex _ this) relLit
    · cases hv
  have hsl : ∀ (neg : Bool) (e' : TypeId), op = (if neg then .neq else .eql) → P.underlying t = some (.slice e') → y' = .c (.lit (.slice none 0 0)) → opVal e H (.eqn neg x') = some r → StepV P ρ o st w r H := fun neg e' ho hu hy' hv => by
    simp only [opVal] at hv
    obtain ⟨b, hb, rfl⟩ := Option.map_eq_some_iff.1 hv
    have hyv : ρ y = .slice none 0 0 := by
      have : RelV st (e y') (ρ y) := hyy
      rw [hy', hc] at this
      simpa only [RelV] using this
    have := eqn_sound (P := P) (x := x) (y := y) (neg := neg) hu hH hxx hb
    rw [← ho, ← hyv] at this
    exact StepV.same hH (hex _ this) relLit
  have hif : ∀ (neg : Bool) (ms : Array (String × TypeId)), op = (if neg then .neq else .eql) → P.underlying t = some (.interface ms) → y' = .c (.lit .nilIface) → opVal e H (.eqi neg x') = some r → StepV P ρ o st w r H := fun neg ms ho hu hy' hv => by
    simp only [opVal] at hv
    obtain ⟨b, hb, rfl⟩ := Option.map_eq_some_iff.1 hv
    have hyv : ρ y = .nilIface := by
      have : RelV st (e y') (ρ y) := hyy
      rw [hy', hc] at this
      simpa only [RelV] using this
    obtain ⟨c, hyc⟩ : ∃ c, y = .const c := by
      rw [hy'] at hy
      cases y with
      | const c => exact ⟨c, rfl⟩
      | tmp t => simp only [od, Option.some.injEq] at hy; split at hy <;> cases hy
      | func f => simp [od] at hy
      | global g => simp [od] at hy
    have := eqi_sound (P := P) (w := w) (x := x) (c := c) (neg := neg) hu hxx hb
    rw [← ho, ← hyv, ← hyc] at this
    exact StepV.same hH (hex _ this) relLit
  have hst : ∀ (neg : Bool), op = (if neg then .neq else .eql) → ((∃ fs, P.underlying t = some (.struct fs)) ∨ ∃ n e, P.underlying t = some (.array n e)) → (trEqs P t).map (fun sh => AOp.eqs neg sh x' y') = some ao → StepV P ρ o st w r H := fun neg ho hu hs => by
    obtain ⟨sh, hs2, rfl⟩ := Option.map_eq_some_iff.1 hs
    simp only [opVal] at hv
    obtain ⟨b, hb, rfl⟩ := Option.map_eq_some_iff.1 hv
    have := eqs_sound (P := P) (w := w) (x := x) (y := y) (neg := neg) hu hs2 hxx hyy hb
    rw [← ho] at this
    exact StepV.same hH (hex _ this) relLit
  unfold trBin at htr
  split at htr
  · rename_i hu; simp only [Option.some.injEq] at htr; subst htr; exact hbool false rfl hu hv
  · rename_i hu; simp only [Option.some.injEq] at htr; subst htr; exact hbool true rfl hu hv
  · rename_i e' hu
    split at htr
    · simp only [Option.some.injEq] at htr; subst htr; exact hsl false e' rfl hu rfl hv
    · cases htr
  · rename_i e' hu
    split at htr
    · simp only [Option.some.injEq] at htr; subst htr; exact hsl true e' rfl hu rfl hv
    · cases htr
  · rename_i ms hu
    split at htr
    · simp only [Option.some.injEq] at htr; subst htr; exact hif false ms rfl hu rfl hv
    · cases htr
  · rename_i ms hu
    split at htr
    · simp only [Option.some.injEq] at htr; subst htr; exact hif true ms rfl hu rfl hv
    · cases htr
  · rename_i fs hu; exact hst false rfl (.inl ⟨_, hu⟩) htr
  · rename_i fs hu; exact hst true rfl (.inl ⟨_, hu⟩) htr
  · rename_i n e' hu; exact hst false rfl (.inr ⟨_, _, hu⟩) htr
  · rename_i n e' hu; exact hst true rfl (.inr ⟨_, _, hu⟩) htr
  · simp only [Option.some.injEq] at htr; subst htr; exact hint hv
  · simp only [Option.some.injEq] at htr; subst htr; exact hint hv
  · cases htr

theorem od_map {f : Od → AOp} {x : Operand} (h : (od K x).map f = some ao) : ∃ y, od K x = some y ∧ f y = ao := Option.map_eq_some_iff.1 h

theorem call_val_sound {c : Call} (hop : o.op = .call c) (htr : trCall P K c = some ao) (hρ : RelO st K e ρ) (hH : RelH st w H) (hv : opVal e H ao = some r) : StepV P ρ o st w r H := by
  unfold trCall at htr
  split at htr
  · split at htr
    · simp only [Option.some.injEq] at htr; subst htr; simp [opVal] at hv
    · cases htr
  · cases htr
  · rename_i b hb
    obtain ⟨callee, args, argTypes⟩ := c
    simp only at hb htr; subst hb
    have hex : ∀ (S : Array TypeId → TypeId → Array Value → Sem Value) (v : Value), (∀ cs as, builtin b argTypes o.type cs as = (do pure (.value (← S argTypes o.type as)) : Sem Next)) → (S argTypes o.type (args.map ρ)).run P w = .ok v w →
        (execOp ρ o).run P w = .ok (.value v) w := by
      intro S v hS hr
      simp only [execOp, hop, resolve, Sem.run_bind, Sem.run_pure, Result.andThen_ok, invoke, hS, hr]
    split at htr
    · rename_i x t hargs htys
      have ha : args = #[x] := by cases args; simp_all
      have ht : argTypes = #[t] := by cases argTypes; simp_all
      subst ha; subst ht
      split at htr
      · rename_i e' y hu hy
        simp only [Option.some.injEq] at htr; subst htr
        simp only [opVal] at hv
        obtain ⟨u, h1, h2⟩ := len_sound (P := P) (t := t) (ty := o.type) hu hH (hρ x y hy) hv
        exact StepV.same hH (hex Builtin.len_ u (fun _ _ => rfl) (by simpa using h1)) h2
      · rename_i y hu hy
        simp only [Option.some.injEq] at htr; subst htr
        simp only [opVal] at hv
        have hxx := hρ x y hy
        split at hv
        · rename_i s hs
          simp only [Option.some.injEq] at hv; subst hv
          rw [hs] at hxx; simp only [RelV] at hxx
          exact StepV.same hH (hex Builtin.len_ (.int .i64 s.size) (fun _ _ => rfl) (by simp [Builtin.len_, run_underlying' hu, goInt, hxx])) relLit
        · cases hv
      · rename_i n e' y hu hy
        simp only [Option.some.injEq] at htr; subst htr
        simp only [opVal, Option.some.injEq] at hv; subst hv
        exact StepV.same hH (hex Builtin.len_ (.int .i64 n) (fun _ _ => rfl) (by simp [Builtin.len_, run_underlying' hu, goInt])) relLit
      · cases htr
    · split at htr
      · split at htr
        · split at htr
          · simp only [Option.some.injEq] at htr; subst htr; simp [opVal] at hv
          · cases htr
        · cases htr
      · cases htr
    · split at htr
      · split at htr
        · simp only [Option.some.injEq] at htr; subst htr; simp [opVal] at hv
        · cases htr
      · cases htr
    · obtain ⟨ys, hys, rfl⟩ := Option.map_eq_some_iff.1 htr
      simp only [opVal] at hv
      have hL := hρ.list hys
      split at hv
      · rename_i a as heq
        rw [heq] at hL
        obtain ⟨u, us, hus, h1, h2⟩ := hL.uncons
        obtain ⟨v, h3, h4⟩ := mx_sound (P := P) (w := w) (m2 := Builtin.max2) (fun k k' a b => rfl) h1 h2 hv
        exact StepV.same hH (hex Builtin.max_ v (fun _ _ => rfl) (by simp only [Builtin.max_, Array.toList_map]; rw [hus]; exact h3)) h4
      · cases hv
    · obtain ⟨ys, hys, rfl⟩ := Option.map_eq_some_iff.1 htr
      simp only [opVal] at hv
      have hL := hρ.list hys
      split at hv
      · rename_i a as heq
        rw [heq] at hL
        obtain ⟨u, us, hus, h1, h2⟩ := hL.uncons
        obtain ⟨v, h3, h4⟩ := mx_sound (P := P) (w := w) (m2 := Builtin.min2) (fun k k' a b => rfl) h1 h2 hv
        exact StepV.same hH (hex Builtin.min_ v (fun _ _ => rfl) (by simp only [Builtin.min_, Array.toList_map]; rw [hus]; exact h3)) h4
      · cases hv
    · cases htr

theorem bytesL_rel {st : St} : ∀ {es : List AV} {ns : List Int} {us : List Value}, bytesL es = some ns → RelL st es us → us = ns.map (Value.int .u8) ∧ es.length = ns.length
  | [], ns, us, h, hr => by
    simp only [bytesL, Option.some.injEq] at h; subst h
    simp only [RelL] at hr
    exact ⟨hr, rfl⟩
  | a :: r, ns, us, h, hr => by
    obtain ⟨u, us', rfl, h1, h2⟩ := hr.uncons
    unfold bytesL at h
    split at h
    · cases ‹a :: r = []›
    · rename_i n r' he
      cases he
      split at h
      · rename_i ns' hns
        cases h
        obtain ⟨g1, g2⟩ := bytesL_rel hns h2
        simp only [RelV] at h1
        exact ⟨by rw [h1, g1]; rfl, by simp [g2]⟩
      · cases h
    · cases h
theorem cvs_run {st : St} {w : World} {H : AHeap} {s d e' : TypeId} {es : List AV} {n : Int} {ns : List Int} {v : Value} (hH : RelH st w H) (hv : RelV st (.vs 1 es) v) (hns : bytesL es = some (n :: ns)) (h1 : P.underlying s = some (.slice e')) (he : P.underlying e' = some (.int .u8)) (h2 : P.underlying d = some .string) :
    (convert s d v).run P w = .ok (.string (strN (n :: ns))) w := by
  simp only [RelV] at hv
  obtain ⟨a, cap, us, rfl, _, hu, _, hd⟩ := hv
  obtain ⟨rfl, hl⟩ := bytesL_rel hns hu
  obtain ⟨b, o, rfl, hD⟩ := hd (by intro h; rw [h] at hl; cases hl)
  have hf : flat ((n :: ns).map (Value.int .u8)) = (n :: ns).map (Value.int .u8) := by
    generalize n :: ns = l
    induction l with
    | nil => rfl
    | cons x l ih =>
      simp only [flat, List.map_cons, List.flatMap_cons] at ih ⊢
      rw [ih]; rfl
  rw [hf] at hD
  exact run_convert_bytes_arg (P := P) w s e' h1 he b o es.length cap (n :: ns) hl.symm (fun i hi => by
    have hi' : i < (n :: ns).length := by omega
    have := hD i (.int .u8 ((n :: ns).getD i 0)) (by
      rw [List.getElem?_map, List.getElem?_eq_getElem hi', List.getD, List.getElem?_eq_getElem hi']
      rfl)
    exact (hH.rd _ _ _ this).2.1) d h2
theorem opVal_sound (hc : ∀ a, e (.c a) = a) (htr : trOp P K mu o = some ao) (hρ : RelO st K e ρ) (hH : RelH st w H) (hv : opVal e H ao = some r) : StepV P ρ o st w r H := by
  cases hop : o.op
  case build => exact build_sound hop htr hρ hH hv
  case buildSlice => exact mks_sound hop htr hρ hH hv
  all_goals simp only [trOp, hop] at htr
  all_goals first | (cases htr; done) | skip
  case move x =>
    obtain ⟨y, hy, rfl⟩ := od_map htr
    simp only [opVal, Option.some.injEq] at hv; subst hv
    exact StepV.same hH (by simp [execOp, hop]) (hρ x y hy)
  case assign x =>
    obtain ⟨y, hy, rfl⟩ := od_map htr
    simp only [opVal, Option.some.injEq] at hv; subst hv
    exact StepV.same hH (by simp [execOp, hop]) (hρ x y hy)
  case pick c a b =>
    split at htr
    · rename_i c' a' b' h1 h2 h3
      simp only [Option.some.injEq] at htr; subst htr
      simp only [opVal] at hv
      split at hv
      · rename_i t ht
        simp only [Option.some.injEq] at hv; subst hv
        have hcc := hρ c c' h1
        rw [ht] at hcc; simp only [RelV] at hcc
        cases t
        · exact StepV.same hH (v := ρ b) (by simp [execOp, hop, hcc, asBool]) (hρ b b' h3)
        · exact StepV.same hH (v := ρ a) (by simp [execOp, hop, hcc, asBool]) (hρ a a' h2)
      · cases hv
    · cases htr
  case alloc => split at htr <;> first | (split at htr <;> first | (cases htr; done) | (simp only [Option.some.injEq] at htr; subst htr; simp [opVal] at hv)) | cases htr
  case box => obtain ⟨y, hy, rfl⟩ := od_map htr; simp [opVal] at hv
  case load t a =>
    split at htr
    · rename_i n a' h1 h2
      simp only [Option.some.injEq] at htr; subst htr
      simp only [opVal] at hv
      obtain ⟨u, h3, h4⟩ := ld_sound h1 hH (hρ a a' h2) hv
      exact StepV.same hH (by simp [execOp, hop, h3]) h4
    · cases htr
  case store => split at htr <;> first | (simp only [Option.some.injEq] at htr; subst htr; simp [opVal] at hv) | cases htr
  case nilCheck x =>
    obtain ⟨y, hy, rfl⟩ := od_map htr
    simp only [opVal] at hv
    obtain ⟨h1, h2⟩ := nilc_sound (P := P) hop rfl hH (hρ x y hy) hv
    exact StepV.same hH h1 h2
  case binOp op t x y yt =>
    split at htr
    · rename_i x' y' h1 h2
      exact trBin_spec ⟨yt, hop⟩ h1 h2 htr hc hρ hH hv
    · cases htr
  case unOp op t x =>
    obtain ⟨y, hy, rfl⟩ := od_map htr
    simp only [opVal] at hv
    have hxx := hρ x y hy
    split at hv
    · rename_i b hb
      simp only [Option.some.injEq] at hv; subst hv
      rw [hb] at hxx; simp only [RelV] at hxx
      exact StepV.same hH (by simp [execOp, hop, hxx, Op.unary]) relLit
    · rename_i k n hb
      simp only [Option.some.injEq] at hv; subst hv
      rw [hb] at hxx; simp only [RelV] at hxx
      exact StepV.same hH (v := .int k (k.wrap (0 - n))) (by simp [execOp, hop, hxx, Op.unary, Op.intArith]) relLit
    · cases hv
  case convert s d x =>
    split at htr
    · rename_i ds k x' h1 h2 h3
      simp only [Option.some.injEq] at htr; subst htr
      simp only [opVal] at hv
      have hxx := hρ x x' h3
      split at hv
      · rename_i k' n hb
        simp only [Option.some.injEq] at hv; subst hv
        rw [hb] at hxx; simp only [RelV] at hxx
        exact StepV.same hH (v := .int k (k.wrap n)) (by simp [execOp, hop, hxx, convert, run_underlying' h1, run_underlying' h2, Conv.intToInt]) relLit
      · cases hv
    · rename_i e' x' h1 h2 h3
      split at htr
      · rename_i he
        simp only [Option.some.injEq] at htr; subst htr
        simp only [opVal] at hv
        have hxx := hρ x x' h3
        split at hv
        · rename_i es hb
          split at hv
          · rename_i n ns hns
            simp only [Option.some.injEq] at hv; subst hv
            rw [hb] at hxx
            exact StepV.same hH (v := .string (strN (n :: ns))) (by
              have := cvs_run (P := P) hH hxx hns h1 he h2
              simp [execOp, hop, this]) relLit
          · cases hv
        · cases hv
      · cases htr
    · cases htr
  case makeFunc f first caps =>
    cases f <;> simp only at htr
    case func f =>
      split at htr
      · rename_i hfl
        split at htr
        · rename_i hsz
          obtain ⟨ys, hys, rfl⟩ := Option.map_eq_some_iff.1 htr
          simp only [opVal, Option.some.injEq] at hv; subst hv
          have h0 : first = #[] := Array.eq_empty_of_size_eq_zero hsz
          subst h0
          refine StepV.same hH (v := .func (.func f) #[] (caps.map ρ)) (by simp [execOp, hop, Instr.makeFunc]) ?_
          simp only [RelV]
          exact ⟨caps.map ρ, by rw [fnV, if_pos hfl], by simpa using hρ.list hys⟩
        · split at htr
          · rename_i hsz
            obtain ⟨ys, hys, rfl⟩ := Option.map_eq_some_iff.1 htr
            simp only [opVal, Option.some.injEq] at hv; subst hv
            have h0 : caps = #[] := Array.eq_empty_of_size_eq_zero hsz
            subst h0
            refine StepV.same hH (v := .func (.func f) (first.map ρ) #[]) (by simp [execOp, hop, Instr.makeFunc]) ?_
            simp only [RelV]
            exact ⟨first.map ρ, by rw [fnV, if_neg (by omega), Nat.add_sub_cancel], by simpa using hρ.list hys⟩
          · cases htr
      · cases htr
    all_goals cases htr
  case makeSlice => split at htr <;> first | (split at htr <;> first | (split at htr <;> first | (simp only [Option.some.injEq] at htr; subst htr; simp [opVal] at hv) | cases htr) | cases htr) | cases htr
  case slice t x lo hi mx =>
    split at htr
    · rename_i e' x' lo' hi' mx' h1 h2 h3 h4 h5
      split at htr
      · rename_i sz hsz
        split at htr
        · rename_i hmx
          simp only [Option.some.injEq] at htr; subst htr
          simp only [opVal] at hv
          obtain ⟨u, h6, h7⟩ := sl_sound (P := P) h1 hsz (hρ.opt h3) (hρ.opt h4) (hρ.opt h5) (by cases mx' <;> cases hi' <;> simp_all) hH (hρ x x' h2) hv
          exact StepV.same hH (by simp [execOp, hop, h6]) h7
        · cases htr
      · cases htr
    · rename_i x' lo' hi' h1 h2 h3 h4 h5
      simp only [Option.some.injEq] at htr; subst htr
      simp only [opVal] at hv
      obtain ⟨u, h6, h7⟩ := ssl_sound (P := P) (w := w) h1 (hρ.opt h3) (hρ.opt h4) (hρ x x' h2) hv
      have hm : mx = none := by cases mx <;> simp_all [odo]
      subst hm
      exact StepV.same hH (by simp [execOp, hop]; rw [h6]; rfl) h7
    · cases htr
  case fieldAddr s x f =>
    split at htr
    · rename_i off ft x' h1 h2
      simp only [Option.some.injEq] at htr; subst htr
      simp only [opVal] at hv
      obtain ⟨u, h3, h4⟩ := fa_sound h1 hH (hρ x x' h2) hv
      exact StepV.same hH (by simp [execOp, hop, h3]) h4
    · cases htr
  case field t x f =>
    split at htr
    · rename_i off ft x' h1 h2
      split at htr
      · rename_i n hn
        simp only [Option.some.injEq] at htr; subst htr
        simp only [opVal] at hv
        have hxx := hρ x x' h2
        split at hv
        · rename_i cs hcs
          rw [hcs] at hxx; simp only [RelV] at hxx
          obtain ⟨us, hus, h3, h4⟩ := hxx
          obtain ⟨fs, fd, k, hu, hfd, rfl, rfl, hk⟩ := flT_spec h1
          obtain ⟨v, h5, h6⟩ := getN_part (P := P) (w := w) hn h3 h4 hv
          exact StepV.same hH (by simp [execOp, hop, Instr.field, run_underlying' hu, hfd, hus, asAgg, h5]) h6
        · cases hv
      · cases htr
    · cases htr
  case indexAddr t x i =>
    split at htr
    · rename_i e' x' i' h1 h2 h3
      split at htr
      · rename_i sz hsz
        simp only [Option.some.injEq] at htr; subst htr
        simp only [opVal] at hv
        obtain ⟨u, h4, h5⟩ := ia_sound h1 hsz hH (hρ x x' h2) (hρ i i' h3) hv
        exact StepV.same hH (by simp [execOp, hop, h4]) h5
      · cases htr
    · rename_i len e' x' i' h1 h2 h3
      split at htr
      · rename_i sz hsz
        simp only [Option.some.injEq] at htr; subst htr
        simp only [opVal] at hv
        obtain ⟨u, h4, h5⟩ := iaa_sound h1 hsz hH (hρ x x' h2) (hρ i i' h3) hv
        exact StepV.same hH (by simp [execOp, hop, h4]) h5
      · cases htr
    · cases htr
  case index t x i =>
    split at htr
    · rename_i len e' x' i' h1 h2 h3
      split at htr
      · rename_i sz n hsz hn
        simp only [Option.some.injEq] at htr; subst htr
        simp only [opVal] at hv
        have hxx := hρ x x' h2
        have hii := hρ i i' h3
        split at hv
        · rename_i cs k m hcs hm
          split at hv
          · rename_i hb
            rw [hcs] at hxx; rw [hm] at hii; simp only [RelV] at hxx hii
            obtain ⟨us, hus, h4, h5⟩ := hxx
            obtain ⟨v, h6, h7⟩ := getN_part (P := P) (w := w) hn h4 h5 hv
            exact StepV.same hH (by simp [execOp, hop, Instr.index, asIntOf, hii, hus, run_underlying' h1, hb.1, hb.2, run_sizeOf' hsz, h6]) h7
          · cases hv
        · cases hv
      · cases htr
    · rename_i x' i' h1 h2 h3
      simp only [Option.some.injEq] at htr; subst htr
      simp only [opVal] at hv
      have hxx := hρ x x' h2
      have hii := hρ i i' h3
      split at hv
      · rename_i s k m hs hm
        split at hv
        · rename_i hb
          split at hv
          · rename_i b hbb
            simp only [Option.some.injEq] at hv; subst hv
            rw [hs] at hxx; rw [hm] at hii; simp only [RelV] at hxx hii
            exact StepV.same hH (v := .int .u8 b.toNat) (by simp [execOp, hop, Instr.index, asIntOf, hii, hxx, run_underlying' h1, hb, hbb]) relLit
          · cases hv
        · cases hv
      · cases hv
    · cases htr
  case extract x i =>
    obtain ⟨y, hy, rfl⟩ := Option.map_eq_some_iff.1 htr
    simp only [opVal] at hv
    have hxx := hρ x y hy
    split at hv
    · rename_i vs hvs
      rw [hvs] at hxx; simp only [RelV] at hxx
      obtain ⟨us, hus, h2⟩ := hxx
      obtain ⟨u, h3, h4⟩ := h2.get hv
      have h5 : us[i]? = some u := by simpa using h3
      exact StepV.same hH (by simp [execOp, hop, Instr.extract, hus, h5]) h4
    · cases hv
  case call c => exact call_val_sound hop htr hρ hH hv
end Go.Sas
namespace Go.Sas
variable {P : Program} {K : List Nat} {mu : Bool} {st : St} {w : World} {H H' : AHeap} {ρ : Operand → Value} {e : Od → AV} {o : Oper} {ao : AOp} {r : AV}

theorem splice_get {us arr xs : List Value} {o off : Nat} (h : ∀ (i : Nat) (c : Value), us[i]? = some c → arr[o + i]? = some c) (hl : off + xs.length ≤ us.length) (ha : o + us.length ≤ arr.length) :
    ∀ (i : Nat) (c : Value), (us.take off ++ xs ++ us.drop (off + xs.length))[i]? = some c → (arr.take (o + off) ++ xs ++ arr.drop (o + off + xs.length))[o + i]? = some c := by
  intro i c hi
  have l1 : (us.take off).length = off := by simp; omega
  have l2 : (arr.take (o + off)).length = o + off := by simp; omega
  rw [List.append_assoc] at hi ⊢
  rcases Nat.lt_or_ge i off with h1 | h1
  · rw [List.getElem?_append_left (by omega), List.getElem?_take_of_lt h1] at hi
    rw [List.getElem?_append_left (by omega), List.getElem?_take_of_lt (by omega)]
    exact h i c hi
  · rw [List.getElem?_append_right (by omega), l1] at hi
    rw [List.getElem?_append_right (by omega), l2, show o + i - (o + off) = i - off by omega]
    rcases Nat.lt_or_ge (i - off) xs.length with h2 | h2
    · rw [List.getElem?_append_left h2] at hi ⊢; exact hi
    · rw [List.getElem?_append_right h2] at hi ⊢
      rw [List.getElem?_drop] at hi ⊢
      have := h _ c hi
      rw [← this]; congr 1; omega

/-- a row of cells is written into an object -/
theorem write_own (hH : RelH st w H) {id g : Nat} {cs xs : List AV} {vs : List Value} {l : Loc} {b o r off : Nat} (hX : H[id]? = some (.own g cs)) (h1 : st.loc[id]? = some l) (hb : l.base = some (b, o, r))
    (hr : RelL st xs vs) (hs : ∀ v ∈ vs, Scal v) (hle : off + xs.length ≤ cs.length) :
    ∃ st' w', (storeCells ⟨b, o + off, none⟩ vs).run P w = .ok () w' ∧ Ext st w st' w' ∧ RelH st' w' (H.set id (.own g (cs.take off ++ xs ++ cs.drop (off + xs.length)))) ∧ st'.loc[id]? = some l ∧ st.le st' := by
  have hob := hH.obj id l _ h1 hX
  simp only [ObjOk] at hob
  obtain ⟨hg, hob⟩ := hob
  obtain ⟨arr, T, us, ha, ho1, ho2, ho3, ho4, ho5⟩ := hob b o r hb
  have hlen := ho3.length
  have hlv := hr.length
  have hrun := run_storeCells_at (P := P) b (o + off) T vs 0 arr w ha (by omega) (fun v hv => oneCell_of_scal (hs v hv))
  simp only [Nat.add_zero] at hrun
  obtain ⟨hext, hrel, hl⟩ := rel_upd hH (l' := l) (X' := .own g (cs.take off ++ xs ++ cs.drop (off + xs.length))) (w' := w.setRow b (arr.toList.take (o + off) ++ vs ++ arr.toList.drop (o + off + vs.length)).toArray) h1 hX (Nat.le_refl _) (fun _ => rfl) (by simp)
    (fun b' hb' hne => setRow_other w b b' _ (fun he => hne o r (he ▸ hb))) rfl rfl (fun b' o' r' h => .inl ⟨o', r', h⟩) (fun st' hst' => by
      simp only [ObjOk]
      refine ⟨hg, fun b' o' r' h => ?_⟩
      rw [hb] at h; cases h
      refine ⟨_, T, us.take off ++ vs ++ us.drop (off + vs.length), setRow_heap w b arr _ T (0, 0) ha, by simp; omega, by simp; omega, ?_, ?_, ?_⟩
      · rw [hlv]; exact (((ho3.mono hst').take off).append (hr.mono hst')).append ((ho3.mono hst').drop _)
      · intro u hu
        simp only [List.mem_append] at hu
        rcases hu with (hu | hu) | hu
        · exact ho4 u (List.mem_of_mem_take hu)
        · exact hs u hu
        · exact ho4 u (List.mem_of_mem_drop hu)
      · intro i c hi
        have := splice_get (arr := arr.toList) (o := o) (fun i c h => by simpa using ho5 i c h) (by omega) (by simp; omega) i c hi
        simpa using this)
  exact ⟨_, _, hrun, hext, hrel, hl, hext.le⟩

theorem mp_new {st' : St} {n b room : Nat} (h : st'.loc[n]? = some ⟨0, some (b, 0, room)⟩) : RelV st' (.mp n 0 0) (.pointer (some ⟨b, 0, none⟩)) := by
  simp only [RelV]
  exact ⟨_, h, Nat.le_refl _, fun h => absurd h (Nat.lt_irrefl _), fun _ => ⟨b, 0, room, rfl, rfl⟩⟩

theorem new_sound {t : TypeId} (hop : o.op = .alloc t) (htr : trOp P K mu o = some ao) (hH : RelH st w H) (hv : opAct e H ao = some (r, H')) : StepV P ρ o st w r H' := by
  simp only [trOp, hop] at htr
  split at htr
  · rename_i z hz
    split at htr
    · cases htr
    · simp only [Option.some.injEq] at htr; subst htr
      simp only [opAct, Option.some.injEq, Prod.mk.injEq] at hv
      obtain ⟨rfl, rfl⟩ := hv
      obtain ⟨i, zv, hi, hzv, rfl, hs⟩ := zrT_spec hz
      obtain ⟨hext, hrel, hl⟩ := push_own hH (RelL.lits (st := st) zv.cells.toList) hs zv.cells t zv.cells.size (Nat.le_refl _) (by simp) (fun i c h => by simpa using h)
      exact ⟨_, _, _, .inl (by simp [execOp, hop, Instr.alloc, zeroValue, typeInfo, hi, hzv, newVar, newRow]), hext, hrel, mp_new hl⟩
  · cases htr

theorem box_sound {t : TypeId} {x : Operand} (hop : o.op = .box t x) (htr : trOp P K mu o = some ao) (hρ : RelO st K e ρ) (hH : RelH st w H) (hv : opAct e H ao = some (r, H')) : StepV P ρ o st w r H' := by
  simp only [trOp, hop] at htr
  obtain ⟨y, hy, rfl⟩ := od_map htr
  simp only [opAct] at hv
  split at hv
  · rename_i cs hcs
    simp only [Option.some.injEq, Prod.mk.injEq] at hv
    obtain ⟨rfl, rfl⟩ := hv
    obtain ⟨h1, h2⟩ := (hρ x y hy).cells hcs
    have hl := h1.length
    obtain ⟨hext, hrel, hl⟩ := push_own hH h1 h2 (ρ x).cells t (ρ x).cells.size (Nat.le_refl _) (by simp at hl; omega) (fun i c h => by simpa using h)
    exact ⟨_, _, _, .inl (by simp [execOp, hop, Instr.box, newVar, newRow]), hext, hrel, mp_new hl⟩
  · cases hv

theorem st_sound {t : TypeId} {a v : Operand} (hop : o.op = .store t a v) (htr : trOp P K mu o = some ao) (hρ : RelO st K e ρ) (hH : RelH st w H) (hv : opAct e H ao = some (r, H')) : StepV P ρ o st w r H' := by
  simp only [trOp, hop] at htr
  split at htr
  · rename_i n a' v' hn ha hv'
    simp only [Option.some.injEq] at htr; subst htr
    simp only [opAct] at hv
    split at hv
    · rename_i id g off xs he hxs
      split at hv
      · rename_i g' cs hX
        split at hv
        · rename_i hc
          obtain ⟨rfl, hxn, hle⟩ := hc
          simp only [Option.some.injEq, Prod.mk.injEq] at hv
          obtain ⟨rfl, rfl⟩ := hv
          have haa := hρ a a' ha
          rw [he] at haa
          obtain ⟨l, b, o', r', h1, h2, h3, h4⟩ := relV_mp_live hH (live_of_own hX) haa
          obtain ⟨h5, h6⟩ := (hρ v v' hv').cells hxs
          obtain ⟨st', w', h7, h8, h9, _, _⟩ := write_own (P := P) (off := off) hH hX h1 h3 h5 h6 (by omega)
          have hl := h5.length
          have hsz : (ρ v).cells.size = n := by simp at hl; omega
          refine ⟨undef, w', st', .inr ⟨?_, rfl⟩, h8, by rw [hxn] at h9; exact h9, relLit⟩
          simp [execOp, hop, Instr.storeAt, h4, Instr.sureAddr, storeVar, run_sizeOf' hn, hsz, h7]
        · cases hv
      · cases hv
    · cases hv
  · cases htr

/-! ### What a slice shows -/
theorem cells_flat {sz : Nat} : ∀ {es : List AV} {us : List Value} {xs : List AV}, RelL st es us → es.foldr (fun e acc => match e.cells, acc with | some cs, some r => some (cs ++ r) | _, _ => none) (some []) = some xs →
    RelL st xs (flat us) ∧ ∀ c ∈ flat us, Scal c
  | [], us, xs, h, hx => by
    simp only [RelL] at h; subst h
    simp at hx; subst hx
    exact ⟨by simp [flat, RelL], by simp [flat]⟩
  | a :: es, us, xs, h, hx => by
    obtain ⟨u, us', rfl, h1, h2⟩ := h.uncons
    simp only [List.foldr_cons] at hx
    split at hx
    · rename_i cs r hcs hr
      simp only [Option.some.injEq] at hx; subst hx
      obtain ⟨h3, h4⟩ := cells_flat (sz := sz) h2 hr
      obtain ⟨h5, h6⟩ := h1.cells hcs
      simp only [flat, List.flatMap_cons] at h3 h4 ⊢
      exact ⟨h5.append h3, fun c hc => (List.mem_append.1 hc).elim (h6 c) (h4 c)⟩
    · cases hx

theorem sl_cells {sz : Nat} {a : AV} {v : Value} {xs : List AV} {n : Nat} (hH : RelH st w H) (ha : RelV st a v) (hx : cellsOfSl H sz a = some xs) (hn : lenOfSl a = some n) (hns : ∀ s, a ≠ .lit (.string s)) :
    ∃ (base : Option Addr) (cap : Nat) (us : List Value), v = .slice base n cap ∧ n ≤ cap ∧ RelL st xs us ∧ (∀ u ∈ us, Scal u) ∧ us.length = n * sz ∧
      (∀ (w' : World), w'.heap = w.heap → ∀ m, m ≤ n → (Builtin.firstCells sz m v).run P w' = .ok (us.take (m * sz)).toArray w') := by
  have ldm : ∀ (w' : World) (b o m : Nat) (us : List Value), w'.heap = w.heap → us.length = n * sz → m ≤ n → (∀ i c, us[i]? = some c → w.cell? ⟨b, o + i, none⟩ = some c) → (loadCells ⟨b, o, none⟩ (m * sz)).run P w' = .ok (us.take (m * sz)).toArray w' := by
    intro w' b o m us hw hl hm hc
    have h := run_loadCells_list (P := P) w' ⟨b, o, none⟩ (us.take (m * sz)) (fun j v hv => by
      have hj : j < m * sz := by
        rcases Nat.lt_or_ge j (m * sz) with h | h
        · exact h
        · rw [List.getElem?_eq_none (by simp; omega)] at hv; cases hv
      rw [List.getElem?_take_of_lt hj] at hv
      rw [addr_add]; have := hc j v hv; unfold World.cell? at this ⊢; rw [hw]; exact this)
    have : (us.take (m * sz)).length = m * sz := by simp; rw [hl]; exact Nat.min_eq_left (Nat.mul_le_mul_right _ hm)
    rw [this] at h; exact h
  unfold cellsOfSl at hx
  split at hx
  · rename_i sz' es
    split at hx
    · rename_i hs; subst hs
      simp only [lenOfSl, Option.some.injEq] at hn; subst hn
      simp only [RelV] at ha
      obtain ⟨a', cap, us, rfl, hc, h2, h3, h4⟩ := ha
      obtain ⟨h5, h6⟩ := cells_flat (sz := sz) (h2.mono st.pure_le) hx
      have hfl : (flat us).length = es.length * sz := by rw [flat_length h3, h2.length]
      refine ⟨a', cap, flat us, rfl, hc, h5, h6, hfl, fun w' hw m hm => ?_⟩
      by_cases he : es = []
      · subst he
        have hm0 : m = 0 := by simpa using hm
        subst hm0
        cases a' <;> simp [Builtin.firstCells, loadCells, loadCellsFrom]
      · obtain ⟨b, o', rfl, h7⟩ := h4 he
        exact ldm w' b o' m (flat us) hw hfl hm (rd_cells hH h7).2
    · cases hx
  · rename_i sz' id g off len
    split at hx
    · rename_i g' cs hX
      split at hx
      · rename_i hc
        obtain ⟨rfl, rfl, hle⟩ := hc
        simp only [Option.some.injEq] at hx; subst hx
        simp only [lenOfSl, Option.some.injEq] at hn; subst hn
        obtain ⟨l, a', cap, h1, h2, rfl, h3, h4⟩ := relV_ms_live hH (live_of_own hX) ha
        by_cases hcap : 0 < cap
        · obtain ⟨b, o', r', h5, rfl, h6⟩ := h4 hcap
          obtain ⟨us, h7, h8, h9⟩ := own_cells hH hX h1 h5
          have hul := h7.length
          have hl2 : ((us.drop off).take (len * sz)).length = len * sz := by simp; omega
          refine ⟨_, cap, (us.drop off).take (len * sz), rfl, h3, (h7.drop off).take _, fun u hu => h8 u (List.mem_of_mem_drop (List.mem_of_mem_take hu)), hl2, fun w' hw m hm => ?_⟩
          exact ldm w' b (o' + off) m _ hw hl2 hm (fun i c hi => by
            have hj : i < len * sz := by
              rcases Nat.lt_or_ge i (len * sz) with h | h
              · exact h
              · rw [List.getElem?_eq_none (by omega)] at hi; cases hi
            rw [List.getElem?_take_of_lt hj, List.getElem?_drop] at hi
            rw [Nat.add_assoc]; exact h9 _ c hi)
        · have hl0 : len = 0 := by omega
          subst hl0
          refine ⟨a', cap, [], rfl, by omega, by simp [RelL], by simp, by simp, fun w' hw m hm => ?_⟩
          have hm0 : m = 0 := by omega
          subst hm0
          cases a' <;> simp [Builtin.firstCells, loadCells, loadCellsFrom]
      · cases hx
    · cases hx
  · simp only [Option.some.injEq] at hx; subst hx
    simp only [lenOfSl, Option.some.injEq] at hn; subst hn
    simp only [RelV] at ha
    obtain ⟨a', rfl⟩ := ha
    refine ⟨a', 0, [], rfl, Nat.le_refl _, by simp [RelL], by simp, by simp, fun w' hw m hm => ?_⟩
    have hm0 : m = 0 := by omega
    subst hm0
    cases a' <;> simp [Builtin.firstCells, loadCells, loadCellsFrom]
  · simp only [Option.some.injEq] at hx; subst hx
    simp only [lenOfSl, Option.some.injEq] at hn; subst hn
    simp only [RelV] at ha
    subst ha
    refine ⟨none, 0, [], rfl, Nat.le_refl _, by simp [RelL], by simp, by simp, fun w' hw m hm => ?_⟩
    simp [Builtin.firstCells]
  · exact absurd rfl (hns _)
  · cases hx
/-- the same, and of a string -/
theorem sl_cellsX {sz : Nat} {a : AV} {v : Value} {xs : List AV} {n : Nat} (hH : RelH st w H) (ha : RelV st a v) (hx : cellsOfSl H sz a = some xs) (hn : lenOfSl a = some n) :
    ∃ (us : List Value), (∀ w' : World, (Builtin.lenOf v).run P w' = .ok n w') ∧ RelL st xs us ∧ (∀ u ∈ us, Scal u) ∧ us.length = n * sz ∧
      (∀ (w' : World), w'.heap = w.heap → ∀ m, m ≤ n → (Builtin.firstCells sz m v).run P w' = .ok (us.take (m * sz)).toArray w') := by
  by_cases hs : ∃ s, a = .lit (.string s)
  · obtain ⟨s, rfl⟩ := hs
    simp only [RelV] at ha; subst ha
    simp only [lenOfSl, Option.some.injEq] at hn; subst hn
    simp only [cellsOfSl] at hx
    split at hx
    · rename_i h1; subst h1
      cases hx
      refine ⟨s.data.toList.map fun b => .int .u8 (b.toNat : Int), fun w' => by simp [Builtin.lenOf], ?_, ?_, by rw [List.length_map, Array.length_toList, Nat.mul_one]; rfl, fun w' _ m hm => ?_⟩
      · have := RelL.lits (st := st) (s.data.toList.map fun b => Value.int .u8 (b.toNat : Int))
        rw [List.map_map] at this; exact this
      · intro u hu
        obtain ⟨b, _, rfl⟩ := List.mem_map.1 hu
        trivial
      · simp only [Builtin.firstCells, Sem.run_pure, Nat.mul_one]
        congr 1
        apply Array.ext'
        simp [ByteArray.data_extract, List.map_take]
    · cases hx
  · obtain ⟨base, cap, us, rfl, _, h2, h3, h4, h5⟩ := sl_cells (P := P) hH ha hx hn fun s he => hs ⟨s, he⟩
    exact ⟨us, fun w' => by simp [Builtin.lenOf], h2, h3, h4, h5⟩
theorem apT_spec {t : TypeId} (h : apT P t = some ()) : ∃ u, P.underlying t = some u ∧ ∀ k, u ≠ .int k := by
  unfold apT at h
  split at h
  · rename_i e hu; exact ⟨_, hu, fun k hk => by cases hk⟩
  · rename_i hu; exact ⟨_, hu, fun k hk => by cases hk⟩
  · cases h

/-! ### append -/
theorem growBy_le (N : Nat) (hN : 256 ≤ N) : ∀ (k c : Nat), c ≤ 2 * N → Builtin.growBy N k c ≤ 2 * N
  | 0, c, h => by simpa [Builtin.growBy] using h
  | k + 1, c, h => by
    simp only [Builtin.growBy]
    split
    · exact h
    · exact growBy_le N hN k _ (by omega)
theorem nextslicecap_le {N c : Nat} (h : c < N) : Builtin.nextslicecap N c ≤ 2 * N := by
  unfold Builtin.nextslicecap
  split
  · omega
  · split
    · omega
    · exact growBy_le N (by omega) 4 c (by omega)

theorem byT_spec {t : TypeId} {n : Nat} (h : byT P t = some n) : ∃ i, P.info? t = some i ∧ i.bytes = n := by
  unfold byT at h
  obtain ⟨i, hi, hn⟩ := Option.map_eq_some_iff.1 h
  exact ⟨i, hi, hn⟩

/-- what 'append' does, told by the cells that it shows -/
theorem append_run {ts tx ty e' : TypeId} {sz by_ : Nat} {z : List Value} {base : Option Addr} {len cap n : Nat} {vx : Value} {old new : List Value}
    (hts : P.underlying ts = some (.slice e')) (htx : apT P tx = some ()) (hlx : ∀ w' : World, (Builtin.lenOf vx).run P w' = .ok n w') (hsz : szT P e' = some sz) (hby : byT P e' = some (by_ + 1)) (hz : zrT P e' = some z)
    (hold : ∀ d, (Builtin.firstCells sz len (.slice base len cap)).run P { w with drawn := d } = .ok old.toArray { w with drawn := d }) (hnew : ∀ d, (Builtin.firstCells sz n vx).run P { w with drawn := d } = .ok new.toArray { w with drawn := d })
    (hbound : (len + n) * (by_ + 1) ≤ 140737488355328) :
    (len + n ≤ cap → (Builtin.append_ #[ts, tx] ty #[.slice base len cap, vx]).run P w =
      ((match (generalizing := false) base with | some a => storeCells (a.add (len * sz)) new | none => Pure.pure () : Sem Unit).run P w).andThen fun _ w' => .ok (.slice base (len + n) cap) w') ∧
    (cap < len + n → ∃ newCap d, len + n ≤ newCap ∧ (Builtin.append_ #[ts, tx] ty #[.slice base len cap, vx]).run P w =
      .ok (.slice (some ⟨w.heap.size, 0, none⟩) (len + n) newCap) (({ w with drawn := d } : World).alloc (.cells (old ++ new ++ (Builtin.zeroCells z.toArray (newCap - (len + n))).toList).toArray e'))) := by
  obtain ⟨i, zv, hi, hzv, rfl, _⟩ := zrT_spec hz
  obtain ⟨i', hi', hb⟩ := byT_spec hby
  rw [hi] at hi'; cases hi'
  have hnew0 : (Builtin.firstCells sz n vx).run P w = .ok new.toArray w := hnew w.drawn
  obtain ⟨ux, hux, hun⟩ := apT_spec htx
  have hzz : (match ux with | .int _ => true | _ => false) = false := by
    cases ux <;> first | rfl | exact absurd rfl (hun _)
  constructor
  · intro hle
    simp only [Builtin.append_]
    cases base <;> simp [run_underlying' hts, run_underlying' hux, run_sizeOf' hsz, hzz, hlx, hnew0, hle]
  · intro hlt
    have hneed : ¬ ((len : Int) + (n : Int)) > IntKind.i64.max := by
      have h1 : IntKind.i64.max = 9223372036854775807 := by decide
      have h2 : (len + n) * 1 ≤ (len + n) * (by_ + 1) := Nat.mul_le_mul_left _ (by omega)
      omega
    have hcap : ¬ Builtin.nextslicecap (len + n) cap * (by_ + 1) > 2 ^ 48 := by
      have h1 := nextslicecap_le hlt
      have h2 : Builtin.nextslicecap (len + n) cap * (by_ + 1) ≤ 2 * (len + n) * (by_ + 1) := Nat.mul_le_mul_right _ h1
      have h3 : 2 * (len + n) * (by_ + 1) = 2 * ((len + n) * (by_ + 1)) := Nat.mul_assoc _ _ _
      omega
    have hnle : ¬ len + n ≤ cap := by omega
    refine ⟨(Question.appendCap (len + n) cap e').cut (w.tape w.drawn (.appendCap (len + n) cap e')), w.drawn + 1, by simp only [Question.cut]; omega, ?_⟩
    generalize hN : (Question.appendCap (len + n) cap e').cut (w.tape w.drawn (.appendCap (len + n) cap e')) = N
    have hf : (Question.appendCap (len + n) cap e').forced = false := rfl
    have hold1 : (Builtin.firstCells sz len (.slice base len cap)).run P w.drew = .ok old.toArray w.drew := hold (w.drawn + 1)
    have hnew1 : (Builtin.firstCells sz n vx).run P w.drew = .ok new.toArray w.drew := hnew (w.drawn + 1)
    simp only [Builtin.append_]
    simp only [Sem.run_bind, run_underlying' hts, run_underlying' hux, run_sizeOf' hsz, Result.andThen_ok, List.getElem?_toArray, List.getElem?_cons_zero, List.getElem?_cons_succ]
    simp [hzz, hlx, hnle, hneed, hcap, typeInfo, hi, hb, hold1, hnew1, zeroValue, hzv, newRow, hf, hN]
    congr 2
    apply Array.ext'
    simp

theorem len_zeroCells (z : Array Value) (n : Nat) : (Builtin.zeroCells z n).size = n * z.size := by simp [Builtin.zeroCells]

/-- append to an object -/
theorem app_ms {ts tx ty e' : TypeId} {sz by_ n : Nat} {z : List Value} {id g off len : Nat} {cs xs : List AV} {vs vx : Value} {ax : AV}
    (hts : P.underlying ts = some (.slice e')) (htx : apT P tx = some ()) (hsz : szT P e' = some (sz + 1)) (hby : byT P e' = some (by_ + 1)) (hz : zrT P e' = some z) (hzl : z.length = sz + 1)
    (hH : RelH st w H) (hs : RelV st (.ms (sz + 1) id g off len) vs) (hX : H[id]? = some (.own g cs)) (hle : off + len * (sz + 1) ≤ cs.length)
    (hx : RelV st ax vx) (hxs : cellsOfSl H (sz + 1) ax = some xs) (hn : lenOfSl ax = some n) (hbound : (len + n) * (by_ + 1) ≤ 140737488355328) :
    ∃ v w' st', (Builtin.append_ #[ts, tx] ty #[vs, vx]).run P w = .ok v w' ∧ Ext st w st' w' ∧ RelH st' w' (H.set id (.own (g + 1) ((cs.drop off).take (len * (sz + 1)) ++ xs))) ∧ RelV st' (.ms (sz + 1) id (g + 1) 0 (len + n)) v := by
  obtain ⟨ux, hlx, hx1, hx2, hx3, hx4⟩ := sl_cellsX (P := P) hH hx hxs hn
  have hscells : cellsOfSl H (sz + 1) (.ms (sz + 1) id g off len) = some ((cs.drop off).take (len * (sz + 1))) := by simp [cellsOfSl, hX, hle]
  obtain ⟨base, cap, us, rfl, hcap, hs1, hs2, hs3, hs4⟩ := sl_cells (P := P) (n := len) hH hs hscells rfl (by simp)
  have tk : ∀ (l : List Value) (m : Nat), l.length = m * (sz + 1) → l.take (m * (sz + 1)) = l := fun l m h => by rw [← h, List.take_length]
  obtain ⟨hin, hout⟩ := append_run (P := P) (w := w) (ty := ty) (base := base) (cap := cap) (old := us) (new := ux) hts htx hlx hsz hby hz
    (fun d => by have := hs4 { w with drawn := d } rfl len (Nat.le_refl _); rw [tk us len hs3] at this; exact this)
    (fun d => by have := hx4 { w with drawn := d } rfl n (Nat.le_refl _); rw [tk ux n hx3] at this; exact this) hbound
  obtain ⟨l, a', cap', h1, h2, h3, h4, h5⟩ := relV_ms_live hH (live_of_own hX) hs
  cases h3
  have hxl := hx1.length
  have hsl := hs1.length
  have hob := hH.obj id l _ h1 hX
  simp only [ObjOk] at hob
  obtain ⟨hg, hob⟩ := hob
  have msrel : ∀ (st' : St) (l' : Loc) (a : Option Addr) (c : Nat), st'.loc[id]? = some l' → l'.g = g + 1 → len + n ≤ c → (0 < c → ∃ b o r, l'.base = some (b, o, r) ∧ a = some ⟨b, o + 0, none⟩ ∧ 0 + c * (sz + 1) ≤ r) → RelV st' (.ms (sz + 1) id (g + 1) 0 (len + n)) (.slice a (len + n) c) := by
    intro st' l' a c e1 e2 e3 e4
    simp only [RelV]
    exact ⟨l', e1, by omega, fun h => absurd h (by omega), fun _ => ⟨a, c, rfl, e3, e4⟩⟩
  by_cases hfit : len + n ≤ cap
  · have hrun := hin hfit
    by_cases hc0 : cap = 0
    · have hn0 : n = 0 := by omega
      have hl0 : len = 0 := by omega
      have hux : ux = [] := by rw [hn0] at hx3; simpa using hx3
      have hxs0 : xs = [] := by rw [hux] at hxl; simpa using hxl.symm
      subst hux; subst hxs0
      obtain ⟨e1, e2, e3⟩ := rel_upd hH (l' := ⟨g + 1, l.base⟩) (X' := .own (g + 1) ((cs.drop off).take (len * (sz + 1)) ++ [])) (w' := w) h1 hX (by simp; omega) (fun h => absurd h (by simp; omega)) (Nat.le_refl _) (fun _ _ _ => rfl) rfl rfl (fun b o r h => .inl ⟨o, r, h⟩) (fun st' hst' => by
        simp only [ObjOk]
        refine ⟨trivial, fun b o r hb => ?_⟩
        obtain ⟨arr, T, u, f1, f2, f3, f4, f5, f6⟩ := hob b o r hb
        exact ⟨arr, T, [], f1, f2, by simp [hl0], by simp [hl0, RelL], by simp, by simp⟩)
      refine ⟨_, w, _, ?_, e1, e2, msrel _ _ base cap e3 rfl hfit (fun h => absurd h (by omega))⟩
      rw [hrun]
      cases base <;> simp [storeCells]
    · obtain ⟨b, o, r, hb, rfl, hroom⟩ := h5 (by omega)
      obtain ⟨arr, T, u, f1, f2, f3, f4, f5, f6⟩ := hob b o r hb
      have hul := f4.length
      have hmul : (len + n) * (sz + 1) ≤ cap * (sz + 1) := Nat.mul_le_mul_right _ hfit
      have hmul2 : (len + n) * (sz + 1) = len * (sz + 1) + n * (sz + 1) := Nat.add_mul _ _ _
      have hst := run_storeCells_at (P := P) b (o + off + len * (sz + 1)) T ux 0 arr w f1 (by omega) (fun v hv => oneCell_of_scal (hx2 v hv))
      simp only [Nat.add_zero] at hst
      obtain ⟨e1, e2, e3⟩ := rel_upd hH (l' := ⟨g + 1, some (b, o + off, r - off)⟩) (X' := .own (g + 1) ((cs.drop off).take (len * (sz + 1)) ++ xs)) (w' := w.setRow b (arr.toList.take (o + off + len * (sz + 1)) ++ ux ++ arr.toList.drop (o + off + len * (sz + 1) + ux.length)).toArray) h1 hX (by simp; omega) (fun h => absurd h (by simp; omega)) (by simp)
        (fun b' hb' hne => setRow_other w b b' _ (fun he => hne o r (he ▸ hb))) rfl rfl (fun b' o' r' h => by cases h; exact .inl ⟨o, r, hb⟩) (fun st' hst' => by
          simp only [ObjOk]
          refine ⟨trivial, fun b' o' r' h => ?_⟩
          simp only [Option.some.injEq, Prod.mk.injEq] at h
          obtain ⟨rfl, rfl, rfl⟩ := h
          refine ⟨_, T, (u.drop off).take (len * (sz + 1)) ++ ux, setRow_heap w b arr _ T (0, 0) f1, by simp; omega, by simp; omega, (((f4.mono hst').drop off).take _).append (hx1.mono hst'), ?_, ?_⟩
          · intro y hy
            simp only [List.mem_append] at hy
            exact hy.elim (fun hy => f5 y (List.mem_of_mem_drop (List.mem_of_mem_take hy))) (hx2 y)
          · intro i c hi
            have l1 : ((u.drop off).take (len * (sz + 1))).length = len * (sz + 1) := by simp; omega
            have l2 : (arr.toList.take (o + off + len * (sz + 1))).length = o + off + len * (sz + 1) := by simp; omega
            simp only [List.getElem?_toArray]
            rw [List.append_assoc]
            rcases Nat.lt_or_ge i (len * (sz + 1)) with hi' | hi'
            · rw [List.getElem?_append_left (by omega), List.getElem?_take_of_lt hi', List.getElem?_drop] at hi
              rw [List.getElem?_append_left (by omega), List.getElem?_take_of_lt (by omega)]
              have := f6 _ c hi
              simpa [Nat.add_assoc] using this
            · rw [List.getElem?_append_right (by omega), l1] at hi
              have hi2 : i - len * (sz + 1) < ux.length := by
                rcases Nat.lt_or_ge (i - len * (sz + 1)) ux.length with h | h
                · exact h
                · rw [List.getElem?_eq_none h] at hi; cases hi
              rw [List.getElem?_append_right (by omega), l2, List.getElem?_append_left (by omega), show o + off + i - (o + off + len * (sz + 1)) = i - len * (sz + 1) by omega]
              exact hi)
      refine ⟨_, _, _, ?_, e1, e2, msrel _ _ _ cap e3 rfl hfit (fun _ => ⟨b, o + off, r - off, rfl, rfl, by omega⟩)⟩
      rw [hrun]
      simp only [addr_add, hst, Result.andThen_ok, Nat.add_zero]
  · obtain ⟨newCap, d, hnc, hrun⟩ := hout (by omega)
    have hsize : (us ++ ux ++ (Builtin.zeroCells z.toArray (newCap - (len + n))).toList).length = newCap * (sz + 1) := by
      simp only [List.length_append, hs3, hx3, Array.length_toList, len_zeroCells, List.size_toArray, hzl]
      rw [← Nat.add_mul, ← Nat.add_mul]; congr 1; omega
    obtain ⟨e1, e2, e3⟩ := rel_upd hH (l' := ⟨g + 1, some (w.heap.size, 0, newCap * (sz + 1))⟩) (X' := .own (g + 1) ((cs.drop off).take (len * (sz + 1)) ++ xs)) (w' := ({ w with drawn := d } : World).alloc (.cells (us ++ ux ++ (Builtin.zeroCells z.toArray (newCap - (len + n))).toList).toArray e')) h1 hX (by simp; omega) (fun h => absurd h (by simp; omega)) (by rw [size_alloc]; exact Nat.le_succ _)
      (fun b' hb' _ => heap_alloc_lt _ _ hb') rfl rfl (fun b' o' r' h => by cases h; exact .inr (Nat.le_refl _)) (fun st' hst' => by
        simp only [ObjOk]
        refine ⟨trivial, fun b' o' r' h => ?_⟩
        simp only [Option.some.injEq, Prod.mk.injEq] at h
        obtain ⟨rfl, rfl, rfl⟩ := h
        refine ⟨_, e', us ++ ux, heap_alloc_new _ _, by simp only [List.size_toArray, hsize]; omega, ?_, (hs1.mono hst').append (hx1.mono hst'), ?_, ?_⟩
        · have : (len + n) * (sz + 1) ≤ newCap * (sz + 1) := Nat.mul_le_mul_right _ hnc
          have h2 : (len + n) * (sz + 1) = len * (sz + 1) + n * (sz + 1) := Nat.add_mul _ _ _
          simp only [List.length_append]; rw [← hsl, ← hxl]; omega
        · intro y hy
          exact (List.mem_append.1 hy).elim (hs2 y) (hx2 y)
        · intro i c hi
          have hil : i < (us ++ ux).length := by
            rcases Nat.lt_or_ge i (us ++ ux).length with h | h
            · exact h
            · rw [List.getElem?_eq_none h] at hi; cases hi
          simp only [List.getElem?_toArray, Nat.zero_add]
          rw [List.getElem?_append_left hil]; exact hi)
    refine ⟨_, _, _, hrun, e1, e2, msrel _ _ _ newCap e3 rfl hnc (fun _ => ⟨w.heap.size, 0, newCap * (sz + 1), rfl, rfl, by omega⟩)⟩

/-- append to a slice without room -/
theorem app_new {ts tx ty e' : TypeId} {sz by_ n : Nat} {z : List Value} {xs : List AV} {vx : Value} {ax : AV} {a : Option Addr}
    (hts : P.underlying ts = some (.slice e')) (htx : apT P tx = some ()) (hsz : szT P e' = some (sz + 1)) (hby : byT P e' = some (by_ + 1)) (hz : zrT P e' = some z) (hzl : z.length = sz + 1)
    (hH : RelH st w H) (hx : RelV st ax vx) (hxs : cellsOfSl H (sz + 1) ax = some xs) (hn : lenOfSl ax = some n) (hbound : n * (by_ + 1) ≤ 140737488355328) :
    ∃ v w' st', (Builtin.append_ #[ts, tx] ty #[.slice a 0 0, vx]).run P w = .ok v w' ∧ Ext st w st' w' ∧ RelH st' w' (H ++ [.own 0 xs]) ∧ RelV st' (.ms (sz + 1) H.length 0 0 n) v := by
  obtain ⟨ux, hlx, hx1, hx2, hx3, hx4⟩ := sl_cellsX (P := P) hH hx hxs hn
  have tk : ∀ (l : List Value) (m : Nat), l.length = m * (sz + 1) → l.take (m * (sz + 1)) = l := fun l m h => by rw [← h, List.take_length]
  obtain ⟨hin, hout⟩ := append_run (P := P) (w := w) (ty := ty) (base := a) (len := 0) (cap := 0) (old := []) (new := ux) hts htx hlx hsz hby hz
    (fun d => by cases a <;> simp [Builtin.firstCells, loadCells, loadCellsFrom])
    (fun d => by have := hx4 { w with drawn := d } rfl n (Nat.le_refl _); rw [tk ux n hx3] at this; exact this) (by simpa using hbound)
  have hxl := hx1.length
  by_cases hn0 : n = 0
  · subst hn0
    have hux : ux = [] := by simpa using hx3
    have hxs0 : xs = [] := by rw [hux] at hxl; simpa using hxl.symm
    subst hux; subst hxs0
    obtain ⟨e1, e2, e3⟩ := push_none hH
    refine ⟨.slice a 0 0, w, _, ?_, e1, e2, ?_⟩
    · rw [hin (Nat.le_refl _)]
      cases a <;> simp [storeCells]
    · simp only [RelV]
      exact ⟨_, e3, Nat.le_refl _, fun h => absurd h (Nat.lt_irrefl _), fun _ => ⟨a, 0, rfl, Nat.le_refl _, fun h => absurd h (Nat.lt_irrefl _)⟩⟩
  · obtain ⟨newCap, d, hnc, hrun⟩ := hout (by omega)
    simp only [Nat.zero_add, List.nil_append] at hrun hnc
    have hsize : (ux ++ (Builtin.zeroCells z.toArray (newCap - n)).toList).length = newCap * (sz + 1) := by
      simp only [List.length_append, hx3, Array.length_toList, len_zeroCells, List.size_toArray, hzl]
      rw [← Nat.add_mul]; congr 1; omega
    have hmul : n * (sz + 1) ≤ newCap * (sz + 1) := Nat.mul_le_mul_right _ hnc
    obtain ⟨e1, e2, e3⟩ := push_own (hH.drawn d) hx1 hx2 (ux ++ (Builtin.zeroCells z.toArray (newCap - n)).toList).toArray e' (newCap * (sz + 1)) (by simp only [List.size_toArray, hsize]; exact Nat.le_refl _) (by rw [← hxl]; omega) (fun i c hi => by
      have hil : i < ux.length := by
        rcases Nat.lt_or_ge i ux.length with h | h
        · exact h
        · rw [List.getElem?_eq_none h] at hi; cases hi
      simp only [List.getElem?_toArray]
      rw [List.getElem?_append_left hil]; exact hi)
    refine ⟨_, _, _, hrun, (Ext.drawn st w d).trans e1, e2, ?_⟩
    simp only [RelV]
    exact ⟨_, e3, Nat.le_refl _, fun h => absurd h (Nat.lt_irrefl _), fun _ => ⟨_, newCap, rfl, hnc, fun _ => ⟨_, 0, _, rfl, rfl, by omega⟩⟩⟩

theorem app_sound {args : Array Operand} {argTypes : Array TypeId} (hop : o.op = .call ⟨.builtin .append, args, argTypes⟩) (htr : trCall P K ⟨.builtin .append, args, argTypes⟩ = some ao) (hρ : RelO st K e ρ) (hH : RelH st w H) (hv : opAct e H ao = some (r, H')) : StepV P ρ o st w r H' := by
  simp only [trCall] at htr
  split at htr
  · rename_i heq _ _; cases heq
  · rename_i s x ts tx _ hargs htys
    have ha : args = #[s, x] := by cases args; simp_all
    have ht : argTypes = #[ts, tx] := by cases argTypes; simp_all
    subst ha; subst ht
    split at htr
    · rename_i e' s' x' hts hs hx
      split at htr
      · rename_i sz by_ z hsz hby hz htx
        split at htr
        · rename_i hzl
          simp only [Option.some.injEq] at htr; subst htr
          have hts := slT_spec hts
          have hex : ∀ v w', (Builtin.append_ #[ts, tx] o.type #[ρ s, ρ x]).run P w = .ok v w' → (execOp ρ o).run P w = .ok (.value v) w' := by
            intro v w' hr
            simp [execOp, hop, resolve, invoke, builtin, hr]
          have hss := hρ s s' hs
          have hxx := hρ x x' hx
          simp only [opAct] at hv
          split at hv
          · rename_i xs n hxs hn
            split at hv
            · rename_i sz' id g off len hes
              rw [hes] at hss
              split at hv
              · rename_i g' cs hX
                split at hv
                · rename_i hc
                  obtain ⟨rfl, rfl, hle, hbound⟩ := hc
                  simp only [Option.some.injEq, Prod.mk.injEq] at hv
                  obtain ⟨rfl, rfl⟩ := hv
                  obtain ⟨v, w', st', h1, h2, h3, h4⟩ := app_ms (ty := o.type) hts htx hsz hby hz hzl hH hss hX hle hxx hxs hn hbound
                  exact ⟨v, w', st', .inl (hex v w' h1), h2, h3, h4⟩
                · cases hv
              · cases hv
            · rename_i hes
              rw [hes] at hss
              split at hv
              · rename_i hbound
                simp only [Option.some.injEq, Prod.mk.injEq] at hv
                obtain ⟨rfl, rfl⟩ := hv
                simp only [RelV] at hss
                obtain ⟨a, hss⟩ := hss
                obtain ⟨v, w', st', h1, h2, h3, h4⟩ := app_new (a := a) (ty := o.type) hts htx hsz hby hz hzl hH hxx hxs hn hbound
                exact ⟨v, w', st', .inl (hex v w' (by rw [hss]; exact h1)), h2, h3, h4⟩
              · cases hv
            · rename_i hes
              rw [hes] at hss
              split at hv
              · rename_i hbound
                simp only [Option.some.injEq, Prod.mk.injEq] at hv
                obtain ⟨rfl, rfl⟩ := hv
                simp only [RelV] at hss
                obtain ⟨v, w', st', h1, h2, h3, h4⟩ := app_new (a := none) (ty := o.type) hts htx hsz hby hz hzl hH hxx hxs hn hbound
                exact ⟨v, w', st', .inl (hex v w' (by rw [hss]; exact h1)), h2, h3, h4⟩
              · cases hv
            · cases hv
          · cases hv
        · cases htr
      · cases htr
    · cases htr
  · rename_i heq _ _; cases heq
  · rename_i heq; cases heq
  · rename_i heq; cases heq
  · cases htr

theorem ms_new {st' : St} {n b room sz len cap : Nat} (h : st'.loc[n]? = some ⟨0, some (b, 0, room)⟩) (hl : len ≤ cap) (hr : cap * sz ≤ room) : RelV st' (.ms sz n 0 0 len) (.slice (some ⟨b, 0, none⟩) len cap) := by
  simp only [RelV]
  exact ⟨_, h, Nat.le_refl _, fun h => absurd h (Nat.lt_irrefl _), fun _ => ⟨_, cap, rfl, hl, fun _ => ⟨b, 0, room, rfl, rfl, by omega⟩⟩⟩

theorem mks_mut_sound {t : TypeId} {len : Nat} {parts : Array (Nat × Operand)} (hop : o.op = .buildSlice t len parts) (htr : trOp P K mu o = some ao) (hρ : RelO st K e ρ) (hH : RelH st w H) (hv : opAct e H ao = some (r, H')) : StepV P ρ o st w r H' := by
  simp only [trOp, hop] at htr
  split at htr
  · rename_i e' he
    split at htr
    · rename_i sz z hsz hz
      split at htr
      · rename_i hc
        obtain ⟨hzl, hidx, hle⟩ := hc
        obtain ⟨xs, hxs, rfl⟩ := Option.map_eq_some_iff.1 htr
        cases mu with
        | false => simp [opAct] at hv
        | true =>
          have hL := hρ.list hxs
          have hxl := ods_length hxs
          have hlen : parts.toList.length = len := by have := congrArg List.length hidx; simpa using this
          simp only [opAct] at hv
          split at hv
          · rename_i cs hcs
            split at hv
            · rename_i hok
              simp only [Option.some.injEq, Prod.mk.injEq] at hv
              obtain ⟨rfl, rfl⟩ := hv
              simp only [elemsLen, List.all_eq_true] at hok
              have hcells : ∀ u ∈ (parts.toList.map (·.2)).map ρ, u.cells.size = sz + 1 := by
                intro u hu
                obtain ⟨j, hj⟩ := List.mem_iff_getElem?.1 hu
                obtain ⟨a, ha, hra⟩ := hL.getr hj
                have hall := hok a (List.mem_of_getElem? ha)
                split at hall
                · rename_i cs hcs
                  obtain ⟨h1, h2⟩ := hra.cells hcs
                  have := h1.length; simp at this hall; omega
                · cases hall
              have hrun := buildSlice_run (w := w) (ρ := ρ) hop (slT_spec he) hsz hz hidx hle hcells hzl
              simp only [cellsOfSl, if_true] at hcs
              obtain ⟨h1, h2⟩ := cells_flat (sz := sz + 1) hL hcs
              have hfl := flat_length hcells
              have hl2 : xs.length = len := by simp at hxl hlen ⊢; omega
              have hl3 : ((parts.toList.map (·.2)).map ρ).length = len := by simpa using hlen
              rw [hl3] at hfl
              have hcl := h1.length
              obtain ⟨e1, e2, e3⟩ := push_own hH h1 h2 (flat ((parts.toList.map (·.2)).map ρ)).toArray e' (len * (sz + 1)) (by simp only [List.size_toArray, hfl]; exact Nat.le_refl _) (by omega) (fun i c h => by simpa using h)
              refine ⟨_, _, _, .inl hrun, e1, e2, ?_⟩
              rw [hl2]
              exact ms_new e3 (Nat.le_refl _) (Nat.le_refl _)
            · cases hv
          · cases hv
      · cases htr
    · cases htr
  · cases htr

theorem zeros_flatten (z : List Value) (n : Nat) : (List.replicate n (z.map AV.lit)).flatten = ((List.replicate n z).flatten).map AV.lit := by
  induction n with
  | zero => rfl
  | succ n ih => rw [List.replicate_succ, List.replicate_succ, List.flatten_cons, List.flatten_cons, List.map_append, ih]
theorem zeros_get {z : Array Value} (hz : z.size ≠ 0) : ∀ (n m : Nat), n ≤ m → ∀ (i : Nat) (c : Value), ((List.replicate n z.toList).flatten)[i]? = some c → ((Array.range (m * z.size)).map (z[· % z.size]!))[i]? = some c
  | 0, m, _, i, c, h => by simp at h
  | n + 1, m, hm, i, c, h => by
    rw [List.replicate_succ', List.flatten_append] at h
    have hl : ((List.replicate n z.toList).flatten).length = n * z.size := by simp [List.length_flatten]
    rcases Nat.lt_or_ge i (n * z.size) with hi | hi
    · rw [List.getElem?_append_left (by rw [hl]; exact hi)] at h
      exact zeros_get hz n m (by omega) i c h
    · rw [List.getElem?_append_right (by rw [hl]; exact hi), hl] at h
      simp only [List.flatten_cons, List.flatten_nil, List.append_nil] at h
      have hj : i - n * z.size < z.size := by
        rcases Nat.lt_or_ge (i - n * z.size) z.size with h' | h'
        · exact h'
        · rw [List.getElem?_eq_none (by simpa using h')] at h; cases h
      have him : i < m * z.size := by
        have : (n + 1) * z.size ≤ m * z.size := Nat.mul_le_mul_right _ hm
        rw [Nat.add_mul] at this; omega
      have hmod : i % z.size = i - n * z.size := by
        have : i = (i - n * z.size) + n * z.size := by omega
        rw [this, Nat.add_mul_mod_self_right, Nat.mod_eq_of_lt (by omega)]; omega
      simp only [Array.getElem?_map, Array.getElem?_range, him, if_true, Option.map_some, hmod]
      rw [getElem!_pos z _ hj]
      rw [Array.getElem?_toList, Array.getElem?_eq_getElem hj] at h
      exact h

theorem mksl_run {t e' : TypeId} {l c : Operand} {ρ : Operand → Value} {o : Oper} {w : World} {P : Program} {sz by_ : Nat} {ln cp : Int} {i : TypeInfo} {zv : Value} (hop : o.op = .makeSlice t l c) (he : slT P t = some e') (hsz : szT P e' = some (sz + 1)) (hi : P.info? e' = some i) (hzv : i.zero = some zv) (hb : i.bytes = by_) (hsize : zv.cells.size = sz + 1)
    (hll : ρ l = .int .i64 ln) (hcc : ρ c = .int .i64 cp) (h0 : 0 ≤ ln) (h1 : ln ≤ cp) (h2 : cp ≤ 9223372036854775807) (h3 : (by_ : Int) * cp ≤ 281474976710656) :
    (execOp ρ o).run P w = .ok (.value (.slice (some ⟨w.heap.size, 0, none⟩) ln.toNat cp.toNat)) (w.alloc (.cells ((Array.range (cp.toNat * zv.cells.size)).map (zv.cells[· % zv.cells.size]!)) e')) := by
  have wr : ∀ n : Int, 0 ≤ n → n ≤ 9223372036854775807 → IntKind.i64.wrap n = n := fun n a b => by
    rw [IntWalk.i64_left]; exact IntWalk.wrap64_in n ⟨by omega, b⟩
  have hw1 := wr ln h0 (by omega)
  have hw2 := wr cp (by omega) h2
  have hn1 : ¬ cp < 0 := by omega
  have hn2 : ¬ (by_ : Int) * cp > 281474976710656 := by omega
  have hn3 : ¬ ln < 0 := by omega
  have hn4 : ¬ ln > cp := by omega
  have hcond : (decide (cp < 0) || decide ((by_ : Int) * cp > 2 ^ 48) || decide (ln < 0) || decide (ln > cp)) = false := by
    have : ¬ (by_ : Int) * cp > 2 ^ 48 := by simpa using hn2
    simp [hn1, h3, hn3, hn4]
  simp only [execOp, hop, hll, hcc, Instr.makeSlice, Sem.run_bind, run_underlying' (slT_spec he), Result.andThen_ok, asInt, asIntOf, Sem.run_pure, typeInfo, run_program, hi, hb, hw1, hw2, hcond, Bool.false_eq_true, if_false, run_askRoom, run_sizeOf' hsz]
  by_cases hc0 : cp.toNat * (sz + 1) = 0
  · have : cp.toNat = 0 := by rcases Nat.mul_eq_zero.1 hc0 with h | h <;> omega
    have z0 : ∀ f : Nat → Value, (Array.range 0).map f = #[] := fun f => by simp
    simp [hc0, this, newRow, z0]
  · simp [hc0, zeroValue, typeInfo, hi, hzv, newRow, hsize]

theorem mksl_sound {t : TypeId} {l c : Operand} (hop : o.op = .makeSlice t l c) (htr : trOp P K mu o = some ao) (hρ : RelO st K e ρ) (hH : RelH st w H) (hv : opAct e H ao = some (r, H')) : StepV P ρ o st w r H' := by
  simp only [trOp, hop] at htr
  split at htr
  · rename_i e' he
    split at htr
    · rename_i sz by_ z l' c' hsz hby hz hl hc
      split at htr
      · rename_i hzl
        simp only [Option.some.injEq] at htr; subst htr
        simp only [opAct] at hv
        split at hv
        · rename_i ln cp hln hcp
          split at hv
          · rename_i hcond
            obtain ⟨h0, h1, h2, h3, _⟩ := hcond
            simp only [Option.some.injEq, Prod.mk.injEq] at hv
            obtain ⟨rfl, rfl⟩ := hv
            have hll := hρ l l' hl
            have hcc := hρ c c' hc
            rw [hln] at hll; rw [hcp] at hcc
            simp only [RelV] at hll hcc
            obtain ⟨i, zv, hi, hzv, rfl, hs⟩ := zrT_spec hz
            obtain ⟨i', hi', hb⟩ := byT_spec hby
            rw [hi] at hi'; cases hi'
            have hsize : zv.cells.size = sz + 1 := by simpa using hzl
            have hrun := mksl_run (w := w) hop he hsz hi hzv hb hsize hll hcc h0 h1 h2 h3
            have hlen : ((List.replicate ln.toNat (zv.cells.toList.map AV.lit)).flatten).length = ln.toNat * (sz + 1) := by simp [List.length_flatten, hsize]
            have hmul : ln.toNat * (sz + 1) ≤ cp.toNat * (sz + 1) := Nat.mul_le_mul_right _ (by omega)
            obtain ⟨e1, e2, e3⟩ := push_own hH (cs := (List.replicate ln.toNat (zv.cells.toList.map AV.lit)).flatten) (us := (List.replicate ln.toNat zv.cells.toList).flatten) (by rw [zeros_flatten]; exact RelL.lits _)
              (fun u hu => by
                obtain ⟨x, hx, hu⟩ := List.mem_flatten.1 hu
                have := List.eq_of_mem_replicate hx
                exact hs u (this ▸ hu)) ((Array.range (cp.toNat * zv.cells.size)).map (zv.cells[· % zv.cells.size]!)) e' (cp.toNat * (sz + 1)) (by simp [hsize]) (by omega)
              (zeros_get (by omega) ln.toNat cp.toNat (by omega))
            exact ⟨_, _, _, .inl hrun, e1, e2, ms_new e3 (by omega) (Nat.le_refl _)⟩
          · cases hv
        · cases hv
      · cases htr
    · cases htr
  · cases htr

theorem cpy_sound {args : Array Operand} {argTypes : Array TypeId} (hop : o.op = .call ⟨.builtin .copy, args, argTypes⟩) (htr : trCall P K ⟨.builtin .copy, args, argTypes⟩ = some ao) (hρ : RelO st K e ρ) (hH : RelH st w H) (hv : opAct e H ao = some (r, H')) : StepV P ρ o st w r H' := by
  simp only [trCall] at htr
  split at htr
  · rename_i heq _ _; cases heq
  · rename_i heq _ _; cases heq
  · rename_i d s td ts _ hargs htys
    have ha : args = #[d, s] := by cases args; simp_all
    have ht : argTypes = #[td, ts] := by cases argTypes; simp_all
    subst ha; subst ht
    split at htr
    · rename_i e' d' s' htd hd hs
      split at htr
      · rename_i sz hsz
        simp only [Option.some.injEq] at htr; subst htr
        simp only [opAct] at hv
        split at hv
        · rename_i xs n sz' id g off len hxs hn hed
          split at hv
          · rename_i g' cs hX
            split at hv
            · rename_i hc
              obtain ⟨rfl, rfl, hle⟩ := hc
              simp only [Option.some.injEq, Prod.mk.injEq] at hv
              obtain ⟨rfl, rfl⟩ := hv
              have hdd := hρ d d' hd
              have hss := hρ s s' hs
              rw [hed] at hdd
              obtain ⟨ux, hlx, hx1, hx2, hx3, hx4⟩ := sl_cellsX (P := P) hH hss hxs hn
              obtain ⟨l, a', cap, h1, h2, h3, h4, h5⟩ := relV_ms_live hH (live_of_own hX) hdd
              have hf := hx4 w rfl (min n len) (Nat.min_le_left _ _)
              have hxl := hx1.length
              have hex : ∀ w', ((match (generalizing := false) a' with | some a => storeCells a (ux.take (min n len * (sz + 1))) | none => Pure.pure () : Sem Unit).run P w = .ok () w') → (execOp ρ o).run P w = .ok (.value (goInt (min n len : Nat))) w' := by
                intro w' h
                have hr : (Builtin.copy_ #[td, ts] o.type #[ρ d, ρ s]).run P w = .ok (goInt (min n len : Nat)) w' := by
                  simp only [h3, Builtin.copy_]
                  cases a' <;> simp_all [run_underlying' (slT_spec htd), run_sizeOf' hsz]
                simp [execOp, hop, resolve, invoke, builtin, hr]
              have hm1 : min n len * (sz + 1) ≤ n * (sz + 1) := Nat.mul_le_mul_right _ (Nat.min_le_left _ _)
              have hm2 : min n len * (sz + 1) ≤ len * (sz + 1) := Nat.mul_le_mul_right _ (Nat.min_le_right _ _)
              by_cases hc0 : 0 < cap
              · obtain ⟨b, o', r', h6, rfl, h7⟩ := h5 hc0
                obtain ⟨st', w', h8, h9, h10, _, _⟩ := write_own (P := P) (off := off) hH hX h1 h6 (hx1.take (min n len * (sz + 1))) (fun v hv => hx2 v (List.mem_of_mem_take hv)) (by simp; omega)
                have hlt : (xs.take (min n len * (sz + 1))).length = min n len * (sz + 1) := by simp; omega
                rw [hlt] at h10
                exact ⟨_, w', st', .inl (hex w' h8), h9, h10, relLit⟩
              · have hl0 : len = 0 := by omega
                subst hl0
                have : cs.take off ++ xs.take (min n 0 * (sz + 1)) ++ cs.drop (off + min n 0 * (sz + 1)) = cs := by simp
                rw [this]
                have hset : H.set id (.own g cs) = H := by
                  apply List.ext_getElem?
                  intro j
                  rw [List.getElem?_set]
                  split
                  · rename_i hj; subst hj; split
                    · exact hX.symm
                    · rename_i hn; rw [List.getElem?_eq_none (by omega)] at hX; cases hX
                  · rfl
                rw [hset]
                refine ⟨_, w, st, .inl (hex w ?_), .refl _ _, hH, relLit⟩
                cases a' <;> simp [storeCells]
            · cases hv
          · cases hv
        · cases hv
      · cases htr
    · cases htr
  · rename_i heq; cases heq
  · rename_i heq; cases heq
  · cases htr

theorem opAct_sound (htr : trOp P K mu o = some ao) (hρ : RelO st K e ρ) (hH : RelH st w H) (hv : opAct e H ao = some (r, H')) : StepV P ρ o st w r H' := by
  cases hop : o.op
  case buildSlice => exact mks_mut_sound hop htr hρ hH hv
  case alloc => exact new_sound hop htr hH hv
  case box => exact box_sound hop htr hρ hH hv
  case store => exact st_sound hop htr hρ hH hv
  case makeSlice => exact mksl_sound hop htr hρ hH hv
  case call c =>
    obtain ⟨callee, args, argTypes⟩ := c
    simp only [trOp, hop] at htr
    cases callee with
    | value f =>
      simp only [trCall] at htr
      split at htr
      · simp only [Option.some.injEq] at htr; subst htr; simp [opAct] at hv
      · cases htr
    | invoke a b => cases htr
    | builtin b =>
      cases b
      case append => exact app_sound hop htr hρ hH hv
      case copy => exact cpy_sound hop htr hρ hH hv
      all_goals
        exfalso
        simp only [trCall] at htr
        repeat' split at htr
        all_goals first
          | contradiction
          | (cases htr; done)
          | (rename_i heq _ _; cases heq; done)
          | (rename_i heq; cases heq; done)
          | (simp only [Option.some.injEq] at htr; subst htr; simp [opAct] at hv; done)
          | (obtain ⟨ys, hys, rfl⟩ := Option.map_eq_some_iff.1 htr; simp [opAct] at hv; done)
  all_goals
    exfalso
    simp only [trOp, hop] at htr
    repeat' split at htr
    all_goals first
      | contradiction
      | (cases htr; done)
      | (simp only [Option.some.injEq] at htr; subst htr; simp [opAct] at hv; done)
      | (obtain ⟨ys, hys, rfl⟩ := Option.map_eq_some_iff.1 htr; simp [opAct] at hv; done)
      | (unfold trBin at htr; repeat' split at htr
         all_goals first
           | (cases htr; done)
           | (simp only [Option.some.injEq] at htr; subst htr; simp [opAct] at hv; done)
           | (obtain ⟨ys, hys, rfl⟩ := Option.map_eq_some_iff.1 htr; simp [opAct] at hv; done))
end Go.Sas
namespace Go.Sas

/-! ### Code -/
structure AOper where
  dst : Option (Bool × Nat)
  op : AOp
  grd : Option (Od × Bool)
  deriving Inhabited

/-- an operation of a region that draws its order: its place, whether it comes behind all that can be moved, the variables that it waits for -/
structure DItm where
  o : AOper
  i : Nat
  tail : Bool
  ws : List Nat
  deriving Inhabited

inductive ACode where
  | skip
  | ret
  | exit (i : Nat)
  | seq (a b : ACode)
  | cond (c : Od) (a b : ACode)
  | block (i : Nat) (c : ACode)
  | loop (c : ACode)
  | reg (ops : List AOper)
  | draw (l : List DItm)
  | rng (g : Od) (ps : List Nat) (a c : ACode)
  | other (c : Code)
  deriving Inhabited

/-- what is fixed in a function: the program, the temporaries that live on, the literals that are written, how many temporaries there are, the round that it is -/
structure Cx where
  P : Program
  K : List Nat
  mu : List Nat
  n : Nat
  ro : Option Nat

def trDst (cx : Cx) : Option Tmp → Option (Option (Bool × Nat))
  | none => some none
  | some d => if d < cx.n then some (some (cx.K.contains d, d)) else none

def trGrd (cx : Cx) (ops : Array Oper) : Option (Nat × Bool) → Option (Option (Od × Bool))
  | none => some none
  | some (j, want) => match (ops[j]?).bind (·.dst) with
    | some d => (od cx.K (.tmp d)).map fun x => some (x, want)
    | none => none

def trOper (cx : Cx) (ops : Array Oper) (o : Oper) : Option AOper :=
  match trDst cx o.dst, trOp cx.P cx.K (match o.dst with | some d => cx.mu.contains d | none => false) o, trGrd cx ops o.guard with
  | some d, some p, some g => some ⟨d, p, g⟩
  | _, _, _ => none

def trOps (cx : Cx) (ops : Array Oper) : List Oper → Option (List AOper)
  | [] => some []
  | o :: r => match trOper cx ops o, trOps cx ops r with
    | some x, some y => some (x :: y)
    | _, _ => none

/-! ### Regions that draw their order -/
def odl : Option Od → List Od
  | none => []
  | some x => [x]

/-- the operands -/
def opOds : AOp → List Od
  | .mv x | .box x | .nilc x | .eqn _ x | .eqi _ x | .un _ x | .cv _ x | .cvs x | .ld _ x | .fa x _ | .fd _ x _ | .ex x _ | .len x | .lens x => [x]
  | .pick c a b => [c, a, b]
  | .new _ | .lenc _ => []
  | .mk _ ps => ps.map fun (_, _, x) => x
  | .mks _ _ xs | .mkf _ xs | .mx xs | .mn xs | .newm _ xs => xs
  | .st _ a v => [a, v]
  | .bin _ x y | .binb _ x y | .eqs _ _ x y | .ia _ x y | .iaa _ _ x y | .ix _ _ _ x y | .sx x y | .app _ _ x y | .cpy _ x y => [x, y]
  | .mksl _ _ _ l c | .newl _ _ _ l c => [l, c]
  | .sl _ x a b c => x :: (odl a ++ odl b ++ odl c)
  | .ssl x a b => x :: (odl a ++ odl b)
  | .call f xs => f :: xs

/-- it changes nothing (or lays a variable, whose place has been kept for it) -/
def movB : AOp → Bool
  | .new _ => true
  | .box _ | .st _ _ _ | .mks true _ _ | .mksl _ _ _ _ _ | .app _ _ _ _ | .cpy _ _ _ | .call _ _ => false
  | _ => true

def odSlot : Od → Option Nat
  | .l t | .g t => some t
  | .c _ => none

def looks (o : AOper) (t : Nat) : Bool := (opOds o.op).any (fun x => odSlot x == some t) || (match o.grd with | some (x, _) => odSlot x == some t | none => false)

/-- neither sees what the other writes -/
def apartA (x y : AOper) : Bool :=
  (match x.dst with | some (_, d) => !looks y d && (match y.dst with | some (_, d') => d != d' | none => true) | none => true) &&
  (match y.dst with | some (_, d) => !looks x d | none => true)

def isMov (A : List AOper) (i : Nat) : Bool := match A[i]? with
  | some o => movB o.op
  | none => false

/-- j waits for i -/
def waitsFor (ops : Array Oper) (j i : Nat) : Bool := match ops[j]? with
  | some o => o.after.any fun e => Region.binds .any e && e.on == i
  | none => false

def freeA (ops : Array Oper) (A : List AOper) (listed : Array Bool) (i : Nat) : Bool := match A[i]? with
  | none => false
  | some oi => (List.range ops.size).all fun j => j == i || listed.getD j true || waitsFor ops j i || (match A[j]? with
    | some oj => apartA oi oj
    | none => false)

/-- j waits for i, or for what waits for i -/
def waits2 (ops : Array Oper) (j i : Nat) : Bool := waitsFor ops j i || (List.range ops.size).any fun k => waitsFor ops j k && waitsFor ops k i

/-- it comes behind all that can be moved -/
def tailA (ops : Array Oper) (A : List AOper) (j : Nat) : Bool := (List.range ops.size).all fun i => !isMov A i || waits2 ops j i

def canonGo (ops : Array Oper) (A : List AOper) : Nat → Array Bool → Option (List Nat)
  | 0, listed => if (Region.ready .any ops listed).isEmpty then some [] else none
  | n + 1, listed => match (Region.ready .any ops listed).find? (isMov A) with
    | some i => if freeA ops A listed i then (match canonGo ops A n (listed.setIfInBounds i true) with
      | some l => some (i :: l)
      | none => none) else none
    | none => match Region.ready .any ops listed with
      | [] => some []
      | [i] => match canonGo ops A n (listed.setIfInBounds i true) with
        | some l => some (i :: l)
        | none => none
      | _ => none

/-- it writes through a pointer -/
def isStB : AOp → Bool
  | .st _ _ _ => true
  | _ => false
def isStA (A : List AOper) (j : Nat) : Bool := match A[j]? with
  | some o => isStB o.op
  | none => false
/-- all that writes through a pointer waits for it -/
def earlyA (ops : Array Oper) (A : List AOper) (i : Nat) : Bool := (List.range ops.size).all fun j => !isStA A j || waits2 ops j i
/-- of what can be moved: whether it comes before all that writes; of the rest: whether it comes behind all that can be moved -/
def flagA (ops : Array Oper) (A : List AOper) (i : Nat) : Bool := match isMov A i with
  | true => earlyA ops A i
  | false => tailA ops A i
def isNew (A : List AOper) (i : Nat) : Bool := match A[i]? with
  | some ⟨_, .new _, _⟩ => true
  | some ⟨_, .newl _ _ _ _ _, _⟩ => true
  | some ⟨_, .newm _ _, _⟩ => true
  | _ => false

def wsA (ops : Array Oper) (A : List AOper) (j : Nat) : List Nat := (List.range ops.size).filter fun i => isNew A i && waitsFor ops j i

def pickA (ops : Array Oper) (A : List AOper) : List Nat → Option (List DItm)
  | [] => some []
  | i :: r => match A[i]?, pickA ops A r with
    | some o, some l => some (⟨o, i, flagA ops A i, wsA ops A i⟩ :: l)
    | _, _ => none

/-- a slice that is made, as one whose place has been kept for it -/
def nwl (o : AOper) : AOper := match o.op with
  | .mksl sz by_ z l c => ⟨o.dst, .newl sz by_ z l c, o.grd⟩
  | .mks true sz xs => ⟨o.dst, .newm sz xs, o.grd⟩
  | _ => o
def isNwl : AOp → Bool
  | .newl _ _ _ _ _ => true
  | .newm _ _ => true
  | _ => false
def canon (cx : Cx) (ops : Array Oper) : Option (List DItm) := match trOps cx ops ops.toList with
  | some A => if cx.P.follows .mixedOrders && A.all (fun o => !isNwl o.op) then (match canonGo ops A ops.size (Array.replicate ops.size false) with
    | some l => pickA ops A l
    | none => match canonGo ops (A.map nwl) ops.size (Array.replicate ops.size false) with
      | some l => pickA ops (A.map nwl) l
      | none => none) else none
  | none => none

/-- what is not translated is never reached -/
def regOr : Option (List AOper) → ACode
  | some l => .reg l
  | none => .other .skip
def drawOr : Option (List DItm) → ACode
  | some l => .draw l
  | none => .other .skip
section
variable {x : Option (List AOper)} {y : Option (List DItm)}
@[simp] theorem regOr_reg {l : List AOper} : (regOr x = .reg l) ↔ x = some l := by cases x <;> simp [regOr]
@[simp] theorem drawOr_draw {l : List DItm} : (drawOr y = .draw l) ↔ y = some l := by cases y <;> simp [drawOr]
@[simp] theorem regOr_skip : (regOr x = .skip) ↔ False := by cases x <;> simp [regOr]
@[simp] theorem drawOr_skip : (drawOr y = .skip) ↔ False := by cases y <;> simp [drawOr]
@[simp] theorem regOr_ret : (regOr x = .ret) ↔ False := by cases x <;> simp [regOr]
@[simp] theorem drawOr_ret : (drawOr y = .ret) ↔ False := by cases y <;> simp [drawOr]
@[simp] theorem regOr_exit {i : Nat} : (regOr x = .exit i) ↔ False := by cases x <;> simp [regOr]
@[simp] theorem drawOr_exit {i : Nat} : (drawOr y = .exit i) ↔ False := by cases y <;> simp [drawOr]
@[simp] theorem regOr_seq {a b : ACode} : (regOr x = .seq a b) ↔ False := by cases x <;> simp [regOr]
@[simp] theorem drawOr_seq {a b : ACode} : (drawOr y = .seq a b) ↔ False := by cases y <;> simp [drawOr]
@[simp] theorem regOr_cond {c : Od} {a b : ACode} : (regOr x = .cond c a b) ↔ False := by cases x <;> simp [regOr]
@[simp] theorem drawOr_cond {c : Od} {a b : ACode} : (drawOr y = .cond c a b) ↔ False := by cases y <;> simp [drawOr]
@[simp] theorem regOr_block {i : Nat} {c : ACode} : (regOr x = .block i c) ↔ False := by cases x <;> simp [regOr]
@[simp] theorem drawOr_block {i : Nat} {c : ACode} : (drawOr y = .block i c) ↔ False := by cases y <;> simp [drawOr]
@[simp] theorem regOr_loop {c : ACode} : (regOr x = .loop c) ↔ False := by cases x <;> simp [regOr]
@[simp] theorem drawOr_loop {c : ACode} : (drawOr y = .loop c) ↔ False := by cases y <;> simp [drawOr]
@[simp] theorem regOr_rng {g : Od} {ps : List Nat} {a c : ACode} : (regOr x = .rng g ps a c) ↔ False := by cases x <;> simp [regOr]
@[simp] theorem drawOr_rng {g : Od} {ps : List Nat} {a c : ACode} : (drawOr y = .rng g ps a c) ↔ False := by cases y <;> simp [drawOr]
@[simp] theorem regOr_draw {l : List DItm} : (regOr x = .draw l) ↔ False := by cases x <;> simp [regOr]
@[simp] theorem drawOr_reg {l : List AOper} : (drawOr y = .reg l) ↔ False := by cases y <;> simp [drawOr]
end

def trCode (cx : Cx) : Code → Option ACode
  | .skip => some .skip
  | .ret => some .ret
  | .exit i => some (.exit i)
  | .seq a b => match trCode cx a, trCode cx b with
    | some x, some y => some (.seq x y)
    | _, _ => none
  | .cond c a b => match od cx.K c, trCode cx a, trCode cx b with
    | some z, some x, some y => some (.cond z x y)
    | _, _, _ => none
  | .block i c => (trCode cx c).map (.block i)
  | .loop c => (trCode cx c).map .loop
  | .region _ ops false => some (regOr (trOps cx ops ops.toList))
  | .region _ ops true => some (drawOr (canon cx ops))
  | .rangeFunc g ps a c => match od cx.K g, trCode cx a, trCode cx c with
    | some z, some x, some y => some (.rng z ps.toList x y)
    | _, _, _ => none
  | c => some (.other c)

/-! ### The environment -/
structure Env where
  l : List (Nat × AV)
  g : List (Nat × AV)

def look : List (Nat × AV) → Nat → AV
  | [], _ => .bad
  | (i, v) :: r, t => if i = t then v else look r t

def gset : List (Nat × AV) → Nat → AV → List (Nat × AV)
  | [], t, v => [(t, v)]
  | (i, u) :: r, t, v => if i = t then (i, v) :: r else (i, u) :: gset r t v

theorem look_gset : ∀ (l : List (Nat × AV)) (t : Nat) (v : AV) (s : Nat), look (gset l t v) s = if t = s then v else look l s
  | [], t, v, s => by simp [gset, look]
  | (i, u) :: r, t, v, s => by
    simp only [gset]
    split
    · rename_i h; subst h; simp only [look]; split <;> rfl
    · rename_i h
      simp only [look, look_gset r t v s]
      split
      · rename_i h2; subst h2; rw [if_neg (fun h3 => h h3.symm)]
      · rfl

def ev (e : Env) : Od → AV
  | .l t => look e.l t
  | .g t => look e.g t
  | .c a => a

def put (e : Env) : Option (Bool × Nat) → AV → Env
  | none, _ => e
  | some (true, t), v => ⟨e.l, gset e.g t v⟩
  | some (false, t), v => ⟨(t, v) :: e.l, e.g⟩

/-- the marks of loops over functions that are over: their blocks hold no call -/
structure Mk (w0 : World) (st : St) (w : World) (ds : List Deferred) : Prop where
  nd : ds.Nodup
  all : ∀ d ∈ ds, ∃ D, d = { target := .collected D, args := #[] } ∧ w0.heap.size ≤ D ∧ w.heap[D]? = some (.deferred (some [])) ∧ ¬ Owned st D
theorem Mk.nil {w0 : World} {st : St} {w : World} : Mk w0 st w [] := ⟨List.nodup_nil, fun d hd => by cases hd⟩
theorem Mk.sub {w0 : World} {st st' : St} {w : World} {ds : List Deferred} (h : Mk w0 st w ds) (ho : ∀ b, Owned st' b → Owned st b) : Mk w0 st' w ds :=
  ⟨h.nd, fun d hd => let ⟨D, h1, h2, h3, h4⟩ := h.all d hd; ⟨D, h1, h2, h3, fun h5 => h4 (ho D h5)⟩⟩
theorem Mk.mono {w0 : World} {st st' : St} {w w' : World} {ds : List Deferred} (h : Mk w0 st w ds) (he : Ext st w st' w') : Mk w0 st' w' ds :=
  ⟨h.nd, fun d hd => by
    obtain ⟨D, h1, h2, h3, h4⟩ := h.all d hd
    have hlt : D < w.heap.size := (Array.getElem?_eq_some_iff.1 h3).1
    exact ⟨D, h1, h2, by rw [he.frame D hlt h4]; exact h3, fun h5 => (he.own D h5).elim h4 fun h6 => by omega⟩⟩

structure Rel (cx : Cx) (st0 : St) (w0 : World) (st : St) (w : World) (e : Env) (H : AHeap) (a : Act) : Prop where
  ext : Ext st0 w0 st w
  hH : RelH st w H
  l : ∀ t, RelV st (look e.l t) (a.tmps.getD t undef)
  g : ∀ t, RelV st (look e.g t) (a.tmps.getD t undef)
  kl : ∀ t, cx.K.contains t = true → look e.l t = .bad
  kg : ∀ t, cx.K.contains t = false → look e.g t = .bad
  n : a.tmps.size = cx.n
  d : Mk w0 st w a.defers

variable {cx : Cx} {st0 st st' : St} {w0 w w' : World} {e e' : Env} {H H' : AHeap} {a : Act}

theorem Rel.ops (h : Rel cx st0 w0 st w e H a) : RelO st cx.K (ev e) a.eval := by
  intro x y hy
  cases x with
  | tmp t =>
    simp only [od, Option.some.injEq] at hy
    split at hy <;> subst hy
    · exact h.g t
    · exact h.l t
  | const v => simp only [od, Option.some.injEq] at hy; subst hy; exact relV_ofVal st v
  | global g =>
    simp only [od, Option.some.injEq] at hy; subst hy
    simp only [ev, RelV]
    rfl
  | func f =>
    simp only [od] at hy
    split at hy
    · rename_i hfl
      simp only [Option.some.injEq] at hy; subst hy
      simp only [ev, RelV]
      exact ⟨#[], by rw [fnV, if_pos hfl]; rfl, by simp [RelL]⟩
    · cases hy

theorem Rel.put (h : Rel cx st0 w0 st w e H a) (hext : Ext st w st' w') (hH' : RelH st' w' H') {d : Option Tmp} {ad : Option (Bool × Nat)} (hd : trDst cx d = some ad) {v : Value} {r : AV} (hr : RelV st' r v) :
    Rel cx st0 w0 st' w' (put e ad r) H' (a.put d v) := by
  have hle := hext.le
  cases d with
  | none =>
    simp only [trDst, Option.some.injEq] at hd; subst hd
    exact ⟨h.ext.trans hext, hH', fun t => (h.l t).mono hle, fun t => (h.g t).mono hle, h.kl, h.kg, h.n, h.d.mono hext⟩
  | some d =>
    simp only [trDst] at hd
    split at hd
    · rename_i hlt
      simp only [Option.some.injEq] at hd; subst hd
      have hsz : d < a.tmps.size := by rw [h.n]; exact hlt
      have hget : ∀ t, (a.tmps.setIfInBounds d v).getD t undef = if d = t then v else a.tmps.getD t undef := by
        intro t
        simp only [Array.getD_eq_getD_getElem?, Array.getElem?_setIfInBounds]
        split
        · rename_i he; subst he; simp [hsz]
        · rfl
      cases hK : cx.K.contains d with
      | true =>
        refine ⟨h.ext.trans hext, hH', fun t => ?_, fun t => ?_, h.kl, fun t ht => ?_, by simp [Act.put, h.n], h.d.mono hext⟩
        · simp only [Go.Sas.put, Act.put, hget]
          split
          · rename_i he; subst he; rw [h.kl d hK]; simp only [RelV]
          · exact (h.l t).mono hle
        · simp only [Go.Sas.put, Act.put, hget, look_gset]
          split
          · exact hr
          · exact (h.g t).mono hle
        · simp only [Go.Sas.put, look_gset]
          split
          · rename_i he; subst he; rw [hK] at ht; cases ht
          · exact h.kg t ht
      | false =>
        refine ⟨h.ext.trans hext, hH', fun t => ?_, fun t => ?_, fun t ht => ?_, h.kg, by simp [Act.put, h.n], h.d.mono hext⟩
        · simp only [Go.Sas.put, Act.put, hget, look]
          split
          · exact hr
          · exact (h.l t).mono hle
        · simp only [Go.Sas.put, Act.put, hget]
          split
          · rename_i he; subst he; rw [h.kg d hK]; simp only [RelV]
          · exact (h.g t).mono hle
        · simp only [Go.Sas.put, look]
          split
          · rename_i he; subst he; rw [hK] at ht; cases ht
          · exact h.kl t ht
    · cases hd

/-! ### Running the rest of a body -/
def Fc (ro : Option Nat) : Fence := { fn := fun _ => True, depth := none, alive := false, round := ro }

/-- a round of a loop over a function must not be left by a return -/
def RetOk (ro : Option Nat) (p : Prop) : Prop := match ro with
  | none => p
  | some _ => False
theorem RetOk.mono {ro : Option Nat} {p q : Prop} (h : p → q) (hp : RetOk ro p) : RetOk ro q := by
  cases ro with
  | none => exact h hp
  | some l => exact hp

inductive CItm where
  | code (c : Code)
  | ops (ops : Array Oper) (l : List Nat)
  | blk (i : Nat)
  | bk (I : Act → World → Prop)

mutual
def GoK (P : Program) (ro : Option Nat) (k : List CItm) (R : Act → World → Prop) (a : Act) (w : World) : Prop := match k with
  | [] => R a w
  | .code c :: k => c.wpIn (Fc ro) 0 P (fun x a' w' => match x with
    | .normal => GoK P ro k R a' w'
    | .exit i => ExK P ro i k R a' w'
    | .ret => RetOk ro (R a' w')
    | _ => False) a w
  | .ops ops l :: k => wpOpsIn (Fc ro) 0 P ops (fun x a' w' => match x with
    | .normal => GoK P ro k R a' w'
    | _ => False) l a w
  | .blk _ :: k => GoK P ro k R a w
  | .bk I :: _ => I a w
def ExK (P : Program) (ro : Option Nat) (i : Nat) (k : List CItm) (R : Act → World → Prop) (a : Act) (w : World) : Prop := match k with
  | [] => False
  | .blk j :: k => if i = j then GoK P ro k R a w else ExK P ro i k R a w
  | _ :: k => ExK P ro i k R a w
end

inductive AItm where
  | code (c : ACode)
  | ops (l : List AOper)
  | blk (i : Nat)
  | bk (I : Env → AHeap → Prop)

def TrL (cx : Cx) (ops : Array Oper) : List AOper → List Nat → Prop
  | [], l => l = []
  | o :: r, l => ∃ i l' o', l = i :: l' ∧ ops[i]? = some o' ∧ trOper cx ops o' = some o ∧ TrL cx ops r l'

def TrItm (cx : Cx) (st0 : St) (w0 : World) : AItm → CItm → Prop
  | .code ac, .code c => trCode cx c = some ac
  | .ops l, .ops ops l' => TrL cx ops l l'
  | .blk i, .blk j => i = j
  | .bk I, .bk J => J = fun a w => ∃ st e H, Rel cx st0 w0 st w e H a ∧ I e H
  | _, _ => False

def TrK (cx : Cx) (st0 : St) (w0 : World) : List AItm → List CItm → Prop
  | [], k => k = []
  | x :: r, k => ∃ y k', k = y :: k' ∧ TrItm cx st0 w0 x y ∧ TrK cx st0 w0 r k'

/-- The rest of the body, from every world that fits, ends where R holds. m: how many objects there were in the beginning. -/
def AGo (cx : Cx) (m : Nat) (k : List AItm) (R : Env → AHeap → Prop) (e : Env) (H : AHeap) : Prop :=
  ∀ st0 w0 kc, st0.loc.length = m → TrK cx st0 w0 k kc → ∀ st a w, Rel cx st0 w0 st w e H a →
    GoK cx.P cx.ro kc (fun a' w' => ∃ st' e' H', Rel cx st0 w0 st' w' e' H' a' ∧ R e' H') a w

def AEx (cx : Cx) (m : Nat) (i : Nat) (k : List AItm) (R : Env → AHeap → Prop) (e : Env) (H : AHeap) : Prop :=
  ∀ st0 w0 kc, st0.loc.length = m → TrK cx st0 w0 k kc → ∀ st a w, Rel cx st0 w0 st w e H a →
    ExK cx.P cx.ro i kc (fun a' w' => ∃ st' e' H', Rel cx st0 w0 st' w' e' H' a' ∧ R e' H') a w

variable {m : Nat} {k : List AItm} {R : Env → AHeap → Prop}

theorem AGo_nil (h : R e H) : AGo cx m [] R e H := by
  intro st0 w0 kc _ hk st a w hr
  simp only [TrK] at hk; subst hk
  simp only [GoK]
  exact ⟨st, e, H, hr, h⟩

theorem AGo_blk {i : Nat} (h : AGo cx m k R e H) : AGo cx m (.blk i :: k) R e H := by
  intro st0 w0 kc hm hk st a w hr
  simp only [TrK] at hk
  obtain ⟨y, k', rfl, h1, h2⟩ := hk
  cases y <;> simp only [TrItm] at h1
  simp only [GoK]
  exact h st0 w0 k' hm h2 st a w hr

theorem AGo_bk {I : Env → AHeap → Prop} (h : I e H) : AGo cx m (.bk I :: k) R e H := by
  intro st0 w0 kc hm hk st a w hr
  simp only [TrK] at hk
  obtain ⟨y, k', rfl, h1, h2⟩ := hk
  cases y <;> simp only [TrItm] at h1
  subst h1
  simp only [GoK]
  exact ⟨st, e, H, hr, h⟩

theorem AEx_blk {i : Nat} (h : AGo cx m k R e H) : AEx cx m i (.blk i :: k) R e H := by
  intro st0 w0 kc hm hk st a w hr
  simp only [TrK] at hk
  obtain ⟨y, k', rfl, h1, h2⟩ := hk
  cases y <;> simp only [TrItm] at h1
  subst h1
  simp only [ExK, if_true]
  exact h st0 w0 k' hm h2 st a w hr

theorem AEx_pass {i : Nat} {x : AItm} (hx : ∀ j, x = .blk j → i ≠ j) (h : AEx cx m i k R e H) : AEx cx m i (x :: k) R e H := by
  intro st0 w0 kc hm hk st a w hr
  simp only [TrK] at hk
  obtain ⟨y, k', rfl, h1, h2⟩ := hk
  have h3 := h st0 w0 k' hm h2 st a w hr
  cases y with
  | blk j =>
    cases x <;> simp only [TrItm] at h1
    subst h1
    simp only [ExK]
    rw [if_neg (hx _ rfl)]; exact h3
  | _ => simp only [ExK]; exact h3

theorem uponIn_mono {F : Fence} {n : Nat} {P : Program} {o : Oper} {a : Act} {K K' : Act → World → Prop} {Q Q' : Exit → Act → World → Prop} {r : Result Next} (hk : ∀ a w, K a w → K' a w) (hq : ∀ x a w, Q x a w → Q' x a w)
    (h : o.uponIn F n P a K Q r) : o.uponIn F n P a K' Q' r := by
  have hl : LetsOut Q → LetsOut Q' := fun ⟨a, w, h⟩ => ⟨a, w, hq _ _ _ h⟩
  cases r with
  | ok x w' =>
    cases x <;> simp only [Oper.uponIn] at h ⊢ <;>
      first
        | exact hk _ _ h
        | exact ⟨h.1, CallsIn.mono h.2 (fun e w'' he => by cases e <;> first | exact hk _ _ he | exact hq _ _ _ he | exact hl he)⟩
        | exact ⟨h.1, RowsIn.mono h.2 (fun _ _ he => hk _ _ he)⟩
        | exact ⟨h.1, RoundIn.mono h.2 (fun e w'' he => by cases e <;> first | exact hk _ _ he | exact hq _ _ _ he | exact hl he)⟩
  | halt x w' => cases x <;> simp only [Oper.uponIn] at h ⊢ <;> exact hq _ _ _ h

theorem wpOpsIn_mono {F : Fence} {n : Nat} {P : Program} {ops : Array Oper} {Q Q' : Exit → Act → World → Prop} (hq : ∀ x a w, Q x a w → Q' x a w) : ∀ (l : List Nat) (a : Act) (w : World), wpOpsIn F n P ops Q l a w → wpOpsIn F n P ops Q' l a w
  | [], a, w, h => hq _ _ _ h
  | i :: l, a, w, h => by
    simp only [wpOpsIn] at h ⊢
    split
    · rename_i ho; simp only [ho] at h; exact wpOpsIn_mono hq l a w h
    · rename_i o ho
      simp only [ho] at h
      split
      · rename_i hw; simp only [hw, if_true, Oper.wpIn] at h ⊢
        exact ⟨h.1, uponIn_mono (fun a w => wpOpsIn_mono hq l a w) hq h.2⟩
      · rename_i hw; simp only [hw] at h
        exact ⟨h.1, wpOpsIn_mono hq l _ w h.2⟩

section code
variable {ac x y : ACode}
theorem AGo_code (h : ∀ (c : Code) (Q : Exit → Act → World → Prop) st0 w0 kc, st0.loc.length = m → TrK cx st0 w0 k kc → trCode cx c = some ac →
    (∀ a' w', GoK cx.P cx.ro kc (fun a' w' => ∃ st' e' H', Rel cx st0 w0 st' w' e' H' a' ∧ R e' H') a' w' → Q .normal a' w') →
    (∀ i a' w', ExK cx.P cx.ro i kc (fun a' w' => ∃ st' e' H', Rel cx st0 w0 st' w' e' H' a' ∧ R e' H') a' w' → Q (.exit i) a' w') →
    (∀ a' w', RetOk cx.ro (∃ st' e' H', Rel cx st0 w0 st' w' e' H' a' ∧ R e' H') → Q .ret a' w') →
    ∀ st a w, Rel cx st0 w0 st w e H a → c.wpIn (Fc cx.ro) 0 cx.P Q a w) : AGo cx m (.code ac :: k) R e H := by
  intro st0 w0 kc hm hk st a w hr
  simp only [TrK] at hk
  obtain ⟨y, k', rfl, h1, h2⟩ := hk
  cases y <;> simp only [TrItm] at h1
  rename_i c
  simp only [GoK]
  exact h c _ st0 w0 k' hm h2 h1 (fun _ _ h => h) (fun _ _ _ h => h) (fun _ _ h => h) st a w hr

theorem AGo_skip (h : AGo cx m k R e H) : AGo cx m (.code .skip :: k) R e H := by
  refine AGo_code fun c Q st0 w0 kc hm hk ht hn hx hr st a w hrel => ?_
  cases c <;> (try simp only [trCode] at ht)
  case skip => exact wpIn_skip (hn _ _ (h st0 w0 kc hm hk st a w hrel))
  case region id ops d => cases d <;> simp [trCode] at ht
  all_goals first | cases ht | (split at ht <;> cases ht) | (obtain ⟨_, _, h'⟩ := Option.map_eq_some_iff.1 ht; cases h')

theorem AGo_ret (h : RetOk cx.ro (R e H)) : AGo cx m (.code .ret :: k) R e H := by
  refine AGo_code fun c Q st0 w0 kc hm hk ht hn hx hr st a w hrel => ?_
  cases c <;> (try simp only [trCode] at ht)
  case ret => exact wpIn_ret (hr _ _ (h.mono fun h => ⟨st, e, H, hrel, h⟩))
  case region id ops d => cases d <;> simp [trCode] at ht
  all_goals first | cases ht | (split at ht <;> cases ht) | (obtain ⟨_, _, h'⟩ := Option.map_eq_some_iff.1 ht; cases h')

theorem AGo_exit {i : Nat} (h : AEx cx m i k R e H) : AGo cx m (.code (.exit i) :: k) R e H := by
  refine AGo_code fun c Q st0 w0 kc hm hk ht hn hx hr st a w hrel => ?_
  cases c <;> (try simp only [trCode] at ht)
  case exit j => cases ht; exact wpIn_exit (hx _ _ _ (h st0 w0 kc hm hk st a w hrel))
  case region id ops d => cases d <;> simp [trCode] at ht
  all_goals first | cases ht | (split at ht <;> cases ht) | (obtain ⟨_, _, h'⟩ := Option.map_eq_some_iff.1 ht; cases h')

theorem AGo_seq (h : AGo cx m (.code x :: .code y :: k) R e H) : AGo cx m (.code (.seq x y) :: k) R e H := by
  refine AGo_code fun c Q st0 w0 kc hm hk ht hn hx hr st a w hrel => ?_
  cases c <;> (try simp only [trCode] at ht)
  case seq c1 c2 =>
    split at ht
    · rename_i x' y' h1 h2
      cases ht
      have := h st0 w0 (.code c1 :: .code c2 :: kc) hm ⟨_, _, rfl, h1, _, _, rfl, h2, hk⟩ st a w hrel
      simp only [GoK, ExK] at this
      refine wpIn_seq (wpIn_mono this fun ex a' w' hq => ?_)
      cases ex <;> simp only [Exit.then] at hq ⊢
      case normal =>
        refine wpIn_mono hq fun ex2 a2 w2 hq2 => ?_
        cases ex2 <;> simp only at hq2 <;> first | exact hn _ _ hq2 | exact hx _ _ _ hq2 | exact hr _ _ hq2 | exact hq2.elim
      case exit i => exact hx _ _ _ hq
      case ret => exact hr _ _ hq
      all_goals exact hq.elim
    · cases ht
  case region id ops d => cases d <;> simp [trCode] at ht
  all_goals first | cases ht | (split at ht <;> cases ht) | (obtain ⟨_, _, h'⟩ := Option.map_eq_some_iff.1 ht; cases h')

theorem AGo_block {i : Nat} (h : AGo cx m (.code x :: .blk i :: k) R e H) : AGo cx m (.code (.block i x) :: k) R e H := by
  refine AGo_code fun c Q st0 w0 kc hm hk ht hn hx hr st a w hrel => ?_
  cases c <;> (try simp only [trCode] at ht)
  case block j c1 =>
    obtain ⟨x', h1, h2⟩ := Option.map_eq_some_iff.1 ht
    cases h2
    have := h st0 w0 (.code c1 :: .blk i :: kc) hm ⟨_, _, rfl, h1, _, _, rfl, rfl, hk⟩ st a w hrel
    simp only [GoK, ExK] at this
    refine wpIn_block (wpIn_mono this fun ex a' w' hq => ?_)
    cases ex <;> simp only [Exit.inBlock] at hq ⊢
    case normal => exact hn _ _ hq
    case exit j =>
      split at hq
      · rename_i he; subst he; rw [if_pos rfl]; exact hn _ _ hq
      · rename_i he; rw [if_neg he]; exact hx _ _ _ hq
    case ret => exact hr _ _ hq
    all_goals exact hq.elim
  case region id ops d => cases d <;> simp [trCode] at ht
  all_goals first | cases ht | (split at ht <;> cases ht) | (obtain ⟨_, _, h'⟩ := Option.map_eq_some_iff.1 ht; cases h')

theorem AGo_cond {z : Od} {b : Bool} (hb : ev e z = .lit (.bool b)) (h1 : b = true → AGo cx m (.code x :: k) R e H) (h2 : b = false → AGo cx m (.code y :: k) R e H) : AGo cx m (.code (.cond z x y) :: k) R e H := by
  refine AGo_code fun c Q st0 w0 kc hm hk ht hn hx hr st a w hrel => ?_
  cases c <;> (try simp only [trCode] at ht)
  case cond o c1 c2 =>
    split at ht
    · rename_i z' x' y' hz hc1 hc2
      cases ht
      have hv := hrel.ops o z hz
      rw [hb] at hv; simp only [RelV] at hv
      have fin : ∀ c3 x3, trCode cx c3 = some x3 → AGo cx m (.code x3 :: k) R e H → c3.wpIn (Fc cx.ro) 0 cx.P Q a w := by
        intro c3 x3 h3 hg
        have := hg st0 w0 (.code c3 :: kc) hm ⟨_, _, rfl, h3, hk⟩ st a w hrel
        simp only [GoK] at this
        refine wpIn_mono this fun ex a' w' hq => ?_
        cases ex <;> simp only at hq <;> first | exact hn _ _ hq | exact hx _ _ _ hq | exact hr _ _ hq | exact hq.elim
      exact wpIn_cond_split hv (fun ht => fin _ _ hc1 (h1 ht)) (fun hf => fin _ _ hc2 (h2 hf))
    · cases ht
  case region id ops d => cases d <;> simp [trCode] at ht
  all_goals first | cases ht | (split at ht <;> cases ht) | (obtain ⟨_, _, h'⟩ := Option.map_eq_some_iff.1 ht; cases h')

theorem trL_range {ops : Array Oper} {l : List AOper} (h : trOps cx ops ops.toList = some l) : TrL cx ops l (List.range ops.size) := by
  have key : ∀ (os : List Oper) (l : List AOper) (s : Nat), (∀ j, os[j]? = ops[s + j]?) → trOps cx ops os = some l → TrL cx ops l (List.range' s os.length) := by
    intro os
    induction os with
    | nil => intro l s _ h; simp only [trOps, Option.some.injEq] at h; subst h; simp [TrL]
    | cons o os ih =>
      intro l s hs h
      simp only [trOps] at h
      split at h
      · rename_i x y hx hy
        simp only [Option.some.injEq] at h; subst h
        simp only [TrL, List.length_cons, List.range'_succ]
        exact ⟨s, _, o, rfl, by simpa using (hs 0).symm, hx, ih y (s + 1) (fun j => by have := hs (j + 1); simpa [Nat.add_assoc, Nat.add_comm 1 j] using this) hy⟩
      · cases h
  have := key ops.toList l 0 (fun j => by simp) h
  rw [List.range_eq_range']
  simpa using this

theorem AGo_reg {l : List AOper} (h : AGo cx m (.ops l :: k) R e H) : AGo cx m (.code (.reg l) :: k) R e H := by
  refine AGo_code fun c Q st0 w0 kc hm hk ht hn hx hr st a w hrel => ?_
  cases c <;> (try simp only [trCode] at ht)
  case region id ops d =>
    cases d <;> simp only [trCode, Option.some.injEq, regOr_reg, drawOr_reg] at ht
    · have h1 := ht
      have := h st0 w0 (.ops ops (List.range ops.size) :: kc) hm ⟨_, _, rfl, trL_range h1, hk⟩ st a w hrel
      simp only [GoK] at this
      refine wpIn_region (wpOpsIn_mono (fun ex a' w' hq => ?_) _ _ _ this)
      cases ex <;> simp only at hq <;> first | exact hn _ _ hq | exact hq.elim
  all_goals first | cases ht | (split at ht <;> cases ht) | (obtain ⟨_, _, h'⟩ := Option.map_eq_some_iff.1 ht; cases h')
end code
end Go.Sas
namespace Go.Sas
variable {cx : Cx} {st0 st st' : St} {w0 w w' : World} {e e' : Env} {H H' : AHeap} {a : Act} {m : Nat} {k : List AItm} {R : Env → AHeap → Prop}

/-! ### Operations -/
theorem AGo_ops_nil (h : AGo cx m k R ⟨[], e.g⟩ H) : AGo cx m (.ops [] :: k) R e H := by
  intro st0 w0 kc hm hk st a w hr
  simp only [TrK] at hk
  obtain ⟨y, k', rfl, h1, h2⟩ := hk
  cases y <;> simp only [TrItm] at h1
  simp only [TrL] at h1; subst h1
  simp only [GoK, wpOpsIn]
  exact h st0 w0 k' hm h2 st a w ⟨hr.ext, hr.hH, fun t => by simp only [look, RelV], hr.g, fun t _ => rfl, hr.kg, hr.n, hr.d⟩

theorem trOper_spec {ops : Array Oper} {o' : Oper} {o : AOper} (h : trOper cx ops o' = some o) :
    trDst cx o'.dst = some o.dst ∧ (∃ mu, trOp cx.P cx.K mu o' = some o.op) ∧ trGrd cx ops o'.guard = some o.grd := by
  unfold trOper at h
  split at h
  · rename_i d p g h1 h2 h3
    simp only [Option.some.injEq] at h; subst h
    exact ⟨h1, ⟨_, h2⟩, h3⟩
  · cases h

theorem trOp_noDefer {P : Program} {K : List Nat} {mu : Bool} {o : Oper} {ao : AOp} (h : trOp P K mu o = some ao) : ∀ c, o.op ≠ .defer c := by
  intro c hc; simp [trOp, hc] at h

/-- is a guarded operation carried out? -/
def gOk (e : Env) : Option (Od × Bool) → Option Bool
  | none => some true
  | some (x, want) => match ev e x with
    | .lit (.bool b) => some (b == want)
    | .lit (.tuple _) => some false
    | _ => none

theorem wanted_of {ops : Array Oper} {o' : Oper} {g : Option (Od × Bool)} {b : Bool} (hr : Rel cx st0 w0 st w e H a) (hgr : trGrd cx ops o'.guard = some g) (hg : gOk e g = some b) : Region.wanted o' (yielded ops a.tmps) = b := by
  cases hgu : o'.guard with
  | none =>
    simp only [hgu, trGrd, Option.some.injEq] at hgr; subst hgr
    simp only [gOk, Option.some.injEq] at hg; subst hg
    simp [Region.wanted, hgu]
  | some p =>
    obtain ⟨j, wt⟩ := p
    simp only [hgu, trGrd] at hgr
    split at hgr
    · rename_i dd hdd
      obtain ⟨z, hz, hzz⟩ := Option.map_eq_some_iff.1 hgr
      subst hzz
      have hv := hr.ops (.tmp dd) z hz
      simp only [Act.eval, Array.getD_eq_getD_getElem?] at hv
      simp only [gOk] at hg
      split at hg
      · rename_i c hx
        simp only [Option.some.injEq] at hg; subst hg
        rw [hx] at hv; simp only [RelV] at hv
        have hget : a.tmps[dd]? = some (.bool c) := by
          cases hq : a.tmps[dd]? with
          | none => rw [hq] at hv; simp [undef] at hv
          | some q => rw [hq] at hv; simp at hv; rw [hv]
        simp only [Region.wanted, hgu, yielded, hdd, Option.bind_some, hget]
        cases c <;> cases wt <;> rfl
      · rename_i vs hx
        simp only [Option.some.injEq] at hg; subst hg
        rw [hx] at hv; simp only [RelV] at hv
        have hget : ∀ c, a.tmps[dd]? ≠ some (.bool c) := by
          intro c hq; rw [hq] at hv; simp at hv
        simp only [Region.wanted, hgu, yielded, hdd, Option.bind_some]
        cases hq : a.tmps[dd]? with
        | none => rfl
        | some q =>
          cases q <;> first | rfl | exact absurd hq (hget _)
      · cases hg
    · cases hgr

/-- one operation, met -/
theorem AGo_op {o : AOper} {rest : List AOper} (hg : gOk e o.grd = some true)
    (h : ∀ (ops : Array Oper) (o' : Oper) (st0 : St) (w0 : World) (kc : List CItm) (l : List Nat), st0.loc.length = m → TrK cx st0 w0 k kc → TrL cx ops rest l → (∃ mu, trOp cx.P cx.K mu o' = some o.op) → trDst cx o'.dst = some o.dst →
      ∀ st a w, Rel cx st0 w0 st w e H a → ∀ (K' : Act → World → Prop) (Q : Exit → Act → World → Prop), (∀ st' e' H' a' w', Rel cx st0 w0 st' w' e' H' a' → AGo cx m (.ops rest :: k) R e' H' → K' a' w') →
        o'.uponIn (Fc cx.ro) 0 cx.P a K' Q ((execOp a.eval o').run cx.P w)) : AGo cx m (.ops (o :: rest) :: k) R e H := by
  intro st0 w0 kc hm hk st a w hr
  simp only [TrK] at hk
  obtain ⟨y, k', rfl, h1, h2⟩ := hk
  cases y <;> simp only [TrItm] at h1
  rename_i ops l
  simp only [TrL] at h1
  obtain ⟨i, l', o', rfl, ho, ht, hl⟩ := h1
  obtain ⟨hd, ⟨mu, hp⟩, hgr⟩ := trOper_spec ht
  simp only [GoK, wpOpsIn, ho]
  rw [if_pos (wanted_of hr hgr hg)]
  refine ⟨fun _ _ => trivial, ?_⟩
  rw [Oper.semAt_eq _ _ _ (trOp_noDefer hp)]
  refine h ops o' st0 w0 k' l' hm h2 hl ⟨mu, hp⟩ hd st a w hr _ _ fun st' e' H' a' w' hr' hgo => ?_
  have := hgo st0 w0 (.ops ops l' :: k') hm ⟨_, _, rfl, hl, h2⟩ st' a' w' hr'
  simpa only [GoK] using this

theorem upon_step {o' : Oper} {ad : Option (Bool × Nat)} {r : AV} (hrel : Rel cx st0 w0 st w e H a) (hd : trDst cx o'.dst = some ad) (hs : StepV cx.P a.eval o' st w r H')
    {K' : Act → World → Prop} {Q : Exit → Act → World → Prop} (hk : ∀ st' w' a', Rel cx st0 w0 st' w' (put e ad r) H' a' → K' a' w') : o'.uponIn (Fc cx.ro) 0 cx.P a K' Q ((execOp a.eval o').run cx.P w) := by
  obtain ⟨v, w', st', hrun, hext, hH', hr⟩ := hs
  rcases hrun with hrun | ⟨hrun, rfl⟩
  · rw [hrun]; simp only [Oper.uponIn]
    exact hk st' w' _ (hrel.put hext hH' hd hr)
  · rw [hrun]; simp only [Oper.uponIn]
    exact hk st' w' _ (hrel.put hext hH' hd hr)

section
variable {d : Option (Bool × Nat)} {op : AOp} {g : Option (Od × Bool)} {rest : List AOper}

theorem AGo_skipped (hg : gOk e g = some false) (h : AGo cx m (.ops rest :: k) R (put e d (.lit undef)) H) : AGo cx m (.ops (⟨d, op, g⟩ :: rest) :: k) R e H := by
  intro st0 w0 kc hm hk st a w hr
  simp only [TrK] at hk
  obtain ⟨y, k', rfl, h3, h4⟩ := hk
  cases y <;> simp only [TrItm] at h3
  rename_i ops l
  simp only [TrL] at h3
  obtain ⟨i, l', o', rfl, ho, ht, hl⟩ := h3
  obtain ⟨hd, ⟨mu, hp⟩, hgr⟩ := trOper_spec ht
  simp only [GoK, wpOpsIn, ho]
  rw [if_neg (by rw [wanted_of hr hgr hg]; simp)]
  refine ⟨fun _ _ => trivial, ?_⟩
  have := h st0 w0 (.ops ops l' :: k') hm ⟨_, _, rfl, hl, h4⟩ st (a.put o'.dst undef) w (hr.put (.refl _ _) hr.hH hd relLit)
  simpa only [GoK] using this

theorem AGo_val {r : AV} (hg : gOk e g = some true) (hv : opVal (ev e) H op = some r) (h : AGo cx m (.ops rest :: k) R (put e d r) H) : AGo cx m (.ops (⟨d, op, g⟩ :: rest) :: k) R e H := by
  refine AGo_op hg fun ops o' st0 w0 kc l hm hk hl hp hd st a w hrel K' Q hK => ?_
  obtain ⟨mu, hp⟩ := hp
  exact upon_step hrel hd (opVal_sound (fun a => rfl) hp hrel.ops hrel.hH hv) fun st' w' a' hr' => hK _ _ _ _ _ hr' h

theorem AGo_act {r : AV} (hg : gOk e g = some true) (hv : opAct (ev e) H op = some (r, H')) (h : AGo cx m (.ops rest :: k) R (put e d r) H') : AGo cx m (.ops (⟨d, op, g⟩ :: rest) :: k) R e H := by
  refine AGo_op hg fun ops o' st0 w0 kc l hm hk hl hp hd st a w hrel K' Q hK => ?_
  obtain ⟨mu, hp⟩ := hp
  exact upon_step hrel hd (opAct_sound hp hrel.ops hrel.hH hv) fun st' w' a' hr' => hK _ _ _ _ _ hr' h

/-! ### Calls -/
def callable (P : Program) (f : Nat) : Bool := match P.funcs[f]? with
  | some fn => fn.name != "runtime.NumGoroutine" && fn.body.isSome
  | none => false

/-- THE CONTRACT: called with these abstract values in this abstract heap the function returns, and what comes is of K. -/
def ACalls (P : Program) (f : Nat) (args : List AV) (H : AHeap) (K : AV → AHeap → Prop) : Prop :=
  callable P f = true ∧ ∀ st w vals, RelH st w H → RelL st args vals →
    Calls P f vals.toArray w fun x w' => ∃ v r H' st', x = .returned v ∧ Ext st w st' w' ∧ RelH st' w' H' ∧ RelV st' r v ∧ K r H'

theorem ACalls.mono {P : Program} {f : Nat} {args : List AV} {K K' : AV → AHeap → Prop} (h : ACalls P f args H K) (hk : ∀ r H', K r H' → K' r H') : ACalls P f args H K' :=
  ⟨h.1, fun st w vals hH hr => (h.2 st w vals hH hr).mono fun x w' ⟨v, r, H', st', e1, e2, e3, e4, e5⟩ => ⟨v, r, H', st', e1, e2, e3, e4, hk _ _ e5⟩⟩

theorem trOp_call {P : Program} {K : List Nat} {mu : Bool} {o : Oper} {f : Od} {xs : List Od} (h : trOp P K mu o = some (.call f xs)) :
    ∃ c f', o.op = .call c ∧ c.callee = .value f' ∧ od K f' = some f ∧ ods K c.args.toList = some xs := by
  cases hop : o.op <;> simp only [trOp, hop] at h
  case call c =>
    obtain ⟨callee, args, argTypes⟩ := c
    cases callee with
    | value f' =>
      simp only [trCall] at h
      split at h
      · rename_i g ys h1 h2
        simp only [Option.some.injEq, AOp.call.injEq] at h
        obtain ⟨rfl, rfl⟩ := h
        exact ⟨_, f', rfl, rfl, h1, h2⟩
      · cases h
    | invoke a b => simp [trCall] at h
    | builtin b =>
      exfalso
      simp only [trCall] at h
      repeat' split at h
      all_goals first
        | contradiction
        | (cases h; done)
        | (obtain ⟨ys, hys, h'⟩ := Option.map_eq_some_iff.1 h; cases h')
  all_goals
    exfalso
    repeat' split at h
    all_goals first
      | contradiction
      | (cases h; done)
      | (obtain ⟨ys, hys, h'⟩ := Option.map_eq_some_iff.1 h; cases h'; done)
      | (unfold trBin at h; repeat' split at h
         all_goals first
           | (cases h; done)
           | (simp only [Option.some.injEq] at h; cases h; done)
           | (obtain ⟨ys, hys, h'⟩ := Option.map_eq_some_iff.1 h; cases h'; done))

theorem AGo_call {f : Od} {xs : List Od} {fid : Nat} {caps : List AV} (hg : gOk e g = some true) (hf : ev e f = .fn fid caps)
    (h : ACalls cx.P (fnI fid) (fnA fid caps (xs.map (ev e))) H fun r H' => AGo cx m (.ops rest :: k) R (put e d r) H') : AGo cx m (.ops (⟨d, .call f xs, g⟩ :: rest) :: k) R e H := by
  refine AGo_op hg fun ops o' st0 w0 kc l hm hk hl hp hd st a w hrel K' Q hK => ?_
  obtain ⟨mu, hp⟩ := hp
  obtain ⟨c, f', hop, hcal, hf', hxs⟩ := trOp_call hp
  have hfv := hrel.ops f' f hf'
  rw [hf] at hfv; simp only [RelV] at hfv
  obtain ⟨us, hfv, hus⟩ := hfv
  have hargs := hrel.ops.list hxs
  obtain ⟨hc, hcalls⟩ := h
  unfold callable at hc
  split at hc
  · rename_i fn hfn
    simp only [Bool.and_eq_true, bne_iff_ne, ne_eq] at hc
    have hrun : (execOp a.eval o').run cx.P w = .ok (.enter (fnI fid) (fnA fid us.toList (c.args.toList.map a.eval)).toArray) w := by
      have hb : fn.body.isNone = false := by cases hx : fn.body <;> simp [hx] at hc ⊢
      have hn : (fn.name == "runtime.NumGoroutine") = false := by simpa using hc.1
      unfold fnV at hfv
      unfold fnI at hfn ⊢
      unfold fnA
      split at hfv
      · rename_i hfl
        rw [if_pos hfl] at hfn ⊢
        simp only [execOp, hop, resolve, hcal, Deferred.ofValue, hfv, Sem.run_bind, Sem.run_pure, Result.andThen_ok, invoke, callFunc, run_program, hfn, hn, hb, Bool.false_eq_true, if_false]
        simp [if_pos hfl]
      · rename_i hfl
        rw [if_neg hfl] at hfn ⊢
        simp only [execOp, hop, resolve, hcal, Deferred.ofValue, hfv, Sem.run_bind, Sem.run_pure, Result.andThen_ok, invoke, callFunc, run_program, hfn, hn, hb, Bool.false_eq_true, if_false]
        simp [if_neg hfl]
    rw [hrun]; simp only [Oper.uponIn]
    refine ⟨fun h => (by simp [Fc] at h), ?_⟩
    have h2 := hcalls st w (fnA fid us.toList (c.args.toList.map a.eval)) hrel.hH (by
      unfold fnA
      split
      · exact hargs.append hus
      · exact RelL.append hus hargs)
    have h3 := callsIn_wide (n := 0 - 1).2 h2
    refine CallsIn.mono (F := Fc cx.ro) h3 fun x w' hx => ?_
    obtain ⟨v, r, H', st', rfl, e2, e3, e4, e5⟩ := hx
    exact hK _ _ _ _ _ (hrel.put e2 e3 hd e4) e5
  · cases hc
end

/-! ### Values whose objects are all among the first -/
mutual
def AV.lt (n : Nat) (a : AV) : Prop := match a with
  | .agg cs => AV.ltL n cs
  | .tup cs => AV.ltL n cs
  | .fn _ cs => AV.ltL n cs
  | .mp id _ _ => id < n
  | .ms _ id _ _ _ => id < n
  | .yl id _ => id < n
  | _ => True
def AV.ltL (n : Nat) (as : List AV) : Prop := match as with
  | [] => True
  | a :: as => a.lt n ∧ AV.ltL n as
end

def St.take (st : St) (n : Nat) : St := ⟨st.rd, st.loc.take n⟩

mutual
theorem RelV.take {st : St} {n : Nat} : ∀ {a : AV} {v : Value}, a.lt n → RelV st a v → RelV (st.take n) a v
  | .bad, _, _, _ => by simp only [RelV]
  | .lit u, v, _, hv => by simp only [RelV] at hv ⊢; exact hv
  | .agg cs, v, hn, hv => by
    simp only [AV.lt] at hn
    simp only [RelV] at hv ⊢
    obtain ⟨us, h1, h2, h3⟩ := hv
    exact ⟨us, h1, RelL.takeSt hn h2, h3⟩
  | .tup cs, v, hn, hv => by
    simp only [AV.lt] at hn
    simp only [RelV] at hv ⊢
    obtain ⟨us, h1, h2⟩ := hv
    exact ⟨us, h1, RelL.takeSt hn h2⟩
  | .vs sz es, v, _, hv => by simp only [RelV] at hv ⊢; exact hv
  | .vp cs, v, _, hv => by simp only [RelV] at hv ⊢; exact hv
  | .mp id g off, v, hn, hv => by
    simp only [AV.lt] at hn
    simp only [RelV] at hv ⊢
    obtain ⟨l, h1, h2⟩ := hv
    exact ⟨l, by simp [St.take, List.getElem?_take_of_lt hn, h1], h2⟩
  | .ms sz id g off len, v, hn, hv => by
    simp only [AV.lt] at hn
    simp only [RelV] at hv ⊢
    obtain ⟨l, h1, h2⟩ := hv
    exact ⟨l, by simp [St.take, List.getElem?_take_of_lt hn, h1], h2⟩
  | .yl id g, v, hn, hv => by
    simp only [AV.lt] at hn
    simp only [RelV] at hv ⊢
    obtain ⟨l, h1, h2⟩ := hv
    exact ⟨l, by simp [St.take, List.getElem?_take_of_lt hn, h1], h2⟩
  | .es, v, _, hv => by simp only [RelV] at hv ⊢; exact hv
  | .nni, v, _, hv => by simp only [RelV] at hv ⊢; exact hv
  | .fn f caps, v, hn, hv => by
    simp only [AV.lt] at hn
    simp only [RelV] at hv ⊢
    obtain ⟨us, h1, h2⟩ := hv
    exact ⟨us, h1, RelL.takeSt hn h2⟩
theorem RelL.takeSt {st : St} {n : Nat} : ∀ {as : List AV} {us : List Value}, AV.ltL n as → RelL st as us → RelL (st.take n) as us
  | [], us, _, hv => by simp only [RelL] at hv ⊢; exact hv
  | a :: as, us, hn, hv => by
    simp only [AV.ltL] at hn
    simp only [RelL] at hv ⊢
    obtain ⟨u, us', h1, h2, h3⟩ := hv
    exact ⟨u, us', h1, RelV.take hn.1 h2, RelL.takeSt hn.2 h3⟩
end

def AObj.lt (n : Nat) : AObj → Prop
  | .own _ cs => AV.ltL n cs
  | .raw _ _ es _ => AV.ltL n es
  | .gone => True
def ltH (n : Nat) : AHeap → Prop
  | [] => True
  | x :: r => x.lt n ∧ ltH n r
def ltG (n : Nat) : List (Nat × AV) → Prop
  | [] => True
  | x :: r => x.2.lt n ∧ ltG n r

theorem ltH_get {n : Nat} : ∀ {H : AHeap} {i : Nat} {x : AObj}, ltH n H → H[i]? = some x → x.lt n
  | [], i, x, _, h => by simp at h
  | y :: r, 0, x, h, hx => by simp at hx; subst hx; exact h.1
  | y :: r, i + 1, x, h, hx => by simp at hx; exact ltH_get h.2 hx
theorem ltG_look {n : Nat} : ∀ {G : List (Nat × AV)} (t : Nat), ltG n G → (look G t).lt n
  | [], t, _ => by simp [look, AV.lt]
  | (i, v) :: r, t, h => by
    simp only [look]
    split
    · exact h.1
    · exact ltG_look t h.2

theorem owned_take {st : St} {n b : Nat} (h : Owned (st.take n) b) : Owned st b := by
  obtain ⟨id, l, o, r, h1, h2⟩ := h
  simp only [St.take, List.getElem?_take] at h1
  split at h1
  · exact ⟨id, l, o, r, h1, h2⟩
  · cases h1
theorem RelH.take {H T : AHeap} (hH : RelH st w (H ++ T)) (hl : ltH H.length H) : RelH (st.take H.length) w H := by
  have hown : ∀ b, Owned (st.take H.length) b → Owned st b := by
    rintro b ⟨id, l, o, r, h1, h2⟩
    simp only [St.take, List.getElem?_take] at h1
    split at h1
    · exact ⟨id, l, o, r, h1, h2⟩
    · cases h1
  have hget : ∀ (id : Nat) (l : Loc), (st.take H.length).loc[id]? = some l → st.loc[id]? = some l ∧ id < H.length := by
    intro id l h
    simp only [St.take, List.getElem?_take] at h
    split at h
    · rename_i hlt; exact ⟨h, hlt⟩
    · cases h
  refine ⟨by simp [St.take, hH.len], fun b o c hc => ⟨(hH.rd b o c hc).1, (hH.rd b o c hc).2.1, fun ho => (hH.rd b o c hc).2.2 (hown b ho)⟩, ?_, ?_⟩
  · intro id l X h1 hX
    obtain ⟨h1, hlt⟩ := hget id l h1
    have := hH.obj id l X h1 (by rw [List.getElem?_append_left hlt]; exact hX)
    have hx := ltH_get hl hX
    cases X with
    | gone => exact this
    | own g cs =>
      simp only [ObjOk] at this ⊢
      refine ⟨this.1, fun b o r hb => ?_⟩
      obtain ⟨arr, T, us, f1, f2, f3, f4, f5, f6⟩ := this.2 b o r hb
      exact ⟨arr, T, us, f1, f2, f3, RelL.takeSt hx f4, f5, f6⟩
    | raw g ob es us => exact ⟨this.1, RelL.takeSt hx this.2.1, this.2.2⟩
  · intro id id' l l' b o r o' r' h1 h2
    exact hH.inj id id' l l' b o r o' r' (hget id l h1).1 (hget id' l' h2).1

theorem Ext.take {n : Nat} (h : Ext st0 w0 st w) (hn : st0.loc.length ≤ n) : Ext st0 w0 (st.take n) w where
  le := ⟨h.le.rd, fun id l hl => by
    obtain ⟨l', h1, h2⟩ := h.le.loc id l hl
    have : id < n := Nat.lt_of_lt_of_le (List.getElem?_eq_some_iff.1 hl).1 hn
    exact ⟨l', by simp [St.take, List.getElem?_take_of_lt this, h1], h2⟩⟩
  size := h.size
  frame := h.frame
  own := fun b ⟨id, l, o, r, h1, h2⟩ => h.own b (by
    simp only [St.take, List.getElem?_take] at h1
    split at h1
    · exact ⟨id, l, o, r, h1, h2⟩
    · cases h1)
  os := h.os
  output := h.output
  rdn := h.rdn

/-! ### Loops -/
/-- the temporaries that are named hold what is said -/
def Fits (e : Env) : List (Nat × AV) → Prop
  | [] => True
  | (t, v) :: r => look e.g t = v ∧ Fits e r

theorem Fits.look {S : List (Nat × AV)} (h : Fits e S) (t : Nat) : look S t = .bad ∨ look S t = look e.g t := by
  induction S with
  | nil => exact .inl rfl
  | cons x r ih =>
    obtain ⟨i, v⟩ := x
    simp only [Go.Sas.look]
    split
    · rename_i hi; subst hi; exact .inr h.1.symm
    · exact ih h.2

theorem Rel.fits {S : List (Nat × AV)} (h : Rel cx st0 w0 st w e H a) (hf : Fits e S) : Rel cx st0 w0 st w ⟨[], S⟩ H a :=
  ⟨h.ext, h.hH, fun t => by simp only [look, RelV], fun t => by
    rcases hf.look t with h1 | h1
    · rw [h1]; simp only [RelV]
    · rw [h1]; exact h.g t, fun t _ => rfl, fun t ht => by
    rcases hf.look t with h1 | h1
    · exact h1
    · rw [h1]; exact h.kg t ht, h.n, h.d⟩

/-- the heap is this one, with objects behind it that nobody names -/
def HFits (m : Nat) (S : List (Nat × AV)) (H0 H : AHeap) : Prop := H = H0 ∨ ((∃ T, H = H0 ++ T) ∧ m ≤ H0.length ∧ ltG H0.length S ∧ ltH H0.length H0)

theorem Rel.hfits {S : List (Nat × AV)} {H0 : AHeap} (h : Rel cx st0 w0 st w ⟨[], S⟩ H a) (hm : st0.loc.length = m) (hf : HFits m S H0 H) : ∃ st', Rel cx st0 w0 st' w ⟨[], S⟩ H0 a := by
  rcases hf with rfl | ⟨⟨T, rfl⟩, h1, h2, h3⟩
  · exact ⟨st, h⟩
  · refine ⟨st.take H0.length, h.ext.take (by omega), h.hH.take h3, fun t => by simp only [look, RelV], fun t => ?_, h.kl, h.kg, h.n, h.d.sub fun b hb => owned_take hb⟩
    exact RelV.take (ltG_look t h2) (h.g t)

theorem least {p : Nat → Prop} (h : ∃ n, p n) : ∃ n, p n ∧ ∀ j, p j → n ≤ j := by
  obtain ⟨n, hn⟩ := h
  induction n using Nat.strongRecOn with
  | _ n ih =>
    by_cases hx : ∃ j, j < n ∧ p j
    · obtain ⟨j, hj, hp⟩ := hx; exact ih j hj hp
    · exact ⟨n, hn, fun j hj => Nat.le_of_not_lt fun hlt => hx ⟨j, hlt, hj⟩⟩

theorem AGo_loop {σ : Type} {c : ACode} (S : σ → List (Nat × AV)) (HS : σ → AHeap) (μ : σ → Nat) (x0 : σ) (h0 : Fits e (S x0)) (hH0 : HFits m (S x0) (HS x0) H)
    (hround : ∀ x, AGo cx m (.code c :: .bk (fun e' H' => ∃ x', μ x' < μ x ∧ Fits e' (S x') ∧ HFits m (S x') (HS x') H') :: k) R ⟨[], S x⟩ (HS x)) :
    AGo cx m (.code (.loop c) :: k) R e H := by
  refine AGo_code fun cc Q st0 w0 kc hm hk ht hn hx hr st a w hrel => ?_
  cases cc <;> (try simp only [trCode] at ht)
  case region id ops d => cases d <;> simp [trCode] at ht
  case loop c1 =>
    obtain ⟨c', h1, h2⟩ := Option.map_eq_some_iff.1 ht
    cases h2
    let I : Act → World → σ → Prop := fun a w x => ∃ st, Rel cx st0 w0 st w ⟨[], S x⟩ (HS x) a
    have hI0 : ∃ x, I a w x := by
      obtain ⟨st', hst'⟩ := (hrel.fits h0).hfits hm hH0
      exact ⟨x0, st', hst'⟩
    have hex : ∀ a w, (∃ x, I a w x) → ∃ n, ∃ x, I a w x ∧ μ x = n := fun a w ⟨x, hx⟩ => ⟨_, x, hx, rfl⟩
    classical
    let M : Act → World → Nat := fun a w => if h : ∃ n, ∃ x, I a w x ∧ μ x = n then Classical.choose (least h) else 0
    have hM : ∀ a w x, I a w x → M a w ≤ μ x := by
      intro a w x hx
      have h : ∃ n, ∃ x, I a w x ∧ μ x = n := ⟨_, x, hx, rfl⟩
      simp only [M, dif_pos h]
      exact (Classical.choose_spec (least h)).2 _ ⟨x, hx, rfl⟩
    have hM2 : ∀ a w, (∃ x, I a w x) → ∃ x, I a w x ∧ μ x = M a w := by
      intro a w hx
      have h := hex a w hx
      simp only [M, dif_pos h]
      exact (Classical.choose_spec (least h)).1
    refine wpIn_loop (fun a w => ∃ x, I a w x) M hI0 fun a w hIx => ?_
    obtain ⟨x, ⟨st1, hx1⟩, hxM⟩ := hM2 a w hIx
    have := hround x st0 w0 (.code c1 :: .bk _ :: kc) hm ⟨_, _, rfl, h1, _, _, rfl, rfl, hk⟩ st1 a w hx1
    simp only [GoK, ExK] at this
    refine wpIn_mono this fun ex a' w' hq => ?_
    cases ex <;> simp only [Exit.then] at hq ⊢
    case normal =>
      obtain ⟨st2, e2, H2, hr2, x', hlt, hf, hhf⟩ := hq
      obtain ⟨st3, hst3⟩ := (hr2.fits hf).hfits hm hhf
      have hIx' : I a' w' x' := ⟨st3, hst3⟩
      exact ⟨⟨x', hIx'⟩, by have := hM a' w' x' hIx'; omega⟩
    case exit i => exact hx _ _ _ hq
    case ret => exact hr _ _ hq
    all_goals exact hq.elim
  all_goals first | cases ht | (split at ht <;> cases ht) | (obtain ⟨_, _, h'⟩ := Option.map_eq_some_iff.1 ht; cases h')

/-- forget what is not wanted any more -/
theorem AGo_forget (S : List (Nat × AV)) (H0 : AHeap) (hf : Fits e S) (hh : HFits m S H0 H) (h : AGo cx m k R ⟨[], S⟩ H0) (hk : ∀ l r, k ≠ .ops l :: r) : AGo cx m k R e H := by
  intro st0 w0 kc hm hk st a w hr
  obtain ⟨st', h1⟩ := (hr.fits hf).hfits hm hh
  exact h st0 w0 kc hm hk st' a w h1
end Go.Sas
namespace Go.Sas
variable {cx : Cx} {st0 st st' : St} {w0 w w' : World} {e e' : Env} {H H' : AHeap} {a : Act} {m : Nat} {k : List AItm} {R : Env → AHeap → Prop}

/-! ### Results -/
inductive ARes where
  | t (x : Od)
  | cell (x : Od) (n : Option Nat)

def trRes (P : Program) (K : List Nat) : List ResultVar → Option (List ARes)
  | [] => some []
  | .tmp t :: r => match od K (.tmp t), trRes P K r with
    | some x, some y => some (.t x :: y)
    | _, _ => none
  | .cell a t :: r => match od K (.tmp a), shT P t, trRes P K r with
    | some x, some n, some y => some (.cell x n :: y)
    | _, _, _ => none

def aResL (e : Env) (H : AHeap) : List ARes → Option (List AV)
  | [] => some []
  | .t x :: r => match aResL e H r with
    | some y => some (ev e x :: y)
    | none => none
  | .cell x n :: r => match ldA H n (ev e x), aResL e H r with
    | some v, some y => some (v :: y)
    | _, _ => none

def aTup : List AV → AV
  | [v] => v
  | vs => .tup vs

theorem ldA_ptr {n : Option Nat} {x r : AV} {v : Value} (hH : RelH st w H) (hv : RelV st x v) (hr : ldA H n x = some r) : ∃ ad, v = .pointer (some ad) := by
  unfold ldA at hr
  split at hr
  · simp only [RelV] at hv; obtain ⟨b, o, us, rfl, _⟩ := hv; exact ⟨_, rfl⟩
  · split at hr
    · rename_i g' cs hX
      split at hr
      · rename_i hg; subst hg
        obtain ⟨_, b, o, r', _, _, _, rfl⟩ := relV_mp_live hH (live_of_own hX) hv
        exact ⟨_, rfl⟩
      · cases hr
    · cases hr
  · cases hr

def resF (tmps : Array Value) : ResultVar → Sem Value
  | .tmp t => Pure.pure (tmps.getD t undef)
  | .cell ad t => do loadVar t (← asAddr (tmps.getD ad undef))

theorem results_eq (fn : Func) (tmps : Array Value) : results fn tmps = (do let vs ← fn.results.mapM (resF tmps); Pure.pure (if h : vs.size = 1 then vs[0] else .tuple vs)) := by
  unfold results
  have : (fun (x : ResultVar) => resF tmps x) = (fun x => match x with
    | .tmp t => Pure.pure (tmps.getD t undef)
    | .cell a t => do loadVar t (← asAddr (tmps.getD a undef))) := by funext x; cases x <;> rfl
  exact congrArg (fun f => (do let vs ← fn.results.mapM f; Pure.pure (if h : vs.size = 1 then vs[0] else .tuple vs) : Sem Value)) this.symm

theorem res_run (hrel : Rel cx st0 w0 st w e H a) : ∀ {rs : List ResultVar} {ars : List ARes} {vs : List AV}, trRes cx.P cx.K rs = some ars → aResL e H ars = some vs →
    ∃ us, (rs.mapM (resF a.tmps)).run cx.P w = .ok us w ∧ RelL st vs us
  | [], ars, vs, h1, h2 => by
    simp only [trRes, Option.some.injEq] at h1; subst h1
    simp only [aResL, Option.some.injEq] at h2; subst h2
    exact ⟨[], by simp, RelL.nil⟩
  | .tmp t :: rs, ars, vs, h1, h2 => by
    simp only [trRes] at h1
    split at h1
    · rename_i x y hx hy
      simp only [Option.some.injEq] at h1; subst h1
      simp only [aResL] at h2
      split at h2
      · rename_i z hz
        simp only [Option.some.injEq] at h2; subst h2
        obtain ⟨us, h3, h4⟩ := res_run hrel hy hz
        refine ⟨a.tmps.getD t undef :: us, ?_, RelL.cons (hrel.ops (.tmp t) x hx) h4⟩
        simp only [List.mapM_cons, resF, Sem.run_bind, Sem.run_pure, Result.andThen_ok, h3]
      · cases h2
    · cases h1
  | .cell ad t :: rs, ars, vs, h1, h2 => by
    simp only [trRes] at h1
    split at h1
    · rename_i x n y hx hn hy
      simp only [Option.some.injEq] at h1; subst h1
      simp only [aResL] at h2
      split at h2
      · rename_i v z hv hz
        simp only [Option.some.injEq] at h2; subst h2
        obtain ⟨us, h3, h4⟩ := res_run hrel hy hz
        have hxx := hrel.ops (.tmp ad) x hx
        obtain ⟨ptr, hptr⟩ := ldA_ptr hrel.hH hxx hv
        obtain ⟨u, h5, h6⟩ := ld_sound (P := cx.P) hn hrel.hH hxx hv
        simp only [Act.eval] at hptr h5
        rw [hptr] at h5
        simp only [Instr.loadAt, Instr.sureAddr, Sem.run_bind, Sem.run_pure, Result.andThen_ok] at h5
        refine ⟨u :: us, ?_, RelL.cons h6 h4⟩
        simp only [List.mapM_cons, resF, Sem.run_bind, hptr, asAddr, Sem.run_pure, Result.andThen_ok, h5, h3]
      · cases h2
    · cases h1

/-! ### From a body to a contract -/
def argsG : Nat → List AV → List (Nat × AV)
  | _, [] => []
  | i, a :: as => (i, a) :: argsG (i + 1) as

theorem look_argsG : ∀ (as : List AV) (i t : Nat), look (argsG i as) t = if t < i then .bad else (as[t - i]?).getD .bad
  | [], i, t => by simp [argsG, look]
  | a :: as, i, t => by
    simp only [argsG, look]
    split
    · rename_i h; subst h; simp
    · rename_i h
      rw [look_argsG as (i + 1) t]
      by_cases h1 : t < i
      · rw [if_pos h1, if_pos (by omega)]
      · rw [if_neg h1, if_neg (by omega)]
        rw [show t - i = (t - (i + 1)) + 1 by omega]; simp

def argsIn (K : List Nat) : Nat → Nat → Bool
  | _, 0 => true
  | i, n + 1 => K.contains i && argsIn K (i + 1) n

theorem argsIn_spec {K : List Nat} : ∀ {n i t : Nat}, argsIn K i n = true → i ≤ t → t < i + n → K.contains t = true
  | 0, i, t, _, h1, h2 => absurd h2 (by omega)
  | n + 1, i, t, h, h1, h2 => by
    simp only [argsIn, Bool.and_eq_true] at h
    by_cases he : t = i
    · rw [he]; exact h.1
    · exact argsIn_spec h.2 (by omega) (by omega)

/-- the value is handed back; what stands behind the first objects is dropped -/
def Hands (m : Nat) (Kk : AV → AHeap → Prop) (r : AV) (H : AHeap) : Prop := Kk r H ∨ ∃ H0, (∃ T, H = H0 ++ T) ∧ m ≤ H0.length ∧ r.lt H0.length ∧ ltH H0.length H0 ∧ Kk r H0

/-! ### Marks of loops over functions -/
/-- neither cells: not frozen -/
def Obj.plain : Obj → Bool
  | .cells _ _ _ => false
  | _ => true
theorem cell_put {w : World} {b x y : Nat} {o o' : Obj} {c : Value} (h : w.heap[b]? = some o) (h1 : Obj.plain o = true) (hc : w.cell? ⟨x, y, none⟩ = some c) : (w.putObj b o').cell? ⟨x, y, none⟩ = some c := by
  by_cases hb : x = b
  · subst hb
    unfold World.cell? at hc
    rw [h] at hc
    cases o <;> first | (simp at hc; done) | (simp [Obj.plain] at h1; done)
  · rw [cell_of_heap (World.putObj_heap_other hb)]; exact hc
/-- a block that no object is at, turned -/
theorem RelH.put {b : Nat} {o o' : Obj} (hH : RelH st w H) (h : w.heap[b]? = some o) (h1 : Obj.plain o = true) (hno : ¬ Owned st b) : RelH st (w.putObj b o') H :=
  ⟨hH.len, fun x y c hc => ⟨(hH.rd x y c hc).1, cell_put h h1 (hH.rd x y c hc).2.1, (hH.rd x y c hc).2.2⟩, fun id l X hl hX => (hH.obj id l X hl hX).mono (.refl _) fun b' o r hb => World.putObj_heap_other fun he => hno ⟨id, l, o, r, hl, by rw [hb, he]⟩, hH.inj⟩
theorem Ext.put {b : Nat} {o o' : Obj} (hx : Ext st0 w0 st w) (h : w.heap[b]? = some o) (h1 : Obj.plain o = true) (h2 : Obj.plain o' = true) (hb : w0.heap.size ≤ b ∨ Owned st0 b) : Ext st0 w0 st (w.putObj b o') where
  le := hx.le
  size := by simpa using hx.size
  frame := fun b' hb' ho => by
    rw [World.putObj_heap_other fun he => by subst he; exact hb.elim (fun h => by omega) ho]
    exact hx.frame b' hb' ho
  own := hx.own
  os := hx.os
  output := hx.output
  rdn := hx.rdn
theorem Rel.shut {ts : Array Value} {d : Deferred} {ds : List Deferred} (h : Rel cx st0 w0 st w e H { tmps := ts, defers := d :: ds }) :
    ∃ D, d = { target := .collected D, args := #[] } ∧ w.heap[D]? = some (.deferred (some [])) ∧ Rel cx st0 w0 st (w.putObj D (.deferred none)) e H { tmps := ts, defers := ds } := by
  obtain ⟨D, h1, h2, h3, h4⟩ := h.d.all d (by simp)
  refine ⟨D, h1, h3, h.ext.put h3 rfl rfl (.inl h2), h.hH.put h3 rfl h4, h.l, h.g, h.kl, h.kg, h.n, ?_⟩
  have hnd := List.nodup_cons.1 h.d.nd
  refine ⟨hnd.2, fun d' hd' => ?_⟩
  obtain ⟨D', g1, g2, g3, g4⟩ := h.d.all d' (by simp [hd'])
  refine ⟨D', g1, g2, ?_, g4⟩
  rw [World.putObj_heap_other fun he => hnd.1 (by rw [h1, ← he, ← g1]; exact hd')]
  exact g3
theorem Rel.leaves {ts : Array Value} {fn : Func} {Q : Ending → World → Prop} : ∀ {ds : List Deferred} {w : World}, Rel cx st0 w0 st w e H { tmps := ts, defers := ds } →
    (∀ w', Rel cx st0 w0 st w' e H { tmps := ts, defers := [] } → ∃ v, (results fn ts).run cx.P w' = .ok v w' ∧ Q (.returned v) w') → LeavesInM Fence.wide 0 cx.P fn ts Q ds .returning w
  | [], w, h, hq => by
    simp only [LeavesInM, LeavesIn]
    exact hq w h
  | d :: ds, w, h, hq => by
    obtain ⟨D, h1, h2, h3⟩ := h.shut
    simp only [LeavesInM]
    exact ⟨by simp, .inl ⟨D, _, by rw [h1], run_takeDeferred h2, Rel.leaves h3 hq⟩⟩

theorem ACalls_of {P : Program} {K mu : List Nat} {f : Nat} {fn : Func} {c : Code} {ac : ACode} {rs : List ARes} {args : List AV} {Kk : AV → AHeap → Prop}
    (hf : P.funcs[f]? = some fn) (hb : fn.body = some c) (hname : (fn.name != "runtime.NumGoroutine") = true)
    (htr : trCode ⟨P, K, mu, fn.ntmps, none⟩ c = some ac) (hres : trRes P K fn.results.toList = some rs) (hn : args.length ≤ fn.ntmps) (hK : argsIn K 0 args.length = true)
    (h : AGo ⟨P, K, mu, fn.ntmps, none⟩ H.length [.code ac] (fun e H' => ∃ vs, aResL e H' rs = some vs ∧ Hands H.length Kk (aTup vs) H') ⟨[], argsG 0 args⟩ H) : ACalls P f args H Kk := by
  refine ⟨by simp [callable, hf, hb]; simpa using hname, fun st w vals hH hv => ?_⟩
  have hl := hv.length
  refine callsIn_wide (n := 0).1 (callsIn_of_wp_marks hf hb trivial ?_)
  have hsz : (vals.toArray ++ Array.replicate (fn.ntmps - vals.toArray.size) undef).size = fn.ntmps := by simp; omega
  have hget : ∀ t, (vals.toArray ++ Array.replicate (fn.ntmps - vals.toArray.size) undef).getD t undef = (vals[t]?).getD undef := by
    intro t
    rw [Array.getD_eq_getD_getElem?, Array.getElem?_append]
    split
    · simp
    · rename_i hlt
      rw [List.getElem?_eq_none (by simpa using hlt)]
      simp only [Array.getElem?_replicate]
      split <;> rfl
  have hrel : Rel ⟨P, K, mu, fn.ntmps, none⟩ st w st w ⟨[], argsG 0 args⟩ H { tmps := vals.toArray ++ Array.replicate (fn.ntmps - vals.toArray.size) undef, defers := [] } := by
    refine ⟨.refl _ _, hH, fun t => by simp only [look, RelV], fun t => ?_, fun t _ => rfl, fun t ht => ?_, hsz, .nil⟩
    · rw [look_argsG, if_neg (Nat.not_lt_zero _), hget, Nat.sub_zero]
      cases hx : args[t]? with
      | none => simp only [Option.getD_none, RelV]
      | some x =>
        obtain ⟨u, hu, hr⟩ := hv.get hx
        rw [hu]; exact hr
    · rw [look_argsG, if_neg (Nat.not_lt_zero _), Nat.sub_zero]
      rcases Nat.lt_or_ge t args.length with hlt | hge
      · have := argsIn_spec hK (Nat.zero_le t) (by omega)
        simp only at ht; rw [this] at ht; cases ht
      · rw [List.getElem?_eq_none hge]; rfl
  have hgo := h st w [.code c] hH.len ⟨_, _, rfl, htr, rfl⟩ st _ w hrel
  simp only [GoK, ExK] at hgo
  refine wpIn_mono (show c.wpIn Fence.wide 0 P _ _ w from hgo) fun ex a' w' hq => ?_
  have fin : (∃ st' e' H', Rel ⟨P, K, mu, fn.ntmps, none⟩ st w st' w' e' H' a' ∧ ∃ vs, aResL e' H' rs = some vs ∧ Hands H.length Kk (aTup vs) H') →
      LeavesInM Fence.wide 0 P fn a'.tmps (fun x w' => ∃ v' r H' st', x = .returned v' ∧ Ext st w st' w' ∧ RelH st' w' H' ∧ RelV st' r v' ∧ Kk r H') a'.defers .returning w' := by
    rintro ⟨st', e', H', hr', vs, hvs, hh⟩
    refine Rel.leaves (cx := ⟨P, K, mu, fn.ntmps, none⟩) hr' fun w' hr' => ?_
    obtain ⟨us, h1, h2⟩ := res_run hr' hres hvs
    have hl2 := h2.length
    have hrun : (results fn a'.tmps).run P w' = .ok (if h : us.length = 1 then us[0] else .tuple us.toArray) w' := by
      rw [results_eq, Array.mapM_eq_mapM_toList]
      simp only [Sem.run_bind, Sem.run_map, h1, Result.andThen_ok, Sem.run_pure]
      simp
    have hval : RelV st' (aTup vs) (if h : us.length = 1 then us[0] else .tuple us.toArray) := by
      by_cases h1 : us.length = 1
      · rw [dif_pos h1]
        match vs, us, hl2, h2, h1 with
        | [v], [u], _, h2, _ =>
          obtain ⟨u', us', he, hv, _⟩ := h2.uncons
          cases he; exact hv
      · rw [dif_neg h1]
        have : aTup vs = .tup vs := by
          match vs, us, hl2, h1 with
          | [], _, _, _ => rfl
          | [v], [u], _, h1 => exact absurd rfl h1
          | _ :: _ :: _, _, _, _ => rfl
        rw [this]; simp only [RelV]
        exact ⟨_, rfl, by simpa using h2⟩
    rcases hh with hk | ⟨H0, ⟨T, rfl⟩, hle, hlt, hltH, hk⟩
    · exact ⟨_, hrun, _, _, H', st', rfl, hr'.ext, hr'.hH, hval, hk⟩
    · exact ⟨_, hrun, _, _, H0, st'.take H0.length, rfl, hr'.ext.take (by rw [hH.len]; exact hle), hr'.hH.take hltH, hval.take hlt, hk⟩
  cases ex <;> simp only [bodyPostM] at hq ⊢
  all_goals first | exact fin hq | exact hq.elim

/-! ### Runs of plain steps -/
def opRun (e : Od → AV) (H : AHeap) (o : AOp) : Option (AV × AHeap) := match opVal e H o with
  | some r => some (r, H)
  | none => opAct e H o

theorem AGo_run1 {d : Option (Bool × Nat)} {op : AOp} {g : Option (Od × Bool)} {rest : List AOper} {r : AV} (hg : gOk e g = some true) (hv : opRun (ev e) H op = some (r, H')) (h : AGo cx m (.ops rest :: k) R (put e d r) H') :
    AGo cx m (.ops (⟨d, op, g⟩ :: rest) :: k) R e H := by
  unfold opRun at hv
  split at hv
  · rename_i x hx
    simp only [Option.some.injEq, Prod.mk.injEq] at hv
    obtain ⟨rfl, rfl⟩ := hv
    exact AGo_val hg hx h
  · exact AGo_act hg hv h

def exitA (i : Nat) : List AItm → Option (List AItm)
  | [] => none
  | .blk j :: k => if i = j then some k else exitA i k
  | .code _ :: k => exitA i k
  | .ops _ :: k => exitA i k
  | .bk _ :: k => exitA i k

theorem AEx_exitA {i : Nat} : ∀ {k k' : List AItm}, exitA i k = some k' → AGo cx m k' R e H → AEx cx m i k R e H
  | [], k', h, _ => by simp [exitA] at h
  | .blk j :: k, k', h, hg => by
    simp only [exitA] at h
    split at h
    · rename_i hij; subst hij; cases h; exact AEx_blk hg
    · rename_i hij; exact AEx_pass (fun j' hj => by cases hj; exact hij) (AEx_exitA h hg)
  | .code _ :: k, k', h, hg => AEx_pass (fun j hj => by cases hj) (AEx_exitA (by simpa only [exitA] using h) hg)
  | .ops _ :: k, k', h, hg => AEx_pass (fun j hj => by cases hj) (AEx_exitA (by simpa only [exitA] using h) hg)
  | .bk _ :: k, k', h, hg => AEx_pass (fun j hj => by cases hj) (AEx_exitA (by simpa only [exitA] using h) hg)

/-- One plain step; none where there is something to be shown. -/
def stepA (k : List AItm) (e : Env) (H : AHeap) : Option (List AItm × Env × AHeap) := match k with
  | .code .skip :: k => some (k, e, H)
  | .code (.seq x y) :: k => some (.code x :: .code y :: k, e, H)
  | .code (.block i x) :: k => some (.code x :: .blk i :: k, e, H)
  | .code (.reg l) :: k => some (.ops l :: k, e, H)
  | .code (.exit i) :: k => match exitA i k with
    | some k' => some (k', e, H)
    | none => none
  | .blk _ :: k => some (k, e, H)
  | .ops [] :: k => some (k, ⟨[], e.g⟩, H)
  | .ops (⟨d, op, g⟩ :: rest) :: k => match gOk e g with
    | some true => match opRun (ev e) H op with
      | some (r, H') => some (.ops rest :: k, put e d r, H')
      | none => none
    | some false => some (.ops rest :: k, put e d (.lit undef), H)
    | none => none
  | _ => none

theorem stepA_sound {k' : List AItm} (hs : stepA k e H = some (k', e', H')) (h : AGo cx m k' R e' H') : AGo cx m k R e H := by
  unfold stepA at hs
  split at hs
  · cases hs; exact AGo_skip h
  · cases hs; exact AGo_seq h
  · cases hs; exact AGo_block h
  · cases hs; exact AGo_reg h
  · split at hs
    · rename_i k2 hk2; cases hs; exact AGo_exit (AEx_exitA hk2 h)
    · cases hs
  · cases hs; exact AGo_blk h
  · cases hs; exact AGo_ops_nil h
  · split at hs
    · rename_i hg
      split at hs
      · rename_i r H2 hr
        cases hs; exact AGo_run1 hg hr h
      · cases hs
    · rename_i hg; cases hs; exact AGo_skipped hg h
    · cases hs
  · cases hs

end Go.Sas
