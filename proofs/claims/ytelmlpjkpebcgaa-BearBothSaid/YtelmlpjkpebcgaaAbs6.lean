/-
An abstract machine over values, part 6: every operation that changes nothing, in one statement.
Conditions: none (lemmas over any program).
-/
import Derived.Test.YtelmlpjkpebcgaaAbs5
import Derived.Great.BuildSlice
set_option linter.unusedVariables false
set_option linter.unusedSimpArgs false
namespace Go.Sas
variable {P : Program} {K : List Nat} {mu : Bool} {st : St} {w : World} {H : AHeap} {ρ : Operand → Value} {e : Od → AV} {o : Oper} {ao : AOp} {r : AV}

/-- The operation, run: it yields a value that fits, and a world that fits. -/
def StepV (P : Program) (ρ : Operand → Value) (o : Oper) (st : St) (w : World) (r : AV) (H' : AHeap) : Prop :=
  ∃ v w' st', ((execOp ρ o).run P w = .ok (.value v) w' ∨ ((execOp ρ o).run P w = .ok .skip w' ∧ v = undef)) ∧ Ext st w st' w' ∧ RelH st' w' H' ∧ RelV st' r v

theorem StepV.same (hH : RelH st w H) {v : Value} (h : (execOp ρ o).run P w = .ok (.value v) w) (hr : RelV st r v) : StepV P ρ o st w r H :=
  ⟨v, w, st, .inl h, .refl _ _, hH, hr⟩

theorem zrT_spec {t : TypeId} {z : List Value} (h : zrT P t = some z) : ∃ i zv, P.info? t = some i ∧ i.zero = some zv ∧ zv.cells.toList = z ∧ ∀ u ∈ z, Scal u := by
  unfold zrT at h
  split at h
  · rename_i zv hz
    split at h
    · rename_i hc
      simp only [Option.some.injEq] at h; subst h
      obtain ⟨i, hi, hz'⟩ := Option.bind_eq_some_iff.1 hz
      exact ⟨i, zv, hi, hz', rfl, fun u hu => scal_of_oneCell (Array.all_eq_true'.1 hc u (by simpa using hu))⟩
    · cases h
  · cases h

theorem slT_spec {t e' : TypeId} (h : slT P t = some e') : P.underlying t = some (.slice e') := by
  unfold slT at h
  split at h
  · rename_i x hx; simp only [Option.some.injEq] at h; subst h; exact hx
  · cases h

theorem szT_spec {t : TypeId} {n : Nat} (h : szT P t = some n) : ∃ i, P.info? t = some i ∧ i.size = n := by
  unfold szT at h
  obtain ⟨i, hi, hn⟩ := Option.map_eq_some_iff.1 h
  exact ⟨i, hi, hn⟩

theorem ods_length : ∀ {xs : List Operand} {ys : List Od}, ods K xs = some ys → ys.length = xs.length
  | [], ys, h => by simp only [ods, Option.some.injEq] at h; subst h; rfl
  | x :: xs, ys, h => by
    simp only [ods] at h
    split at h
    · rename_i y ys' h1 h2
      simp only [Option.some.injEq] at h; subst h
      simp [ods_length h2]
    · cases h

theorem build_sound {t : TypeId} {parts : Array (Nat × Operand)} (hop : o.op = .build t parts) (htr : trOp P K mu o = some ao) (hρ : RelO st K e ρ) (hH : RelH st w H) (hv : opVal e H ao = some r) : StepV P ρ o st w r H := by
  simp only [trOp, hop] at htr
  have fin : ∀ (z : List Value) (ps : List (Nat × Nat × Od)) (pl : Nat → Option (Nat × Nat)), zrT P t = some z → trParts pl K parts.toList = some ps → opVal e H (.mk z ps) = some r →
      (∀ cells : Array Value, ∀ i zv, P.info? t = some i → i.zero = some zv → Instr.fill pl zv.cells (parts.toList.map fun (i, x) => (i, ρ x)) = some cells → P.built t (parts.map fun (i, x) => (i, ρ x)).toList = some cells) → StepV P ρ o st w r H := by
    intro z ps pl hz hp hv hb
    simp only [opVal] at hv
    obtain ⟨cs, hcs, rfl⟩ := Option.map_eq_some_iff.1 hv
    obtain ⟨i, zv, hi, hzv, rfl, hs⟩ := zrT_spec hz
    obtain ⟨cells, h1, h2, h3⟩ := fillA_sound hρ (cells := zv.cells) hp (RelL.lits _) hs hcs
    have hrun := run_build w t (parts.map fun (i, x) => (i, ρ x)) cells (hb cells i zv hi hzv h1)
    refine StepV.same hH (v := .agg cells) (by simp [execOp, hop, hrun]) ?_
    simp only [RelV]
    exact ⟨cells, rfl, h2, h3⟩
  split at htr
  · rename_i fs z hu hz
    split at htr
    · rename_i pls hpl
      obtain ⟨ps, hps, rfl⟩ := Option.map_eq_some_iff.1 htr
      refine fin z ps _ hz hps hv fun cells i zv hi hzv hf => ?_
      have hf' : Instr.fill (fun x => pls[x]?) zv.cells (parts.toList.map fun (i, x) => (i, ρ x)) = some cells := hf
      simp only [Program.built, hi, hu, hzv, hpl, Array.toList_map]
      simpa using hf'
    · cases htr
  · rename_i n e' z hu hz
    split at htr
    · rename_i sz hsz
      obtain ⟨ps, hps, rfl⟩ := Option.map_eq_some_iff.1 htr
      refine fin z ps _ hz hps hv fun cells i zv hi hzv hf => ?_
      obtain ⟨ie, hie, hn⟩ := szT_spec hsz
      simp only [Program.built, hi, hu, hzv, hie, hn, Array.toList_map]
      exact hf
    · cases htr
  · cases htr

/-- the block of a slice literal -/
theorem buildSlice_run {t : TypeId} {len sz : Nat} {parts : Array (Nat × Operand)} {e' : TypeId} {z : List Value} (hop : o.op = .buildSlice t len parts) (hu : P.underlying t = some (.slice e')) (hsz : szT P e' = some (sz + 1)) (hz : zrT P e' = some z)
    (hidx : parts.toList.map (·.1) = List.range len) (hle : len * (sz + 1) ≤ 16777216) (hcs : ∀ u ∈ (parts.toList.map (·.2)).map ρ, u.cells.size = sz + 1) (hz0 : z.length = sz + 1) :
    (execOp ρ o).run P w = .ok (.value (.slice (some ⟨w.heap.size, 0, none⟩) len len)) (w.alloc (.cells (flat ((parts.toList.map (·.2)).map ρ)).toArray e')) := by
  obtain ⟨i, zv, hi, hzv, rfl, hs⟩ := zrT_spec hz
  obtain ⟨i', hi', hn⟩ := szT_spec hsz
  rw [hi] at hi'; cases hi'
  have hlen : parts.toList.length = len := by have := congrArg List.length hidx; simpa using this
  have hparts : (parts.map fun (i, x) => (i, ρ x)).toList = ((((parts.toList.map (·.2)).map ρ).zipIdx 0).map fun x => (x.2, x.1)) := by
    apply List.ext_getElem?
    intro j
    simp only [Array.toList_map, List.getElem?_map, List.getElem?_zipIdx, Option.map_map]
    cases hj : parts.toList[j]? with
    | none => simp [hj]
    | some p =>
      have h1 : (parts.toList.map (·.1))[j]? = some p.1 := by simp [hj]
      rw [hidx] at h1
      have hjl : j < len := by
        rcases Nat.lt_or_ge j len with h | h
        · exact h
        · rw [List.getElem?_eq_none (by simpa using h)] at h1; cases h1
      rw [List.getElem?_range hjl] at h1
      simp at h1
      simp [hj, h1]
  have hsmall : ¬ len * i.size > 2 ^ 24 := by rw [hn]; omega
  by_cases hl0 : len = 0
  · subst hl0
    have hp0 : parts.toList = [] := List.length_eq_zero_iff.1 hlen
    have hp1 : parts = #[] := by cases parts; simp_all
    subst hp1
    have h0 : (Array.range 0).map (fun _ => (default : Value)) = #[] := by simp
    simp only [execOp, hop, Instr.buildSlice, Sem.run_bind, run_underlying' hu, sizeOf, typeInfo, zeroValue, hi, hzv, Result.andThen_ok, run_program, Nat.zero_mul]
    simp [Instr.fill, newRow, flat, h0]
  · have hpos : ¬ len * i.size = 0 := by rw [hn]; intro h; rcases Nat.mul_eq_zero.1 h with h | h <;> omega
    have hrun := run_buildSlice (P := P) w t e' len (parts.map fun (i, x) => (i, ρ x)) (flat ((parts.toList.map (·.2)).map ρ)).toArray i zv hu hi hzv hsmall hpos (by
      rw [hparts, hn]
      rw [fill_full (sz + 1) ((parts.toList.map (·.2)).map ρ) 0 _ hcs (by simp at hlen ⊢; rw [hlen])]
      simp)
    simp [execOp, hop, hrun]

theorem mks_sound {t : TypeId} {len : Nat} {parts : Array (Nat × Operand)} (hop : o.op = .buildSlice t len parts) (htr : trOp P K mu o = some ao) (hρ : RelO st K e ρ) (hH : RelH st w H) (hv : opVal e H ao = some r) : StepV P ρ o st w r H := by
  simp only [trOp, hop] at htr
  split at htr
  · rename_i e' he
    split at htr
    · rename_i sz z hsz hz
      split at htr
      · rename_i hc
        obtain ⟨hzl, hidx, hle⟩ := hc
        obtain ⟨xs, hxs, rfl⟩ := Option.map_eq_some_iff.1 htr
        cases mu with
        | true => simp [opVal] at hv
        | false =>
          have hL := hρ.list hxs
          have hxl := ods_length hxs
          have hlen : parts.toList.length = len := by have := congrArg List.length hidx; simpa using this
          simp only [opVal] at hv
          split at hv
          · simp only [Option.some.injEq] at hv; subst hv
            have hl0 : len = 0 := by simp at hxl hlen; omega
            subst hl0
            have hp0 : parts.toList = [] := List.length_eq_zero_iff.1 hlen
            have hrun := buildSlice_run (w := w) (ρ := ρ) hop (slT_spec he) hsz hz hidx hle (fun u hu => by simp [hp0] at hu) hzl
            obtain ⟨st', hext, hH', hrd⟩ := push_imm hH (flat ((parts.toList.map (·.2)).map ρ)) (fun c hc => by simp [hp0, flat] at hc) e'
            refine ⟨_, _, st', .inl hrun, hext, hH', ?_⟩
            simp only [RelV]
            exact ⟨_, rfl⟩
          · split at hv
            · rename_i hok
              simp only [Option.some.injEq] at hv; subst hv
              simp only [elemsOk, elemsLen, Bool.and_eq_true, List.all_eq_true] at hok
              have hcells : ∀ u ∈ (parts.toList.map (·.2)).map ρ, u.cells.size = sz + 1 ∧ ∀ c ∈ u.cells.toList, Scal c := by
                intro u hu
                obtain ⟨j, hj⟩ := List.mem_iff_getElem?.1 hu
                obtain ⟨a, ha, hra⟩ := hL.getr hj
                have hall := hok.2 a (List.mem_of_getElem? ha)
                split at hall
                · rename_i cs hcs
                  obtain ⟨h1, h2⟩ := hra.cells hcs
                  exact ⟨by have := h1.length; simp at this hall; omega, h2⟩
                · cases hall
              have hrun := buildSlice_run (w := w) (ρ := ρ) hop (slT_spec he) hsz hz hidx hle (fun u hu => (hcells u hu).1) hzl
              obtain ⟨st', hext, hH', hrd⟩ := push_imm hH (flat ((parts.toList.map (·.2)).map ρ)) (fun c hc => by
                simp only [flat, List.mem_flatMap] at hc
                obtain ⟨u, hu, hc⟩ := hc
                exact (hcells u hu).2 c hc) e'
              refine ⟨_, _, st', .inl hrun, hext, hH', ?_⟩
              simp only [RelV]
              have hl2 : (xs.map e).length = len := by simp at hxl hlen ⊢; omega
              exact ⟨_, len, _, by rw [hl2], by rw [hl2]; exact Nat.le_refl _, RelL.nid (st' := st'.pure) hext.le.rd hok.1 hL, fun u hu => (hcells u hu).1, fun _ => ⟨_, 0, rfl, hrd⟩⟩
            · cases hv
      · cases htr
    · cases htr
  · cases htr

theorem trBin_spec {op : BinOp} {t : TypeId} {x y : Operand} {x' y' : Od} (hop : ∃ yt, o.op = .binOp op t x y yt) (hx : od K x = some x') (hy : od K y = some y') (htr : trBin P op t x' y' = some ao)
    (hc : ∀ a, e (.c a) = a) (hρ : RelO st K e ρ) (hH : RelH st w H) (hv : opVal e H ao = some r) : StepV P ρ o st w r H := by
  obtain ⟨yt, hop⟩ := hop
  have hxx := hρ x x' hx
  have hyy := hρ y y' hy
  have hex : ∀ v, (do eqGuard op t x y (ρ x) (ρ y); binOp op t (ρ x) (ρ y) : Sem Value).run P w = .ok v w → (execOp ρ o).run P w = .ok (.value v) w := by
    intro v h
    simp only [execOp, hop, Sem.run_bind] at h ⊢
    revert h
    generalize (eqGuard op t x y (ρ x) (ρ y)).run P w = g
    cases g with
    | halt h w' => simp
    | ok u w' =>
      simp only [Result.andThen_ok]
      intro h
      simp [h]
  have hint : opVal e H (.bin op x' y') = some r → StepV P ρ o st w r H := fun hv => by
    simp only [opVal] at hv
    obtain ⟨v, h1, h2⟩ := bin_sound (P := P) (t := t) (x := x) (y := y) hxx hyy hv
    exact StepV.same hH (hex v h1) h2
  have hbool : ∀ neg : Bool, op = (if neg then .neq else .eql) → P.underlying t = some .bool → opVal e H (.binb neg x' y') = some r → StepV P ρ o st w r H := fun neg ho hu hv => by
    simp only [opVal] at hv
    split at hv
    · rename_i i j h1 h2
      simp only [Option.some.injEq] at hv; subst hv
      rw [h1] at hxx; rw [h2] at hyy
      simp only [RelV] at hxx hyy
      have := binb_sound (P := P) (w := w) (x := x) (y := y) (neg := neg) (i := i) (j := j) hu
      rw [← ho, ← hxx, ← hyy] at this
      exact StepV.same hH (hex _ this) relLit
    · cases hv
  have hsl : ∀ (neg : Bool) (e' : TypeId), op = (if neg then .neq else .eql) → P.underlying t = some (.slice e') → y' = .c (.lit (.slice none 0 0)) → opVal e H (.eqn neg x') = some r → StepV P ρ o st w r H := fun neg e' ho hu hy' hv => by
    simp only [opVal] at hv
    obtain ⟨b, hb, rfl⟩ := Option.map_eq_some_iff.1 hv
    have hyv : ρ y = .slice none 0 0 := by
      have : RelV st (e y') (ρ y) := hyy
      rw [hy', hc] at this
      simpa only [RelV] using this
    have := eqn_sound (P := P) (x := x) (y := y) (neg := neg) hu hH hxx hb
    rw [← ho, ← hyv] at this
    exact StepV.same hH (hex _ this) relLit
  have hst : ∀ (neg : Bool) (fs : Array Field), op = (if neg then .neq else .eql) → P.underlying t = some (.struct fs) → (trEqs P t).map (fun sh => AOp.eqs neg sh x' y') = some ao → StepV P ρ o st w r H := fun neg fs ho hu hs => by
    obtain ⟨sh, hs2, rfl⟩ := Option.map_eq_some_iff.1 hs
    simp only [opVal] at hv
    obtain ⟨b, hb, rfl⟩ := Option.map_eq_some_iff.1 hv
    have := eqs_sound (P := P) (w := w) (x := x) (y := y) (neg := neg) hu hs2 hxx hyy hb
    rw [← ho] at this
    exact StepV.same hH (hex _ this) relLit
  unfold trBin at htr
  split at htr
  · rename_i hu; simp only [Option.some.injEq] at htr; subst htr; exact hbool false rfl hu hv
  · rename_i hu; simp only [Option.some.injEq] at htr; subst htr; exact hbool true rfl hu hv
  · rename_i e' hu
    split at htr
    · simp only [Option.some.injEq] at htr; subst htr; exact hsl false e' rfl hu rfl hv
    · cases htr
  · rename_i e' hu
    split at htr
    · simp only [Option.some.injEq] at htr; subst htr; exact hsl true e' rfl hu rfl hv
    · cases htr
  · rename_i fs hu; exact hst false fs rfl hu htr
  · rename_i fs hu; exact hst true fs rfl hu htr
  · simp only [Option.some.injEq] at htr; subst htr; exact hint hv
  · simp only [Option.some.injEq] at htr; subst htr; exact hint hv
  · cases htr

theorem od_map {f : Od → AOp} {x : Operand} (h : (od K x).map f = some ao) : ∃ y, od K x = some y ∧ f y = ao := Option.map_eq_some_iff.1 h

theorem call_val_sound {c : Call} (hop : o.op = .call c) (htr : trCall P K c = some ao) (hρ : RelO st K e ρ) (hH : RelH st w H) (hv : opVal e H ao = some r) : StepV P ρ o st w r H := by
  unfold trCall at htr
  split at htr
  · split at htr
    · simp only [Option.some.injEq] at htr; subst htr; simp [opVal] at hv
    · cases htr
  · cases htr
  · rename_i b hb
    obtain ⟨callee, args, argTypes⟩ := c
    simp only at hb htr; subst hb
    have hex : ∀ (S : Array TypeId → TypeId → Array Value → Sem Value) (v : Value), (∀ cs as, builtin b argTypes o.type cs as = (do pure (.value (← S argTypes o.type as)) : Sem Next)) → (S argTypes o.type (args.map ρ)).run P w = .ok v w →
        (execOp ρ o).run P w = .ok (.value v) w := by
      intro S v hS hr
      simp only [execOp, hop, resolve, Sem.run_bind, Sem.run_pure, Result.andThen_ok, invoke, hS, hr]
    split at htr
    · rename_i x t hargs htys
      have ha : args = #[x] := by cases args; simp_all
      have ht : argTypes = #[t] := by cases argTypes; simp_all
      subst ha; subst ht
      split at htr
      · rename_i e' y hu hy
        simp only [Option.some.injEq] at htr; subst htr
        simp only [opVal] at hv
        obtain ⟨u, h1, h2⟩ := len_sound (P := P) (t := t) (ty := o.type) hu hH (hρ x y hy) hv
        exact StepV.same hH (hex Builtin.len_ u (fun _ _ => rfl) (by simpa using h1)) h2
      · rename_i y hu hy
        simp only [Option.some.injEq] at htr; subst htr
        simp only [opVal] at hv
        have hxx := hρ x y hy
        split at hv
        · rename_i s hs
          simp only [Option.some.injEq] at hv; subst hv
          rw [hs] at hxx; simp only [RelV] at hxx
          exact StepV.same hH (hex Builtin.len_ (.int .i64 s.size) (fun _ _ => rfl) (by simp [Builtin.len_, run_underlying' hu, goInt, hxx])) relLit
        · cases hv
      · rename_i n e' y hu hy
        simp only [Option.some.injEq] at htr; subst htr
        simp only [opVal, Option.some.injEq] at hv; subst hv
        exact StepV.same hH (hex Builtin.len_ (.int .i64 n) (fun _ _ => rfl) (by simp [Builtin.len_, run_underlying' hu, goInt])) relLit
      · cases htr
    · split at htr
      · split at htr
        · split at htr
          · simp only [Option.some.injEq] at htr; subst htr; simp [opVal] at hv
          · cases htr
        · cases htr
      · cases htr
    · split at htr
      · split at htr
        · simp only [Option.some.injEq] at htr; subst htr; simp [opVal] at hv
        · cases htr
      · cases htr
    · obtain ⟨ys, hys, rfl⟩ := Option.map_eq_some_iff.1 htr
      simp only [opVal] at hv
      have hL := hρ.list hys
      split at hv
      · rename_i a as heq
        rw [heq] at hL
        obtain ⟨u, us, hus, h1, h2⟩ := hL.uncons
        obtain ⟨v, h3, h4⟩ := mx_sound (P := P) (w := w) (m2 := Builtin.max2) (fun k k' a b => rfl) h1 h2 hv
        exact StepV.same hH (hex Builtin.max_ v (fun _ _ => rfl) (by simp only [Builtin.max_, Array.toList_map]; rw [hus]; exact h3)) h4
      · cases hv
    · obtain ⟨ys, hys, rfl⟩ := Option.map_eq_some_iff.1 htr
      simp only [opVal] at hv
      have hL := hρ.list hys
      split at hv
      · rename_i a as heq
        rw [heq] at hL
        obtain ⟨u, us, hus, h1, h2⟩ := hL.uncons
        obtain ⟨v, h3, h4⟩ := mx_sound (P := P) (w := w) (m2 := Builtin.min2) (fun k k' a b => rfl) h1 h2 hv
        exact StepV.same hH (hex Builtin.min_ v (fun _ _ => rfl) (by simp only [Builtin.min_, Array.toList_map]; rw [hus]; exact h3)) h4
      · cases hv
    · cases htr

theorem opVal_sound (hc : ∀ a, e (.c a) = a) (htr : trOp P K mu o = some ao) (hρ : RelO st K e ρ) (hH : RelH st w H) (hv : opVal e H ao = some r) : StepV P ρ o st w r H := by
  cases hop : o.op
  case build => exact build_sound hop htr hρ hH hv
  case buildSlice => exact mks_sound hop htr hρ hH hv
  all_goals simp only [trOp, hop] at htr
  all_goals first | (cases htr; done) | skip
  case move x =>
    obtain ⟨y, hy, rfl⟩ := od_map htr
    simp only [opVal, Option.some.injEq] at hv; subst hv
    exact StepV.same hH (by simp [execOp, hop]) (hρ x y hy)
  case assign x =>
    obtain ⟨y, hy, rfl⟩ := od_map htr
    simp only [opVal, Option.some.injEq] at hv; subst hv
    exact StepV.same hH (by simp [execOp, hop]) (hρ x y hy)
  case pick c a b =>
    split at htr
    · rename_i c' a' b' h1 h2 h3
      simp only [Option.some.injEq] at htr; subst htr
      simp only [opVal] at hv
      split at hv
      · rename_i t ht
        simp only [Option.some.injEq] at hv; subst hv
        have hcc := hρ c c' h1
        rw [ht] at hcc; simp only [RelV] at hcc
        cases t
        · exact StepV.same hH (v := ρ b) (by simp [execOp, hop, hcc, asBool]) (hρ b b' h3)
        · exact StepV.same hH (v := ρ a) (by simp [execOp, hop, hcc, asBool]) (hρ a a' h2)
      · cases hv
    · cases htr
  case alloc => split at htr <;> first | (split at htr <;> first | (cases htr; done) | (simp only [Option.some.injEq] at htr; subst htr; simp [opVal] at hv)) | cases htr
  case box => obtain ⟨y, hy, rfl⟩ := od_map htr; simp [opVal] at hv
  case load t a =>
    split at htr
    · rename_i n a' h1 h2
      simp only [Option.some.injEq] at htr; subst htr
      simp only [opVal] at hv
      obtain ⟨u, h3, h4⟩ := ld_sound h1 hH (hρ a a' h2) hv
      exact StepV.same hH (by simp [execOp, hop, h3]) h4
    · cases htr
  case store => split at htr <;> first | (simp only [Option.some.injEq] at htr; subst htr; simp [opVal] at hv) | cases htr
  case nilCheck x =>
    obtain ⟨y, hy, rfl⟩ := od_map htr
    simp only [opVal] at hv
    obtain ⟨h1, h2⟩ := nilc_sound (P := P) hop rfl hH (hρ x y hy) hv
    exact StepV.same hH h1 h2
  case binOp op t x y yt =>
    split at htr
    · rename_i x' y' h1 h2
      exact trBin_spec ⟨yt, hop⟩ h1 h2 htr hc hρ hH hv
    · cases htr
  case unOp op t x =>
    obtain ⟨y, hy, rfl⟩ := od_map htr
    simp only [opVal] at hv
    have hxx := hρ x y hy
    split at hv
    · rename_i b hb
      simp only [Option.some.injEq] at hv; subst hv
      rw [hb] at hxx; simp only [RelV] at hxx
      exact StepV.same hH (by simp [execOp, hop, hxx, Op.unary]) relLit
    · rename_i k n hb
      simp only [Option.some.injEq] at hv; subst hv
      rw [hb] at hxx; simp only [RelV] at hxx
      exact StepV.same hH (v := .int k (k.wrap (0 - n))) (by simp [execOp, hop, hxx, Op.unary, Op.intArith]) relLit
    · cases hv
  case convert s d x =>
    split at htr
    · rename_i ds k x' h1 h2 h3
      simp only [Option.some.injEq] at htr; subst htr
      simp only [opVal] at hv
      have hxx := hρ x x' h3
      split at hv
      · rename_i k' n hb
        simp only [Option.some.injEq] at hv; subst hv
        rw [hb] at hxx; simp only [RelV] at hxx
        exact StepV.same hH (v := .int k (k.wrap n)) (by simp [execOp, hop, hxx, convert, run_underlying' h1, run_underlying' h2, Conv.intToInt]) relLit
      · cases hv
    · cases htr
  case makeFunc f first caps =>
    cases f <;> simp only at htr
    case func f =>
      split at htr
      · rename_i hsz
        obtain ⟨ys, hys, rfl⟩ := Option.map_eq_some_iff.1 htr
        simp only [opVal, Option.some.injEq] at hv; subst hv
        have h0 : first = #[] := Array.eq_empty_of_size_eq_zero hsz
        subst h0
        refine StepV.same hH (v := .func (.func f) #[] (caps.map ρ)) (by simp [execOp, hop, Instr.makeFunc]) ?_
        simp only [RelV]
        exact ⟨_, rfl, by simpa using hρ.list hys⟩
      · cases htr
    all_goals cases htr
  case makeSlice => split at htr <;> first | (split at htr <;> first | (split at htr <;> first | (simp only [Option.some.injEq] at htr; subst htr; simp [opVal] at hv) | cases htr) | cases htr) | cases htr
  case slice t x lo hi mx =>
    split at htr
    · rename_i e' x' lo' hi' mx' h1 h2 h3 h4 h5
      split at htr
      · rename_i sz hsz
        split at htr
        · rename_i hmx
          simp only [Option.some.injEq] at htr; subst htr
          simp only [opVal] at hv
          obtain ⟨u, h6, h7⟩ := sl_sound (P := P) h1 hsz (hρ.opt h3) (hρ.opt h4) (hρ.opt h5) (by cases mx' <;> cases hi' <;> simp_all) hH (hρ x x' h2) hv
          exact StepV.same hH (by simp [execOp, hop, h6]) h7
        · cases htr
      · cases htr
    · rename_i x' lo' hi' h1 h2 h3 h4 h5
      simp only [Option.some.injEq] at htr; subst htr
      simp only [opVal] at hv
      obtain ⟨u, h6, h7⟩ := ssl_sound (P := P) (w := w) h1 (hρ.opt h3) (hρ.opt h4) (hρ x x' h2) hv
      have hm : mx = none := by cases mx <;> simp_all [odo]
      subst hm
      exact StepV.same hH (by simp [execOp, hop]; rw [h6]; rfl) h7
    · cases htr
  case fieldAddr s x f =>
    split at htr
    · rename_i off ft x' h1 h2
      simp only [Option.some.injEq] at htr; subst htr
      simp only [opVal] at hv
      obtain ⟨u, h3, h4⟩ := fa_sound h1 hH (hρ x x' h2) hv
      exact StepV.same hH (by simp [execOp, hop, h3]) h4
    · cases htr
  case field t x f =>
    split at htr
    · rename_i off ft x' h1 h2
      split at htr
      · rename_i n hn
        simp only [Option.some.injEq] at htr; subst htr
        simp only [opVal] at hv
        have hxx := hρ x x' h2
        split at hv
        · rename_i cs hcs
          rw [hcs] at hxx; simp only [RelV] at hxx
          obtain ⟨us, hus, h3, h4⟩ := hxx
          obtain ⟨fs, fd, k, hu, hfd, rfl, rfl, hk⟩ := flT_spec h1
          obtain ⟨v, h5, h6⟩ := getN_part (P := P) (w := w) hn h3 h4 hv
          exact StepV.same hH (by simp [execOp, hop, Instr.field, run_underlying' hu, hfd, hus, asAgg, h5]) h6
        · cases hv
      · cases htr
    · cases htr
  case indexAddr t x i =>
    split at htr
    · rename_i e' x' i' h1 h2 h3
      split at htr
      · rename_i sz hsz
        simp only [Option.some.injEq] at htr; subst htr
        simp only [opVal] at hv
        obtain ⟨u, h4, h5⟩ := ia_sound h1 hsz hH (hρ x x' h2) (hρ i i' h3) hv
        exact StepV.same hH (by simp [execOp, hop, h4]) h5
      · cases htr
    · rename_i len e' x' i' h1 h2 h3
      split at htr
      · rename_i sz hsz
        simp only [Option.some.injEq] at htr; subst htr
        simp only [opVal] at hv
        obtain ⟨u, h4, h5⟩ := iaa_sound h1 hsz hH (hρ x x' h2) (hρ i i' h3) hv
        exact StepV.same hH (by simp [execOp, hop, h4]) h5
      · cases htr
    · cases htr
  case index t x i =>
    split at htr
    · rename_i len e' x' i' h1 h2 h3
      split at htr
      · rename_i sz n hsz hn
        simp only [Option.some.injEq] at htr; subst htr
        simp only [opVal] at hv
        have hxx := hρ x x' h2
        have hii := hρ i i' h3
        split at hv
        · rename_i cs k m hcs hm
          split at hv
          · rename_i hb
            rw [hcs] at hxx; rw [hm] at hii; simp only [RelV] at hxx hii
            obtain ⟨us, hus, h4, h5⟩ := hxx
            obtain ⟨v, h6, h7⟩ := getN_part (P := P) (w := w) hn h4 h5 hv
            exact StepV.same hH (by simp [execOp, hop, Instr.index, asIntOf, hii, hus, run_underlying' h1, hb.1, hb.2, run_sizeOf' hsz, h6]) h7
          · cases hv
        · cases hv
      · cases htr
    · rename_i x' i' h1 h2 h3
      simp only [Option.some.injEq] at htr; subst htr
      simp only [opVal] at hv
      have hxx := hρ x x' h2
      have hii := hρ i i' h3
      split at hv
      · rename_i s k m hs hm
        split at hv
        · rename_i hb
          split at hv
          · rename_i b hbb
            simp only [Option.some.injEq] at hv; subst hv
            rw [hs] at hxx; rw [hm] at hii; simp only [RelV] at hxx hii
            exact StepV.same hH (v := .int .u8 b.toNat) (by simp [execOp, hop, Instr.index, asIntOf, hii, hxx, run_underlying' h1, hb, hbb]) relLit
          · cases hv
        · cases hv
      · cases hv
    · cases htr
  case extract x i =>
    obtain ⟨y, hy, rfl⟩ := Option.map_eq_some_iff.1 htr
    simp only [opVal] at hv
    have hxx := hρ x y hy
    split at hv
    · rename_i vs hvs
      rw [hvs] at hxx; simp only [RelV] at hxx
      obtain ⟨us, hus, h2⟩ := hxx
      obtain ⟨u, h3, h4⟩ := h2.get hv
      have h5 : us[i]? = some u := by simpa using h3
      exact StepV.same hH (by simp [execOp, hop, Instr.extract, hus, h5]) h4
    · cases hv
  case call c => exact call_val_sound hop htr hρ hH hv
end Go.Sas
