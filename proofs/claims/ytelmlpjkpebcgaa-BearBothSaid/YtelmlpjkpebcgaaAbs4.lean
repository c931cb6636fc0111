/-
An abstract machine over values, part 4: the other operations that change nothing, and the sum of them.
Conditions: none (lemmas over any program).
-/
import Derived.Test.YtelmlpjkpebcgaaAbs3
import Derived.Laws.Tables
import Derived.Laws.StructEq
set_option linter.unusedVariables false
set_option linter.unusedSimpArgs false
namespace Go.Sas
variable {P : Program} {K : List Nat} {st : St} {w : World} {H : AHeap} {ρ : Operand → Value} {e : Od → AV}

theorem relLit {st : St} {u : Value} : RelV st (.lit u) u := by simp only [RelV]

theorem bin_sound {op : BinOp} {t : TypeId} {x y : Operand} {a b r : AV} {va vb : Value} (ha : RelV st a va) (hb : RelV st b vb) (hr : binA op a b = some r) :
    ∃ v, (do eqGuard op t x y va vb; binOp op t va vb : Sem Value).run P w = .ok v w ∧ RelV st r v := by
  unfold binA at hr
  split at hr
  · rename_i k i k' j
    simp only [RelV] at ha hb
    subst ha; subst hb
    cases op <;> simp only at hr
    case shl => split at hr <;> simp at hr; subst hr; rename_i h; refine ⟨_, ?_, relLit⟩; simp [eqGuard, binOp, Op.shift, h, iShl, iShr]
    case shr => split at hr <;> simp at hr; subst hr; rename_i h; refine ⟨_, ?_, relLit⟩; simp [eqGuard, binOp, Op.shift, h, iShl, iShr]
    case quo =>
      split at hr <;> simp at hr
      obtain ⟨hj, rfl⟩ := hr; rename_i h; subst h
      refine ⟨_, ?_, relLit⟩; simp [eqGuard, binOp, Op.intDiv, hj, iQuo, iRem]
    case rem =>
      split at hr <;> simp at hr
      obtain ⟨hj, rfl⟩ := hr; rename_i h; subst h
      refine ⟨_, ?_, relLit⟩; simp [eqGuard, binOp, Op.intDiv, hj, iQuo, iRem]
    case andNot => cases hr
    case add => split at hr <;> simp at hr; subst hr; rename_i h; subst h; refine ⟨_, ?_, relLit⟩; simp [eqGuard, binOp, Op.intArith, iAdd, iSub, iMul]
    case sub => split at hr <;> simp at hr; subst hr; rename_i h; subst h; refine ⟨_, ?_, relLit⟩; simp [eqGuard, binOp, Op.intArith, iAdd, iSub, iMul]
    case mul => split at hr <;> simp at hr; subst hr; rename_i h; subst h; refine ⟨_, ?_, relLit⟩; simp [eqGuard, binOp, Op.intArith, iAdd, iSub, iMul]
    case and => split at hr <;> simp at hr; subst hr; rename_i h; subst h; refine ⟨_, ?_, relLit⟩; simp [eqGuard, binOp, Op.intBits, iAnd, iOr, iXor]
    case or => split at hr <;> simp at hr; subst hr; rename_i h; subst h; refine ⟨_, ?_, relLit⟩; simp [eqGuard, binOp, Op.intBits, iAnd, iOr, iXor]
    case xor => split at hr <;> simp at hr; subst hr; rename_i h; subst h; refine ⟨_, ?_, relLit⟩; simp [eqGuard, binOp, Op.intBits, iAnd, iOr, iXor]
    case eql => split at hr <;> simp at hr; subst hr; rename_i h; subst h; refine ⟨_, ?_, relLit⟩; simp [eqGuard, binOp, Op.intCmp, iEq, iNe, iLt, iLe]
    case neq => split at hr <;> simp at hr; subst hr; rename_i h; subst h; refine ⟨_, ?_, relLit⟩; simp [eqGuard, binOp, Op.intCmp, iEq, iNe, iLt, iLe]
    case lss => split at hr <;> simp at hr; subst hr; rename_i h; subst h; refine ⟨_, ?_, relLit⟩; simp [eqGuard, binOp, Op.intCmp, iEq, iNe, iLt, iLe]
    case leq => split at hr <;> simp at hr; subst hr; rename_i h; subst h; refine ⟨_, ?_, relLit⟩; simp [eqGuard, binOp, Op.intCmp, iEq, iNe, iLt, iLe]
    case gtr => split at hr <;> simp at hr; subst hr; rename_i h; subst h; refine ⟨_, ?_, relLit⟩; simp [eqGuard, binOp, Op.intCmp, iEq, iNe, iLt, iLe]
    case geq => split at hr <;> simp at hr; subst hr; rename_i h; subst h; refine ⟨_, ?_, relLit⟩; simp [eqGuard, binOp, Op.intCmp, iEq, iNe, iLt, iLe]
  · rename_i s s'
    simp only [RelV] at ha hb
    subst ha; subst hb
    cases op <;> simp only [Option.some.injEq, reduceCtorEq] at hr
    case eql => subst hr; refine ⟨_, ?_, relLit⟩; simp [eqGuard, binOp, Op.stringOp, sEq]
    case neq => subst hr; refine ⟨_, ?_, relLit⟩; simp [eqGuard, binOp, Op.stringOp, sEq]
    case add =>
      split at hr <;> simp at hr
      subst hr; rename_i h
      refine ⟨_, ?_, relLit⟩
      have h' : ¬ ((s.size + s'.size : Nat) : Int) > IntKind.i64.max := by
        have : IntKind.i64.max = 9223372036854775807 := by decide
        omega
      simp only [eqGuard, binOp, Op.stringOp, Sem.run_bind, Result.andThen, sApp]
      simp
      simpa using h'
  · cases hr

theorem binb_sound {t : TypeId} {x y : Operand} {neg i j : Bool} (hu : P.underlying t = some .bool) :
    (do eqGuard (if neg then .neq else .eql) t x y (.bool i) (.bool j); binOp (if neg then .neq else .eql) t (.bool i) (.bool j) : Sem Value).run P w = .ok (.bool (if neg then !(i == j) else (i == j))) w := by
  have h : ∀ d, (Op.equalIn (d + 1) t (.bool i) (.bool j)).run P w = .ok (i == j) w := fun d => by simp [Op.equalIn, run_underlying' hu]
  cases neg <;> simp [eqGuard, binOp, Op.equal, Op.maxDepth, h 9999]

theorem eqn_sound {t e' : TypeId} {x y : Operand} {neg : Bool} {a : AV} {v : Value} {r : Bool} (hu : P.underlying t = some (.slice e')) (hH : RelH st w H) (ha : RelV st a v) (hr : eqnA H a = some r) :
    (do eqGuard (if neg then .neq else .eql) t x y v (.slice none 0 0); binOp (if neg then .neq else .eql) t v (.slice none 0 0) : Sem Value).run P w = .ok (.bool (if neg then !r else r)) w := by
  have h : ∀ d (a : Option Addr) (n c : Nat), (Op.equalIn (d + 1) t (.slice a n c) (.slice none 0 0)).run P w = .ok a.isNone w := fun d a n c => by cases a <;> simp [Op.equalIn, run_underlying' hu]
  unfold eqnA at hr
  split at hr
  · simp only [Option.some.injEq] at hr; subst hr
    simp only [RelV] at ha; subst ha
    cases neg <;> simp [eqGuard, binOp, Op.equal, Op.maxDepth, h 9999]
  · simp only [Option.some.injEq] at hr; subst hr
    simp only [RelV] at ha
    obtain ⟨a', cap, us, rfl, hc, h2, h3, h4⟩ := ha
    obtain ⟨b, o, rfl, _⟩ := h4 (by simp)
    cases neg <;> simp [eqGuard, binOp, Op.equal, Op.maxDepth, h 9999]
  · split at hr
    · rename_i hl
      simp only [Option.some.injEq] at hr; subst hr
      obtain ⟨l, a', cap, _, _, rfl, hc, h4⟩ := relV_ms_live hH hl ha
      obtain ⟨b, o, r', _, rfl, _⟩ := h4 (by omega)
      cases neg <;> simp [eqGuard, binOp, Op.equal, Op.maxDepth, h 9999]
    · cases hr
  · cases hr

theorem eqE_b {a b : AV} {r : Bool} (h : eqE .b a b = some r) : ∃ x y, a = .lit (.bool x) ∧ b = .lit (.bool y) ∧ r = (x == y) := by
  unfold eqE at h
  split at h
  all_goals first
    | (cases h; done)
    | (rename_i x y hs; simp only [Option.some.injEq] at h; exact ⟨_, _, rfl, rfl, h.symm⟩)
    | (rename_i hs; cases hs; done)
    | (simp_all; done)
theorem eqE_i {a b : AV} {r : Bool} (h : eqE .i a b = some r) : ∃ k x y, a = .lit (.int k x) ∧ b = .lit (.int k y) ∧ r = (x == y) := by
  unfold eqE at h
  split at h
  all_goals first
    | (cases h; done)
    | (split at h
       · rename_i hk; subst hk; simp only [Option.some.injEq, iEq] at h; exact ⟨_, _, _, rfl, rfl, h.symm⟩
       · cases h)
    | (simp_all; done)
theorem eqE_s {a b : AV} {r : Bool} (h : eqE .s a b = some r) : ∃ x y, a = .lit (.string x) ∧ b = .lit (.string y) ∧ r = (x.toList == y.toList) := by
  unfold eqE at h
  split at h
  all_goals first
    | (cases h; done)
    | (simp only [Option.some.injEq, sEq] at h; exact ⟨_, _, rfl, rfl, h.symm⟩)
    | (simp_all; done)
theorem eqE_nil {a b : AV} {r : Bool} (h : eqE .nil a b = some r) : ∃ x y, a = .agg x ∧ b = .agg y ∧ r = true := by
  unfold eqE at h
  split at h
  all_goals first
    | (cases h; done)
    | (simp only [Option.some.injEq] at h; exact ⟨_, _, rfl, rfl, h.symm⟩)
    | (simp_all; done)
theorem eqE_fld {a b : AV} {r : Bool} {off : Nat} {n : Option Nat} {sh rest : ESh} (h : eqE (.fld off n sh rest) a b = some r) :
    ∃ xs ys x y p q, a = .agg xs ∧ b = .agg ys ∧ getN n xs off = some x ∧ getN n ys off = some y ∧ eqE sh x y = some p ∧ eqE rest a b = some q ∧ r = (p && q) := by
  unfold eqE at h
  split at h
  all_goals first
    | (cases h; done)
    | skip
  all_goals first
    | (rename_i hs; cases hs; done)
    | skip
  all_goals first
    | (rename_i hs
       simp only [ESh.fld.injEq] at hs
       obtain ⟨rfl, rfl, rfl, rfl⟩ := hs
       split at h
       · rename_i x y hx hy
         split at h
         · rename_i p q hp hq
           simp only [Option.some.injEq] at h
           exact ⟨_, _, x, y, p, q, rfl, rfl, hx, hy, hp, hq, h.symm⟩
         · cases h
       · cases h)
    | (split at h
       · rename_i x y hx hy
         split at h
         · rename_i p q hp hq
           simp only [Option.some.injEq] at h
           exact ⟨_, _, x, y, p, q, rfl, rfl, hx, hy, hp, hq, h.symm⟩
         · cases h
       · cases h)

theorem eqE_sound : ∀ (d : Nat) {t : TypeId} {sh : ESh} {a b : AV} {va vb : Value} {r : Bool}, eqShT P d t = some sh → RelV st a va → RelV st b vb → eqE sh a b = some r →
    ∀ d', d ≤ d' → (Op.equalIn d' t va vb).run P w = .ok r w
  | 0, t, sh, a, b, va, vb, r, ht, _, _, _, _, _ => by simp [eqShT] at ht
  | d + 1, t, sh, a, b, va, vb, r, ht, ha, hb, hr, 0, hd => by omega
  | d + 1, t, sh, a, b, va, vb, r, ht, ha, hb, hr, d' + 1, hd => by
    simp only [eqShT] at ht
    split at ht
    · rename_i hu
      simp only [Option.some.injEq] at ht; subst ht
      obtain ⟨x, y, rfl, rfl, rfl⟩ := eqE_b hr
      simp only [RelV] at ha hb; subst ha; subst hb
      exact run_equalIn_bool w d' t _ _ hu
    · rename_i k0 hu
      simp only [Option.some.injEq] at ht; subst ht
      obtain ⟨k, x, y, rfl, rfl, rfl⟩ := eqE_i hr
      simp only [RelV] at ha hb; subst ha; subst hb
      exact run_equalIn_int w d' t _ _ _ _ hu
    · rename_i hu
      simp only [Option.some.injEq] at ht; subst ht
      obtain ⟨x, y, rfl, rfl, rfl⟩ := eqE_s hr
      simp only [RelV] at ha hb; subst ha; subst hb
      exact run_equalIn_string w d' t _ _ hu
    · rename_i fs hu
      split at ht
      · cases ht
      · rename_i hp
        have hfs : P.fieldsOf t = fs := by simp [Program.fieldsOf, hu]
        have key : ∀ (l : List Field) (sh : ESh) (r : Bool), l.foldr (fun f acc => match acc, (if f.name = "_" then none else eqShT P d f.type), shT P f.type with
            | some r, some sh, some n => some (ESh.fld f.offset n sh r)
            | _, _, _ => none) (some .nil) = some sh → eqE sh a b = some r → ∃ xs ys : Array Value, va = .agg xs ∧ vb = .agg ys ∧ (Op.eqFields d' xs ys l).run P w = .ok r w := by
          intro l
          induction l with
          | nil =>
            intro sh r h1 h2
            simp only [List.foldr_nil, Option.some.injEq] at h1; subst h1
            obtain ⟨x, y, rfl, rfl, rfl⟩ := eqE_nil h2
            simp only [RelV] at ha hb
            obtain ⟨xs, rfl, _⟩ := ha
            obtain ⟨ys, rfl, _⟩ := hb
            exact ⟨xs, ys, rfl, rfl, by simp [Op.eqFields]⟩
          | cons f l ih =>
            intro sh r h1 h2
            simp only [List.foldr_cons] at h1
            split at h1
            · rename_i r0 sh0 n0 h3 h4 h5
              simp only [Option.some.injEq] at h1; subst h1
              split at h4
              · cases h4
              · rename_i hname
                obtain ⟨xs, ys, x, y, p, q, rfl, rfl, hx, hy, hp, hq, rfl⟩ := eqE_fld h2
                obtain ⟨us, vs, e1, e2, h6⟩ := ih _ _ h3 hq
                subst e1; subst e2
                have ha' := ha; have hb' := hb
                simp only [RelV] at ha' hb'
                obtain ⟨us', e1, hL, hs⟩ := ha'
                obtain ⟨vs', e2, hL2, hs2⟩ := hb'
                cases e1; cases e2
                obtain ⟨v1, g1, g2⟩ := getN_part (P := P) (w := w) h5 hL hs hx
                obtain ⟨v2, g3, g4⟩ := getN_part (P := P) (w := w) h5 hL2 hs2 hy
                have g5 := eqE_sound d h4 g2 g4 hp d' (by omega)
                refine ⟨us, vs, rfl, rfl, ?_⟩
                simp only [Op.eqFields, ne_eq, hname, not_false_eq_true, if_true, Sem.run_bind, g1, g3, g5, Result.andThen_ok]
                cases p
                · simp
                · simpa using h6
            · cases h1
        obtain ⟨xs, ys, rfl, rfl, h⟩ := key fs.toList sh r ht hr
        rw [run_equalIn_struct w d' t xs ys (by rw [hfs]; exact hu) (by simpa using hp), hfs]
        exact h
    · cases ht

theorem eqE_agg {sh : ESh} {a b : AV} {va vb : Value} {r : Bool} {t : TypeId} {fs : Array Field} (hu : P.underlying t = some (.struct fs)) (hs : eqShT P 8 t = some sh) (ha : RelV st a va) (hb : RelV st b vb) (hr : eqE sh a b = some r) :
    ∃ xs ys, va = .agg xs ∧ vb = .agg ys := by
  have fin : ∀ x y, a = .agg x → b = .agg y → ∃ xs ys, va = .agg xs ∧ vb = .agg ys := by
    rintro x y rfl rfl
    simp only [RelV] at ha hb
    obtain ⟨xs, rfl, _⟩ := ha
    obtain ⟨ys, rfl, _⟩ := hb
    exact ⟨_, _, rfl, rfl⟩
  rw [eqShT] at hs
  simp only [hu] at hs
  split at hs
  · cases hs
  · cases hl : fs.toList with
    | nil =>
      rw [hl] at hs
      simp only [List.foldr_nil, Option.some.injEq] at hs; subst hs
      obtain ⟨x, y, h1, h2, _⟩ := eqE_nil hr
      exact fin x y h1 h2
    | cons f l =>
      rw [hl, List.foldr_cons] at hs
      split at hs
      · simp only [Option.some.injEq] at hs; subst hs
        obtain ⟨x, y, _, _, _, _, h1, h2, _⟩ := eqE_fld hr
        exact fin x y h1 h2
      · cases hs

theorem eqs_sound {t : TypeId} {fs : Array Field} {x y : Operand} {neg : Bool} {sh : ESh} {a b : AV} {va vb : Value} {r : Bool} (hu : P.underlying t = some (.struct fs)) (hs : trEqs P t = some sh) (ha : RelV st a va) (hb : RelV st b vb) (hr : eqE sh a b = some r) :
    (do eqGuard (if neg then .neq else .eql) t x y va vb; binOp (if neg then .neq else .eql) t va vb : Sem Value).run P w = .ok (.bool (if neg then !r else r)) w := by
  unfold trEqs at hs
  split at hs
  · rename_i sh' hs'
    split at hs
    · cases hs
    · rename_i hg
      simp only [Option.some.injEq] at hs; subst hs
      have h := eqE_sound (w := w) 8 hs' ha hb hr 10000 (by decide)
      obtain ⟨xs, ys, rfl, rfl⟩ := eqE_agg hu hs' ha hb hr
      have hg' := run_eqGuard_agg (P := P) w (if neg then .neq else .eql) t x y xs ys (by simpa using hg)
      simp only [Sem.run_bind, hg', Result.andThen_ok]
      cases neg
      · simp only [Bool.false_eq_true, if_false, run_eql_struct, h, Result.andThen_ok]
      · simp only [if_true, run_neq_struct, h, Result.andThen_ok]
  · cases hs

theorem len_sound {t ty e' : TypeId} {a r : AV} {v : Value} (hu : P.underlying t = some (.slice e')) (hH : RelH st w H) (ha : RelV st a v) (hr : lenA H a = some r) :
    ∃ u, (Builtin.len_ #[t] ty #[v]).run P w = .ok u w ∧ RelV st r u := by
  unfold lenA at hr
  have key : ∀ (a : Option Addr) (n c : Nat), (Builtin.len_ #[t] ty #[.slice a n c]).run P w = .ok (.int .i64 n) w := fun a n c => by
    simp [Builtin.len_, run_underlying' hu, goInt]
  split at hr
  · simp only [Option.some.injEq] at hr; subst hr
    simp only [RelV] at ha
    obtain ⟨a', cap, us, rfl, hc, h2, h3, h4⟩ := ha
    exact ⟨_, key _ _ _, relLit⟩
  · split at hr
    · rename_i hl
      simp only [Option.some.injEq] at hr; subst hr
      obtain ⟨l, a', cap, _, _, rfl, hc, h4⟩ := relV_ms_live hH hl ha
      exact ⟨_, key _ _ _, relLit⟩
    · cases hr
  · simp only [Option.some.injEq] at hr; subst hr
    simp only [RelV] at ha
    obtain ⟨a', rfl⟩ := ha
    exact ⟨_, key _ _ _, relLit⟩
  · simp only [Option.some.injEq] at hr; subst hr
    simp only [RelV] at ha; subst ha
    exact ⟨_, key _ _ _, relLit⟩
  · cases hr

theorem mx_sound {f : Int → Int → Int} {m2 : Value → Value → Sem Value} (hm : ∀ (k k' : IntKind) (a b : Int), m2 (.int k a) (.int k' b) = Pure.pure (.int k (f a b))) :
    ∀ {as : List AV} {us : List Value} {a r : AV} {u : Value}, RelV st a u → RelL st as us → foldA f a as = some r → ∃ v, (us.foldlM m2 u).run P w = .ok v w ∧ RelV st r v
  | [], us, a, r, u, ha, hl, hr => by
    simp only [RelL] at hl; subst hl
    unfold foldA at hr
    split at hr
    · simp only [Option.some.injEq] at hr; subst hr
      exact ⟨u, by simp, ha⟩
    · rename_i h; cases h
    · cases hr
  | b :: as, us, a, r, u, ha, hl, hr => by
    obtain ⟨u', us', rfl, hb, hl'⟩ := hl.uncons
    unfold foldA at hr
    split at hr
    · rename_i h; cases h
    · rename_i k i k' j rest heq
      obtain ⟨rfl, rfl⟩ := List.cons.inj heq
      simp only [RelV] at ha hb
      subst ha; subst hb
      obtain ⟨v, h1, h2⟩ := mx_sound hm (a := .lit (.int k (f i j))) (u := .int k (f i j)) (by simp only [RelV]) hl' hr
      exact ⟨v, by simp [hm, h1], h2⟩
    · cases hr

theorem bd_run {x : Option AV} {v : Option Value} {d n y : Nat} {code : BoundsCode} (hx : bdA d x = some n) (hv : ∀ a, x = some a → ∃ u, v = some u ∧ RelV st a u) (hn : x = none → v = none) (hle : n ≤ y) :
    (match (generalizing := false) v with
      | some v => Instr.sliceBound v y code
      | none => Pure.pure d : Sem Nat).run P w = .ok n w := by
  cases x with
  | none => rw [hn rfl]; simp only [bdA, Option.some.injEq] at hx; subst hx; rfl
  | some a =>
    obtain ⟨u, rfl, hu⟩ := hv a rfl
    unfold bdA at hx
    split at hx
    · rename_i h; cases h
    · rename_i k m h
      cases h
      split at hx
      · rename_i hm
        simp only [Option.some.injEq] at hx; subst hx
        simp only [RelV] at hu; subst hu
        have h1 : m ≤ (y : Int) := by omega
        simp [Instr.sliceBound, asIntOf, hm, h1]
      · cases hx
    · cases hx

/-- optional operands fit -/
def RelOpt (st : St) (x : Option AV) (v : Option Value) : Prop := (∀ a, x = some a → ∃ u, v = some u ∧ RelV st a u) ∧ (x = none → v = none)

theorem RelO.opt (h : RelO st K e ρ) {x : Option Operand} {y : Option Od} (hy : odo K x = some y) : RelOpt st (y.map e) (x.map ρ) := by
  cases x with
  | none => simp only [odo, Option.some.injEq] at hy; subst hy; exact ⟨fun a h => by simp at h, fun _ => rfl⟩
  | some x =>
    simp only [odo] at hy
    obtain ⟨z, hz, rfl⟩ := Option.map_eq_some_iff.1 hy
    exact ⟨fun a ha => by simp at ha; subst ha; exact ⟨ρ x, rfl, h x z hz⟩, fun h => by simp at h⟩

theorem bounds_run {isSlice : Bool} {len cap l h m : Nat} {lo hi mx : Option AV} {vlo vhi vmx : Option Value} (h1 : RelOpt st lo vlo) (h2 : RelOpt st hi vhi) (h3 : RelOpt st mx vmx)
    (e1 : bdA 0 lo = some l) (e2 : bdA len hi = some h) (e3 : bdA cap mx = some m) (hmx : mx = none ∨ hi ≠ none) (hl : l ≤ h) (hh : h ≤ m) (hm : m ≤ cap) :
    (Instr.sliceBounds isSlice len cap vlo vhi vmx).run P w = .ok (l, h, m) w := by
  have r3 : (match (generalizing := false) vmx with | some v => Instr.sliceBound v cap (if isSlice then .slice3Acap else .slice3Alen) | none => Pure.pure cap : Sem Nat).run P w = .ok m w := bd_run e3 h3.1 h3.2 hm
  have r1 : ∀ c : BoundsCode, (match (generalizing := false) vlo with | some v => Instr.sliceBound v h c | none => Pure.pure 0 : Sem Nat).run P w = .ok l w := fun c => bd_run e1 h1.1 h1.2 hl
  have r2 : ∀ c : BoundsCode, (match (generalizing := false) vhi with | some v => Instr.sliceBound v m c | none => Pure.pure len : Sem Nat).run P w = .ok h w := fun c => bd_run e2 h2.1 h2.2 hh
  have hn : vhi = none → vmx = none := by
    intro hv
    rcases hmx with h' | h'
    · exact h3.2 h'
    · exfalso
      cases hi with
      | none => exact h' rfl
      | some a => obtain ⟨u, hu, _⟩ := h2.1 a rfl; rw [hv] at hu; cases hu
  have r1n : vlo = none → l = 0 := fun hv => by have := r1 .index; subst hv; simp at this; exact this.symm
  have r2n : vhi = none → h = len := fun hv => by have := r2 .index; subst hv; simp at this; exact this.symm
  have r3n : vmx = none → m = cap := fun hv => by subst hv; simp at r3; exact r3.symm
  have r1s : ∀ v, vlo = some v → ∀ c, (Instr.sliceBound v h c).run P w = .ok l w := fun v hv c => by have := r1 c; subst hv; exact this
  have r2s : ∀ v, vhi = some v → ∀ c, (Instr.sliceBound v m c).run P w = .ok h w := fun v hv c => by have := r2 c; subst hv; exact this
  have r3s : ∀ v, vmx = some v → (Instr.sliceBound v cap (if isSlice then .slice3Acap else .slice3Alen)).run P w = .ok m w := fun v hv => by subst hv; exact r3
  clear r1 r2 r3 e1 e2 e3 h1 h2 h3
  unfold Instr.sliceBounds
  cases vmx with
  | none =>
    have := r3n rfl; subst this
    cases vhi with
    | none =>
      have := r2n rfl; subst this
      cases vlo with
      | none => have := r1n rfl; subst this; simp
      | some vl => simp [r1s vl rfl]
    | some vh =>
      cases vlo with
      | none => have := r1n rfl; subst this; simp [r2s vh rfl]
      | some vl => simp [r1s vl rfl, r2s vh rfl]
  | some vm =>
    cases vhi with
    | none => exact absurd (hn rfl) (by simp)
    | some vh =>
      cases vlo with
      | none => have := r1n rfl; subst this; simp [r2s vh rfl, r3s vm rfl]
      | some vl => simp [r1s vl rfl, r2s vh rfl, r3s vm rfl]

theorem mul_split {l c sz : Nat} (h : l ≤ c) : l * sz + (c - l) * sz = c * sz := by rw [← Nat.add_mul, Nat.add_sub_cancel' h]

theorem sl_sound {t e' : TypeId} {sz : Nat} {a r : AV} {v : Value} {lo hi mx : Option AV} {vlo vhi vmx : Option Value} (hu : P.underlying t = some (.slice e')) (hz : szT P e' = some sz)
    (h1 : RelOpt st lo vlo) (h2 : RelOpt st hi vhi) (h3 : RelOpt st mx vmx) (hmx : mx = none ∨ hi ≠ none) (hH : RelH st w H) (ha : RelV st a v) (hr : slA H sz a lo hi mx = some r) :
    ∃ u, (Instr.sliceAt t v vlo vhi vmx).run P w = .ok u w ∧ RelV st r u := by
  have key : ∀ (a : Option Addr) (len cap l h m : Nat), (Instr.sliceBounds true len cap vlo vhi vmx).run P w = .ok (l, h, m) w →
      (Instr.sliceAt t (.slice a len cap) vlo vhi vmx).run P w = .ok (.slice (if m = l then a else a.map (·.add (l * sz))) (h - l) (m - l)) w := fun a len cap l h m hb => by
    simp [Instr.sliceAt, Instr.slice, run_underlying' hu, hb, run_sizeOf' hz]
  unfold slA at hr
  split at hr
  · rename_i sz' es
    split at hr
    · rename_i l h el eh
      split at hr
      · rename_i hc
        obtain ⟨rfl, hlh, hhl⟩ := hc
        simp only [RelV] at ha
        obtain ⟨a', cap, us, rfl, hcap, g2, g3, g4⟩ := ha
        -- the part that is left
        have part : ∀ m, h ≤ m → RelV st (.vs sz ((es.drop l).take (h - l))) (.slice (if m = l then a' else a'.map (·.add (l * sz))) (h - l) (m - l)) := by
          intro m hm
          simp only [RelV]
          refine ⟨_, m - l, (us.drop l).take (h - l), by congr 1; simp; omega, by simp; omega, (g2.drop l).take _, fun u hu => g3 u (List.mem_of_mem_drop (List.mem_of_mem_take hu)), fun hne => ?_⟩
          have hlt : l < h := by
            rcases Nat.lt_or_ge l h with h' | h'
            · exact h'
            · exact absurd (by simp; omega) hne
          obtain ⟨b, o, rfl, g5⟩ := g4 (by intro h0; simp [h0] at hhl; omega)
          rw [if_neg (by omega)]
          refine ⟨b, o + l * sz, by simp [addr_add], fun i c hc => ?_⟩
          have g6 : flat ((us.drop l).take (h - l)) = ((flat us).drop (l * sz)).take ((h - l) * sz) := by
            rw [flat_take _ (fun u hu => g3 u (List.mem_of_mem_drop hu)), flat_drop _ g3]
          rw [g6] at hc
          have hi' : i < (h - l) * sz := by
            rcases Nat.lt_or_ge i ((h - l) * sz) with h' | h'
            · exact h'
            · rw [List.getElem?_eq_none (by simp; omega)] at hc; cases hc
          rw [List.getElem?_take_of_lt hi', List.getElem?_drop] at hc
          rw [Nat.add_assoc]; exact g5 _ c hc
        split at hr
        · simp only [Option.some.injEq] at hr; subst hr
          exact ⟨_, key _ _ _ l h cap (bounds_run h1 h2 h3 el eh (by simp [bdA]) hmx hlh (by omega) (Nat.le_refl _)), part cap (by omega)⟩
        · rename_i m
          split at hr
          · rename_i m' em
            split at hr
            · rename_i hc
              have hb := bounds_run (P := P) (w := w) (isSlice := true) (cap := cap) h1 h2 h3 el eh (m := m') (by unfold bdA at em ⊢; split at em <;> simp_all) hmx hlh hc.1 (by omega)
              split at hr
              · rename_i hml
                simp only [Option.some.injEq] at hr; subst hr
                refine ⟨_, key _ _ _ l h m' hb, ?_⟩
                simp only [RelV]
                exact ⟨_, by rw [show h - l = 0 by omega, show m' - l = 0 by omega]⟩
              · simp only [Option.some.injEq] at hr; subst hr
                exact ⟨_, key _ _ _ l h m' hb, part m' hc.1⟩
            · cases hr
          · cases hr
      · cases hr
    · cases hr
  · rename_i sz' id g off len
    split at hr
    · rename_i l h el eh
      split at hr
      · rename_i hc
        obtain ⟨rfl, hlh, hhl, hlv⟩ := hc
        simp only [Option.some.injEq] at hr; subst hr
        obtain ⟨ll, a', cap, g1, g2, rfl, g3, g4⟩ := relV_ms_live hH hlv ha
        have hhc : h ≤ cap := by omega
        have hlc : h - l ≤ cap - l := by omega
        have hg1 : g ≤ ll.g := by omega
        have hg2 : ¬ g < ll.g := by omega
        refine ⟨_, key _ _ _ l h cap (bounds_run h1 h2 h3 el eh (by simp [bdA]) hmx hlh hhc (Nat.le_refl _)), ?_⟩
        simp only [RelV]
        refine ⟨ll, g1, hg1, fun h => absurd h hg2, fun _ => ⟨_, cap - l, rfl, hlc, fun hpos => ?_⟩⟩
        obtain ⟨b, o, r', g5, rfl, g6⟩ := g4 (by omega)
        refine ⟨b, o, r', g5, ?_, ?_⟩
        · rw [if_neg (by omega)]; simp [addr_add, Nat.add_assoc]
        · have := mul_split (sz := sz) (Nat.le_trans hlh hhc)
          omega
      · cases hr
    · rename_i l h m el eh
      split at hr
      · rename_i m' em
        split at hr
        · rename_i hc
          obtain ⟨rfl, hlh, hhl, hhm, hml, hlv⟩ := hc
          obtain ⟨ll, a', cap, g1, g2, rfl, g3, g4⟩ := relV_ms_live hH hlv ha
          have hb := bounds_run (P := P) (w := w) (isSlice := true) (cap := cap) h1 h2 h3 el eh (m := m') (by unfold bdA at em ⊢; split at em <;> simp_all) hmx hlh hhm (by omega)
          split at hr
          · simp only [Option.some.injEq] at hr; subst hr
            refine ⟨_, key _ _ _ l h m' hb, ?_⟩
            simp only [RelV]
            exact ⟨_, by rw [show h - l = 0 by omega, show m' - l = 0 by omega]⟩
          · simp only [Option.some.injEq] at hr; subst hr
            refine ⟨_, key _ _ _ l h m' hb, ?_⟩
            simp only [RelV]
            have hlc : h - l ≤ m' - l := by omega
            have hg1 : g ≤ ll.g := by omega
            have hg2 : ¬ g < ll.g := by omega
            refine ⟨ll, g1, hg1, fun h => absurd h hg2, fun _ => ⟨_, m' - l, rfl, hlc, fun hpos => ?_⟩⟩
            obtain ⟨b, o, r', g5, rfl, g6⟩ := g4 (by omega)
            refine ⟨b, o, r', g5, ?_, ?_⟩
            · rw [if_neg (by omega)]; simp [addr_add, Nat.add_assoc]
            · have := mul_split (sz := sz) (Nat.le_trans hlh hhm)
              have : m' * sz ≤ cap * sz := Nat.mul_le_mul_right _ (by omega)
              omega
        · cases hr
      · cases hr
    · cases hr
  · split at hr
    · rename_i el eh
      simp only [Option.some.injEq] at hr; subst hr
      simp only [RelV] at ha
      obtain ⟨a', rfl⟩ := ha
      exact ⟨_, key _ _ _ 0 0 0 (bounds_run h1 h2 h3 el eh (by simp [bdA]) hmx (Nat.le_refl _) (Nat.le_refl _) (Nat.le_refl _)), by simp only [RelV]; exact ⟨_, rfl⟩⟩
    · cases hr
  · split at hr
    · rename_i el eh
      simp only [Option.some.injEq] at hr; subst hr
      simp only [RelV] at ha
      subst ha
      exact ⟨_, key _ _ _ 0 0 0 (bounds_run h1 h2 h3 el eh (by simp [bdA]) hmx (Nat.le_refl _) (Nat.le_refl _) (Nat.le_refl _)), by simp only [RelV]; rfl⟩
    · cases hr
  · cases hr

theorem ssl_sound {t : TypeId} {a r : AV} {v : Value} {lo hi : Option AV} {vlo vhi : Option Value} (hu : P.underlying t = some .string)
    (h1 : RelOpt st lo vlo) (h2 : RelOpt st hi vhi) (ha : RelV st a v) (hr : sslA a lo hi = some r) :
    ∃ u, (Instr.sliceAt t v vlo vhi none).run P w = .ok u w ∧ RelV st r u := by
  unfold sslA at hr
  split at hr
  · rename_i s
    split at hr
    · rename_i l h el eh
      split at hr
      · rename_i hc
        simp only [Option.some.injEq] at hr; subst hr
        simp only [RelV] at ha; subst ha
        have hb := bounds_run (P := P) (w := w) (isSlice := false) (cap := s.size) (mx := none) (vmx := none) h1 h2 ⟨fun a h => by simp at h, fun _ => rfl⟩ el eh (m := s.size) (by simp [bdA]) (.inl rfl) hc.1 hc.2 (Nat.le_refl _)
        exact ⟨.string (s.extract l h), by simp [Instr.sliceAt, Instr.slice, run_underlying' hu, hb], relLit⟩
      · cases hr
    · cases hr
  · cases hr
end Go.Sas
