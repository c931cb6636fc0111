/-
From a contract at the library's table of powers to the row of a law that answers true.
Conditions: none.
-/
import Derived.Test.YtndnjmpebpampaaDoorQSW3
import Derived.Test.YtndnjmpebpampaaDoorP5f
import Derived.LaidMore
import Derived.LaidSub
import Derived.Shelf.Vars
set_option linter.unusedVariables false
set_option linter.unusedSimpArgs false
namespace Go.Sas
open Go.ChangeShapes Go.WideShapes Go.ChangeAt Go.RowKit
/-- what is known at the start: all cells but those of one variable, which is an object -/
def stP (W : World) (a : Nat) : St := ⟨fun x o => if x = a then none else rdW W x o, [⟨0, none⟩, ⟨0, some (a, 0, 0)⟩]⟩
theorem stP_own {W : World} {a x : Nat} (h : Owned (stP W a) x) : x = a := by
  obtain ⟨id, l, o, r, hl, hb⟩ := h
  match id, hl with
  | 0, hl => simp [stP] at hl; subst hl; cases hb
  | 1, hl => simp [stP] at hl; subst hl; cases hb; rfl
  | id + 2, hl => simp [stP] at hl
theorem stP_rel {W : World} {a : Nat} {o2 : Obj} (h2 : W.heap[a]? = some o2) : RelH (stP W a) W [.own 0 [], rawG 1 a o2] := by
  refine ⟨rfl, fun x o v hv => ?_, fun id l X hl hX => ?_, fun id id' l l' x o r o' r' h1 h2 h3 h4 => ?_⟩
  · simp only [stP] at hv
    split at hv
    · cases hv
    · rename_i hn
      exact ⟨(rdW_some hv).1, (rdW_some hv).2, fun h => hn (stP_own h)⟩
  · match id, hl, hX with
    | 0, hl, hX =>
      simp [stP] at hl hX; subst hl hX
      exact ⟨rfl, fun b o r hb => by cases hb⟩
    | 1, hl, hX =>
      simp [stP] at hl hX; subst hl hX
      refine ⟨rfl, RelL.cons ?_ RelL.nil, a, 0, 0, rfl, h2⟩
      simp only [RelV]
      exact ⟨⟨0, some (a, 0, 0)⟩, rfl, Nat.le_refl _, fun h => absurd h (Nat.lt_irrefl _), fun _ => ⟨a, 0, 0, rfl, rfl⟩⟩
    | id + 2, hl, hX => simp [stP] at hl
  · match id, id', h1, h2 with
    | 0, _, h1, _ => simp [stP] at h1; subst h1; cases h3
    | _, 0, _, h2 => simp [stP] at h2; subst h2; cases h4
    | 1, 1, _, _ => rfl
    | id + 2, _, h1, _ => simp [stP] at h1
    | _, id' + 2, _, h2 => simp [stP] at h2
/-! ### Arguments whose cells are numbers -/
def AV.n64 : AV → Bool
  | .lit (.int .i64 _) => true
  | _ => false
def AV.e64 : AV → Bool
  | .agg cs => cs.all AV.n64
  | a => a.n64
def AV.arg1 : AV → Bool
  | .lit _ => true
  | .vs _ xs => xs.all AV.e64
  | _ => false
def AV.arg : AV → Bool
  | .agg cs => cs.all AV.arg1
  | a => a.arg1
theorem n64_rel {st st' : St} {a : AV} {v : Value} (ha : a.n64 = true) (h : RelV st a v) : RelV st' a v ∧ ∃ n, v = .int .i64 n := by
  unfold AV.n64 at ha
  split at ha
  · simp only [RelV] at h ⊢
    exact ⟨h, _, h⟩
  · cases ha
theorem n64_relL {st st' : St} : ∀ {bs : List AV} {us : List Value}, bs.all AV.n64 = true → RelL st bs us → RelL st' bs us ∧ ∀ c ∈ us, ∃ n, c = .int .i64 n
  | [], us, _, h => by simp only [RelL] at h; subst h; exact ⟨RelL.nil, by simp⟩
  | b :: bs, us, hb, h => by
    simp only [List.all_cons, Bool.and_eq_true] at hb
    obtain ⟨u, us', rfl, h1, h2⟩ := h.uncons
    obtain ⟨g1, n, rfl⟩ := n64_rel (st' := st') hb.1 h1
    obtain ⟨g2, g3⟩ := n64_relL hb.2 h2
    exact ⟨RelL.cons g1 g2, fun c hc => by
      rcases List.mem_cons.1 hc with rfl | hc
      · exact ⟨n, rfl⟩
      · exact g3 c hc⟩
theorem e64_rel {st st' : St} {a : AV} {v : Value} (ha : a.e64 = true) (h : RelV st a v) : RelV st' a v ∧ ∀ c ∈ v.cells.toList, ∃ n, c = .int .i64 n := by
  unfold AV.e64 at ha
  split at ha
  · simp only [RelV] at h ⊢
    obtain ⟨us, rfl, h1, h2⟩ := h
    obtain ⟨g1, g2⟩ := n64_relL (st' := st') ha h1
    exact ⟨⟨us, rfl, g1, h2⟩, by simpa [Value.cells] using g2⟩
  · obtain ⟨g1, n, rfl⟩ := n64_rel (st' := st') ha h
    exact ⟨g1, fun c hc => ⟨n, by simpa [Value.cells] using hc⟩⟩
theorem e64_relL {st st' : St} : ∀ {bs : List AV} {us : List Value}, bs.all AV.e64 = true → RelL st bs us → RelL st' bs us ∧ ∀ c ∈ flat us, ∃ n, c = .int .i64 n
  | [], us, _, h => by simp only [RelL] at h; subst h; exact ⟨RelL.nil, by simp [flat]⟩
  | b :: bs, us, hb, h => by
    simp only [List.all_cons, Bool.and_eq_true] at hb
    obtain ⟨u, us', rfl, h1, h2⟩ := h.uncons
    obtain ⟨g1, g1'⟩ := e64_rel (st' := st') hb.1 h1
    obtain ⟨g2, g3⟩ := e64_relL hb.2 h2
    exact ⟨RelL.cons g1 g2, fun c hc => by
      simp only [flat, List.flatMap_cons] at hc
      rcases List.mem_append.1 hc with hc | hc
      · exact g1' c hc
      · exact g3 c hc⟩
theorem arg1_rel {st st' : St} (hrd : ∀ b o n, st.rd b o = some (.int .i64 n) → st'.rd b o = some (.int .i64 n)) {a : AV} {v : Value} (ha : a.arg1 = true) (h : RelV st a v) : RelV st' a v := by
  unfold AV.arg1 at ha
  split at ha
  · simpa only [RelV] using h
  · simp only [RelV] at h ⊢
    obtain ⟨ad, cap, us, e1, e2, e3, e4, e5⟩ := h
    obtain ⟨g1, g2⟩ := e64_relL (st' := st'.pure) ha e3
    refine ⟨ad, cap, us, e1, e2, g1, e4, fun hne => ?_⟩
    obtain ⟨b, o, e6, e7⟩ := e5 hne
    refine ⟨b, o, e6, fun i c hc => ?_⟩
    obtain ⟨n, rfl⟩ := g2 c (List.mem_of_getElem? hc)
    exact hrd _ _ _ (e7 i _ hc)
  · cases ha
theorem arg1_relL {st st' : St} (hrd : ∀ b o n, st.rd b o = some (.int .i64 n) → st'.rd b o = some (.int .i64 n)) : ∀ {bs : List AV} {us : List Value}, bs.all AV.arg1 = true → RelL st bs us → RelL st' bs us
  | [], us, _, h => by simpa only [RelL] using h
  | b :: bs, us, hb, h => by
    simp only [List.all_cons, Bool.and_eq_true] at hb
    obtain ⟨u, us', rfl, h1, h2⟩ := h.uncons
    exact RelL.cons (arg1_rel hrd hb.1 h1) (arg1_relL hrd hb.2 h2)
theorem arg_rel {st st' : St} (hrd : ∀ b o n, st.rd b o = some (.int .i64 n) → st'.rd b o = some (.int .i64 n)) {a : AV} {v : Value} (ha : a.arg = true) (h : RelV st a v) : RelV st' a v := by
  unfold AV.arg at ha
  split at ha
  · simp only [RelV] at h ⊢
    obtain ⟨us, e1, e2, e3⟩ := h
    exact ⟨us, e1, arg1_relL hrd ha e2, e3⟩
  · exact arg1_rel hrd ha h
theorem arg_relL {st st' : St} (hrd : ∀ b o n, st.rd b o = some (.int .i64 n) → st'.rd b o = some (.int .i64 n)) : ∀ {bs : List AV} {us : List Value}, bs.all AV.arg = true → RelL st bs us → RelL st' bs us
  | [], us, _, h => by simpa only [RelL] using h
  | b :: bs, us, hb, h => by
    simp only [List.all_cons, Bool.and_eq_true] at hb
    obtain ⟨u, us', rfl, h1, h2⟩ := h.uncons
    exact RelL.cons (arg_rel hrd hb.1 h1) (arg_relL hrd hb.2 h2)
/-- The row's step: from the contract at the table of powers. -/
theorem law_step1 {H : Type} {enc : TypeId × Value → H} {P : Program} {fn : Func} {s : ChangeSpec} {f d : Nat} {tb : TypeId} {W : World} {base : Nat} {args : Array Value} {ds gs : List (DataW H)} {before : List MemPlace}
    {a : Nat} {o2 : Obj} (h2 : W.heap[a]? = some o2) (hno : ∀ o n, W.cell? ⟨a, o, none⟩ ≠ some (.int .i64 n))
    (hvars : s.vars = []) (hspec : ∀ ds : List (DataW H), ds.length = fn.params.size → s.fn H ds = { results := [.lit (.bool true)], args := ds }) (hl : laidOutB P = true) (hplain : fn.params.toList.all (plainT P d) = true)
    (hread : fn.params.toList.all (fun t => P.readableRec t && decide (t < P.types.size)) = true) (hres : fn.resultTypes = #[tb]) (htb : P.underlying tb = some .bool)
    (hcall : ∀ l, GoodArgs P d fn.params.toList l → l.all AV.arg = true ∧ ACalls P f l [.own 0 [], rawG 1 a o2] fun r H' => r = .lit (.bool true) ∧ H' = [.own 0 [], rawG 1 a o2])
    (hval : ∀ (j : Nat) t v, fn.params[j]? = some t → args[j]? = some v → Value.okWide P W .any base t v) (hW : DataW.Whole enc P fn.params.toList s.vars false W args.toList ds gs before) :
    Calls P f args W fun e W' => ∃ v, e = .returned v ∧ s.post enc P fn false true false false W args v W' := by
  have hW' := hW
  obtain ⟨p, q, hA, hV, rfl, hfz, hnd⟩ := hW
  rw [hvars] at hV
  obtain ⟨rfl, rfl⟩ := trodVars_none hV
  obtain ⟨l, h1, h5, h6⟩ := args_good hA hplain (fun j t v ht hv => hval j t v (by simpa using ht) (by simpa using hv))
  have hrel := stP_rel h2
  have hrd : ∀ x o n, (stW W).rd x o = some (.int .i64 n) → (stP W a).rd x o = some (.int .i64 n) := fun x o n hx => by
    simp only [stP]
    rw [if_neg]
    · exact hx
    · rintro rfl; exact hno o n (rdW_some hx).2
  obtain ⟨harg, hcl⟩ := hcall l h1
  have hc2 := hcl.2 (stP W a) W args.toList hrel (arg_relL hrd harg h5)
  simp only [Array.toArray_toList] at hc2
  refine hc2.mono fun e W' he => ?_
  obtain ⟨v, r, H', st', rfl, hext, hH', hr, rfl, rfl⟩ := he
  simp only [RelV] at hr; subst hr
  have hsame : ∀ i, i < W.heap.size → W'.heap[i]? = W.heap[i]? := fun i hi => by
    by_cases e2 : i = a
    · subst e2; exact (rawG_heap hH' (id := 1) rfl).trans h2.symm
    exact hext.frame i hi fun ho => e2 (stP_own ho)
  have hkept : ∀ may, W.keptBut W' may := fun may => ⟨hext.os, hext.output, fun i hi => by rw [hsame i hi]; split <;> simp_all⟩
  have hlt : ∀ x ∈ p ++ [], x.block < W.heap.size := fun x hx => hW'.lt x hx
  refine ⟨_, rfl, ds, [], p ++ [], [], p, [], hW', ?_, ?_, ?_, hkept _, fun h => by cases h⟩
  · rw [hspec _ (by rw [List.append_nil, h6]; simp), hres]
    exact trodAll_mk1 (shut_bool htb _)
  · rw [hspec _ (by rw [List.append_nil, h6]; simp)]
    simp only [List.append_nil]
    exact args_stay hl hsame hA hread (fun x hx => hlt x (by simp [hx]))
  · rw [hvars, hspec _ (by rw [List.append_nil, h6]; simp)]
    rfl
theorem returnsInHanded_of_change_shapedX {H : Type} {enc : TypeId × Value → H} {a : Assume} {C : Checked} {os : Os} {f : FuncId} {fn : Func} {s : ChangeSpec} {conds : List PathCond} {apart fresh handsOn again : Bool} {X : World → Array Value → Prop}
    (hX : ∀ (w w' : World) (args : Array Value), w.heap = w'.heap → X w args → X w' args)
    (own : ownKnob C.prog.godebug = none) (started : os.Started) (noInit : C.prog.inits.idxOf? f = none) (hfn : C.prog.funcs[f]? = some fn)
    (witness : ∃ (w : World) (tape : Tape) (i : Input), w.os = os ∧ (w.forCall tape i).Shaped C.prog ∧ i.vars = [] ∧ Input.okWide C.prog (w.forCall tape i) .any w.heap.size f i ∧
      ((s.pre enc C.prog fn conds apart (w.forCall tape i).memory i.args ∧ X (w.forCall tape i).memory i.args) ∧ sizedMet enc C.prog fn (OpenSpec.ofChange s) apart (w.forCall tape i).memory i.args) ∧ a.holds C.prog (lone (Frame.enter C.prog f i.args .normal) [] (w.forCall tape i)))
    (contract : ∀ (W : World) (base : Nat) (args : Array Value) (ds gs : List (DataW H)) (before : List MemPlace),
      (∀ (j : Nat) t v, fn.params[j]? = some t → args[j]? = some v → Value.okWide C.prog W .any base t v) →
      DataW.Whole enc C.prog fn.params.toList s.vars apart W args.toList ds gs before → W.ShapedOpen C.prog → X W args →
      Calls C.prog f args W fun e W' => ∃ v, e = .returned v ∧ s.post enc C.prog fn apart fresh handsOn again W args v W') :
    ReturnsInHanded a C os f .any (fun w args => (s.pre enc C.prog fn conds apart w args ∧ X w args) ∧ sizedMet enc C.prog fn (OpenSpec.ofChange s) apart w args) (s.post enc C.prog fn apart fresh handsOn again) := by
  refine returnsInHanded_of_calls own started noInit witness ?_
  intro w tape i _ hsh _ hok hpre _
  obtain ⟨_, _, _, fn', hfn', _, _, _, _, hval⟩ := hok
  obtain rfl : fn' = fn := Option.some.inj (hfn'.symm.trans hfn)
  obtain ⟨⟨⟨ds, gs, before, hw, _⟩, hx⟩, _⟩ := hpre
  refine (contract (w.forCall tape i) w.heap.size i.args ds gs before hval (DataW.Whole.of_heap (w' := w.forCall tape i) (by rfl) hw) hsh (hX _ _ _ (by rfl) hx)).mono fun e W' ⟨v, he, hp⟩ => ?_
  subst he
  exact ChangeSpec.post_blind hp
theorem tab_of_var {P : Program} {w : World} {g : Nat} (hg : P.globalNamed "internal/strconv.uint64pow10" = some g) (h : Lib.TabIs P w "internal/strconv.uint64pow10" .u64 Lib.pow10Tab) : ∃ ob, w.heap[g]? = some ob ∧ TabOb ob ∧ ∀ o n, w.cell? ⟨g, o, none⟩ ≠ some (.int .i64 n) := by
  unfold Lib.TabIs World.var? at h
  rw [hg, Option.bind_some] at h
  split at h
  · rename_i cs T fz hh
    cases h
    refine ⟨_, hh, ⟨T, fz, rfl⟩, fun o n hcell => ?_⟩
    simp only [World.cell?, hh] at hcell
    have := Array.mem_of_getElem? hcell
    simp at this
  · cases h
end Go.Sas
