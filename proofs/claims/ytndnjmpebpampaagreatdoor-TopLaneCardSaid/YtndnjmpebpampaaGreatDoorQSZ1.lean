/-
From a contract where the cells of a variable that nobody writes are known to the row of a law that answers true.
Conditions: none.
-/
import Derived.Test.YtndnjmpebpampaaGreatDoorWG
import Derived.Test.YtndnjmpebpampaaGreatDoorP5
import Derived.LaidMore
import Derived.LaidSub
import Derived.Lib.LaidTab
set_option linter.unusedVariables false
set_option linter.unusedSimpArgs false
namespace Go.Sas
open Go.ChangeShapes Go.WideShapes Go.ChangeAt Go.RowKit
/-- what is known at the start: all cells -/
def stP (W : World) : St := ⟨rdW W, [⟨0, none⟩]⟩
theorem stP_own {W : World} {x : Nat} : ¬ Owned (stP W) x := by
  rintro ⟨id, l, o, r, hl, hb⟩
  match id, hl with
  | 0, hl => simp [stP] at hl; subst hl; cases hb
  | id + 1, hl => simp [stP] at hl
theorem stP_rel {W : World} {g : Nat} {us : List Value} (hus : ∀ u ∈ us, Scal u) (hc : ∀ i c, us[i]? = some c → W.cell? ⟨g, i, none⟩ = some c) : RelH (stP W) W [rawC g us] := by
  refine ⟨rfl, fun x o v hv => ⟨(rdW_some hv).1, (rdW_some hv).2, stP_own⟩, fun id l X hl hX => ?_, fun id id' l l' x o r o' r' h1 h2 h3 h4 => ?_⟩
  · match id, hl, hX with
    | 0, hl, hX =>
      simp [stP] at hl hX; subst hl hX
      refine ⟨rfl, RelL.cons ?_ RelL.nil, .inr ⟨rfl, rfl⟩⟩
      simp only [RelV]
      exact ⟨g, 0, us, rfl, RelL.lits _, fun i c hi => by rw [Nat.zero_add]; exact rdW_of (hus c (List.mem_of_getElem? hi)) (hc i c hi)⟩
    | id + 1, hl, hX => simp [stP] at hl
  · match id, h1 with
    | 0, h1 => simp [stP] at h1; subst h1; cases h3
    | id + 1, h1 => simp [stP] at h1
/-- The row's step: from the contract where these cells are known. -/
theorem law_stepP {H : Type} {enc : TypeId × Value → H} {P : Program} {fn : Func} {s : ChangeSpec} {f d : Nat} {tb : TypeId} {W : World} {base : Nat} {args : Array Value} {ds gs : List (DataW H)} {before : List MemPlace}
    {g : Nat} {us : List Value} (hus : ∀ u ∈ us, Scal u) (hcell : ∀ i c, us[i]? = some c → W.cell? ⟨g, i, none⟩ = some c)
    (hvars : s.vars = []) (hspec : ∀ ds : List (DataW H), ds.length = fn.params.size → s.fn H ds = { results := [.lit (.bool true)], args := ds }) (hl : laidOutB P = true) (hplain : fn.params.toList.all (plainT P d) = true)
    (hread : fn.params.toList.all (fun t => P.readableRec t && decide (t < P.types.size)) = true) (hres : fn.resultTypes = #[tb]) (htb : P.underlying tb = some .bool)
    (hcall : ∀ l, GoodArgs P d fn.params.toList l → ACalls P f l [rawC g us] fun r _ => r = .lit (.bool true))
    (hval : ∀ (j : Nat) t v, fn.params[j]? = some t → args[j]? = some v → Value.okWide P W .any base t v) (hW : DataW.Whole enc P fn.params.toList s.vars false W args.toList ds gs before) :
    Calls P f args W fun e W' => ∃ v, e = .returned v ∧ s.post enc P fn false true false false W args v W' := by
  have hW' := hW
  obtain ⟨p, q, hA, hV, rfl, hfz, hnd⟩ := hW
  rw [hvars] at hV
  obtain ⟨rfl, rfl⟩ := trodVars_none hV
  obtain ⟨l0, h1, h2, h3⟩ := args_good hA hplain (fun j t v ht hv => hval j t v (by simpa using ht) (by simpa using hv))
  have hle : (stW W).le (stP W) := ⟨fun _ _ _ h => h, fun id l hl => by simp [stW] at hl⟩
  have hc := (hcall l0 h1).2 (stP W) W args.toList (stP_rel hus hcell) (h2.mono hle)
  simp only [Array.toArray_toList] at hc
  refine hc.mono fun e W' he => ?_
  obtain ⟨v, r, H', st', rfl, hext, hH', hr, rfl⟩ := he
  simp only [RelV] at hr; subst hr
  have hsame : ∀ i, i < W.heap.size → W'.heap[i]? = W.heap[i]? := fun i hi => hext.frame i hi stP_own
  have hkept : ∀ may, W.keptBut W' may := fun may => ⟨hext.os, hext.output, fun i hi => by rw [hsame i hi]; split <;> simp_all⟩
  have hlt : ∀ x ∈ p ++ [], x.block < W.heap.size := fun x hx => hW'.lt x hx
  refine ⟨_, rfl, ds, [], p ++ [], [], p, [], hW', ?_, ?_, ?_, hkept _, fun h => by cases h⟩
  · rw [hspec _ (by rw [List.append_nil, h3]; simp), hres]
    exact trodAll_mk1 (shut_bool htb _)
  · rw [hspec _ (by rw [List.append_nil, h3]; simp)]
    simp only [List.append_nil]
    exact args_stay hl hsame hA hread (fun x hx => hlt x (by simp [hx]))
  · rw [hvars, hspec _ (by rw [List.append_nil, h3]; simp)]
    rfl
theorem returnsInHanded_of_change_shapedX {H : Type} {enc : TypeId × Value → H} {a : Assume} {C : Checked} {os : Os} {f : FuncId} {fn : Func} {s : ChangeSpec} {conds : List PathCond} {apart fresh handsOn again : Bool} {X : World → Array Value → Prop}
    (hX : ∀ (w w' : World) (args : Array Value), w.heap = w'.heap → X w args → X w' args)
    (own : ownKnob C.prog.godebug = none) (started : os.Started) (noInit : C.prog.inits.idxOf? f = none) (hfn : C.prog.funcs[f]? = some fn)
    (witness : ∃ (w : World) (tape : Tape) (i : Input), w.os = os ∧ (w.forCall tape i).Shaped C.prog ∧ i.vars = [] ∧ Input.okWide C.prog (w.forCall tape i) .any w.heap.size f i ∧
      ((s.pre enc C.prog fn conds apart (w.forCall tape i).memory i.args ∧ X (w.forCall tape i).memory i.args) ∧ sizedMet enc C.prog fn (OpenSpec.ofChange s) apart (w.forCall tape i).memory i.args) ∧ a.holds C.prog (lone (Frame.enter C.prog f i.args .normal) [] (w.forCall tape i)))
    (contract : ∀ (W : World) (base : Nat) (args : Array Value) (ds gs : List (DataW H)) (before : List MemPlace),
      (∀ (j : Nat) t v, fn.params[j]? = some t → args[j]? = some v → Value.okWide C.prog W .any base t v) →
      DataW.Whole enc C.prog fn.params.toList s.vars apart W args.toList ds gs before → W.ShapedOpen C.prog → X W args →
      Calls C.prog f args W fun e W' => ∃ v, e = .returned v ∧ s.post enc C.prog fn apart fresh handsOn again W args v W') :
    ReturnsInHanded a C os f .any (fun w args => (s.pre enc C.prog fn conds apart w args ∧ X w args) ∧ sizedMet enc C.prog fn (OpenSpec.ofChange s) apart w args) (s.post enc C.prog fn apart fresh handsOn again) := by
  refine returnsInHanded_of_calls own started noInit witness ?_
  intro w tape i _ hsh _ hok hpre _
  obtain ⟨_, _, _, fn', hfn', _, _, _, _, hval⟩ := hok
  obtain rfl : fn' = fn := Option.some.inj (hfn'.symm.trans hfn)
  obtain ⟨⟨⟨ds, gs, before, hw, _⟩, hx⟩, _⟩ := hpre
  refine (contract (w.forCall tape i) w.heap.size i.args ds gs before hval (DataW.Whole.of_heap (w' := w.forCall tape i) (by rfl) hw) hsh (hX _ _ _ (by rfl) hx)).mono fun e W' ⟨v, he, hp⟩ => ?_
  subst he
  exact ChangeSpec.post_blind hp
/-- an array of arrays of integers as a row lists it -/
def tabData2 {H : Type} (k : IntKind) (zss : List (List Int)) : DataW H := .agg (zss.map fun zs => Lib.tabData k zs)
theorem cells_of_tab2 {H : Type} {enc : TypeId × Value → H} {P : Program} {w : World} {base : Nat} {sp : Nat → Bool} {held : Bool} {fuel : Nat} {t e i : TypeId} {n n2 : Nat} {k : IntKind} {cs : List Value} {zss : List (List Int)} {p : List MemPlace}
    (ht : P.underlying t = some (.array n e)) (he : P.underlying e = some (.array n2 i)) (hi : P.underlying i = some (.int k)) (hci : P.cellsOf i = 1) (hce : P.cellsOf e = n2) (hct : P.cellsOf t = n * n2)
    (h : DataW.trod enc P w base sp held fuel t cs = some (tabData2 k zss, p)) : ∀ (a : Nat) (zs : List Int), zss[a]? = some zs → (cs.drop (a * n2)).take n2 = zs.map fun z => Value.int k z := by
  cases fuel with
  | zero => simp [DataW.trod] at h
  | succ fuel =>
    simp only [DataW.trod, ht, hce, hct] at h
    split at h
    · rename_i hl
      obtain ⟨xs, hm, hx⟩ := Option.map_eq_some_iff.1 h
      have hxs : xs.map (·.1) = zss.map fun zs => (Lib.tabData k zs : DataW H) := by
        have := congrArg Prod.fst hx
        simpa [tabData2] using this
      have hxl : xs.length = n := by simpa using Lib.mapM_length hm
      have hzl : zss.length = n := by
        have := congrArg List.length hxs
        simp at this
        omega
      intro a zs ha
      have han : a < n := by have := (List.getElem?_eq_some_iff.1 ha).1; omega
      obtain ⟨b, hb, hf⟩ := Lib.mapM_at hm a a (by simp [han])
      have h2 : (xs.map (·.1))[a]? = some b.1 := by simp [hb]
      rw [hxs] at h2
      simp only [List.getElem?_map, ha, Option.map_some, Option.some.injEq] at h2
      obtain ⟨b1, b2⟩ := b
      simp only at h2
      subst h2
      exact Lib.cells_of_tab he hi hci hce hf
    · cases h
theorem laid_cells {P : Program} {W : World} {name : String} {k : IntKind} {zss : List (List Int)} {rest : List (String × DataW Unit)} {g : Nat} {t e i : TypeId} {n n2 : Nat}
    (hg : P.globalNamed name = some g) (hty : (P.globals[g]?).map (·.type) = some t) (ht : P.underlying t = some (.array n e)) (he : P.underlying e = some (.array n2 i)) (hi : P.underlying i = some (.int k)) (hci : P.cellsOf i = 1) (hce : P.cellsOf e = n2) (hct : P.cellsOf t = n * n2)
    (h : laidMet P ((name, tabData2 k zss) :: rest) W) : ∀ (a : Nat) (zs : List Int), zss[a]? = some zs → ∀ (b : Nat) (z : Int), b < n2 → zs[b]? = some z → W.cell? ⟨g, a * n2 + b, none⟩ = some (.int k z) := by
  obtain ⟨ps, ⟨g', t', cs, fuel, p, q, hg', ht', hvar, hd, _, _⟩, _⟩ := h
  obtain rfl := Option.some.inj (hg.symm.trans hg')
  obtain rfl := Option.some.inj (hty.symm.trans ht')
  intro a zs ha b z hb hz
  have h1 := cells_of_tab2 ht he hi hci hce hct hd a zs ha
  have h2 : (cs.toList)[a * n2 + b]? = some (.int k z) := by
    have h3 : ((cs.toList.drop (a * n2)).take n2)[b]? = some (.int k z) := by rw [h1]; simp [hz]
    rw [List.getElem?_take_of_lt hb, List.getElem?_drop] at h3
    exact h3
  have h4 := World.var?_cell hg hvar (a * n2 + b)
  rw [h4]
  simpa using h2
end Go.Sas
