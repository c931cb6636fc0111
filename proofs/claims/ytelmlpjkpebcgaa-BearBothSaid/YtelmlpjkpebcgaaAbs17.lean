/-
An abstract machine over values, part 17: from a contract to the row of a law that answers true.
Conditions: none (lemmas over any program).
-/
import Derived.Test.YtelmlpjkpebcgaaAbs16
import Derived.ProofKit
import Derived.OpenShut
import Derived.ChangeOld
import Derived.Below
import Derived.Carry
set_option linter.unusedVariables false
set_option linter.unusedSimpArgs false
namespace Go.Sas
open Go.ChangeShapes Go.WideShapes Go.ChangeAt Go.RowKit

theorem notAgg {P : Program} {W : World} {r : Reach} {base : Nat} {t : TypeId} {v : Value} (h : Value.okWide P W r base t v) (hu : P.underlying t = some .bool ∨ (∃ k, P.underlying t = some (.int k)) ∨ P.underlying t = some .string ∨ ∃ e, P.underlying t = some (.slice e)) : v.cells = #[v] := by
  rcases hu with hu | ⟨k, hu⟩ | hu | ⟨e, hu⟩ <;> simp only [Value.okWide, hu, Cell.okWide] at h <;> cases v <;> simp_all [Cell.ok, Value.cells]

theorem arg_good {H : Type} {enc : TypeId × Value → H} {P : Program} {W : World} {b0 base d : Nat} {spare : Nat → Bool} {held : Bool} {t : TypeId} {v : Value} {dd : DataW H} {ps : List MemPlace} {r : Reach}
    (h : DataW.Trod enc P W base spare held t v dd ps) (hp : plainT P d t = true) (hok : Value.okWide P W r b0 t v) : ∃ cs, Good P d t cs ∧ RelV (stW W) (mkE P t cs) v := by
  obtain ⟨fuel, hf⟩ := h
  obtain ⟨as, h1, h2, h3⟩ := trod_good fuel d hf hp
  refine ⟨as, h3, ?_⟩
  have one : ∀ {a : AV}, v.cells = #[v] → as = [a] → mkE P t as = a → RelV (stW W) (mkE P t as) v := by
    intro a hv ha hm
    subst ha
    rw [hv] at h1
    obtain ⟨u, us', hu, h4, _⟩ := h1.uncons
    simp at hu
    rw [hm, hu.1]; exact h4
  cases d with
  | zero => simp [plainT] at hp
  | succ d =>
    simp only [Good] at h3
    split at h3
    · rename_i hu; obtain ⟨b, hb⟩ := h3; exact one (notAgg hok (.inl hu)) hb (by simp [mkE, hu, hb])
    · rename_i k hu; obtain ⟨n, hb, _⟩ := h3; exact one (notAgg hok (.inr (.inl ⟨k, hu⟩))) hb (by simp [mkE, hu, hb])
    · rename_i hu; obtain ⟨s, hb, _⟩ := h3; exact one (notAgg hok (.inr (.inr (.inl hu)))) hb (by simp [mkE, hu, hb])
    · rename_i e hu; obtain ⟨css, hb, _⟩ := h3; exact one (notAgg hok (.inr (.inr (.inr ⟨e, hu⟩)))) hb (by simp [mkE, hu, hb])
    · rename_i fs hu
      obtain ⟨cs, rfl, _⟩ := okWide_struct hu hok
      simp only [mkE, hu, RelV]
      exact ⟨cs, rfl, by simpa [Value.cells] using h1, by simpa [Value.cells] using h2⟩
    · exact h3.elim

/-- the arguments, by their types -/
def GoodArgs (P : Program) (d : Nat) : List TypeId → List AV → Prop
  | [], as => as = []
  | t :: ts, as => ∃ cs as', as = mkE P t cs :: as' ∧ Good P d t cs ∧ GoodArgs P d ts as'

theorem args_good {H : Type} {enc : TypeId × Value → H} {P : Program} {W : World} {b0 base d : Nat} {spare : Nat → Bool} {held : Bool} {r : Reach} : ∀ {ts : List TypeId} {vs : List Value} {ds : List (DataW H)} {ps : List MemPlace},
    DataW.TrodAll enc P W base spare held ts vs ds ps → ts.all (plainT P d) = true → (∀ (j : Nat) t v, ts[j]? = some t → vs[j]? = some v → Value.okWide P W r b0 t v) → ∃ as, GoodArgs P d ts as ∧ RelL (stW W) as vs ∧ ds.length = ts.length
  | [], vs, ds, ps, h, _, _ => by
    obtain ⟨rfl, rfl, _⟩ := trodAll_nil h
    exact ⟨[], rfl, RelL.nil, rfl⟩
  | t :: ts, vs, ds, ps, h, hp, hok => by
    obtain ⟨v, vs', d1, ds', p, q, rfl, rfl, rfl, h1, h2⟩ := trodAll_cons h
    simp only [List.all_cons, Bool.and_eq_true] at hp
    obtain ⟨cs, g1, g2⟩ := arg_good h1 hp.1 (hok 0 t v rfl rfl)
    obtain ⟨as, f1, f2, f3⟩ := args_good h2 hp.2 (fun j t v ht hv => hok (j + 1) t v (by simpa using ht) (by simpa using hv))
    exact ⟨mkE P t cs :: as, ⟨cs, as, rfl, g1, f1⟩, RelL.cons g2 f2, by simp [f3]⟩

theorem args_stay {H : Type} {enc : TypeId × Value → H} {P : Program} {W W' : World} (hl : laidOutB P = true) (hsame : ∀ i, i < W.heap.size → W'.heap[i]? = W.heap[i]?) : ∀ {ts : List TypeId} {vs : List Value} {ds : List (DataW H)} {ps : List MemPlace},
    DataW.TrodAll enc P W 0 (fun _ => true) true ts vs ds ps → ts.all (fun t => P.readableRec t && decide (t < P.types.size)) = true → (∀ x ∈ ps, x.block < W.heap.size) →
    DataW.TrodAll enc P W' 0 (fun b => decide (b < W.heap.size)) true ts vs ds ps
  | [], vs, ds, ps, h, _, _ => by
    obtain ⟨rfl, rfl, rfl⟩ := trodAll_nil h
    exact trodAll_mk0
  | t :: ts, vs, ds, ps, h, hp, hlt => by
    obtain ⟨v, vs', d1, ds', p, q, rfl, rfl, rfl, h1, h2⟩ := trodAll_cons h
    simp only [List.all_cons, Bool.and_eq_true, decide_eq_true_eq] at hp
    refine trodAll_cons_mk (WideElems.Trod_stays hl hp.1.1 hp.1.2 h1 (fun x hx => ?_) (fun x hx => by simpa using hlt x (by simp [hx]))) (args_stay hl hsame h2 hp.2 fun x hx => hlt x (by simp [hx]))
    have hb := hlt x (by simp [hx])
    cases x with
    | cell b o => exact World.cell?_of_block (w := W) (hsame b hb)
    | map b => exact hsame b hb

/-- The row's step: from the contract. -/
theorem law_step {H : Type} {enc : TypeId × Value → H} {P : Program} {fn : Func} {s : ChangeSpec} {f d : Nat} {tb : TypeId} {W : World} {base : Nat} {args : Array Value} {ds gs : List (DataW H)} {before : List MemPlace}
    (hvars : s.vars = []) (hspec : ∀ ds : List (DataW H), ds.length = fn.params.size → s.fn H ds = { results := [.lit (.bool true)], args := ds }) (hl : laidOutB P = true) (hplain : fn.params.toList.all (plainT P d) = true)
    (hread : fn.params.toList.all (fun t => P.readableRec t && decide (t < P.types.size)) = true) (hres : fn.resultTypes = #[tb]) (htb : P.underlying tb = some .bool)
    (hcall : ∀ as, GoodArgs P d fn.params.toList as → ACalls P f as [] fun r _ => r = .lit (.bool true))
    (hval : ∀ (j : Nat) t v, fn.params[j]? = some t → args[j]? = some v → Value.okWide P W .any base t v) (hW : DataW.Whole enc P fn.params.toList s.vars false W args.toList ds gs before) :
    Calls P f args W fun e W' => ∃ v, e = .returned v ∧ s.post enc P fn false true false false W args v W' := by
  have hW' := hW
  obtain ⟨p, q, hA, hV, rfl, hfz, hnd⟩ := hW
  rw [hvars] at hV
  obtain ⟨rfl, rfl⟩ := trodVars_none hV
  obtain ⟨as, h1, h2, h3⟩ := args_good hA hplain (fun j t v ht hv => hval j t v (by simpa using ht) (by simpa using hv))
  have hc := (hcall as h1).2 (stW W) W args.toList (stW_rel W) h2
  simp only [Array.toArray_toList] at hc
  refine hc.mono fun e W' he => ?_
  obtain ⟨v, r, H', st', rfl, hext, hH', hr, rfl⟩ := he
  simp only [RelV] at hr; subst hr
  have hno : ∀ b, ¬ Owned (stW W) b := by
    rintro b ⟨id, l, o, r, hl, _⟩
    simp [stW] at hl
  have hsame : ∀ i, i < W.heap.size → W'.heap[i]? = W.heap[i]? := fun i hi => hext.frame i hi (hno i)
  have hkept : ∀ may, W.keptBut W' may := fun may => ⟨hext.os, hext.output, fun i hi => by rw [hsame i hi]; split <;> simp_all⟩
  have hlt : ∀ x ∈ p ++ [], x.block < W.heap.size := fun x hx => hW'.lt x hx
  refine ⟨_, rfl, ds, [], p ++ [], [], p, [], hW', ?_, ?_, ?_, hkept _, fun h => by cases h⟩
  · rw [hspec _ (by rw [List.append_nil, h3]; simp), hres]
    exact trodAll_mk1 (shut_bool htb _)
  · rw [hspec _ (by rw [List.append_nil, h3]; simp)]
    simp only [List.append_nil]
    exact args_stay hl hsame hA hread (fun x hx => hlt x (by simp [hx]))
  · rw [hvars, hspec _ (by rw [List.append_nil, h3]; simp)]
    rfl
end Go.Sas
