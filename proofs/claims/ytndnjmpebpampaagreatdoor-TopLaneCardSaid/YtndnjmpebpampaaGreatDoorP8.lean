/-
An abstract machine over values, part 25: a function that writes nothing may be handed rows that are written to elsewhere.
An abstract machine over values, part 26: a copy of a row that is written to, which nobody writes any more.
An abstract machine over values, part 21: a run by reckoning. A function is run on the abstract machine by a plain function of Lean with fuel, and what it yields is what the function yields.
Conditions: none.
-/
import Derived.Test.YtndnjmpebpampaaGreatDoorP7
import Derived.Test.YtndnjmpebpampaaGreatDoorP6
set_option linter.unusedVariables false
set_option linter.unusedSimpArgs false
namespace Go.Sas
/-- all that the world holds now, seen as fixed -/
noncomputable def allS (w : World) : St := ⟨fun b o => match w.cell? ⟨b, o, none⟩ with
  | some c => (open Classical in if Scal c then some c else none)
  | none => none, []⟩
theorem allS_rd {w : World} {b o : Nat} {c : Value} (h : w.cell? ⟨b, o, none⟩ = some c) (hs : Scal c) : (allS w).rd b o = some c := by
  simp only [allS, h, if_pos hs]
theorem allS_of {w : World} {b o : Nat} {c : Value} (h : (allS w).rd b o = some c) : Scal c ∧ w.cell? ⟨b, o, none⟩ = some c := by
  simp only [allS] at h
  split at h
  · rename_i c2 h2
    split at h
    · rename_i hs; cases h; exact ⟨hs, h2⟩
    · cases h
  · cases h
theorem RelH.allS (w : World) : RelH (allS w) w [] :=
  ⟨rfl, fun b o c h => ⟨(allS_of h).1, (allS_of h).2, fun ⟨id, l, _, _, h1, _⟩ => by simp [Go.Sas.allS] at h1⟩, fun id l X h => by simp [Go.Sas.allS] at h, fun id _ l _ _ _ _ _ _ h => by simp [Go.Sas.allS] at h⟩
theorem RelH.rdAll {st : St} {w : World} {H : AHeap} (h : RelH st w H) : ∀ b o c, st.rd b o = some c → (Go.Sas.allS w).rd b o = some c :=
  fun b o c hc => allS_rd (h.rd b o c hc).2.1 (h.rd b o c hc).1
/-- how a value looks where nothing is written -/
def Vw (H : AHeap) (a a' : AV) : Prop := ∀ st w v, RelH st w H → RelV st a v → RelV (allS w) a' v
def VwL (H : AHeap) (as as' : List AV) : Prop := ∀ st w vs, RelH st w H → RelL st as vs → RelL (allS w) as' vs
theorem Vw.nid {H : AHeap} {a : AV} (h : a.nid = true) : Vw H a a := fun _ _ _ hH hv => RelV.nid hH.rdAll h hv
theorem VwL.nil {H : AHeap} : VwL H [] [] := fun _ _ _ _ hv => by simpa only [RelL] using hv
theorem VwL.cons {H : AHeap} {a a' : AV} {as as' : List AV} (h : Vw H a a') (hs : VwL H as as') : VwL H (a :: as) (a' :: as') := fun st w vs hH hv => by
  obtain ⟨u, us', rfl, h2, h3⟩ := hv.uncons
  exact RelL.cons (h st w u hH h2) (hs st w us' hH h3)
theorem Vw.agg {H : AHeap} {as as' : List AV} (h : VwL H as as') : Vw H (.agg as) (.agg as') := fun st w v hH hv => by
  simp only [RelV] at hv ⊢
  obtain ⟨us, h1, h2, h3⟩ := hv
  exact ⟨us, h1, h st w _ hH h2, h3⟩
theorem Vw.ms {H : AHeap} {sz id g len : Nat} {cs xs : List AV} (hX : H[id]? = some (.own g cs)) (hE : Elems sz xs cs) (hl : xs.length = len) : Vw H (.ms sz id g 0 len) (.vs sz xs) := fun st w v hH hv => by
  obtain ⟨st', h1, h2, h3⟩ := freezeAll hH hX hE
  have h4 := h3 _ _ hv
  rw [frz_self hl] at h4
  exact RelV.nid h2.rdAll (by simp [AV.nid]) h4
/-- plain values -/
def AV.pl1 : AV → Bool
  | .lit _ => true
  | _ => false
def AV.pl2 : AV → Bool
  | .agg cs => cs.all AV.pl1
  | a => a.pl1
def AV.pl : AV → Bool
  | .tup cs => cs.all AV.pl2
  | a => a.pl2
theorem RelV.pl1 {st st' : St} {a : AV} {v : Value} (h : a.pl1 = true) (hv : RelV st a v) : RelV st' a v := by
  cases a <;> simp [AV.pl1] at h
  simpa only [RelV] using hv
theorem RelL.pl1 {st st' : St} : ∀ {as : List AV} {us : List Value}, as.all AV.pl1 = true → RelL st as us → RelL st' as us
  | [], _, _, h => by simpa only [RelL] using h
  | a :: as, us, hp, h => by
    simp only [List.all_cons, Bool.and_eq_true] at hp
    obtain ⟨u, us', rfl, h2, h3⟩ := h.uncons
    exact RelL.cons (h2.pl1 hp.1) (RelL.pl1 hp.2 h3)
theorem RelV.pl2 {st st' : St} {a : AV} {v : Value} (h : a.pl2 = true) (hv : RelV st a v) : RelV st' a v := by
  cases a <;> simp only [AV.pl2] at h <;> try exact hv.pl1 h
  simp only [RelV] at hv ⊢
  obtain ⟨us, h1, h2, h3⟩ := hv
  exact ⟨us, h1, RelL.pl1 h h2, h3⟩
theorem RelL.pl2 {st st' : St} : ∀ {as : List AV} {us : List Value}, as.all AV.pl2 = true → RelL st as us → RelL st' as us
  | [], _, _, h => by simpa only [RelL] using h
  | a :: as, us, hp, h => by
    simp only [List.all_cons, Bool.and_eq_true] at hp
    obtain ⟨u, us', rfl, h2, h3⟩ := h.uncons
    exact RelL.cons (h2.pl2 hp.1) (RelL.pl2 hp.2 h3)
theorem RelV.pl {st st' : St} {a : AV} {v : Value} (h : a.pl = true) (hv : RelV st a v) : RelV st' a v := by
  cases a <;> simp only [AV.pl] at h <;> try exact hv.pl2 h
  simp only [RelV] at hv ⊢
  obtain ⟨us, h1, h2⟩ := hv
  exact ⟨us, h1, RelL.pl2 h h2⟩
theorem cell_old {w w' : World} {b o : Nat} {c : Value} (h : w.cell? ⟨b, o, none⟩ = some c) (hf : ∀ b, b < w.heap.size → w'.heap[b]? = w.heap[b]?) : w'.cell? ⟨b, o, none⟩ = some c := by
  have hb : b < w.heap.size := by
    rcases Nat.lt_or_ge b w.heap.size with h1 | h1
    · exact h1
    · simp [World.cell?, Array.getElem?_eq_none h1] at h
  unfold World.cell? at h ⊢
  simp only at h ⊢
  rw [hf b hb]
  exact h
theorem ACalls.thaw {P : Program} {f : Nat} {args args' : List AV} {H : AHeap} {Q : AV → Prop} (h : ACalls P f args' [] fun r _ => r.pl = true ∧ Q r) (hv : VwL H args args') {Kk : AV → AHeap → Prop} (hk : ∀ r, Q r → Kk r H) : ACalls P f args H Kk := by
  refine ⟨h.1, fun st w vals hH hr => (h.2 (allS w) w vals (RelH.allS w) (hv st w vals hH hr)).mono fun x w' ⟨v, r, H', s', e1, e2, e3, e4, e5, e6⟩ => ?_⟩
  have hno : ∀ b, ¬ Owned (allS w) b := fun b ⟨id, l, _, _, h1, _⟩ => by simp [allS] at h1
  have hfr : ∀ b, b < w.heap.size → w'.heap[b]? = w.heap[b]? := fun b hb => e2.frame b hb (hno b)
  have hfr2 : ∀ {b : Nat} {X : Obj}, w.heap[b]? = some X → w'.heap[b]? = some X := fun {b X} hX => by
    have hb : b < w.heap.size := (Array.getElem?_eq_some_iff.1 hX).1
    rw [hfr b hb]; exact hX
  refine ⟨v, r, H, st, e1, ⟨.refl _, e2.size, fun b hb _ => hfr b hb, fun b hb => .inl hb, e2.os, e2.output, fun b o c hc => .inl hc⟩, ⟨hH.len, fun b o c hc => ⟨(hH.rd b o c hc).1, cell_old (hH.rd b o c hc).2.1 hfr, (hH.rd b o c hc).2.2⟩, fun id l X hl hX => ?_, hH.inj⟩, e4.pl e5, hk r e6⟩
  have h7 := hH.obj id l X hl hX
  cases X with
  | gone => exact h7
  | own g cs =>
    refine ⟨h7.1, fun b o r hb => ?_⟩
    obtain ⟨arr, T, us, f1, f2⟩ := h7.2 b o r hb
    exact ⟨arr, T, us, hfr2 f1, f2⟩
  | raw g ob es us =>
    obtain ⟨h8, h9, ⟨b, o, r, h10, h11⟩ | h10⟩ := h7
    · exact ⟨h8, h9, .inl ⟨b, o, r, h10, hfr2 h11⟩⟩
    · exact ⟨h8, h9, .inr h10⟩
/-! ### Entries of tables -/
/-- what is to be shown of an argument -/
def vwP (H : AHeap) (k : AV → Prop) (a : AV) : Prop := match a with
  | .ms sz id g 0 len => (match H[id]? with
    | some (.own g' cs) => ∃ xs, (g' = g ∧ Elems sz xs cs ∧ xs.length = len) ∧ k (.vs sz xs)
    | _ => False)
  | a => match a.nid with
    | true => k a
    | false => False
def vwPL (H : AHeap) (k : List AV → Prop) (as : List AV) : Prop := match as with
  | [] => k []
  | a :: as => vwP H (fun a' => vwPL H (fun as' => k (a' :: as')) as) a
def vwQ (H : AHeap) (k : AV → Prop) (a : AV) : Prop := match a with
  | .agg cs => (match AV.nidL cs with
    | true => k (.agg cs)
    | false => vwPL H (fun cs' => k (.agg cs')) cs)
  | a => vwP H k a
def vwQL (H : AHeap) (k : List AV → Prop) (as : List AV) : Prop := match as with
  | [] => k []
  | a :: as => vwQ H (fun a' => vwQL H (fun as' => k (a' :: as')) as) a
theorem vwP_ok {H : AHeap} {a : AV} {k : AV → Prop} (h : vwP H k a) : ∃ a', Vw H a a' ∧ k a' := by
  unfold vwP at h
  split at h
  · rename_i sz id g len
    split at h
    · rename_i g' cs hX
      obtain ⟨xs, ⟨rfl, h1, h2⟩, h3⟩ := h
      exact ⟨_, Vw.ms hX h1 h2, h3⟩
    · exact h.elim
  · split at h
    · rename_i hn; exact ⟨_, Vw.nid hn, h⟩
    · exact h.elim
theorem vwPL_ok {H : AHeap} : ∀ {as : List AV} {k : List AV → Prop}, vwPL H k as → ∃ as', VwL H as as' ∧ k as'
  | [], k, h => ⟨[], VwL.nil, h⟩
  | a :: as, k, h => by
    obtain ⟨a', h1, h2⟩ := vwP_ok (show vwP H _ a from h)
    obtain ⟨as', h3, h4⟩ := vwPL_ok h2
    exact ⟨_, VwL.cons h1 h3, h4⟩
theorem vwQ_ok {H : AHeap} {a : AV} {k : AV → Prop} (h : vwQ H k a) : ∃ a', Vw H a a' ∧ k a' := by
  unfold vwQ at h
  split at h
  · split at h
    · rename_i cs hn; exact ⟨_, Vw.nid (by simpa [AV.nid] using hn), h⟩
    · obtain ⟨as', h3, h4⟩ := vwPL_ok h
      exact ⟨_, Vw.agg h3, h4⟩
  · exact vwP_ok h
theorem vwQL_ok {H : AHeap} : ∀ {as : List AV} {k : List AV → Prop}, vwQL H k as → ∃ as', VwL H as as' ∧ k as'
  | [], k, h => ⟨[], VwL.nil, h⟩
  | a :: as, k, h => by
    obtain ⟨a', h1, h2⟩ := vwQ_ok (show vwQ H _ a from h)
    obtain ⟨as', h3, h4⟩ := vwQL_ok h2
    exact ⟨_, VwL.cons h1 h3, h4⟩
/-- an entry of a function that writes nothing, for arguments that are written to elsewhere -/
def eMut (e : List AV → Option ((AV → Prop) → Prop)) : List AV → AHeap → Option PT := fun args H => some fun K => vwQL H (fun args' => match e args' with
  | some pt => pt fun r => match r.pl with
    | true => K r H
    | false => False
  | none => False) args
theorem eMut_ok {P : Program} {f : Nat} {e : List AV → Option ((AV → Prop) → Prop)} (he : ∀ args pt, e args = some pt → ∀ (H : AHeap) (Kk : AV → AHeap → Prop), pt (fun r => Kk r H) → ACalls P f args H Kk) :
    ∀ args H pt, eMut e args H = some pt → ∀ (Kk : AV → AHeap → Prop), pt Kk → ACalls P f args H Kk := by
  intro args H pt h Kk hk
  cases h
  obtain ⟨args', h1, h2⟩ := vwQL_ok hk
  split at h2
  · rename_i pt2 hp
    refine ACalls.thaw (Q := fun r => Kk r H) (args' := args') ?_ h1 (fun r h => h)
    refine he _ _ hp [] _ ?_
    have key : (fun r => match r.pl with | true => Kk r H | false => False) = fun r : AV => r.pl = true ∧ Kk r H := by
      funext r; cases r.pl <;> simp
    rw [← key]; exact h2
  · exact h2.elim
end Go.Sas
namespace Go.Sas
variable {cx : Cx} {m : Nat} {k : List AItm} {R : Env → AHeap → Prop} {e : Env} {H H' : AHeap} {D : Option DM} {L : List DItm} {it : DItm}
/-- one slot's row is frozen -/
theorem AGo_frzS (t : Nat) {id g sz n : Nat} {xs cs : List AV} (hX : H[id]? = some (.own g cs)) (ht : look e.g t = .ms sz id g 0 n) (hn : xs.length = n) (hE : Elems sz xs cs) (h : AGo cx m k R ⟨e.l, gset e.g t (.vs sz xs)⟩ (H.set id .gone)) : AGo cx m k R e H := by
  have hok := hE.2
  simp only [elemsOk, Bool.and_eq_true] at hok
  have hl := cellsL_len hE.1 hok.2
  refine AGo_freeze t hX ht ?_ (by rw [hl, hn]; omega) hn hE.2 h
  rw [cellsL_eq, hE.1, List.drop_zero, List.take_of_length_le (by rw [← hn]; omega)]
theorem SubH.gone {y : AObj} {M H : AHeap} (h : SubH M H) : SubH (.gone :: M) (y :: H) := by cases y <;> simpa only [SubH] using h
end Go.Sas
namespace Go.Sas

/-! ### Equal values -/
def vEq : Value → Value → Bool
  | .int k n, .int k' n' => decide (k = k') && decide (n = n')
  | .bool b, .bool b' => b == b'
  | .slice none 0 0, .slice none 0 0 => true
  | _, _ => false
theorem vEq_spec {a b : Value} (h : vEq a b = true) : a = b := by
  unfold vEq at h
  split at h
  · simp only [Bool.and_eq_true, decide_eq_true_eq] at h; rw [h.1, h.2]
  · simp only [beq_iff_eq] at h; rw [h]
  · rfl
  · cases h

mutual
def avEq (a b : AV) : Bool := match a, b with
  | .bad, .bad => true
  | .lit u, .lit v => vEq u v
  | .agg as, .agg bs => avEqL as bs
  | .tup as, .tup bs => avEqL as bs
  | .vs sz as, .vs sz' bs => Nat.beq sz sz' && avEqL as bs
  | .vp as, .vp bs => avEqL as bs
  | .mp id g o, .mp id' g' o' => Nat.beq id id' && Nat.beq g g' && Nat.beq o o'
  | .ms sz id g o n, .ms sz' id' g' o' n' => Nat.beq sz sz' && Nat.beq id id' && Nat.beq g g' && Nat.beq o o' && Nat.beq n n'
  | .es, .es => true
  | .nni, .nni => true
  | .fn f as, .fn f' bs => Nat.beq f f' && avEqL as bs
  | .yl id g, .yl id' g' => Nat.beq id id' && Nat.beq g g'
  | _, _ => false
def avEqL (as bs : List AV) : Bool := match as, bs with
  | [], [] => true
  | a :: as, b :: bs => avEq a b && avEqL as bs
  | _, _ => false
end
mutual
theorem avEq_spec : ∀ {a b : AV}, avEq a b = true → a = b
  | .bad, b, h => by cases b <;> first | rfl | (simp [avEq] at h)
  | .lit u, b, h => by
    cases b <;> simp only [avEq] at h
    all_goals first | (rw [vEq_spec h]) | cases h
  | .agg as, b, h => by
    cases b <;> simp only [avEq] at h
    all_goals first | (rw [avEqL_spec h]) | cases h
  | .tup as, b, h => by
    cases b <;> simp only [avEq] at h
    all_goals first | (rw [avEqL_spec h]) | cases h
  | .vs sz as, b, h => by
    cases b <;> simp only [avEq, Bool.and_eq_true] at h
    all_goals first | (rw [Nat.eq_of_beq_eq_true h.1, avEqL_spec h.2]) | cases h
  | .vp as, b, h => by
    cases b <;> simp only [avEq] at h
    all_goals first | (rw [avEqL_spec h]) | cases h
  | .mp id g o, b, h => by
    cases b <;> simp only [avEq, Bool.and_eq_true] at h
    all_goals first | (rw [Nat.eq_of_beq_eq_true h.1.1, Nat.eq_of_beq_eq_true h.1.2, Nat.eq_of_beq_eq_true h.2]) | cases h
  | .ms sz id g o n, b, h => by
    cases b <;> simp only [avEq, Bool.and_eq_true] at h
    all_goals first | (rw [Nat.eq_of_beq_eq_true h.1.1.1.1, Nat.eq_of_beq_eq_true h.1.1.1.2, Nat.eq_of_beq_eq_true h.1.1.2, Nat.eq_of_beq_eq_true h.1.2, Nat.eq_of_beq_eq_true h.2]) | cases h
  | .es, b, h => by cases b <;> first | rfl | (simp [avEq] at h)
  | .nni, b, h => by cases b <;> first | rfl | (simp [avEq] at h)
  | .fn f as, b, h => by
    cases b <;> simp only [avEq, Bool.and_eq_true] at h
    all_goals first | (rw [Nat.eq_of_beq_eq_true h.1, avEqL_spec h.2]) | cases h
  | .yl id g, b, h => by
    cases b <;> simp only [avEq, Bool.and_eq_true] at h
    all_goals first | (rw [Nat.eq_of_beq_eq_true h.1, Nat.eq_of_beq_eq_true h.2]) | cases h
theorem avEqL_spec : ∀ {as bs : List AV}, avEqL as bs = true → as = bs
  | [], bs, h => by cases bs <;> first | rfl | (simp [avEqL] at h)
  | a :: as, bs, h => by
    cases bs with
    | nil => simp [avEqL] at h
    | cons b bs => simp only [avEqL, Bool.and_eq_true] at h; rw [avEq_spec h.1, avEqL_spec h.2]
end

/-! ### Values made plain: for the kernel, so that nothing is put off -/
section
variable {β : Type}
end
end Go.Sas
