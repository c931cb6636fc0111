/-
An abstract machine over values, part 22: a run by reckoning: the function that runs, and that what it yields is what the code yields.
An abstract machine over values, part 23: the run by reckoning, made plain step by step, for the kernel.
TopWinter: the examples of two chapters hold.
Freight: plans and winters made of numbers: contracts.
Freight: winters made of numbers: contract.
Freight: lists that are plans: contracts.
Freight: the best plan: contract of Best.
Freight: what a plan costs at least and at most: contracts.
Freight: checks of winters; Spread: contracts.
Freight: what a plan promises: contract.
Freight: rows that are as long as there are days: contracts.
Freight: ways that may be: contract.
Freight: what a plan delivers up to each day: plain laws.
Freight: more room, more delivered, less cost: plain laws.
TopWinter: plans made of numbers: entries of tables (lines of text G34).
Probe: marks and looks of later hours say nothing.
Probe: with more looks, and narrower ones, no less is known.

Probe: spans put together; stale places; where to look: contracts.
Probe: Stale, Plan: contracts.
Probe: what is known, and courses.
Probe: runs of places; the fewest looks.
Freight: Tell, and what a plan does in a winter: contracts.
TopWinter: what more looks change: plain law.
Probe: surveys, courses and looks made of numbers, together: contract.

Probe: small contracts for statements: seeds, Has, In, Least.
Probe: marks made of numbers: contract.
TopWinter: entries of tables.
Conditions: none.
-/
import Derived.Test.YtkbaajgegbolkaaJ7
import Derived.Test.YtkbaajgegbolkaaJ6
import Derived.Test.YtkbaajgegbolkaaJ4
import Derived.Test.YtkbaajgegbolkaaJ3
import Derived.KernelRfl
import Derived.Test.YtkbaajgegbolkaaJ2
set_option linter.unusedVariables false
set_option linter.unusedSimpArgs false
namespace Go.Sas
set_option maxRecDepth 4000

variable {cx : Cx} {m : Nat} {k : List AItm} {R : Env → AHeap → Prop} {e : Env} {H : AHeap}

theorem Rel.dropl {st0 st : St} {w0 w : World} {a : Act} (h : Rel cx st0 w0 st w e H a) : Rel cx st0 w0 st w ⟨[], e.g⟩ H a :=
  ⟨h.ext, h.hH, fun t => by simp only [look, RelV], h.g, fun t _ => rfl, h.kg, h.n, h.d⟩

theorem AGo_loopE {σ : Type} {c : ACode} (S : σ → List (Nat × AV)) (HS : σ → AHeap) (μ : σ → Nat) (x0 : σ) (h0 : e.g = S x0) (hH0 : H = HS x0)
    (hround : ∀ x, AGo cx m (.code c :: .bk (fun e' H' => ∃ x', μ x' < μ x ∧ e'.g = S x' ∧ H' = HS x') :: k) R ⟨[], S x⟩ (HS x)) :
    AGo cx m (.code (.loop c) :: k) R e H := by
  refine AGo_code fun cc Q st0 w0 kc hm hk ht hn hx hr st a w hrel => ?_
  cases cc <;> (try simp only [trCode] at ht)
  case region id ops d => cases d <;> simp [trCode] at ht
  case loop c1 =>
    obtain ⟨c', h1, h2⟩ := Option.map_eq_some_iff.1 ht
    cases h2
    let I : Act → World → σ → Prop := fun a w x => ∃ st, Rel cx st0 w0 st w ⟨[], S x⟩ (HS x) a
    have hI0 : ∃ x, I a w x := by
      have := hrel.dropl
      rw [h0, hH0] at this
      exact ⟨x0, st, this⟩
    have hex : ∀ a w, (∃ x, I a w x) → ∃ n, ∃ x, I a w x ∧ μ x = n := fun a w ⟨x, hx⟩ => ⟨_, x, hx, rfl⟩
    classical
    let M : Act → World → Nat := fun a w => if h : ∃ n, ∃ x, I a w x ∧ μ x = n then Classical.choose (least h) else 0
    have hM : ∀ a w x, I a w x → M a w ≤ μ x := by
      intro a w x hx
      have h : ∃ n, ∃ x, I a w x ∧ μ x = n := ⟨_, x, hx, rfl⟩
      simp only [M, dif_pos h]
      exact (Classical.choose_spec (least h)).2 _ ⟨x, hx, rfl⟩
    have hM2 : ∀ a w, (∃ x, I a w x) → ∃ x, I a w x ∧ μ x = M a w := by
      intro a w hx
      have h := hex a w hx
      simp only [M, dif_pos h]
      exact (Classical.choose_spec (least h)).1
    refine wpIn_loop (fun a w => ∃ x, I a w x) M hI0 fun a w hIx => ?_
    obtain ⟨x, ⟨st1, hx1⟩, hxM⟩ := hM2 a w hIx
    have := hround x st0 w0 (.code c1 :: .bk _ :: kc) hm ⟨_, _, rfl, h1, _, _, rfl, rfl, hk⟩ st1 a w hx1
    simp only [GoK, ExK] at this
    refine wpIn_mono this fun ex a' w' hq => ?_
    cases ex <;> simp only [Exit.then] at hq ⊢
    case normal =>
      obtain ⟨st2, e2, H2, hr2, x', hlt, hf, hhf⟩ := hq
      have hr3 := hr2.dropl
      rw [hf, hhf] at hr3
      have hIx' : I a' w' x' := ⟨st2, hr3⟩
      exact ⟨⟨x', hIx'⟩, by have := hM a' w' x' hIx'; omega⟩
    case exit i => exact hx _ _ _ hq
    case ret => exact hr _ _ hq
    all_goals exact hq.elim
  all_goals first | cases ht | (split at ht <;> cases ht) | (obtain ⟨_, _, h'⟩ := Option.map_eq_some_iff.1 ht; cases h')

/-! ### The tables -/
/-- what is known of a function: its code -/
structure CEnt where
  K : List Nat
  mu : List Nat
  n : Nat
  ac : ACode
  rs : List ARes
  np : Nat
  fz : Bool := false

abbrev CTab := List (Nat × CEnt)
abbrev FTab := List (Nat × (List AV → Option AV))
def cLook : CTab → Nat → Option CEnt
  | [], _ => none
  | (f, E) :: r, g => match Nat.beq f g with
    | true => some E
    | false => cLook r g
def fLook : FTab → Nat → Option (List AV → Option AV)
  | [], _ => none
  | (f, E) :: r, g => match Nat.beq f g with
    | true => some E
    | false => fLook r g
def CTabOk (P : Program) (ct : CTab) : Prop := ∀ f E, cLook ct f = some E → ∀ (args : List AV) (H : AHeap) (Kk : AV → AHeap → Prop), args.length = E.np →
  AGo ⟨P, E.K, E.mu, E.n, none⟩ H.length [.code E.ac] (RetP E.rs H.length Kk) ⟨[], argsG 0 args⟩ H → ACalls P f args H Kk
def FTabOk (P : Program) (ft : FTab) : Prop := ∀ f g, fLook ft f = some g → ∀ args r, g args = some r → ∀ (H : AHeap) (Kk : AV → AHeap → Prop), Kk r H → ACalls P f args H Kk
theorem CTabOk.nil {P : Program} : CTabOk P [] := fun f E h => by simp [cLook] at h
theorem FTabOk.nil {P : Program} : FTabOk P [] := fun f E h => by simp [fLook] at h
theorem CTabOk.cons {P : Program} {ct : CTab} {f : Nat} {E : CEnt} (hf : ∀ (args : List AV) (H : AHeap) (Kk : AV → AHeap → Prop), args.length = E.np →
    AGo ⟨P, E.K, E.mu, E.n, none⟩ H.length [.code E.ac] (RetP E.rs H.length Kk) ⟨[], argsG 0 args⟩ H → ACalls P f args H Kk) (h : CTabOk P ct) : CTabOk P ((f, E) :: ct) := by
  intro g E' hg
  simp only [cLook] at hg
  split at hg
  · rename_i hb; have := Nat.eq_of_beq_eq_true hb; subst this; cases hg; exact hf
  · exact h g E' hg
theorem FTabOk.cons {P : Program} {ft : FTab} {f : Nat} {p : List AV → Option AV} (hf : ∀ args r, p args = some r → ∀ (H : AHeap) (Kk : AV → AHeap → Prop), Kk r H → ACalls P f args H Kk) (h : FTabOk P ft) : FTabOk P ((f, p) :: ft) := by
  intro g E' hg
  simp only [fLook] at hg
  split at hg
  · rename_i hb; have := Nat.eq_of_beq_eq_true hb; subst this; cases hg; exact hf
  · exact h g E' hg

/-! ### The run -/
inductive XItm where
  | code (c : ACode)
  | ops (l : List AOper)
  | blk (i : Nat)
  | lp (c : ACode)

inductive XMode where
  | go (k : List XItm)
  | dr (ck : Bool) (D : Option DM) (L : List DItm)

def exitX (i : Nat) : List XItm → Option (List XItm)
  | [] => none
  | .blk j :: k => match Nat.beq i j with
    | true => some k
    | false => exitX i k
  | _ :: k => exitX i k

def retX (rs : List ARes) (m : Nat) (e : Env) (H : AHeap) : Option (AV × AHeap) := match aResL e H rs with
  | none => none
  | some vs => match AV.ltB m (aTup vs) && ltHB m (H.take m) with
    | true => some (aTup vs, H.take m)
    | false => some (aTup vs, H)

/-! Rows that come out of a function, frozen -/
mutual
def AV.firstMs (m : Nat) (a : AV) : Option (Nat × Nat × Nat) := match a with
  | .ms sz id g _ _ => match Nat.ble m id with
    | true => some (sz, id, g)
    | false => none
  | .agg cs => AV.firstMsL m cs
  | .tup cs => AV.firstMsL m cs
  | _ => none
def AV.firstMsL (m : Nat) (as : List AV) : Option (Nat × Nat × Nat) := match as with
  | [] => none
  | a :: as => match a.firstMs m with
    | some x => some x
    | none => AV.firstMsL m as
end
/-- rows of so many cells -/
def chunks : Nat → Nat → List AV → List AV
  | 0, _, _ => []
  | _ + 1, _, [] => []
  | n + 1, sz, cs => (match sz with
    | 1 => (match cs with
      | c :: _ => c
      | [] => .bad)
    | sz => .agg (cs.take sz)) :: chunks n sz (cs.drop sz)
def elemsB (sz : Nat) (xs cs : List AV) : Bool := match cellsL xs with
  | some c => avEqL c cs && elemsOk sz xs
  | none => false
theorem elemsB_spec {sz : Nat} {xs cs : List AV} (h : elemsB sz xs cs = true) : Elems sz xs cs := by
  unfold elemsB at h
  split at h
  · rename_i c hc
    simp only [Bool.and_eq_true] at h
    rw [avEqL_spec h.1] at hc
    exact ⟨hc, h.2⟩
  · cases h
def dropF (m : Nat) (r : AV) (H : AHeap) : AV × AHeap := match Nat.ble m H.length && AV.ltB m r && ltHB m (H.take m) with
  | true => (r, H.take m)
  | false => (r, H)
def frzGo : Nat → Nat → AV → AHeap → AV × AHeap
  | 0, m, r, H => dropF m r H
  | n + 1, m, r, H => match r.firstMs m with
    | none => dropF m r H
    | some (sz, id, g) => match H[id]? with
      | some (.own g' cs) => match Nat.beq g g' && elemsB sz (chunks cs.length sz cs) cs with
        | true => frzGo n m (r.frz id g' sz (chunks cs.length sz cs)) (frzH id g' sz (chunks cs.length sz cs) (H.set id .gone))
        | false => dropF m r H
      | _ => dropF m r H
def retF (rs : List ARes) (m : Nat) (e : Env) (H : AHeap) : Option (AV × AHeap) := match aResL e H rs with
  | none => none
  | some vs => match AV.ltB m (aTup vs) && ltHB m (H.take m) with
    | true => some (aTup vs, H.take m)
    | false => some (frzGo 8 m (aTup vs) H)
def retE (fz : Bool) (rs : List ARes) (m : Nat) (e : Env) (H : AHeap) : Option (AV × AHeap) := match fz with
  | false => retX rs m e H
  | true => retF rs m e H

abbrev XRun := XMode → Env → AHeap → Option (Env × AHeap)

def callX (ct : CTab) (ft : FTab) (ih : XRun) (f : Nat) (args : List AV) (H : AHeap) : Option (AV × AHeap) := match fLook ft f with
  | some g => match g args with
    | some r => some (r, H)
    | none => none
  | none => match cLook ct f with
    | none => none
    | some E => match Nat.beq args.length E.np with
      | false => none
      | true => match ih (.go [.code E.ac]) ⟨[], argsG 0 args⟩ H with
        | none => none
        | some (e', H') => retE E.fz E.rs H.length e' H'

def resKB : List Nat → Nat → List Nat → AHeap → AHeap → Bool
  | [], _, _, _, _ => true
  | i :: r, b, ws, H, H' => (ws.contains i || (match H[b]?, H'[b]? with
    | some (.own g cs), some (.own g' cs') => Nat.beq g g' && avEqL cs cs'
    | _, _ => false)) && resKB r (b + 1) ws H H'

def kcB : List (Nat × Nat × Nat × AV) → AHeap → Bool
  | [], _ => true
  | (i, g, o, v) :: r, H => (match H[i]? with
    | some (.own g' cs) => Nat.beq g' g && (match cs[o]? with
      | some u => avEq u v
      | none => false)
    | _ => false) && kcB r H
theorem kcB_spec : ∀ {kc : List (Nat × Nat × Nat × AV)} {H : AHeap}, kcB kc H = true → KcOk kc H
  | [], _, _ => trivial
  | (i, g, o, v) :: r, H, h => by
    simp only [kcB, Bool.and_eq_true] at h
    refine ⟨?_, kcB_spec h.2⟩
    have h1 := h.1
    split at h1
    · rename_i g' cs hX
      simp only [Bool.and_eq_true] at h1
      have hg := Nat.eq_of_beq_eq_true h1.1
      subst hg
      have h2 := h1.2
      split at h2
      · rename_i u hu
        exact ⟨cs, hX, by rw [hu, avEq_spec h2]⟩
      · cases h2
    · cases h1
def kcCells (i g : Nat) : Nat → List AV → List AV → List (Nat × Nat × Nat × AV)
  | o, c :: cs, d :: ds => match avEq c d with
    | true => (i, g, o, c) :: kcCells i g (o + 1) cs ds
    | false => kcCells i g (o + 1) cs ds
  | _, _, _ => []
/-- the cells that stay, of objects that change -/
def kcOf : Nat → AHeap → AHeap → List (Nat × Nat × Nat × AV)
  | i, .own g cs :: H, .own g' cs' :: H' => match Nat.beq g g' && Nat.beq cs.length cs'.length && !avEqL cs cs' with
    | true => kcCells i g 0 cs cs' ++ kcOf (i + 1) H H'
    | false => kcOf (i + 1) H H'
  | i, _ :: H, _ :: H' => kcOf (i + 1) H H'
  | _, _, _ => []
def MValK (D : DM) (it : DItm) (e : Env) : Option AV := match MVal D it e with
  | some r => some r
  | none => match it.o.op with
    | .ld none a => (match gOk e it.o.grd with
      | some true => (match ev e a with
        | .mp id g off => kcLook D.kc id g off
        | _ => none)
      | _ => none)
    | _ => none
theorem MValK_rel {D : DM} {it : DItm} {e : Env} {r : AV} (h : MValK D it e = some r) : MRel D it e r := by
  unfold MValK at h
  split at h
  · rename_i r' hr; cases h; exact MVal_rel hr
  · split at h
    · rename_i a hop
      split at h
      · rename_i hg
        split at h
        · rename_i id g off hev
          have hn : isNwl it.o.op = false := by rw [hop]; rfl
          unfold MRel
          simp only [hn]
          exact .inr ⟨hg, a, id, g, off, hop, hev, h⟩
        · cases h
      · cases h
    · cases h
def keepB (D : Option DM) (it : DItm) (H H' : AHeap) : Bool := match D with
  | none => true
  | some D => it.tail || (subHB D.M H' && (resKB D.news D.base it.ws H H' && (isStB it.o.op || subHB D.M1 H')) && kcB D.kc H')

def objDiff (x y : AObj) : Nat := match x, y with
  | .own g cs, .own g' cs' => match Nat.beq g g' with
    | true => match avEqL cs cs' with
      | true => 0
      | false => 1
    | false => 2
  | .gone, _ => 0
  | _, _ => 2
def diffIds : Nat → AHeap → AHeap → List Nat
  | i, x :: H, y :: H' => match objDiff x y with
    | 0 => diffIds (i + 1) H H'
    | 1 => i :: diffIds (i + 1) H H'
    | _ => (i + 1000) :: diffIds (i + 1) H H'
  | _, _, _ => []

def isCallB : AOp → Bool
  | .call _ _ => true
  | _ => false

/-- one act -/
def actX (ct : CTab) (ft : FTab) (ih : XRun) (e : Env) (H : AHeap) (op : AOp) : Option (AV × AHeap) := match callF e op with
  | some (f, args) => callX ct ft ih f args H
  | none => opRun (ev e) H op

def drX (ct : CTab) (ft : FTab) (ih : XRun) (ck : Bool) (D : Option DM) (L : List DItm) (e : Env) (H : AHeap) : Option (Env × AHeap) := match L with
  | [] => some (⟨[], e.g⟩, H)
  | it :: l => match movB it.o.op with
    | true => match D with
      | none => none
      | some D' => match MValK (match ck with | true => D' | false => ⟨H, D'.base, D'.news, H, [], 0, []⟩) it e with
        | some r => ih (.dr ck D l) (put e it.o.dst r) H
        | none => none
    | false => match ck || !it.tail with
     | false => some (e, H)
     | true => match gOk e it.o.grd with
      | none => none
      | some false => ih (.dr ck (nx D it) l) (put e it.o.dst (.lit undef)) H
      | some true => match (match callF e it.o.op with | some (f, args) => callX ct ft ih f args H | none => opAct (ev e) H it.o.op) with
        | none => none
        | some (r, H') => match !ck || keepB D it H H' with
          | true => ih (.dr ck (nx D it) l) (put e it.o.dst r) H'
          | false => none

/-- what is masked from the beginning: nothing where only writes through pointers change anything -/
def us1 (L : List DItm) (us : List Nat) : List Nat := match L.any (fun it => !movB it.o.op && !it.tail && !isStB it.o.op) with
  | true => us
  | false => []
def drawX (ih : XRun) (L : List DItm) (e : Env) (H : AHeap) : Option (Env × AHeap) :=
  let us := match L.any (fun it => !movB it.o.op && !it.tail && !isCallB it.o.op) with
    | false => []
    | true => match ih (.dr false (some ⟨H, H.length, (newsOf L).map (·.1), H, [], 0, []⟩) L) e (H ++ kept L) with
      | none => []
      | some (_, H2) => diffIds 0 H H2
  ih (.dr true (some ⟨mask us H, H.length, (newsOf L).map (·.1), mask (us1 L us) H, [], 0, []⟩) L) e (H ++ kept L)
/-- the same, where cells of what is written to are loaded -/
def drawX2 (ih : XRun) (L : List DItm) (e : Env) (H : AHeap) : Option (Env × AHeap) := match ih (.dr false (some ⟨H, H.length, (newsOf L).map (·.1), H, [], 0, []⟩) L) e (H ++ kept L) with
  | none => none
  | some (_, H2) => match kcB (kcOf 0 H H2) (H ++ kept L) with
    | true => ih (.dr true (some ⟨mask (diffIds 0 H H2) H, H.length, (newsOf L).map (·.1), mask (us1 L (diffIds 0 H H2)) H, [], 0, kcOf 0 H H2⟩) L) e (H ++ kept L)
    | false => none
def drawB (ih : XRun) (L : List DItm) (e : Env) (H : AHeap) : Option (Env × AHeap) := match drawX ih L e H with
  | some x => some x
  | none => drawX2 ih L e H

def bodyX (ct : CTab) (ft : FTab) (ih : XRun) : XRun
  | .dr ck D L, e, H => drX ct ft ih ck D L e H
  | .go [], e, H => some (e, H)
  | .go (.blk _ :: k), e, H => ih (.go k) e H
  | .go (.lp c :: k), e, H => ih (.go (.code c :: .lp c :: k)) ⟨[], e.g⟩ H
  | .go (.ops [] :: k), e, H => ih (.go k) ⟨[], e.g⟩ H
  | .go (.ops (o :: rest) :: k), e, H => match gOk e o.grd with
    | none => none
    | some false => ih (.go (.ops rest :: k)) (put e o.dst (.lit undef)) H
    | some true => match actX ct ft ih e H o.op with
      | some (r, H') => ih (.go (.ops rest :: k)) (put e o.dst r) H'
      | none => none
  | .go (.code c :: k), e, H => match c with
    | .skip => ih (.go k) e H
    | .ret => some (e, H)
    | .seq x y => ih (.go (.code x :: .code y :: k)) e H
    | .block i x => ih (.go (.code x :: .blk i :: k)) e H
    | .exit i => match exitX i k with
      | some k' => ih (.go k') e H
      | none => none
    | .cond z x y => match ev e z with
      | .lit (.bool true) => ih (.go (.code x :: k)) e H
      | .lit (.bool false) => ih (.go (.code y :: k)) e H
      | _ => none
    | .loop c => ih (.go (.code c :: .lp c :: k)) ⟨[], e.g⟩ H
    | .reg l => ih (.go (.ops l :: k)) e H
    | .draw L => match drawB ih L e H with
      | some (e', H') => ih (.go k) e' H'
      | none => none
    | _ => none

def ex (ct : CTab) (ft : FTab) : Nat → XRun
  | 0 => fun _ _ _ => none
  | n + 1 => bodyX ct ft (ex ct ft n)

/-! ### That it is right -/
def XK (ct : CTab) (ft : FTab) (N : Nat) (res : Env × AHeap) : List XItm → List AItm → Prop
  | [], k' => k' = []
  | .code c :: k, k' => ∃ k2, k' = .code c :: k2 ∧ XK ct ft N res k k2
  | .ops l :: k, k' => ∃ k2, k' = .ops l :: k2 ∧ XK ct ft N res k k2
  | .blk i :: k, k' => ∃ k2, k' = .blk i :: k2 ∧ XK ct ft N res k k2
  | .lp c :: k, k' => ∃ I k2, k' = .bk I :: k2 ∧ (∀ n l g H, n < N → ex ct ft n (.go (.code c :: .lp c :: k)) ⟨[], g⟩ H = some res → I ⟨l, g⟩ H) ∧ XK ct ft N res k k2

theorem XK.mono {ct : CTab} {ft : FTab} {N N' : Nat} {res : Env × AHeap} (hN : N' ≤ N) : ∀ {k : List XItm} {k' : List AItm}, XK ct ft N res k k' → XK ct ft N' res k k'
  | [], k', h => h
  | .code c :: k, k', ⟨k2, h1, h2⟩ => ⟨k2, h1, h2.mono hN⟩
  | .ops c :: k, k', ⟨k2, h1, h2⟩ => ⟨k2, h1, h2.mono hN⟩
  | .blk c :: k, k', ⟨k2, h1, h2⟩ => ⟨k2, h1, h2.mono hN⟩
  | .lp c :: k, k', ⟨I, k2, h1, h2, h3⟩ => ⟨I, k2, h1, fun n l g H hn he => h2 n l g H (by omega) he, h3.mono hN⟩

theorem XK.exit {ct : CTab} {ft : FTab} {N : Nat} {res : Env × AHeap} {i : Nat} : ∀ {k k1 : List XItm} {k' : List AItm}, exitX i k = some k1 → XK ct ft N res k k' → ∃ k2, exitA i k' = some k2 ∧ XK ct ft N res k1 k2
  | [], k1, k', h, _ => by simp [exitX] at h
  | .blk j :: k, k1, k', h, ⟨k2, h1, h2⟩ => by
    subst h1
    simp only [exitX] at h
    split at h
    · rename_i hb; have := Nat.eq_of_beq_eq_true hb; subst this
      cases h; exact ⟨k2, by simp [exitA], h2⟩
    · rename_i hb
      have hne : i ≠ j := fun he => by subst he; simp at hb
      obtain ⟨k3, h3, h4⟩ := h2.exit h
      exact ⟨k3, by simp [exitA, hne, h3], h4⟩
  | .code c :: k, k1, k', h, ⟨k2, h1, h2⟩ => by
    subst h1
    obtain ⟨k3, h3, h4⟩ := h2.exit (by simpa only [exitX] using h)
    exact ⟨k3, by simp [exitA, h3], h4⟩
  | .ops c :: k, k1, k', h, ⟨k2, h1, h2⟩ => by
    subst h1
    obtain ⟨k3, h3, h4⟩ := h2.exit (by simpa only [exitX] using h)
    exact ⟨k3, by simp [exitA, h3], h4⟩
  | .lp c :: k, k1, k', h, ⟨I, k2, h1, _, h2⟩ => by
    subst h1
    obtain ⟨k3, h3, h4⟩ := h2.exit (by simpa only [exitX] using h)
    exact ⟨k3, by simp [exitA, h3], h4⟩

theorem retX_sound {rs : List ARes} {r : AV} {H' : AHeap} {Kk : AV → AHeap → Prop} (h : retX rs m e H = some (r, H')) (hk : Kk r H') : RetP rs m Kk e H := by
  unfold retX at h
  unfold RetP
  split at h
  · cases h
  · rename_i vs hvs
    rw [hvs]
    simp only
    split at h
    · rename_i hb; rw [if_pos hb]; cases h; exact hk
    · rename_i hb; rw [if_neg (by rw [hb]; simp)]; cases h; exact hk

theorem dropF_sound {r : AV} {Kk : AV → AHeap → Prop} (h : Kk (dropF m r H).1 (dropF m r H).2) : Frees m Kk r H := by
  unfold dropF at h
  split at h
  · rename_i hb
    simp only [Bool.and_eq_true] at hb
    have hl : (H.take m).length = m := by rw [List.length_take]; have := Nat.le_of_ble_eq_true hb.1.1; omega
    have := Frees.drop (T := H.drop m) (H := H.take m) (m := m) (r := r) (Kk := Kk) (by omega) (by rw [hl]; exact hb.1.2) (by rw [hl]; exact hb.2) (.now h)
    rwa [List.take_append_drop] at this
  · exact .now h
theorem frzGo_sound {Kk : AV → AHeap → Prop} : ∀ {n : Nat} {r : AV} {H : AHeap}, Kk (frzGo n m r H).1 (frzGo n m r H).2 → Frees m Kk r H
  | 0, r, H, h => dropF_sound h
  | n + 1, r, H, h => by
    simp only [frzGo] at h
    split at h
    · exact dropF_sound h
    · rename_i sz id g _
      split at h
      · rename_i g' cs hX
        split at h
        · rename_i hb
          simp only [Bool.and_eq_true] at hb
          exact Frees.frz id g' sz _ hX (elemsB_spec hb.2) (frzGo_sound h)
        · exact dropF_sound h
      · exact dropF_sound h
theorem retF_sound {rs : List ARes} {r : AV} {H' : AHeap} {Kk : AV → AHeap → Prop} (h : retF rs m e H = some (r, H')) (hk : Kk r H') : RetP rs m (Frees m Kk) e H := by
  unfold retF at h
  unfold RetP
  split at h
  · cases h
  · rename_i vs hvs
    rw [hvs]
    simp only
    split at h
    · rename_i hb; rw [if_pos hb]; cases h; exact .now hk
    · rename_i hb
      rw [if_neg (by rw [hb]; simp)]
      refine frzGo_sound (n := 8) ?_
      simp only [Option.some.injEq] at h
      rw [h]; exact hk

theorem resKB_spec : ∀ {l : List Nat} {b : Nat} {ws : List Nat} {H H' : AHeap}, resKB l b ws H H' = true → ResK l b ws H H'
  | [], _, _, _, _, _ => trivial
  | i :: r, b, ws, H, H', h => by
    simp only [resKB, Bool.and_eq_true, Bool.or_eq_true] at h
    refine ⟨?_, resKB_spec h.2⟩
    rcases h.1 with h1 | h1
    · exact .inl h1
    · right
      split at h1
      · rename_i g cs g' cs' e1 e2
        simp only [Bool.and_eq_true] at h1
        rw [e1, e2, Nat.eq_of_beq_eq_true h1.1, avEqL_spec h1.2]
      · cases h1

theorem keepB_spec {D : Option DM} {it : DItm} {H' : AHeap} (h : keepB D it H H' = true) : Keep D it H H' := by
  unfold keepB at h
  unfold Keep
  split at h
  · trivial
  · simp only [Bool.or_eq_true, Bool.and_eq_true] at h
    rcases h with h | ⟨h, hk⟩
    · exact .inl h
    · exact .inr (.mk (kcB_spec hk) ⟨subHB_spec h.1, resKB_spec h.2.1, h.2.2.imp (fun h => h) (fun h _ => subHB_spec h)⟩)

structure ExOk (P : Program) (ct : CTab) (ft : FTab) (n : Nat) : Prop where
  go : ∀ k e H res, ex ct ft n (.go k) e H = some res → ∀ (cx : Cx) (m : Nat) (k' : List AItm) (R : Env → AHeap → Prop), cx.P = P → cx.ro = none → XK ct ft n res k k' → R res.1 res.2 → AGo cx m k' R e H
  dr : ∀ D L e H res, ex ct ft n (.dr true D L) e H = some res → ∀ (cx : Cx) (m : Nat) (k' : List AItm) (R : Env → AHeap → Prop), cx.P = P → AGo cx m k' R res.1 res.2 → DGo cx m k' R D L e H

theorem callX_sound {P : Program} {ct : CTab} {ft : FTab} (hct : CTabOk P ct) (hft : FTabOk P ft) {n : Nat} (ih : ExOk P ct ft n) {f : Nat} {args : List AV} {r : AV} {H' : AHeap}
    (h : callX ct ft (ex ct ft n) f args H = some (r, H')) : ACalls P f args H fun r' H'' => r' = r ∧ H'' = H' := by
  unfold callX at h
  split at h
  · rename_i g hg
    split at h
    · rename_i r0 hr0; cases h; exact hft _ _ hg _ _ hr0 _ _ ⟨rfl, rfl⟩
    · cases h
  · split at h
    · cases h
    · rename_i E hE
      split at h
      · cases h
      · rename_i hnp
        split at h
        · cases h
        · rename_i e' H2 he
          unfold retE at h
          split at h
          · refine hct _ _ hE _ _ _ (Nat.eq_of_beq_eq_true hnp) ?_
            exact ih.go _ _ _ _ he _ _ _ _ rfl rfl ⟨_, rfl, rfl⟩ (retX_sound h ⟨rfl, rfl⟩)
          · refine ACalls.frees (hct _ _ hE _ _ _ (Nat.eq_of_beq_eq_true hnp) ?_)
            exact ih.go _ _ _ _ he _ _ _ _ rfl rfl ⟨_, rfl, rfl⟩ (retF_sound h ⟨rfl, rfl⟩)

theorem ex_ok {P : Program} {ct : CTab} {ft : FTab} (hct : CTabOk P ct) (hft : FTabOk P ft) : ∀ N n, n ≤ N → ExOk P ct ft n
  | N, 0, _ => ⟨fun k e H res h => by simp [ex] at h, fun D L e H res h => by simp [ex] at h⟩
  | 0, n + 1, h => absurd h (by omega)
  | N + 1, n + 1, hn => by
    have ihs := ex_ok hct hft N
    have ih := ihs n (by omega)
    refine ⟨?_, ?_⟩
    · intro k e H res h cx m k' R hP hro hXK hR
      rw [ex] at h
      match k, hXK with
      | [], hXK =>
        have : k' = [] := hXK
        subst this
        simp only [bodyX, Option.some.injEq] at h; subst h
        exact AGo_nil hR
      | .blk i :: k, ⟨k2, h1, h2⟩ =>
        subst h1
        simp only [bodyX] at h
        exact AGo_blk (ih.go _ _ _ _ h _ _ _ _ hP hro (h2.mono (by omega)) hR)
      | .lp c :: k, ⟨I, k2, h1, h2, h3⟩ =>
        subst h1
        simp only [bodyX] at h
        exact AGo_bk (h2 n e.l e.g H (by omega) h)
      | .ops [] :: k, ⟨k2, h1, h2⟩ =>
        subst h1
        simp only [bodyX] at h
        exact AGo_ops_nil (ih.go _ _ _ _ h _ _ _ _ hP hro (h2.mono (by omega)) hR)
      | .ops (o :: rest) :: k, ⟨k2, h1, h2⟩ =>
        subst h1
        obtain ⟨d, op, g⟩ := o
        simp only [bodyX] at h
        split at h
        · cases h
        · rename_i hg
          exact AGo_skipped hg (ih.go _ _ _ _ h _ _ _ _ hP hro ⟨_, rfl, h2.mono (by omega)⟩ hR)
        · rename_i hg
          split at h
          · rename_i r H' hr
            have hrest := ih.go _ _ _ _ h cx m (.ops rest :: k2) R hP hro ⟨_, rfl, h2.mono (by omega)⟩ hR
            unfold actX at hr
            split at hr
            · rename_i f args hf
              obtain ⟨x, xs, caps, rfl, hx, rfl⟩ := callF_spec hf
              have hc := callX_sound hct hft ih hr
              rw [← hP] at hc
              exact AGo_call hg hx (hc.mono fun r' H'' hh => by obtain ⟨rfl, rfl⟩ := hh; exact hrest)
            · exact AGo_run1 hg hr hrest
          · cases h
      | .code c :: k, ⟨k2, h1, h2⟩ =>
        subst h1
        simp only [bodyX] at h
        split at h
        · exact AGo_skip (ih.go _ _ _ _ h _ _ _ _ hP hro (h2.mono (by omega)) hR)
        · cases h
          refine AGo_ret ?_
          rw [hro]; exact hR
        · exact AGo_seq (ih.go _ _ _ _ h _ _ _ _ hP hro ⟨_, rfl, _, rfl, h2.mono (by omega)⟩ hR)
        · exact AGo_block (ih.go _ _ _ _ h _ _ _ _ hP hro ⟨_, rfl, _, rfl, h2.mono (by omega)⟩ hR)
        · split at h
          · rename_i k1 hk1
            obtain ⟨k3, h3, h4⟩ := h2.exit hk1
            exact AGo_exit (AEx_exitA h3 (ih.go _ _ _ _ h _ _ _ _ hP hro (h4.mono (by omega)) hR))
          · cases h
        · split at h
          · rename_i hz
            exact AGo_cond hz (fun _ => ih.go _ _ _ _ h _ _ _ _ hP hro ⟨_, rfl, h2.mono (by omega)⟩ hR) (fun hb => by cases hb)
          · rename_i hz
            exact AGo_cond hz (fun hb => by cases hb) (fun _ => ih.go _ _ _ _ h _ _ _ _ hP hro ⟨_, rfl, h2.mono (by omega)⟩ hR)
          · cases h
        · rename_i c
          refine AGo_loopE (σ := {x : Nat × List (Nat × AV) × AHeap // x.1 ≤ n ∧ ex ct ft x.1 (.go (.code c :: .lp c :: k)) ⟨[], x.2.1⟩ x.2.2 = some res})
            (fun x => x.1.2.1) (fun x => x.1.2.2) (fun x => x.1.1) ⟨(n, e.g, H), Nat.le_refl _, h⟩ rfl rfl fun x => ?_
          obtain ⟨⟨n', g', H'⟩, hle, hx⟩ := x
          simp only at hle hx ⊢
          exact (ihs n' (by omega)).go _ _ _ _ hx _ _ _ _ hP hro ⟨_, rfl, _, _, rfl, fun n2 l g2 H2 hlt hx2 => ⟨⟨(n2, g2, H2), by simp only; omega, hx2⟩, hlt, rfl, rfl⟩, h2.mono (by omega)⟩ hR
        · exact AGo_reg (ih.go _ _ _ _ h _ _ _ _ hP hro ⟨_, rfl, h2.mono (by omega)⟩ hR)
        · split at h
          · rename_i L e' H' hd
            have hrest := ih.go _ _ _ _ h cx m k2 R hP hro (h2.mono (by omega)) hR
            unfold drawB at hd
            split at hd
            · rename_i x hx1
              cases hd
              unfold drawX at hx1
              exact AGo_draw _ _ [] 0 mask_sub mask_sub [] trivial (ih.dr _ _ _ _ _ hx1 _ _ _ _ hP hrest)
            · unfold drawX2 at hd
              split at hd
              · cases hd
              · split at hd
                · rename_i hkb
                  exact AGo_draw _ _ [] 0 mask_sub mask_sub _ (kcB_spec hkb) (ih.dr _ _ _ _ _ hd _ _ _ _ hP hrest)
                · cases hd
          · cases h
        · cases h
    · intro D L e H res h cx m k' R hP hgo
      rw [ex] at h
      simp only [bodyX] at h
      unfold drX at h
      split at h
      · cases h; exact DGo_nil hgo
      · rename_i it l
        split at h
        · rename_i hm
          split at h
          · cases h
          · rename_i D'
            split at h
            · rename_i r hr
              have hrest := ih.dr _ _ _ _ _ h _ _ _ _ hP hgo
              simp only [DGo, JStep, hm]
              exact ⟨r, MValK_rel hr, hrest⟩
            · cases h
        · rename_i hm
          simp only [Bool.true_or] at h
          split at h
          · cases h
          · rename_i hg
            have hrest := ih.dr _ _ _ _ _ h _ _ _ _ hP hgo
            simp only [DGo, JStep, hm, hg]
            exact hrest
          · rename_i hg
            split at h
            · cases h
            · rename_i r H' hr
              split at h
              · rename_i hkeep
                have hkp : Keep D it H H' := keepB_spec (by simpa using hkeep)
                have hrest := ih.dr _ _ _ _ _ h _ _ _ _ hP hgo
                split at hr
                · rename_i f args hf
                  obtain ⟨x, xs, caps, hop, hx, rfl⟩ := callF_spec hf
                  have hc := callX_sound hct hft ih hr
                  rw [← hP] at hc
                  obtain ⟨⟨d, op, g⟩, i, tl, ws⟩ := it
                  simp only at hop; subst hop
                  exact DGo_call hg hx (hc.mono fun r' H'' hh => by obtain ⟨rfl, rfl⟩ := hh; exact ⟨hkp, hrest⟩)
                · exact DGo_act hm hg hr hkp hrest
              · cases h

/-- what is reckoned is so -/
theorem ex_calls {P : Program} {ct : CTab} {ft : FTab} (hct : CTabOk P ct) (hft : FTabOk P ft) {n f : Nat} {args : List AV} {H H' : AHeap} {r : AV} (h : callX ct ft (ex ct ft n) f args H = some (r, H')) {Kk : AV → AHeap → Prop} (hk : Kk r H') : ACalls P f args H Kk :=
  (callX_sound hct hft (ex_ok hct hft n n (Nat.le_refl _)) h).mono fun r' H'' hh => by obtain ⟨rfl, rfl⟩ := hh; exact hk
end Go.Sas
namespace Go.Sas

noncomputable def gOkK (e : Env) (g : Option (Od × Bool)) : Option Bool := match g with
  | none => some true
  | some (x, want) => match evK e x with
    | .lit (.bool b) => some (b == want)
    | .lit (.tuple _) => some false
    | _ => none
theorem gOkK_eq {e : Env} {g : Option (Od × Bool)} : gOkK e g = gOk e g := by
  unfold gOkK gOk; rw [evK_eq]; rfl
noncomputable def callK (e : Env) (op : AOp) : Option (Nat × List AV) := match op with
  | .call f xs => match evK e f with
    | .fn fid caps => some (fid, xs.map (evK e) ++ caps)
    | _ => none
  | _ => none
theorem callK_eq {e : Env} {op : AOp} : callK e op = callF e op := by
  unfold callK callF; rw [evK_eq]; rfl

noncomputable def callXK (ct : CTab) (ft : FTab) (ih : XRun) (f : Nat) (args : List AV) (H : AHeap) : Option (AV × AHeap) := match fLook ft f with
  | some g => match g args with
    | some r => some (r, H)
    | none => none
  | none => match cLook ct f with
    | none => none
    | some E => match Nat.beq args.length E.np with
      | false => none
      | true => argsK 0 args fun a => match ih (.go [.code E.ac]) ⟨[], a⟩ H with
        | none => none
        | some (e', H') => retE E.fz E.rs H.length e' H'
theorem callXK_eq {ct : CTab} {ft : FTab} {ih : XRun} {f : Nat} {args : List AV} {H : AHeap} : callXK ct ft ih f args H = callX ct ft ih f args H := by
  unfold callXK callX
  simp only [argsK_eq]
  rfl

section
variable {β : Type}
noncomputable def pairK (x : Option (AV × AHeap)) (f : AV → AHeap → Option β) : Option β := match x with
  | some (r, H) => fAV r fun r => fHp H fun H => f r H
  | none => none
theorem pairK_eq {x : Option (AV × AHeap)} {f : AV → AHeap → Option β} : pairK x f = match x with | some (r, H) => f r H | none => none := by
  unfold pairK
  split
  · rw [fAV_eq, fHp_eq]
  · rfl

noncomputable def retV (x : Option AV) (f : AV → Option β) : Option β := match x with
  | some r => fAV r f
  | none => none
theorem retV_eq {x : Option AV} {f : AV → Option β} : retV x f = match x with | some r => f r | none => none := by
  unfold retV; cases x
  · rfl
  · simp only [fAV_eq]
noncomputable def fB (b : Bool) (f : AV → Option β) : Option β := match b with
  | true => f (.lit (.bool true))
  | false => f (.lit (.bool false))
theorem fB_eq {b : Bool} {f : AV → Option β} : fB b f = f (.lit (.bool b)) := by cases b <;> rfl
noncomputable def fW (n : Int) (f : AV → Option β) : Option β := fI (wrapK n) fun z => f (.lit (.int .i64 z))
theorem fW_eq {n : Int} {f : AV → Option β} : fW n f = f (.lit (.int .i64 (IntKind.i64.wrap n))) := by unfold fW; rw [fI_eq, wrapK_eq]
noncomputable def binI (op : BinOp) (m n : Int) (f : AV → Option β) : Option β := match op with
  | .add => fW (m + n) f
  | .sub => fW (m - n) f
  | .mul => fW (m * n) f
  | .eql => fB (eqK m n) f
  | .neq => fB (!eqK m n) f
  | .lss => fB (ltK m n) f
  | .leq => fB (!ltK n m) f
  | .gtr => fB (ltK n m) f
  | .geq => fB (!ltK m n) f
  | op => retV (binA op (.lit (.int .i64 m)) (.lit (.int .i64 n))) f
noncomputable def binF3 (op : BinOp) (m : Int) (b : AV) (u : Value) (f : AV → Option β) : Option β := match u with
  | .int .i64 n => binI op m n f
  | _ => retV (binA op (.lit (.int .i64 m)) b) f
noncomputable def binF2 (op : BinOp) (m : Int) (b : AV) (f : AV → Option β) : Option β := match b with
  | .lit u => binF3 op m (.lit u) u f
  | b => retV (binA op (.lit (.int .i64 m)) b) f
noncomputable def binF1 (op : BinOp) (u : Value) (b : AV) (f : AV → Option β) : Option β := match u with
  | .int .i64 m => binF2 op m b f
  | u => retV (binA op (.lit u) b) f
noncomputable def binF (op : BinOp) (a b : AV) (f : AV → Option β) : Option β := match a with
  | .lit u => binF1 op u b f
  | a => retV (binA op a b) f
theorem binF_eq {op : BinOp} {a b : AV} {f : AV → Option β} : binF op a b f = retV (binA op a b) f := by
  unfold binF
  split
  · unfold binF1
    split
    · unfold binF2
      split
      · unfold binF3
        split
        · unfold binI
          split <;> first
            | rfl
            | (simp only [fW_eq, fB_eq, retV_eq, binA, if_true, iAdd, iSub, iMul, ltK_eq, eqK_eq, leK_eq]; done)
            | (simp only [fW_eq, fB_eq, retV_eq, binA, if_true, iAdd, iSub, iMul, ltK_eq, eqK_eq, leK_eq]; rfl)
        · rfl
      · rfl
    · rfl
  · rfl
noncomputable def callKK (ct : CTab) (ft : FTab) (ih : XRun) (e : Env) (H : AHeap) (fv : AV) (xs : List Od) (f : AV → AHeap → Option β) : Option β := match fv with
  | .fn fid caps => fL (xs.map (evK e) ++ caps) fun args => pairK (callXK ct ft ih fid args H) f
  | _ => none
noncomputable def othK (e : Env) (H : AHeap) (op : AOp) (f : AV → AHeap → Option β) : Option β := match opVal (evK e) H op with
  | some r => fAV r fun r => f r H
  | none => pairK (opAct (evK e) H op) f

/-- one act -/
noncomputable def actK (ct : CTab) (ft : FTab) (ih : XRun) (e : Env) (H : AHeap) (op : AOp) (f : AV → AHeap → Option β) : Option β := match op with
  | .mv x => fA1 (evK e x) fun r => f r H
  | .bin op x y => binF op (evK e x) (evK e y) fun r => f r H
  | .call g xs => callKK ct ft ih e H (evK e g) xs f
  | .ld n a => retV (ldA H n (evK e a)) fun r => f r H
  | .fa x off => retV (faA H off (evK e x)) fun r => f r H
  | .ia sz x i => retV (iaA H sz (evK e x) (evK e i)) fun r => f r H
  | .len x => retV (lenA H (evK e x)) fun r => f r H
  | .st n a v => pairK (opAct (evK e) H (.st n a v)) f
  | op => othK e H op f
theorem actK_eq {ct : CTab} {ft : FTab} {ih : XRun} {e : Env} {H : AHeap} {op : AOp} {f : AV → AHeap → Option β} : actK ct ft ih e H op f = match actX ct ft ih e H op with | some (r, H) => f r H | none => none := by
  have hv : ∀ op, callF e op = none → actX ct ft ih e H op = opRun (ev e) H op := fun op h => by unfold actX; rw [h]
  have hr : ∀ {op : AOp} {x : Option AV}, opVal (ev e) H op = x → opAct (ev e) H op = none → callF e op = none → retV x (fun r => f r H) = match actX ct ft ih e H op with | some (r, H) => f r H | none => none := by
    intro op x h1 h2 h3
    rw [hv op h3]; unfold opRun; rw [h1, h2, retV_eq]
    cases x <;> rfl
  have ho : ∀ {op : AOp}, callF e op = none → othK e H op f = match actX ct ft ih e H op with | some (r, H) => f r H | none => none := by
    intro op h3
    rw [hv op h3]; unfold opRun othK; rw [evK_eq]
    cases opVal (ev e) H op with
    | some r => simp only; rw [fAV_eq]
    | none => simp only; rw [pairK_eq]
  unfold actK
  rw [evK_eq]
  split
  · rw [fA1_eq, hv _ rfl]; rfl
  · rw [binF_eq]; exact hr rfl rfl rfl
  · rename_i g xs
    generalize hq : ev e g = q
    by_cases hfn : ∃ fid caps, q = .fn fid caps
    · obtain ⟨fid, caps, rfl⟩ := hfn
      have hc : callF e (.call g xs) = some (fid, xs.map (ev e) ++ caps) := by simp only [callF, hq]
      simp only [callKK, actX, hc, evK_eq, fL_eq, pairK_eq, callXK_eq]
    · have hc : callF e (.call g xs) = none := by
        simp only [callF, hq]
        split
        · rename_i fid caps; exact absurd ⟨fid, caps, rfl⟩ hfn
        · rfl
      rw [hv _ hc]
      have : callKK ct ft ih e H q xs f = none := by
        unfold callKK
        split
        · rename_i fid caps; exact absurd ⟨fid, caps, rfl⟩ hfn
        · rfl
      rw [this]; rfl
  · exact hr rfl rfl rfl
  · exact hr rfl rfl rfl
  · exact hr rfl rfl rfl
  · exact hr rfl rfl rfl
  · rw [pairK_eq, hv _ rfl]; rfl
  · rename_i h1 h2 h3 h4 h5 h6 h7 h8
    refine ho ?_
    cases op <;> first | rfl | exact absurd rfl (h3 _ _)
end

noncomputable def drK (ct : CTab) (ft : FTab) (ih : XRun) (ck : Bool) (D : Option DM) (L : List DItm) (e : Env) (H : AHeap) : Option (Env × AHeap) := match L with
  | [] => clrK e fun e => some (e, H)
  | it :: l => match movB it.o.op with
    | true => match D with
      | none => none
      | some D' => match MValK (match ck with | true => D' | false => ⟨H, D'.base, D'.news, H, [], 0, []⟩) it e with
        | some r => fAV r fun r => putK e it.o.dst r fun e => ih (.dr ck D l) e H
        | none => none
    | false => match ck || !it.tail with
     | false => some (e, H)
     | true => match gOkK e it.o.grd with
      | none => none
      | some false => putK e it.o.dst (.lit undef) fun e => ih (.dr ck (nx D it) l) e H
      | some true => pairK (match callK e it.o.op with | some (f, args) => fL args fun args => callXK ct ft ih f args H | none => opAct (evK e) H it.o.op) fun r H' =>
        match !ck || keepB D it H H' with
          | true => putK e it.o.dst r fun e => ih (.dr ck (nx D it) l) e H'
          | false => none
theorem drK_eq {ct : CTab} {ft : FTab} {ih : XRun} {ck : Bool} {D : Option DM} {L : List DItm} {e : Env} {H : AHeap} : drK ct ft ih ck D L e H = drX ct ft ih ck D L e H := by
  unfold drK drX
  split
  · rw [clrK_eq]
  · rename_i it l
    simp only [fAV_eq, putK_eq, pairK_eq, gOkK_eq, callK_eq, evK_eq, fL_eq, callXK_eq]
    cases movB it.o.op with
    | true => rfl
    | false =>
      simp only
      cases hct : (ck || !it.tail) with
      | false => rfl
      | true =>
      simp only
      cases gOk e it.o.grd with
      | none => rfl
      | some b =>
        cases b with
        | false => rfl
        | true =>
          simp only
          cases callF e it.o.op with
          | none => simp only; cases opAct (ev e) H it.o.op <;> rfl
          | some x => obtain ⟨f, args⟩ := x; simp only; cases callX ct ft ih f args H <;> rfl

noncomputable def drawK (ih : XRun) (L : List DItm) (e : Env) (H : AHeap) : Option (Env × AHeap) :=
  fHp (H ++ kept L) fun H1 => fN H.length fun b => match L.any (fun it => !movB it.o.op && !it.tail && !isCallB it.o.op) with
    | false => fHp (mask [] H) fun M => fHp (mask (us1 L []) H) fun M1 => ih (.dr true (some ⟨M, b, (newsOf L).map (·.1), M1, [], 0, []⟩) L) e H1
    | true => match ih (.dr false (some ⟨H, b, (newsOf L).map (·.1), H, [], 0, []⟩) L) e H1 with
      | none => fHp (mask [] H) fun M => fHp (mask (us1 L []) H) fun M1 => ih (.dr true (some ⟨M, b, (newsOf L).map (·.1), M1, [], 0, []⟩) L) e H1
      | some (_, H2) => fHp (mask (diffIds 0 H H2) H) fun M => fHp (mask (us1 L (diffIds 0 H H2)) H) fun M1 => ih (.dr true (some ⟨M, b, (newsOf L).map (·.1), M1, [], 0, []⟩) L) e H1
noncomputable def drawKB (ih : XRun) (L : List DItm) (e : Env) (H : AHeap) : Option (Env × AHeap) := match drawK ih L e H with
  | some x => some x
  | none => drawX2 ih L e H
theorem drawK_eq {ih : XRun} {L : List DItm} {e : Env} {H : AHeap} : drawK ih L e H = drawX ih L e H := by
  unfold drawK drawX
  simp only [fHp_eq, fN_eq]
  split
  · rename_i h; simp only [h]
  · rename_i h
    simp only [h]
    split <;> rename_i h2 <;> simp only [h2]

theorem drawKB_eq {ih : XRun} {L : List DItm} {e : Env} {H : AHeap} : drawKB ih L e H = drawB ih L e H := by
  unfold drawKB drawB; rw [drawK_eq]
  cases drawX ih L e H <;> rfl

noncomputable def doK (ct : CTab) (ft : FTab) (ih : XRun) (d : Option (Bool × Nat)) (op : AOp) (rest : List AOper) (k : List XItm) (e : Env) (H : AHeap) : Option (Env × AHeap) :=
  actK ct ft ih e H op fun r H => putK e d r fun e => ih (.go (.ops rest :: k)) e H
noncomputable def grdK (ct : CTab) (ft : FTab) (ih : XRun) (d : Option (Bool × Nat)) (op : AOp) (g : Option (Od × Bool)) (rest : List AOper) (k : List XItm) (e : Env) (H : AHeap) : Option (Env × AHeap) := match gOkK e g with
  | none => none
  | some b => match b with
    | false => putK e d (.lit undef) fun e => ih (.go (.ops rest :: k)) e H
    | true => doK ct ft ih d op rest k e H
noncomputable def operK (ct : CTab) (ft : FTab) (ih : XRun) (o : AOper) (rest : List AOper) (k : List XItm) (e : Env) (H : AHeap) : Option (Env × AHeap) := match o with
  | ⟨d, op, g⟩ => match g with
    | none => doK ct ft ih d op rest k e H
    | some g => grdK ct ft ih d op (some g) rest k e H
noncomputable def opsK (ct : CTab) (ft : FTab) (ih : XRun) (l : List AOper) (k : List XItm) (e : Env) (H : AHeap) : Option (Env × AHeap) := match l with
  | [] => clrK e fun e => ih (.go k) e H
  | o :: rest => operK ct ft ih o rest k e H
noncomputable def exitK (ih : XRun) (x : Option (List XItm)) (e : Env) (H : AHeap) : Option (Env × AHeap) := match x with
  | some k' => ih (.go k') e H
  | none => none
noncomputable def condK (ih : XRun) (a : AV) (x y : ACode) (k : List XItm) (e : Env) (H : AHeap) : Option (Env × AHeap) := match a with
  | .lit (.bool true) => ih (.go (.code x :: k)) e H
  | .lit (.bool false) => ih (.go (.code y :: k)) e H
  | _ => none
noncomputable def afterK (ih : XRun) (k : List XItm) (x : Option (Env × AHeap)) : Option (Env × AHeap) := match x with
  | some (e', H') => ih (.go k) e' H'
  | none => none
noncomputable def codeK (ih : XRun) (c : ACode) (k : List XItm) (e : Env) (H : AHeap) : Option (Env × AHeap) := match c with
  | .skip => ih (.go k) e H
  | .ret => some (e, H)
  | .seq x y => ih (.go (.code x :: .code y :: k)) e H
  | .block i x => ih (.go (.code x :: .blk i :: k)) e H
  | .exit i => exitK ih (exitX i k) e H
  | .cond z x y => condK ih (evK e z) x y k e H
  | .loop c => clrK e fun e => ih (.go (.code c :: .lp c :: k)) e H
  | .reg l => ih (.go (.ops l :: k)) e H
  | .draw L => afterK ih k (drawKB ih L e H)
  | _ => none
noncomputable def itmK (ct : CTab) (ft : FTab) (ih : XRun) (x : XItm) (k : List XItm) (e : Env) (H : AHeap) : Option (Env × AHeap) := match x with
  | .code c => codeK ih c k e H
  | .ops l => opsK ct ft ih l k e H
  | .blk _ => ih (.go k) e H
  | .lp c => clrK e fun e => ih (.go (.code c :: .lp c :: k)) e H
noncomputable def goK (ct : CTab) (ft : FTab) (ih : XRun) (k : List XItm) (e : Env) (H : AHeap) : Option (Env × AHeap) := match k with
  | [] => some (e, H)
  | x :: k => itmK ct ft ih x k e H
noncomputable def bodyK (ct : CTab) (ft : FTab) (ih : XRun) : XRun := fun m e H => match m with
  | .dr ck D L => drK ct ft ih ck D L e H
  | .go k => goK ct ft ih k e H
theorem bodyK_eq {ct : CTab} {ft : FTab} {ih : XRun} : ∀ {m : XMode} {e : Env} {H : AHeap}, bodyK ct ft ih m e H = bodyX ct ft ih m e H
  | .dr ck D L, e, H => by simp only [bodyK, bodyX, drK_eq]
  | .go [], e, H => rfl
  | .go (.blk _ :: k), e, H => rfl
  | .go (.lp c :: k), e, H => rfl
  | .go (.ops [] :: k), e, H => rfl
  | .go (.ops (⟨d, op, none⟩ :: rest) :: k), e, H => by
    simp only [bodyK, goK, itmK, opsK, operK, doK, bodyX, putK_eq, actK_eq, gOk]
    rfl
  | .go (.ops (⟨d, op, some g⟩ :: rest) :: k), e, H => by
    simp only [bodyK, goK, itmK, opsK, operK, grdK, doK, bodyX, gOkK_eq, putK_eq, actK_eq]
    cases gOk e (some g) with
    | none => rfl
    | some b => cases b <;> rfl
  | .go (.code c :: k), e, H => by
    cases c <;> simp only [bodyK, goK, itmK, codeK, bodyX, clrK_eq, evK_eq, drawKB_eq, exitK, condK, afterK] <;> rfl

noncomputable def exK (ct : CTab) (ft : FTab) (n : Nat) : XRun := Nat.rec (fun _ _ _ => none) (fun _ ih => bodyK ct ft ih) n
theorem exK_eq {ct : CTab} {ft : FTab} : ∀ {n : Nat}, exK ct ft n = ex ct ft n
  | 0 => rfl
  | n + 1 => by
    funext m e H
    have : exK ct ft (n + 1) = bodyK ct ft (exK ct ft n) := rfl
    rw [this, ex, exK_eq, bodyK_eq]

/-- what is reckoned is so: of a function that leaves nothing behind -/
noncomputable def outK (x : Option (AV × AHeap)) : Option AV := match x with
  | some (r, []) => some r
  | _ => none
noncomputable def runK (ct : CTab) (ft : FTab) (n f : Nat) (args : List AV) : Option AV := outK (callXK ct ft (exK ct ft n) f args [])
theorem runK_calls {P : Program} {ct : CTab} {ft : FTab} (hct : CTabOk P ct) (hft : FTabOk P ft) {n f : Nat} {args : List AV} {r : AV} (h : runK ct ft n f args = some r) : ACalls P f args [] fun r' H' => r' = r ∧ H' = [] := by
  unfold runK outK at h
  split at h
  · rename_i r0 hr
    cases h
    rw [callXK_eq, exK_eq] at hr
    exact ex_calls hct hft hr ⟨rfl, rfl⟩
  · cases h
end Go.Sas
namespace Go.Sas
open Go.Proofs
set_option maxRecDepth 100000
def ct32 : CTab := [
  (32, ⟨K32, [], 24, c32, [.t (.g 4), .t (.g 5)], 2, true⟩),
  (40, ⟨K40, [], 15, c40, [.t (.g 6)], 3, false⟩),
  (44, ⟨K44, [], 17, c44, [.t (.g 2)], 1, false⟩),
  (48, ⟨K48, [], 9, c48, [.t (.g 4)], 2, false⟩),
  (49, ⟨K49, [], 6, c49, [.t (.g 2)], 1, false⟩),
  (50, ⟨K50, [], 73, c50, [.t (.g 4)], 2, false⟩),
  (63, ⟨K63, [], 19, c63, [.t (.g 4)], 2, false⟩),
  (65, ⟨K65, [], 9, c65, [], 2, false⟩),
  (66, ⟨K66, [], 15, c66, [.t (.g 5)], 3, false⟩),
  (67, ⟨K67, [], 20, c67, [.t (.g 4)], 2, false⟩),
  (76, ⟨K76, [], 63, c76, [], 3, false⟩),
  (77, ⟨K77, [], 6, c77, [.t (.g 2)], 1, false⟩),
  (86, ⟨K86, [], 53, c86, [], 4, false⟩)]
theorem ct32_ok : CTabOk Try.prog ct32 :=
  .cons (fun _ _ _ hn h => go32 hn h) (.cons (fun _ _ _ hn h => go40 hn h) (.cons (fun _ _ _ hn h => go44 hn h) (.cons (fun _ _ _ hn h => go48 hn h) (.cons (fun _ _ _ hn h => go49 hn h) (.cons (fun _ _ _ hn h => go50 hn h) (.cons (fun _ _ _ hn h => go63 hn h) (.cons (fun _ _ _ hn h => go65 hn h) (.cons (fun _ _ _ hn h => go66 hn h) (.cons (fun _ _ _ hn h => go67 hn h) (.cons (fun _ _ _ hn h => go76 hn h) (.cons (fun _ _ _ hn h => go77 hn h) (.cons (fun _ _ _ hn h => go86 hn h) (.nil)))))))))))))

theorem r32 : runK ct32 [] 3000 32 [I 10, .vs 1 [I 1, I 2]] = some (.tup [.vs 1 [I 3, I 7], I 0]) := by kernel_rfl
def ctSm : CTab := [
  (33, ⟨K33, [], 26, c33, [.t (.g 4)], 2, false⟩)]
theorem ctSm_ok : CTabOk Try.prog ctSm := .cons (fun _ _ _ hn h => go33 hn h) .nil
theorem r33 : runK ctSm [] 300 33 [.vs 1 [I 3, I 7], .vs 1 [I 3, I 7]] = some (B true) := by kernel_rfl
def eShW : List AV → Option ((AV → Prop) → Prop)
  | [.lit (.int .i64 a), .vs 1 ws] => some fun K => (a = 10 ∧ ws = [I 1, I 2]) ∧ ∀ ys, ys = [I 3, I 7] → K (.tup [.vs 1 ys, I 0])
  | _ => none
theorem eShW_ok : ∀ args pt, eShW args = some pt → ∀ (H : AHeap) (Kk : AV → AHeap → Prop), pt (fun r => Kk r H) → ACalls Try.prog 32 args H Kk := by
  intro args pt h H Kk hk
  unfold eShW at h
  split at h
  · cases h
    obtain ⟨⟨rfl, rfl⟩, h3⟩ := hk
    exact liftP (runK_calls ct32_ok .nil r32) rfl rfl H (h3 _ rfl)
  · cases h
def eSmW : List AV → Option ((AV → Prop) → Prop)
  | [.vs 1 xs, .vs 1 ys] => some fun K => (xs = [I 3, I 7] ∧ ys = [I 3, I 7]) ∧ K (B true)
  | _ => none
theorem eSmW_ok : ∀ args pt, eSmW args = some pt → ∀ (H : AHeap) (Kk : AV → AHeap → Prop), pt (fun r => Kk r H) → ACalls Try.prog 33 args H Kk := by
  intro args pt h H Kk hk
  unfold eSmW at h
  split at h
  · cases h
    obtain ⟨⟨rfl, rfl⟩, h3⟩ := hk
    exact liftP (runK_calls ctSm_ok .nil r33) rfl rfl H h3
  · cases h
theorem p31 (n : Int) (H : AHeap) {Kk : AV → AHeap → Prop} (h : Kk (.agg [I n, I n]) H) : ACalls Try.prog 31 [I n] H Kk := by
  refine (fun q => pureC (by rfl) (by rfl) q H h) ?_
  clear h
  intro Kk h
  obtain ⟨A, hA⟩ : ∃ A, A = std := ⟨_, rfl⟩
  refine go31 rfl (SGo_run hA ⟨[], [], [], []⟩ .nil .nil 200 fun T TD hT hTD => ?_)
  cbv
  exact h
def eOneW : List AV → Option ((AV → Prop) → Prop)
  | [.lit (.int .i64 n)] => some fun K => K (.agg [I n, I n])
  | _ => none
theorem eOneW_ok : ∀ args pt, eOneW args = some pt → ∀ (H : AHeap) (Kk : AV → AHeap → Prop), pt (fun r => Kk r H) → ACalls Try.prog 31 args H Kk := by
  intro args pt h H Kk hk
  unfold eOneW at h
  split at h
  · cases h; exact p31 _ H hk
  · cases h
def exRW : List Rch := [⟨2, 10, 0, 0, 5⟩]
def exLW : List Lk := [⟨1, 0, 0, 500, 500⟩]
theorem knownW : knownR exRW 0 0 0 exLW 1 3 = ((490, 510), 0) := by decide
theorem p17 (H : AHeap) {Kk : AV → AHeap → Prop} (h : Kk (B true) H) : ACalls Try.prog 17 [] H Kk := by
  refine (fun q => pureC (by rfl) (by rfl) q H h) ?_
  clear h
  intro Kk h
  obtain ⟨A, hA⟩ : ∃ A, A = std := ⟨_, rfl⟩
  refine go17 rfl (SGo_run hA ⟨[], [], (31, eOneW) :: (30, eKnown) :: (32, eShW) :: (33, eSmW) :: [], []⟩ (.cons eOneW_ok (.cons (eKnown_ok p30) (.cons eShW_ok (.cons eSmW_ok .nil)))) .nil 200 fun T TD hT hTD => ?_)
  cbv
  refine Exists.intro exRW (Exists.intro exLW (And.intro rfl (And.intro rfl (And.intro (by decide) (And.intro (by decide) ?_)))))
  intro u v e huv; cbv
  have huv := huv.trans knownW
  simp only [Prod.mk.injEq] at huv
  obtain ⟨⟨rfl, rfl⟩, rfl⟩ := huv
  refine And.intro (by subst hA; first | (simp [std, Keep, SubH, ResK]; done) | exact .inr ⟨⟨rfl, SubH.self _⟩, trivial, .inr fun _ => ⟨rfl, SubH.self _⟩⟩ | exact .inr ⟨SubH.self _, trivial, .inr fun _ => SubH.self _⟩ | exact .inr ⟨by simp [SubH], trivial, .inl rfl⟩ | exact .inr ⟨by simp [SubH], trivial, .inr fun _ => by simp [SubH]⟩) ?_
  cbv
  cbv
  intro ys hys; cbv
  have e0 : A.eq 0 0 = true := by subst hA; rfl
  have e1 : A.eq 490 490 = true := by subst hA; rfl
  have e2 : A.eq 510 510 = true := by subst hA; rfl
  have e4 : A.band (A.eq 490 490) (A.band (A.eq 510 510) true) = true := by subst hA; rfl
  split <;> first | (rename_i hz; exact Bool.noConfusion (hz.symm.trans e0)) | cbv
  split <;> first | (rename_i hz; exact Bool.noConfusion (hz.symm.trans e0)) | cbv
  split <;> first | (rename_i hz; exact Bool.noConfusion (hz.symm.trans e4)) | cbv
  exact And.intro ⟨hys, trivial⟩ h
end Go.Sas
namespace Go.Sas
open Go.Proofs
set_option maxRecDepth 100000
/-- a plan made of numbers -/
def PlanQ (n : Nat) (r : AV) : Prop := ∃ (xs : List AV) (p : List Nat), r = .vs 1 xs ∧ xs = p.map natI ∧ p.Perm (List.range n)
theorem Elems_nat (l : List Nat) : Elems 1 (l.map natI) (l.map natI) := by
  have := Elems_I (l.map iLen)
  rw [List.map_map] at this; exact this
theorem updS_map {p : List Nat} {i x : Nat} (h : i < p.length) : updS 1 (p.map natI) i [natI x] ((p.set i x).map natI) := by
  refine ⟨rfl, by simp; omega, ?_⟩
  rw [List.set_eq_take_append_cons_drop, if_pos h]
  simp [List.map_append, List.map_take, List.map_drop]
theorem getS_map {p : List Nat} {i x : Nat} (h : p[i]? = some x) : getS none (p.map natI) i (natI x) := by
  simp [getS, getN, h]
theorem d12 (n : Nat) (hn : n ≤ 1000) : Draws Try.prog 12 [I (iLen n)] (PlanQ n) := by
  refine .of rfl (by rintro r ⟨_, _, rfl, _⟩; rfl) fun w Kk h => ACalls.frees ?_
  obtain ⟨A, hA⟩ : ∃ A, A = std := ⟨_, rfl⟩
  have hsg : ∀ g, A.sg g g := by subst hA; exact fun _ => rfl
  obtain ⟨F, hF⟩ : ∃ F, F = Frees 1 Kk := ⟨_, rfl⟩
  rw [show Frees [AObj.own 0 [U w]].length Kk = F from hF.symm]
  obtain ⟨iN, hiN⟩ : ∃ i : Int, i = iLen n := ⟨_, rfl⟩
  rw [← hiN]
  refine go12 rfl (SGo_run hA ⟨[], [], [], ed3F⟩ .nil ed3_okF 200 fun T TD hT hTD => ?_)
  cbv
  rw [hT]
  refine AGo_nilms 5 1 rfl ?_
  refine AGo_upE [0, 1] n (fun j (_ : Unit) => True) (fun j _ i => [(5, .ms 1 1 j 0 j), (6, I i)]) (fun j _ => [.own 0 [U w], .own j ((List.range j).map natI)]) () trivial ⟨rfl, rfl, trivial⟩ (.inl rfl) fun j _ i hi hj _ Bk hB => ?_
  have hlt : A.lt i iN = decide (j < n) := by subst hA; simp only [std, iLt, hi, hiN]; rw [Bool.eq_iff_iff]; unfold iLen; simp only [decide_eq_true_eq]; omega
  have hadd : ∀ N, j < N → N ≤ 9223372036854775807 → A.add .i64 i 1 = iLen (j + 1) := fun N hj hN => by subst hA; exact add_one hi hj hN
  obtain ⟨cc, hcc⟩ : ∃ c, c = (List.range j).map natI := ⟨_, rfl⟩
  rw [← hcc]
  refine SGo_run hA ⟨[1], [], [], ed3F⟩ .nil ed3_okF 200 fun T TD hT hTD => ?_
  cbv
  split <;> cbv
  · rename_i hk0
    have hk1 : j < n := by have hz := hlt.symm.trans hk0; simpa using hz
    clear hk0
    refine And.intro (hsg _) (Exists.intro (cc ++ [I i]) (Exists.intro (j + 1) (And.intro ?_ (And.intro rfl ?_))))
    · subst hA; exact app_one (by rw [hcc]; simp) rfl (by omega)
    generalize hc2 : cc ++ _ = cc2
    cbv
    refine hB () _ _ hk1 trivial ⟨rfl, congrArg I (hadd _ hk1 (by omega)), trivial⟩ ⟨rfl, rfl, trivial⟩ (.inl (by rw [← hc2, hcc, hi, List.range_succ]; simp))
  · rename_i hk0
    have hk1 : ¬ j < n := by have hz := hlt.symm.trans hk0; simpa using hz
    clear hk0
    have hjn : j = n := by omega
    subst hjn
    clear hB hadd hlt
    rw [hT]
    have hsub : A.sub .i64 iN 1 = iN - 1 := by unfold iLen at hiN; subst hA; exact iSub_id (by omega) (by omega)
    refine AGo_whileE (σ := Int × Int × List Nat) [0, 5] (fun s => s.2.1.toNat) (fun s => s.2.1 < iN ∧ -1 ≤ s.2.1 ∧ s.2.2.Perm (List.range j)) (fun s => [(7, I s.2.1)]) (fun s => [.own 0 [U s.1], .own j (s.2.2.map natI)]) (w, iN - 1, List.range j) ⟨by dsimp only; omega, by dsimp only; unfold iLen at hiN; omega, .refl _⟩ ⟨congrArg I hsub, trivial⟩ (.inl (by rw [hcc])) fun s hP Bk hB => ?_
    obtain ⟨w2, d, p⟩ := s
    obtain ⟨hd1, hd2, hp⟩ := hP
    dsimp only at hd1 hd2 hp ⊢
    have hpl : p.length = j := by rw [hp.length_eq]; simp
    obtain ⟨pc, hpc⟩ : ∃ c, c = p.map natI := ⟨_, rfl⟩
    rw [← hpc]
    have hgt : A.lt 0 d = decide (0 < d) := by subst hA; rfl
    refine SGo_run hA ⟨[1], [2000001], [], ed3F⟩ .nil ed3_okF 200 fun T TD hT hTD => ?_
    cbv
    split <;> cbv
    · rename_i hq
      have hq1 : 0 < d := by have hq := hgt.symm.trans hq; simpa using hq
      clear hq
      have hadd1 : A.add .i64 d 1 = d + 1 := by unfold iLen at hiN; subst hA; exact iAdd_id (by omega) (by omega)
      refine Exists.intro () (And.intro (by show A.add .i64 d 1 ≤ _; rw [hadd1]; unfold iLen at hiN; omega) ?_)
      rintro w3 _ ⟨k, rfl, hk1, hk2⟩
      have hk2 : k < A.add .i64 d 1 ∨ k = 0 := hk2
      rw [hadd1] at hk2
      cbv
      obtain ⟨dn, hdn⟩ : ∃ x : Nat, d = iLen x := ⟨d.toNat, by unfold iLen; omega⟩
      obtain ⟨kn, hkn⟩ : ∃ x : Nat, k = iLen x := ⟨k.toNat, by unfold iLen; omega⟩
      have hdj : dn < j := by unfold iLen at hdn hiN; omega
      have hkj : kn < j := by unfold iLen at hkn hdn hiN; omega
      have hx1 : A.ixm 1 1 0 j k kn := by subst hA; exact ixm1 hkn hkj
      have hx2 : A.ixm 1 1 0 j d dn := by subst hA; exact ixm1 hdn hdj
      obtain ⟨xk, hxk⟩ : ∃ x, p[kn]? = some x := ⟨_, List.getElem?_eq_getElem (by omega)⟩
      obtain ⟨xd, hxd⟩ : ∃ x, p[dn]? = some x := ⟨_, List.getElem?_eq_getElem (by omega)⟩
      obtain ⟨vk, hvk⟩ : ∃ v, v = natI xk := ⟨_, rfl⟩
      obtain ⟨vd, hvd⟩ : ∃ v, v = natI xd := ⟨_, rfl⟩
      have hg1 : A.get none pc kn (natI xk) := by subst hA; rw [hpc]; exact getS_map hxk
      have hg2 : A.get none pc dn (natI xd) := by subst hA; rw [hpc]; exact getS_map hxd
      have hu1 : A.upd 1 pc dn [natI xk] ((p.set dn xk).map natI) := by subst hA; rw [hpc]; exact updS_map (by omega)
      have hu2 : A.upd 1 ((p.set dn xk).map natI) kn [natI xd] (((p.set dn xk).set kn xd).map natI) := by subst hA; exact updS_map (by simp; omega)
      have hpm : ((p.set dn xk).set kn xd).Perm (List.range j) := by
        obtain ⟨g1, rfl⟩ := List.getElem?_eq_some_iff.1 hxk
        obtain ⟨g2, rfl⟩ := List.getElem?_eq_some_iff.1 hxd
        exact (List.set_set_perm g2 g1).trans hp
      obtain ⟨p1, hp1⟩ : ∃ v, v = (p.set dn xk).map natI := ⟨_, rfl⟩
      obtain ⟨p2, hp2⟩ : ∃ v, v = ((p.set dn xk).set kn xd).map natI := ⟨_, rfl⟩
      obtain ⟨ik, hik⟩ : ∃ v, v = iLen xk := ⟨_, rfl⟩
      obtain ⟨idd, hid⟩ : ∃ v, v = iLen xd := ⟨_, rfl⟩
      have hg1 : A.get none pc kn (I ik) := by rw [hik]; exact hg1
      have hg2 : A.get none pc dn (I idd) := by rw [hid]; exact hg2
      have hu1 : A.upd 1 pc dn [I ik] p1 := by rw [hik, hp1]; exact hu1
      have hu2 : A.upd 1 p1 kn [I idd] p2 := by rw [hid, hp2, hp1]; exact hu2
      refine And.intro (hsg _) (Exists.intro kn (And.intro hx1 ?_)); cbv
      refine And.intro (hsg _) (Exists.intro _ (And.intro hg1 ?_)); cbv
      refine And.intro (hsg _) (Exists.intro dn (And.intro hx2 ?_)); cbv
      refine And.intro (hsg _) (Exists.intro _ (And.intro hg2 ?_)); cbv
      refine And.intro (hsg _) (Exists.intro dn (And.intro hx2 ?_)); cbv
      refine And.intro (hsg _) (Exists.intro p1 (And.intro hu1 ?_)); cbv
      refine And.intro (by subst hA; exact .inr ⟨⟨rfl, rfl, trivial⟩, trivial, .inl rfl⟩) ?_; cbv
      refine And.intro (hsg _) (Exists.intro kn (And.intro hx1 ?_)); cbv
      refine And.intro (hsg _) (Exists.intro p2 (And.intro hu2 ?_)); cbv
      have hsub3 : A.sub .i64 d 1 = d - 1 := by unfold iLen at hiN; subst hA; exact iSub_id (by omega) (by omega)
      refine hB (w3, d - 1, (p.set dn xk).set kn xd) _ _ (by dsimp only; omega) ⟨by dsimp only; omega, by dsimp only; omega, hpm⟩ ⟨congrArg I hsub3, trivial⟩ ⟨rfl, rfl, trivial⟩ (.inl (by rw [hp2]))
    · rw [hF]
      refine Frees.row (xs := p.map natI) (by rw [hpc]; exact Elems_nat p) (frz_self (by simp [hpl])) rfl (h _ _ ⟨_, p, rfl, rfl, hp⟩)
end Go.Sas
namespace Go.Sas
open Go.Proofs
set_option maxRecDepth 100000
/-- a winter lies within a freight -/
structure WinV (f : Frt) (w : Win) : Prop where
  fi : f.fi.1 ≤ w.fi ∧ w.fi ≤ f.fi.2
  la : f.la.1 ≤ w.la ∧ w.la ≤ f.la.2
  len : w.caps.length = f.caps.length
  cap : ∀ (i : Nat) (x : Int) (c : Int × Int), w.caps[i]? = some x → f.caps[i]? = some c → c.1 ≤ x ∧ x ≤ c.2
end Go.Sas
namespace Go.Sas
open Go.Proofs
set_option maxRecDepth 100000
/-- a plan of so many orders -/
def PlanP (n : Nat) (l : List Int) : Prop := l.length = n ∧ (∀ k ∈ l, 0 ≤ k ∧ k ≤ (n : Int) - 1) ∧ l.Nodup
instance (n : Nat) (l : List Int) : Decidable (PlanP n l) := inferInstanceAs (Decidable (_ ∧ _ ∧ _))
def rowB (D : Nat) (f : Nat → Bool) : List AV := (List.range D).map fun d => B (f d)
theorem rowB_len {D : Nat} {f : Nat → Bool} : (rowB D f).length = D := by simp [rowB]
theorem getS_rowB {D d : Nat} {f : Nat → Bool} (h : d < D) : getS none (rowB D f) d (B (f d)) := by simp [getS, getN, rowB, h]
theorem updS_rowB {D d : Nat} {f : Nat → Bool} {v : Bool} (h : d < D) : updS 1 (rowB D f) d [B v] (rowB D (updF f d v)) := by
  refine ⟨rfl, by rw [rowB_len]; omega, ?_⟩
  have : (rowB D f).set d (B v) = rowB D (updF f d v) := by
    apply List.ext_getElem?; intro i
    rw [List.getElem?_set]
    by_cases hi : i < D
    · by_cases hd : d = i
      · subst hd; simp [rowB, hi, updF]
      · rw [if_neg hd]; simp [rowB, hi, updF]; intro h; exact absurd h.symm hd
    · simp [rowB, hi]; intro h; omega
  rw [← this, List.set_eq_take_append_cons_drop, if_pos (by rw [rowB_len]; exact h)]
  simp
theorem take_succ_mem {α : Type} {l : List α} {j : Nat} {x : α} (hx : l[j]? = some x) : l.take (j + 1) = l.take j ++ [x] := by
  obtain ⟨h, rfl⟩ := List.getElem?_eq_some_iff.1 hx
  exact List.take_succ_eq_append_getElem h
theorem p26 (a b c d : Int) (xs : List AV) (os : List Ord) (plan : List Int) (hn : 1 ≤ os.length ∧ os.length ≤ 6) (hp : plan.length ≤ 9223372036854775807) (H : AHeap) {Kk : AV → AHeap → Prop} (h : Kk (B (decide (PlanP os.length plan))) H) :
    ACalls Try.prog 26 [frV a b c d (.vs 2 xs) (.vs 4 (os.map orV)), .vs 1 (plan.map I)] H Kk := by
  refine (fun q => pureC (by rfl) (by rfl) q H h) ?_
  clear h
  intro Kk h
  obtain ⟨ys, hys⟩ : ∃ ys, ys = os.map orV := ⟨_, rfl⟩
  obtain ⟨ps, hps⟩ : ∃ ys, ys = plan.map I := ⟨_, rfl⟩
  rw [← hys, ← hps]
  obtain ⟨N, hN⟩ : ∃ N, N = os.length := ⟨_, rfl⟩
  rw [← hN] at h hn
  obtain ⟨W, hW⟩ : ∃ W, W = decide (PlanP N plan) := ⟨_, rfl⟩
  rw [← hW] at h
  obtain ⟨A, hA⟩ : ∃ A, A = std := ⟨_, rfl⟩
  have hv2 : A.vlen ys = iLen N := by subst hA; simp [std, hys, hN]
  have hsg : ∀ g, A.sg g g := by subst hA; exact fun _ => rfl
  have hnb : ∀ b, A.bnot b = !b := by subst hA; intro b; rfl
  refine go26 rfl (SGo_run hA ⟨[1], [], [], []⟩ .nil .nil 200 fun T TD hT hTD => ?_)
  cbv
  rw [hT]
  refine AGo_upE [1, 2, 5, 8, 9] plan.length (fun j (f : Nat → Bool) => (∀ k ∈ plan.take j, 0 ≤ k ∧ k ≤ iLen N - 1) ∧ (plan.take j).Nodup ∧ ∀ k : Nat, f k = true ↔ (iLen k ∈ plan.take j)) (fun j _ i => [(10, I i)])
    (fun j f => [.own 0 [I a, I b, I c, I d, .vs 2 xs, .vs 4 ys], .own 0 (rowB 6 f)]) (fun _ => false) ⟨by simp, by simp, by simp⟩ ⟨rfl, trivial⟩ (.inl rfl) fun j f i hi hj hP Bk hB => ?_
  have hlt : A.lt i (A.vlen ps) = decide (j < plan.length) := by subst hA; exact lt_len (by simp [hps]) hi
  have hadd : ∀ N, j < N → N ≤ 9223372036854775807 → A.add .i64 i 1 = iLen (j + 1) := fun N hj hN => by subst hA; exact add_one hi hj hN
  obtain ⟨hP1, hP2, hP3⟩ := hP
  obtain ⟨cc, hcc⟩ : ∃ r, r = rowB 6 f := ⟨_, rfl⟩
  rw [← hcc]
  have hsub : A.sub .i64 (A.vlen ys) 1 = iLen N - 1 := by rw [hv2]; subst hA; exact iSub_id (by unfold iLen; omega) (by unfold iLen; omega)
  refine SGo_run hA ⟨[1], [], (40, eInF) :: [], []⟩ (.cons (eIn_okF p40) .nil) .nil 200 fun T TD hT hTD => ?_
  cbv
  split <;> cbv
  · rename_i hk0
    have hk1 : j < plan.length := by have hz := hlt.symm.trans hk0; simpa using hz
    clear hk0
    obtain ⟨x, hx⟩ : ∃ x, plan[j]? = some x := ⟨_, List.getElem?_eq_getElem hk1⟩
    have hix : A.ix 1 1 ps i [I x] := by subst hA; exact ix_map hps hi hx rfl
    have htk := take_succ_mem hx
    have hxm : x ∈ plan := List.mem_of_getElem? hx
    refine Exists.intro _ (And.intro hix ?_); cbv
    intro q hq
    have hq : q = decide (0 ≤ x ∧ x ≤ A.sub .i64 (A.vlen ys) 1) := hq
    rw [hsub] at hq
    cbv
    split <;> cbv
    · rename_i hz
      have hz : q = false := by have hz := (hnb q).symm.trans hz; simpa using hz
      refine leaf h (congrArg B ?_) rfl
      rw [hW, decide_eq_false_iff_not]
      intro hP
      rw [hz] at hq
      have := of_decide_eq_false hq.symm
      exact this (hP.2.1 x hxm)
    · rename_i hz
      have hz : q = true := by have hz := (hnb q).symm.trans hz; simpa using hz
      rw [hz] at hq
      have hxb := of_decide_eq_true hq.symm
      obtain ⟨k, hk⟩ : ∃ k : Nat, x = iLen k := ⟨x.toNat, by unfold iLen; omega⟩
      have hk6 : k < 6 := by unfold iLen at hk hxb; omega
      have hxk : A.ixm 1 1 0 6 x k := by subst hA; exact ixm1 hk hk6
      have hg : A.get none cc k (B (f k)) := by subst hA; rw [hcc]; exact getS_rowB hk6
      obtain ⟨fk, hfk⟩ : ∃ v, v = f k := ⟨_, rfl⟩
      rw [← hfk] at hg
      refine And.intro (hsg _) (Exists.intro k (And.intro hxk ?_)); cbv
      refine And.intro (hsg _) (Exists.intro _ (And.intro hg ?_)); cbv
      split <;> cbv
      · rename_i hz2
        refine leaf h (congrArg B ?_) rfl
        rw [hW, decide_eq_false_iff_not]
        intro hP
        have hm := (hP3 k).1 hfk.symm
        rw [← hk] at hm
        have h5 : (plan.take (j + 1)).Nodup := hP.2.2.sublist (List.take_sublist _ _)
        rw [htk, List.nodup_append] at h5
        exact h5.2.2 x hm x (by simp) rfl
      · have hu : A.upd 1 cc k [B true] (rowB 6 (updF f k true)) := by subst hA; rw [hcc]; exact updS_rowB hk6
        obtain ⟨c2, hc2⟩ : ∃ r, r = rowB 6 (updF f k true) := ⟨_, rfl⟩
        rw [← hc2] at hu
        refine And.intro (hsg _) (Exists.intro k (And.intro hxk ?_)); cbv
        refine And.intro (hsg _) (Exists.intro c2 (And.intro hu ?_)); cbv
        have hnm : x ∉ plan.take j := fun hm => by rw [hk] at hm; have := (hP3 k).2 hm; rw [← hfk] at this; cases this
        refine hB (updF f k true) _ _ hk1 ⟨?_, ?_, ?_⟩ ⟨congrArg I (hadd _ hk1 (by omega)), trivial⟩ ⟨rfl, rfl, rfl, rfl, rfl, trivial⟩ (.inl (by rw [hc2]))
        · rw [htk]; intro y hy
          rcases List.mem_append.1 hy with hy | hy
          · exact hP1 y hy
          · simp at hy; subst hy; exact hxb
        · rw [htk, List.nodup_append]
          exact ⟨hP2, by simp, fun y hy z hz3 => by simp at hz3; subst hz3; rintro rfl; exact hnm hy⟩
        · intro y
          rw [htk, List.mem_append, ← hP3 y]
          unfold updF
          by_cases hy : y = k
          · subst hy; simp [hk]
          · rw [if_neg hy]
            have : iLen y ≠ x := by rw [hk]; unfold iLen; omega
            simp [this]
  · rename_i hk0
    have hk1 : ¬ j < plan.length := by have hz := hlt.symm.trans hk0; simpa using hz
    clear hk0
    refine leaf h (congrArg B ?_) rfl
    have hjl : j = plan.length := by omega
    rw [hjl, List.take_length] at hP1 hP2
    rw [hW, Bool.eq_iff_iff]
    have hpl : A.eq (A.vlen ps) (A.vlen ys) = decide (plan.length = N) := by
      rw [hv2]; subst hA; simp only [std, iEq, hps]; rw [Bool.eq_iff_iff]; unfold iLen; simp only [beq_iff_eq, decide_eq_true_eq, List.length_map]; omega
    show decide (PlanP N plan) = true ↔ A.eq (A.vlen ps) (A.vlen ys) = true
    rw [hpl, decide_eq_true_eq, decide_eq_true_eq]
    exact ⟨fun hP => hP.1, fun h9 => ⟨h9, hP1, hP2⟩⟩
end Go.Sas
namespace Go.Sas
open Go.Proofs
set_option maxRecDepth 100000
def worstW (f : Frt) : Win := ⟨f.fi.2, f.la.1, f.caps.map (·.1)⟩
def bestW (f : Frt) : Win := ⟨f.fi.1, f.la.2, f.caps.map (·.2)⟩
end Go.Sas
namespace Go.Sas
open Go.Proofs
set_option maxRecDepth 100000
def planN (l : List Int) : List Nat := l.map Int.toNat
theorem PlanP.nat {n : Nat} {l : List Int} (h : PlanP n l) : l.map I = (planN l).map natI ∧ ∀ k ∈ planN l, k < n := by
  refine ⟨?_, fun k hk => ?_⟩
  · rw [planN, List.map_map]
    apply List.map_congr_left
    intro x hx
    have := h.2.1 x hx
    show I x = I (iLen x.toNat)
    rw [show iLen x.toNat = x from by unfold iLen; omega]
  · obtain ⟨x, hx, rfl⟩ := List.mem_map.1 hk
    have := h.2.1 x hx; omega
theorem planN_len {l : List Int} : (planN l).length = l.length := by simp [planN]
def eIsPlan : List AV → Option ((AV → Prop) → Prop)
  | [.agg [.lit (.int .i64 _), .lit (.int .i64 _), .lit (.int .i64 _), .lit (.int .i64 _), .vs 2 _, .vs 4 ys], .vs 1 ps] =>
    some fun K => ∃ (os : List Ord) (plan : List Int), ys = os.map orV ∧ ps = plan.map I ∧ (1 ≤ os.length ∧ os.length ≤ 6) ∧ plan.length ≤ 9223372036854775807 ∧ ∀ q, q = decide (PlanP os.length plan) → K (B q)
  | _ => none
theorem eIsPlan_ok : ∀ args pt, eIsPlan args = some pt → ∀ (H : AHeap) (Kk : AV → AHeap → Prop), pt (fun r => Kk r H) → ACalls Try.prog 26 args H Kk := by
  intro args pt h H Kk hk
  unfold eIsPlan at h
  split at h
  · cases h
    obtain ⟨os, plan, rfl, rfl, h1, h2, h3⟩ := hk
    exact p26 _ _ _ _ _ _ _ h1 h2 H (h3 _ rfl)
  · cases h
/-- what a plan delivers in a winter -/
def tellW (f : Frt) (w : Win) (p : List Nat) : List Dlv := tellS f.ords (rowsF f.ords.length f.caps.length (spreadG (roomW w) p (unitS f.ords) f.caps.length))
end Go.Sas
namespace Go.Sas
open Go.Proofs
set_option maxRecDepth 100000
def inB (x : Int) (c : Int × Int) : Bool := decide (c.1 ≤ x ∧ x ≤ c.2)
def winB (f : Frt) (w : Win) : Bool := (inB w.fi f.fi && inB w.la f.la) && (w.caps.zip f.caps).all fun p => inB p.1 p.2
def checkWinterS (f : Frt) (w : Win) : Int := if checkF f ≠ 0 then checkF f else if w.caps.length ≠ f.caps.length then 3 else if winB f w then 0 else 2
theorem all_take_succ {α : Type} {l : List α} {j : Nat} {x : α} {p : α → Bool} (hx : l[j]? = some x) : (l.take (j + 1)).all p = ((l.take j).all p && p x) := by
  rw [take_succ_mem hx, List.all_append]; simp
theorem p25 (a b c d u v : Int) (cs : List (Int × Int)) (os : List Ord) (ws : List Int) (hc : cs.length ≤ 9223372036854775807) (ho : os.length ≤ 9223372036854775807) (hw : ws.length ≤ 9223372036854775807) (H : AHeap) {Kk : AV → AHeap → Prop} (h : Kk (I (checkWinterS ⟨(a, b), (c, d), cs, os⟩ ⟨u, v, ws⟩)) H) :
    ACalls Try.prog 25 [frV a b c d (.vs 2 (cs.map sp)) (.vs 4 (os.map orV)), winV u v (.vs 1 (ws.map I))] H Kk := by
  refine (fun q => pureC (by rfl) (by rfl) q H h) ?_
  clear h
  intro Kk h
  obtain ⟨xs, hxs⟩ : ∃ xs, xs = cs.map sp := ⟨_, rfl⟩
  obtain ⟨ys, hys⟩ : ∃ ys, ys = os.map orV := ⟨_, rfl⟩
  obtain ⟨zs, hzs⟩ : ∃ ys, ys = ws.map I := ⟨_, rfl⟩
  rw [← hxs, ← hys, ← hzs]
  obtain ⟨W, hW⟩ : ∃ W, W = checkWinterS ⟨(a, b), (c, d), cs, os⟩ ⟨u, v, ws⟩ := ⟨_, rfl⟩
  rw [← hW] at h
  obtain ⟨A, hA⟩ : ∃ A, A = std := ⟨_, rfl⟩
  have hnb : ∀ b, A.bnot b = !b := by subst hA; intro b; rfl
  have hne : ∀ x, A.ne x 0 = decide (x ≠ 0) := by subst hA; intro x; simp only [std, iNe]; rw [Bool.eq_iff_iff]; simp
  have hnl : A.ne (A.vlen zs) (A.vlen xs) = decide (ws.length ≠ cs.length) := by
    subst hA; simp only [std, iNe, hxs, hzs]; rw [Bool.eq_iff_iff]; unfold iLen; simp only [bne_iff_ne, ne_eq, List.length_map, decide_eq_true_eq]; omega
  refine go25 rfl (SGo_run hA ⟨[], [], (39, eCheckFr) :: (40, eInF) :: [], []⟩ (.cons (eCheckFr_ok p39) (.cons (eIn_okF p40) .nil)) .nil 200 fun T TD hT hTD => ?_)
  cbv
  refine Exists.intro cs (Exists.intro os (And.intro hxs (And.intro hys (And.intro hc (And.intro ho ?_)))))
  intro q hq; cbv
  unfold checkWinterS at hW
  rw [← hq] at hW
  split <;> cbv
  · rename_i hz
    have hz : q ≠ 0 := by have hz := (hne q).symm.trans hz; simpa using hz
    rw [if_pos hz] at hW
    exact leaf h (congrArg I hW) rfl
  rename_i hz
  have hz : q = 0 := by have hz := (hne q).symm.trans hz; simpa using hz
  rw [if_neg (by simp [hz])] at hW
  split <;> cbv
  · rename_i hz2
    have hz2 := hnl.symm.trans hz2
    simp only [decide_eq_true_eq] at hz2
    rw [if_pos hz2] at hW
    exact leaf h (congrArg I hW) rfl
  rename_i hz2
  have hz2 : ws.length = cs.length := by have hz2 := hnl.symm.trans hz2; simpa using hz2
  rw [if_neg (by simp [hz2])] at hW
  intro q1 hq1; cbv
  split <;> cbv
  · intro q2 hq2; cbv
    rw [hT]
    have hr0 : q2 = (inB u (a, b) && inB v (c, d)) := (by rw [hq2]; have h1 : inB u (a, b) = true := hq1.symm; rw [h1]; rfl)
    obtain ⟨Z, hZ⟩ : ∃ Z, Z = ws.zip cs := ⟨_, rfl⟩
    have hZl : Z.length = ws.length := by rw [hZ]; simp [hz2]
    refine AGo_upE [2, 42, 43] ws.length (fun j (r : Bool) => r = (q2 && (Z.take j).all fun p => inB p.1 p.2)) (fun j r i => [(6, B r), (44, I i)]) (fun _ _ => [.own 0 [I a, I b, I c, I d, .vs 2 xs, .vs 4 ys], .own 0 [I u, I v, .vs 1 zs]]) (q2) (by simp) ⟨rfl, rfl, trivial⟩ (.inl rfl) fun j r i hi hj hP Bk hB => ?_
    have hlt : A.lt i (A.vlen zs) = decide (j < ws.length) := by subst hA; exact lt_len (by simp [hzs]) hi
    have hadd : ∀ N, j < N → N ≤ 9223372036854775807 → A.add .i64 i 1 = iLen (j + 1) := fun N hj hN => by subst hA; exact add_one hi hj hN
    refine SGo_run hA ⟨[], [], (40, eInF) :: [], []⟩ (.cons (eIn_okF p40) .nil) .nil 200 fun T TD hT hTD => ?_
    cbv
    split <;> cbv
    · rename_i hk0
      have hk1 : j < ws.length := by have hz := hlt.symm.trans hk0; simpa using hz
      clear hk0
      obtain ⟨x, hx⟩ : ∃ x, ws[j]? = some x := ⟨_, List.getElem?_eq_getElem hk1⟩
      obtain ⟨⟨y1, y2⟩, hy⟩ : ∃ x, cs[j]? = some x := ⟨_, List.getElem?_eq_getElem (by omega)⟩
      have hix : A.ix 1 1 zs i [I x] := by subst hA; exact ix_map hzs hi hx rfl
      have hiy : A.ix 2 2 xs i [I y1, I y2] := by subst hA; exact ix_map hxs hi hy rfl
      have hzx : Z[j]? = some (x, y1, y2) := by rw [hZ, List.getElem?_zip_eq_some]; exact ⟨hx, hy⟩
      have hall := all_take_succ (p := fun p : Int × Int × Int => inB p.1 p.2) hzx
      refine Exists.intro _ (And.intro hix ?_); cbv
      split <;> cbv
      · refine Exists.intro _ (And.intro hiy ?_); cbv
        refine Exists.intro _ (And.intro hiy ?_); cbv
        intro q3 hq3; cbv
        refine hB q3 _ _ hk1 ?_ ⟨rfl, congrArg I (hadd _ hk1 (by omega)), trivial⟩ ⟨rfl, rfl, rfl, trivial⟩ (.inl rfl)
        rw [hall, ← Bool.and_assoc, ← hP]
        simp only [Bool.true_and]
        rw [hq3]; rfl
      · refine hB false _ _ hk1 ?_ ⟨rfl, congrArg I (hadd _ hk1 (by omega)), trivial⟩ ⟨rfl, rfl, rfl, trivial⟩ (.inl rfl)
        rw [hall, ← Bool.and_assoc, ← hP]; rfl
    · rename_i hk0
      have hk1 : ¬ j < ws.length := by have hz := hlt.symm.trans hk0; simpa using hz
      clear hk0
      rw [List.take_of_length_le (by omega), hr0] at hP
      have hwb : winB ⟨(a, b), (c, d), cs, os⟩ ⟨u, v, ws⟩ = r := by rw [hP, hZ]; rfl
      rw [hwb] at hW
      have hnr := hnb r
      split <;> cbv
      · rename_i hz3
        have hz3 : r = false := by have hz3 := hnr.symm.trans hz3; simpa using hz3
        rw [if_neg (by simp [hz3])] at hW
        exact leaf h (congrArg I hW) rfl
      · rename_i hz3
        have hz3 : r = true := by have hz3 := hnr.symm.trans hz3; simpa using hz3
        rw [if_pos hz3] at hW
        exact leaf h (congrArg I hW) rfl
  · rw [hT]
    have hr0 : false = (inB u (a, b) && inB v (c, d)) := (by have h1 : inB u (a, b) = false := hq1.symm; rw [h1]; rfl)
    obtain ⟨Z, hZ⟩ : ∃ Z, Z = ws.zip cs := ⟨_, rfl⟩
    have hZl : Z.length = ws.length := by rw [hZ]; simp [hz2]
    refine AGo_upE [2, 42, 43] ws.length (fun j (r : Bool) => r = (false && (Z.take j).all fun p => inB p.1 p.2)) (fun j r i => [(6, B r), (44, I i)]) (fun _ _ => [.own 0 [I a, I b, I c, I d, .vs 2 xs, .vs 4 ys], .own 0 [I u, I v, .vs 1 zs]]) (false) (by simp) ⟨rfl, rfl, trivial⟩ (.inl rfl) fun j r i hi hj hP Bk hB => ?_
    have hlt : A.lt i (A.vlen zs) = decide (j < ws.length) := by subst hA; exact lt_len (by simp [hzs]) hi
    have hadd : ∀ N, j < N → N ≤ 9223372036854775807 → A.add .i64 i 1 = iLen (j + 1) := fun N hj hN => by subst hA; exact add_one hi hj hN
    refine SGo_run hA ⟨[], [], (40, eInF) :: [], []⟩ (.cons (eIn_okF p40) .nil) .nil 200 fun T TD hT hTD => ?_
    cbv
    split <;> cbv
    · rename_i hk0
      have hk1 : j < ws.length := by have hz := hlt.symm.trans hk0; simpa using hz
      clear hk0
      obtain ⟨x, hx⟩ : ∃ x, ws[j]? = some x := ⟨_, List.getElem?_eq_getElem hk1⟩
      obtain ⟨⟨y1, y2⟩, hy⟩ : ∃ x, cs[j]? = some x := ⟨_, List.getElem?_eq_getElem (by omega)⟩
      have hix : A.ix 1 1 zs i [I x] := by subst hA; exact ix_map hzs hi hx rfl
      have hiy : A.ix 2 2 xs i [I y1, I y2] := by subst hA; exact ix_map hxs hi hy rfl
      have hzx : Z[j]? = some (x, y1, y2) := by rw [hZ, List.getElem?_zip_eq_some]; exact ⟨hx, hy⟩
      have hall := all_take_succ (p := fun p : Int × Int × Int => inB p.1 p.2) hzx
      refine Exists.intro _ (And.intro hix ?_); cbv
      split <;> cbv
      · refine Exists.intro _ (And.intro hiy ?_); cbv
        refine Exists.intro _ (And.intro hiy ?_); cbv
        intro q3 hq3; cbv
        refine hB q3 _ _ hk1 ?_ ⟨rfl, congrArg I (hadd _ hk1 (by omega)), trivial⟩ ⟨rfl, rfl, rfl, trivial⟩ (.inl rfl)
        rw [hall, ← Bool.and_assoc, ← hP]
        simp only [Bool.true_and]
        rw [hq3]; rfl
      · refine hB false _ _ hk1 ?_ ⟨rfl, congrArg I (hadd _ hk1 (by omega)), trivial⟩ ⟨rfl, rfl, rfl, trivial⟩ (.inl rfl)
        rw [hall, ← Bool.and_assoc, ← hP]; rfl
    · rename_i hk0
      have hk1 : ¬ j < ws.length := by have hz := hlt.symm.trans hk0; simpa using hz
      clear hk0
      rw [List.take_of_length_le (by omega), hr0] at hP
      have hwb : winB ⟨(a, b), (c, d), cs, os⟩ ⟨u, v, ws⟩ = r := by rw [hP, hZ]; rfl
      rw [hwb] at hW
      have hnr := hnb r
      split <;> cbv
      · rename_i hz3
        have hz3 : r = false := by have hz3 := hnr.symm.trans hz3; simpa using hz3
        rw [if_neg (by simp [hz3])] at hW
        exact leaf h (congrArg I hW) rfl
      · rename_i hz3
        have hz3 : r = true := by have hz3 := hnr.symm.trans hz3; simpa using hz3
        rw [if_pos hz3] at hW
        exact leaf h (congrArg I hW) rfl
def eCheckWin : List AV → Option ((AV → Prop) → Prop)
  | [.agg [.lit (.int .i64 a), .lit (.int .i64 b), .lit (.int .i64 c), .lit (.int .i64 d), .vs 2 xs, .vs 4 ys], .agg [.lit (.int .i64 u), .lit (.int .i64 v), .vs 1 zs]] =>
    some fun K => ∃ (cs : List (Int × Int)) (os : List Ord) (ws : List Int), xs = cs.map sp ∧ ys = os.map orV ∧ zs = ws.map I ∧ cs.length ≤ 9223372036854775807 ∧ os.length ≤ 9223372036854775807 ∧ ws.length ≤ 9223372036854775807 ∧ ∀ q, q = checkWinterS ⟨(a, b), (c, d), cs, os⟩ ⟨u, v, ws⟩ → K (I q)
  | _ => none
theorem eCheckWin_ok : ∀ args pt, eCheckWin args = some pt → ∀ (H : AHeap) (Kk : AV → AHeap → Prop), pt (fun r => Kk r H) → ACalls Try.prog 25 args H Kk := by
  intro args pt h H Kk hk
  unfold eCheckWin at h
  split at h
  · cases h
    obtain ⟨cs, os, ws, rfl, rfl, rfl, h1, h2, h3, h4⟩ := hk
    exact p25 _ _ _ _ _ _ _ _ _ h1 h2 h3 H (h4 _ rfl)
  · cases h
theorem checkWinterS_ok {f : Frt} {w : Win} (h : checkWinterS f w = 0) : FrtV f ∧ WinV f w := by
  unfold checkWinterS at h
  split at h
  · rename_i hz; exact absurd h hz
  rename_i hz
  have hz : checkF f = 0 := by simpa using hz
  split at h
  · omega
  rename_i hl
  split at h
  · rename_i hw
    refine ⟨checkF_ok hz, ?_⟩
    simp only [winB, inB, Bool.and_eq_true, decide_eq_true_eq, List.all_eq_true] at hw
    obtain ⟨⟨h1, h2⟩, h3⟩ := hw
    exact ⟨h1, h2, by omega, fun i x c hx hc => by have := h3 (x, c) (List.mem_of_getElem? (List.getElem?_zip_eq_some.2 ⟨hx, hc⟩)); simpa using this⟩
  · omega
theorem WinV.bnd {f : Frt} {w : Win} (hV : FrtV f) (h : WinV f w) : ∀ x ∈ w.caps, 0 ≤ x ∧ x ≤ 1000000 := fun x hx => by
  obtain ⟨i, hi⟩ := List.mem_iff_getElem?.1 hx
  have hlt := (List.getElem?_eq_some_iff.1 hi).1
  have hc := List.getElem?_eq_getElem (l := f.caps) (i := i) (by rw [← h.len]; exact hlt)
  have h1 := h.cap i x _ hi hc
  have h2 := hV.cb _ (List.mem_of_getElem? hc)
  omega
/-- what Spread yields -/
def spreadC (f : Frt) (w : Win) (l : List Int) : Int := if checkWinterS f w ≠ 0 then checkWinterS f w else if PlanP f.ords.length l then 0 else 3
def spreadR (f : Frt) (w : Win) (l : List Int) : List (List Int) := if spreadC f w l ≠ 0 then [] else rowsF f.ords.length f.caps.length (spreadG (roomW w) (planN l) (unitS f.ords) f.caps.length)
theorem p14 (a b c d u v : Int) (cs : List (Int × Int)) (os : List Ord) (ws plan : List Int) (hc : cs.length ≤ 9223372036854775807) (ho : os.length ≤ 9223372036854775807) (hw : ws.length ≤ 9223372036854775807) (hp : plan.length ≤ 9223372036854775807) (H : AHeap) {Kk : AV → AHeap → Prop}
    (h : Kk (.tup [.vs 1 ((spreadR ⟨(a, b), (c, d), cs, os⟩ ⟨u, v, ws⟩ plan).map fun r => .vs 1 (r.map I)), I (spreadC ⟨(a, b), (c, d), cs, os⟩ ⟨u, v, ws⟩ plan)]) H) :
    ACalls Try.prog 14 [frV a b c d (.vs 2 (cs.map sp)) (.vs 4 (os.map orV)), winV u v (.vs 1 (ws.map I)), .vs 1 (plan.map I)] H Kk := by
  refine (fun q => pureF (by rfl) (by rfl) q H h) ?_
  clear h
  intro Kk h
  obtain ⟨xs, hxs⟩ : ∃ xs, xs = cs.map sp := ⟨_, rfl⟩
  obtain ⟨ys, hys⟩ : ∃ ys, ys = os.map orV := ⟨_, rfl⟩
  obtain ⟨zs, hzs⟩ : ∃ ys, ys = ws.map I := ⟨_, rfl⟩
  obtain ⟨ps, hps⟩ : ∃ ys, ys = plan.map I := ⟨_, rfl⟩
  rw [← hxs, ← hys, ← hzs, ← hps]
  obtain ⟨W, hW⟩ : ∃ W, W = spreadC ⟨(a, b), (c, d), cs, os⟩ ⟨u, v, ws⟩ plan := ⟨_, rfl⟩
  unfold spreadR at h
  rw [← hW] at h
  obtain ⟨A, hA⟩ : ∃ A, A = std := ⟨_, rfl⟩
  obtain ⟨F, hF⟩ : ∃ F, F = Frees 0 Kk := ⟨_, rfl⟩
  rw [← hF]
  have hnb : ∀ b, A.bnot b = !b := by subst hA; intro b; rfl
  have hne : ∀ x, A.ne x 0 = decide (x ≠ 0) := by subst hA; intro x; simp only [std, iNe]; rw [Bool.eq_iff_iff]; simp
  refine go14 rfl (SGo_run hA ⟨[], [], (25, eCheckWin) :: (26, eIsPlan) :: (27, eSpreadF) :: [], []⟩ (.cons eCheckWin_ok (.cons eIsPlan_ok (.cons eSpreadF_ok .nil))) .nil 200 fun T TD hT hTD => ?_)
  cbv
  refine Exists.intro cs (Exists.intro os (Exists.intro ws (And.intro hxs (And.intro hys (And.intro hzs (And.intro hc (And.intro ho (And.intro hw ?_))))))))
  intro q hq; cbv
  unfold spreadC at hW
  rw [← hq] at hW
  split <;> cbv
  · rename_i hz
    have hz : q ≠ 0 := by have hz := (hne q).symm.trans hz; simpa using hz
    rw [if_pos hz] at hW
    rw [if_pos (by rw [hW]; exact hz), hW] at h
    rw [hF]
    exact Frees.wk (r' := .tup [.vs 1 [], I q]) (Wk.tup ⟨Wk.nil, Wk.rfl, trivial⟩) (Frees.drop0 h rfl)
  rename_i hz
  have hz : q = 0 := by have hz := (hne q).symm.trans hz; simpa using hz
  rw [if_neg (by simp [hz])] at hW
  rw [hz] at hq
  obtain ⟨hV, hwv⟩ := checkWinterS_ok hq.symm
  refine Exists.intro os (Exists.intro plan (And.intro hys (And.intro hps (And.intro ⟨hV.o1, hV.o2⟩ (And.intro hp ?_)))))
  intro q2 hq2; cbv
  split <;> cbv
  · rename_i hz2
    have hz2 : q2 = false := by have hz2 := (hnb q2).symm.trans hz2; simpa using hz2
    rw [hz2] at hq2
    have h9 := of_decide_eq_false hq2.symm
    have hW3 : W = 3 := by rw [hW]; exact if_neg h9
    rw [if_pos (by rw [hW3]; decide), hW3] at h
    rw [hF]
    exact Frees.wk (r' := .tup [.vs 1 [], I 3]) (Wk.tup ⟨Wk.nil, Wk.rfl, trivial⟩) (Frees.drop0 h rfl)
  · rename_i hz2
    have hz2 : q2 = true := by have hz2 := (hnb q2).symm.trans hz2; simpa using hz2
    rw [hz2] at hq2
    have hP : PlanP os.length plan := of_decide_eq_true hq2.symm
    have hW0 : W = 0 := by rw [hW]; exact if_pos hP
    rw [if_neg (by rw [hW0]; simp), hW0] at h
    obtain ⟨hn1, hn2⟩ := hP.nat
    rw [hn1] at hps
    have hpl := hP.1
    have hln := hwv.len
    have ho2 := hV.o2
    dsimp only at hln ho2
    refine Exists.intro cs (Exists.intro os (Exists.intro ws (Exists.intro (planN plan) (And.intro hxs (And.intro hys (And.intro hzs (And.intro hps (And.intro hln (And.intro hV.c2 (And.intro hV.o2 (And.intro (hwv.bnd hV) (And.intro hV.ords.u (And.intro hn2 (And.intro (by rw [planN_len]; omega) ?_))))))))))))))
    intro zs2 hz3; cbv
    rw [hF, hz3]
    exact Frees.drop0 h rfl
end Go.Sas
namespace Go.Sas
open Go.Proofs
set_option maxRecDepth 100000
end Go.Sas
namespace Go.Sas
open Go.Proofs
set_option maxRecDepth 100000
abbrev fwH (a b c d : Int) (xs ys cw : List AV) : AHeap := [.own 0 [I a, I b, I c, I d, .vs 2 xs, .vs 4 ys], .own 0 cw]
theorem p43 (a b c d : Int) (xs ys cw rs : List AV) {Kk : AV → AHeap → Prop} (h : Kk (B (decide (rs.length ≠ xs.length))) (fwH a b c d xs ys cw)) : ACalls Try.prog 43 [.vs 1 rs, .mp 0 0 0] (fwH a b c d xs ys cw) Kk := by
  obtain ⟨q, hq⟩ : ∃ q, q = decide (rs.length ≠ xs.length) := ⟨_, rfl⟩
  rw [← hq] at h
  obtain ⟨A, hA⟩ : ∃ A, A = std := ⟨_, rfl⟩
  have hne : A.ne (A.vlen rs) (A.vlen xs) = q := by
    rw [hq]; subst hA; simp only [std, iNe]; rw [Bool.eq_iff_iff]; unfold iLen; simp only [bne_iff_ne, ne_eq, decide_eq_true_eq]; omega
  refine go43 rfl (SGo_run hA ⟨[], [], [], []⟩ .nil .nil 200 fun T TD hT hTD => ?_)
  cbv
  have h2 : Kk (B (A.ne (A.vlen rs) (A.vlen xs))) (fwH a b c d xs ys cw) := by rw [hne]; exact h
  exact ite_bothF h2
def e113 : List AV → AHeap → Option PT
  | [.vs 1 rs, .mp 0 0 0], [.own 0 [.lit (.int .i64 a), .lit (.int .i64 b), .lit (.int .i64 c), .lit (.int .i64 d), .vs 2 xs, .vs 4 ys], .own 0 cw] => some fun K => ∀ q, q = decide (rs.length ≠ xs.length) → K (B q) (fwH a b c d xs ys cw)
  | _, _ => none
theorem e113_ok : ∀ args H pt, e113 args H = some pt → ∀ (Kk : AV → AHeap → Prop), pt Kk → ACalls Try.prog 43 args H Kk := by
  intro args H pt h Kk hk
  unfold e113 at h
  split at h
  · cases h; exact p43 _ _ _ _ _ _ _ _ (hk _ rfl)
  · cases h
def idxPF {α : Type} (p : α → Bool) : List α → Int → Int
  | [], _ => -1
  | x :: r, i => if p x then i else idxPF p r (i + 1)
theorem idxP_any {α : Type} {p : α → Bool} : ∀ {l : List α} {i : Int}, 0 ≤ i → decide (0 ≤ idxPF p l i) = l.any p
  | [], _, _ => by simp [idxPF]
  | x :: r, i, h => by
    rw [List.any_cons]
    by_cases h1 : p x = true
    · have e : idxPF p (x :: r) i = i := if_pos h1
      rw [e, h1]; simp [h]
    · have e : idxPF p (x :: r) i = idxPF p r (i + 1) := if_neg h1
      rw [e, idxP_any (by omega)]; simp [h1]
theorem p57 (a b c d : Int) (xs ys cw : List AV) (rows : List (List Int)) (hr : rows.length ≤ 9223372036854775807) {Kk : AV → AHeap → Prop} (h : Kk (I (idxPF (fun r => decide (r.length ≠ xs.length)) rows 0)) (fwH a b c d xs ys cw)) :
    ACalls Try.prog 57 [.vs 1 (rows.map fun r => .vs 1 (r.map I)), .fn 43 [.mp 0 0 0]] (fwH a b c d xs ys cw) Kk := by
  obtain ⟨zs, hzs⟩ : ∃ zs : List AV, zs = rows.map fun r => .vs 1 (r.map I) := ⟨_, rfl⟩
  rw [← hzs]
  obtain ⟨p, hp⟩ : ∃ p : List Int → Bool, p = fun r => decide (r.length ≠ xs.length) := ⟨_, rfl⟩
  rw [← hp] at h
  obtain ⟨W, hW⟩ : ∃ W, W = idxPF p rows 0 := ⟨_, rfl⟩
  rw [← hW] at h
  obtain ⟨A, hA⟩ : ∃ A, A = std := ⟨_, rfl⟩
  refine go57 rfl (SGo_run hA ⟨[], [], [], []⟩ .nil .nil 200 fun T TD hT hTD => ?_)
  cbv
  rw [hT]
  refine AGo_upE [0, 1, 7] rows.length (fun j (_ : Unit) => W = idxPF p (rows.drop j) (iLen j)) (fun j _ i => [(8, I i)]) (fun _ _ => fwH a b c d xs ys cw) () hW ⟨rfl, trivial⟩ (.inl rfl) fun j _ i hi hj hP Bk hB => ?_
  have hlt : A.lt i (A.vlen zs) = decide (j < rows.length) := by subst hA; exact lt_len (by simp [hzs]) hi
  have hadd : ∀ N, j < N → N ≤ 9223372036854775807 → A.add .i64 i 1 = iLen (j + 1) := fun N hj hN => by subst hA; exact add_one hi hj hN
  refine SGo_run hA ⟨[], [], [], (43, e113) :: []⟩ .nil (.cons e113_ok .nil) 200 fun T TD hT hTD => ?_
  cbv
  split <;> cbv
  · rename_i hk0
    have hk1 : j < rows.length := by have hz := hlt.symm.trans hk0; simpa using hz
    clear hk0
    obtain ⟨r, hx⟩ : ∃ x, rows[j]? = some x := ⟨_, List.getElem?_eq_getElem hk1⟩
    obtain ⟨rs, hrs⟩ : ∃ rs, rs = r.map I := ⟨_, rfl⟩
    have hix : A.ix 1 1 zs i [.vs 1 rs] := by subst hA; rw [hrs]; exact ix_map hzs hi hx rfl
    rw [drop_cons hx] at hP
    simp only [idxPF] at hP
    refine Exists.intro _ (And.intro hix ?_); cbv
    intro q hq
    have hq : q = p r := by rw [hq, hp, hrs]; simp
    cbv
    split <;> cbv
    · rename_i hz
      have hz : p r = true := hq.symm
      rw [if_pos hz] at hP
      have h2 : Kk (I i) (fwH a b c d xs ys cw) := by rw [hi, ← hP]; exact h
      exact ite_bothF h2
    · rename_i hz
      have hz : p r = false := hq.symm
      rw [if_neg (by simp [hz])] at hP
      exact hB () _ _ hk1 hP ⟨congrArg I (hadd _ hk1 (by omega)), trivial⟩ ⟨rfl, rfl, rfl, trivial⟩ (.inl rfl)
  · rename_i hk0
    have hk1 : ¬ j < rows.length := by have hz := hlt.symm.trans hk0; simpa using hz
    clear hk0
    rw [List.drop_eq_nil_of_le (by omega)] at hP
    have hP : W = -1 := hP
    have h2 : Kk (I (-1)) (fwH a b c d xs ys cw) := by rw [← hP]; exact h
    exact ite_bothF h2
def e121 : List AV → AHeap → Option PT
  | [.vs 1 zs, .fn 43 [.mp 0 0 0]], [.own 0 [.lit (.int .i64 a), .lit (.int .i64 b), .lit (.int .i64 c), .lit (.int .i64 d), .vs 2 xs, .vs 4 ys], .own 0 cw] =>
    some fun K => ∃ rows : List (List Int), (zs = rows.map fun r => .vs 1 (r.map I)) ∧ rows.length ≤ 9223372036854775807 ∧ ∀ q, q = idxPF (fun r => decide (r.length ≠ xs.length)) rows 0 → K (I q) (fwH a b c d xs ys cw)
  | _, _ => none
theorem e121_ok : ∀ args H pt, e121 args H = some pt → ∀ (Kk : AV → AHeap → Prop), pt Kk → ACalls Try.prog 57 args H Kk := by
  intro args H pt h Kk hk
  unfold e121 at h
  split at h
  · cases h
    obtain ⟨rows, rfl, h1, h2⟩ := hk
    exact p57 _ _ _ _ _ _ _ _ h1 (h2 _ rfl)
  · cases h
theorem p42 (a b c d : Int) (xs ys cw : List AV) (rows : List (List Int)) (hr : rows.length ≤ 9223372036854775807) {Kk : AV → AHeap → Prop} (h : Kk (B (rows.any fun r => decide (r.length ≠ xs.length))) (fwH a b c d xs ys cw)) :
    ACalls Try.prog 42 [.vs 1 (rows.map fun r => .vs 1 (r.map I)), .fn 43 [.mp 0 0 0]] (fwH a b c d xs ys cw) Kk := by
  obtain ⟨zs, hzs⟩ : ∃ zs : List AV, zs = rows.map fun r => .vs 1 (r.map I) := ⟨_, rfl⟩
  rw [← hzs]
  obtain ⟨W, hW⟩ : ∃ W, W = rows.any fun r => decide (r.length ≠ xs.length) := ⟨_, rfl⟩
  rw [← hW] at h
  obtain ⟨A, hA⟩ : ∃ A, A = std := ⟨_, rfl⟩
  refine go42 rfl (SGo_run hA ⟨[], [], [], (57, e121) :: []⟩ .nil (.cons e121_ok .nil) 200 fun T TD hT hTD => ?_)
  cbv
  refine Exists.intro rows (And.intro hzs (And.intro hr ?_))
  intro q hq; cbv
  have hq2 : A.le 0 q = W := by rw [hW, hq, ← idxP_any (Int.le_refl _)]; subst hA; rfl
  have h2 : Kk (B (A.le 0 q)) (fwH a b c d xs ys cw) := by rw [hq2]; exact h
  exact ite_bothF h2
def e112 : List AV → AHeap → Option PT
  | [.vs 1 zs, .fn 43 [.mp 0 0 0]], [.own 0 [.lit (.int .i64 a), .lit (.int .i64 b), .lit (.int .i64 c), .lit (.int .i64 d), .vs 2 xs, .vs 4 ys], .own 0 cw] =>
    some fun K => ∃ rows : List (List Int), (zs = rows.map fun r => .vs 1 (r.map I)) ∧ rows.length ≤ 9223372036854775807 ∧ ∀ q, q = (rows.any fun r => decide (r.length ≠ xs.length)) → K (B q) (fwH a b c d xs ys cw)
  | _, _ => none
theorem e112_ok : ∀ args H pt, e112 args H = some pt → ∀ (Kk : AV → AHeap → Prop), pt Kk → ACalls Try.prog 42 args H Kk := by
  intro args H pt h Kk hk
  unfold e112 at h
  split at h
  · cases h
    obtain ⟨rows, rfl, h1, h2⟩ := hk
    exact p42 _ _ _ _ _ _ _ _ h1 (h2 _ rfl)
  · cases h
end Go.Sas
namespace Go.Sas
open Go.Proofs
set_option maxRecDepth 100000
/-- how many units go on a day -/
def colS (way : List (List Int)) (d : Nat) : Int := sumI (way.map fun r => r.getD d 0)
def okE (n : Int) : Bool := decide (0 ≤ n ∧ n ≤ 1000000)
def checkWayS (f : Frt) (w : Win) (way : List (List Int)) : Int :=
  if checkWinterS f w ≠ 0 then checkWinterS f w else
  if way.length ≠ f.ords.length ∨ (way.any fun r => decide (r.length ≠ f.caps.length)) = true then 3 else
  if (way.all fun r => r.all okE) = false then 2 else
  if ((List.range f.caps.length).all fun d => decide (colS way d ≤ roomW w d)) = false then 12 else
  if ((way.zip f.ords).all fun p => decide (sumI p.1 ≤ p.2.u)) = false then 14 else 0
theorem colS_app {a b : List (List Int)} {d : Nat} : colS (a ++ b) d = colS a d + colS b d := by simp [colS, sumI_append]
theorem okE_bnd {n : Int} (h : okE n = true) : 0 ≤ n ∧ n ≤ 1000000 := of_decide_eq_true h
theorem colS_bnd {way : List (List Int)} (h : (way.all fun r => r.all okE) = true) (d : Nat) : 0 ≤ colS way d ∧ colS way d ≤ 1000000 * way.length := by
  have := sumI_bnd (lo := 0) (hi := 1000000) (l := way.map fun r => r.getD d 0) fun x hx => by
    obtain ⟨r, hr, rfl⟩ := List.mem_map.1 hx
    rw [List.all_eq_true] at h
    have hr2 := h r hr
    rw [List.all_eq_true] at hr2
    rw [List.getD_eq_getElem?_getD]
    rcases hd : r[d]? with _ | y
    · simp
    · exact okE_bnd (hr2 y (List.mem_of_getElem? hd))
  unfold colS
  simp only [List.length_map] at this
  omega
theorem p28 (a b c d u v : Int) (cs : List (Int × Int)) (os : List Ord) (ws : List Int) (way : List (List Int)) (hc : cs.length ≤ 9223372036854775807) (ho : os.length ≤ 9223372036854775807) (hw : ws.length ≤ 9223372036854775807) (hy : way.length ≤ 9223372036854775807) (H : AHeap) {Kk : AV → AHeap → Prop} (h : Kk (I (checkWayS ⟨(a, b), (c, d), cs, os⟩ ⟨u, v, ws⟩ way)) H) :
    ACalls Try.prog 28 [frV a b c d (.vs 2 (cs.map sp)) (.vs 4 (os.map orV)), winV u v (.vs 1 (ws.map I)), .vs 1 (way.map fun r => .vs 1 (r.map I))] H Kk := by
  refine (fun q => pureC (by rfl) (by rfl) q H h) ?_
  clear h
  intro Kk h
  obtain ⟨xs, hxs⟩ : ∃ xs, xs = cs.map sp := ⟨_, rfl⟩
  obtain ⟨ys, hys⟩ : ∃ ys, ys = os.map orV := ⟨_, rfl⟩
  obtain ⟨zs, hzs⟩ : ∃ ys, ys = ws.map I := ⟨_, rfl⟩
  obtain ⟨rs, hrs⟩ : ∃ rs : List AV, rs = way.map fun r => .vs 1 (r.map I) := ⟨_, rfl⟩
  rw [← hxs, ← hys, ← hzs, ← hrs]
  obtain ⟨N, hN⟩ : ∃ N, N = os.length := ⟨_, rfl⟩
  obtain ⟨D, hDD⟩ : ∃ D, D = cs.length := ⟨_, rfl⟩
  obtain ⟨W, hW⟩ : ∃ W, W = checkWayS ⟨(a, b), (c, d), cs, os⟩ ⟨u, v, ws⟩ way := ⟨_, rfl⟩
  rw [← hW] at h
  have hxl : xs.length = D := by rw [hxs, hDD]; simp
  obtain ⟨A, hA⟩ : ∃ A, A = std := ⟨_, rfl⟩
  have hsg : ∀ g, A.sg g g := by subst hA; exact fun _ => rfl
  have hnb : ∀ b, A.bnot b = !b := by subst hA; intro b; rfl
  have hne : ∀ x, A.ne x 0 = decide (x ≠ 0) := by subst hA; intro x; simp only [std, iNe]; rw [Bool.eq_iff_iff]; simp
  have hv1 : A.vlen xs = iLen D := by subst hA; simp [std, hxl]
  have hnl : A.ne (A.vlen rs) (A.vlen ys) = decide (way.length ≠ N) := by
    subst hA; simp only [std, iNe, hrs, hys]; rw [Bool.eq_iff_iff, hN]; unfold iLen; simp only [bne_iff_ne, ne_eq, List.length_map, decide_eq_true_eq]; omega
  refine go28 rfl (SGo_run hA ⟨[], [1000038], (25, eCheckWin) :: [], (42, e112) :: []⟩ (.cons eCheckWin_ok .nil) (.cons e112_ok .nil) 200 fun T TD hT hTD => ?_)
  cbv
  refine Exists.intro cs (Exists.intro os (Exists.intro ws (And.intro hxs (And.intro hys (And.intro hzs (And.intro hc (And.intro ho (And.intro hw ?_))))))))
  intro q hq; cbv
  unfold checkWayS at hW
  rw [← hq] at hW
  split <;> cbv
  · rename_i hz
    have hz : q ≠ 0 := by have hz := (hne q).symm.trans hz; simpa using hz
    rw [if_pos hz] at hW
    exact leaf h (congrArg I hW) rfl
  rename_i hz
  have hz : q = 0 := by have hz := (hne q).symm.trans hz; simpa using hz
  rw [if_neg (by simp [hz])] at hW
  rw [hz] at hq
  obtain ⟨hV, hwv⟩ := checkWinterS_ok hq.symm
  have hwb := hwv.bnd hV
  have hwl := hwv.len
  have hc2 := hV.c2
  have ho2 := hV.o2
  dsimp only at hwl hc2 ho2 hwb hW
  rw [← hDD] at hc2 hwl hW
  rw [← hN] at ho2 hW
  split <;> cbv
  · rename_i hz2
    have hz2 := hnl.symm.trans hz2
    simp only [decide_eq_true_eq] at hz2
    rw [if_pos (.inl hz2)] at hW
    exact leaf h (congrArg I hW) rfl
  rename_i hz2
  have hz2 : way.length = N := by have hz2 := hnl.symm.trans hz2; simpa using hz2
  have hwy : LenIs way N := hz2
  refine Exists.intro way (And.intro hrs (And.intro hy ?_))
  intro q2 hq2
  have hq2 : q2 = way.any fun r => decide (r.length ≠ D) := by rw [hq2]; exact congrArg _ (by funext r; show decide (r.length ≠ xs.length) = _; rw [hxl])
  cbv
  split <;> cbv
  · rw [← hq2, if_pos (.inr rfl)] at hW
    exact leaf h (congrArg I hW) rfl
  rw [← hq2, if_neg (by simp [hz2])] at hW
  have hrl : ∀ r ∈ way, r.length = D := fun r hr => by
    have h9 := hq2.symm
    rw [List.any_eq_false] at h9
    have := h9 r hr
    simpa using this
  rw [hT]
  have hmk : mkS 1 8 [.int .i64 0] (A.vlen xs) (A.vlen xs) (rowF D fun _ => 0) D := by
    rw [hv1]; exact ⟨by unfold iLen; omega, Int.le_refl _, by unfold iLen; omega, by unfold iLen; omega, rfl, by unfold iLen; omega, by rw [← zeros_row]; rfl⟩
  obtain ⟨z0, hz0⟩ : ∃ z, z = rowF D fun _ => 0 := ⟨_, rfl⟩
  rw [← hz0] at hmk
  refine AGo_mkslN (q := 2) rfl rfl rfl hmk rfl rfl ?_
  refine SGo_run hA ⟨[2], [], [], []⟩ .nil .nil 200 fun T TD hT hTD => ?_
  cbv
  rw [hT]
  have hwN : way.length = N := hwy
  have hlr : A.vlen rs = iLen N := by subst hA; simp only [std, hrs, List.length_map]; exact congrArg iLen hwN
  obtain ⟨cw, hcw⟩ : ∃ x : List AV, x = [I u, I v, .vs 1 zs] := ⟨_, rfl⟩
  refine AGo_upE [2, 3, 4, 8, 39, 40] N (fun j (_ : Unit) => ((way.take j).all fun r => r.all okE) = true) (fun j _ i => [(41, I i)])
    (fun j _ => [.own 0 [I a, I b, I c, I d, .vs 2 xs, .vs 4 ys], .own 0 [I u, I v, .vs 1 zs], .own 0 (rowF D (colS (way.take j)))]) () (by simp) ⟨rfl, trivial⟩ (.inl (by rw [hz0]; rfl)) fun j _ i hi hj hP Bk hB => ?_
  have hlt : A.lt i (A.vlen rs) = decide (j < N) := by subst hA; exact lt_len (by unfold LenIs at hwy; simp [hrs, hwy]) hi
  have hadd : ∀ N, j < N → N ≤ 9223372036854775807 → A.add .i64 i 1 = iLen (j + 1) := fun N hj hN => by subst hA; exact add_one hi hj hN
  obtain ⟨z1, hz1⟩ : ∃ z, z = rowF D (colS (way.take j)) := ⟨_, rfl⟩
  rw [← hz1]
  refine SGo_run hA ⟨[2], [1000066], [], []⟩ .nil .nil 200 fun T TD hT hTD => ?_
  cbv
  split <;> cbv
  · rename_i hk0
    have hk1 : j < N := by have hz := hlt.symm.trans hk0; simpa using hz
    clear hk0
    obtain ⟨row, hx⟩ : ∃ x, way[j]? = some x := ⟨_, List.getElem?_eq_getElem (by unfold LenIs at hwy; omega)⟩
    have hrow := hrl row (List.mem_of_getElem? hx)
    obtain ⟨es, hes⟩ : ∃ es, es = row.map I := ⟨_, rfl⟩
    have hix : A.ix 1 1 rs i [.vs 1 es] := by subst hA; rw [hes]; exact ix_map hrs hi hx rfl
    have htk := take_succ_mem hx
    refine Exists.intro _ (And.intro hix ?_); cbv
    rw [hT]
    have htl : (way.take j).length ≤ 6 := by unfold LenIs at hwy; simp; omega
    have hcb : ∀ d, 0 ≤ colS (way.take j) d ∧ colS (way.take j) d ≤ 6000000 := fun d => by have := colS_bnd hP d; omega
    refine AGo_upE [2, 3, 4, 8, 39, 40, 41, 45, 46] D (fun y (_ : Unit) => ((row.take y).all okE) = true) (fun y _ i => [(47, I i)])
      (fun y _ => [.own 0 [I a, I b, I c, I d, .vs 2 xs, .vs 4 ys], .own 0 [I u, I v, .vs 1 zs], .own 0 (rowF D fun d => colS (way.take j) d + if d < y then row.getD d 0 else 0)]) () (by simp) ⟨rfl, trivial⟩ (.inl (by rw [hz1]; simp)) fun y _ i2 hi2 hy2 hP2 Bk2 hB2 => ?_
    have hlt2 : A.lt i2 (A.vlen es) = decide (y < D) := by subst hA; exact lt_len (by simp [hes, hrow]) hi2
    have hadd2 : ∀ N, y < N → N ≤ 9223372036854775807 → A.add .i64 i2 1 = iLen (y + 1) := fun N hj hN => by subst hA; exact add_one hi2 hj hN
    obtain ⟨z2, hz2'⟩ : ∃ z, z = rowF D fun d => colS (way.take j) d + if d < y then row.getD d 0 else 0 := ⟨_, rfl⟩
    rw [← hz2']
    refine SGo_run hA ⟨[2], [], (40, eInF) :: [], []⟩ (.cons (eIn_okF p40) .nil) .nil 200 fun T TD hT hTD => ?_
    cbv
    split <;> cbv
    · rename_i hk0
      have hk2 : y < D := by have hz := hlt2.symm.trans hk0; simpa using hz
      clear hk0
      obtain ⟨x, hxy⟩ : ∃ x, row[y]? = some x := ⟨_, List.getElem?_eq_getElem (by omega)⟩
      have hiy : A.ix 1 1 es i2 [I x] := by subst hA; exact ix_map hes hi2 hxy rfl
      have htk2 := all_take_succ (p := okE) hxy
      refine Exists.intro _ (And.intro hiy ?_); cbv
      intro q3 hq3
      have hq3 : q3 = okE x := hq3
      cbv
      split <;> cbv
      · rename_i hz3
        have hz3 : q3 = false := by have hz3 := (hnb q3).symm.trans hz3; simpa using hz3
        have hbad : (way.all fun r => r.all okE) = false := by
          rw [List.all_eq_false]
          refine ⟨row, List.mem_of_getElem? hx, ?_⟩
          rw [Bool.not_eq_true, List.all_eq_false]
          exact ⟨x, List.mem_of_getElem? hxy, by rw [← hq3, hz3]; simp⟩
        rw [if_pos hbad] at hW
        exact leaf h (congrArg I hW) rfl
      · rename_i hz3
        have hz3 : q3 = true := by have hz3 := (hnb q3).symm.trans hz3; simpa using hz3
        rw [hz3] at hq3
        have hxb := okE_bnd hq3.symm
        have hxk : A.ixm 1 1 0 D i2 y := by subst hA; exact ixm1 hi2 hk2
        have hcy := hcb y
        have hg : A.get none z2 y (I (colS (way.take j) y)) := by
          subst hA; rw [hz2']
          show getS none _ _ _
          have := getS_row (D := D) (d := y) (f := fun d => colS (way.take j) d + if d < y then row.getD d 0 else 0) hk2
          simpa using this
        have hsum : A.add .i64 (colS (way.take j) y) x = colS (way.take j) y + x := by subst hA; exact iAdd_id (by omega) (by omega)
        have hup : A.upd 1 z2 y [I (A.add .i64 (colS (way.take j) y) x)] (rowF D fun d => colS (way.take j) d + if d < y + 1 then row.getD d 0 else 0) := by
          rw [hsum]; subst hA; rw [hz2']
          have := updS_row (D := D) (d := y) (f := fun d => colS (way.take j) d + if d < y then row.getD d 0 else 0) (v := colS (way.take j) y + x) hk2
          rw [show rowF D (updF (fun d => colS (way.take j) d + if d < y then row.getD d 0 else 0) y (colS (way.take j) y + x)) = rowF D fun d => colS (way.take j) d + if d < y + 1 then row.getD d 0 else 0 from rowF_congr fun k _ => by
            unfold updF; dsimp only
            by_cases h1 : k = y
            · subst h1; rw [if_pos rfl, if_pos (by omega), List.getD_eq_getElem?_getD, hxy]; rfl
            · rw [if_neg h1]
              by_cases h2 : k < y
              · rw [if_pos h2, if_pos (by omega)]
              · rw [if_neg h2, if_neg (by omega)]] at this
          exact this
        obtain ⟨z3, hz3'⟩ : ∃ z, z = rowF D fun d => colS (way.take j) d + if d < y + 1 then row.getD d 0 else 0 := ⟨_, rfl⟩
        obtain ⟨cj, hcj⟩ : ∃ z, z = colS (way.take j) y := ⟨_, rfl⟩
        rw [← hz3', ← hcj] at hup
        rw [← hcj] at hg
        refine And.intro (hsg _) (Exists.intro y (And.intro hxk ?_)); cbv
        refine And.intro (hsg _) (Exists.intro _ (And.intro hg ?_)); cbv
        refine And.intro (hsg _) (Exists.intro y (And.intro hxk ?_)); cbv
        refine And.intro (hsg _) (Exists.intro z3 (And.intro hup ?_)); cbv
        refine hB2 () _ _ hk2 ?_ ⟨congrArg I (hadd2 _ hk2 (by omega)), trivial⟩ ⟨rfl, rfl, rfl, rfl, rfl, rfl, rfl, rfl, rfl, trivial⟩ (.inl (by rw [hz3']))
        rw [htk2, hP2, ← hq3]; rfl
    · rename_i hk0
      have hk2 : ¬ y < D := by have hz := hlt2.symm.trans hk0; simpa using hz
      clear hk0
      rw [List.take_of_length_le (by omega)] at hP2
      refine hB () _ _ hk1 ?_ ⟨congrArg I (hadd _ hk1 (by omega)), trivial⟩ ⟨rfl, rfl, rfl, rfl, rfl, rfl, trivial⟩ (.inl ?_)
      · rw [htk, List.all_append, hP]; simp [hP2]
      · rw [hz2', show (rowF D fun d => colS (way.take j) d + if d < y then row.getD d 0 else 0) = rowF D (colS (way.take (j + 1))) from rowF_congr fun k hk => by
          rw [if_pos (by omega), htk, colS_app]; simp [colS, sumI]]
  · rename_i hk0
    have hk1 : ¬ j < N := by have hz := hlt.symm.trans hk0; simpa using hz
    clear hk0
    have hjn : j = N := by omega
    rw [List.take_of_length_le (by unfold LenIs at hwy; omega)] at hP hz1
    rw [if_neg (by rw [hP]; simp)] at hW
    have hcb : ∀ d, 0 ≤ colS way d ∧ colS way d ≤ 6000000 := fun d => by have := colS_bnd hP d; unfold LenIs at hwy; omega
    subst hjn
    clear hB hadd hlt
    rw [hT]
    refine SGo_run hA ⟨[2], [], [], []⟩ .nil .nil 200 fun T TD hT hTD => ?_
    cbv
    refine And.intro (hsg _) ?_; cbv
    rw [hT]
    refine AGo_upE [2, 3, 13, 67, 68] D (fun y (_ : Unit) => ((List.range y).all fun d => decide (colS way d ≤ roomW ⟨u, v, ws⟩ d)) = true) (fun y _ i => [(69, I i)])
      (fun y _ => [.own 0 [I a, I b, I c, I d, .vs 2 xs, .vs 4 ys], .own 0 [I u, I v, .vs 1 zs], .own 0 z1, .own 0 [I a, I b, I c, I d, .vs 2 xs, .vs 4 ys, I u, I v, .vs 1 zs]]) () (by simp) ⟨rfl, trivial⟩ (.inl rfl) fun y _ i hi hy2 hP2 Bk hB => ?_
    have hlt : A.lt i (A.len D) = decide (y < D) := by subst hA; simp only [std, iLt, hi]; rw [Bool.eq_iff_iff]; unfold iLen; simp only [decide_eq_true_eq]; omega
    have hadd : ∀ N, y < N → N ≤ 9223372036854775807 → A.add .i64 i 1 = iLen (y + 1) := fun N hj hN => by subst hA; exact add_one hi hj hN
    refine SGo_run hA ⟨[2], [], (41, eRoom) :: [], []⟩ (.cons eRoom_ok .nil) .nil 200 fun T TD hT hTD => ?_
    cbv
    split <;> cbv
    · rename_i hk0
      have hk2 : y < D := by have hz := hlt.symm.trans hk0; simpa using hz
      clear hk0
      have hxk : A.ixm 1 1 0 D i y := by subst hA; exact ixm1 hi hk2
      obtain ⟨cy, hcy⟩ : ∃ z, z = colS way y := ⟨_, rfl⟩
      have hg : A.get none z1 y (I cy) := by subst hA; rw [hz1, hcy]; exact getS_row hk2
      refine And.intro (hsg _) (Exists.intro y (And.intro hxk ?_)); cbv
      refine And.intro (hsg _) (Exists.intro _ (And.intro hg ?_)); cbv
      refine Exists.intro ws (Exists.intro y (And.intro hzs (And.intro hi (And.intro (by omega) (And.intro hw ?_))))); cbv
      intro rm hrm; cbv
      have hgt : A.lt rm cy = decide (rm < cy) := by subst hA; rfl
      split <;> cbv
      · rename_i hz4
        have hz4 : rm < cy := by have hz4 := hgt.symm.trans hz4; simpa using hz4
        have hbad : ((List.range D).all fun d => decide (colS way d ≤ roomW ⟨u, v, ws⟩ d)) = false := by
          rw [List.all_eq_false]
          exact ⟨y, List.mem_range.2 hk2, by rw [← hrm, ← hcy]; simp; omega⟩
        rw [if_pos hbad] at hW
        exact leaf h (congrArg I hW) rfl
      · rename_i hz4
        have hz4 : ¬ rm < cy := by have hz4 := hgt.symm.trans hz4; simpa using hz4
        refine hB () _ _ hk2 ?_ ⟨congrArg I (hadd _ hk2 (by omega)), trivial⟩ ⟨rfl, rfl, rfl, rfl, rfl, trivial⟩ (.inl rfl)
        rw [List.range_succ, List.all_append, hP2]
        simp only [List.all_cons, List.all_nil, Bool.and_true, Bool.true_and, decide_eq_true_eq]
        rw [← hrm, ← hcy]; omega
    · rename_i hk0
      have hk2 : ¬ y < D := by have hz := hlt.symm.trans hk0; simpa using hz
      clear hk0
      have hyD : y = D := by omega
      rw [hyD] at hP2
      rw [if_neg (by rw [hP2]; simp)] at hW
      clear hB hadd hlt
      rw [hT]
      obtain ⟨Z, hZ⟩ : ∃ Z, Z = way.zip os := ⟨_, rfl⟩
      have hZl : Z.length = way.length := by rw [hZ]; simp; unfold LenIs at hwy; omega
      have hW : W = if (Z.all fun p => decide (sumI p.1 ≤ p.2.u)) = false then 14 else 0 := by rw [hW, hZ]
      refine AGo_upE [3, 80, 81] j (fun y (_ : Unit) => ((Z.take y).all fun p => decide (sumI p.1 ≤ p.2.u)) = true) (fun y _ i => [(82, I i)])
        (fun y _ => [.own 0 [I a, I b, I c, I d, .vs 2 xs, .vs 4 ys], .own 0 [I u, I v, .vs 1 zs], .own 0 z1, .own 0 [I a, I b, I c, I d, .vs 2 xs, .vs 4 ys, I u, I v, .vs 1 zs]]) () (by simp) ⟨rfl, trivial⟩ (.inl rfl) fun y2 _ i hi hy3 hP3 Bk hB => ?_
      have hlt : A.lt i (A.vlen rs) = decide (y2 < j) := by subst hA; exact lt_len (by unfold LenIs at hwy; simp [hrs, hwy]) hi
      have hadd : ∀ N, y2 < N → N ≤ 9223372036854775807 → A.add .i64 i 1 = iLen (y2 + 1) := fun N hj hN => by subst hA; exact add_one hi hj hN
      refine SGo_run hA ⟨[2], [], (44, eTotal) :: [], []⟩ (.cons (eTotal_ok p44) .nil) .nil 200 fun T TD hT hTD => ?_
      cbv
      split <;> cbv
      · rename_i hk0
        have hk3 : y2 < j := by have hz := hlt.symm.trans hk0; simpa using hz
        clear hk0
        obtain ⟨row, hx⟩ : ∃ x, way[y2]? = some x := ⟨_, List.getElem?_eq_getElem (by unfold LenIs at hwy; omega)⟩
        obtain ⟨⟨ou, od, ol, ol2⟩, hx2⟩ : ∃ x, os[y2]? = some x := ⟨_, List.getElem?_eq_getElem (by omega)⟩
        have hrow := hrl row (List.mem_of_getElem? hx)
        have hrb : ∀ x ∈ row, 0 ≤ x ∧ x ≤ 1000000000 := fun x hx9 => by
          rw [List.all_eq_true] at hP
          have h8 := hP row (List.mem_of_getElem? hx)
          rw [List.all_eq_true] at h8
          have := okE_bnd (h8 x hx9); omega
        obtain ⟨es, hes⟩ : ∃ es, es = row.map I := ⟨_, rfl⟩
        have hix : A.ix 1 1 rs i [.vs 1 es] := by subst hA; rw [hes]; exact ix_map hrs hi hx rfl
        have hiy : A.ix 4 4 ys i [I ou, I od, I ol, I ol2] := by subst hA; exact ix_map hys hi hx2 rfl
        have hzx : Z[y2]? = some (row, ⟨ou, od, ol, ol2⟩) := by rw [hZ, List.getElem?_zip_eq_some]; exact ⟨hx, hx2⟩
        have hall := all_take_succ (p := fun p : List Int × Ord => decide (sumI p.1 ≤ p.2.u)) hzx
        refine Exists.intro _ (And.intro hix ?_); cbv
        refine Exists.intro _ (And.intro hiy ?_); cbv
        refine Exists.intro row (And.intro hes (And.intro (by omega) (And.intro hrb ?_)))
        intro sm hsm; cbv
        have hgt : A.lt ou sm = decide (ou < sm) := by subst hA; rfl
        split <;> cbv
        · rename_i hz4
          have hz4 : ou < sm := by have hz4 := hgt.symm.trans hz4; simpa using hz4
          have hbad : (Z.all fun p => decide (sumI p.1 ≤ p.2.u)) = false := by
            rw [List.all_eq_false]
            exact ⟨_, List.mem_of_getElem? hzx, by dsimp only; rw [← hsm]; simp; omega⟩
          rw [if_pos hbad] at hW
          exact leaf h (congrArg I hW) rfl
        · rename_i hz4
          have hz4 : ¬ ou < sm := by have hz4 := hgt.symm.trans hz4; simpa using hz4
          refine hB () _ _ hk3 ?_ ⟨congrArg I (hadd _ hk3 (by omega)), trivial⟩ ⟨rfl, rfl, rfl, trivial⟩ (.inl rfl)
          rw [hall, hP3]
          simp only [Bool.true_and, decide_eq_true_eq]
          rw [← hsm]; omega
      · rename_i hk0
        have hk3 : ¬ y2 < j := by have hz := hlt.symm.trans hk0; simpa using hz
        clear hk0
        rw [List.take_of_length_le (by unfold LenIs at hwy; omega)] at hP3
        rw [if_neg (by rw [hP3]; simp)] at hW
        exact leaf h (congrArg I hW) rfl
end Go.Sas
namespace Go.Sas
/-- how many units may go before a day -/
def sumR (R : Nat → Int) : Nat → Int
  | 0 => 0
  | d + 1 => sumR R d + R d
/-- how many units of an order go where S units may go -/
def cumP (u : Nat → Int) (S : Int) : List Nat → Int → Nat → Int
  | [], _, _ => 0
  | j :: p, U, k => if k = j then min (U + u j) S - min U S else cumP u S p (U + u j) k
def sumU (u : Nat → Int) : List Nat → Int
  | [] => 0
  | j :: p => u j + sumU u p
theorem cumP_bnd {u : Nat → Int} (hu : ∀ k, 0 ≤ u k) {S : Int} (k : Nat) : ∀ {p : List Nat} {U : Int}, 0 ≤ cumP u S p U k ∧ cumP u S p U k ≤ u k
  | [], U => by have := hu k; simp only [cumP]; omega
  | j :: p, U => by
    simp only [cumP]
    split
    · rename_i h; subst h; have := hu k; omega
    · exact cumP_bnd hu k
theorem cumP_mono {u : Nat → Int} (hu : ∀ k, 0 ≤ u k) {S S' : Int} (hS : S ≤ S') (k : Nat) : ∀ {p : List Nat} {U : Int}, cumP u S p U k ≤ cumP u S' p U k
  | [], U => by simp [cumP]
  | j :: p, U => by
    simp only [cumP]
    split
    · have := hu j; omega
    · exact cumP_mono hu hS k
theorem cumP_zero {u : Nat → Int} (hu : ∀ k, 0 ≤ u k) {k : Nat} : ∀ {p : List Nat} {U : Int}, 0 ≤ U → cumP u 0 p U k = 0
  | [], U, _ => by simp [cumP]
  | j :: p, U, h => by
    have h1 := hu j
    simp only [cumP]
    split
    · omega
    · exact cumP_zero hu (by omega)
theorem cumP_not {u : Nat → Int} {S : Int} {k : Nat} : ∀ {p : List Nat} {U : Int}, k ∉ p → cumP u S p U k = 0
  | [], U, _ => by simp [cumP]
  | j :: p, U, h => by
    simp only [List.mem_cons, not_or] at h
    simp only [cumP]
    rw [if_neg h.1]; exact cumP_not h.2
theorem give_day {u : Nat → Int} (hu : ∀ k, 0 ≤ u k) {S r : Int} (hS : 0 ≤ S) (hr : 0 ≤ r) (d : Nat) : ∀ (p : List Nat) (U room : Int) (l : Nat → Int) (w : Nat → Nat → Int), p.Nodup → 0 ≤ U → room = r - (min U (S + r) - min U S) → (∀ k ∈ p, l k = u k - cumP u S p U k) →
    (∀ k, (p.foldl (give d) (room, l, w)).2.1 k = if k ∈ p then u k - cumP u (S + r) p U k else l k) ∧ (∀ k e, (p.foldl (give d) (room, l, w)).2.2 k e = if k ∈ p ∧ e = d then cumP u (S + r) p U k - cumP u S p U k else w k e)
  | [], U, room, l, w, _, _, _, _ => ⟨fun k => by simp, fun k e => by simp⟩
  | j :: p, U, room, l, w, hnd, hU, hroom, hl => by
    have huj := hu j
    obtain ⟨hj, hnd⟩ := List.nodup_cons.1 hnd
    have hlj := hl j (by simp)
    simp only [cumP, if_true] at hlj
    have hg : min room (l j) = (min (U + u j) (S + r) - min U (S + r)) - (min (U + u j) S - min U S) := by omega
    have ih := give_day hu hS hr d p (U + u j) (room - min room (l j)) (updF l j (l j - min room (l j))) (updF w j (updF (w j) d (min room (l j)))) hnd (by omega) (by omega) (fun k hk => by
      have hkj : k ≠ j := fun h => hj (h ▸ hk)
      have h1 := hl k (by simp [hk])
      simp only [cumP, if_neg hkj] at h1
      simp only [updF, if_neg hkj]; exact h1)
    obtain ⟨ih1, ih2⟩ := ih
    rw [List.foldl_cons]
    refine ⟨fun k => ?_, fun k e => ?_⟩
    · have := ih1 k
      simp only [give] at this ⊢
      rw [this]
      by_cases hkj : k = j
      · subst hkj
        rw [if_neg hj, if_pos (by simp)]
        simp only [updF, cumP, if_true]
        omega
      · simp only [updF, cumP, List.mem_cons, hkj, false_or, if_false]
    · have := ih2 k e
      simp only [give] at this ⊢
      rw [this]
      by_cases hkj : k = j
      · subst hkj
        rw [if_neg (by simp [hj])]
        simp only [updF, cumP, if_true]
        by_cases he : e = d
        · subst he; rw [if_pos rfl, if_pos (by simp)]; omega
        · rw [if_neg he, if_neg (by simp [he])]
      · simp only [updF, cumP, List.mem_cons, hkj, false_or, if_false]
theorem sumR_nonneg {R : Nat → Int} (hR : ∀ d, 0 ≤ R d) : ∀ d, 0 ≤ sumR R d
  | 0 => by simp [sumR]
  | d + 1 => by have := sumR_nonneg hR d; have := hR d; simp only [sumR]; omega
theorem days_form {u : Nat → Int} (hu : ∀ k, 0 ≤ u k) {R : Nat → Int} (hR : ∀ d, 0 ≤ R d) {p : List Nat} (hp : p.Nodup) : ∀ D, (∀ k, (daysG R p u D).1 k = if k ∈ p then u k - cumP u (sumR R D) p 0 k else u k) ∧
    ∀ k e, (daysG R p u D).2 k e = if k ∈ p ∧ e < D then cumP u (sumR R (e + 1)) p 0 k - cumP u (sumR R e) p 0 k else 0
  | 0 => ⟨fun k => by simp only [daysG, List.range_zero, List.foldl_nil, sumR]; rw [cumP_zero hu (Int.le_refl _)]; simp, fun k e => by simp [daysG]⟩
  | D + 1 => by
    obtain ⟨h1, h2⟩ := days_form hu hR hp D
    rw [daysG_succ, dayG]
    obtain ⟨g1, g2⟩ := give_day hu (S := sumR R D) (r := R D) (sumR_nonneg hR D) (hR D) D p 0 (R D) (daysG R p u D).1 (daysG R p u D).2 hp (Int.le_refl _) (by have := sumR_nonneg hR D; have := hR D; omega) (fun k hk => by rw [h1 k, if_pos hk])
    refine ⟨fun k => ?_, fun k e => ?_⟩
    · rw [g1 k, h1 k]
      by_cases hk : k ∈ p
      · rw [if_pos hk, if_pos hk]; rfl
      · rw [if_neg hk, if_neg hk, if_neg hk]
    · rw [g2 k e, h2 k e]
      by_cases hk : k ∈ p
      · by_cases he : e = D
        · subst he; rw [if_pos ⟨hk, rfl⟩, if_pos ⟨hk, by omega⟩]; rfl
        · rw [if_neg (by simp [he])]
          by_cases hlt : e < D
          · rw [if_pos ⟨hk, hlt⟩, if_pos ⟨hk, by omega⟩]
          · rw [if_neg (by simp [hlt]), if_neg (by simp; intro _; omega)]
      · rw [if_neg (by simp [hk]), if_neg (by simp [hk]), if_neg (by simp [hk])]
/-- what goes up to a day -/
theorem sum_upto {u : Nat → Int} (hu : ∀ k, 0 ≤ u k) {R : Nat → Int} (hR : ∀ d, 0 ≤ R d) {p : List Nat} (hp : p.Nodup) {D : Nat} (k : Nat) : ∀ m, m ≤ D → sumI ((List.range m).map (spreadG R p u D k)) = cumP u (sumR R m) p 0 k
  | 0, _ => by simp only [List.range_zero, List.map_nil, sumI, sumR]; rw [cumP_zero hu (Int.le_refl _)]
  | m + 1, h => by
    rw [List.range_succ, List.map_append, sumI_append, sum_upto hu hR hp k m (by omega)]
    simp only [List.map_cons, List.map_nil, sumI, spreadG]
    rw [(days_form hu hR hp D).2 k m]
    by_cases hk : k ∈ p
    · rw [if_pos ⟨hk, by omega⟩]; omega
    · rw [if_neg (by simp [hk]), cumP_not hk, cumP_not hk]; omega
theorem sumI_perm {a b : List Int} (h : a.Perm b) : sumI a = sumI b := by
  induction h with
  | nil => rfl
  | cons x _ ih => simp only [sumI, ih]
  | swap x y l => simp only [sumI]; omega
  | trans _ _ h1 h2 => rw [h1, h2]
theorem cumP_total {u : Nat → Int} {S : Int} : ∀ {p : List Nat} {U : Int}, p.Nodup → sumI (p.map (cumP u S p U)) = min (U + sumU u p) S - min U S
  | [], U, _ => by simp [sumI, sumU]
  | j :: p, U, h => by
    obtain ⟨hj, hnd⟩ := List.nodup_cons.1 h
    simp only [List.map_cons, sumI, sumU]
    have h1 : p.map (cumP u S (j :: p) U) = p.map (cumP u S p (U + u j)) := List.map_congr_left fun k hk => by
      have : k ≠ j := fun e => hj (e ▸ hk)
      simp only [cumP, if_neg this]
    rw [h1, cumP_total hnd]
    simp only [cumP, if_true]
    rw [show U + u j + sumU u p = U + (u j + sumU u p) by omega]
    omega
theorem PlanP.nodup {n : Nat} {l : List Int} (h : PlanP n l) : (planN l).Nodup := by
  unfold planN
  have h1 := h.2.1
  have h2 := h.2.2
  clear h
  induction l with
  | nil => simp
  | cons x l ih =>
    obtain ⟨hx, hnd⟩ := List.nodup_cons.1 h2
    rw [List.map_cons, List.nodup_cons]
    refine ⟨fun hm => ?_, ih (fun k hk => h1 k (by simp [hk])) hnd⟩
    obtain ⟨y, hy, he⟩ := List.mem_map.1 hm
    have e1 := h1 x (by simp)
    have e2 := h1 y (by simp [hy])
    have : y = x := by omega
    exact hx (this ▸ hy)
/-- a list without doubles, as long as there are numbers below n, has them all -/
theorem nodup_all : ∀ (n : Nat) (p : List Nat), p.Nodup → (∀ k ∈ p, k < n) → p.length = n → ∀ k, k < n → k ∈ p := by
  intro n
  induction n with
  | zero => intro p _ _ _ k hk; omega
  | succ n ih =>
    intro p hnd hb hl k hk
    by_cases hn : n ∈ p
    · by_cases hkn : k = n
      · rw [hkn]; exact hn
      · have h2 := ih (p.erase n) (hnd.erase n) (fun x hx => by
          have h3 := List.mem_of_mem_erase hx
          have h4 := hb x h3
          have h5 : x ≠ n := fun e => by subst e; exact (List.Nodup.not_mem_erase hnd) hx
          omega) (by rw [List.length_erase_of_mem hn]; omega) k (by omega)
        exact List.mem_of_mem_erase h2
    · exfalso
      have hb2 : ∀ x ∈ p, x < n := fun x hx => by
        have h4 := hb x hx
        have : x ≠ n := fun e => hn (e ▸ hx)
        omega
      cases p with
      | nil => simp at hl
      | cons y q =>
        obtain ⟨hy, hq⟩ := List.nodup_cons.1 hnd
        have h6 := ih q hq (fun x hx => hb2 x (by simp [hx])) (by simpa using hl) y (hb2 y (by simp))
        exact hy h6
theorem PlanP.all {n : Nat} {l : List Int} (h : PlanP n l) : ∀ k, k < n → k ∈ planN l := nodup_all n _ h.nodup h.nat.2 (by rw [planN_len, h.1])
/-- what an order gets, by what may go up to the days -/
theorem tellW_get {f : Frt} {w : Win} {p : List Nat} (hu : ∀ k, 0 ≤ unitS f.ords k) (hR : ∀ d, 0 ≤ roomW w d) (hp : p.Nodup) {k : Nat} {o : Ord} (ho : f.ords[k]? = some o) :
    ∃ x, (tellW f w p)[k]? = some x ∧ x.on = cumP (unitS f.ords) (sumR (roomW w) (min (o.d.toNat + 1) f.caps.length)) p 0 k ∧ x.late = cumP (unitS f.ords) (sumR (roomW w) f.caps.length) p 0 k - x.on ∧ x.lost = o.u - cumP (unitS f.ords) (sumR (roomW w) f.caps.length) p 0 k := by
  obtain ⟨D, hD⟩ : ∃ D, D = f.caps.length := ⟨_, rfl⟩
  have hk := (List.getElem?_eq_some_iff.1 ho).1
  have hrow : (rowsF f.ords.length D (spreadG (roomW w) p (unitS f.ords) D))[k]? = some ((List.range D).map (spreadG (roomW w) p (unitS f.ords) D k)) := by simp [rowsF, hk]
  refine ⟨tellO o ((List.range D).map (spreadG (roomW w) p (unitS f.ords) D k)), ?_, ?_, ?_, ?_⟩
  · unfold tellW tellS
    rw [← hD, List.getElem?_map]
    rw [show (f.ords.zip (rowsF f.ords.length D (spreadG (roomW w) p (unitS f.ords) D)))[k]? = some (o, (List.range D).map (spreadG (roomW w) p (unitS f.ords) D k)) from List.getElem?_zip_eq_some.2 ⟨ho, hrow⟩]
    rfl
  · simp only [tellO]
    rw [← List.map_take, List.take_range, ← hD]
    exact sum_upto hu hR hp k _ (by omega)
  · simp only [tellO]
    rw [sum_upto hu hR hp k D (Nat.le_refl _), ← hD]
  · simp only [tellO]
    rw [sum_upto hu hR hp k D (Nat.le_refl _), ← hD]
theorem roomW_nonneg {w : Win} (hw : ∀ x ∈ w.caps, 0 ≤ x ∧ x ≤ 1000000) (d : Nat) : 0 ≤ roomW w d := (roomW_bnd hw d).1
/-- the way of a plan may be -/
theorem way_ok {f : Frt} {w : Win} {p : List Nat} (hV : FrtV f) (hw : WinV f w) (hc : checkWinterS f w = 0) (hp : p.Nodup) (hpn : ∀ k ∈ p, k < f.ords.length) : checkWayS f w (rowsF f.ords.length f.caps.length (spreadG (roomW w) p (unitS f.ords) f.caps.length)) = 0 := by
  have hwb := hw.bnd hV
  have hu := unitS_bnd hV.ords.u
  have hu0 : ∀ k, 0 ≤ unitS f.ords k := fun k => (hu k).1
  have hR := roomW_nonneg hwb
  have hok := (daysG_ok (roomW_bnd hwb) hu (plan := p) f.caps.length).2
  obtain ⟨g, hg⟩ : ∃ g, g = spreadG (roomW w) p (unitS f.ords) f.caps.length := ⟨_, rfl⟩
  obtain ⟨N, hN⟩ : ∃ N, N = f.ords.length := ⟨_, rfl⟩
  obtain ⟨D, hD⟩ : ∃ D, D = f.caps.length := ⟨_, rfl⟩
  have hform := (days_form hu0 hR hp f.caps.length).2
  have hup := fun k => sum_upto hu0 hR hp (D := f.caps.length) k f.caps.length (Nat.le_refl _)
  rw [← hg] at hup ⊢
  have hgd : ∀ k e, g k e = if k ∈ p ∧ e < D then cumP (unitS f.ords) (sumR (roomW w) (e + 1)) p 0 k - cumP (unitS f.ords) (sumR (roomW w) e) p 0 k else 0 := by rw [hg, hD]; exact hform
  rw [← hN] at hpn
  rw [← hD] at hup
  unfold checkWayS
  rw [← hN, ← hD, if_neg (by simp [hc])]
  rw [if_neg (by
    simp only [rowsF, List.length_map, List.length_range, not_or]
    rw [Bool.not_eq_true, List.any_eq_false]
    refine ⟨fun h => h rfl, fun r hr => ?_⟩
    obtain ⟨k, _, rfl⟩ := List.mem_map.1 hr
    simp)]
  rw [if_neg (by
    rw [Bool.not_eq_false, List.all_eq_true]
    intro r hr
    obtain ⟨k, _, rfl⟩ := List.mem_map.1 hr
    rw [List.all_eq_true]
    intro x hx
    obtain ⟨d, _, rfl⟩ := List.mem_map.1 hx
    have := hok k d
    simp only [okE, decide_eq_true_eq, hg, spreadG]
    exact this)]
  rw [if_neg (by
    rw [Bool.not_eq_false, List.all_eq_true]
    intro d hd
    have hd := List.mem_range.1 hd
    rw [decide_eq_true_eq]
    have e1 : colS (rowsF N D g) d = sumI ((List.range N).map fun k => g k d) := by
      unfold colS rowsF
      rw [List.map_map]
      congr 1
      apply List.map_congr_left
      intro k _
      simp [List.getD_eq_getElem?_getD, hd]
    have e2 : sumI ((List.range N).map fun k => g k d) ≤ sumI (p.map fun k => g k d) := by
      have key : ∀ (q : List Nat) (r : List Nat), q.Nodup → (∀ k ∈ q, k ∈ r ∨ g k d = 0) → sumI (q.map fun k => g k d) ≤ sumI (r.map fun k => g k d) := by
        intro q
        induction q with
        | nil =>
          intro r _ _
          have : ∀ r : List Nat, 0 ≤ sumI (r.map fun k => g k d) := by
            intro r; induction r with
            | nil => simp [sumI]
            | cons x r ih => simp only [List.map_cons, sumI]; have h8 : 0 ≤ g x d := by rw [hg]; exact (hok x d).1
                             omega
          simpa [sumI] using this r
        | cons x q ih =>
          intro r hnd h
          obtain ⟨hx, hq⟩ := List.nodup_cons.1 hnd
          simp only [List.map_cons, sumI]
          rcases h x (by simp) with h1 | h1
          · have h2 := ih (r.erase x) hq (fun k hk => by
              rcases h k (by simp [hk]) with h3 | h3
              · left; exact (List.mem_erase_of_ne (fun e => by subst e; exact hx hk)).2 h3
              · exact .inr h3)
            have h4 := sumI_perm ((List.perm_cons_erase h1).map fun k => g k d)
            simp only [List.map_cons, sumI] at h4
            omega
          · have := ih r hq (fun k hk => h k (by simp [hk])); omega
      refine key _ _ List.nodup_range fun k _ => ?_
      by_cases hk : k ∈ p
      · exact .inl hk
      · right; rw [hgd, if_neg (by simp [hk])]
    have e3 : sumI (p.map fun k => g k d) = sumI (p.map (cumP (unitS f.ords) (sumR (roomW w) (d + 1)) p 0)) - sumI (p.map (cumP (unitS f.ords) (sumR (roomW w) d) p 0)) := by
      have key : ∀ q : List Nat, (∀ k ∈ q, k ∈ p) → sumI (q.map fun k => g k d) = sumI (q.map (cumP (unitS f.ords) (sumR (roomW w) (d + 1)) p 0)) - sumI (q.map (cumP (unitS f.ords) (sumR (roomW w) d) p 0)) := by
        intro q
        induction q with
        | nil => intro _; simp [sumI]
        | cons x q ih =>
          intro h
          simp only [List.map_cons, sumI]
          rw [ih fun k hk => h k (by simp [hk]), hgd, if_pos ⟨h x (by simp), hd⟩]
          omega
      exact key p fun _ h => h
    rw [cumP_total hp, cumP_total hp] at e3
    have h7 := sumR_nonneg hR d
    have h8 := hR d
    simp only [sumR] at e3
    omega)]
  rw [if_neg (by
    rw [Bool.not_eq_false, List.all_eq_true]
    intro x hx
    obtain ⟨i, hi⟩ := List.mem_iff_getElem?.1 hx
    obtain ⟨h1, h2⟩ := List.getElem?_zip_eq_some.1 hi
    have hiN : i < N := by have := (List.getElem?_eq_some_iff.1 h1).1; simpa [rowsF] using this
    have h3 : x.1 = (List.range D).map (g i) := by simp [rowsF, hiN] at h1; exact h1.symm
    rw [decide_eq_true_eq, h3, hup i]
    have := (cumP_bnd hu0 (S := sumR (roomW w) D) i (p := p) (U := 0)).2
    rw [unitS_get h2] at this
    exact this)]
end Go.Sas
namespace Go.Sas
theorem sumI_le : ∀ {l l' : List Int}, l.length = l'.length → (∀ (k : Nat) (x y : Int), l[k]? = some x → l'[k]? = some y → x ≤ y) → sumI l ≤ sumI l'
  | [], [], _, _ => Int.le_refl _
  | [], _ :: _, h, _ => by simp at h
  | _ :: _, [], h, _ => by simp at h
  | a :: l, b :: l', h, hk => by
    have h1 := hk 0 a b rfl rfl
    have h2 := sumI_le (l := l) (l' := l') (by simpa using h) fun k x y hx hy => hk (k + 1) x y (by simpa using hx) (by simpa using hy)
    simp only [sumI]; omega
/-- more room before every day -/
def RoomLe (D : Nat) (w w' : Win) : Prop := ∀ d, d ≤ D → sumR (roomW w) d ≤ sumR (roomW w') d
theorem sumR_le {R R' : Nat → Int} : ∀ d, (∀ e, e < d → R e ≤ R' e) → sumR R d ≤ sumR R' d
  | 0, _ => Int.le_refl _
  | d + 1, h => by
    have h1 := sumR_le d fun e he => h e (by omega)
    have h2 := h d (by omega)
    simp only [sumR]; omega
theorem OrdV_of {f : Frt} (hV : FrtV f) {k : Nat} {o : Ord} (ho : f.ords[k]? = some o) : (1 ≤ o.u ∧ o.u ≤ 1000000) ∧ (0 ≤ o.d ∧ o.d ≤ 200) ∧ (0 ≤ o.l ∧ o.l ≤ o.s ∧ o.s ≤ 1000000) := hV.ob o (List.mem_of_getElem? ho)
theorem FrtV.u0 {f : Frt} (hV : FrtV f) (k : Nat) : 0 ≤ unitS f.ords k := (unitS_bnd hV.ords.u k).1
def Win.Ok (w : Win) : Prop := ∀ x ∈ w.caps, 0 ≤ x ∧ x ≤ 1000000
theorem cost_get {f : Frt} {w : Win} {p : List Nat} {k : Nat} {o : Ord} {x : Dlv} (ho : f.ords[k]? = some o) (hx : (tellW f w p)[k]? = some x) :
    ((f.ords.zip (rowsF f.ords.length f.caps.length (spreadG (roomW w) p (unitS f.ords) f.caps.length))).map fun q => fineO q.1 (tellO q.1 q.2))[k]? = some (fineO o x) := by
  unfold tellW tellS at hx
  rw [List.getElem?_map] at hx ⊢
  rcases h : (f.ords.zip (rowsF f.ords.length f.caps.length (spreadG (roomW w) p (unitS f.ords) f.caps.length)))[k]? with _ | q
  · rw [h] at hx; simp at hx
  · rw [h] at hx
    obtain ⟨q1, q2⟩ := q
    obtain ⟨h1, _⟩ := List.getElem?_zip_eq_some.1 h
    rw [ho] at h1; cases h1
    simp at hx ⊢; rw [hx]
/-- more room, no less on time; no more lost -/
theorem tell_mono {f : Frt} {w w' : Win} {p : List Nat} (hV : FrtV f) (hw : w.Ok) (hw' : w'.Ok) (hp : p.Nodup) (hR : RoomLe f.caps.length w w') {k : Nat} {o : Ord} (ho : f.ords[k]? = some o) :
    ∃ x y, (tellW f w p)[k]? = some x ∧ (tellW f w' p)[k]? = some y ∧ 0 ≤ x.on ∧ x.on ≤ y.on ∧ y.on ≤ o.u ∧ fineO o y ≤ fineO o x := by
  obtain ⟨x, h1, h2, h3, h4⟩ := tellW_get (f := f) hV.u0 (roomW_nonneg hw) hp ho
  obtain ⟨y, g1, g2, g3, g4⟩ := tellW_get (f := f) hV.u0 (roomW_nonneg hw') hp ho
  have m1 := cumP_mono hV.u0 (hR (min (o.d.toNat + 1) f.caps.length) (by omega)) k (p := p) (U := 0)
  have m2 := cumP_mono hV.u0 (hR f.caps.length (by omega)) k (p := p) (U := 0)
  have m3 := cumP_bnd hV.u0 k (p := p) (U := 0) (S := sumR (roomW w) (min (o.d.toNat + 1) f.caps.length))
  have m4 := cumP_bnd hV.u0 k (p := p) (U := 0) (S := sumR (roomW w') (min (o.d.toNat + 1) f.caps.length))
  rw [unitS_get ho] at m3 m4
  refine ⟨x, y, h1, g1, by omega, by omega, by omega, ?_⟩
  obtain ⟨_, _, hl0, hls, _⟩ := OrdV_of hV ho
  unfold fineO
  rw [h3, h4, g3, g4, h2, g2]
  obtain ⟨a, ha⟩ : ∃ a, a = cumP (unitS f.ords) (sumR (roomW w) (min (o.d.toNat + 1) f.caps.length)) p 0 k := ⟨_, rfl⟩
  obtain ⟨a', ha'⟩ : ∃ a, a = cumP (unitS f.ords) (sumR (roomW w') (min (o.d.toNat + 1) f.caps.length)) p 0 k := ⟨_, rfl⟩
  obtain ⟨b, hb⟩ : ∃ a, a = cumP (unitS f.ords) (sumR (roomW w) f.caps.length) p 0 k := ⟨_, rfl⟩
  obtain ⟨b', hb'⟩ : ∃ a, a = cumP (unitS f.ords) (sumR (roomW w') f.caps.length) p 0 k := ⟨_, rfl⟩
  rw [← ha, ← hb, ← ha', ← hb']
  rw [← ha, ← ha'] at m1
  rw [← hb, ← hb'] at m2
  have e1 : (a' - a) * o.l ≥ 0 := Int.mul_nonneg (by omega) hl0
  have e2 : (b' - b) * (o.s - o.l) ≥ 0 := Int.mul_nonneg (by omega) (by omega)
  have e3 : ((b - a) * o.l + (o.u - b) * o.s) - ((b' - a') * o.l + (o.u - b') * o.s) = (a' - a) * o.l + (b' - b) * (o.s - o.l) := by
    simp only [Int.sub_mul, Int.mul_sub]; omega
  omega
theorem cost_mono {f : Frt} {w w' : Win} {p : List Nat} (hV : FrtV f) (hw : w.Ok) (hw' : w'.Ok) (hp : p.Nodup) (hR : RoomLe f.caps.length w w') : costSF f.ords f.caps.length w' p ≤ costSF f.ords f.caps.length w p := by
  unfold costSF penS
  refine sumI_le (by simp [rowsF]) fun k a b ha hb => ?_
  have hk : k < f.ords.length := by
    have := (List.getElem?_eq_some_iff.1 ha).1
    simp [rowsF] at this; omega
  obtain ⟨o, ho⟩ : ∃ o, f.ords[k]? = some o := ⟨_, List.getElem?_eq_getElem hk⟩
  obtain ⟨x, y, h1, h2, _, _, _, h3⟩ := tell_mono hV hw hw' hp hR ho
  rw [cost_get ho h1] at hb
  rw [cost_get ho h2] at ha
  cases ha; cases hb; exact h3
theorem roomLe_of {D : Nat} {w w' : Win} (hfi : w'.fi ≤ w.fi) (hla : w.la ≤ w'.la) (hc : ∀ (d : Nat) (x y : Int), w.caps[d]? = some x → w'.caps[d]? = some y → x ≤ y) (hl : w.caps.length = w'.caps.length) (hw : w'.Ok) : RoomLe D w w' := by
  intro d _
  refine sumR_le d fun e _ => ?_
  unfold roomW
  have h0 : 0 ≤ w'.caps.getD e 0 := by
    rw [List.getD_eq_getElem?_getD]
    rcases h : w'.caps[e]? with _ | y
    · simp
    · exact (hw y (List.mem_of_getElem? h)).1
  split
  · rw [if_pos (by omega)]
    rw [List.getD_eq_getElem?_getD, List.getD_eq_getElem?_getD]
    by_cases he : e < w.caps.length
    · rw [List.getElem?_eq_getElem he, List.getElem?_eq_getElem (by omega)]
      exact hc e _ _ (List.getElem?_eq_getElem he) (List.getElem?_eq_getElem (by omega))
    · rw [List.getElem?_eq_none (by omega), List.getElem?_eq_none (by omega)]; exact Int.le_refl _
  · split <;> omega
theorem FrtV.worst {f : Frt} (hV : FrtV f) : (worstW f).Ok := hV.lo
theorem FrtV.best {f : Frt} (hV : FrtV f) : (bestW f).Ok := hV.hi
end Go.Sas
namespace Go.Sas
open Go.Proofs
set_option maxRecDepth 100000
theorem perm_plan {n : Nat} {p : List Nat} (h : p.Perm (List.range n)) : PlanP n (p.map iLen) ∧ planN (p.map iLen) = p ∧ p.map natI = (p.map iLen).map I := by
  refine ⟨⟨by simp [h.length_eq], fun k hk => ?_, ?_⟩, ?_, ?_⟩
  · obtain ⟨x, hx, rfl⟩ := List.mem_map.1 hk
    have := List.mem_range.1 (h.mem_iff.1 hx)
    unfold iLen; omega
  · have hnd : p.Nodup := h.nodup_iff.2 List.nodup_range
    clear h
    induction p with
    | nil => simp
    | cons x l ih =>
      obtain ⟨hx, hnd⟩ := List.nodup_cons.1 hnd
      rw [List.map_cons, List.nodup_cons]
      refine ⟨fun hm => ?_, ih hnd⟩
      obtain ⟨y, hy, he⟩ := List.mem_map.1 hm
      have : y = x := by unfold iLen at he; omega
      exact hx (this ▸ hy)
  · unfold planN; rw [List.map_map]; conv => rhs; rw [← List.map_id p]
    apply List.map_congr_left; intro x _; simp [iLen]
  · rw [List.map_map]; rfl
def ePlanOf : List AV → AHeap → Option PT
  | [.mp id 0 0, .lit (.int .i64 m)], H => match H[id]? with
    | some (.own 0 [.lit (.int .u64 _)]) => some fun K => ∃ n : Nat, (m = iLen n ∧ n ≤ 1000) ∧ ∀ w' r, PlanQ n r → K r (H.set id (.own 0 [U w']))
    | _ => none
  | _, _ => none
theorem ePlanOf_ok : ∀ args H pt, ePlanOf args H = some pt → ∀ (Kk : AV → AHeap → Prop), pt Kk → ACalls Try.prog 12 args H Kk := by
  intro args H pt h Kk hk
  unfold ePlanOf at h
  split at h
  · split at h
    · rename_i hX
      cases h
      obtain ⟨n, ⟨rfl, h1⟩, h2⟩ := hk
      exact d12 n h1 _ _ _ hX Kk h2
    · cases h
  · cases h
end Go.Sas
namespace Go.Sas
theorem why_zero {R : List Rch} {a b c : Int} {l : List Lk} {m : List Mrk} {need h : Int} {p : Nat} (hw : whyS R a b c l m need h p = 0) : need ≤ (knowS R l p h).1 ∧ verdS m h (iLen R.length) p = 2 ∧ staleS R a b c l h p = false := by
  unfold whyS at hw
  split at hw
  · omega
  · split at hw
    · omega
    · split at hw
      · omega
      · rename_i h1 h2 h3
        exact ⟨by omega, by simpa using h2, by simpa using h3⟩
end Go.Sas
namespace Go.Sas
/-- x says no less than y -/
def Nar (y x : Lk) : Prop := x.k = y.k ∧ x.p = y.p ∧ x.h = y.h ∧ y.lo ≤ x.lo ∧ x.hi ≤ y.hi
def NarL (l l' : List Lk) : Prop := ∀ y ∈ l, ∃ x ∈ l', Nar y x
theorem Nar.rfl' {x : Lk} : Nar x x := ⟨rfl, rfl, rfl, Int.le_refl _, Int.le_refl _⟩
theorem know_more {R : List Rch} {p : Nat} {h : Int} {l l' : List Lk} (hn : NarL l l') : (knowS R l p h).1 ≤ (knowS R l' p h).1 ∧ (knowS R l' p h).2 ≤ (knowS R l p h).2 := by
  obtain ⟨_, _, _, a4, a5⟩ := knowG_fold (R := R) (p := p) (h := h) (l := l) (s := (0, 3000)) (r := knowS R l p h) rfl
  obtain ⟨b1, b2, b3, _, _⟩ := knowG_fold (R := R) (p := p) (h := h) (l := l') (s := (0, 3000)) (r := knowS R l' p h) rfl
  dsimp only at a4 a5 b1 b2
  constructor
  · rcases a4 with a4 | ⟨y, hy, a4⟩
    · omega
    · obtain ⟨x, hx, _, e2, e3, e4, _⟩ := hn y hy
      have := (b3 x hx).1
      rw [e2, e3] at this
      omega
  · rcases a5 with a5 | ⟨y, hy, a5⟩
    · omega
    · obtain ⟨x, hx, _, e2, e3, _, e5⟩ := hn y hy
      have := (b3 x hx).2
      rw [e2, e3] at this
      omega
theorem stale_more {R : List Rch} {a b c h : Int} {p : Nat} {l l' : List Lk} (hn : NarL l l') (hs : staleS R a b c l h p = false) : staleS R a b c l' h p = false := by
  unfold staleS at hs ⊢
  simp only [Bool.not_eq_false'] at hs ⊢
  rw [List.any_eq_true] at hs ⊢
  obtain ⟨y, hy, h1⟩ := hs
  obtain ⟨x, hx, e1, e2, e3, _⟩ := hn y hy
  refine ⟨x, hx, ?_⟩
  unfold seenS at h1 ⊢
  rw [e1, e2, e3]; exact h1
theorem NarL.past {l l' : List Lk} {h : Int} (hn : NarL l l') : NarL (pastL l h) (pastL l' h) := fun y hy => by
  have h1 := List.mem_filter.1 hy
  obtain ⟨x, hx, e⟩ := hn y h1.1
  refine ⟨x, List.mem_filter.2 ⟨hx, ?_⟩, e⟩
  have h2 := h1.2
  simp only [decide_eq_true_eq] at h2 ⊢
  rw [e.2.2.1]; exact h2
theorem why_more {R : List Rch} {a b c : Int} {l l' : List Lk} {m : List Mrk} {need h : Int} {p : Nat} (hn : NarL l l') (hw : whyS R a b c l m need h p = 0) : whyS R a b c l' m need h p = 0 := by
  obtain ⟨h1, h2, h3⟩ := why_zero hw
  have h4 := (know_more (R := R) (p := p) (h := h) hn).1
  have h5 := stale_more hn h3
  unfold whyS
  rw [if_neg (by omega), if_neg (by simpa using h2), if_neg (by simp [h5])]
end Go.Sas

namespace Go.Sas
open Go.Proofs
set_option maxRecDepth 100000
end Go.Sas
namespace Go.Sas
open Go.Proofs
set_option maxRecDepth 100000
end Go.Sas
namespace Go.Sas
end Go.Sas
namespace Go.Sas
section
variable {α : Type} [DecidableEq α]
/-- what a run says -/
theorem runsN_mem {V : Nat → α} : ∀ {n : Nat} {x : Nat × Nat × α}, x ∈ runsN V n → x.1 ≤ x.2.1 ∧ x.2.1 < n ∧ ∀ q, x.1 ≤ q → q ≤ x.2.1 → V q = x.2.2
  | 0, x, h => by simp [runsN] at h
  | n + 1, x, h => by
    rw [runsN] at h
    split at h
    · rename_i f t v hl
      have hm : (f, t, v) ∈ runsN V n := List.mem_of_getLast? hl
      have ht : t + 1 = n := by
        cases n with
        | zero => simp [runsN] at hl
        | succ k =>
          obtain ⟨l, g, h5, _⟩ := runsN_last (V := V) (n := k)
          rw [h5] at hl
          simp only [List.getLast?_append, List.getLast?_singleton, Option.some_or, Option.some.injEq, Prod.mk.injEq] at hl
          omega
      have ih := runsN_mem hm
      dsimp only at ih
      split at h
      · rename_i hv
        rcases List.mem_append.1 h with h | h
        · have := runsN_mem (List.dropLast_subset _ h); exact ⟨this.1, by omega, this.2.2⟩
        · simp only [List.mem_singleton] at h; subst h
          refine ⟨by dsimp only; omega, by dsimp only; omega, fun q h1 h2 => ?_⟩
          dsimp only at h1 h2 ⊢
          by_cases hq : q = n
          · rw [hq, hv]
          · exact ih.2.2 q h1 (by omega)
      · rcases List.mem_append.1 h with h | h
        · have := runsN_mem h; exact ⟨this.1, by omega, this.2.2⟩
        · simp only [List.mem_singleton] at h; subst h
          refine ⟨by dsimp only; omega, by dsimp only; omega, fun q h1 h2 => ?_⟩
          dsimp only at h1 h2 ⊢
          rw [show q = n by omega]
    · rename_i hl
      simp only [List.mem_singleton] at h; subst h
      have hn : n = 0 := by
        cases n with
        | zero => rfl
        | succ k =>
          obtain ⟨l, g, h5, _⟩ := runsN_last (V := V) (n := k)
          rw [h5] at hl; simp at hl
      subst hn
      exact ⟨Nat.le_refl _, by dsimp only; omega, fun q h1 h2 => by dsimp only at h2 ⊢; rw [show q = 0 by omega]⟩
/-- each place is in a run -/
theorem runsN_cov {V : Nat → α} : ∀ {n p : Nat}, p < n → ∃ x ∈ runsN V n, x.1 ≤ p ∧ p ≤ x.2.1
  | 0, p, h => by omega
  | n + 1, p, h => by
    by_cases hp : p = n
    · obtain ⟨l, f, h1, h2⟩ := runsN_last (V := V) (n := n)
      exact ⟨(f, n, V n), by rw [h1]; simp, by dsimp only; omega, by dsimp only; omega⟩
    · obtain ⟨x, hx, h1, h2⟩ := runsN_cov (V := V) (n := n) (p := p) (by omega)
      have hxm := runsN_mem hx
      rw [runsN]
      split
      · rename_i f t v hl
        split
        · by_cases hxl : x = (f, t, v)
          · subst hxl; exact ⟨(f, n, v), by simp, h1, by dsimp only; omega⟩
          · refine ⟨x, List.mem_append.2 (.inl ?_), h1, h2⟩
            have hne : runsN V n ≠ [] := fun h0 => by rw [h0] at hx; simp at hx
            rw [← List.dropLast_concat_getLast hne] at hx
            rcases List.mem_append.1 hx with hx | hx
            · exact hx
            · exfalso; apply hxl
              simp only [List.mem_singleton] at hx
              rw [List.getLast?_eq_some_getLast hne] at hl
              simp only [Option.some.injEq] at hl
              rw [hx, hl]
        · exact ⟨x, by simp [hx], h1, h2⟩
      · rename_i hl
        rw [List.getLast?_eq_none_iff] at hl
        rw [hl] at hx; simp at hx
end
/-- what a plan of looks says -/
structure PlanV (V : Nat → Bool) (s n : Int) (j : Nat) (u : Int × List Int × List Int) : Prop where
  len : u.2.2.length = u.2.1.length
  prf : ∀ (i : Nat) q, u.2.2[i]? = some q → ∃ p : Nat, q = iLen p ∧ p < j ∧ V p = true ∧ u.2.1[i]? = some (min (q + s) (n - 1)) ∧ q + 2 * s ≤ u.1
  nxt : ∀ (i : Nat) q q', u.2.2[i]? = some q → u.2.2[i + 1]? = some q' → q + 2 * s < q'
  cov : ∀ p : Nat, p < j → V p = true → ∃ x ∈ u.2.1, x - s ≤ p ∧ (p : Int) ≤ x + s
  see : u.1 = -1 ∨ ∃ q : Nat, q < j ∧ u.1 = iLen q + 2 * s ∧ min (iLen q + s) (n - 1) ∈ u.2.1
end Go.Sas
namespace Go.Sas
open Go.Proofs
set_option maxRecDepth 100000
def eCheckWay : List AV → Option ((AV → Prop) → Prop)
  | [.agg [.lit (.int .i64 a), .lit (.int .i64 b), .lit (.int .i64 c), .lit (.int .i64 d), .vs 2 xs, .vs 4 ys], .agg [.lit (.int .i64 u), .lit (.int .i64 v), .vs 1 zs], .vs 1 rs] =>
    some fun K => ∃ (cs : List (Int × Int)) (os : List Ord) (ws : List Int) (way : List (List Int)), xs = cs.map sp ∧ ys = os.map orV ∧ zs = ws.map I ∧ (rs = way.map fun r => .vs 1 (r.map I)) ∧ cs.length ≤ 9223372036854775807 ∧ os.length ≤ 9223372036854775807 ∧ ws.length ≤ 9223372036854775807 ∧ way.length ≤ 9223372036854775807 ∧ ∀ q, q = checkWayS ⟨(a, b), (c, d), cs, os⟩ ⟨u, v, ws⟩ way → K (I q)
  | _ => none
theorem eCheckWay_ok : ∀ args pt, eCheckWay args = some pt → ∀ (H : AHeap) (Kk : AV → AHeap → Prop), pt (fun r => Kk r H) → ACalls Try.prog 28 args H Kk := by
  intro args pt h H Kk hk
  unfold eCheckWay at h
  split at h
  · cases h
    obtain ⟨cs, os, ws, way, rfl, rfl, rfl, rfl, h1, h2, h3, h4, h5⟩ := hk
    exact p28 _ _ _ _ _ _ _ _ _ _ h1 h2 h3 h4 H (h5 _ rfl)
  · cases h
theorem checkWayS_ok {f : Frt} {w : Win} {way : List (List Int)} (h : checkWayS f w way = 0) : checkWinterS f w = 0 ∧ RowsV f.ords.length f.caps.length way := by
  unfold checkWayS at h
  split at h
  · rename_i hz; exact absurd h hz
  rename_i hz
  split at h
  · omega
  rename_i h1
  split at h
  · omega
  rename_i h2
  simp only [not_or] at h1
  refine ⟨by simpa using hz, by omega, fun r hr => ⟨?_, fun x hx => ?_⟩⟩
  · have := h1.2
    rw [Bool.not_eq_true, List.any_eq_false] at this
    simpa using this r hr
  · rw [Bool.not_eq_false, List.all_eq_true] at h2
    have h3 := h2 r hr
    rw [List.all_eq_true] at h3
    exact okE_bnd (h3 x hx)
def tellL (f : Frt) (w : Win) (way : List (List Int)) : List Dlv := if checkWayS f w way ≠ 0 then [] else tellS f.ords way
def tellP (f : Frt) (w : Win) (way : List (List Int)) : Int := if checkWayS f w way ≠ 0 then 0 else penS f.ords way
theorem p16 (a b c d u v : Int) (cs : List (Int × Int)) (os : List Ord) (ws : List Int) (way : List (List Int)) (hc : cs.length ≤ 9223372036854775807) (ho : os.length ≤ 9223372036854775807) (hw : ws.length ≤ 9223372036854775807) (hy : way.length ≤ 9223372036854775807) (H : AHeap) {Kk : AV → AHeap → Prop}
    (h : Kk (.tup [.vs 4 ((tellL ⟨(a, b), (c, d), cs, os⟩ ⟨u, v, ws⟩ way).map dlV), I (tellP ⟨(a, b), (c, d), cs, os⟩ ⟨u, v, ws⟩ way), I (checkWayS ⟨(a, b), (c, d), cs, os⟩ ⟨u, v, ws⟩ way)]) H) :
    ACalls Try.prog 16 [frV a b c d (.vs 2 (cs.map sp)) (.vs 4 (os.map orV)), winV u v (.vs 1 (ws.map I)), .vs 1 (way.map fun r => .vs 1 (r.map I))] H Kk := by
  refine (fun q => pureF (by rfl) (by rfl) q H h) ?_
  clear h
  intro Kk h
  obtain ⟨xs, hxs⟩ : ∃ xs, xs = cs.map sp := ⟨_, rfl⟩
  obtain ⟨ys, hys⟩ : ∃ ys, ys = os.map orV := ⟨_, rfl⟩
  obtain ⟨zs, hzs⟩ : ∃ ys, ys = ws.map I := ⟨_, rfl⟩
  obtain ⟨rs, hrs⟩ : ∃ rs : List AV, rs = way.map fun r => .vs 1 (r.map I) := ⟨_, rfl⟩
  rw [← hxs, ← hys, ← hzs, ← hrs]
  obtain ⟨W, hW⟩ : ∃ W, W = checkWayS ⟨(a, b), (c, d), cs, os⟩ ⟨u, v, ws⟩ way := ⟨_, rfl⟩
  unfold tellL tellP at h
  rw [← hW] at h
  obtain ⟨A, hA⟩ : ∃ A, A = std := ⟨_, rfl⟩
  obtain ⟨F, hF⟩ : ∃ F, F = Frees 0 Kk := ⟨_, rfl⟩
  rw [← hF]
  have hne : ∀ x, A.ne x 0 = decide (x ≠ 0) := by subst hA; intro x; simp only [std, iNe]; rw [Bool.eq_iff_iff]; simp
  refine go16 rfl (SGo_run hA ⟨[], [], (28, eCheckWay) :: (29, eTellF) :: [], []⟩ (.cons eCheckWay_ok (.cons eTellF_ok .nil)) .nil 200 fun T TD hT hTD => ?_)
  cbv
  refine Exists.intro cs (Exists.intro os (Exists.intro ws (Exists.intro way (And.intro hxs (And.intro hys (And.intro hzs (And.intro hrs (And.intro hc (And.intro ho (And.intro hw (And.intro hy ?_)))))))))))
  intro q hq; cbv
  rw [← hq] at hW
  split <;> cbv
  · rename_i hz
    have hz : q ≠ 0 := by have hz := (hne q).symm.trans hz; simpa using hz
    rw [if_pos (by rw [hW]; exact hz), if_pos (by rw [hW]; exact hz), hW] at h
    rw [hF]
    exact Frees.wk (r' := .tup [.vs 4 [], I 0, I q]) (Wk.tup ⟨Wk.nil, Wk.rfl, Wk.rfl, trivial⟩) (Frees.drop0 h rfl)
  rename_i hz
  have hz : q = 0 := by have hz := (hne q).symm.trans hz; simpa using hz
  rw [hz] at hq hW
  obtain ⟨hcw, hrv⟩ := checkWayS_ok hq.symm
  obtain ⟨hV, hwv⟩ := checkWinterS_ok hcw
  rw [if_neg (by simp [hW]), if_neg (by simp [hW]), hW] at h
  refine Exists.intro cs (Exists.intro os (Exists.intro way (And.intro hxs (And.intro hys (And.intro hrs (And.intro hV.c2 (And.intro hV.o2 (And.intro hV.ords (And.intro hrv ?_)))))))))
  intro ds pn hds hpn; cbv
  rw [hF, hds, hpn]
  exact Frees.drop0 h rfl
def eSpreadR : List AV → Option ((AV → Prop) → Prop)
  | [.agg [.lit (.int .i64 a), .lit (.int .i64 b), .lit (.int .i64 c), .lit (.int .i64 d), .vs 2 xs, .vs 4 ys], .agg [.lit (.int .i64 u), .lit (.int .i64 v), .vs 1 zs], .vs 1 ps] =>
    some fun K => ∃ (cs : List (Int × Int)) (os : List Ord) (ws plan : List Int), xs = cs.map sp ∧ ys = os.map orV ∧ zs = ws.map I ∧ ps = plan.map I ∧ cs.length ≤ 9223372036854775807 ∧ os.length ≤ 9223372036854775807 ∧ ws.length ≤ 9223372036854775807 ∧ plan.length ≤ 9223372036854775807 ∧
      ∀ rs q, (rs = (spreadR ⟨(a, b), (c, d), cs, os⟩ ⟨u, v, ws⟩ plan).map fun r => .vs 1 (r.map I)) → q = spreadC ⟨(a, b), (c, d), cs, os⟩ ⟨u, v, ws⟩ plan → K (.tup [.vs 1 rs, I q])
  | _ => none
theorem eSpreadR_ok : ∀ args pt, eSpreadR args = some pt → ∀ (H : AHeap) (Kk : AV → AHeap → Prop), pt (fun r => Kk r H) → ACalls Try.prog 14 args H Kk := by
  intro args pt h H Kk hk
  unfold eSpreadR at h
  split at h
  · cases h
    obtain ⟨cs, os, ws, plan, rfl, rfl, rfl, rfl, h1, h2, h3, h4, h5⟩ := hk
    exact p14 _ _ _ _ _ _ _ _ _ _ h1 h2 h3 h4 H (h5 _ _ rfl rfl)
  · cases h
def eTell : List AV → Option ((AV → Prop) → Prop)
  | [.agg [.lit (.int .i64 a), .lit (.int .i64 b), .lit (.int .i64 c), .lit (.int .i64 d), .vs 2 xs, .vs 4 ys], .agg [.lit (.int .i64 u), .lit (.int .i64 v), .vs 1 zs], .vs 1 rs] =>
    some fun K => ∃ (cs : List (Int × Int)) (os : List Ord) (ws : List Int) (way : List (List Int)), xs = cs.map sp ∧ ys = os.map orV ∧ zs = ws.map I ∧ (rs = way.map fun r => .vs 1 (r.map I)) ∧ cs.length ≤ 9223372036854775807 ∧ os.length ≤ 9223372036854775807 ∧ ws.length ≤ 9223372036854775807 ∧ way.length ≤ 9223372036854775807 ∧
      ∀ ds pn q, ds = (tellL ⟨(a, b), (c, d), cs, os⟩ ⟨u, v, ws⟩ way).map dlV → pn = tellP ⟨(a, b), (c, d), cs, os⟩ ⟨u, v, ws⟩ way → q = checkWayS ⟨(a, b), (c, d), cs, os⟩ ⟨u, v, ws⟩ way → K (.tup [.vs 4 ds, I pn, I q])
  | _ => none
theorem eTell_ok : ∀ args pt, eTell args = some pt → ∀ (H : AHeap) (Kk : AV → AHeap → Prop), pt (fun r => Kk r H) → ACalls Try.prog 16 args H Kk := by
  intro args pt h H Kk hk
  unfold eTell at h
  split at h
  · cases h
    obtain ⟨cs, os, ws, way, rfl, rfl, rfl, rfl, h1, h2, h3, h4, h5⟩ := hk
    exact p16 _ _ _ _ _ _ _ _ _ _ h1 h2 h3 h4 H (h5 _ _ _ rfl rfl rfl)
  · cases h
theorem winS_of {f : Frt} {w : Win} (hf : checkF f = 0) (h : WinV f w) : checkWinterS f w = 0 := by
  unfold checkWinterS
  rw [if_neg (by simp [hf]), if_neg (by simp [h.len]), if_pos]
  simp only [winB, inB, Bool.and_eq_true, decide_eq_true_eq, List.all_eq_true]
  refine ⟨⟨h.fi, h.la⟩, fun x hx => ?_⟩
  obtain ⟨i, hi⟩ := List.mem_iff_getElem?.1 hx
  obtain ⟨h1, h2⟩ := List.getElem?_zip_eq_some.1 hi
  exact h.cap i x.1 x.2 h1 h2
end Go.Sas
namespace Go.Sas
open Go.Proofs
set_option maxRecDepth 100000
theorem cloS_nil {V : Nat → Int} {n : Nat} : (cloS V n).length = 0 ↔ ∀ p, p < n → V p = 0 := by
  rw [List.length_eq_zero_iff]
  unfold cloS
  rw [List.filter_eq_nil_iff]
  constructor
  · intro h p hp
    obtain ⟨x, hx, h1, h2⟩ := runsN_cov (V := V) hp
    have h3 := (runsN_mem hx).2.2 p h1 h2
    have h4 := h x hx
    simp only [decide_eq_true_eq, Classical.not_not] at h4
    rw [h3, h4]
  · intro h x hx
    obtain ⟨h1, h2, h3⟩ := runsN_mem hx
    have h4 := h3 x.1 (Nat.le_refl _) h1
    have h5 := h x.1 (by omega)
    simp only [decide_eq_true_eq, Classical.not_not]
    rw [← h4, h5]
theorem open_more {rs : List Rch} {a b c : Int} {l l' : List Lk} {m : List Mrk} {need : Int} {t : Nat} (h0 : askE rs a b c l m need (iLen t) = 0) (h1 : askE rs a b c l' m need (iLen t) = 0) (hn : NarL l l') (ho : openS rs a b c l m need t = true) : openS rs a b c l' m need t = true := by
  unfold openS closeL at ho ⊢
  rw [if_pos h0, decide_eq_true_eq, cloS_nil] at ho
  rw [if_pos h1, decide_eq_true_eq, cloS_nil]
  exact fun p hp => why_more hn.past (ho p hp)
theorem spread_zero {u : Nat → Int} (hu : ∀ k, 0 ≤ u k) {R : Nat → Int} (hR : ∀ d, 0 ≤ R d) {p : List Nat} (hp : p.Nodup) {D k d : Nat} (hd : d < D) (h0 : R d = 0) : spreadG R p u D k d = 0 := by
  have h1 := sum_upto hu hR hp (D := D) k d (by omega)
  have h2 := sum_upto hu hR hp (D := D) k (d + 1) (by omega)
  rw [List.range_succ, List.map_append, sumI_append, h1] at h2
  simp only [sumR, h0, Int.add_zero, List.map_cons, List.map_nil, sumI] at h2
  omega
/-- a freight of which so many units may go on each day -/
def frtU (D : Nat) (u : Int) (os : List Ord) : Frt := ⟨(0, iLen D - 1), (0, iLen D - 1), List.replicate D (0, u), os⟩
def winU (D : Nat) (u : Int) (A : List Bool) : Win := ⟨0, iLen D - 1, A.map (capB u)⟩
theorem frtU_ok {D : Nat} {u a b c d : Int} {cs : List (Int × Int)} {os : List Ord} (h : checkF ⟨(a, b), (c, d), cs, os⟩ = 0) (hD : cs.length = D) (hu : 0 ≤ u ∧ u ≤ 9) : checkF (frtU D u os) = 0 := by
  have hV := checkF_ok h
  have h1 := hV.c1
  have h2 := hV.c2
  dsimp only at h1 h2
  unfold checkF at h
  dsimp only at h
  rw [if_neg (by omega), if_neg (by omega)] at h
  obtain ⟨_, h⟩ := orElse_ok h
  obtain ⟨_, h⟩ := orElse_ok h
  obtain ⟨_, h⟩ := orElse_ok h
  unfold checkF frtU
  dsimp only
  rw [List.length_replicate, if_neg (by omega), if_neg (by omega), firstE_allF (fun x hx => by rw [List.mem_replicate] at hx; rw [hx.2]; exact faultF_ok' (by dsimp only; omega)), faultF_ok' (by unfold iLen; omega), h]
  rfl
theorem winU_ok {D : Nat} {u : Int} {A : List Bool} {os : List Ord} (hA : A.length = D) (hD : 1 ≤ D) (hu : 0 ≤ u) : WinV (frtU D u os) (winU D u A) := by
  refine ⟨by simp only [frtU, winU]; unfold iLen; omega, by simp only [frtU, winU]; unfold iLen; omega, by simp [frtU, winU, hA], fun i x c hx hc => ?_⟩
  simp only [winU, List.getElem?_map, Option.map_eq_some_iff] at hx
  obtain ⟨b, _, rfl⟩ := hx
  simp only [frtU] at hc
  have := List.mem_of_getElem? hc
  rw [List.mem_replicate] at this
  rw [this.2]
  unfold capB; split <;> dsimp only <;> omega
theorem winU_le {D : Nat} {u : Int} {A B : List Bool} (hA : A.length = B.length) (hu : 0 ≤ u ∧ u ≤ 9) (h : ∀ (i : Nat), A[i]? = some true → B[i]? = some true) : RoomLe D (winU D u A) (winU D u B) := by
  refine roomLe_of (Int.le_refl _) (Int.le_refl _) (fun d x y hx hy => ?_) (by simp [winU, hA]) (fun x hx => ?_)
  · simp only [winU, List.getElem?_map, Option.map_eq_some_iff] at hx hy
    obtain ⟨p, hp, rfl⟩ := hx
    obtain ⟨q, hq, rfl⟩ := hy
    cases p
    · rw [show capB u false = 0 from rfl]; unfold capB; split <;> omega
    · have := h d hp
      rw [hq] at this
      cases this
      exact Int.le_refl _
  · simp only [winU, List.mem_map] at hx
    obtain ⟨b, _, rfl⟩ := hx
    unfold capB; split <;> omega
theorem room_shut {D d : Nat} {u : Int} {A : List Bool} (h : A[d]? = some false) : roomW (winU D u A) d = 0 := by
  unfold roomW winU
  dsimp only
  split
  · rw [List.getD_eq_getElem?_getD, List.getElem?_map, h]; rfl
  · rfl
theorem spread_all {f : Frt} {w : Win} {p : List Int} (hf : checkF f = 0) (hw : WinV f w) (hP : PlanP f.ords.length p) {way : List (List Int)} (hway : way = rowsF f.ords.length f.caps.length (spreadG (roomW w) (planN p) (unitS f.ords) f.caps.length)) :
    spreadC f w p = 0 ∧ spreadR f w p = way ∧ checkWayS f w way = 0 ∧ tellP f w way = costSF f.ords f.caps.length w (planN p) := by
  have hV := checkF_ok hf
  have hcw := winS_of hf hw
  have e0 : spreadC f w p = 0 := by unfold spreadC; rw [if_neg (by simp [hcw])]; exact if_pos hP
  have e1 : spreadR f w p = way := by unfold spreadR; rw [if_neg (by simp [e0]), hway]
  have e2 : checkWayS f w way = 0 := by rw [hway]; exact way_ok hV hw hcw hP.nodup hP.nat.2
  refine ⟨e0, e1, e2, ?_⟩
  unfold tellP; rw [if_neg (by simp [e2]), hway]; rfl
end Go.Sas
namespace Go.Sas
open Go.Proofs
set_option maxRecDepth 100000
/-- an entry of a table of functions that draw, for things that are to be named -/
def eDrawX {α : Type} (spec : List AV → Option ((α → Prop) × (α → AV → Prop))) : List AV → AHeap → Option PT
  | .mp id 0 0 :: rest, H => match spec rest with
    | some (pre, Q) => match H[id]? with
      | some (.own 0 [.lit (.int .u64 _)]) => some fun K => ∃ x : α, pre x ∧ ∀ w' r, Q x r → K r (H.set id (.own 0 [U w']))
      | _ => none
    | none => none
  | _, _ => none
theorem eDrawX_ok {P : Program} {α : Type} {f : Nat} {spec : List AV → Option ((α → Prop) × (α → AV → Prop))} (h : ∀ rest pre Q, spec rest = some (pre, Q) → ∀ x, pre x → Draws P f rest (Q x)) : ∀ args H pt, eDrawX spec args H = some pt → ∀ (Kk : AV → AHeap → Prop), pt Kk → ACalls P f args H Kk := by
  intro args H pt hp Kk hk
  unfold eDrawX at hp
  split at hp
  · split at hp
    · rename_i pre Q hQ
      split at hp
      · rename_i w hX
        cases hp
        obtain ⟨x, h1, h2⟩ := hk
        exact h _ _ _ hQ x h1 _ _ _ hX Kk h2
      · cases hp
    · cases hp
  · cases hp
def sSurvey : List AV → Option ((Unit → Prop) × (Unit → AV → Prop))
  | [.lit (.int .i64 m)] => some (fun _ => 1 ≤ m ∧ m ≤ 1000, fun _ => SvQ m)
  | _ => none
theorem sSurvey_ok : ∀ rest pre Q, sSurvey rest = some (pre, Q) → ∀ x, pre x → Draws Try.prog 5 rest (Q x) := by
  intro rest pre Q h x hp
  unfold sSurvey at h
  split at h
  · cases h; exact d5 _ hp
  · cases h
def sCourse : List AV → Option ((List Rch × Nat → Prop) × (List Rch × Nat → AV → Prop))
  | [.agg [.vs 5 xs, .lit (.int .i64 _), .lit (.int .i64 _), .lit (.int .i64 _)], .lit (.int .i64 f), .lit (.int .i64 h)] => some (fun x => xs = x.1.map rcV ∧ h = iLen x.2 ∧ RoadOk x.1 ∧ (0 ≤ f ∧ f ≤ 100) ∧ (1 ≤ x.2 ∧ x.2 ≤ 100), fun x => CrsQ (plc x.1) x.2)
  | _ => none
theorem sCourse_ok : ∀ rest pre Q, sCourse rest = some (pre, Q) → ∀ x, pre x → Draws Try.prog 6 rest (Q x) := by
  rintro rest pre Q h ⟨rs, n⟩ hp
  unfold sCourse at h
  split at h
  · cases h
    obtain ⟨rfl, rfl, h1, h2, h3⟩ := hp
    exact d6 _ _ _ _ _ _ h1 h2 h3
  · cases h
def sLooks : List AV → Option ((List Rch × (Nat → Nat → Int) × Nat → Prop) × (List Rch × (Nat → Nat → Int) × Nat → AV → Prop))
  | [.lit (.int .i64 f), .vs 1 cr, .lit (.int .i64 m)] => some (fun x => cr = crsV x.2.1 x.2.2 x.1.length ∧ PlcOk x.1 ∧ CrsOk x.1 x.2.1 x.2.2 ∧ (0 ≤ f ∧ f ≤ 100) ∧ (1 ≤ x.2.2 ∧ x.2.2 ≤ 100) ∧ (0 ≤ m ∧ m ≤ 100), fun x => LkQ x.1 x.2.1 f x.2.2 m)
  | _ => none
theorem sLooks_ok : ∀ rest pre Q, sLooks rest = some (pre, Q) → ∀ x, pre x → Draws Try.prog 7 rest (Q x) := by
  rintro rest pre Q h ⟨R, T, n⟩ hp
  unfold sLooks at h
  split at h
  · cases h
    obtain ⟨h1, h2, h3, h4, h5, h6⟩ := hp
    dsimp only at h1
    subst h1
    exact d7 _ _ _ _ _ h2 h3 h4 h5 h6
  · cases h
theorem SvD.road {m : Int} {rs : List Rch} {a b c : Int} (h : SvD m rs a b c) (hm : m ≤ 1000) : RoadOk rs := ⟨h.n1, by have := h.n2; omega, fun r hr => by
  obtain ⟨h1, h2, h3, h4, h5⟩ := h.all r hr
  have h6 := h.le
  have : r.lg ≤ sumLg rs := by
    clear h6
    have hall := h.all
    clear h
    induction rs with
    | nil => simp at hr
    | cons x rs ih =>
      have hx := (hall x (by simp)).1
      have hn : 0 ≤ sumLg rs := sumLg_nonneg fun y hy => by have := (hall y (by simp [hy])).1; omega
      simp only [sumLg]
      rcases List.mem_cons.1 hr with rfl | hr
      · omega
      · have := ih hr (fun y hy => hall y (by simp [hy])); omega
  exact ⟨by omega, by omega, by omega, by omega, by omega⟩, by have := h.le; omega⟩
theorem SvD.sgt {m : Int} {rs : List Rch} {a b c : Int} (h : SvD m rs a b c) : SgtOk a b c := ⟨by have := h.a; omega, by have := h.b; omega, by have := h.c; omega⟩
/-- a survey, a course of six hours from the hour 3 on, and looks that it fits -/
structure MadeD (places looks : Int) (rs : List Rch) (a b c : Int) (T : Nat → Nat → Int) (l : List Lk) : Prop where
  sv : SvD places rs a b c
  crs : CrsOk (plc rs) T 6
  len : (l.length : Int) ≤ looks
  fit : ∀ x ∈ l, LkFit (plc rs) T 3 6 x
end Go.Sas

namespace Go.Sas
open Go.Proofs
set_option maxRecDepth 100000
def eSeedP : List AV → AHeap → Option PT
  | [x], H => match asVs 1 x with
    | some xs => some fun K => ∃ l : List Int, (xs = l.map I ∧ l.length ≤ 9223372036854775807) ∧ ∀ w, K (.mp H.length 0 0) (H ++ [.own 0 [U w]])
    | none => none
  | _, _ => none
theorem eSeedP_ok : ∀ args H pt, eSeedP args H = some pt → ∀ (Kk : AV → AHeap → Prop), pt Kk → ACalls Try.prog 4 args H Kk := by
  intro args H pt h Kk hk
  unfold eSeedP at h
  split at h
  · rename_i x
    split at h
    · rename_i xs hxs
      cases h
      obtain ⟨l, ⟨rfl, hl⟩, hk⟩ := hk
      exact ACalls.wk (p4 _ hl H hk) ⟨asVs_wk hxs, trivial⟩
    · cases h
  · cases h
def edP : ETab := (4, eSeedP) :: (5, eDrawX sSurvey) :: (6, eDrawX sCourse) :: (7, eDrawX sLooks) :: ed2
theorem edP_ok : ETabOk Try.prog edP := .cons eSeedP_ok (.cons (eDrawX_ok sSurvey_ok) (.cons (eDrawX_ok sCourse_ok) (.cons (eDrawX_ok sLooks_ok) (ed2_ok))))
end Go.Sas
namespace Go.Sas
open Go.Proofs
set_option maxRecDepth 100000
def MkD (n hours : Int) (x : Mrk) : Prop := MkOk n x ∧ x.h < hours
def MkQ (n hours most : Int) (r : AV) : Prop := ∃ (m : List Mrk) (xs : List AV), r = .vs 5 xs ∧ xs = m.map mkV ∧ iLen m.length ≤ most ∧ ∀ x ∈ m, MkD n hours x
set_option maxHeartbeats 2000000 in
theorem d8 (rs : List Rch) (a b c most hours : Int) (ho : RoadOk rs) (hm : 0 ≤ most ∧ most ≤ 100) (hh : 1 ≤ hours ∧ hours ≤ 100) : Draws Try.prog 8 [svV (.vs 5 (rs.map rcV)) a b c, I most, I hours] (MkQ (sumLg rs) hours most) := by
  have hnr := nidL_rc rs
  refine .of (by simp [AV.nid, AV.nidL, hnr]) (by rintro r ⟨_, _, rfl, rfl, _⟩; simp [AV.nid]) fun w Kk h => ACalls.frees ?_
  obtain ⟨xs, hxs⟩ : ∃ xs, xs = rs.map rcV := ⟨_, rfl⟩
  rw [← hxs]
  have hsb := sumLg_bnd' ho
  obtain ⟨A, hA⟩ : ∃ A, A = std := ⟨_, rfl⟩
  have hsg : ∀ g, A.sg g g := by subst hA; exact fun _ => rfl
  obtain ⟨F, hF⟩ : ∃ F, F = Frees 1 Kk := ⟨_, rfl⟩
  rw [show Frees [AObj.own 0 [U w]].length Kk = F from hF.symm]
  have hm1 : A.add .i64 most 1 = most + 1 := by subst hA; exact iAdd_id (by omega) (by omega)
  refine go8 rfl (SGo_run hA ⟨[], [], (20, ePlaces) :: [], ed2⟩ (.cons (ePlaces_ok p20) .nil) ed2_ok 200 fun T TD hT hTD => ?_)
  cbv
  refine Exists.intro rs (And.intro hxs (And.intro (by have := ho.n2; omega) (And.intro ho.all ?_)))
  intro nn hnn; cbv
  have hnb : 1 ≤ nn ∧ nn ≤ 1000 := by omega
  refine Exists.intro () (And.intro (by show A.add .i64 most 1 ≤ _; rw [hm1]; omega) ?_)
  rintro w1 _ ⟨d0, rfl, hd1, hd2⟩
  have hd2 : d0 < A.add .i64 most 1 ∨ d0 = 0 := hd2
  rw [hm1] at hd2
  cbv
  rw [hT]
  refine AGo_nilms 10 5 rfl ?_
  refine AGo_whileE (σ := Int × Int × List Mrk) [0, 3, 9] (fun s => s.2.1.toNat) (fun s => 0 ≤ s.2.1 ∧ s.2.1 + iLen s.2.2.length ≤ most ∧ ∀ x ∈ s.2.2, MkD nn hours x) (fun s => [(10, .ms 5 2 s.2.2.length 0 s.2.2.length), (11, I s.2.1)])
    (fun s => [.own 0 [U s.1], .own 0 [.vs 5 xs, I a, I b, I c], .own s.2.2.length (s.2.2.flatMap mkC)]) (w1, d0, []) ⟨by dsimp only; omega, by show d0 + iLen 0 ≤ most; unfold iLen; omega, by simp⟩ ⟨rfl, rfl, trivial⟩ (.inl rfl) fun s hP Bk hB => ?_
  obtain ⟨w2, d, l⟩ := s
  obtain ⟨hP1, hP2, hP3⟩ := hP
  dsimp only at hP1 hP2 hP3 ⊢
  obtain ⟨n, hn⟩ : ∃ n, n = l.length := ⟨_, rfl⟩
  obtain ⟨cc, hcc⟩ : ∃ c, c = l.flatMap mkC := ⟨_, rfl⟩
  rw [← hn, ← hcc]
  rw [← hn] at hP2
  have hn4 : n ≤ 100 := by unfold iLen at hP2; omega
  have hd4 : d ≤ 100 := by unfold iLen at hP2; omega
  have hcl : cc.length = n * 5 := by rw [hcc, hn, len_flat (k := 5) (fun _ => rfl)]
  have hgt : A.lt 0 d = decide (0 < d) := by subst hA; rfl
  have hxl : ∀ n, AV.ltL n xs := fun n => AV.ltL_nid (by rw [hxs]; exact hnr)
  have hcn : ∀ q (l : List Mrk), AV.ltL q (l.flatMap mkC) := fun q l => AV.ltL_nid (nidL_flat (fun _ => rfl) l)
  refine SGo_run hA ⟨[2], [0, 1002, 2000003], [], ed2⟩ .nil ed2_ok 200 fun T TD hT hTD => ?_
  cbv
  split <;> cbv
  · rename_i hz
    have hz : 0 < d := by have hz := hgt.symm.trans hz; simpa using hz
    refine Exists.intro () (And.intro (by omega) ?_)
    rintro w3 _ ⟨k, rfl, hk⟩
    cbv
    refine Exists.intro () (And.intro (by show nn ≤ _; omega) ?_)
    rintro w4 _ ⟨f, rfl, hf, hf'⟩
    cbv
    refine Exists.intro () (And.intro (by show hours ≤ _; omega) ?_)
    rintro w5 _ ⟨hr, rfl, hhr, hhr'⟩
    cbv
    refine Exists.intro () (And.intro (by omega) ?_)
    rintro w6 _ ⟨s3, rfl, hs3, hs3'⟩
    cbv
    refine Exists.intro () (And.intro ⟨by simp, by simp, by exact AllI_lits (l := [0, 0, 1, s3])⟩ ?_)
    rintro w7 _ ⟨sp0, rfl, hsp⟩
    simp at hsp
    cbv
    refine Exists.intro () (And.intro (by omega) ?_)
    rintro w8 _ ⟨s4, rfl, hs4, hs4'⟩
    cbv
    refine And.intro (by subst hA; first | (simp [std, Keep, SubH, ResK]; done) | exact .inr ⟨⟨rfl, SubH.self _⟩, trivial, .inr fun _ => ⟨rfl, SubH.self _⟩⟩ | exact .inr ⟨SubH.self _, trivial, .inr fun _ => SubH.self _⟩ | exact .inr ⟨by simp [SubH], trivial, .inl rfl⟩ | exact .inr ⟨by simp [SubH], trivial, .inr fun _ => by simp [SubH]⟩) ?_
    cbv
    refine Exists.intro () (And.intro (by show nn ≤ _; omega) ?_)
    rintro w9 _ ⟨s5, rfl, hs5, hs5'⟩
    cbv
    refine And.intro (by subst hA; first | (simp [std, Keep, SubH, ResK]; done) | exact .inr ⟨⟨rfl, SubH.self _⟩, trivial, .inr fun _ => ⟨rfl, SubH.self _⟩⟩ | exact .inr ⟨SubH.self _, trivial, .inr fun _ => SubH.self _⟩ | exact .inr ⟨by simp [SubH], trivial, .inl rfl⟩ | exact .inr ⟨by simp [SubH], trivial, .inr fun _ => by simp [SubH]⟩) ?_
    cbv
    refine Exists.intro () (And.intro ⟨by simp, by simp, by exact AllI_lits (l := [0, s4, s5])⟩ ?_)
    rintro w10 _ ⟨dd, rfl, hdd⟩
    simp at hdd
    cbv
    refine And.intro (by subst hA; first | (simp [std, Keep, SubH, ResK]; done) | exact .inr ⟨⟨rfl, SubH.self _⟩, trivial, .inr fun _ => ⟨rfl, SubH.self _⟩⟩ | exact .inr ⟨SubH.self _, trivial, .inr fun _ => SubH.self _⟩ | exact .inr ⟨by simp [SubH], trivial, .inl rfl⟩ | exact .inr ⟨by simp [SubH], trivial, .inr fun _ => by simp [SubH]⟩) ?_
    cbv
    have hsub : A.sub .i64 d 1 = d - 1 := by subst hA; exact iSub_id (by omega) (by omega)
    have hsn : A.sub .i64 nn 1 = nn - 1 := by subst hA; exact iSub_id (by omega) (by omega)
    have hfd : A.add .i64 f dd = f + dd := by subst hA; exact iAdd_id (by omega) (by omega)
    have hmn : A.min (A.sub .i64 nn 1) (A.add .i64 f dd) = min (nn - 1) (f + dd) := by rw [hsn, hfd]; subst hA; exact iMin_eq _ _
    obtain ⟨cc2, hcc2⟩ : ∃ x, x = cc ++ mkC ⟨k, f, A.min (A.sub .i64 nn 1) (A.add .i64 f dd), hr, sp0⟩ := ⟨_, rfl⟩
    refine And.intro (hsg _) (Exists.intro cc2 (Exists.intro (n + 1) (And.intro (by subst hA; rw [hcc2]; exact app_one hcl rfl (by omega)) (And.intro rfl ?_)))); cbv
    rw [hmn] at hcc2
    obtain ⟨x, hx⟩ : ∃ x : Mrk, x = ⟨k, f, min (nn - 1) (f + dd), hr, sp0⟩ := ⟨_, rfl⟩
    rw [← hx] at hcc2
    have hxo : MkD nn hours x := by
      rw [hx]; unfold MkD MkOk; dsimp only; omega
    have hfin : cc2 = (l ++ [x]).flatMap mkC := by rw [hcc2, hcc]; simp
    have hlen : (l ++ [x]).length = n + 1 := by rw [List.length_append, ← hn]; rfl
    refine hB (w10, d - 1, l ++ [x]) _ _ (by dsimp only; omega) ⟨by dsimp only; omega, by dsimp only; rw [hlen]; unfold iLen at hP2 ⊢; omega, ?_⟩ (by rw [hlen]; exact ⟨rfl, congrArg I hsub, trivial⟩) ⟨rfl, rfl, rfl, trivial⟩ (.inr ⟨⟨_, by dsimp only; rw [hlen, ← hfin]; rfl⟩, by simp, by simp [ltG, AV.lt, AV.ltL, keepS, look, gset], by simp [ltH, AObj.lt, AV.lt, AV.ltL, hxl, hcn, -List.flatMap_append]⟩)
    intro y hy
    rcases List.mem_append.1 hy with hy | hy
    · exact hP3 y hy
    · simp only [List.mem_singleton] at hy; subst hy; exact hxo
  · rename_i hz
    have hE : Elems 5 (l.map mkV) cc := by rw [hcc]; exact Elems_map (f := mkV) (g := mkC) (sz := 5) (fun _ => rfl) (fun _ => rfl) (fun _ => rfl) l
    rw [hF]
    refine Frees.frz 2 n 5 (l.map mkV) rfl hE ?_
    have e1 : AV.frz 2 n 5 (l.map mkV) (aTup [.ms 5 2 n 0 n]) = .vs 5 (l.map mkV) := frz_self (by simp [hn])
    rw [e1]
    refine Frees.drop1 (w := w2) rfl (h w2 _ ⟨l, _, rfl, rfl, ?_, fun x hx => by rw [← hnn]; exact hP3 x hx⟩)
    rw [← hn]; unfold iLen at hP2 ⊢; omega
def sMarks : List AV → Option ((List Rch × Int × Int → Prop) × (List Rch × Int × Int → AV → Prop))
  | [.agg [.vs 5 xs, .lit (.int .i64 a), .lit (.int .i64 b), .lit (.int .i64 c)], .lit (.int .i64 most), .lit (.int .i64 hours)] => some (fun x => xs = x.1.map rcV ∧ x.2.1 = most ∧ x.2.2 = hours ∧ RoadOk x.1 ∧ (0 ≤ most ∧ most ≤ 100) ∧ 1 ≤ hours ∧ hours ≤ 100, fun x => MkQ (sumLg x.1) x.2.2 x.2.1)
  | _ => none
theorem sMarks_ok : ∀ rest pre Q, sMarks rest = some (pre, Q) → ∀ x, pre x → Draws Try.prog 8 rest (Q x) := by
  intro rest pre Q h x hp
  unfold sMarks at h
  split at h
  · cases h
    obtain ⟨rs, m, hr⟩ := x
    obtain ⟨h1, h2, h3, h4, h5, h6⟩ := hp
    dsimp only at h1 h2 h3 h4
    subst h1 h2 h3
    exact d8 rs _ _ _ _ _ h4 h5 h6
  · cases h
def edM : ETab := (8, eDrawX sMarks) :: edP
theorem edM_ok : ETabOk Try.prog edM := .cons (eDrawX_ok sMarks_ok) edP_ok
end Go.Sas
namespace Go.Sas
open Go.Proofs
set_option maxRecDepth 100000
def eWinter : List AV → Option ((AV → Prop) → Prop)
  | [.vs 1 xs, .lit (.int .i64 u)] => some fun K => ∃ l : List Bool, (xs = l.map B ∧ l.length ≤ 1000000) ∧ ∀ n zs, n = iLen l.length - 1 → zs = (l.map (capB u)).map I → K (.agg [I 0, I n, .vs 1 zs])
  | _ => none
theorem eWinter_ok : ∀ args pt, eWinter args = some pt → ∀ (H : AHeap) (Kk : AV → AHeap → Prop), pt (fun r => Kk r H) → ACalls Try.prog 15 args H Kk := by
  intro args pt h H Kk hk
  unfold eWinter at h
  split at h
  · cases h
    obtain ⟨l, ⟨rfl, h1⟩, h2⟩ := hk
    exact p15 l _ h1 H (h2 _ _ rfl rfl)
  · cases h
def eOpen : List AV → Option ((AV → Prop) → Prop)
  | [.agg [.vs 5 xs, .lit (.int .i64 a), .lit (.int .i64 b), .lit (.int .i64 c)], .vs 5 ls, .vs 5 ms, .lit (.int .i64 need), .lit (.int .i64 d)] =>
    some fun K => ∃ (rs : List Rch) (l : List Lk) (m : List Mrk) (D : Nat), (xs = rs.map rcV ∧ ls = l.map lkV ∧ ms = m.map mkV ∧ d = iLen D) ∧ (rs.length ≤ 9223372036854775807 ∧ l.length ≤ 9223372036854775807 ∧ m.length ≤ 9223372036854775807 ∧ D ≤ 1000) ∧
      (∀ t, t < D → askE rs a b c l m need (iLen t) = 0) ∧ (∀ t, t < D → CovM (pastM m (iLen t)) (iLen t) (sumLg rs)) ∧ ∀ zs, zs = ((List.range D).map (openS rs a b c l m need)).map B → K (.tup [.vs 1 zs, B true])
  | _ => none
theorem eOpen_ok : ∀ args pt, eOpen args = some pt → ∀ (H : AHeap) (Kk : AV → AHeap → Prop), pt (fun r => Kk r H) → ACalls Try.prog 13 args H Kk := by
  intro args pt h H Kk hk
  unfold eOpen at h
  split at h
  · cases h
    obtain ⟨rs, l, m, D, ⟨rfl, rfl, rfl, rfl⟩, ⟨h1, h2, h3, h4⟩, h5, h6, h7⟩ := hk
    exact p13 rs _ _ _ l m _ D h1 h2 h3 h4 h5 h6 H (h7 _ rfl)
  · cases h
def eAwakeW : List AV → Option ((AV → Prop) → Prop)
  | [] => some fun K => K (B true)
  | _ => none
theorem eAwakeW_ok : ∀ args pt, eAwakeW args = some pt → ∀ (H : AHeap) (Kk : AV → AHeap → Prop), pt (fun r => Kk r H) → ACalls Try.prog 17 args H Kk := by
  intro args pt h H Kk hk
  unfold eAwakeW at h
  split at h
  · cases h; exact p17 H hk
  · cases h
def edW : ETab := (9, eFrM) :: (12, ePlanOf) :: edM
theorem edW_ok : ETabOk Try.prog edW := .cons eFrM_ok (.cons ePlanOf_ok edM_ok)
theorem ixm2 {len j o : Nat} {i : Int} (hi : i = iLen j) (h : j < len) (ho : o = j * 2) : ixmS 2 2 0 len i o := by
  subst hi ho; unfold ixmS iLen; refine ⟨rfl, by omega, by omega, by omega⟩
theorem flat2_len (l : List (Int × Int)) : (l.flatMap spC).length = l.length * 2 := len_flat (k := 2) (fun _ => rfl) l
theorem flat2_mid {a b : List (Int × Int)} {x : Int × Int} : (a ++ x :: b).flatMap spC = a.flatMap spC ++ (I x.1 :: I x.2 :: b.flatMap spC) := by simp [spC]
theorem upd_sp2 {a b : List (Int × Int)} {x y : Int × Int} {o : Nat} (ho : o = a.length * 2) : updS 2 ((a ++ x :: b).flatMap spC) o [I y.1, I y.2] ((a ++ y :: b).flatMap spC) := by
  have hl := flat2_len a
  rw [flat2_mid, flat2_mid]
  refine ⟨rfl, by rw [List.length_append, hl, List.length_cons, List.length_cons]; omega, ?_⟩
  have e1 : List.take o (a.flatMap spC ++ (I x.1 :: I x.2 :: b.flatMap spC)) = a.flatMap spC := List.take_left' (by omega)
  have e2 : List.drop (o + 2) (a.flatMap spC ++ (I x.1 :: I x.2 :: b.flatMap spC)) = b.flatMap spC := by
    rw [Nat.add_comm, ← List.drop_drop, ]
    rw [show List.drop o (List.drop 2 (a.flatMap spC ++ (I x.1 :: I x.2 :: b.flatMap spC))) = List.drop 2 (List.drop o (a.flatMap spC ++ (I x.1 :: I x.2 :: b.flatMap spC))) by rw [List.drop_drop, List.drop_drop, Nat.add_comm]]
    rw [List.drop_left' (by omega)]; rfl
  rw [e1, e2]; simp
end Go.Sas
