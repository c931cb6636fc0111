/-
An abstract machine over values, part 22: a run by reckoning: the function that runs, and that what it yields is what the code yields.
Conditions: none.
-/
import Derived.Test.YtndnjmpebpampaaDoorQAbs21
set_option linter.unusedVariables false
set_option linter.unusedSimpArgs false
namespace Go.Sas
set_option maxRecDepth 4000

variable {cx : Cx} {m : Nat} {k : List AItm} {R : Env → AHeap → Prop} {e : Env} {H : AHeap}

theorem Rel.dropl {st0 st : St} {w0 w : World} {a : Act} (h : Rel cx st0 w0 st w e H a) : Rel cx st0 w0 st w ⟨[], e.g⟩ H a :=
  ⟨h.ext, h.hH, fun t => by simp only [look, RelV], h.g, fun t _ => rfl, h.kg, h.n, h.d⟩

theorem AGo_loopE {σ : Type} {c : ACode} (S : σ → List (Nat × AV)) (HS : σ → AHeap) (μ : σ → Nat) (x0 : σ) (h0 : e.g = S x0) (hH0 : H = HS x0)
    (hround : ∀ x, AGo cx m (.code c :: .bk (fun e' H' => ∃ x', μ x' < μ x ∧ e'.g = S x' ∧ H' = HS x') :: k) R ⟨[], S x⟩ (HS x)) :
    AGo cx m (.code (.loop c) :: k) R e H := by
  refine AGo_code fun cc Q st0 w0 kc hm hk ht hn hx hr st a w hrel => ?_
  cases cc <;> (try simp only [trCode] at ht)
  case region id ops d => cases d <;> simp [trCode] at ht
  case loop c1 =>
    obtain ⟨c', h1, h2⟩ := Option.map_eq_some_iff.1 ht
    cases h2
    let I : Act → World → σ → Prop := fun a w x => ∃ st, Rel cx st0 w0 st w ⟨[], S x⟩ (HS x) a
    have hI0 : ∃ x, I a w x := by
      have := hrel.dropl
      rw [h0, hH0] at this
      exact ⟨x0, st, this⟩
    have hex : ∀ a w, (∃ x, I a w x) → ∃ n, ∃ x, I a w x ∧ μ x = n := fun a w ⟨x, hx⟩ => ⟨_, x, hx, rfl⟩
    classical
    let M : Act → World → Nat := fun a w => if h : ∃ n, ∃ x, I a w x ∧ μ x = n then Classical.choose (least h) else 0
    have hM : ∀ a w x, I a w x → M a w ≤ μ x := by
      intro a w x hx
      have h : ∃ n, ∃ x, I a w x ∧ μ x = n := ⟨_, x, hx, rfl⟩
      simp only [M, dif_pos h]
      exact (Classical.choose_spec (least h)).2 _ ⟨x, hx, rfl⟩
    have hM2 : ∀ a w, (∃ x, I a w x) → ∃ x, I a w x ∧ μ x = M a w := by
      intro a w hx
      have h := hex a w hx
      simp only [M, dif_pos h]
      exact (Classical.choose_spec (least h)).1
    refine wpIn_loop (fun a w => ∃ x, I a w x) M hI0 fun a w hIx => ?_
    obtain ⟨x, ⟨st1, hx1⟩, hxM⟩ := hM2 a w hIx
    have := hround x st0 w0 (.code c1 :: .bk _ :: kc) hm ⟨_, _, rfl, h1, _, _, rfl, rfl, hk⟩ st1 a w hx1
    simp only [GoK, ExK] at this
    refine wpIn_mono this fun ex a' w' hq => ?_
    cases ex <;> simp only [Exit.then] at hq ⊢
    case normal =>
      obtain ⟨st2, e2, H2, hr2, x', hlt, hf, hhf⟩ := hq
      have hr3 := hr2.dropl
      rw [hf, hhf] at hr3
      have hIx' : I a' w' x' := ⟨st2, hr3⟩
      exact ⟨⟨x', hIx'⟩, by have := hM a' w' x' hIx'; omega⟩
    case exit i => exact hx _ _ _ hq
    case ret => exact hr _ _ hq
    all_goals exact hq.elim
  all_goals first | cases ht | (split at ht <;> cases ht) | (obtain ⟨_, _, h'⟩ := Option.map_eq_some_iff.1 ht; cases h')

/-! ### The tables -/
/-- what is known of a function: its code -/
structure CEnt where
  K : List Nat
  mu : List Nat
  n : Nat
  ac : ACode
  rs : List ARes
  np : Nat
  fz : Bool := false

abbrev CTab := List (Nat × CEnt)
abbrev FTab := List (Nat × (List AV → Option AV))
def cLook : CTab → Nat → Option CEnt
  | [], _ => none
  | (f, E) :: r, g => match Nat.beq f g with
    | true => some E
    | false => cLook r g
def fLook : FTab → Nat → Option (List AV → Option AV)
  | [], _ => none
  | (f, E) :: r, g => match Nat.beq f g with
    | true => some E
    | false => fLook r g
def CTabOk (P : Program) (ct : CTab) : Prop := ∀ f E, cLook ct f = some E → ∀ (args : List AV) (H : AHeap) (Kk : AV → AHeap → Prop), args.length = E.np →
  AGo ⟨P, E.K, E.mu, E.n, none⟩ H.length [.code E.ac] (RetP E.rs H.length Kk) ⟨[], argsG 0 args⟩ H → ACalls P f args H Kk
def FTabOk (P : Program) (ft : FTab) : Prop := ∀ f g, fLook ft f = some g → ∀ args r, g args = some r → ∀ (H : AHeap) (Kk : AV → AHeap → Prop), Kk r H → ACalls P f args H Kk
theorem CTabOk.nil {P : Program} : CTabOk P [] := fun f E h => by simp [cLook] at h
theorem FTabOk.nil {P : Program} : FTabOk P [] := fun f E h => by simp [fLook] at h
theorem CTabOk.cons {P : Program} {ct : CTab} {f : Nat} {E : CEnt} (hf : ∀ (args : List AV) (H : AHeap) (Kk : AV → AHeap → Prop), args.length = E.np →
    AGo ⟨P, E.K, E.mu, E.n, none⟩ H.length [.code E.ac] (RetP E.rs H.length Kk) ⟨[], argsG 0 args⟩ H → ACalls P f args H Kk) (h : CTabOk P ct) : CTabOk P ((f, E) :: ct) := by
  intro g E' hg
  simp only [cLook] at hg
  split at hg
  · rename_i hb; have := Nat.eq_of_beq_eq_true hb; subst this; cases hg; exact hf
  · exact h g E' hg
theorem FTabOk.cons {P : Program} {ft : FTab} {f : Nat} {p : List AV → Option AV} (hf : ∀ args r, p args = some r → ∀ (H : AHeap) (Kk : AV → AHeap → Prop), Kk r H → ACalls P f args H Kk) (h : FTabOk P ft) : FTabOk P ((f, p) :: ft) := by
  intro g E' hg
  simp only [fLook] at hg
  split at hg
  · rename_i hb; have := Nat.eq_of_beq_eq_true hb; subst this; cases hg; exact hf
  · exact h g E' hg

/-! ### The run -/
inductive XItm where
  | code (c : ACode)
  | ops (l : List AOper)
  | blk (i : Nat)
  | lp (c : ACode)

inductive XMode where
  | go (k : List XItm)
  | dr (ck : Bool) (D : Option DM) (L : List DItm)

def exitX (i : Nat) : List XItm → Option (List XItm)
  | [] => none
  | .blk j :: k => match Nat.beq i j with
    | true => some k
    | false => exitX i k
  | _ :: k => exitX i k

def retX (rs : List ARes) (m : Nat) (e : Env) (H : AHeap) : Option (AV × AHeap) := match aResL e H rs with
  | none => none
  | some vs => match AV.ltB m (aTup vs) && ltHB m (H.take m) with
    | true => some (aTup vs, H.take m)
    | false => some (aTup vs, H)

/-! Rows that come out of a function, frozen -/
mutual
def AV.firstMs (m : Nat) (a : AV) : Option (Nat × Nat × Nat) := match a with
  | .ms sz id g _ _ => match Nat.ble m id with
    | true => some (sz, id, g)
    | false => none
  | .agg cs => AV.firstMsL m cs
  | .tup cs => AV.firstMsL m cs
  | _ => none
def AV.firstMsL (m : Nat) (as : List AV) : Option (Nat × Nat × Nat) := match as with
  | [] => none
  | a :: as => match a.firstMs m with
    | some x => some x
    | none => AV.firstMsL m as
end
/-- rows of so many cells -/
def chunks : Nat → Nat → List AV → List AV
  | 0, _, _ => []
  | _ + 1, _, [] => []
  | n + 1, sz, cs => (match sz with
    | 1 => (match cs with
      | c :: _ => c
      | [] => .bad)
    | sz => .agg (cs.take sz)) :: chunks n sz (cs.drop sz)
def elemsB (sz : Nat) (xs cs : List AV) : Bool := match cellsL xs with
  | some c => avEqL c cs && elemsOk sz xs
  | none => false
theorem elemsB_spec {sz : Nat} {xs cs : List AV} (h : elemsB sz xs cs = true) : Elems sz xs cs := by
  unfold elemsB at h
  split at h
  · rename_i c hc
    simp only [Bool.and_eq_true] at h
    rw [avEqL_spec h.1] at hc
    exact ⟨hc, h.2⟩
  · cases h
def dropF (m : Nat) (r : AV) (H : AHeap) : AV × AHeap := match Nat.ble m H.length && AV.ltB m r && ltHB m (H.take m) with
  | true => (r, H.take m)
  | false => (r, H)
def frzGo : Nat → Nat → AV → AHeap → AV × AHeap
  | 0, m, r, H => dropF m r H
  | n + 1, m, r, H => match r.firstMs m with
    | none => dropF m r H
    | some (sz, id, g) => match H[id]? with
      | some (.own g' cs) => match Nat.beq g g' && elemsB sz (chunks cs.length sz cs) cs with
        | true => frzGo n m (r.frz id g' sz (chunks cs.length sz cs)) (frzH id g' sz (chunks cs.length sz cs) (H.set id .gone))
        | false => dropF m r H
      | _ => dropF m r H
def retF (rs : List ARes) (m : Nat) (e : Env) (H : AHeap) : Option (AV × AHeap) := match aResL e H rs with
  | none => none
  | some vs => match AV.ltB m (aTup vs) && ltHB m (H.take m) with
    | true => some (aTup vs, H.take m)
    | false => some (frzGo 8 m (aTup vs) H)
def retE (fz : Bool) (rs : List ARes) (m : Nat) (e : Env) (H : AHeap) : Option (AV × AHeap) := match fz with
  | false => retX rs m e H
  | true => retF rs m e H

abbrev XRun := XMode → Env → AHeap → Option (Env × AHeap)

def callX (ct : CTab) (ft : FTab) (ih : XRun) (f : Nat) (args : List AV) (H : AHeap) : Option (AV × AHeap) := match fLook ft f with
  | some g => match g args with
    | some r => some (r, H)
    | none => none
  | none => match cLook ct f with
    | none => none
    | some E => match Nat.beq args.length E.np with
      | false => none
      | true => match ih (.go [.code E.ac]) ⟨[], argsG 0 args⟩ H with
        | none => none
        | some (e', H') => retE E.fz E.rs H.length e' H'

def resKB : List Nat → Nat → List Nat → AHeap → AHeap → Bool
  | [], _, _, _, _ => true
  | i :: r, b, ws, H, H' => (ws.contains i || (match H[b]?, H'[b]? with
    | some (.own g cs), some (.own g' cs') => Nat.beq g g' && avEqL cs cs'
    | _, _ => false)) && resKB r (b + 1) ws H H'

def kcB : List (Nat × Nat × Nat × AV) → AHeap → Bool
  | [], _ => true
  | (i, g, o, v) :: r, H => (match H[i]? with
    | some (.own g' cs) => Nat.beq g' g && (match cs[o]? with
      | some u => avEq u v
      | none => false)
    | _ => false) && kcB r H
theorem kcB_spec : ∀ {kc : List (Nat × Nat × Nat × AV)} {H : AHeap}, kcB kc H = true → KcOk kc H
  | [], _, _ => trivial
  | (i, g, o, v) :: r, H, h => by
    simp only [kcB, Bool.and_eq_true] at h
    refine ⟨?_, kcB_spec h.2⟩
    have h1 := h.1
    split at h1
    · rename_i g' cs hX
      simp only [Bool.and_eq_true] at h1
      have hg := Nat.eq_of_beq_eq_true h1.1
      subst hg
      have h2 := h1.2
      split at h2
      · rename_i u hu
        exact ⟨cs, hX, by rw [hu, avEq_spec h2]⟩
      · cases h2
    · cases h1
def kcCells (i g : Nat) : Nat → List AV → List AV → List (Nat × Nat × Nat × AV)
  | o, c :: cs, d :: ds => match avEq c d with
    | true => (i, g, o, c) :: kcCells i g (o + 1) cs ds
    | false => kcCells i g (o + 1) cs ds
  | _, _, _ => []
/-- the cells that stay, of objects that change -/
def kcOf : Nat → AHeap → AHeap → List (Nat × Nat × Nat × AV)
  | i, .own g cs :: H, .own g' cs' :: H' => match Nat.beq g g' && Nat.beq cs.length cs'.length && !avEqL cs cs' with
    | true => kcCells i g 0 cs cs' ++ kcOf (i + 1) H H'
    | false => kcOf (i + 1) H H'
  | i, _ :: H, _ :: H' => kcOf (i + 1) H H'
  | _, _, _ => []
def MValK (D : DM) (it : DItm) (e : Env) : Option AV := match MVal D it e with
  | some r => some r
  | none => match it.o.op with
    | .ld none a => (match gOk e it.o.grd with
      | some true => (match ev e a with
        | .mp id g off => kcLook D.kc id g off
        | _ => none)
      | _ => none)
    | _ => none
theorem MValK_rel {D : DM} {it : DItm} {e : Env} {r : AV} (h : MValK D it e = some r) : MRel D it e r := by
  unfold MValK at h
  split at h
  · rename_i r' hr; cases h; exact MVal_rel hr
  · split at h
    · rename_i a hop
      split at h
      · rename_i hg
        split at h
        · rename_i id g off hev
          have hn : isNwl it.o.op = false := by rw [hop]; rfl
          unfold MRel
          simp only [hn]
          exact .inr ⟨hg, a, id, g, off, hop, hev, h⟩
        · cases h
      · cases h
    · cases h
def keepB (D : Option DM) (it : DItm) (H H' : AHeap) : Bool := match D with
  | none => true
  | some D => it.tail || (subHB D.M H' && (resKB D.news D.base it.ws H H' && (isStB it.o.op || subHB D.M1 H')) && kcB D.kc H')

def objDiff (x y : AObj) : Nat := match x, y with
  | .own g cs, .own g' cs' => match Nat.beq g g' with
    | true => match avEqL cs cs' with
      | true => 0
      | false => 1
    | false => 2
  | .gone, _ => 0
  | _, _ => 2
def diffIds : Nat → AHeap → AHeap → List Nat
  | i, x :: H, y :: H' => match objDiff x y with
    | 0 => diffIds (i + 1) H H'
    | 1 => i :: diffIds (i + 1) H H'
    | _ => (i + 1000) :: diffIds (i + 1) H H'
  | _, _, _ => []

def isCallB : AOp → Bool
  | .call _ _ => true
  | _ => false

/-- one act -/
def actX (ct : CTab) (ft : FTab) (ih : XRun) (e : Env) (H : AHeap) (op : AOp) : Option (AV × AHeap) := match callF e op with
  | some (f, args) => callX ct ft ih f args H
  | none => opRun (ev e) H op

def drX (ct : CTab) (ft : FTab) (ih : XRun) (ck : Bool) (D : Option DM) (L : List DItm) (e : Env) (H : AHeap) : Option (Env × AHeap) := match L with
  | [] => some (⟨[], e.g⟩, H)
  | it :: l => match movB it.o.op with
    | true => match D with
      | none => none
      | some D' => match MValK (match ck with | true => D' | false => ⟨H, D'.base, D'.news, H, [], 0, []⟩) it e with
        | some r => ih (.dr ck D l) (put e it.o.dst r) H
        | none => none
    | false => match ck || !it.tail with
     | false => some (e, H)
     | true => match gOk e it.o.grd with
      | none => none
      | some false => ih (.dr ck (nx D it) l) (put e it.o.dst (.lit undef)) H
      | some true => match (match callF e it.o.op with | some (f, args) => callX ct ft ih f args H | none => opAct (ev e) H it.o.op) with
        | none => none
        | some (r, H') => match !ck || keepB D it H H' with
          | true => ih (.dr ck (nx D it) l) (put e it.o.dst r) H'
          | false => none

/-- what is masked from the beginning: nothing where only writes through pointers change anything -/
def us1 (L : List DItm) (us : List Nat) : List Nat := match L.any (fun it => !movB it.o.op && !it.tail && !isStB it.o.op) with
  | true => us
  | false => []
def drawX (ih : XRun) (L : List DItm) (e : Env) (H : AHeap) : Option (Env × AHeap) :=
  let us := match L.any (fun it => !movB it.o.op && !it.tail && !isCallB it.o.op) with
    | false => []
    | true => match ih (.dr false (some ⟨H, H.length, (newsOf L).map (·.1), H, [], 0, []⟩) L) e (H ++ kept L) with
      | none => []
      | some (_, H2) => diffIds 0 H H2
  ih (.dr true (some ⟨mask us H, H.length, (newsOf L).map (·.1), mask (us1 L us) H, [], 0, []⟩) L) e (H ++ kept L)
/-- the same, where cells of what is written to are loaded -/
def drawX2 (ih : XRun) (L : List DItm) (e : Env) (H : AHeap) : Option (Env × AHeap) := match ih (.dr false (some ⟨H, H.length, (newsOf L).map (·.1), H, [], 0, []⟩) L) e (H ++ kept L) with
  | none => none
  | some (_, H2) => match kcB (kcOf 0 H H2) (H ++ kept L) with
    | true => ih (.dr true (some ⟨mask (diffIds 0 H H2) H, H.length, (newsOf L).map (·.1), mask (us1 L (diffIds 0 H H2)) H, [], 0, kcOf 0 H H2⟩) L) e (H ++ kept L)
    | false => none
def drawB (ih : XRun) (L : List DItm) (e : Env) (H : AHeap) : Option (Env × AHeap) := match drawX ih L e H with
  | some x => some x
  | none => drawX2 ih L e H

def bodyX (ct : CTab) (ft : FTab) (ih : XRun) : XRun
  | .dr ck D L, e, H => drX ct ft ih ck D L e H
  | .go [], e, H => some (e, H)
  | .go (.blk _ :: k), e, H => ih (.go k) e H
  | .go (.lp c :: k), e, H => ih (.go (.code c :: .lp c :: k)) ⟨[], e.g⟩ H
  | .go (.ops [] :: k), e, H => ih (.go k) ⟨[], e.g⟩ H
  | .go (.ops (o :: rest) :: k), e, H => match gOk e o.grd with
    | none => none
    | some false => ih (.go (.ops rest :: k)) (put e o.dst (.lit undef)) H
    | some true => match actX ct ft ih e H o.op with
      | some (r, H') => ih (.go (.ops rest :: k)) (put e o.dst r) H'
      | none => none
  | .go (.code c :: k), e, H => match c with
    | .skip => ih (.go k) e H
    | .ret => some (e, H)
    | .seq x y => ih (.go (.code x :: .code y :: k)) e H
    | .block i x => ih (.go (.code x :: .blk i :: k)) e H
    | .exit i => match exitX i k with
      | some k' => ih (.go k') e H
      | none => none
    | .cond z x y => match ev e z with
      | .lit (.bool true) => ih (.go (.code x :: k)) e H
      | .lit (.bool false) => ih (.go (.code y :: k)) e H
      | _ => none
    | .loop c => ih (.go (.code c :: .lp c :: k)) ⟨[], e.g⟩ H
    | .reg l => ih (.go (.ops l :: k)) e H
    | .draw L => match drawB ih L e H with
      | some (e', H') => ih (.go k) e' H'
      | none => none
    | _ => none

def ex (ct : CTab) (ft : FTab) : Nat → XRun
  | 0 => fun _ _ _ => none
  | n + 1 => bodyX ct ft (ex ct ft n)

/-! ### That it is right -/
def XK (ct : CTab) (ft : FTab) (N : Nat) (res : Env × AHeap) : List XItm → List AItm → Prop
  | [], k' => k' = []
  | .code c :: k, k' => ∃ k2, k' = .code c :: k2 ∧ XK ct ft N res k k2
  | .ops l :: k, k' => ∃ k2, k' = .ops l :: k2 ∧ XK ct ft N res k k2
  | .blk i :: k, k' => ∃ k2, k' = .blk i :: k2 ∧ XK ct ft N res k k2
  | .lp c :: k, k' => ∃ I k2, k' = .bk I :: k2 ∧ (∀ n l g H, n < N → ex ct ft n (.go (.code c :: .lp c :: k)) ⟨[], g⟩ H = some res → I ⟨l, g⟩ H) ∧ XK ct ft N res k k2

theorem XK.mono {ct : CTab} {ft : FTab} {N N' : Nat} {res : Env × AHeap} (hN : N' ≤ N) : ∀ {k : List XItm} {k' : List AItm}, XK ct ft N res k k' → XK ct ft N' res k k'
  | [], k', h => h
  | .code c :: k, k', ⟨k2, h1, h2⟩ => ⟨k2, h1, h2.mono hN⟩
  | .ops c :: k, k', ⟨k2, h1, h2⟩ => ⟨k2, h1, h2.mono hN⟩
  | .blk c :: k, k', ⟨k2, h1, h2⟩ => ⟨k2, h1, h2.mono hN⟩
  | .lp c :: k, k', ⟨I, k2, h1, h2, h3⟩ => ⟨I, k2, h1, fun n l g H hn he => h2 n l g H (by omega) he, h3.mono hN⟩

theorem XK.exit {ct : CTab} {ft : FTab} {N : Nat} {res : Env × AHeap} {i : Nat} : ∀ {k k1 : List XItm} {k' : List AItm}, exitX i k = some k1 → XK ct ft N res k k' → ∃ k2, exitA i k' = some k2 ∧ XK ct ft N res k1 k2
  | [], k1, k', h, _ => by simp [exitX] at h
  | .blk j :: k, k1, k', h, ⟨k2, h1, h2⟩ => by
    subst h1
    simp only [exitX] at h
    split at h
    · rename_i hb; have := Nat.eq_of_beq_eq_true hb; subst this
      cases h; exact ⟨k2, by simp [exitA], h2⟩
    · rename_i hb
      have hne : i ≠ j := fun he => by subst he; simp at hb
      obtain ⟨k3, h3, h4⟩ := h2.exit h
      exact ⟨k3, by simp [exitA, hne, h3], h4⟩
  | .code c :: k, k1, k', h, ⟨k2, h1, h2⟩ => by
    subst h1
    obtain ⟨k3, h3, h4⟩ := h2.exit (by simpa only [exitX] using h)
    exact ⟨k3, by simp [exitA, h3], h4⟩
  | .ops c :: k, k1, k', h, ⟨k2, h1, h2⟩ => by
    subst h1
    obtain ⟨k3, h3, h4⟩ := h2.exit (by simpa only [exitX] using h)
    exact ⟨k3, by simp [exitA, h3], h4⟩
  | .lp c :: k, k1, k', h, ⟨I, k2, h1, _, h2⟩ => by
    subst h1
    obtain ⟨k3, h3, h4⟩ := h2.exit (by simpa only [exitX] using h)
    exact ⟨k3, by simp [exitA, h3], h4⟩

theorem retX_sound {rs : List ARes} {r : AV} {H' : AHeap} {Kk : AV → AHeap → Prop} (h : retX rs m e H = some (r, H')) (hk : Kk r H') : RetP rs m Kk e H := by
  unfold retX at h
  unfold RetP
  split at h
  · cases h
  · rename_i vs hvs
    rw [hvs]
    simp only
    split at h
    · rename_i hb; rw [if_pos hb]; cases h; exact hk
    · rename_i hb; rw [if_neg (by rw [hb]; simp)]; cases h; exact hk

theorem dropF_sound {r : AV} {Kk : AV → AHeap → Prop} (h : Kk (dropF m r H).1 (dropF m r H).2) : Frees m Kk r H := by
  unfold dropF at h
  split at h
  · rename_i hb
    simp only [Bool.and_eq_true] at hb
    have hl : (H.take m).length = m := by rw [List.length_take]; have := Nat.le_of_ble_eq_true hb.1.1; omega
    have := Frees.drop (T := H.drop m) (H := H.take m) (m := m) (r := r) (Kk := Kk) (by omega) (by rw [hl]; exact hb.1.2) (by rw [hl]; exact hb.2) (.now h)
    rwa [List.take_append_drop] at this
  · exact .now h
theorem frzGo_sound {Kk : AV → AHeap → Prop} : ∀ {n : Nat} {r : AV} {H : AHeap}, Kk (frzGo n m r H).1 (frzGo n m r H).2 → Frees m Kk r H
  | 0, r, H, h => dropF_sound h
  | n + 1, r, H, h => by
    simp only [frzGo] at h
    split at h
    · exact dropF_sound h
    · rename_i sz id g _
      split at h
      · rename_i g' cs hX
        split at h
        · rename_i hb
          simp only [Bool.and_eq_true] at hb
          exact Frees.frz id g' sz _ hX (elemsB_spec hb.2) (frzGo_sound h)
        · exact dropF_sound h
      · exact dropF_sound h
theorem retF_sound {rs : List ARes} {r : AV} {H' : AHeap} {Kk : AV → AHeap → Prop} (h : retF rs m e H = some (r, H')) (hk : Kk r H') : RetP rs m (Frees m Kk) e H := by
  unfold retF at h
  unfold RetP
  split at h
  · cases h
  · rename_i vs hvs
    rw [hvs]
    simp only
    split at h
    · rename_i hb; rw [if_pos hb]; cases h; exact .now hk
    · rename_i hb
      rw [if_neg (by rw [hb]; simp)]
      refine frzGo_sound (n := 8) ?_
      simp only [Option.some.injEq] at h
      rw [h]; exact hk

theorem resKB_spec : ∀ {l : List Nat} {b : Nat} {ws : List Nat} {H H' : AHeap}, resKB l b ws H H' = true → ResK l b ws H H'
  | [], _, _, _, _, _ => trivial
  | i :: r, b, ws, H, H', h => by
    simp only [resKB, Bool.and_eq_true, Bool.or_eq_true] at h
    refine ⟨?_, resKB_spec h.2⟩
    rcases h.1 with h1 | h1
    · exact .inl h1
    · right
      split at h1
      · rename_i g cs g' cs' e1 e2
        simp only [Bool.and_eq_true] at h1
        rw [e1, e2, Nat.eq_of_beq_eq_true h1.1, avEqL_spec h1.2]
      · cases h1

theorem keepB_spec {D : Option DM} {it : DItm} {H' : AHeap} (h : keepB D it H H' = true) : Keep D it H H' := by
  unfold keepB at h
  unfold Keep
  split at h
  · trivial
  · simp only [Bool.or_eq_true, Bool.and_eq_true] at h
    rcases h with h | ⟨h, hk⟩
    · exact .inl h
    · exact .inr (.mk (kcB_spec hk) ⟨subHB_spec h.1, resKB_spec h.2.1, h.2.2.imp (fun h => h) (fun h _ => subHB_spec h)⟩)

structure ExOk (P : Program) (ct : CTab) (ft : FTab) (n : Nat) : Prop where
  go : ∀ k e H res, ex ct ft n (.go k) e H = some res → ∀ (cx : Cx) (m : Nat) (k' : List AItm) (R : Env → AHeap → Prop), cx.P = P → cx.ro = none → XK ct ft n res k k' → R res.1 res.2 → AGo cx m k' R e H
  dr : ∀ D L e H res, ex ct ft n (.dr true D L) e H = some res → ∀ (cx : Cx) (m : Nat) (k' : List AItm) (R : Env → AHeap → Prop), cx.P = P → AGo cx m k' R res.1 res.2 → DGo cx m k' R D L e H

theorem callX_sound {P : Program} {ct : CTab} {ft : FTab} (hct : CTabOk P ct) (hft : FTabOk P ft) {n : Nat} (ih : ExOk P ct ft n) {f : Nat} {args : List AV} {r : AV} {H' : AHeap}
    (h : callX ct ft (ex ct ft n) f args H = some (r, H')) : ACalls P f args H fun r' H'' => r' = r ∧ H'' = H' := by
  unfold callX at h
  split at h
  · rename_i g hg
    split at h
    · rename_i r0 hr0; cases h; exact hft _ _ hg _ _ hr0 _ _ ⟨rfl, rfl⟩
    · cases h
  · split at h
    · cases h
    · rename_i E hE
      split at h
      · cases h
      · rename_i hnp
        split at h
        · cases h
        · rename_i e' H2 he
          unfold retE at h
          split at h
          · refine hct _ _ hE _ _ _ (Nat.eq_of_beq_eq_true hnp) ?_
            exact ih.go _ _ _ _ he _ _ _ _ rfl rfl ⟨_, rfl, rfl⟩ (retX_sound h ⟨rfl, rfl⟩)
          · refine ACalls.frees (hct _ _ hE _ _ _ (Nat.eq_of_beq_eq_true hnp) ?_)
            exact ih.go _ _ _ _ he _ _ _ _ rfl rfl ⟨_, rfl, rfl⟩ (retF_sound h ⟨rfl, rfl⟩)

theorem ex_ok {P : Program} {ct : CTab} {ft : FTab} (hct : CTabOk P ct) (hft : FTabOk P ft) : ∀ N n, n ≤ N → ExOk P ct ft n
  | N, 0, _ => ⟨fun k e H res h => by simp [ex] at h, fun D L e H res h => by simp [ex] at h⟩
  | 0, n + 1, h => absurd h (by omega)
  | N + 1, n + 1, hn => by
    have ihs := ex_ok hct hft N
    have ih := ihs n (by omega)
    refine ⟨?_, ?_⟩
    · intro k e H res h cx m k' R hP hro hXK hR
      rw [ex] at h
      match k, hXK with
      | [], hXK =>
        have : k' = [] := hXK
        subst this
        simp only [bodyX, Option.some.injEq] at h; subst h
        exact AGo_nil hR
      | .blk i :: k, ⟨k2, h1, h2⟩ =>
        subst h1
        simp only [bodyX] at h
        exact AGo_blk (ih.go _ _ _ _ h _ _ _ _ hP hro (h2.mono (by omega)) hR)
      | .lp c :: k, ⟨I, k2, h1, h2, h3⟩ =>
        subst h1
        simp only [bodyX] at h
        exact AGo_bk (h2 n e.l e.g H (by omega) h)
      | .ops [] :: k, ⟨k2, h1, h2⟩ =>
        subst h1
        simp only [bodyX] at h
        exact AGo_ops_nil (ih.go _ _ _ _ h _ _ _ _ hP hro (h2.mono (by omega)) hR)
      | .ops (o :: rest) :: k, ⟨k2, h1, h2⟩ =>
        subst h1
        obtain ⟨d, op, g⟩ := o
        simp only [bodyX] at h
        split at h
        · cases h
        · rename_i hg
          exact AGo_skipped hg (ih.go _ _ _ _ h _ _ _ _ hP hro ⟨_, rfl, h2.mono (by omega)⟩ hR)
        · rename_i hg
          split at h
          · rename_i r H' hr
            have hrest := ih.go _ _ _ _ h cx m (.ops rest :: k2) R hP hro ⟨_, rfl, h2.mono (by omega)⟩ hR
            unfold actX at hr
            split at hr
            · rename_i f args hf
              obtain ⟨x, xs, caps, rfl, hx, rfl⟩ := callF_spec hf
              have hc := callX_sound hct hft ih hr
              rw [← hP] at hc
              exact AGo_call hg hx (hc.mono fun r' H'' hh => by obtain ⟨rfl, rfl⟩ := hh; exact hrest)
            · exact AGo_run1 hg hr hrest
          · cases h
      | .code c :: k, ⟨k2, h1, h2⟩ =>
        subst h1
        simp only [bodyX] at h
        split at h
        · exact AGo_skip (ih.go _ _ _ _ h _ _ _ _ hP hro (h2.mono (by omega)) hR)
        · cases h
          refine AGo_ret ?_
          rw [hro]; exact hR
        · exact AGo_seq (ih.go _ _ _ _ h _ _ _ _ hP hro ⟨_, rfl, _, rfl, h2.mono (by omega)⟩ hR)
        · exact AGo_block (ih.go _ _ _ _ h _ _ _ _ hP hro ⟨_, rfl, _, rfl, h2.mono (by omega)⟩ hR)
        · split at h
          · rename_i k1 hk1
            obtain ⟨k3, h3, h4⟩ := h2.exit hk1
            exact AGo_exit (AEx_exitA h3 (ih.go _ _ _ _ h _ _ _ _ hP hro (h4.mono (by omega)) hR))
          · cases h
        · split at h
          · rename_i hz
            exact AGo_cond hz (fun _ => ih.go _ _ _ _ h _ _ _ _ hP hro ⟨_, rfl, h2.mono (by omega)⟩ hR) (fun hb => by cases hb)
          · rename_i hz
            exact AGo_cond hz (fun hb => by cases hb) (fun _ => ih.go _ _ _ _ h _ _ _ _ hP hro ⟨_, rfl, h2.mono (by omega)⟩ hR)
          · cases h
        · rename_i c
          refine AGo_loopE (σ := {x : Nat × List (Nat × AV) × AHeap // x.1 ≤ n ∧ ex ct ft x.1 (.go (.code c :: .lp c :: k)) ⟨[], x.2.1⟩ x.2.2 = some res})
            (fun x => x.1.2.1) (fun x => x.1.2.2) (fun x => x.1.1) ⟨(n, e.g, H), Nat.le_refl _, h⟩ rfl rfl fun x => ?_
          obtain ⟨⟨n', g', H'⟩, hle, hx⟩ := x
          simp only at hle hx ⊢
          exact (ihs n' (by omega)).go _ _ _ _ hx _ _ _ _ hP hro ⟨_, rfl, _, _, rfl, fun n2 l g2 H2 hlt hx2 => ⟨⟨(n2, g2, H2), by simp only; omega, hx2⟩, hlt, rfl, rfl⟩, h2.mono (by omega)⟩ hR
        · exact AGo_reg (ih.go _ _ _ _ h _ _ _ _ hP hro ⟨_, rfl, h2.mono (by omega)⟩ hR)
        · split at h
          · rename_i L e' H' hd
            have hrest := ih.go _ _ _ _ h cx m k2 R hP hro (h2.mono (by omega)) hR
            unfold drawB at hd
            split at hd
            · rename_i x hx1
              cases hd
              unfold drawX at hx1
              exact AGo_draw _ _ [] 0 mask_sub mask_sub [] trivial (ih.dr _ _ _ _ _ hx1 _ _ _ _ hP hrest)
            · unfold drawX2 at hd
              split at hd
              · cases hd
              · split at hd
                · rename_i hkb
                  exact AGo_draw _ _ [] 0 mask_sub mask_sub _ (kcB_spec hkb) (ih.dr _ _ _ _ _ hd _ _ _ _ hP hrest)
                · cases hd
          · cases h
        · cases h
    · intro D L e H res h cx m k' R hP hgo
      rw [ex] at h
      simp only [bodyX] at h
      unfold drX at h
      split at h
      · cases h; exact DGo_nil hgo
      · rename_i it l
        split at h
        · rename_i hm
          split at h
          · cases h
          · rename_i D'
            split at h
            · rename_i r hr
              have hrest := ih.dr _ _ _ _ _ h _ _ _ _ hP hgo
              simp only [DGo, JStep, hm]
              exact ⟨r, MValK_rel hr, hrest⟩
            · cases h
        · rename_i hm
          simp only [Bool.true_or] at h
          split at h
          · cases h
          · rename_i hg
            have hrest := ih.dr _ _ _ _ _ h _ _ _ _ hP hgo
            simp only [DGo, JStep, hm, hg]
            exact hrest
          · rename_i hg
            split at h
            · cases h
            · rename_i r H' hr
              split at h
              · rename_i hkeep
                have hkp : Keep D it H H' := keepB_spec (by simpa using hkeep)
                have hrest := ih.dr _ _ _ _ _ h _ _ _ _ hP hgo
                split at hr
                · rename_i f args hf
                  obtain ⟨x, xs, caps, hop, hx, rfl⟩ := callF_spec hf
                  have hc := callX_sound hct hft ih hr
                  rw [← hP] at hc
                  obtain ⟨⟨d, op, g⟩, i, tl, ws⟩ := it
                  simp only at hop; subst hop
                  exact DGo_call hg hx (hc.mono fun r' H'' hh => by obtain ⟨rfl, rfl⟩ := hh; exact ⟨hkp, hrest⟩)
                · exact DGo_act hm hg hr hkp hrest
              · cases h

/-- what is reckoned is so -/
theorem ex_calls {P : Program} {ct : CTab} {ft : FTab} (hct : CTabOk P ct) (hft : FTabOk P ft) {n f : Nat} {args : List AV} {H H' : AHeap} {r : AV} (h : callX ct ft (ex ct ft n) f args H = some (r, H')) {Kk : AV → AHeap → Prop} (hk : Kk r H') : ACalls P f args H Kk :=
  (callX_sound hct hft (ex_ok hct hft n n (Nat.le_refl _)) h).mono fun r' H'' hh => by obtain ⟨rfl, rfl⟩ := hh; exact hk
end Go.Sas
