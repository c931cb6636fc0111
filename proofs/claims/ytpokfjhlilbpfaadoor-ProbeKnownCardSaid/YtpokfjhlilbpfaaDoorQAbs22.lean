/-
An abstract machine over values, part 22: a run by reckoning: the function that runs, and that what it yields is what the code yields.
Conditions: none.
-/
import Derived.Test.YtpokfjhlilbpfaaDoorQAbs21
set_option linter.unusedVariables false
set_option linter.unusedSimpArgs false
namespace Go.Sas
set_option maxRecDepth 4000

variable {cx : Cx} {m : Nat} {k : List AItm} {R : Env → AHeap → Prop} {e : Env} {H : AHeap}

/-! ### The tables -/
/-- what is known of a function: its code -/
structure CEnt where
  K : List Nat
  mu : List Nat
  n : Nat
  ac : ACode
  rs : List ARes
  np : Nat
  fz : Bool := false

abbrev CTab := List (Nat × CEnt)
abbrev FTab := List (Nat × (List AV → Option AV))
def cLook : CTab → Nat → Option CEnt
  | [], _ => none
  | (f, E) :: r, g => match Nat.beq f g with
    | true => some E
    | false => cLook r g
def fLook : FTab → Nat → Option (List AV → Option AV)
  | [], _ => none
  | (f, E) :: r, g => match Nat.beq f g with
    | true => some E
    | false => fLook r g
def CTabOk (P : Program) (ct : CTab) : Prop := ∀ f E, cLook ct f = some E → ∀ (args : List AV) (H : AHeap) (Kk : AV → AHeap → Prop), args.length = E.np →
  AGo ⟨P, E.K, E.mu, E.n, none⟩ H.length [.code E.ac] (RetP E.rs H.length Kk) ⟨[], argsG 0 args⟩ H → ACalls P f args H Kk
def FTabOk (P : Program) (ft : FTab) : Prop := ∀ f g, fLook ft f = some g → ∀ args r, g args = some r → ∀ (H : AHeap) (Kk : AV → AHeap → Prop), Kk r H → ACalls P f args H Kk
theorem CTabOk.nil {P : Program} : CTabOk P [] := fun f E h => by simp [cLook] at h
theorem FTabOk.nil {P : Program} : FTabOk P [] := fun f E h => by simp [fLook] at h
theorem CTabOk.cons {P : Program} {ct : CTab} {f : Nat} {E : CEnt} (hf : ∀ (args : List AV) (H : AHeap) (Kk : AV → AHeap → Prop), args.length = E.np →
    AGo ⟨P, E.K, E.mu, E.n, none⟩ H.length [.code E.ac] (RetP E.rs H.length Kk) ⟨[], argsG 0 args⟩ H → ACalls P f args H Kk) (h : CTabOk P ct) : CTabOk P ((f, E) :: ct) := by
  intro g E' hg
  simp only [cLook] at hg
  split at hg
  · rename_i hb; have := Nat.eq_of_beq_eq_true hb; subst this; cases hg; exact hf
  · exact h g E' hg
theorem FTabOk.cons {P : Program} {ft : FTab} {f : Nat} {p : List AV → Option AV} (hf : ∀ args r, p args = some r → ∀ (H : AHeap) (Kk : AV → AHeap → Prop), Kk r H → ACalls P f args H Kk) (h : FTabOk P ft) : FTabOk P ((f, p) :: ft) := by
  intro g E' hg
  simp only [fLook] at hg
  split at hg
  · rename_i hb; have := Nat.eq_of_beq_eq_true hb; subst this; cases hg; exact hf
  · exact h g E' hg

/-! ### The run -/
inductive XItm where
  | code (c : ACode)
  | ops (l : List AOper)
  | blk (i : Nat)
  | lp (c : ACode)

inductive XMode where
  | go (k : List XItm)
  | dr (ck : Bool) (D : Option DM) (L : List DItm)

def exitX (i : Nat) : List XItm → Option (List XItm)
  | [] => none
  | .blk j :: k => match Nat.beq i j with
    | true => some k
    | false => exitX i k
  | _ :: k => exitX i k

def retX (rs : List ARes) (m : Nat) (e : Env) (H : AHeap) : Option (AV × AHeap) := match aResL e H rs with
  | none => none
  | some vs => match AV.ltB m (aTup vs) && ltHB m (H.take m) with
    | true => some (aTup vs, H.take m)
    | false => some (aTup vs, H)

/-! Rows that come out of a function, frozen -/
mutual
def AV.firstMs (m : Nat) (a : AV) : Option (Nat × Nat × Nat) := match a with
  | .ms sz id g _ _ => match Nat.ble m id with
    | true => some (sz, id, g)
    | false => none
  | .agg cs => AV.firstMsL m cs
  | .tup cs => AV.firstMsL m cs
  | _ => none
def AV.firstMsL (m : Nat) (as : List AV) : Option (Nat × Nat × Nat) := match as with
  | [] => none
  | a :: as => match a.firstMs m with
    | some x => some x
    | none => AV.firstMsL m as
end
/-- rows of so many cells -/
def chunks : Nat → Nat → List AV → List AV
  | 0, _, _ => []
  | _ + 1, _, [] => []
  | n + 1, sz, cs => (match sz with
    | 1 => (match cs with
      | c :: _ => c
      | [] => .bad)
    | sz => .agg (cs.take sz)) :: chunks n sz (cs.drop sz)
def elemsB (sz : Nat) (xs cs : List AV) : Bool := match cellsL xs with
  | some c => avEqL c cs && elemsOk sz xs
  | none => false
def dropF (m : Nat) (r : AV) (H : AHeap) : AV × AHeap := match Nat.ble m H.length && AV.ltB m r && ltHB m (H.take m) with
  | true => (r, H.take m)
  | false => (r, H)
def frzGo : Nat → Nat → AV → AHeap → AV × AHeap
  | 0, m, r, H => dropF m r H
  | n + 1, m, r, H => match r.firstMs m with
    | none => dropF m r H
    | some (sz, id, g) => match H[id]? with
      | some (.own g' cs) => match Nat.beq g g' && elemsB sz (chunks cs.length sz cs) cs with
        | true => frzGo n m (r.frz id g' sz (chunks cs.length sz cs)) (frzH id g' sz (chunks cs.length sz cs) (H.set id .gone))
        | false => dropF m r H
      | _ => dropF m r H
def retF (rs : List ARes) (m : Nat) (e : Env) (H : AHeap) : Option (AV × AHeap) := match aResL e H rs with
  | none => none
  | some vs => match AV.ltB m (aTup vs) && ltHB m (H.take m) with
    | true => some (aTup vs, H.take m)
    | false => some (frzGo 8 m (aTup vs) H)
def retE (fz : Bool) (rs : List ARes) (m : Nat) (e : Env) (H : AHeap) : Option (AV × AHeap) := match fz with
  | false => retX rs m e H
  | true => retF rs m e H

abbrev XRun := XMode → Env → AHeap → Option (Env × AHeap)

def callX (ct : CTab) (ft : FTab) (ih : XRun) (f : Nat) (args : List AV) (H : AHeap) : Option (AV × AHeap) := match fLook ft f with
  | some g => match g args with
    | some r => some (r, H)
    | none => none
  | none => match cLook ct f with
    | none => none
    | some E => match Nat.beq args.length E.np with
      | false => none
      | true => match ih (.go [.code E.ac]) ⟨[], argsG 0 args⟩ H with
        | none => none
        | some (e', H') => retE E.fz E.rs H.length e' H'

def resKB : List Nat → Nat → List Nat → AHeap → AHeap → Bool
  | [], _, _, _, _ => true
  | i :: r, b, ws, H, H' => (ws.contains i || (match H[b]?, H'[b]? with
    | some (.own g cs), some (.own g' cs') => Nat.beq g g' && avEqL cs cs'
    | _, _ => false)) && resKB r (b + 1) ws H H'

def kcB : List (Nat × Nat × Nat × AV) → AHeap → Bool
  | [], _ => true
  | (i, g, o, v) :: r, H => (match H[i]? with
    | some (.own g' cs) => Nat.beq g' g && (match cs[o]? with
      | some u => avEq u v
      | none => false)
    | _ => false) && kcB r H
def kcCells (i g : Nat) : Nat → List AV → List AV → List (Nat × Nat × Nat × AV)
  | o, c :: cs, d :: ds => match avEq c d with
    | true => (i, g, o, c) :: kcCells i g (o + 1) cs ds
    | false => kcCells i g (o + 1) cs ds
  | _, _, _ => []
/-- the cells that stay, of objects that change -/
def kcOf : Nat → AHeap → AHeap → List (Nat × Nat × Nat × AV)
  | i, .own g cs :: H, .own g' cs' :: H' => match Nat.beq g g' && Nat.beq cs.length cs'.length && !avEqL cs cs' with
    | true => kcCells i g 0 cs cs' ++ kcOf (i + 1) H H'
    | false => kcOf (i + 1) H H'
  | i, _ :: H, _ :: H' => kcOf (i + 1) H H'
  | _, _, _ => []
def MValK (D : DM) (it : DItm) (e : Env) : Option AV := match MVal D it e with
  | some r => some r
  | none => match it.o.op with
    | .ld none a => (match gOk e it.o.grd with
      | some true => (match ev e a with
        | .mp id g off => kcLook D.kc id g off
        | _ => none)
      | _ => none)
    | _ => none
def keepB (D : Option DM) (it : DItm) (H H' : AHeap) : Bool := match D with
  | none => true
  | some D => it.tail || (subHB D.M H' && (resKB D.news D.base it.ws H H' && (isStB it.o.op || subHB D.M1 H')) && kcB D.kc H')

def objDiff (x y : AObj) : Nat := match x, y with
  | .own g cs, .own g' cs' => match Nat.beq g g' with
    | true => match avEqL cs cs' with
      | true => 0
      | false => 1
    | false => 2
  | .gone, _ => 0
  | _, _ => 2
def diffIds : Nat → AHeap → AHeap → List Nat
  | i, x :: H, y :: H' => match objDiff x y with
    | 0 => diffIds (i + 1) H H'
    | 1 => i :: diffIds (i + 1) H H'
    | _ => (i + 1000) :: diffIds (i + 1) H H'
  | _, _, _ => []

def isCallB : AOp → Bool
  | .call _ _ => true
  | _ => false

/-- one act -/
def actX (ct : CTab) (ft : FTab) (ih : XRun) (e : Env) (H : AHeap) (op : AOp) : Option (AV × AHeap) := match callF e op with
  | some (f, args) => callX ct ft ih f args H
  | none => opRun (ev e) H op

def drX (ct : CTab) (ft : FTab) (ih : XRun) (ck : Bool) (D : Option DM) (L : List DItm) (e : Env) (H : AHeap) : Option (Env × AHeap) := match L with
  | [] => some (⟨[], e.g⟩, H)
  | it :: l => match movB it.o.op with
    | true => match D with
      | none => none
      | some D' => match MValK (match ck with | true => D' | false => ⟨H, D'.base, D'.news, H, [], 0, []⟩) it e with
        | some r => ih (.dr ck D l) (put e it.o.dst r) H
        | none => none
    | false => match ck || !it.tail with
     | false => some (e, H)
     | true => match gOk e it.o.grd with
      | none => none
      | some false => ih (.dr ck (nx D it) l) (put e it.o.dst (.lit undef)) H
      | some true => match (match callF e it.o.op with | some (f, args) => callX ct ft ih f args H | none => opAct (ev e) H it.o.op) with
        | none => none
        | some (r, H') => match !ck || keepB D it H H' with
          | true => ih (.dr ck (nx D it) l) (put e it.o.dst r) H'
          | false => none

/-- what is masked from the beginning: nothing where only writes through pointers change anything -/
def us1 (L : List DItm) (us : List Nat) : List Nat := match L.any (fun it => !movB it.o.op && !it.tail && !isStB it.o.op) with
  | true => us
  | false => []
def drawX (ih : XRun) (L : List DItm) (e : Env) (H : AHeap) : Option (Env × AHeap) :=
  let us := match L.any (fun it => !movB it.o.op && !it.tail && !isCallB it.o.op) with
    | false => []
    | true => match ih (.dr false (some ⟨H, H.length, (newsOf L).map (·.1), H, [], 0, []⟩) L) e (H ++ kept L) with
      | none => []
      | some (_, H2) => diffIds 0 H H2
  ih (.dr true (some ⟨mask us H, H.length, (newsOf L).map (·.1), mask (us1 L us) H, [], 0, []⟩) L) e (H ++ kept L)
/-- the same, where cells of what is written to are loaded -/
def drawX2 (ih : XRun) (L : List DItm) (e : Env) (H : AHeap) : Option (Env × AHeap) := match ih (.dr false (some ⟨H, H.length, (newsOf L).map (·.1), H, [], 0, []⟩) L) e (H ++ kept L) with
  | none => none
  | some (_, H2) => match kcB (kcOf 0 H H2) (H ++ kept L) with
    | true => ih (.dr true (some ⟨mask (diffIds 0 H H2) H, H.length, (newsOf L).map (·.1), mask (us1 L (diffIds 0 H H2)) H, [], 0, kcOf 0 H H2⟩) L) e (H ++ kept L)
    | false => none
def drawB (ih : XRun) (L : List DItm) (e : Env) (H : AHeap) : Option (Env × AHeap) := match drawX ih L e H with
  | some x => some x
  | none => drawX2 ih L e H

def bodyX (ct : CTab) (ft : FTab) (ih : XRun) : XRun
  | .dr ck D L, e, H => drX ct ft ih ck D L e H
  | .go [], e, H => some (e, H)
  | .go (.blk _ :: k), e, H => ih (.go k) e H
  | .go (.lp c :: k), e, H => ih (.go (.code c :: .lp c :: k)) ⟨[], e.g⟩ H
  | .go (.ops [] :: k), e, H => ih (.go k) ⟨[], e.g⟩ H
  | .go (.ops (o :: rest) :: k), e, H => match gOk e o.grd with
    | none => none
    | some false => ih (.go (.ops rest :: k)) (put e o.dst (.lit undef)) H
    | some true => match actX ct ft ih e H o.op with
      | some (r, H') => ih (.go (.ops rest :: k)) (put e o.dst r) H'
      | none => none
  | .go (.code c :: k), e, H => match c with
    | .skip => ih (.go k) e H
    | .ret => some (e, H)
    | .seq x y => ih (.go (.code x :: .code y :: k)) e H
    | .block i x => ih (.go (.code x :: .blk i :: k)) e H
    | .exit i => match exitX i k with
      | some k' => ih (.go k') e H
      | none => none
    | .cond z x y => match ev e z with
      | .lit (.bool true) => ih (.go (.code x :: k)) e H
      | .lit (.bool false) => ih (.go (.code y :: k)) e H
      | _ => none
    | .loop c => ih (.go (.code c :: .lp c :: k)) ⟨[], e.g⟩ H
    | .reg l => ih (.go (.ops l :: k)) e H
    | .draw L => match drawB ih L e H with
      | some (e', H') => ih (.go k) e' H'
      | none => none
    | _ => none

def ex (ct : CTab) (ft : FTab) : Nat → XRun
  | 0 => fun _ _ _ => none
  | n + 1 => bodyX ct ft (ex ct ft n)

/-! ### That it is right -/
def XK (ct : CTab) (ft : FTab) (N : Nat) (res : Env × AHeap) : List XItm → List AItm → Prop
  | [], k' => k' = []
  | .code c :: k, k' => ∃ k2, k' = .code c :: k2 ∧ XK ct ft N res k k2
  | .ops l :: k, k' => ∃ k2, k' = .ops l :: k2 ∧ XK ct ft N res k k2
  | .blk i :: k, k' => ∃ k2, k' = .blk i :: k2 ∧ XK ct ft N res k k2
  | .lp c :: k, k' => ∃ I k2, k' = .bk I :: k2 ∧ (∀ n l g H, n < N → ex ct ft n (.go (.code c :: .lp c :: k)) ⟨[], g⟩ H = some res → I ⟨l, g⟩ H) ∧ XK ct ft N res k k2

theorem XK.mono {ct : CTab} {ft : FTab} {N N' : Nat} {res : Env × AHeap} (hN : N' ≤ N) : ∀ {k : List XItm} {k' : List AItm}, XK ct ft N res k k' → XK ct ft N' res k k'
  | [], k', h => h
  | .code c :: k, k', ⟨k2, h1, h2⟩ => ⟨k2, h1, h2.mono hN⟩
  | .ops c :: k, k', ⟨k2, h1, h2⟩ => ⟨k2, h1, h2.mono hN⟩
  | .blk c :: k, k', ⟨k2, h1, h2⟩ => ⟨k2, h1, h2.mono hN⟩
  | .lp c :: k, k', ⟨I, k2, h1, h2, h3⟩ => ⟨I, k2, h1, fun n l g H hn he => h2 n l g H (by omega) he, h3.mono hN⟩

theorem XK.exit {ct : CTab} {ft : FTab} {N : Nat} {res : Env × AHeap} {i : Nat} : ∀ {k k1 : List XItm} {k' : List AItm}, exitX i k = some k1 → XK ct ft N res k k' → ∃ k2, exitA i k' = some k2 ∧ XK ct ft N res k1 k2
  | [], k1, k', h, _ => by simp [exitX] at h
  | .blk j :: k, k1, k', h, ⟨k2, h1, h2⟩ => by
    subst h1
    simp only [exitX] at h
    split at h
    · rename_i hb; have := Nat.eq_of_beq_eq_true hb; subst this
      cases h; exact ⟨k2, by simp [exitA], h2⟩
    · rename_i hb
      have hne : i ≠ j := fun he => by subst he; simp at hb
      obtain ⟨k3, h3, h4⟩ := h2.exit h
      exact ⟨k3, by simp [exitA, hne, h3], h4⟩
  | .code c :: k, k1, k', h, ⟨k2, h1, h2⟩ => by
    subst h1
    obtain ⟨k3, h3, h4⟩ := h2.exit (by simpa only [exitX] using h)
    exact ⟨k3, by simp [exitA, h3], h4⟩
  | .ops c :: k, k1, k', h, ⟨k2, h1, h2⟩ => by
    subst h1
    obtain ⟨k3, h3, h4⟩ := h2.exit (by simpa only [exitX] using h)
    exact ⟨k3, by simp [exitA, h3], h4⟩
  | .lp c :: k, k1, k', h, ⟨I, k2, h1, _, h2⟩ => by
    subst h1
    obtain ⟨k3, h3, h4⟩ := h2.exit (by simpa only [exitX] using h)
    exact ⟨k3, by simp [exitA, h3], h4⟩

structure ExOk (P : Program) (ct : CTab) (ft : FTab) (n : Nat) : Prop where
  go : ∀ k e H res, ex ct ft n (.go k) e H = some res → ∀ (cx : Cx) (m : Nat) (k' : List AItm) (R : Env → AHeap → Prop), cx.P = P → cx.ro = none → XK ct ft n res k k' → R res.1 res.2 → AGo cx m k' R e H
  dr : ∀ D L e H res, ex ct ft n (.dr true D L) e H = some res → ∀ (cx : Cx) (m : Nat) (k' : List AItm) (R : Env → AHeap → Prop), cx.P = P → AGo cx m k' R res.1 res.2 → DGo cx m k' R D L e H

end Go.Sas
