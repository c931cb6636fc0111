/-
An abstract machine over values, part 8: code, what it is to run the rest of a body, and the rules.
Conditions: none (lemmas over any program).
-/
import Derived.Test.YtelmlpjkpebcgaaAbs7
set_option linter.unusedVariables false
set_option linter.unusedSimpArgs false
namespace Go.Sas

/-! ### Code -/
structure AOper where
  dst : Option (Bool × Nat)
  op : AOp
  grd : Option (Od × Bool)
  deriving Inhabited

/-- an operation of a region that draws its order: its place, whether it comes behind all that can be moved, the variables that it waits for -/
structure DItm where
  o : AOper
  i : Nat
  tail : Bool
  ws : List Nat
  deriving Inhabited

inductive ACode where
  | skip
  | ret
  | exit (i : Nat)
  | seq (a b : ACode)
  | cond (c : Od) (a b : ACode)
  | block (i : Nat) (c : ACode)
  | loop (c : ACode)
  | reg (ops : List AOper)
  | draw (l : List DItm)
  | other (c : Code)
  deriving Inhabited

/-- what is fixed in a function: the program, the temporaries that live on, the literals that are written, how many temporaries there are, the round that it is -/
structure Cx where
  P : Program
  K : List Nat
  mu : List Nat
  n : Nat
  ro : Option Nat

def trDst (cx : Cx) : Option Tmp → Option (Option (Bool × Nat))
  | none => some none
  | some d => if d < cx.n then some (some (cx.K.contains d, d)) else none

def trGrd (cx : Cx) (ops : Array Oper) : Option (Nat × Bool) → Option (Option (Od × Bool))
  | none => some none
  | some (j, want) => match (ops[j]?).bind (·.dst) with
    | some d => (od cx.K (.tmp d)).map fun x => some (x, want)
    | none => none

def trOper (cx : Cx) (ops : Array Oper) (o : Oper) : Option AOper :=
  match trDst cx o.dst, trOp cx.P cx.K (match o.dst with | some d => cx.mu.contains d | none => false) o, trGrd cx ops o.guard with
  | some d, some p, some g => some ⟨d, p, g⟩
  | _, _, _ => none

def trOps (cx : Cx) (ops : Array Oper) : List Oper → Option (List AOper)
  | [] => some []
  | o :: r => match trOper cx ops o, trOps cx ops r with
    | some x, some y => some (x :: y)
    | _, _ => none

/-! ### Regions that draw their order -/
def odl : Option Od → List Od
  | none => []
  | some x => [x]

/-- the operands -/
def opOds : AOp → List Od
  | .mv x | .box x | .nilc x | .eqn _ x | .un _ x | .cv _ x | .ld _ x | .fa x _ | .fd _ x _ | .ex x _ | .len x | .lens x => [x]
  | .pick c a b => [c, a, b]
  | .new _ | .lenc _ => []
  | .mk _ ps => ps.map fun (_, _, x) => x
  | .mks _ _ xs | .mkf _ xs | .mx xs | .mn xs => xs
  | .st _ a v => [a, v]
  | .bin _ x y | .binb _ x y | .eqs _ _ x y | .ia _ x y | .iaa _ _ x y | .ix _ _ _ x y | .sx x y | .app _ _ x y | .cpy _ x y => [x, y]
  | .mksl _ _ _ l c => [l, c]
  | .sl _ x a b c => x :: (odl a ++ odl b ++ odl c)
  | .ssl x a b => x :: (odl a ++ odl b)
  | .call f xs => f :: xs

/-- it changes nothing (or lays a variable, whose place has been kept for it) -/
def movB : AOp → Bool
  | .new _ => true
  | .box _ | .st _ _ _ | .mks true _ _ | .mksl _ _ _ _ _ | .app _ _ _ _ | .cpy _ _ _ | .call _ _ => false
  | _ => true

def odSlot : Od → Option Nat
  | .l t | .g t => some t
  | .c _ => none

def looks (o : AOper) (t : Nat) : Bool := (opOds o.op).any (fun x => odSlot x == some t) || (match o.grd with | some (x, _) => odSlot x == some t | none => false)

/-- neither sees what the other writes -/
def apartA (x y : AOper) : Bool :=
  (match x.dst with | some (_, d) => !looks y d && (match y.dst with | some (_, d') => d != d' | none => true) | none => true) &&
  (match y.dst with | some (_, d) => !looks x d | none => true)

def isMov (A : List AOper) (i : Nat) : Bool := match A[i]? with
  | some o => movB o.op
  | none => false

/-- j waits for i -/
def waitsFor (ops : Array Oper) (j i : Nat) : Bool := match ops[j]? with
  | some o => o.after.any fun e => Region.binds .any e && e.on == i
  | none => false

def freeA (ops : Array Oper) (A : List AOper) (listed : Array Bool) (i : Nat) : Bool := match A[i]? with
  | none => false
  | some oi => (List.range ops.size).all fun j => j == i || listed.getD j true || waitsFor ops j i || (match A[j]? with
    | some oj => apartA oi oj
    | none => false)

/-- j waits for i, or for what waits for i -/
def waits2 (ops : Array Oper) (j i : Nat) : Bool := waitsFor ops j i || (List.range ops.size).any fun k => waitsFor ops j k && waitsFor ops k i

/-- it comes behind all that can be moved -/
def tailA (ops : Array Oper) (A : List AOper) (j : Nat) : Bool := (List.range ops.size).all fun i => !isMov A i || waits2 ops j i

def canonGo (ops : Array Oper) (A : List AOper) : Nat → Array Bool → Option (List Nat)
  | 0, listed => if (Region.ready .any ops listed).isEmpty then some [] else none
  | n + 1, listed => match (Region.ready .any ops listed).find? (isMov A) with
    | some i => if freeA ops A listed i then (match canonGo ops A n (listed.setIfInBounds i true) with
      | some l => some (i :: l)
      | none => none) else none
    | none => match Region.ready .any ops listed with
      | [] => some []
      | [i] => match canonGo ops A n (listed.setIfInBounds i true) with
        | some l => some (i :: l)
        | none => none
      | _ => none

def isNew (A : List AOper) (i : Nat) : Bool := match A[i]? with
  | some ⟨_, .new _, _⟩ => true
  | _ => false

def wsA (ops : Array Oper) (A : List AOper) (j : Nat) : List Nat := (List.range ops.size).filter fun i => isNew A i && waitsFor ops j i

def pickA (ops : Array Oper) (A : List AOper) : List Nat → Option (List DItm)
  | [] => some []
  | i :: r => match A[i]?, pickA ops A r with
    | some o, some l => some (⟨o, i, tailA ops A i, wsA ops A i⟩ :: l)
    | _, _ => none

def canon (cx : Cx) (ops : Array Oper) : Option (List DItm) := match trOps cx ops ops.toList with
  | some A => if cx.P.follows .mixedOrders then (match canonGo ops A ops.size (Array.replicate ops.size false) with
    | some l => pickA ops A l
    | none => none) else none
  | none => none

def trCode (cx : Cx) : Code → Option ACode
  | .skip => some .skip
  | .ret => some .ret
  | .exit i => some (.exit i)
  | .seq a b => match trCode cx a, trCode cx b with
    | some x, some y => some (.seq x y)
    | _, _ => none
  | .cond c a b => match od cx.K c, trCode cx a, trCode cx b with
    | some z, some x, some y => some (.cond z x y)
    | _, _, _ => none
  | .block i c => (trCode cx c).map (.block i)
  | .loop c => (trCode cx c).map .loop
  | .region _ ops false => (trOps cx ops ops.toList).map .reg
  | .region _ ops true => (canon cx ops).map .draw
  | c => some (.other c)

/-! ### The environment -/
structure Env where
  l : List (Nat × AV)
  g : List (Nat × AV)

def look : List (Nat × AV) → Nat → AV
  | [], _ => .bad
  | (i, v) :: r, t => if i = t then v else look r t

def gset : List (Nat × AV) → Nat → AV → List (Nat × AV)
  | [], t, v => [(t, v)]
  | (i, u) :: r, t, v => if i = t then (i, v) :: r else (i, u) :: gset r t v

theorem look_gset : ∀ (l : List (Nat × AV)) (t : Nat) (v : AV) (s : Nat), look (gset l t v) s = if t = s then v else look l s
  | [], t, v, s => by simp [gset, look]
  | (i, u) :: r, t, v, s => by
    simp only [gset]
    split
    · rename_i h; subst h; simp only [look]; split <;> rfl
    · rename_i h
      simp only [look, look_gset r t v s]
      split
      · rename_i h2; subst h2; rw [if_neg (fun h3 => h h3.symm)]
      · rfl

def ev (e : Env) : Od → AV
  | .l t => look e.l t
  | .g t => look e.g t
  | .c a => a

def put (e : Env) : Option (Bool × Nat) → AV → Env
  | none, _ => e
  | some (true, t), v => ⟨e.l, gset e.g t v⟩
  | some (false, t), v => ⟨(t, v) :: e.l, e.g⟩

structure Rel (cx : Cx) (st0 : St) (w0 : World) (st : St) (w : World) (e : Env) (H : AHeap) (a : Act) : Prop where
  ext : Ext st0 w0 st w
  hH : RelH st w H
  l : ∀ t, RelV st (look e.l t) (a.tmps.getD t undef)
  g : ∀ t, RelV st (look e.g t) (a.tmps.getD t undef)
  kl : ∀ t, cx.K.contains t = true → look e.l t = .bad
  kg : ∀ t, cx.K.contains t = false → look e.g t = .bad
  n : a.tmps.size = cx.n
  d : a.defers = []

variable {cx : Cx} {st0 st st' : St} {w0 w w' : World} {e e' : Env} {H H' : AHeap} {a : Act}

theorem Rel.ops (h : Rel cx st0 w0 st w e H a) : RelO st cx.K (ev e) a.eval := by
  intro x y hy
  cases x with
  | tmp t =>
    simp only [od, Option.some.injEq] at hy
    split at hy <;> subst hy
    · exact h.g t
    · exact h.l t
  | const v => simp only [od, Option.some.injEq] at hy; subst hy; exact relV_ofVal st v
  | global g => simp [od] at hy
  | func f =>
    simp only [od, Option.some.injEq] at hy; subst hy
    simp only [ev, RelV]
    exact ⟨#[], rfl, by simp [RelL]⟩

theorem Rel.put (h : Rel cx st0 w0 st w e H a) (hext : Ext st w st' w') (hH' : RelH st' w' H') {d : Option Tmp} {ad : Option (Bool × Nat)} (hd : trDst cx d = some ad) {v : Value} {r : AV} (hr : RelV st' r v) :
    Rel cx st0 w0 st' w' (put e ad r) H' (a.put d v) := by
  have hle := hext.le
  cases d with
  | none =>
    simp only [trDst, Option.some.injEq] at hd; subst hd
    exact ⟨h.ext.trans hext, hH', fun t => (h.l t).mono hle, fun t => (h.g t).mono hle, h.kl, h.kg, h.n, h.d⟩
  | some d =>
    simp only [trDst] at hd
    split at hd
    · rename_i hlt
      simp only [Option.some.injEq] at hd; subst hd
      have hsz : d < a.tmps.size := by rw [h.n]; exact hlt
      have hget : ∀ t, (a.tmps.setIfInBounds d v).getD t undef = if d = t then v else a.tmps.getD t undef := by
        intro t
        simp only [Array.getD_eq_getD_getElem?, Array.getElem?_setIfInBounds]
        split
        · rename_i he; subst he; simp [hsz]
        · rfl
      cases hK : cx.K.contains d with
      | true =>
        refine ⟨h.ext.trans hext, hH', fun t => ?_, fun t => ?_, h.kl, fun t ht => ?_, by simp [Act.put, h.n], h.d⟩
        · simp only [Go.Sas.put, Act.put, hget]
          split
          · rename_i he; subst he; rw [h.kl d hK]; simp only [RelV]
          · exact (h.l t).mono hle
        · simp only [Go.Sas.put, Act.put, hget, look_gset]
          split
          · exact hr
          · exact (h.g t).mono hle
        · simp only [Go.Sas.put, look_gset]
          split
          · rename_i he; subst he; rw [hK] at ht; cases ht
          · exact h.kg t ht
      | false =>
        refine ⟨h.ext.trans hext, hH', fun t => ?_, fun t => ?_, fun t ht => ?_, h.kg, by simp [Act.put, h.n], h.d⟩
        · simp only [Go.Sas.put, Act.put, hget, look]
          split
          · exact hr
          · exact (h.l t).mono hle
        · simp only [Go.Sas.put, Act.put, hget]
          split
          · rename_i he; subst he; rw [h.kg d hK]; simp only [RelV]
          · exact (h.g t).mono hle
        · simp only [Go.Sas.put, look]
          split
          · rename_i he; subst he; rw [hK] at ht; cases ht
          · exact h.kl t ht
    · cases hd

/-! ### Running the rest of a body -/
def Fc (ro : Option Nat) : Fence := { fn := fun _ => True, depth := none, alive := false, round := ro }

inductive CItm where
  | code (c : Code)
  | ops (ops : Array Oper) (l : List Nat)
  | blk (i : Nat)
  | bk (I : Act → World → Prop)

mutual
def GoK (P : Program) (ro : Option Nat) (k : List CItm) (R : Act → World → Prop) (a : Act) (w : World) : Prop := match k with
  | [] => R a w
  | .code c :: k => c.wpIn (Fc ro) 0 P (fun x a' w' => match x with
    | .normal => GoK P ro k R a' w'
    | .exit i => ExK P ro i k R a' w'
    | .ret => R a' w'
    | _ => False) a w
  | .ops ops l :: k => wpOpsIn (Fc ro) 0 P ops (fun x a' w' => match x with
    | .normal => GoK P ro k R a' w'
    | _ => False) l a w
  | .blk _ :: k => GoK P ro k R a w
  | .bk I :: _ => I a w
def ExK (P : Program) (ro : Option Nat) (i : Nat) (k : List CItm) (R : Act → World → Prop) (a : Act) (w : World) : Prop := match k with
  | [] => False
  | .blk j :: k => if i = j then GoK P ro k R a w else ExK P ro i k R a w
  | _ :: k => ExK P ro i k R a w
end

inductive AItm where
  | code (c : ACode)
  | ops (l : List AOper)
  | blk (i : Nat)
  | bk (I : Env → AHeap → Prop)

def TrL (cx : Cx) (ops : Array Oper) : List AOper → List Nat → Prop
  | [], l => l = []
  | o :: r, l => ∃ i l' o', l = i :: l' ∧ ops[i]? = some o' ∧ trOper cx ops o' = some o ∧ TrL cx ops r l'

def TrItm (cx : Cx) (st0 : St) (w0 : World) : AItm → CItm → Prop
  | .code ac, .code c => trCode cx c = some ac
  | .ops l, .ops ops l' => TrL cx ops l l'
  | .blk i, .blk j => i = j
  | .bk I, .bk J => J = fun a w => ∃ st e H, Rel cx st0 w0 st w e H a ∧ I e H
  | _, _ => False

def TrK (cx : Cx) (st0 : St) (w0 : World) : List AItm → List CItm → Prop
  | [], k => k = []
  | x :: r, k => ∃ y k', k = y :: k' ∧ TrItm cx st0 w0 x y ∧ TrK cx st0 w0 r k'

/-- The rest of the body, from every world that fits, ends where R holds. m: how many objects there were in the beginning. -/
def AGo (cx : Cx) (m : Nat) (k : List AItm) (R : Env → AHeap → Prop) (e : Env) (H : AHeap) : Prop :=
  ∀ st0 w0 kc, st0.loc.length = m → TrK cx st0 w0 k kc → ∀ st a w, Rel cx st0 w0 st w e H a →
    GoK cx.P cx.ro kc (fun a' w' => ∃ st' e' H', Rel cx st0 w0 st' w' e' H' a' ∧ R e' H') a w

def AEx (cx : Cx) (m : Nat) (i : Nat) (k : List AItm) (R : Env → AHeap → Prop) (e : Env) (H : AHeap) : Prop :=
  ∀ st0 w0 kc, st0.loc.length = m → TrK cx st0 w0 k kc → ∀ st a w, Rel cx st0 w0 st w e H a →
    ExK cx.P cx.ro i kc (fun a' w' => ∃ st' e' H', Rel cx st0 w0 st' w' e' H' a' ∧ R e' H') a w

variable {m : Nat} {k : List AItm} {R : Env → AHeap → Prop}

theorem AGo_nil (h : R e H) : AGo cx m [] R e H := by
  intro st0 w0 kc _ hk st a w hr
  simp only [TrK] at hk; subst hk
  simp only [GoK]
  exact ⟨st, e, H, hr, h⟩

theorem AGo_blk {i : Nat} (h : AGo cx m k R e H) : AGo cx m (.blk i :: k) R e H := by
  intro st0 w0 kc hm hk st a w hr
  simp only [TrK] at hk
  obtain ⟨y, k', rfl, h1, h2⟩ := hk
  cases y <;> simp only [TrItm] at h1
  simp only [GoK]
  exact h st0 w0 k' hm h2 st a w hr

theorem AGo_bk {I : Env → AHeap → Prop} (h : I e H) : AGo cx m (.bk I :: k) R e H := by
  intro st0 w0 kc hm hk st a w hr
  simp only [TrK] at hk
  obtain ⟨y, k', rfl, h1, h2⟩ := hk
  cases y <;> simp only [TrItm] at h1
  subst h1
  simp only [GoK]
  exact ⟨st, e, H, hr, h⟩

theorem AEx_blk {i : Nat} (h : AGo cx m k R e H) : AEx cx m i (.blk i :: k) R e H := by
  intro st0 w0 kc hm hk st a w hr
  simp only [TrK] at hk
  obtain ⟨y, k', rfl, h1, h2⟩ := hk
  cases y <;> simp only [TrItm] at h1
  subst h1
  simp only [ExK, if_true]
  exact h st0 w0 k' hm h2 st a w hr

theorem AEx_pass {i : Nat} {x : AItm} (hx : ∀ j, x = .blk j → i ≠ j) (h : AEx cx m i k R e H) : AEx cx m i (x :: k) R e H := by
  intro st0 w0 kc hm hk st a w hr
  simp only [TrK] at hk
  obtain ⟨y, k', rfl, h1, h2⟩ := hk
  have h3 := h st0 w0 k' hm h2 st a w hr
  cases y with
  | blk j =>
    cases x <;> simp only [TrItm] at h1
    subst h1
    simp only [ExK]
    rw [if_neg (hx _ rfl)]; exact h3
  | _ => simp only [ExK]; exact h3

theorem uponIn_mono {F : Fence} {n : Nat} {P : Program} {o : Oper} {a : Act} {K K' : Act → World → Prop} {Q Q' : Exit → Act → World → Prop} {r : Result Next} (hk : ∀ a w, K a w → K' a w) (hq : ∀ x a w, Q x a w → Q' x a w)
    (h : o.uponIn F n P a K Q r) : o.uponIn F n P a K' Q' r := by
  have hl : LetsOut Q → LetsOut Q' := fun ⟨a, w, h⟩ => ⟨a, w, hq _ _ _ h⟩
  cases r with
  | ok x w' =>
    cases x <;> simp only [Oper.uponIn] at h ⊢ <;>
      first
        | exact hk _ _ h
        | exact ⟨h.1, CallsIn.mono h.2 (fun e w'' he => by cases e <;> first | exact hk _ _ he | exact hq _ _ _ he | exact hl he)⟩
        | exact ⟨h.1, RowsIn.mono h.2 (fun _ _ he => hk _ _ he)⟩
        | exact ⟨h.1, RoundIn.mono h.2 (fun e w'' he => by cases e <;> first | exact hk _ _ he | exact hq _ _ _ he | exact hl he)⟩
  | halt x w' => cases x <;> simp only [Oper.uponIn] at h ⊢ <;> exact hq _ _ _ h

theorem wpOpsIn_mono {F : Fence} {n : Nat} {P : Program} {ops : Array Oper} {Q Q' : Exit → Act → World → Prop} (hq : ∀ x a w, Q x a w → Q' x a w) : ∀ (l : List Nat) (a : Act) (w : World), wpOpsIn F n P ops Q l a w → wpOpsIn F n P ops Q' l a w
  | [], a, w, h => hq _ _ _ h
  | i :: l, a, w, h => by
    simp only [wpOpsIn] at h ⊢
    split
    · rename_i ho; simp only [ho] at h; exact wpOpsIn_mono hq l a w h
    · rename_i o ho
      simp only [ho] at h
      split
      · rename_i hw; simp only [hw, if_true, Oper.wpIn] at h ⊢
        exact ⟨h.1, uponIn_mono (fun a w => wpOpsIn_mono hq l a w) hq h.2⟩
      · rename_i hw; simp only [hw] at h
        exact ⟨h.1, wpOpsIn_mono hq l _ w h.2⟩

section code
variable {ac x y : ACode}
theorem AGo_code (h : ∀ (c : Code) (Q : Exit → Act → World → Prop) st0 w0 kc, st0.loc.length = m → TrK cx st0 w0 k kc → trCode cx c = some ac →
    (∀ a' w', GoK cx.P cx.ro kc (fun a' w' => ∃ st' e' H', Rel cx st0 w0 st' w' e' H' a' ∧ R e' H') a' w' → Q .normal a' w') →
    (∀ i a' w', ExK cx.P cx.ro i kc (fun a' w' => ∃ st' e' H', Rel cx st0 w0 st' w' e' H' a' ∧ R e' H') a' w' → Q (.exit i) a' w') →
    (∀ a' w', (∃ st' e' H', Rel cx st0 w0 st' w' e' H' a' ∧ R e' H') → Q .ret a' w') →
    ∀ st a w, Rel cx st0 w0 st w e H a → c.wpIn (Fc cx.ro) 0 cx.P Q a w) : AGo cx m (.code ac :: k) R e H := by
  intro st0 w0 kc hm hk st a w hr
  simp only [TrK] at hk
  obtain ⟨y, k', rfl, h1, h2⟩ := hk
  cases y <;> simp only [TrItm] at h1
  rename_i c
  simp only [GoK]
  exact h c _ st0 w0 k' hm h2 h1 (fun _ _ h => h) (fun _ _ _ h => h) (fun _ _ h => h) st a w hr

theorem AGo_skip (h : AGo cx m k R e H) : AGo cx m (.code .skip :: k) R e H := by
  refine AGo_code fun c Q st0 w0 kc hm hk ht hn hx hr st a w hrel => ?_
  cases c <;> (try simp only [trCode] at ht)
  case skip => exact wpIn_skip (hn _ _ (h st0 w0 kc hm hk st a w hrel))
  case region id ops d => cases d <;> simp [trCode] at ht
  all_goals first | cases ht | (split at ht <;> cases ht) | (obtain ⟨_, _, h'⟩ := Option.map_eq_some_iff.1 ht; cases h')

theorem AGo_ret (h : R e H) : AGo cx m (.code .ret :: k) R e H := by
  refine AGo_code fun c Q st0 w0 kc hm hk ht hn hx hr st a w hrel => ?_
  cases c <;> (try simp only [trCode] at ht)
  case ret => exact wpIn_ret (hr _ _ ⟨st, e, H, hrel, h⟩)
  case region id ops d => cases d <;> simp [trCode] at ht
  all_goals first | cases ht | (split at ht <;> cases ht) | (obtain ⟨_, _, h'⟩ := Option.map_eq_some_iff.1 ht; cases h')

theorem AGo_exit {i : Nat} (h : AEx cx m i k R e H) : AGo cx m (.code (.exit i) :: k) R e H := by
  refine AGo_code fun c Q st0 w0 kc hm hk ht hn hx hr st a w hrel => ?_
  cases c <;> (try simp only [trCode] at ht)
  case exit j => cases ht; exact wpIn_exit (hx _ _ _ (h st0 w0 kc hm hk st a w hrel))
  case region id ops d => cases d <;> simp [trCode] at ht
  all_goals first | cases ht | (split at ht <;> cases ht) | (obtain ⟨_, _, h'⟩ := Option.map_eq_some_iff.1 ht; cases h')

theorem AGo_seq (h : AGo cx m (.code x :: .code y :: k) R e H) : AGo cx m (.code (.seq x y) :: k) R e H := by
  refine AGo_code fun c Q st0 w0 kc hm hk ht hn hx hr st a w hrel => ?_
  cases c <;> (try simp only [trCode] at ht)
  case seq c1 c2 =>
    split at ht
    · rename_i x' y' h1 h2
      cases ht
      have := h st0 w0 (.code c1 :: .code c2 :: kc) hm ⟨_, _, rfl, h1, _, _, rfl, h2, hk⟩ st a w hrel
      simp only [GoK, ExK] at this
      refine wpIn_seq (wpIn_mono this fun ex a' w' hq => ?_)
      cases ex <;> simp only [Exit.then] at hq ⊢
      case normal =>
        refine wpIn_mono hq fun ex2 a2 w2 hq2 => ?_
        cases ex2 <;> simp only at hq2 <;> first | exact hn _ _ hq2 | exact hx _ _ _ hq2 | exact hr _ _ hq2 | exact hq2.elim
      case exit i => exact hx _ _ _ hq
      case ret => exact hr _ _ hq
      all_goals exact hq.elim
    · cases ht
  case region id ops d => cases d <;> simp [trCode] at ht
  all_goals first | cases ht | (split at ht <;> cases ht) | (obtain ⟨_, _, h'⟩ := Option.map_eq_some_iff.1 ht; cases h')

theorem AGo_block {i : Nat} (h : AGo cx m (.code x :: .blk i :: k) R e H) : AGo cx m (.code (.block i x) :: k) R e H := by
  refine AGo_code fun c Q st0 w0 kc hm hk ht hn hx hr st a w hrel => ?_
  cases c <;> (try simp only [trCode] at ht)
  case block j c1 =>
    obtain ⟨x', h1, h2⟩ := Option.map_eq_some_iff.1 ht
    cases h2
    have := h st0 w0 (.code c1 :: .blk i :: kc) hm ⟨_, _, rfl, h1, _, _, rfl, rfl, hk⟩ st a w hrel
    simp only [GoK, ExK] at this
    refine wpIn_block (wpIn_mono this fun ex a' w' hq => ?_)
    cases ex <;> simp only [Exit.inBlock] at hq ⊢
    case normal => exact hn _ _ hq
    case exit j =>
      split at hq
      · rename_i he; subst he; rw [if_pos rfl]; exact hn _ _ hq
      · rename_i he; rw [if_neg he]; exact hx _ _ _ hq
    case ret => exact hr _ _ hq
    all_goals exact hq.elim
  case region id ops d => cases d <;> simp [trCode] at ht
  all_goals first | cases ht | (split at ht <;> cases ht) | (obtain ⟨_, _, h'⟩ := Option.map_eq_some_iff.1 ht; cases h')

theorem AGo_cond {z : Od} {b : Bool} (hb : ev e z = .lit (.bool b)) (h1 : b = true → AGo cx m (.code x :: k) R e H) (h2 : b = false → AGo cx m (.code y :: k) R e H) : AGo cx m (.code (.cond z x y) :: k) R e H := by
  refine AGo_code fun c Q st0 w0 kc hm hk ht hn hx hr st a w hrel => ?_
  cases c <;> (try simp only [trCode] at ht)
  case cond o c1 c2 =>
    split at ht
    · rename_i z' x' y' hz hc1 hc2
      cases ht
      have hv := hrel.ops o z hz
      rw [hb] at hv; simp only [RelV] at hv
      have fin : ∀ c3 x3, trCode cx c3 = some x3 → AGo cx m (.code x3 :: k) R e H → c3.wpIn (Fc cx.ro) 0 cx.P Q a w := by
        intro c3 x3 h3 hg
        have := hg st0 w0 (.code c3 :: kc) hm ⟨_, _, rfl, h3, hk⟩ st a w hrel
        simp only [GoK] at this
        refine wpIn_mono this fun ex a' w' hq => ?_
        cases ex <;> simp only at hq <;> first | exact hn _ _ hq | exact hx _ _ _ hq | exact hr _ _ hq | exact hq.elim
      exact wpIn_cond_split hv (fun ht => fin _ _ hc1 (h1 ht)) (fun hf => fin _ _ hc2 (h2 hf))
    · cases ht
  case region id ops d => cases d <;> simp [trCode] at ht
  all_goals first | cases ht | (split at ht <;> cases ht) | (obtain ⟨_, _, h'⟩ := Option.map_eq_some_iff.1 ht; cases h')

theorem trL_range {ops : Array Oper} {l : List AOper} (h : trOps cx ops ops.toList = some l) : TrL cx ops l (List.range ops.size) := by
  have key : ∀ (os : List Oper) (l : List AOper) (s : Nat), (∀ j, os[j]? = ops[s + j]?) → trOps cx ops os = some l → TrL cx ops l (List.range' s os.length) := by
    intro os
    induction os with
    | nil => intro l s _ h; simp only [trOps, Option.some.injEq] at h; subst h; simp [TrL]
    | cons o os ih =>
      intro l s hs h
      simp only [trOps] at h
      split at h
      · rename_i x y hx hy
        simp only [Option.some.injEq] at h; subst h
        simp only [TrL, List.length_cons, List.range'_succ]
        exact ⟨s, _, o, rfl, by simpa using (hs 0).symm, hx, ih y (s + 1) (fun j => by have := hs (j + 1); simpa [Nat.add_assoc, Nat.add_comm 1 j] using this) hy⟩
      · cases h
  have := key ops.toList l 0 (fun j => by simp) h
  rw [List.range_eq_range']
  simpa using this

theorem AGo_reg {l : List AOper} (h : AGo cx m (.ops l :: k) R e H) : AGo cx m (.code (.reg l) :: k) R e H := by
  refine AGo_code fun c Q st0 w0 kc hm hk ht hn hx hr st a w hrel => ?_
  cases c <;> (try simp only [trCode] at ht)
  case region id ops d =>
    cases d <;> simp only [trCode] at ht
    · obtain ⟨l', h1, h2⟩ := Option.map_eq_some_iff.1 ht
      cases h2
      have := h st0 w0 (.ops ops (List.range ops.size) :: kc) hm ⟨_, _, rfl, trL_range h1, hk⟩ st a w hrel
      simp only [GoK] at this
      refine wpIn_region (wpOpsIn_mono (fun ex a' w' hq => ?_) _ _ _ this)
      cases ex <;> simp only at hq <;> first | exact hn _ _ hq | exact hq.elim
    · obtain ⟨_, _, h'⟩ := Option.map_eq_some_iff.1 ht; cases h'
  all_goals first | cases ht | (split at ht <;> cases ht) | (obtain ⟨_, _, h'⟩ := Option.map_eq_some_iff.1 ht; cases h')
end code
end Go.Sas
