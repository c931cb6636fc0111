/-
An abstract machine over values, part 15: a body, run until there is something to be shown; from it to a contract.
Short names for operations of codes, and the shape of a code's entry.
Conditions: none.
-/
import Derived.Test.YtndnjmpebpampaaGreatDoorP3
set_option linter.unusedVariables false
set_option linter.unusedSimpArgs false
namespace Go.Sas
variable {cx : Cx} {m : Nat} {k : List AItm} {R : Env → AHeap → Prop} {e : Env} {H H' : AHeap} {D : Option DM} {L : List DItm} {it : DItm}

/-- both ways, where it is not known which -/
def caseB (b : Bool) (p q : Unit → Prop) : Prop := match b with
  | true => p ()
  | false => q ()

/-- what was asked is known from now on -/
def learn (e : Env) (x : Od) (b : Bool) : Env := match x with
  | .l t => ⟨(t, .lit (.bool b)) :: e.l, e.g⟩
  | .g t => ⟨e.l, gset e.g t (.lit (.bool b))⟩
  | .c _ => e

theorem learn_eqE {x : Od} {b : Bool} (h : ev e x = .lit (.bool b)) : EqE (learn e x b) e := by
  cases x with
  | l t =>
    refine ⟨fun s => ?_, fun s => rfl⟩
    simp only [learn, look]
    split
    · rename_i he; subst he; exact h.symm
    · rfl
  | g t =>
    refine ⟨fun s => rfl, fun s => ?_⟩
    simp only [learn, look_gset]
    split
    · rename_i he; subst he; exact h.symm
    · rfl
  | c a => exact .refl _

/-! Arithmetic, and what is to be shown, that are not looked into -/
structure Ar where
  add : IntKind → Int → Int → Int
  sub : IntKind → Int → Int → Int
  mul : IntKind → Int → Int → Int
  quo : IntKind → Int → Int → Int
  rem : IntKind → Int → Int → Int
  and : IntKind → Int → Int → Int
  or : IntKind → Int → Int → Int
  xor : IntKind → Int → Int → Int
  shl : IntKind → Int → Int → Int
  shr : IntKind → Int → Int → Int
  neg : IntKind → Int → Int
  cv : IntKind → Int → Int
  eq : Int → Int → Bool
  ne : Int → Int → Bool
  lt : Int → Int → Bool
  le : Int → Int → Bool
  max : Int → Int → Int
  min : Int → Int → Int
  len : Nat → Int
  vlen : List AV → Int
  seq : ByteArray → ByteArray → Bool
  beq : Bool → Bool → Bool
  band : Bool → Bool → Bool
  bnot : Bool → Bool
  nz : Int → Prop
  nn : Int → Prop
  sg : Nat → Nat → Prop
  ix : Nat → Nat → List AV → Int → List AV → Prop
  ixm : Nat → Nat → Nat → Nat → Int → Nat → Prop
  off : Nat → Nat → Nat → Prop
  get : Option Nat → List AV → Nat → AV → Prop
  upd : Nat → List AV → Nat → List AV → List AV → Prop
  app : Nat → Nat → Nat → List AV → Nat → Nat → List AV → List AV → Nat → Prop
  mkz : Nat → Nat → List Value → Int → Int → List AV → Nat → Prop
  slv : Nat → Nat → List AV → Option Int → Option Int → List AV → Prop
  slm : Nat → Nat → Nat → Nat → Option Int → Option Int → Nat → Nat → Prop
  sls : ByteArray → Option Int → Option Int → ByteArray → Prop
  sx : ByteArray → Int → Int → Prop
  aix : Nat → Nat → Option Nat → List AV → Int → AV → Prop
  scat : ByteArray → ByteArray → ByteArray → Prop
  keep : Option DM → DItm → AHeap → AHeap → Prop
  fz : Nat → Nat → Nat → List AV → Prop
  apps : Nat → Nat → Nat → List AV → Nat → Nat → ByteArray → List AV → Nat → Prop

/-- an element of a slice -/
def ixS (sz sz' : Nat) (es : List AV) (n : Int) (c : List AV) : Prop := sz = sz' ∧ 0 ≤ n ∧ ∃ x, es[n.toNat]? = some x ∧ x.cells = some c
/-- the place of an element -/
def ixmS (sz sz' off len : Nat) (n : Int) (o : Nat) : Prop := sz = sz' ∧ 0 ≤ n ∧ n < len ∧ o = off + n.toNat * sz
def offS (o k r : Nat) : Prop := r = o + k
def getS (n : Option Nat) (cs : List AV) (o : Nat) (v : AV) : Prop := getN n cs o = some v
def updS (n : Nat) (cs : List AV) (o : Nat) (xs cs' : List AV) : Prop := xs.length = n ∧ o + n ≤ cs.length ∧ cs' = cs.take o ++ xs ++ cs.drop (o + n)
/-- what is put behind -/
def appS (sz sz' by_ : Nat) (cs : List AV) (off len : Nat) (es cs' : List AV) (n : Nat) : Prop := sz = sz' ∧ off + len * sz ≤ cs.length ∧ (len + es.length) * by_ ≤ 140737488355328 ∧ n = len + es.length ∧
  ∃ xs, cellsOfSl [] sz (.vs sz es) = some xs ∧ cs' = (cs.drop off).take (len * sz) ++ xs
def appsS (sz sz' by_ : Nat) (cs : List AV) (off len : Nat) (b : ByteArray) (cs' : List AV) (n : Nat) : Prop := sz = 1 ∧ sz = sz' ∧ off + len * sz ≤ cs.length ∧ (len + b.size) * by_ ≤ 140737488355328 ∧ n = len + b.size ∧ cs' = (cs.drop off).take (len * sz) ++ strC b
def mkS (sz by_ : Nat) (z : List Value) (ln cp : Int) (cs : List AV) (n : Nat) : Prop := 0 ≤ ln ∧ ln ≤ cp ∧ cp ≤ 9223372036854775807 ∧ by_ * cp ≤ 281474976710656 ∧ z.length = sz ∧ n = ln.toNat ∧ cs = List.flatten (List.replicate ln.toNat (z.map .lit))
/-- a bound of a slice expression -/
def bdI (d : Nat) : Option Int → Option Nat
  | none => some d
  | some n => if 0 ≤ n then some n.toNat else none
def slvS (sz sz' : Nat) (es : List AV) (lo hi : Option Int) (r : List AV) : Prop := sz = sz' ∧ ∃ l h, bdI 0 lo = some l ∧ bdI es.length hi = some h ∧ l ≤ h ∧ h ≤ es.length ∧ r = (es.drop l).take (h - l)
def slmS (sz sz' off len : Nat) (lo hi : Option Int) (o n : Nat) : Prop := sz = sz' ∧ ∃ l h, bdI 0 lo = some l ∧ bdI len hi = some h ∧ l ≤ h ∧ h ≤ len ∧ o = off + l * sz ∧ n = h - l
def slsS (s : ByteArray) (lo hi : Option Int) (r : ByteArray) : Prop := ∃ l h, bdI 0 lo = some l ∧ bdI s.size hi = some h ∧ l ≤ h ∧ h ≤ s.size ∧ r = s.extract l h
def sxS (s : ByteArray) (n : Int) (b : Int) : Prop := 0 ≤ n ∧ ∃ x : UInt8, s[n.toNat]? = some x ∧ b = x.toNat
def aixS (len sz : Nat) (n : Option Nat) (cs : List AV) (m : Int) (v : AV) : Prop := 0 ≤ m ∧ m < len ∧ getN n cs (m.toNat * sz) = some v
def scatS (a b r : ByteArray) : Prop := a.size + b.size ≤ 9223372036854775807 ∧ r = a ++ b
/-- elements that are copied and never written -/
def fzS (sz sz' by_ : Nat) (xs : List AV) : Prop := sz = sz' ∧ xs.length * by_ ≤ 140737488355328 ∧ elemsOk sz xs = true
def nzS (n : Int) : Prop := n ≠ 0
def nnS (n : Int) : Prop := 0 ≤ n
def sgS (g g' : Nat) : Prop := g = g'

/-- as it is -/
def std : Ar := ⟨iAdd, iSub, iMul, iQuo, iRem, iAnd, iOr, iXor, iShl, iShr, iNeg, iCv, iEq, iNe, iLt, iLe, iMax, iMin, iLen, fun l => iLen l.length, sEq, fun a b => a == b, and, not,
  nzS, nnS, sgS, ixS, ixmS, offS, getS, updS, appS, mkS, slvS, slmS, slsS, sxS, aixS, scatS, Keep, fzS, appsS⟩

def zeroB : Int → Bool
  | .ofNat 0 => true
  | _ => false
def negB : Int → Bool
  | .negSucc _ => true
  | _ => false
theorem zeroB_iff {n : Int} : zeroB n = true ↔ n = 0 := by
  unfold zeroB
  split
  · simp
  · rename_i h
    simp only [Bool.false_eq_true, false_iff]
    intro he; subst he; exact h rfl
theorem negB_iff {n : Int} : negB n = true ↔ n < 0 := by
  cases n with
  | ofNat n => simp [negB]
  | negSucc n => simp [negB]

abbrev PT := (AV → AHeap → Prop) → Prop

/-- a number that is a divisor, or by how much is shifted: written out, or not -/
def divG (A : Ar) (y : Od) (b : Int) (p : Prop) (T : Unit → Prop) : Prop := match y with
  | .c _ => (match zeroB b with | true => T () | false => p)
  | _ => A.nz b ∧ p
def shG (A : Ar) (y : Od) (b : Int) (p : Prop) (T : Unit → Prop) : Prop := match y with
  | .c _ => (match negB b with | true => T () | false => p)
  | _ => A.nn b ∧ p

def binP (A : Ar) (op : BinOp) (y : Od) (u v : AV) (K : AV → Prop) (T : Unit → Prop) : Prop := match u, v with
  | .lit (.int k a), .lit (.int k' b) => (match op with
    | .shl => shG A y b (K (.lit (.int k (A.shl k a b)))) T
    | .shr => shG A y b (K (.lit (.int k (A.shr k a b)))) T
    | .andNot => T ()
    | op => if k = k' then (match op with
      | .add => K (.lit (.int k (A.add k a b)))
      | .sub => K (.lit (.int k (A.sub k a b)))
      | .mul => K (.lit (.int k (A.mul k a b)))
      | .quo => divG A y b (K (.lit (.int k (A.quo k a b)))) T
      | .rem => divG A y b (K (.lit (.int k (A.rem k a b)))) T
      | .and => K (.lit (.int k (A.and k a b)))
      | .or => K (.lit (.int k (A.or k a b)))
      | .xor => K (.lit (.int k (A.xor k a b)))
      | .eql => K (.lit (.bool (A.eq a b)))
      | .neq => K (.lit (.bool (A.ne a b)))
      | .lss => K (.lit (.bool (A.lt a b)))
      | .leq => K (.lit (.bool (A.le a b)))
      | .gtr => K (.lit (.bool (A.lt b a)))
      | .geq => K (.lit (.bool (A.le b a)))
      | _ => T ()) else T ())
  | .lit (.string a), .lit (.string b) => (match op with
    | .eql => K (.lit (.bool (A.seq a b)))
    | .neq => K (.lit (.bool (A.bnot (A.seq a b))))
    | .add => ∃ r, A.scat a b r ∧ K (.lit (.string r))
    | _ => T ())
  | _, _ => T ()

theorem divG_sound {y : Od} {b : Int} {p : Prop} {T : Prop} (h : divG std y b p (fun _ => T)) : T ∨ (b ≠ 0 ∧ p) := by
  unfold divG at h
  split at h
  · split at h
    · exact .inl h
    · rename_i hz; exact .inr ⟨fun hb => (by rw [zeroB_iff.2 hb] at hz; cases hz), h⟩
  · exact .inr h
theorem shG_sound {y : Od} {b : Int} {p : Prop} {T : Prop} (h : shG std y b p (fun _ => T)) : T ∨ (¬ b < 0 ∧ p) := by
  unfold shG at h
  split at h
  · split at h
    · exact .inl h
    · rename_i hz; exact .inr ⟨fun hb => (by rw [negB_iff.2 hb] at hz; cases hz), h⟩
  · exact .inr ⟨by have := h.1; simp only [std, nnS] at this; omega, h.2⟩

theorem binP_sound {op : BinOp} {y : Od} {u v : AV} {K : AV → Prop} {T : Prop} (h : binP std op y u v K (fun _ => T)) : T ∨ ∃ r, binA op u v = some r ∧ K r := by
  unfold binP at h
  split at h
  · rename_i k a k' b
    split at h
    · rcases shG_sound h with h | ⟨h1, h2⟩
      · exact .inl h
      · exact .inr ⟨_, by simp only [binA]; rw [if_neg h1]; rfl, h2⟩
    · rcases shG_sound h with h | ⟨h1, h2⟩
      · exact .inl h
      · exact .inr ⟨_, by simp only [binA]; rw [if_neg h1]; rfl, h2⟩
    · exact .inl h
    · rename_i n1 n2 n3
      split at h
      · rename_i hk
        cases op <;> simp only at h <;>
          first
            | (exact .inr ⟨_, by simp only [binA]; rw [if_pos hk]; rfl, h⟩)
            | (rcases divG_sound h with h | ⟨h1, h2⟩
               · exact .inl h
               · exact .inr ⟨_, by simp only [binA]; rw [if_pos hk, if_neg h1]; rfl, h2⟩)
            | exact .inl h
      · exact .inl h
  · split at h
    · exact .inr ⟨_, rfl, h⟩
    · exact .inr ⟨_, rfl, h⟩
    · obtain ⟨r, ⟨h1, rfl⟩, h2⟩ := h
      exact .inr ⟨_, by simp only [binA]; rw [if_pos h1]; rfl, h2⟩
    · exact .inl h
  · exact .inl h

def lenG (A : Ar) (H : AHeap) : AV → Option AV
  | .vs _ es => some (.lit (.int .i64 (A.vlen es)))
  | .ms _ id g _ len => if live H id g then some (.lit (.int .i64 (A.len len))) else none
  | .es => some (.lit (.int .i64 0))
  | .lit (.slice none 0 0) => some (.lit (.int .i64 0))
  | _ => none

def eqG (A : Ar) : ESh → AV → AV → Option Bool
  | .i, .lit (.int k a), .lit (.int k' b) => if k = k' then some (A.eq a b) else none
  | .b, .lit (.bool a), .lit (.bool b) => some (A.beq a b)
  | .s, .lit (.string a), .lit (.string b) => some (A.seq a b)
  | .nil, .agg _, .agg _ => some true
  | .fld off n sh rest, .agg xs, .agg ys => match getN n xs off, getN n ys off with
    | some a, some b => match eqG A sh a b, eqG A rest (.agg xs) (.agg ys) with
      | some p, some q => some (A.band p q)
      | _, _ => none
    | _, _ => none
  | _, _, _ => none
theorem eqG_std : ∀ (sh : ESh) (x y : AV), eqG std sh x y = eqE sh x y
  | .i, x, y => by
    cases x with
    | lit u => cases u <;> first | rfl | (cases y with | lit v => cases v <;> rfl | _ => rfl)
    | _ => rfl
  | .b, x, y => by
    cases x with
    | lit u => cases u <;> first | rfl | (cases y with | lit v => cases v <;> rfl | _ => rfl)
    | _ => rfl
  | .s, x, y => by
    cases x with
    | lit u => cases u <;> first | rfl | (cases y with | lit v => cases v <;> rfl | _ => rfl)
    | _ => rfl
  | .nil, x, y => by cases x <;> cases y <;> rfl
  | .fld off n sh rest, x, y => by
    cases x <;> cases y <;> (try (simp only [eqG, eqE]; done))
    rename_i xs ys
    simp only [eqG, eqE]
    cases getN n xs off <;> cases getN n ys off <;> try rfl
    simp only [eqG_std sh, eqG_std rest]
    rfl

def opValG (A : Ar) (e : Od → AV) (H : AHeap) : AOp → Option AV
  | .un op x => match op, e x with
    | .not, .lit (.bool b) => some (.lit (.bool (A.bnot b)))
    | .neg, .lit (.int k n) => some (.lit (.int k (A.neg k n)))
    | _, _ => none
  | .cv k x => match e x with
    | .lit (.int _ n) => some (.lit (.int k (A.cv k n)))
    | _ => none
  | .len x => lenG A H (e x)
  | .lens x => match e x with
    | .lit (.string s) => some (.lit (.int .i64 (A.len s.size)))
    | _ => none
  | .mx xs => match xs.map e with
    | a :: r => foldA A.max a r
    | [] => none
  | .mn xs => match xs.map e with
    | a :: r => foldA A.min a r
    | [] => none
  | .binb neg x y => match e x, e y with
    | .lit (.bool a), .lit (.bool b) => some (.lit (.bool (if neg then A.bnot (A.beq a b) else A.beq a b)))
    | _, _ => none
  | .eqs neg sh x y => (eqG A sh (e x) (e y)).map fun r => .lit (.bool (if neg then A.bnot r else r))
  | op => opVal e H op

theorem opValG_sound {e : Od → AV} {H : AHeap} {op : AOp} {r : AV} (h : opValG std e H op = some r) : opVal e H op = some r := by
  cases op <;> simp only [opValG] at h <;> try exact h
  case eqs neg sh x y => rw [eqG_std] at h; exact h

def opRunG (A : Ar) (e : Od → AV) (H : AHeap) (o : AOp) : Option (AV × AHeap) := match opValG A e H o with
  | some r => some (r, H)
  | none => opAct e H o

theorem opRunG_sound {e : Od → AV} {H H' : AHeap} {op : AOp} {r : AV} (h : opRunG std e H op = some (r, H')) : opRun e H op = some (r, H') := by
  unfold opRunG at h
  split at h
  · rename_i r' hr
    rw [opRun, opValG_sound hr]; exact h
  · rename_i hn
    cases op
    case un => simp [opAct] at h
    case cv => simp [opAct] at h
    case len => simp [opAct] at h
    case lens => simp [opAct] at h
    case mx => simp [opAct] at h
    case mn => simp [opAct] at h
    case binb => simp [opAct] at h
    case eqs => simp [opAct] at h
    all_goals (simp only [opValG] at hn; rw [opRun, hn]; exact h)

/-- objects that are not looked into -/
def isSy : List Nat → Nat → Bool
  | [], _ => false
  | x :: r, i => match Nat.beq x i with | true => true | false => isSy r i

def bdG : Option AV → Option (Option Int)
  | none => some none
  | some (.lit (.int _ n)) => some (some n)
  | some _ => none

def detP (A : Ar) (e : Od → AV) (H : AHeap) (op : AOp) (K : AV → AHeap → Prop) (T : Unit → Prop) : Prop := match opRunG A e H op with
  | some (r, H') => K r H'
  | none => T ()

/-- an object that is not looked into, and how it stands -/
def symP (A : Ar) (H : AHeap) (id g : Nat) (p : List AV → Prop) (T : Unit → Prop) : Prop := match H[id]? with
  | some (.own g' cs) => A.sg g g' ∧ p cs
  | _ => T ()

/-- What an operation does, by what is to be shown behind it. -/
def opPT (A : Ar) (sy : List Nat) (e : Od → AV) (H : AHeap) (op : AOp) (K : AV → AHeap → Prop) (T : Unit → Prop) : Prop := match op with
  | .bin op x y => binP A op y (e x) (e y) (fun r => K r H) T
  | .ia sz x i => (match e x, e i with
    | .vs sz' es, .lit (.int _ n) => ∃ c, A.ix sz sz' es n c ∧ K (.vp c) H
    | .ms sz' id g off len, .lit (.int q n) => (match isSy sy id with
      | true => symP A H id g (fun _ => ∃ o, A.ixm sz sz' off len n o ∧ K (.mp id g o) H) T
      | false => detP A e H op K T)
    | _, _ => T ())
  | .iaa len sz x i => (match e x, e i with
    | .mp id g off, .lit (.int q n) => (match isSy sy id with
      | true => symP A H id g (fun _ => ∃ o, A.ixm sz sz off len n o ∧ K (.mp id g o) H) T
      | false => detP A e H op K T)
    | .vp _, .lit (.int _ _) => detP A e H op K T
    | _, _ => T ())
  | .fa x off => (match e x with
    | .mp id g o => (match isSy sy id with
      | true => symP A H id g (fun _ => ∃ o', A.off o off o' ∧ K (.mp id g o') H) T
      | false => detP A e H op K T)
    | _ => detP A e H op K T)
  | .nilc x => (match e x with
    | .mp id g o => (match isSy sy id with
      | true => symP A H id g (fun _ => K (.mp id g o) H) T
      | false => detP A e H op K T)
    | _ => detP A e H op K T)
  | .len x => (match e x with
    | .ms sz id g off len => (match isSy sy id with
      | true => symP A H id g (fun _ => K (.lit (.int .i64 (A.len len))) H) T
      | false => detP A e H op K T)
    | _ => detP A e H op K T)
  | .ld n a => (match e a with
    | .mp id g o => (match isSy sy id with
      | true => symP A H id g (fun cs => ∃ v, A.get n cs o v ∧ K v H) T
      | false => detP A e H op K T)
    | _ => detP A e H op K T)
  | .st n a v => (match e a with
    | .mp id g o => (match isSy sy id with
      | true => (match (e v).cells with
        | some xs => symP A H id g (fun cs => ∃ cs', A.upd n cs o xs cs' ∧ K (.lit undef) (H.set id (.own g cs'))) T
        | none => T ())
      | false => detP A e H op K T)
    | _ => detP A e H op K T)
  | .app sz by_ s x => (match e s with
    | .ms sz' id g off len => (match isSy sy id with
      | true => (match e x with
        | .vs sx es => symP A H id g (fun cs => ∃ cs' n, A.app sz sz' by_ cs off len es cs' n ∧ sz = sx ∧ K (.ms sz id (g + 1) 0 n) (H.set id (.own (g + 1) cs'))) T
        | .lit (.string b) => symP A H id g (fun cs => ∃ cs' n, A.apps sz sz' by_ cs off len b cs' n ∧ K (.ms sz id (g + 1) 0 n) (H.set id (.own (g + 1) cs'))) T
        | _ => T ())
      | false => detP A e H op K T)
    | .es => (match isSy sy H.length with
      | true => (match e x with
        | .vs sx es => ∃ cs' n, A.app sz sz by_ [] 0 0 es cs' n ∧ sz = sx ∧ K (.ms sz H.length 0 0 n) (H ++ [.own 0 cs'])
        | .lit (.string b) => ∃ cs' n, A.apps sz sz by_ [] 0 0 b cs' n ∧ K (.ms sz H.length 0 0 n) (H ++ [.own 0 cs'])
        | _ => T ())
      | false => detP A e H op K T)
    | .lit (.slice none 0 0) => (match isSy sy H.length with
      | true => (match e x with
        | .vs sx es => ∃ cs' n, A.app sz sz by_ [] 0 0 es cs' n ∧ sz = sx ∧ K (.ms sz H.length 0 0 n) (H ++ [.own 0 cs'])
        | .lit (.string b) => ∃ cs' n, A.apps sz sz by_ [] 0 0 b cs' n ∧ K (.ms sz H.length 0 0 n) (H ++ [.own 0 cs'])
        | _ => T ())
      | false => detP A e H op K T)
    | _ => T ())
  | .mksl sz by_ z l c => (match e l, e c with
    | .lit (.int .i64 ln), .lit (.int .i64 cp) => (match isSy sy H.length with
      | true => ∃ cs n, A.mkz sz by_ z ln cp cs n ∧ K (.ms sz H.length 0 0 n) (H ++ [.own 0 cs])
      | false => detP A e H op K T)
    | _, _ => T ())
  | .sl sz x lo hi mx => (match mx with
    | some _ => T ()
    | none => (match bdG (lo.map e), bdG (hi.map e) with
      | some l, some h => (match e x with
        | .vs sz' es => ∃ r, A.slv sz sz' es l h r ∧ K (.vs sz r) H
        | .ms sz' id g off len => (match isSy sy id with
          | true => symP A H id g (fun _ => ∃ o n, A.slm sz sz' off len l h o n ∧ K (.ms sz id g o n) H) T
          | false => detP A e H op K T)
        | _ => detP A e H op K T)
      | _, _ => T ()))
  | .ssl x lo hi => (match bdG (lo.map e), bdG (hi.map e), e x with
    | some l, some h, .lit (.string s) => ∃ r, A.sls s l h r ∧ K (.lit (.string r)) H
    | _, _, _ => T ())
  | .sx x i => (match e x, e i with
    | .lit (.string s), .lit (.int _ n) => ∃ b, A.sx s n b ∧ K (.lit (.int .u8 b)) H
    | _, _ => T ())
  | .ix len sz n x i => (match e x, e i with
    | .agg cs, .lit (.int _ m) => ∃ v, A.aix len sz n cs m v ∧ K v H
    | _, _ => T ())
  | .cpy _ _ _ => T ()
  | .eqn _ _ => T ()
  | .call _ _ => T ()
  | op => detP A e H op K T

theorem live_own {id g : Nat} {cs : List AV} (h : H[id]? = some (.own g cs)) : live H id g = true := by simp [live, h]

theorem detP_sound {o : Od → AV} {op : AOp} {K : AV → AHeap → Prop} {T : Prop} (h : detP std o H op K (fun _ => T)) : T ∨ ∃ r H', opRun o H op = some (r, H') ∧ K r H' := by
  unfold detP at h
  split at h
  · rename_i r H' hr; exact .inr ⟨r, H', opRunG_sound hr, h⟩
  · exact .inl h

theorem symP_sound {id g : Nat} {p : List AV → Prop} {T : Prop} (h : symP std H id g p (fun _ => T)) : T ∨ ∃ cs, H[id]? = some (.own g cs) ∧ p cs := by
  unfold symP at h
  split at h
  · rename_i g' cs hX
    obtain ⟨h1, h2⟩ := h
    have h1 : g = g' := h1
    subst h1
    exact .inr ⟨cs, hX, h2⟩
  · exact .inl h

theorem bdG_spec {d : Nat} {x : Option AV} {n : Option Int} (h : bdG x = some n) : bdA d x = bdI d n := by
  unfold bdG at h
  split at h <;> simp only [Option.some.injEq, reduceCtorEq] at h <;> subst h <;> rfl

theorem runV {o : Od → AV} {op : AOp} {r : AV} (h : opVal o H op = some r) : opRun o H op = some (r, H) := by simp [opRun, h]
theorem runA' {o : Od → AV} {op : AOp} {r : AV} (hn : opVal o H op = none) (h : opAct o H op = some (r, H')) : opRun o H op = some (r, H') := by simp [opRun, h, hn]

theorem cellsOfSl_vs {sz : Nat} {es : List AV} : cellsOfSl H sz (.vs sz es) = cellsOfSl [] sz (.vs sz es) := rfl

theorem opPT_sound {sy : List Nat} {o : Od → AV} {op : AOp} {K : AV → AHeap → Prop} {T : Prop} (h : opPT std sy o H op K (fun _ => T)) : T ∨ ∃ r H', opRun o H op = some (r, H') ∧ K r H' := by
  cases op
  case bin op x y =>
    simp only [opPT] at h
    rcases binP_sound h with h | ⟨r, h1, h2⟩
    · exact .inl h
    · exact .inr ⟨r, H, runV h1, h2⟩
  case ia sz x i =>
    simp only [opPT] at h
    split at h
    · rename_i sz' es q n hx hi
      obtain ⟨c, ⟨rfl, h1, y, h2, h3⟩, h4⟩ := h
      exact .inr ⟨_, H, runV (by simp only [opVal, hx, hi, iaA]; rw [if_pos ⟨trivial, h1⟩, h2]; simp only [h3]), h4⟩
    · rename_i sz' id g off len q n hx hi
      split at h
      · rcases symP_sound h with h | ⟨cs, hX, y, ⟨rfl, h1, h2, rfl⟩, h3⟩
        · exact .inl h
        · exact .inr ⟨_, H, runV (by simp only [opVal, hx, hi, iaA]; rw [if_pos ⟨trivial, h1, h2, live_own hX⟩]), h3⟩
      · exact detP_sound h
    · exact .inl h
  case iaa len sz x i =>
    simp only [opPT] at h
    split at h
    · rename_i id g off q n hx hi
      split at h
      · rcases symP_sound h with h | ⟨cs, hX, y, ⟨_, h1, h2, rfl⟩, h3⟩
        · exact .inl h
        · exact .inr ⟨_, H, runV (by simp only [opVal, hx, hi, iaaA]; rw [if_pos ⟨h1, h2, live_own hX⟩]), h3⟩
      · exact detP_sound h
    · exact detP_sound h
    · exact .inl h
  case fa x off =>
    simp only [opPT] at h
    split at h
    · rename_i id g p hx
      split at h
      · rcases symP_sound h with h | ⟨cs, hX, y, h1, h3⟩
        · exact .inl h
        · have h1 : y = p + off := h1
          subst h1
          exact .inr ⟨_, H, runV (by simp only [opVal, hx, faA]; rw [if_pos (live_own hX)]), h3⟩
      · exact detP_sound h
    · exact detP_sound h
  case nilc x =>
    simp only [opPT] at h
    split at h
    · rename_i id g p hx
      split at h
      · rcases symP_sound h with h | ⟨cs, hX, h3⟩
        · exact .inl h
        · exact .inr ⟨_, H, runV (by simp only [opVal, hx, nilcA]; rw [if_pos (live_own hX)]), h3⟩
      · exact detP_sound h
    · exact detP_sound h
  case len x =>
    simp only [opPT] at h
    split at h
    · rename_i sz id g off len hx
      split at h
      · rcases symP_sound h with h | ⟨cs, hX, h3⟩
        · exact .inl h
        · exact .inr ⟨_, H, runV (by simp only [opVal, hx, lenA]; rw [if_pos (live_own hX)]; rfl), h3⟩
      · exact detP_sound h
    · exact detP_sound h
  case ld n a =>
    simp only [opPT] at h
    split at h
    · rename_i id g p hx
      split at h
      · rcases symP_sound h with h | ⟨cs, hX, v, h1, h3⟩
        · exact .inl h
        · exact .inr ⟨_, H, runV (by simp only [opVal, hx, ldA, hX]; rw [if_pos trivial]; exact h1), h3⟩
      · exact detP_sound h
    · exact detP_sound h
  case st n a v =>
    simp only [opPT] at h
    split at h
    · rename_i id g p hx
      split at h
      · split at h
        · rename_i xs hxs
          rcases symP_sound h with h | ⟨cs, hX, cs', ⟨h1, h2, rfl⟩, h3⟩
          · exact .inl h
          · exact .inr ⟨_, _, runA' rfl (by simp only [opAct, hx, hxs, hX]; rw [if_pos ⟨trivial, h1, h2⟩]), h3⟩
        · exact .inl h
      · exact detP_sound h
    · exact detP_sound h
  case app sz by_ s x =>
    simp only [opPT] at h
    split at h
    · rename_i sz' id g off len hs
      split at h
      · split at h
        · rename_i sx es hx
          rcases symP_sound h with h | ⟨cs, hX, cs', n, ⟨rfl, h1, h2, rfl, xs, h4, rfl⟩, rfl, h3⟩
          · exact .inl h
          · refine .inr ⟨_, _, runA' rfl ?_, h3⟩
            simp only [opAct, hx, hs, lenOfSl, cellsOfSl_vs, h4, hX]
            rw [if_pos ⟨trivial, trivial, h1, h2⟩]
        · rename_i b hx
          rcases symP_sound h with h | ⟨cs, hX, cs', n, ⟨rfl, rfl, h1, h2, rfl, rfl⟩, h3⟩
          · exact .inl h
          · refine .inr ⟨_, _, runA' rfl ?_, h3⟩
            simp only [opAct, hx, hs, lenOfSl, cellsOfSl, if_true, hX]
            rw [if_pos ⟨trivial, trivial, h1, h2⟩]
        · exact .inl h
      · exact detP_sound h
    · rename_i hs
      split at h
      · split at h
        · rename_i sx es hx
          obtain ⟨cs', n, ⟨_, _, h2, rfl, xs, h4, rfl⟩, rfl, h3⟩ := h
          refine .inr ⟨_, _, runA' rfl ?_, by simpa using h3⟩
          simp only [opAct, hx, hs, lenOfSl, cellsOfSl_vs, h4]
          rw [if_pos (by simpa using h2)]
        · rename_i b hx
          obtain ⟨cs', n, ⟨rfl, _, _, h2, rfl, rfl⟩, h3⟩ := h
          refine .inr ⟨_, _, runA' rfl ?_, by simpa using h3⟩
          simp only [opAct, hx, hs, lenOfSl, cellsOfSl, if_true]
          rw [if_pos (by simpa using h2)]
        · exact .inl h
      · exact detP_sound h
    · rename_i hs
      split at h
      · split at h
        · rename_i sx es hx
          obtain ⟨cs', n, ⟨_, _, h2, rfl, xs, h4, rfl⟩, rfl, h3⟩ := h
          refine .inr ⟨_, _, runA' rfl ?_, by simpa using h3⟩
          simp only [opAct, hx, hs, lenOfSl, cellsOfSl_vs, h4]
          rw [if_pos (by simpa using h2)]
        · rename_i b hx
          obtain ⟨cs', n, ⟨rfl, _, _, h2, rfl, rfl⟩, h3⟩ := h
          refine .inr ⟨_, _, runA' rfl ?_, by simpa using h3⟩
          simp only [opAct, hx, hs, lenOfSl, cellsOfSl, if_true]
          rw [if_pos (by simpa using h2)]
        · exact .inl h
      · exact detP_sound h
    · exact .inl h
  case mksl sz by_ z l c =>
    simp only [opPT] at h
    split at h
    · rename_i ln cp hl hc
      split at h
      · obtain ⟨cs, n, ⟨h1, h2, h3, h4, h5, rfl, rfl⟩, h6⟩ := h
        refine .inr ⟨_, _, runA' rfl ?_, h6⟩
        simp only [opAct, hl, hc]
        rw [if_pos ⟨h1, h2, h3, h4, h5⟩]
      · exact detP_sound h
    · exact .inl h
  case sl sz x lo hi mx =>
    simp only [opPT] at h
    cases mx with
    | some m => exact .inl h
    | none =>
      simp only at h
      split at h
      · rename_i l h' hl hh
        split at h
        · rename_i sz' es hx
          obtain ⟨r, ⟨rfl, a, b, h1, h2, h3, h4, rfl⟩, h5⟩ := h
          refine .inr ⟨_, H, runV ?_, h5⟩
          simp only [opVal, hx, slA, bdG_spec hl, bdG_spec hh, h1, h2, Option.map_none]
          rw [if_pos ⟨trivial, h3, h4⟩]
        · rename_i sz' id g off len hx
          split at h
          · rcases symP_sound h with h | ⟨cs, hX, p, n, ⟨rfl, a, b, h1, h2, h3, h4, rfl, rfl⟩, h5⟩
            · exact .inl h
            · refine .inr ⟨_, H, runV ?_, h5⟩
              simp only [opVal, hx, slA, bdG_spec hl, bdG_spec hh, h1, h2, Option.map_none]
              rw [if_pos ⟨trivial, h3, h4, live_own hX⟩]
          · exact detP_sound h
        · exact detP_sound h
      · exact .inl h
  case ssl x lo hi =>
    simp only [opPT] at h
    split at h
    · rename_i l h' s hl hh hx
      obtain ⟨r, ⟨a, b, h1, h2, h3, h4, rfl⟩, h5⟩ := h
      refine .inr ⟨_, H, runV ?_, h5⟩
      simp only [opVal, hx, sslA, bdG_spec hl, bdG_spec hh, h1, h2]
      rw [if_pos ⟨h3, h4⟩]
    · exact .inl h
  case sx x i =>
    simp only [opPT] at h
    split at h
    · rename_i s q n hx hi
      obtain ⟨b, ⟨h1, y, h2, rfl⟩, h3⟩ := h
      exact .inr ⟨_, H, runV (by simp only [opVal, hx, hi]; rw [if_pos h1, h2]), h3⟩
    · exact .inl h
  case ix len sz n x i =>
    simp only [opPT] at h
    split at h
    · rename_i cs q m hx hi
      obtain ⟨v, ⟨h1, h2, h3⟩, h4⟩ := h
      exact .inr ⟨_, H, runV (by simp only [opVal, hx, hi]; rw [if_pos ⟨h1, h2⟩]; exact h3), h4⟩
    · exact .inl h
  case cpy => exact .inl h
  case eqn => exact .inl h
  case call => exact .inl h
  all_goals exact detP_sound h

/-! ### Calls that pass by themselves -/
/-- functions that leave all objects as they are -/
abbrev PTab := List (Nat × (List AV → Option ((AV → Prop) → Prop)))
/-- functions that write -/
abbrev ETab := List (Nat × (List AV → AHeap → Option PT))
def pLook : PTab → Nat → List AV → Option ((AV → Prop) → Prop)
  | [], _, _ => none
  | (g, p) :: r, f, args => match Nat.beq g f with | true => p args | false => pLook r f args
def eLook : ETab → Nat → List AV → AHeap → Option PT
  | [], _, _, _ => none
  | (g, p) :: r, f, args, H => match Nat.beq g f with | true => p args H | false => eLook r f args H

def PTabOk (P : Program) (ca : PTab) : Prop := ∀ f args pt, pLook ca f args = some pt → ∀ (H : AHeap) (Kk : AV → AHeap → Prop), pt (fun r => Kk r H) → ACalls P f args H Kk
def ETabOk (P : Program) (cb : ETab) : Prop := ∀ f args H pt, eLook cb f args H = some pt → ∀ (Kk : AV → AHeap → Prop), pt Kk → ACalls P f args H Kk

theorem PTabOk.nil {P : Program} : PTabOk P [] := fun f args r h => by simp [pLook] at h
theorem ETabOk.nil {P : Program} : ETabOk P [] := fun f args H r h => by simp [eLook] at h
theorem PTabOk.cons {P : Program} {ca : PTab} {f : Nat} {p : List AV → Option ((AV → Prop) → Prop)} (hf : ∀ args pt, p args = some pt → ∀ (H : AHeap) (Kk : AV → AHeap → Prop), pt (fun r => Kk r H) → ACalls P f args H Kk) (h : PTabOk P ca) : PTabOk P ((f, p) :: ca) := by
  intro g args r hr
  simp only [pLook] at hr
  split at hr
  · rename_i hg; have := Nat.eq_of_beq_eq_true hg; subst this; exact hf args r hr
  · exact h g args r hr
theorem ETabOk.cons {P : Program} {cb : ETab} {f : Nat} {p : List AV → AHeap → Option PT} (hf : ∀ args H pt, p args H = some pt → ∀ (Kk : AV → AHeap → Prop), pt Kk → ACalls P f args H Kk) (h : ETabOk P cb) : ETabOk P ((f, p) :: cb) := by
  intro g args H r hr
  simp only [eLook] at hr
  split at hr
  · rename_i hg; have := Nat.eq_of_beq_eq_true hg; subst this; exact hf args H r hr
  · exact h g args H r hr

def callF (e : Env) : AOp → Option (Nat × List AV)
  | .call f xs => match ev e f with
    | .fn fid caps => some (fnI fid, fnA fid caps (xs.map (ev e)))
    | _ => none
  | _ => none

/-- a copy that nobody writes: sizes, elements -/
def frzA (sy : List Nat) (e : Od → AV) (H : AHeap) : AOp → Option (Nat × Nat × Nat × List AV)
  | .app sz by_ s x => match isSy sy H.length with
    | true => none
    | false => match e s, e x with
      | .es, .vs sz' xs => some (sz, sz', by_, xs)
      | .lit (.slice none 0 0), .vs sz' xs => some (sz, sz', by_, xs)
      | _, _ => none
  | _ => none

theorem cells_ex {sz : Nat} : ∀ {xs : List AV}, elemsLen sz xs = true → ∃ cs, cellsOfSl H sz (.vs sz xs) = some cs ∧ cs.length = xs.length * sz
  | [], _ => ⟨[], by simp [cellsOfSl]⟩
  | x :: xs, h => by
    simp only [elemsLen, List.all_cons, Bool.and_eq_true] at h
    obtain ⟨cs, h1, h2⟩ := cells_ex (xs := xs) (by simpa [elemsLen] using h.2)
    simp only [cellsOfSl, if_true] at h1
    split at h
    · rename_i c hc
      simp only [beq_iff_eq] at h
      refine ⟨c ++ cs, by simp only [cellsOfSl, if_true, List.foldr_cons, hc]; rw [h1], ?_⟩
      simp [h.1, h2, Nat.add_mul]; omega
    · simp at h

theorem AGo_frzapp {d : Option (Bool × Nat)} {op : AOp} {g : Option (Od × Bool)} {rest : List AOper} {sy : List Nat} {sz sz' by_ : Nat} {xs : List AV} (hg : gOk e g = some true) (hop : frzA sy (ev e) H op = some (sz, sz', by_, xs)) (hb : fzS sz sz' by_ xs)
    (h : AGo cx m (.ops rest :: k) R (put e d (.vs sz xs)) (H ++ [.gone])) : AGo cx m (.ops (⟨d, op, g⟩ :: rest) :: k) R e H := by
  obtain ⟨rfl, hb1, hb2⟩ := hb
  simp only [elemsOk, Bool.and_eq_true] at hb2
  obtain ⟨cs, hcs, hcl⟩ := cells_ex (H := H) hb2.2
  have hact : opAct (ev e) H op = some (.ms sz H.length 0 0 xs.length, H ++ [.own 0 cs]) := by
    unfold frzA at hop
    split at hop
    · split at hop
      · cases hop
      · split at hop
        · rename_i hs hx
          cases hop
          simp only [opAct, hs, hx, lenOfSl, hcs]
          rw [if_pos hb1]
        · rename_i hs hx
          cases hop
          simp only [opAct, hs, hx, lenOfSl, hcs]
          rw [if_pos hb1]
        · cases hop
    · cases hop
  refine AGo_op hg fun ops o' st0 w0 kc l hm hk hl hp hd st a w hrel K' Q hK => ?_
  obtain ⟨mu, hp⟩ := hp
  obtain ⟨v, w', st', hrun, hext, hH', hr⟩ := opAct_sound hp hrel.ops hrel.hH hact
  obtain ⟨st2, g1, g2, g3⟩ := freeze_st (id := H.length) (g := 0) (cs := cs) hH' (by simp)
  have hset : (H ++ [AObj.own 0 cs]).set H.length .gone = H ++ [.gone] := by simp
  rw [hset] at g2
  have hv := g3 sz 0 xs.length xs v (by rw [show cellsOfSl [] sz (.vs sz xs) = cellsOfSl H sz (.vs sz xs) from rfl, hcs, List.drop_zero, List.take_of_length_le (by omega)]) (by omega) rfl (by simp only [elemsOk, Bool.and_eq_true]; exact hb2) hr
  exact upon_step hrel hd ⟨v, w', st2, hrun, hext.trans g1, g2, hv⟩ fun st' w' a' hr' => hK _ _ _ _ _ hr' h

structure Tb where
  sy : List Nat
  us : List Nat
  ca : PTab
  cb : ETab

def SOp0 (A : Ar) (tb : Tb) (T c : List AItm → Env → AHeap → Prop) (d : Option (Bool × Nat)) (op : AOp) (g : Option (Od × Bool)) (rest : List AOper) (k : List AItm) (e : Env) (H : AHeap) (go : Bool) : Prop :=
  match go with
  | false => c (.ops rest :: k) (put e d (.lit undef)) H
  | true => match callF e op with
    | some (f, args) => (match pLook tb.ca f args with
      | some pt => pt (fun r => c (.ops rest :: k) (put e d r) H)
      | none => match eLook tb.cb f args H with
        | some pt => pt (fun r H' => c (.ops rest :: k) (put e d r) H')
        | none => T (.ops (⟨d, op, g⟩ :: rest) :: k) e H)
    | none => match frzA tb.sy (ev e) H op with
      | some (sz, sz', by_, xs) => A.fz sz sz' by_ xs ∧ c (.ops rest :: k) (put e d (.vs sz xs)) (H ++ [.gone])
      | none => opPT A tb.sy (ev e) H op (fun r H' => c (.ops rest :: k) (put e d r) H') (fun _ => T (.ops (⟨d, op, g⟩ :: rest) :: k) e H)

/-- a run stops before an operation that yields a temporary t where 1000000 + t is listed, or that writes through it -/
def stopB (us : List Nat) (d : Option (Bool × Nat)) (op : AOp) : Bool := match us with
  | [] => false
  | us => match d with
    | some (_, t) => us.contains (1000000 + t)
    | none => match op with
      | .st _ a _ => (match odSlot a with
        | some t => us.contains (1000000 + t)
        | none => false)
      | _ => false
def SOp (A : Ar) (tb : Tb) (T c : List AItm → Env → AHeap → Prop) (d : Option (Bool × Nat)) (op : AOp) (g : Option (Od × Bool)) (rest : List AOper) (k : List AItm) (e : Env) (H : AHeap) (go : Bool) : Prop :=
  match stopB tb.us d op with
  | true => T (.ops (⟨d, op, g⟩ :: rest) :: k) e H
  | false => SOp0 A tb T c d op g rest k e H go

def isNewB : AOp → Bool
  | .new _ => true
  | _ => false
/-- there are slices that are made whose places are to be kept: a run stops here (see AGo_drwN) -/
def hasNwl : List DItm → Bool
  | [] => false
  | it :: l => match isNwl it.o.op with | true => true | false => hasNwl l
/-- values of one cell each, written out -/
def litsOf : List AV → Option (List Value)
  | [] => some []
  | .lit u :: r => match u.oneCell', litsOf r with
    | true, some us => some (u :: us)
    | _, _ => none
  | _ => none
theorem litsOf_spec : ∀ {l : List AV} {us : List Value}, litsOf l = some us → l = us.map .lit ∧ ∀ u ∈ us, Scal u
  | [], us, h => by simp only [litsOf, Option.some.injEq] at h; subst h; exact ⟨rfl, by simp⟩
  | a :: r, us, h => by
    cases a <;> simp only [litsOf] at h <;> try (cases h; done)
    rename_i u
    split at h
    · rename_i us' hu hr
      cases h
      obtain ⟨h1, h2⟩ := litsOf_spec hr
      refine ⟨by rw [h1]; rfl, fun v hv => ?_⟩
      rcases List.mem_cons.1 hv with rfl | hv
      · cases v <;> first | trivial | cases hu
      · exact h2 v hv
    · cases h
/-- a slice that is made in a place that was kept -/
def nwlP (A : Ar) (D : DM) (i : Nat) (e : Od → AV) (op : AOp) (p : AV → Prop) (q : Prop) : Prop := match op with
  | .newl sz by_ z l c => (match e l, e c with
    | .lit (.int .i64 ln), .lit (.int .i64 cp) => (match posOf D.news D.base i with
      | some id => A.mkz sz by_ z ln cp D.cs D.nn ∧ p (.ms sz id 0 0 D.nn)
      | none => q)
    | _, _ => q)
  | .newm sz xs => (match Nat.beq sz 1 with
    | true => (match litsOf (xs.map e) with
      | some us => (match posOf D.news D.base i with
        | some id => (D.cs = us.map .lit ∧ D.nn = us.length) ∧ p (.ms 1 id 0 0 D.nn)
        | none => q)
      | none => q)
    | false => q)
  | _ => q

/-- what stays must stay -/
def keepG (A : Ar) (D : Option DM) (it : DItm) (H H' : AHeap) (p : Prop) : Prop := match it.tail with
  | true => p
  | false => match D with
    | none => p
    | some _ => A.keep D it H H' ∧ p

/-- one operation of a region that draws its order -/
def SDg0 (A : Ar) (tb : Tb) (T c : Option DM → List DItm → Env → AHeap → Prop) (D : Option DM) (it : DItm) (l : List DItm) (e : Env) (H : AHeap) (go : Bool) : Prop :=
  match movB it.o.op with
  | true => (match D with
    | none => T D (it :: l) e H
    | some D' => match go with
      | false => c (some D') l (put e it.o.dst (.lit undef)) H
      | true => match isNewB it.o.op with
        | true => (match posOf D'.news D'.base it.i with
          | some id => c (some D') l (put e it.o.dst (.mp id 0 0)) H
          | none => T D (it :: l) e H)
        | false => match isNwl it.o.op with
          | true => nwlP A D' it.i (ev e) it.o.op (fun r => c (some D') l (put e it.o.dst r) H) (T D (it :: l) e H)
          | false => opPT A tb.sy (ev e) (match it.tail with | true => D'.M1 | false => D'.M) it.o.op (fun r _ => c (some D') l (put e it.o.dst r) H) (fun _ => T D (it :: l) e H))
  | false => match go with
    | false => c (nx D it) l (put e it.o.dst (.lit undef)) H
    | true => match callF e it.o.op with
      | some (f, args) => (match pLook tb.ca f args with
        | some pt => pt (fun r => c (nx D it) l (put e it.o.dst r) H)
        | none => match eLook tb.cb f args H with
          | some pt => pt (fun r H' => keepG A D it H H' (c (nx D it) l (put e it.o.dst r) H'))
          | none => T D (it :: l) e H)
      | none => opPT A tb.sy (ev e) H it.o.op (fun r H' => keepG A D it H H' (c (nx D it) l (put e it.o.dst r) H')) (fun _ => T D (it :: l) e H)
def SDg (A : Ar) (tb : Tb) (T c : Option DM → List DItm → Env → AHeap → Prop) (D : Option DM) (it : DItm) (l : List DItm) (e : Env) (H : AHeap) (go : Bool) : Prop :=
  match stopB tb.us it.o.dst it.o.op with
  | true => T D (it :: l) e H
  | false => SDg0 A tb T c D it l e H go

def SD (A : Ar) (tb : Tb) (T : Option DM → List DItm → Env → AHeap → Prop) (fin : Env → AHeap → Prop) : Nat → Option DM → List DItm → Env → AHeap → Prop
  | 0, D, L, e, H => T D L e H
  | n + 1, D, L, e, H => match L with
    | [] => fin ⟨[], e.g⟩ H
    | it :: l => match it.o.grd with
      | some (x, want) => (match ev e x with
        | .lit (.bool b) => caseB b (fun _ => SDg A tb T (SD A tb T fin n) D it l (learn e x true) H want) (fun _ => SDg A tb T (SD A tb T fin n) D it l (learn e x false) H (!want))
        | .lit (.tuple _) => SDg A tb T (SD A tb T fin n) D it l e H false
        | _ => T D (it :: l) e H)
      | none => SDg A tb T (SD A tb T fin n) D it l e H true

/-- The rest of a body, run until there is a loop, or something that is not known; T: what is to be shown there. -/
def SGo (A : Ar) (tb : Tb) (ro : Option Nat) (T : List AItm → Env → AHeap → Prop) (TD : List AItm → Option DM → List DItm → Env → AHeap → Prop) (R : Env → AHeap → Prop) : Nat → List AItm → Env → AHeap → Prop
  | 0, k, e, H => T k e H
  | n + 1, k, e, H => match k with
    | [] => R e H
    | .code (.cond z x y) :: k => (match ev e z with
      | .lit (.bool b) => caseB b (fun _ => SGo A tb ro T TD R n (.code x :: k) (learn e z true) H) (fun _ => SGo A tb ro T TD R n (.code y :: k) (learn e z false) H)
      | _ => T (.code (.cond z x y) :: k) e H)
    | .code .ret :: _ => RetOk ro (R e H)
    | .code (.draw L) :: k => (match hasNwl L with
      | true => T (.code (.draw L) :: k) e H
      | false => SD A tb (TD k) (fun e H => SGo A tb ro T TD R n k e H) 200 (some ⟨mask (lateU tb.us) H, H.length, (newsOf L).map (·.1), mask tb.us H, [], 0, []⟩) L e (H ++ kept L))
    | .ops (⟨d, op, g⟩ :: rest) :: k => (match g with
      | some (x, want) => (match ev e x with
        | .lit (.bool b) => caseB b (fun _ => SOp A tb T (SGo A tb ro T TD R n) d op g rest k (learn e x true) H want) (fun _ => SOp A tb T (SGo A tb ro T TD R n) d op g rest k (learn e x false) H (!want))
        | .lit (.tuple _) => SOp A tb T (SGo A tb ro T TD R n) d op g rest k e H false
        | _ => T (.ops (⟨d, op, g⟩ :: rest) :: k) e H)
      | none => SOp A tb T (SGo A tb ro T TD R n) d op g rest k e H true)
    | .bk I :: _ => I e H
    | k => match stepA k e H with
      | some (k', e', H') => SGo A tb ro T TD R n k' e' H'
      | none => T k e H

theorem caseB_elim {b : Bool} {p q : Unit → Prop} {X : Prop} (h : caseB b p q) (hp : b = true → p () → X) (hq : b = false → q () → X) : X := by
  cases b
  · exact hq rfl h
  · exact hp rfl h

theorem gOk_learn {e : Env} {x : Od} {b want : Bool} (h : ev e x = .lit (.bool b)) : gOk (learn e x b) (some (x, want)) = some (b == want) := by
  simp only [gOk, (learn_eqE h).ev, h]

section
variable {tb : Tb}

theorem callF_spec {op : AOp} {f : Nat} {args : List AV} (h : callF e op = some (f, args)) : ∃ g xs fid caps, op = .call g xs ∧ ev e g = .fn fid caps ∧ f = fnI fid ∧ args = fnA fid caps (xs.map (ev e)) := by
  cases op <;> simp only [callF, reduceCtorEq] at h
  rename_i g xs
  split at h
  · rename_i fid caps hf
    simp only [Option.some.injEq, Prod.mk.injEq] at h
    obtain ⟨rfl, rfl⟩ := h
    exact ⟨g, xs, fid, caps, rfl, hf, rfl, rfl⟩
  · cases h

theorem movB_run {o : Od → AV} {op : AOp} {r : AV} (hm : movB op = true) (hn : isNewB op = false) (h : opRun o H op = some (r, H')) : opVal o H op = some r := by
  unfold opRun at h
  split at h
  · rename_i r' hr; simp only [Option.some.injEq, Prod.mk.injEq] at h; rw [hr, h.1]
  · exfalso
    cases op with
    | mks mu sz xs => cases mu with
      | false => cases h
      | true => cases hm
    | box | st | mksl | app | cpy | call => cases hm
    | new => cases hn
    | _ => cases h

theorem actB_run {o : Od → AV} {op : AOp} {r : AV} (hm : movB op = false) (h : opRun o H op = some (r, H')) : opAct o H op = some (r, H') := by
  unfold opRun at h
  split at h
  · rename_i r' hr
    exfalso
    cases op with
    | mks mu sz xs => cases mu with
      | false => cases hm
      | true => cases hr
    | box | st | mksl | app | cpy | call => cases hr
    | _ => cases hm
  · exact h

theorem ResK.refl : ∀ {l : List Nat} {b : Nat} {ws : List Nat} {H : AHeap}, ResK l b ws H H
  | [], _, _, _ => trivial
  | _ :: _, _, _, _ => ⟨.inr rfl, ResK.refl⟩

/-- what stays is there -/
def Stays (D : Option DM) (H : AHeap) : Prop := ∀ D', D = some D' → SubH D'.M H ∧ KcOk D'.kc H

theorem Stays.nx (h : Stays D H) : Stays (nx D it) H := by
  intro D' hD
  unfold Go.Sas.nx at hD
  split at hD
  · cases hD
  · exact h D' hD

theorem Stays.keep (h : Stays D H) : Keep D it H H := by
  cases D with
  | none => trivial
  | some D => exact .inr (.mk (h D rfl).2 ⟨(h D rfl).1, ResK.refl, .inr fun h => h⟩)

theorem Keep.stays (h : Keep D it H H') : Stays (Go.Sas.nx D it) H' := by
  intro D' hD
  unfold Go.Sas.nx at hD
  cases ht : it.tail
  · rw [ht] at hD
    simp only [Bool.false_eq_true, if_false] at hD
    subst hD
    simp only [Keep, ht, Bool.false_eq_true, false_or] at h
    exact ⟨h.ok.2.1, h.ok.1⟩
  · rw [ht] at hD; simp at hD

theorem DGo_mov' {D' : DM} {r : AV} (hm : movB it.o.op = true) (hg : gOk e it.o.grd = some true) (hn : isNewB it.o.op = false) (hr : opVal (ev e) (match it.tail with | true => D'.M1 | false => D'.M) it.o.op = some r) (h : DGo cx m k R (some D') L (put e it.o.dst r) H) : DGo cx m k R (some D') (it :: L) e H := by
  simp only [DGo, JStep, hm]
  refine ⟨r, MVal_rel ?_, h⟩
  unfold MVal
  simp only [hg]
  split
  · rename_i z hz; rw [hz] at hn; cases hn
  · exact hr

theorem keepG_sound {p : Prop} (h : keepG std D it H H' p) : Keep D it H H' ∧ p := by
  unfold keepG at h
  split at h
  · rename_i ht
    refine ⟨?_, h⟩
    cases D with
    | none => trivial
    | some D => exact .inl ht
  · split at h
    · exact ⟨trivial, h⟩
    · exact h

theorem SDg0_sound {c : Option DM → List DItm → Env → AHeap → Prop} {go : Bool} (hca : PTabOk cx.P tb.ca) (hcb : ETabOk cx.P tb.cb) (hst : Stays D H) (hg : gOk e it.o.grd = some go) (hc : ∀ D L e H, Stays D H → c D L e H → DGo cx m k R D L e H)
    (h : SDg0 std tb (DGo cx m k R) c D it L e H go) : DGo cx m k R D (it :: L) e H := by
  unfold SDg0 at h
  split at h
  · rename_i hm
    split at h
    · exact h
    · rename_i D'
      split at h
      · simp only [DGo, JStep, hm]
        exact ⟨.lit undef, MVal_rel (by unfold MVal; simp only [hg]), hc _ _ _ _ hst h⟩
      · split at h
        · rename_i hn
          split at h
          · rename_i id hid
            simp only [DGo, JStep, hm]
            refine ⟨.mp id 0 0, MVal_rel ?_, hc _ _ _ _ hst h⟩
            unfold MVal
            simp only [hg]
            split
            · rw [hid]; rfl
            · rename_i hno
              unfold isNewB at hn
              split at hn
              · rename_i z hz; exact absurd hz (hno z)
              · cases hn
          · exact h
        · rename_i hn
          split at h
          · rename_i hnw
            unfold nwlP at h
            split at h
            · rename_i sz by_ z l1 c1 hop
              split at h
              · rename_i ln cp hl1 hc1
                split at h
                · rename_i id hid
                  simp only [DGo, JStep, hm]
                  refine ⟨_, ?_, hc _ _ _ _ hst h.2⟩
                  unfold MRel
                  simp only [hnw, hg]
                  exact .inl ⟨sz, by_, z, l1, c1, ln, cp, id, hop, hl1, hc1, h.1, hid, rfl⟩
                · exact h
              · exact h
            · rename_i sz xs hop
              split at h
              · rename_i hsz
                have hsz := Nat.eq_of_beq_eq_true hsz
                subst hsz
                split at h
                · rename_i us hus
                  split at h
                  · rename_i id hid
                    obtain ⟨g1, g2⟩ := litsOf_spec hus
                    simp only [DGo, JStep, hm]
                    refine ⟨_, ?_, hc _ _ _ _ hst h.2⟩
                    unfold MRel
                    simp only [hnw, hg]
                    exact .inr ⟨xs, us, id, hop, g1, g2, h.1.1, h.1.2, hid, rfl⟩
                  · exact h
                · exact h
              · exact h
            · exact h
          · rcases opPT_sound h with h | ⟨r, H', h1, h2⟩
            · exact h
            · exact DGo_mov' hm hg hn (movB_run hm hn h1) (hc _ _ _ _ hst h2)
  · rename_i hm
    split at h
    · simp only [DGo, JStep, hm, hg]
      exact hc _ _ _ _ hst.nx h
    · split at h
      · rename_i f args hcf
        obtain ⟨g, xs, fid, caps, hop, hf, rfl, rfl⟩ := callF_spec hcf
        obtain ⟨⟨d, op, gd⟩, i, tl, ws⟩ := it
        simp only at hop hg; subst hop
        split at h
        · rename_i pt hpt
          have hq : (fun r => c (nx D ⟨⟨d, .call g xs, gd⟩, i, tl, ws⟩) L (put e d r) H) = fun r => (H = H ∧ c (nx D ⟨⟨d, .call g xs, gd⟩, i, tl, ws⟩) L (put e d r) H) := by funext r; simp
          have h : pt (fun r => c (nx D ⟨⟨d, .call g xs, gd⟩, i, tl, ws⟩) L (put e d r) H) := h
          rw [hq] at h
          refine DGo_call hg hf ((hca _ _ _ hpt H (fun r H' => H' = H ∧ c (nx D ⟨⟨d, .call g xs, gd⟩, i, tl, ws⟩) L (put e d r) H) h).mono fun r H' hr => ?_)
          obtain ⟨rfl, hr⟩ := hr
          exact ⟨hst.keep, hc _ _ _ _ hst.nx hr⟩
        · split at h
          · rename_i pt hpt
            exact DGo_call hg hf ((hcb _ _ _ _ hpt _ h).mono fun r H' hr => ⟨(keepG_sound hr).1, hc _ _ _ _ (Keep.stays (keepG_sound hr).1) (keepG_sound hr).2⟩)
          · exact h
      · rcases opPT_sound h with h | ⟨r, H', h1, h2⟩
        · exact h
        · have h3 := actB_run hm h1
          exact DGo_act hm hg h3 (keepG_sound h2).1 (hc _ _ _ _ (Keep.stays (keepG_sound h2).1) (keepG_sound h2).2)
theorem SDg_sound {c : Option DM → List DItm → Env → AHeap → Prop} {go : Bool} (hca : PTabOk cx.P tb.ca) (hcb : ETabOk cx.P tb.cb) (hst : Stays D H) (hg : gOk e it.o.grd = some go) (hc : ∀ D L e H, Stays D H → c D L e H → DGo cx m k R D L e H)
    (h : SDg std tb (DGo cx m k R) c D it L e H go) : DGo cx m k R D (it :: L) e H := by
  unfold SDg at h
  split at h
  · exact h
  · exact SDg0_sound hca hcb hst hg hc h

theorem SD_sound (hca : PTabOk cx.P tb.ca) (hcb : ETabOk cx.P tb.cb) {fin : Env → AHeap → Prop} (hf : ∀ (e : Env) (H : AHeap), fin ⟨[], e.g⟩ H → AGo cx m k R ⟨[], e.g⟩ H) : ∀ {n : Nat} {D : Option DM} {L : List DItm} {e : Env} {H : AHeap}, Stays D H → SD std tb (DGo cx m k R) fin n D L e H → DGo cx m k R D L e H
  | 0, D, L, e, H, _, h => h
  | n + 1, D, L, e, H, hst, h => by
    simp only [SD] at h
    split at h
    · exact hf e H h
    · split at h
      · rename_i x want hgd
        split at h
        · rename_i b hx
          refine caseB_elim h (fun hb h => ?_) (fun hb h => ?_)
          · subst hb
            refine (SDg_sound hca hcb hst ?_ (fun _ _ _ _ hs h => SD_sound hca hcb hf hs h) h).eqE (learn_eqE hx)
            rw [hgd, gOk_learn hx]; cases want <;> rfl
          · subst hb
            refine (SDg_sound hca hcb hst ?_ (fun _ _ _ _ hs h => SD_sound hca hcb hf hs h) h).eqE (learn_eqE hx)
            rw [hgd, gOk_learn hx]; cases want <;> rfl
        · rename_i hx
          exact SDg_sound hca hcb hst (by rw [hgd]; simp only [gOk, hx]) (fun _ _ _ _ hs h => SD_sound hca hcb hf hs h) h
        · exact h
      · rename_i hgd
        exact SDg_sound hca hcb hst (by rw [hgd]; rfl) (fun _ _ _ _ hs h => SD_sound hca hcb hf hs h) h

theorem SOp0_sound (hca : PTabOk cx.P tb.ca) (hcb : ETabOk cx.P tb.cb) {c : List AItm → Env → AHeap → Prop} {d : Option (Bool × Nat)} {op : AOp} {g : Option (Od × Bool)} {rest : List AOper} {go : Bool} (hc : ∀ k e H, c k e H → AGo cx m k R e H) (hg : gOk e g = some go)
    (h : SOp0 std tb (fun k => AGo cx m k R) c d op g rest k e H go) : AGo cx m (.ops (⟨d, op, g⟩ :: rest) :: k) R e H := by
  unfold SOp0 at h
  split at h
  · exact AGo_skipped hg (hc _ _ _ h)
  · split at h
    · rename_i f args hcf
      obtain ⟨f', xs, fid, caps, rfl, hf, rfl, rfl⟩ := callF_spec hcf
      split at h
      · rename_i pt hpt
        exact AGo_call hg hf ((hca _ _ _ hpt H (fun r H' => c (.ops rest :: k) (put e d r) H') h).mono fun r H' hr => hc _ _ _ hr)
      · split at h
        · rename_i pt hpt
          exact AGo_call hg hf ((hcb _ _ _ _ hpt _ h).mono fun r H' hr => hc _ _ _ hr)
        · exact h
    · split at h
      · rename_i hop
        exact AGo_frzapp hg hop h.1 (hc _ _ _ h.2)
      · rcases opPT_sound h with h | ⟨r, H', h1, h2⟩
        · exact h
        · exact AGo_run1 hg h1 (hc _ _ _ h2)
theorem SOp_sound (hca : PTabOk cx.P tb.ca) (hcb : ETabOk cx.P tb.cb) {c : List AItm → Env → AHeap → Prop} {d : Option (Bool × Nat)} {op : AOp} {g : Option (Od × Bool)} {rest : List AOper} {go : Bool} (hc : ∀ k e H, c k e H → AGo cx m k R e H) (hg : gOk e g = some go)
    (h : SOp std tb (fun k => AGo cx m k R) c d op g rest k e H go) : AGo cx m (.ops (⟨d, op, g⟩ :: rest) :: k) R e H := by
  unfold SOp at h
  split at h
  · exact h
  · exact SOp0_sound hca hcb hc hg h

theorem SGo_sound' (hca : PTabOk cx.P tb.ca) (hcb : ETabOk cx.P tb.cb) : ∀ {n : Nat} {k : List AItm} {e : Env} {H : AHeap}, SGo std tb cx.ro (fun k => AGo cx m k R) (fun k => DGo cx m k R) R n k e H → AGo cx m k R e H
  | 0, k, e, H, h => h
  | n + 1, k, e, H, h => by
    unfold SGo at h
    split at h
    · exact AGo_nil h
    · split at h
      · rename_i b hx
        refine AGo_cond hx (fun hb => ?_) (fun hb => ?_)
        · subst hb; exact (SGo_sound' hca hcb (show SGo std tb cx.ro _ _ R n _ _ _ from h)).eqE (learn_eqE hx)
        · subst hb; exact (SGo_sound' hca hcb (show SGo std tb cx.ro _ _ R n _ _ _ from h)).eqE (learn_eqE hx)
      · exact h
    · exact AGo_ret h
    · split at h
      · exact h
      exact AGo_drw tb.us (SD_sound hca hcb (fun e H h => SGo_sound' hca hcb h) (fun D' hD => by cases hD; exact ⟨mask_sub, trivial⟩) h)
    · split at h
      · split at h
        · rename_i b hx
          refine caseB_elim h (fun hb h => ?_) (fun hb h => ?_)
          · subst hb
            refine (SOp_sound hca hcb (fun _ _ _ h => SGo_sound' hca hcb h) ?_ h).eqE (learn_eqE hx)
            rw [gOk_learn hx]; rename_i want _ _; cases want <;> rfl
          · subst hb
            refine (SOp_sound hca hcb (fun _ _ _ h => SGo_sound' hca hcb h) ?_ h).eqE (learn_eqE hx)
            rw [gOk_learn hx]; rename_i want _ _; cases want <;> rfl
        · rename_i hx
          exact SOp_sound hca hcb (fun _ _ _ h => SGo_sound' hca hcb h) (by simp only [gOk, hx]) h
        · exact h
      · exact SOp_sound hca hcb (fun _ _ _ h => SGo_sound' hca hcb h) rfl h
    · exact AGo_bk h
    · split at h
      · rename_i hs; exact stepA_sound hs (SGo_sound' hca hcb h)
      · exact h

/-- T, TD: what is to be shown where the run stops -/
theorem SGo_run {A : Ar} (hA : A = std) (tb : Tb) (hca : PTabOk cx.P tb.ca) (hcb : ETabOk cx.P tb.cb) (n : Nat) (h : ∀ T TD, T = (fun k => AGo cx m k R) → TD = (fun k => DGo cx m k R) → SGo A tb cx.ro T TD R n k e H) : AGo cx m k R e H := by
  subst hA; exact SGo_sound' hca hcb (h _ _ rfl rfl)

end

/-! ### From a body to a contract, once more -/
mutual
def AV.ltB (n : Nat) (a : AV) : Bool := match a with
  | .agg cs => AV.ltLB n cs
  | .tup cs => AV.ltLB n cs
  | .fn _ cs => AV.ltLB n cs
  | .mp id _ _ => decide (id < n)
  | .ms _ id _ _ _ => decide (id < n)
  | .yl id _ => decide (id < n)
  | _ => true
def AV.ltLB (n : Nat) (as : List AV) : Bool := match as with
  | [] => true
  | a :: as => a.ltB n && AV.ltLB n as
end
mutual
theorem AV.ltB_spec {n : Nat} : ∀ {a : AV}, a.ltB n = true → a.lt n
  | .bad, _ | .lit _, _ | .vs _ _, _ | .vp _, _ | .es, _ | .nni, _ => by simp only [AV.lt]
  | .agg cs, h => by simp only [AV.ltB] at h; simp only [AV.lt]; exact AV.ltLB_spec h
  | .tup cs, h => by simp only [AV.ltB] at h; simp only [AV.lt]; exact AV.ltLB_spec h
  | .fn f cs, h => by simp only [AV.ltB] at h; simp only [AV.lt]; exact AV.ltLB_spec h
  | .mp _ _ _, h | .ms _ _ _ _ _, h | .yl _ _, h => by simp only [AV.ltB, decide_eq_true_eq] at h; simp only [AV.lt]; exact h
theorem AV.ltLB_spec {n : Nat} : ∀ {as : List AV}, AV.ltLB n as = true → AV.ltL n as
  | [], _ => by simp only [AV.ltL]
  | a :: as, h => by
    simp only [AV.ltLB, Bool.and_eq_true] at h
    simp only [AV.ltL]; exact ⟨AV.ltB_spec h.1, AV.ltLB_spec h.2⟩
end
def ltHB (n : Nat) : AHeap → Bool
  | [] => true
  | .own _ cs :: H => AV.ltLB n cs && ltHB n H
  | .raw _ _ es _ :: H => AV.ltLB n es && ltHB n H
  | .gone :: H => ltHB n H
theorem ltHB_spec {n : Nat} : ∀ {H : AHeap}, ltHB n H = true → ltH n H
  | [], _ => trivial
  | .own g cs :: H, h => by simp only [ltHB, Bool.and_eq_true] at h; exact ⟨AV.ltLB_spec h.1, ltHB_spec h.2⟩
  | .gone :: H, h => ⟨trivial, ltHB_spec (by simpa only [ltHB] using h)⟩
  | .raw g o es us :: H, h => by simp only [ltHB, Bool.and_eq_true] at h; exact ⟨AV.ltLB_spec h.1, ltHB_spec h.2⟩

/-- what is to be shown where a function returns -/
def RetP (rs : List ARes) (m : Nat) (Kk : AV → AHeap → Prop) (e : Env) (H : AHeap) : Prop := match aResL e H rs with
  | none => False
  | some vs => if AV.ltB m (aTup vs) && ltHB m (H.take m) then Kk (aTup vs) (H.take m) else Kk (aTup vs) H

theorem RetP.hands {rs : List ARes} {m : Nat} {Kk : AV → AHeap → Prop} (hm : m ≤ H.length) (h : RetP rs m Kk e H) : ∃ vs, aResL e H rs = some vs ∧ Hands m Kk (aTup vs) H := by
  unfold RetP at h
  split at h
  · exact h.elim
  · rename_i vs hvs
    refine ⟨vs, hvs, ?_⟩
    split at h
    · rename_i hb
      simp only [Bool.and_eq_true] at hb
      have hl : (H.take m).length = m := by simp; omega
      exact .inr ⟨H.take m, ⟨H.drop m, (List.take_append_drop m H).symm⟩, by omega, by rw [hl]; exact AV.ltB_spec hb.1, by rw [hl]; exact ltHB_spec hb.2, h⟩
    · exact .inl h

theorem AGo.weaken {R' : Env → AHeap → Prop} (h : AGo cx m k R e H) (hR : ∀ e' H', m ≤ H'.length → R e' H' → R' e' H') (hk : ∀ I, .bk I ∉ k) : AGo cx m k R' e H := by
  intro st0 w0 kc hm hk' st a w hr
  have := h st0 w0 kc hm hk' st a w hr
  have hQ : ∀ a' w', (∃ st' e' H', Rel cx st0 w0 st' w' e' H' a' ∧ R e' H') → (∃ st' e' H', Rel cx st0 w0 st' w' e' H' a' ∧ R' e' H') := by
    rintro a' w' ⟨st', e', H', h1, h2⟩
    refine ⟨st', e', H', h1, hR e' H' ?_ h2⟩
    have : st0.loc.length ≤ st'.loc.length := by
      rcases Nat.eq_zero_or_pos st0.loc.length with h0 | h0
      · omega
      · obtain ⟨l', e1, _⟩ := h1.ext.le.loc (st0.loc.length - 1) _ (List.getElem?_eq_getElem (by omega))
        have := (List.getElem?_eq_some_iff.1 e1).1
        omega
    rw [h1.hH.len, hm] at this; exact this
  exact GoK.mono hQ kc a w this
where
  GoK.mono {P : Program} {ro : Option Nat} {R R' : Act → World → Prop} (hQ : ∀ a w, R a w → R' a w) (kc : List CItm) (a : Act) (w : World) (h : GoK P ro kc R a w) : GoK P ro kc R' a w := by
    have key : ∀ kc : List CItm, (∀ a w, GoK P ro kc R a w → GoK P ro kc R' a w) ∧ ∀ i a w, ExK P ro i kc R a w → ExK P ro i kc R' a w := by
      intro kc
      induction kc with
      | nil => exact ⟨fun a w h => by simp only [GoK] at h ⊢; exact hQ a w h, fun i a w h => by simp [ExK] at h⟩
      | cons x kc ih =>
        cases x with
        | code c =>
          refine ⟨fun a w h => ?_, fun i a w h => by simp only [ExK] at h ⊢; exact ih.2 i a w h⟩
          simp only [GoK] at h ⊢
          refine wpIn_mono h fun ex a' w' hq => ?_
          cases ex <;> simp only at hq ⊢ <;> first | exact ih.1 _ _ hq | exact ih.2 _ _ _ hq | exact RetOk.mono (hQ _ _) hq | exact hq
        | ops ops l =>
          refine ⟨fun a w h => ?_, fun i a w h => by simp only [ExK] at h ⊢; exact ih.2 i a w h⟩
          simp only [GoK] at h ⊢
          refine wpOpsIn_mono (fun ex a' w' hq => ?_) _ _ _ h
          cases ex <;> simp only at hq ⊢ <;> first | exact ih.1 _ _ hq | exact hq
        | blk j =>
          refine ⟨fun a w h => by simp only [GoK] at h ⊢; exact ih.1 _ _ h, fun i a w h => ?_⟩
          simp only [ExK] at h ⊢
          split
          · rename_i he; rw [if_pos he] at h; exact ih.1 _ _ h
          · rename_i he; rw [if_neg he] at h; exact ih.2 _ _ _ h
        | bk I => exact ⟨fun a w h => by simp only [GoK] at h ⊢; exact h, fun i a w h => by simp only [ExK] at h ⊢; exact ih.2 i a w h⟩
    exact (key kc).1 a w h

/-- of a function that names no object: whatever there is -/
theorem liftP {P : Program} {f : Nat} {args : List AV} {res : AV} (h : ACalls P f args [] fun r H' => r = res ∧ H' = []) (ha : AV.nidL args = true) (hr : res.nid = true) (H : AHeap) {Kk : AV → AHeap → Prop} (hk : Kk res H) : ACalls P f args H Kk := by
  have := ACalls.frame (H := H) [] h List.nodup_nil rfl (AV.ltL_nid ha) (by simp [ltH]) (fun k X hk => by simp at hk)
  rw [AV.renL_nid ha] at this
  refine this.mono fun r H' hx => ?_
  obtain ⟨r0, H1, ⟨rfl, rfl⟩, _, rfl, rfl⟩ := hx
  rw [AV.ren_nid hr]
  simpa [merge, updL] using hk
end Go.Sas
namespace Go.Sas
@[reducible] def Od.i (n : Int) : Od := .c (.lit (.int .i64 n))
@[reducible] def Od.b (b : Bool) : Od := .c (.lit (.bool b))
@[reducible] def AOper.l (t : Nat) (o : AOp) : AOper := ⟨some (false, t), o, none⟩
@[reducible] def AOper.g (t : Nat) (o : AOp) : AOper := ⟨some (true, t), o, none⟩
@[reducible] def AOper.n (o : AOp) : AOper := ⟨none, o, none⟩
@[reducible] def AOper.lw (t : Nat) (o : AOp) (x : Od) (b : Bool) : AOper := ⟨some (false, t), o, some (x, b)⟩
@[reducible] def AOper.gw (t : Nat) (o : AOp) (x : Od) (b : Bool) : AOper := ⟨some (true, t), o, some (x, b)⟩
@[reducible] def AOper.nw (o : AOp) (x : Od) (b : Bool) : AOper := ⟨none, o, some (x, b)⟩
@[reducible] def DItm.l (t : Nat) (o : AOp) (i : Nat) : DItm := ⟨⟨some (false, t), o, none⟩, i, true, []⟩
@[reducible] def DItm.g (t : Nat) (o : AOp) (i : Nat) : DItm := ⟨⟨some (true, t), o, none⟩, i, true, []⟩
@[reducible] def DItm.n (o : AOp) (i : Nat) : DItm := ⟨⟨none, o, none⟩, i, true, []⟩
@[reducible] def DItm.lw (t : Nat) (o : AOp) (x : Od) (b : Bool) (i : Nat) : DItm := ⟨⟨some (false, t), o, some (x, b)⟩, i, true, []⟩
@[reducible] def DItm.gw (t : Nat) (o : AOp) (x : Od) (b : Bool) (i : Nat) : DItm := ⟨⟨some (true, t), o, some (x, b)⟩, i, true, []⟩
@[reducible] def DItm.nw (o : AOp) (x : Od) (b : Bool) (i : Nat) : DItm := ⟨⟨none, o, some (x, b)⟩, i, true, []⟩
@[reducible] def DItm.lf (t : Nat) (o : AOp) (i : Nat) : DItm := ⟨⟨some (false, t), o, none⟩, i, false, []⟩
@[reducible] def DItm.gf (t : Nat) (o : AOp) (i : Nat) : DItm := ⟨⟨some (true, t), o, none⟩, i, false, []⟩
@[reducible] def DItm.nf (o : AOp) (i : Nat) : DItm := ⟨⟨none, o, none⟩, i, false, []⟩
@[reducible] def DItm.lwf (t : Nat) (o : AOp) (x : Od) (b : Bool) (i : Nat) : DItm := ⟨⟨some (false, t), o, some (x, b)⟩, i, false, []⟩
@[reducible] def DItm.gwf (t : Nat) (o : AOp) (x : Od) (b : Bool) (i : Nat) : DItm := ⟨⟨some (true, t), o, some (x, b)⟩, i, false, []⟩
@[reducible] def DItm.nwf (o : AOp) (x : Od) (b : Bool) (i : Nat) : DItm := ⟨⟨none, o, some (x, b)⟩, i, false, []⟩
@[reducible] def DItm.lx (t : Nat) (o : AOp) (i : Nat) (b : Bool) (w : List Nat) : DItm := ⟨⟨some (false, t), o, none⟩, i, b, w⟩
@[reducible] def DItm.gx (t : Nat) (o : AOp) (i : Nat) (b : Bool) (w : List Nat) : DItm := ⟨⟨some (true, t), o, none⟩, i, b, w⟩
@[reducible] def DItm.nx (o : AOp) (i : Nat) (b : Bool) (w : List Nat) : DItm := ⟨⟨none, o, none⟩, i, b, w⟩
@[reducible] def DItm.lwx (t : Nat) (o : AOp) (x : Od) (c : Bool) (i : Nat) (b : Bool) (w : List Nat) : DItm := ⟨⟨some (false, t), o, some (x, c)⟩, i, b, w⟩
@[reducible] def DItm.gwx (t : Nat) (o : AOp) (x : Od) (c : Bool) (i : Nat) (b : Bool) (w : List Nat) : DItm := ⟨⟨some (true, t), o, some (x, c)⟩, i, b, w⟩
@[reducible] def DItm.nwx (o : AOp) (x : Od) (c : Bool) (i : Nat) (b : Bool) (w : List Nat) : DItm := ⟨⟨none, o, some (x, c)⟩, i, b, w⟩
def GoS (P : Program) (f n : Nat) (K mu : List Nat) (nt : Nat) (ac : ACode) (rs : List ARes) : Prop := ∀ ⦃args : List AV⦄ ⦃H : AHeap⦄ ⦃Kk : AV → AHeap → Prop⦄, args.length = n →
  AGo ⟨P, K, mu, nt, none⟩ H.length [.code ac] (RetP rs H.length Kk) ⟨[], argsG 0 args⟩ H → ACalls P f args H Kk
theorem GoS.mk {P : Program} {f n nt : Nat} {K mu : List Nat} {fn : Func} {c : Code} {ac : ACode} {rs : List ARes} (hf : P.funcs[f]? = some fn) (hb : fn.body = some c) (hname : (fn.name != "runtime.NumGoroutine") = true)
    (htr : trCode ⟨P, K, mu, nt, none⟩ c = some ac) (ht : fn.ntmps = nt) (hres : trRes P K fn.results.toList = some rs) (hn : Nat.ble n nt = true) (hK : argsIn K 0 n = true) : GoS P f n K mu nt ac rs := by
  subst ht
  intro args H Kk hl h
  exact ACalls_of hf hb hname htr (rs := rs) hres (by rw [hl]; exact Nat.le_of_ble_eq_true hn) (by rw [hl]; exact hK) (h.weaken (fun _ _ => RetP.hands) (by simp))
end Go.Sas
