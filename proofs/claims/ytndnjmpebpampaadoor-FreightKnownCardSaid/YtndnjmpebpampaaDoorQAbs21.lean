/-
An abstract machine over values, part 21: a run by reckoning. A function is run on the abstract machine by a plain function of Lean with fuel, and what it yields is what the function yields.
Conditions: none.
-/
import Derived.Test.YtndnjmpebpampaaDoorP6f
set_option linter.unusedVariables false
set_option linter.unusedSimpArgs false
namespace Go.Sas

/-! ### Equal values -/
def vEq : Value → Value → Bool
  | .int k n, .int k' n' => decide (k = k') && decide (n = n')
  | .bool b, .bool b' => b == b'
  | .slice none 0 0, .slice none 0 0 => true
  | _, _ => false
theorem vEq_spec {a b : Value} (h : vEq a b = true) : a = b := by
  unfold vEq at h
  split at h
  · simp only [Bool.and_eq_true, decide_eq_true_eq] at h; rw [h.1, h.2]
  · simp only [beq_iff_eq] at h; rw [h]
  · rfl
  · cases h

mutual
def avEq (a b : AV) : Bool := match a, b with
  | .bad, .bad => true
  | .lit u, .lit v => vEq u v
  | .agg as, .agg bs => avEqL as bs
  | .tup as, .tup bs => avEqL as bs
  | .vs sz as, .vs sz' bs => Nat.beq sz sz' && avEqL as bs
  | .vp as, .vp bs => avEqL as bs
  | .mp id g o, .mp id' g' o' => Nat.beq id id' && Nat.beq g g' && Nat.beq o o'
  | .ms sz id g o n, .ms sz' id' g' o' n' => Nat.beq sz sz' && Nat.beq id id' && Nat.beq g g' && Nat.beq o o' && Nat.beq n n'
  | .es, .es => true
  | .nni, .nni => true
  | .fn f as, .fn f' bs => Nat.beq f f' && avEqL as bs
  | .yl id g, .yl id' g' => Nat.beq id id' && Nat.beq g g'
  | _, _ => false
def avEqL (as bs : List AV) : Bool := match as, bs with
  | [], [] => true
  | a :: as, b :: bs => avEq a b && avEqL as bs
  | _, _ => false
end
mutual
theorem avEq_spec : ∀ {a b : AV}, avEq a b = true → a = b
  | .bad, b, h => by cases b <;> first | rfl | (simp [avEq] at h)
  | .lit u, b, h => by
    cases b <;> simp only [avEq] at h
    all_goals first | (rw [vEq_spec h]) | cases h
  | .agg as, b, h => by
    cases b <;> simp only [avEq] at h
    all_goals first | (rw [avEqL_spec h]) | cases h
  | .tup as, b, h => by
    cases b <;> simp only [avEq] at h
    all_goals first | (rw [avEqL_spec h]) | cases h
  | .vs sz as, b, h => by
    cases b <;> simp only [avEq, Bool.and_eq_true] at h
    all_goals first | (rw [Nat.eq_of_beq_eq_true h.1, avEqL_spec h.2]) | cases h
  | .vp as, b, h => by
    cases b <;> simp only [avEq] at h
    all_goals first | (rw [avEqL_spec h]) | cases h
  | .mp id g o, b, h => by
    cases b <;> simp only [avEq, Bool.and_eq_true] at h
    all_goals first | (rw [Nat.eq_of_beq_eq_true h.1.1, Nat.eq_of_beq_eq_true h.1.2, Nat.eq_of_beq_eq_true h.2]) | cases h
  | .ms sz id g o n, b, h => by
    cases b <;> simp only [avEq, Bool.and_eq_true] at h
    all_goals first | (rw [Nat.eq_of_beq_eq_true h.1.1.1.1, Nat.eq_of_beq_eq_true h.1.1.1.2, Nat.eq_of_beq_eq_true h.1.1.2, Nat.eq_of_beq_eq_true h.1.2, Nat.eq_of_beq_eq_true h.2]) | cases h
  | .es, b, h => by cases b <;> first | rfl | (simp [avEq] at h)
  | .nni, b, h => by cases b <;> first | rfl | (simp [avEq] at h)
  | .fn f as, b, h => by
    cases b <;> simp only [avEq, Bool.and_eq_true] at h
    all_goals first | (rw [Nat.eq_of_beq_eq_true h.1, avEqL_spec h.2]) | cases h
  | .yl id g, b, h => by
    cases b <;> simp only [avEq, Bool.and_eq_true] at h
    all_goals first | (rw [Nat.eq_of_beq_eq_true h.1, Nat.eq_of_beq_eq_true h.2]) | cases h
theorem avEqL_spec : ∀ {as bs : List AV}, avEqL as bs = true → as = bs
  | [], bs, h => by cases bs <;> first | rfl | (simp [avEqL] at h)
  | a :: as, bs, h => by
    cases bs with
    | nil => simp [avEqL] at h
    | cons b bs => simp only [avEqL, Bool.and_eq_true] at h; rw [avEq_spec h.1, avEqL_spec h.2]
end

/-- of the second heap nothing else holds than what the first one says -/
def subHB : AHeap → AHeap → Bool
  | [], _ => true
  | .gone :: M, _ :: H => subHB M H
  | .own g cs :: M, .own g' cs' :: H => Nat.beq g g' && (cs.isEmpty || avEqL cs cs') && subHB M H
  | _, _ => false
theorem subHB_spec : ∀ {M H : AHeap}, subHB M H = true → SubH M H
  | [], H, _ => by simp [SubH]
  | .gone :: M, [], h => by simp [subHB] at h
  | .gone :: M, y :: H, h => by
    simp only [subHB] at h
    have := subHB_spec h
    simp only [SubH]; exact this
  | .own g cs :: M, [], h => by simp [subHB] at h
  | .own g cs :: M, y :: H, h => by
    cases y <;> simp only [subHB, Bool.and_eq_true, Bool.or_eq_true] at h
    case own g' cs' =>
      have ih := subHB_spec h.2
      have hg := Nat.eq_of_beq_eq_true h.1.1; subst hg
      rcases h.1.2 with he | he
      · have : cs = [] := by cases cs <;> first | rfl | cases he
        subst this
        simp only [SubH]
        first | exact ⟨rfl, ih⟩ | exact ⟨trivial, ih⟩ | exact ih
      · have := avEqL_spec he; subst this
        cases cs <;> simp only [SubH] <;> first | exact ⟨rfl, ih⟩ | exact ⟨trivial, ih⟩ | exact ih
    all_goals cases h
  | .raw _ _ _ _ :: M, H, h => by cases H <;> simp [subHB] at h
/-! ### Values made plain: for the kernel, so that nothing is put off -/
section
variable {β : Type}
def fN (n : Nat) (f : Nat → β) : β := match n with
  | 0 => f 0
  | n + 1 => f (n + 1)
theorem fN_eq {n : Nat} {f : Nat → β} : fN n f = f n := by cases n <;> rfl
def fI (n : Int) (f : Int → β) : β := match n with
  | .ofNat m => fN m fun m => f (.ofNat m)
  | .negSucc m => fN m fun m => f (.negSucc m)
theorem fI_eq {n : Int} {f : Int → β} : fI n f = f n := by cases n <;> simp only [fI, fN_eq]
def fV (v : Value) (f : Value → β) : β := match v with
  | .int k n => fI n fun n => f (.int k n)
  | .bool b => (match b with
    | true => f (.bool true)
    | false => f (.bool false))
  | v => f v
theorem fV_eq {v : Value} {f : Value → β} : fV v f = f v := by
  unfold fV
  split
  · exact fI_eq
  · split <;> rfl
  · rfl
def fA1 (a : AV) (f : AV → β) : β := match a with
  | .lit v => f (.lit v)
  | .agg cs => f (.agg cs)
  | .tup cs => f (.tup cs)
  | .vs sz es => f (.vs sz es)
  | .vp cs => f (.vp cs)
  | .mp id g o => f (.mp id g o)
  | .ms sz id g o n => f (.ms sz id g o n)
  | .fn k cs => f (.fn k cs)
  | .bad => f .bad
  | .es => f .es
  | .nni => f .nni
  | .yl id g => f (.yl id g)
theorem fA1_eq {a : AV} {f : AV → β} : fA1 a f = f a := by cases a <;> rfl
noncomputable def fS (as : List AV) (f : List AV → β) : β := List.rec (motive := fun _ => (List AV → β) → β) (fun f => f []) (fun a _ ih f => fA1 a fun a => ih fun as => f (a :: as)) as f
theorem fS_eq : ∀ {as : List AV} {f : List AV → β}, fS as f = f as
  | [], f => rfl
  | a :: as, f => by
    have : fS (a :: as) f = fA1 a fun a => fS as fun as => f (a :: as) := rfl
    rw [this, fA1_eq, fS_eq]
noncomputable def fAV (a : AV) (f : AV → β) : β := match a with
  | .lit v => fV v fun v => f (.lit v)
  | .agg cs => fS cs fun cs => f (.agg cs)
  | .tup cs => fS cs fun cs => f (.tup cs)
  | .vs sz es => fS es fun es => f (.vs sz es)
  | .vp cs => fS cs fun cs => f (.vp cs)
  | .mp id g o => fN id fun id => fN g fun g => fN o fun o => f (.mp id g o)
  | .ms sz id g o n => fN id fun id => fN g fun g => fN o fun o => fN n fun n => f (.ms sz id g o n)
  | .fn k cs => fS cs fun cs => f (.fn k cs)
  | .bad => f .bad
  | .es => f .es
  | .nni => f .nni
  | .yl id g => f (.yl id g)
theorem fAV_eq {a : AV} {f : AV → β} : fAV a f = f a := by cases a <;> simp only [fAV, fV_eq, fS_eq, fN_eq]
noncomputable def fL (as : List AV) (f : List AV → β) : β := fS as f
theorem fL_eq {as : List AV} {f : List AV → β} : fL as f = f as := fS_eq
def fOb (x : AObj) (f : AObj → β) (fs : List AV → (List AV → β) → β) : β := match x with
  | .own g cs => fN g fun g => fs cs fun cs => f (.own g cs)
  | .gone => f .gone
  | .raw g o es us => f (.raw g o es us)
noncomputable def fHp (H : AHeap) (f : AHeap → β) : β := List.rec (motive := fun _ => (AHeap → β) → β) (fun f => f []) (fun x _ ih f => fOb x (fun x => ih fun H => f (x :: H)) fS) H f
theorem fHp_eq : ∀ {H : AHeap} {f : AHeap → β}, fHp H f = f H
  | [], f => rfl
  | x :: H, f => by
    have : fHp (x :: H) f = fOb x (fun x => fHp H fun H => f (x :: H)) fS := rfl
    rw [this]
    cases x <;> simp only [fOb, fN_eq, fS_eq] <;> rw [fHp_eq]
noncomputable def gsetK (l : List (Nat × AV)) (t : Nat) (v : AV) (f : List (Nat × AV) → β) : β :=
  List.rec (motive := fun _ => (List (Nat × AV) → β) → β) (fun f => f [(t, v)]) (fun x r ih f => Prod.rec (fun i u => Bool.rec (ih fun r => f ((i, u) :: r)) (f ((i, v) :: r)) (Nat.beq i t)) x) l f
theorem gsetK_eq : ∀ {l : List (Nat × AV)} {t : Nat} {v : AV} {f : List (Nat × AV) → β}, gsetK l t v f = f (gset l t v)
  | [], t, v, f => rfl
  | (i, u) :: r, t, v, f => by
    have : gsetK ((i, u) :: r) t v f = Bool.rec (gsetK r t v fun r => f ((i, u) :: r)) (f ((i, v) :: r)) (Nat.beq i t) := rfl
    rw [this]
    simp only [gset]
    cases h : Nat.beq i t with
    | true => rw [if_pos (Nat.eq_of_beq_eq_true h)]
    | false =>
      rw [if_neg (fun he => by subst he; simp at h)]
      exact gsetK_eq
noncomputable def putK (e : Env) (d : Option (Bool × Nat)) (v : AV) (f : Env → β) : β := match e with
  | ⟨l, g⟩ => match d with
    | none => f ⟨l, g⟩
    | some (b, t) => match b with
      | true => gsetK g t v fun g => f ⟨l, g⟩
      | false => f ⟨(t, v) :: l, g⟩
theorem putK_eq {e : Env} {d : Option (Bool × Nat)} {v : AV} {f : Env → β} : putK e d v f = f (put e d v) := by
  obtain ⟨l, g⟩ := e
  rcases d with _ | ⟨_ | _, t⟩ <;> simp only [putK, put, gsetK_eq]
def clrK (e : Env) (f : Env → β) : β := match e with
  | ⟨_, g⟩ => f ⟨[], g⟩
theorem clrK_eq {e : Env} {f : Env → β} : clrK e f = f ⟨[], e.g⟩ := rfl
noncomputable def argsK (i : Nat) (as : List AV) (f : List (Nat × AV) → β) : β :=
  List.rec (motive := fun _ => Nat → (List (Nat × AV) → β) → β) (fun _ f => f []) (fun a _ ih i f => fN (i + 1) fun j => ih j fun r => f ((i, a) :: r)) as i f
theorem argsK_eq : ∀ {as : List AV} {i : Nat} {f : List (Nat × AV) → β}, argsK i as f = f (argsG i as)
  | [], i, f => rfl
  | a :: as, i, f => by
    have : argsK i (a :: as) f = fN (i + 1) fun j => argsK j as fun r => f ((i, a) :: r) := rfl
    rw [this, fN_eq, argsK_eq]; rfl
end
noncomputable def lookK (l : List (Nat × AV)) (t : Nat) : AV := List.rec (motive := fun _ => AV) .bad (fun x _ ih => Prod.rec (fun i v => Bool.rec ih v (Nat.beq i t)) x) l
theorem lookK_eq : ∀ {l : List (Nat × AV)} {t : Nat}, lookK l t = look l t
  | [], t => rfl
  | (i, v) :: r, t => by
    have : lookK ((i, v) :: r) t = Bool.rec (lookK r t) v (Nat.beq i t) := rfl
    rw [this]
    simp only [look]
    cases h : Nat.beq i t with
    | true => rw [if_pos (Nat.eq_of_beq_eq_true h)]
    | false =>
      rw [if_neg (fun he => by subst he; simp at h)]
      exact lookK_eq
noncomputable def evK (e : Env) : Od → AV
  | .l t => lookK e.l t
  | .g t => lookK e.g t
  | .c a => a
theorem evK_eq {e : Env} : evK e = ev e := by
  funext x; cases x <;> simp only [evK, ev, lookK_eq]

def wrapK (n : Int) : Int := match n with
  | .ofNat m => match Nat.ble m 9223372036854775807 with
    | true => .ofNat m
    | false => IntKind.i64.wrap (.ofNat m)
  | .negSucc m => match Nat.ble m 9223372036854775807 with
    | true => .negSucc m
    | false => IntKind.i64.wrap (.negSucc m)
theorem wrapK_eq {n : Int} : wrapK n = IntKind.i64.wrap n := by
  unfold wrapK
  split
  · split
    · rename_i m h
      have := Nat.le_of_ble_eq_true h
      exact (wrap_id (by simp only [Int.ofNat_eq_natCast]; omega) (by simp only [Int.ofNat_eq_natCast]; omega)).symm
    · rfl
  · split
    · rename_i m h
      have := Nat.le_of_ble_eq_true h
      exact (wrap_id (by omega) (by omega)).symm
    · rfl
def ltK (a b : Int) : Bool := match a, b with
  | .ofNat m, .ofNat n => Nat.ble (m + 1) n
  | .ofNat _, .negSucc _ => false
  | .negSucc _, .ofNat _ => true
  | .negSucc m, .negSucc n => Nat.ble (n + 1) m
theorem ltK_eq {a b : Int} : ltK a b = iLt a b := by
  unfold ltK iLt
  split
  · rename_i m n
    rw [Bool.eq_iff_iff, Nat.ble_eq, decide_eq_true_eq]; simp only [Int.ofNat_eq_natCast]; omega
  · symm; rw [decide_eq_false_iff_not]; simp only [Int.ofNat_eq_natCast]; omega
  · symm; rw [decide_eq_true_eq]; simp only [Int.ofNat_eq_natCast]; omega
  · rename_i m n
    rw [Bool.eq_iff_iff, Nat.ble_eq, decide_eq_true_eq]; omega
def eqK (a b : Int) : Bool := match a, b with
  | .ofNat m, .ofNat n => Nat.beq m n
  | .negSucc m, .negSucc n => Nat.beq m n
  | _, _ => false
theorem eqK_eq {a b : Int} : eqK a b = iEq a b := by
  unfold eqK iEq
  split
  · rename_i m n
    rw [Bool.eq_iff_iff, Nat.beq_eq, beq_iff_eq]; simp only [Int.ofNat_eq_natCast]; omega
  · rename_i m n
    rw [Bool.eq_iff_iff, Nat.beq_eq, beq_iff_eq]; omega
  · rename_i h1 h2
    symm
    cases a <;> cases b
    · exact absurd rfl (h1 _ _ rfl)
    · simp
    · simp
    · exact absurd rfl (h2 _ _ rfl)
theorem leK_eq {a b : Int} : (!iLt b a) = iLe a b := by
  unfold iLt iLe
  rw [Bool.eq_iff_iff]; simp
end Go.Sas
