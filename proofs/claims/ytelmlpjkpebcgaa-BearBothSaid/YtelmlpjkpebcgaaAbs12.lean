/-
An abstract machine over values, part 12: regions that draw their order of evaluation.
Conditions: none (lemmas over any program).
-/
import Derived.Test.YtelmlpjkpebcgaaAbs11
set_option linter.unusedVariables false
set_option linter.unusedSimpArgs false
namespace Go.Sas

/-! ### What an operation looks at -/
section congr
variable {e e' : Od → AV} {H : AHeap} {op : AOp}

theorem odl_congr {x : Option Od} (h : ∀ y ∈ odl x, e y = e' y) : x.map e = x.map e' := by
  cases x with
  | none => rfl
  | some x => simp [h x (by simp [odl])]

theorem opVal_congr (h : ∀ x ∈ opOds op, e x = e' x) : opVal e H op = opVal e' H op := by
  cases op <;> simp only [opOds, List.mem_cons, List.not_mem_nil, or_false, forall_eq_or_imp, forall_eq, List.mem_append, or_imp, forall_and] at h <;> try (simp only [opVal, h]; done)
  case mk z ps =>
    have : ps.map (fun (o, n, x) => (o, n, e x)) = ps.map (fun (o, n, x) => (o, n, e' x)) := by
      apply List.map_congr_left
      rintro ⟨o, n, x⟩ hx
      have := h x (by simp only [List.mem_map]; exact ⟨(o, n, x), hx, rfl⟩)
      simp [this]
    simp only [opVal, this]
  case mks mu sz xs =>
    have : xs.map e = xs.map e' := List.map_congr_left h
    cases mu <;> simp only [opVal, this]
  case mkf f xs => simp only [opVal, List.map_congr_left h]
  case mx xs => simp only [opVal, List.map_congr_left h]
  case mn xs => simp only [opVal, List.map_congr_left h]
  case sl sz x a b c => simp only [opVal, h.1, odl_congr h.2.1.1, odl_congr h.2.1.2, odl_congr h.2.2]
  case ssl x a b => simp only [opVal, h.1, odl_congr h.2.1, odl_congr h.2.2]

theorem opAct_congr (h : ∀ x ∈ opOds op, e x = e' x) : opAct e H op = opAct e' H op := by
  cases op <;> simp only [opOds, List.mem_cons, List.not_mem_nil, or_false, forall_eq_or_imp, forall_eq, List.mem_append, or_imp, forall_and] at h <;> try (simp only [opAct, h]; done)
  case mks mu sz xs =>
    have : xs.map e = xs.map e' := List.map_congr_left h
    cases mu <;> simp only [opAct, this]
end congr

/-! ### Part of a heap -/
/-- `own g []`: the object is there, what it holds is not said -/
def SubH : AHeap → AHeap → Prop
  | [], _ => True
  | .gone :: M, _ :: H => SubH M H
  | .own g [] :: M, .own g' _ :: H => g = g' ∧ SubH M H
  | x :: M, y :: H => x = y ∧ SubH M H
  | _ :: _, [] => False

def SubX (X : AObj) (o : Option AObj) : Prop := o = some X ∨ ∃ g cs, X = .own g [] ∧ o = some (.own g cs)

theorem SubH.uncons {x y : AObj} {M H : AHeap} (h : SubH (x :: M) (y :: H)) : SubH M H ∧ (x ≠ .gone → SubX x (some y)) := by
  cases x with
  | gone => simp only [SubH] at h; exact ⟨h, fun hx => absurd rfl hx⟩
  | raw g o => simp only [SubH] at h; exact ⟨h.2, fun _ => .inl (by rw [h.1])⟩
  | own g cs =>
    cases cs with
    | cons c cs => simp only [SubH] at h; exact ⟨h.2, fun _ => .inl (by rw [h.1])⟩
    | nil =>
      cases y with
      | own g' cs' => simp only [SubH] at h; exact ⟨h.2, fun _ => .inr ⟨g, cs', rfl, by rw [h.1]⟩⟩
      | gone => simp [SubH] at h
      | raw g' o => simp [SubH] at h

theorem SubH.get : ∀ {M H : AHeap} {id : Nat} {X : AObj}, SubH M H → M[id]? = some X → X ≠ .gone → SubX X H[id]?
  | [], H, id, X, _, h, _ => by simp at h
  | x :: M, [], id, X, hs, h, _ => by cases x <;> simp [SubH] at hs
  | x :: M, y :: H, 0, X, hs, h, hx => by simp at h; subst h; exact hs.uncons.2 hx
  | x :: M, y :: H, id + 1, X, hs, h, hx => by simp at h ⊢; exact SubH.get hs.uncons.1 h hx

theorem SubH.live {M H : AHeap} {id g : Nat} (hs : SubH M H) (h : live M id g = true) : live H id g = true := by
  unfold Go.Sas.live at *
  split at h
  · rename_i g' cs hX
    rcases hs.get hX (by simp) with h1 | ⟨g2, cs2, h1, h2⟩
    · rw [h1]; exact h
    · cases h1; rw [h2]; exact h
  · rename_i g' cs hX
    rcases hs.get hX (by simp) with h1 | ⟨g2, cs2, h1, h2⟩
    · rw [h1]; exact h
    · cases h1
  · cases h

theorem ldA_sub {M H : AHeap} {n : Option Nat} {a r : AV} (hs : SubH M H) (h : ldA M n a = some r) : ldA H n a = some r := by
  unfold ldA at *
  split at h
  · exact h
  · split at h
    · rename_i g' cs hX
      rcases hs.get hX (by simp) with h1 | ⟨g2, cs2, h1, h2⟩
      · simp only [h1]; exact h
      · cases h1
        simp only [h2]
        split at h
        · rename_i hg
          rw [if_pos hg]
          cases n with
          | none => simp [getN] at h
          | some k =>
            simp only [getN] at h ⊢
            split at h
            · rename_i hk
              simp only [List.length_nil, Nat.le_zero_eq, Nat.add_eq_zero_iff] at hk
              obtain ⟨rfl, rfl⟩ := hk
              rw [if_pos (by omega)]
              simpa using h
            · cases h
        · cases h
    · cases h
  · cases h

theorem opVal_sub {M H : AHeap} {e : Od → AV} {op : AOp} {r : AV} (hs : SubH M H) (h : opVal e M op = some r) : opVal e H op = some r := by
  have hl : ∀ {id g}, live M id g = true → live H id g = true := fun h => hs.live h
  cases op
  case ld n a => simp only [opVal] at h ⊢; exact ldA_sub hs h
  case nilc x =>
    simp only [opVal] at h ⊢
    unfold nilcA at *
    split at h
    · exact h
    · split at h
      · rename_i h1; rw [if_pos (hl h1)]; exact h
      · cases h
    · exact h
    · split at h
      · rename_i h1; rw [if_pos (hl h1)]; exact h
      · cases h
    · cases h
  case fa x off =>
    simp only [opVal] at h ⊢
    unfold faA at *
    split at h
    · exact h
    · split at h
      · rename_i h1; rw [if_pos (hl h1)]; exact h
      · cases h
    · cases h
  case ia sz x i =>
    simp only [opVal] at h ⊢
    unfold iaA at *
    split at h
    · exact h
    · split at h
      · rename_i h1; rw [if_pos ⟨h1.1, h1.2.1, h1.2.2.1, hl h1.2.2.2⟩]; exact h
      · cases h
    · cases h
  case iaa len sz x i =>
    simp only [opVal] at h ⊢
    unfold iaaA at *
    split at h
    · exact h
    · split at h
      · rename_i h1; rw [if_pos ⟨h1.1, h1.2.1, hl h1.2.2⟩]; exact h
      · cases h
    · cases h
  case len x =>
    simp only [opVal] at h ⊢
    unfold lenA at *
    split at h
    · exact h
    · split at h
      · rename_i h1; rw [if_pos (hl h1)]; exact h
      · cases h
    · exact h
    · exact h
    · cases h
  case sl sz x lo hi mx =>
    simp only [opVal] at h ⊢
    unfold slA at *
    split at h
    · exact h
    · split at h
      · split at h
        · rename_i h1; rw [if_pos ⟨h1.1, h1.2.1, h1.2.2.1, hl h1.2.2.2⟩]; exact h
        · cases h
      · split at h
        · rename_i m' hm'
          (try simp only [hm'])
          split at h
          · rename_i h1; rw [if_pos ⟨h1.1, h1.2.1, h1.2.2.1, h1.2.2.2.1, h1.2.2.2.2.1, hl h1.2.2.2.2.2⟩]; exact h
          · cases h
        · cases h
      · cases h
    · exact h
    · exact h
    · cases h
  case eqn neg x =>
    simp only [opVal] at h ⊢
    obtain ⟨b, hb, rfl⟩ := Option.map_eq_some_iff.1 h
    refine Option.map_eq_some_iff.2 ⟨b, ?_, rfl⟩
    unfold eqnA at *
    split at hb
    · exact hb
    · exact hb
    · split at hb
      · rename_i h1; rw [if_pos (hl h1)]; exact hb
      · cases hb
    · cases hb
  case mks mu sz xs => cases mu <;> exact h
  all_goals exact h

/-! ### The environment, by what is looked up -/
def EqE (e e' : Env) : Prop := (∀ t, look e.l t = look e'.l t) ∧ ∀ t, look e.g t = look e'.g t

theorem EqE.refl (e : Env) : EqE e e := ⟨fun _ => rfl, fun _ => rfl⟩
theorem EqE.symm {e e' : Env} (h : EqE e e') : EqE e' e := ⟨fun t => (h.1 t).symm, fun t => (h.2 t).symm⟩
theorem EqE.ev {e e' : Env} (h : EqE e e') (x : Od) : ev e x = ev e' x := by
  cases x with
  | l t => exact h.1 t
  | g t => exact h.2 t
  | c a => rfl
theorem look_put_l (e : Env) (b : Bool) (d : Nat) (r : AV) (t : Nat) : look (put e (some (b, d)) r).l t = if b = false ∧ d = t then r else look e.l t := by
  cases b <;> simp [put, look]
theorem look_put_g (e : Env) (b : Bool) (d : Nat) (r : AV) (t : Nat) : look (put e (some (b, d)) r).g t = if b = true ∧ d = t then r else look e.g t := by
  cases b <;> simp [put, look_gset]
theorem EqE.put {e e' : Env} (h : EqE e e') (d : Option (Bool × Nat)) (r : AV) : EqE (put e d r) (put e' d r) := by
  cases d with
  | none => exact h
  | some d =>
    obtain ⟨b, d⟩ := d
    exact ⟨fun t => by rw [look_put_l, look_put_l, h.1 t], fun t => by rw [look_put_g, look_put_g, h.2 t]⟩
theorem put_comm {e : Env} {d d' : Option (Bool × Nat)} {r r' : AV} (h : ∀ b x b' x', d = some (b, x) → d' = some (b', x') → x ≠ x') : EqE (put (put e d r) d' r') (put (put e d' r') d r) := by
  cases d with
  | none => exact .refl _
  | some d =>
    cases d' with
    | none => exact .refl _
    | some d' =>
      obtain ⟨b, x⟩ := d
      obtain ⟨b', x'⟩ := d'
      have hne := h b x b' x' rfl rfl
      refine ⟨fun t => ?_, fun t => ?_⟩
      · simp only [look_put_l]
        split <;> split <;> first | rfl | (rename_i h1 h2; exact absurd (h2.2.trans h1.2.symm) hne)
      · simp only [look_put_g]
        split <;> split <;> first | rfl | (rename_i h1 h2; exact absurd (h2.2.trans h1.2.symm) hne)

theorem Rel.eqE {cx : Cx} {st0 st : St} {w0 w : World} {e e' : Env} {H : AHeap} {a : Act} (h : Rel cx st0 w0 st w e H a) (he : EqE e e') : Rel cx st0 w0 st w e' H a :=
  ⟨h.ext, h.hH, fun t => by rw [← he.1 t]; exact h.l t, fun t => by rw [← he.2 t]; exact h.g t, fun t ht => by rw [← he.1 t]; exact h.kl t ht, fun t ht => by rw [← he.2 t]; exact h.kg t ht, h.n, h.d⟩

theorem AGo.eqE {cx : Cx} {m : Nat} {k : List AItm} {R : Env → AHeap → Prop} {e e' : Env} {H : AHeap} (h : AGo cx m k R e H) (he : EqE e e') : AGo cx m k R e' H :=
  fun st0 w0 kc hm hk st a w hr => h st0 w0 kc hm hk st a w (hr.eqE he.symm)

/-- they are alike in what the operation looks at -/
def Agree (e e' : Env) (o : AOper) : Prop := (∀ x ∈ opOds o.op, ev e x = ev e' x) ∧ gOk e o.grd = gOk e' o.grd

theorem EqE.agree {e e' : Env} (h : EqE e e') (o : AOper) : Agree e e' o := by
  refine ⟨fun x _ => h.ev x, ?_⟩
  cases hg : o.grd with
  | none => rfl
  | some g => simp only [gOk, h.ev]

theorem ev_put_ne {e : Env} {b : Bool} {d : Nat} {r : AV} {x : Od} (h : odSlot x ≠ some d) : ev (put e (some (b, d)) r) x = ev e x := by
  cases x with
  | l t => simp only [ev, look_put_l]; rw [if_neg]; rintro ⟨_, rfl⟩; exact h rfl
  | g t => simp only [ev, look_put_g]; rw [if_neg]; rintro ⟨_, rfl⟩; exact h rfl
  | c a => rfl

theorem agree_put {e : Env} {o : AOper} {d : Option (Bool × Nat)} {r : AV} (h : ∀ b t, d = some (b, t) → looks o t = false) : Agree (put e d r) e o := by
  cases d with
  | none => exact (EqE.refl e).agree o
  | some d =>
    obtain ⟨b, t⟩ := d
    have h := h b t rfl
    simp only [looks, Bool.or_eq_false_iff, List.any_eq_false, beq_iff_eq] at h
    refine ⟨fun x hx => ev_put_ne (h.1 x hx), ?_⟩
    cases hg : o.grd with
    | none => rfl
    | some g =>
      obtain ⟨x, wt⟩ := g
      simp only [hg, beq_eq_false_iff_ne] at h
      simp only [gOk, ev_put_ne h.2]

theorem apartA_spec {x y : AOper} (h : apartA x y = true) : (∀ b t, x.dst = some (b, t) → looks y t = false) ∧ (∀ b t, y.dst = some (b, t) → looks x t = false) ∧ (∀ b s b' t, x.dst = some (b, s) → y.dst = some (b', t) → s ≠ t) := by
  simp only [apartA, Bool.and_eq_true] at h
  refine ⟨fun b t hx => ?_, fun b t hy => ?_, fun b s b' t hx hy => ?_⟩
  · rw [hx] at h; simp at h; exact h.1.1
  · rw [hy] at h; simp at h; exact h.2
  · rw [hx, hy] at h; simp at h; exact h.1.2

/-! ### Steps of a region that draws its order -/
/-- what stays; where the new variables get their places -/
structure DM where
  M : AHeap
  base : Nat
  news : List Nat

def posOf : List Nat → Nat → Nat → Option Nat
  | [], _, _ => none
  | x :: r, b, i => if x = i then some b else posOf r (b + 1) i

def MVal (D : DM) (it : DItm) (e : Env) : Option AV := match gOk e it.o.grd with
  | some false => some (.lit undef)
  | some true => match it.o.op with
    | .new _ => (posOf D.news D.base it.i).map fun id => .mp id 0 0
    | op => opVal (ev e) D.M op
  | none => none

def ResK : List Nat → Nat → List Nat → AHeap → AHeap → Prop
  | [], _, _, _, _ => True
  | i :: r, b, ws, H, H' => (ws.contains i = true ∨ H'[b]? = H[b]?) ∧ ResK r (b + 1) ws H H'

def Keep (D : Option DM) (it : DItm) (H H' : AHeap) : Prop := match D with
  | none => True
  | some D => it.tail = true ∨ (SubH D.M H' ∧ ResK D.news D.base it.ws H H')

def nx (D : Option DM) (it : DItm) : Option DM := if it.tail then none else D

def JStep (P : Program) (D : Option DM) (it : DItm) (e : Env) (H : AHeap) (K : Option DM → AV → AHeap → Prop) : Prop :=
  match movB it.o.op with
  | true => match D with
    | none => False
    | some D' => ∃ r, MVal D' it e = some r ∧ K (some D') r H
  | false => match gOk e it.o.grd with
    | none => False
    | some false => K (nx D it) (.lit undef) H
    | some true => match it.o.op with
      | .call f xs => ∃ fid caps, ev e f = .fn fid caps ∧ ACalls P fid (xs.map (ev e) ++ caps) H fun r H' => Keep D it H H' ∧ K (nx D it) r H'
      | op => ∃ r H', opAct (ev e) H op = some (r, H') ∧ Keep D it H H' ∧ K (nx D it) r H'

theorem MVal_congr {D : DM} {it : DItm} {e e' : Env} (h : Agree e e' it.o) : MVal D it e = MVal D it e' := by
  unfold MVal
  rw [h.2]
  split
  · rfl
  · split
    · rfl
    · exact opVal_congr h.1
  · rfl

theorem JStep.imp {P : Program} {D : Option DM} {it : DItm} {e e' : Env} {H : AHeap} {K K' : Option DM → AV → AHeap → Prop} (h : JStep P D it e H K) (ha : Agree e e' it.o)
    (hk : ∀ D' r H', (it.tail = false → D' = D) → (movB it.o.op = true → H' = H ∧ D' = D) → K D' r H' → K' D' r H') : JStep P D it e' H K' := by
  unfold JStep at *
  split
  · rename_i hm
    simp only [hm] at h
    cases D with
    | none => exact h
    | some D' =>
      simp only at h ⊢
      obtain ⟨r, h1, h2⟩ := h
      exact ⟨r, by rw [← MVal_congr ha]; exact h1, hk _ _ _ (fun _ => rfl) (fun _ => ⟨rfl, rfl⟩) h2⟩
  · rename_i hm
    have hk2 : ∀ r H', K (nx D it) r H' → K' (nx D it) r H' := fun r H' h => hk _ _ _ (fun ht => by simp [nx, ht]) (fun h => by rw [hm] at h; cases h) h
    simp only [hm] at h
    rw [← ha.2]
    split
    · rename_i hg; simp only [hg] at h
    · rename_i hg; simp only [hg] at h; exact hk2 _ _ h
    · rename_i hg
      simp only [hg] at h
      split
      · rename_i f xs hop
        simp only [hop] at h
        obtain ⟨fid, caps, h1, h2⟩ := h
        have hx := ha.1
        rw [hop] at hx; simp only [opOds, List.mem_cons, forall_eq_or_imp] at hx
        refine ⟨fid, caps, by rw [← hx.1]; exact h1, ?_⟩
        rw [← List.map_congr_left hx.2]
        exact h2.mono fun r H' h3 => ⟨h3.1, hk2 _ _ h3.2⟩
      · rename_i hno
        split at h
        · rename_i f xs hop; exact absurd hop (hno f xs)
        · obtain ⟨r, H', h1, h2, h3⟩ := h
          exact ⟨r, H', by rw [← opAct_congr ha.1]; exact h1, h2, hk2 _ _ h3⟩

def DGo (cx : Cx) (m : Nat) (k : List AItm) (R : Env → AHeap → Prop) : Option DM → List DItm → Env → AHeap → Prop
  | _, [], e, H => AGo cx m k R ⟨[], e.g⟩ H
  | D, it :: l, e, H => JStep cx.P D it e H fun D' r H' => DGo cx m k R D' l (put e it.o.dst r) H'

theorem DGo.eqE {cx : Cx} {m : Nat} {k : List AItm} {R : Env → AHeap → Prop} : ∀ {l : List DItm} {D : Option DM} {e e' : Env} {H : AHeap}, DGo cx m k R D l e H → EqE e e' → DGo cx m k R D l e' H
  | [], D, e, e', H, h, he => by
    simp only [DGo] at h ⊢
    exact h.eqE ⟨fun _ => rfl, he.2⟩
  | it :: l, D, e, e', H, h, he => by
    simp only [DGo] at h ⊢
    exact h.imp (he.agree _) fun D' r H' _ _ h' => DGo.eqE h' (he.put _ _)

/-! ### The orders -/
inductive Valid (ops : Array Oper) (A : List AOper) : Array Bool → List Nat → Prop
  | nil {listed : Array Bool} : Region.ready .any ops listed = [] → Valid ops A listed []
  | mov {listed : Array Bool} {i : Nat} {l : List Nat} : i ∈ Region.ready .any ops listed → isMov A i = true → freeA ops A listed i = true → Valid ops A (listed.setIfInBounds i true) l → Valid ops A listed (i :: l)
  | one {listed : Array Bool} {i : Nat} {l : List Nat} : Region.ready .any ops listed = [i] → Valid ops A (listed.setIfInBounds i true) l → Valid ops A listed (i :: l)

theorem canonGo_valid {ops : Array Oper} {A : List AOper} : ∀ {n : Nat} {listed : Array Bool} {l : List Nat}, canonGo ops A n listed = some l → Valid ops A listed l
  | 0, listed, l, h => by
    simp only [canonGo] at h
    split at h
    · rename_i he; simp only [Option.some.injEq] at h; subst h; exact .nil (by simpa using he)
    · cases h
  | n + 1, listed, l, h => by
    simp only [canonGo] at h
    split at h
    · rename_i i hi
      split at h
      · rename_i hf
        split at h
        · rename_i l' hl'
          simp only [Option.some.injEq] at h; subst h
          exact .mov (List.mem_of_find?_eq_some hi) (List.find?_some hi) hf (canonGo_valid hl')
        · cases h
      · cases h
    · split at h
      · rename_i he; simp only [Option.some.injEq] at h; subst h; exact .nil he
      · rename_i i he
        split at h
        · rename_i l' hl'
          simp only [Option.some.injEq] at h; subst h
          exact .one he (canonGo_valid hl')
        · cases h
      · cases h

theorem getD_set_true' {listed : Array Bool} {i j : Nat} (h : listed.getD j true = true) : (listed.setIfInBounds i true).getD j true = true := by
  by_cases hij : i = j
  · subst hij
    rcases Nat.lt_or_ge i listed.size with hlt | hge
    · simp [hlt]
    · rw [Array.setIfInBounds_eq_of_size_le hge]; exact h
  · rw [getD_set_ne true hij]; exact h

theorem getD_set_self {listed : Array Bool} {i : Nat} : (listed.setIfInBounds i true).getD i true = true := by
  rcases Nat.lt_or_ge i listed.size with hlt | hge
  · simp [hlt]
  · simp [Array.setIfInBounds_eq_of_size_le hge, hge]

theorem set_comm (listed : Array Bool) (i j : Nat) : (listed.setIfInBounds i true).setIfInBounds j true = (listed.setIfInBounds j true).setIfInBounds i true := by
  by_cases h : i = j
  · subst h; rfl
  · exact Array.setIfInBounds_comm true true h

theorem Valid.unlisted {ops : Array Oper} {A : List AOper} {listed : Array Bool} {l : List Nat} (h : Valid ops A listed l) : ∀ i ∈ l, listed.getD i true = false := by
  have fin : ∀ {listed : Array Bool} {i : Nat} {l : List Nat}, i ∈ Region.ready .any ops listed → (∀ j ∈ l, (listed.setIfInBounds i true).getD j true = false) → ∀ j ∈ i :: l, listed.getD j true = false := by
    intro listed i l hi ih j hj
    rcases List.mem_cons.1 hj with rfl | hj
    · exact (mem_ready.1 hi).1
    · have := ih j hj
      by_cases hij : i = j
      · subst hij; rw [getD_set_self] at this; cases this
      · rwa [getD_set_ne true hij] at this
  induction h with
  | nil _ => intro i hi; cases hi
  | mov h1 _ _ _ ih => exact fin h1 ih
  | one h1 _ ih => exact fin (by rw [h1]; simp) ih

def itm (ops : Array Oper) (A : List AOper) (i : Nat) : DItm := ⟨(A[i]?).getD default, i, tailA ops A i, wsA ops A i⟩

theorem pickA_spec {ops : Array Oper} {A : List AOper} : ∀ {l : List Nat} {L : List DItm}, pickA ops A l = some L → L = l.map (itm ops A) ∧ ∀ i ∈ l, i < A.length
  | [], L, h => by simp only [pickA, Option.some.injEq] at h; subst h; simp
  | i :: l, L, h => by
    simp only [pickA] at h
    split at h
    · rename_i o l' ho hl'
      simp only [Option.some.injEq] at h; subst h
      obtain ⟨rfl, h2⟩ := pickA_spec hl'
      refine ⟨by simp [itm, ho], fun j hj => ?_⟩
      rcases List.mem_cons.1 hj with rfl | hj
      · exact (List.getElem?_eq_some_iff.1 ho).1
      · exact h2 j hj
    · cases h

theorem trOps_get {cx : Cx} {ops : Array Oper} : ∀ {os : List Oper} {A : List AOper} {i : Nat} {o : AOper}, trOps cx ops os = some A → A[i]? = some o → ∃ o', os[i]? = some o' ∧ trOper cx ops o' = some o
  | [], A, i, o, h, hi => by simp only [trOps, Option.some.injEq] at h; subst h; simp at hi
  | o1 :: os, A, i, o, h, hi => by
    simp only [trOps] at h
    split at h
    · rename_i x y hx hy
      simp only [Option.some.injEq] at h; subst h
      cases i with
      | zero => simp at hi; subst hi; exact ⟨o1, by simp, hx⟩
      | succ i => simp at hi; obtain ⟨o', h1, h2⟩ := trOps_get hy hi; exact ⟨o', by simpa using h1, h2⟩
    · cases h

theorem trOps_length {cx : Cx} {ops : Array Oper} : ∀ {os : List Oper} {A : List AOper}, trOps cx ops os = some A → A.length = os.length
  | [], A, h => by simp only [trOps, Option.some.injEq] at h; subst h; rfl
  | o1 :: os, A, h => by
    simp only [trOps] at h
    split at h
    · rename_i x y hx hy
      simp only [Option.some.injEq] at h; subst h
      simp [trOps_length hy]
    · cases h

theorem isMov_itm {ops : Array Oper} {A : List AOper} {i : Nat} (h : isMov A i = true) : movB (itm ops A i).o.op = true := by
  unfold isMov at h
  split at h
  · rename_i o ho; simp [itm, ho, h]
  · cases h

theorem not_waits {ops : Array Oper} {listed : Array Bool} {i j : Nat} (hj : j ∈ Region.ready .any ops listed) (hi : listed.getD i true = false) : waitsFor ops j i = false := by
  obtain ⟨_, o, ho, hall⟩ := mem_ready.1 hj
  cases hc : waitsFor ops j i with
  | false => rfl
  | true =>
  exfalso
  simp only [waitsFor, ho] at hc
  obtain ⟨e, he, hb⟩ := Array.any_eq_true'.1 hc
  simp only [Bool.and_eq_true, beq_iff_eq] at hb
  obtain ⟨hb, hx⟩ := hb
  have h1 := hall e he hb
  rw [hx] at h1
  simp only [Array.getD_eq_getD_getElem?] at h1 hi
  cases hq : listed[i]? with
  | none => rw [hq] at h1; simp at h1
  | some b => rw [hq] at h1 hi; simp at h1 hi; rw [h1] at hi; cases hi

theorem free_mono {ops : Array Oper} {A : List AOper} {listed : Array Bool} {i j : Nat} (h : freeA ops A listed i = true) : freeA ops A (listed.setIfInBounds j true) i = true := by
  unfold freeA at *
  split
  · rename_i hn; simp only [hn] at h; exact h
  · rename_i oi ho
    simp only [ho, List.all_eq_true, List.mem_range, Bool.or_eq_true] at h ⊢
    intro k hk
    rcases h k hk with ((h1 | h1) | h1) | h1
    · exact .inl (.inl (.inl h1))
    · exact .inl (.inl (.inr (getD_set_true' h1)))
    · exact .inl (.inr h1)
    · exact .inr h1

/-- what is listed waits for nothing that is not -/
def Cl (ops : Array Oper) (listed : Array Bool) : Prop := ∀ k i, listed.getD k true = true → k < ops.size → waitsFor ops k i = true → i < ops.size → listed.getD i true = true

theorem Cl.step {ops : Array Oper} {listed : Array Bool} {j : Nat} (h : Cl ops listed) (hj : j ∈ Region.ready .any ops listed) : Cl ops (listed.setIfInBounds j true) := by
  intro k i hk hks hw his
  by_cases hjk : j = k
  · subst hjk
    refine getD_set_true' ?_
    cases hi : listed.getD i true with
    | true => rfl
    | false => rw [not_waits hj hi] at hw; cases hw
  · rw [getD_set_ne true hjk] at hk
    exact getD_set_true' (h k i hk hks hw his)

theorem not_waits2 {ops : Array Oper} {listed : Array Bool} {i j : Nat} (h : Cl ops listed) (hj : j ∈ Region.ready .any ops listed) (hi : listed.getD i true = false) (his : i < ops.size) : waits2 ops j i = false := by
  cases hc : waits2 ops j i with
  | false => rfl
  | true =>
    exfalso
    simp only [waits2, Bool.or_eq_true, List.any_eq_true, List.mem_range, Bool.and_eq_true] at hc
    rcases hc with hc | ⟨k, hks, h1, h2⟩
    · rw [not_waits hj hi] at hc; cases hc
    · cases hk : listed.getD k true with
      | false => rw [not_waits hj hk] at h1; cases h1
      | true =>
        have := h k i hk hks h2 his
        rw [hi] at this; cases this

/-- What is ready may be taken now. -/
theorem pull {cx : Cx} {m : Nat} {k : List AItm} {R : Env → AHeap → Prop} {ops : Array Oper} {A : List AOper} (hsz : A.length = ops.size) : ∀ {l : List Nat} {listed : Array Bool} {D : Option DM} {e : Env} {H : AHeap} {j : Nat},
    Cl ops listed → Valid ops A listed l → DGo cx m k R D (l.map (itm ops A)) e H → j ∈ Region.ready .any ops listed →
    ∃ l', j ∈ l ∧ (∀ x ∈ l', x ∈ l) ∧ l'.length + 1 = l.length ∧ Valid ops A (listed.setIfInBounds j true) l' ∧
      JStep cx.P D (itm ops A j) e H fun D' r H' => DGo cx m k R D' (l'.map (itm ops A)) (put e (itm ops A j).o.dst r) H'
  | [], listed, D, e, H, j, _, hv, hg, hj => by
    cases hv with
    | nil h => rw [h] at hj; cases hj
  | i :: l, listed, D, e, H, j, hcl, hv, hg, hj => by
    simp only [List.map_cons, DGo] at hg
    by_cases hij : j = i
    · subst hij
      refine ⟨l, by simp, fun x hx => by simp [hx], by simp, ?_, hg⟩
      cases hv with
      | mov _ _ _ h => exact h
      | one _ h => exact h
    · cases hv with
      | one h1 h2 => rw [h1] at hj; simp at hj; exact absurd hj hij
      | mov h1 h2 h3 h4 =>
        have hun := (mem_ready.1 h1).1
        have hm := isMov_itm (ops := ops) h2
        have hg' := hg
        unfold JStep at hg'
        simp only [hm] at hg'
        cases D with
        | none => exact hg'.elim
        | some D =>
          simp only at hg'
          obtain ⟨ri, hri, hgo⟩ := hg'
          obtain ⟨l', g1, g2, g3, g4, g5⟩ := pull hsz (hcl.step h1) h4 hgo (ready_mono hj hij)
          have hw := not_waits hj hun
          have hjlt : j < ops.size := by
            obtain ⟨_, o, ho, _⟩ := mem_ready.1 hj
            exact (Array.getElem?_eq_some_iff.1 ho).1
          have hilt : i < ops.size := by
            obtain ⟨_, o, ho, _⟩ := mem_ready.1 h1
            exact (Array.getElem?_eq_some_iff.1 ho).1
          have hap : apartA (itm ops A i).o (itm ops A j).o = true := by
            have hAi : A[i]? = some A[i] := List.getElem?_eq_getElem (by omega)
            have hAj : A[j]? = some A[j] := List.getElem?_eq_getElem (by omega)
            unfold freeA at h3
            simp only [hAi, List.all_eq_true, List.mem_range, Bool.or_eq_true, beq_iff_eq] at h3
            have := h3 j hjlt
            rw [hw, (mem_ready.1 hj).1] at this
            simp only [hAj] at this
            simp only [itm, hAi, hAj, Option.getD_some]
            rcases this with ((h | h) | h) | h
            · exact absurd h hij
            · cases h
            · cases h
            · exact h
          obtain ⟨a1, a2, a3⟩ := apartA_spec hap
          have htail : (itm ops A j).tail = false := by
            cases ht : (itm ops A j).tail with
            | false => rfl
            | true =>
              simp only [itm, tailA, List.all_eq_true, List.mem_range, Bool.or_eq_true] at ht
              have := ht i hilt
              rw [h2, not_waits2 hcl hj hun hilt] at this
              simp at this
          refine ⟨i :: l', by simp [g1], fun x hx => ?_, by simp [g3], .mov (ready_mono h1 (Ne.symm hij)) h2 (free_mono h3) (by rw [set_comm]; exact g4), ?_⟩
          · rcases List.mem_cons.1 hx with rfl | hx
            · simp
            · simp [g2 x hx]
          · refine g5.imp (agree_put a1) fun D' r H' hD _ hgo' => ?_
            have hD := hD htail
            subst hD
            simp only [List.map_cons, DGo, JStep, hm]
            refine ⟨ri, ?_, ?_⟩
            · rw [MVal_congr (agree_put (e := e) a2)]; exact hri
            · exact hgo'.eqE (put_comm a3)
end Go.Sas
