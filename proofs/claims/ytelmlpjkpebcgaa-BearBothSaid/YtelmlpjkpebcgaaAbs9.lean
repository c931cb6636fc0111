/-
An abstract machine over values, part 9: the rules for operations, calls and loops; contracts of functions.
Conditions: none (lemmas over any program).
-/
import Derived.Test.YtelmlpjkpebcgaaAbs8
set_option linter.unusedVariables false
set_option linter.unusedSimpArgs false
namespace Go.Sas
variable {cx : Cx} {st0 st st' : St} {w0 w w' : World} {e e' : Env} {H H' : AHeap} {a : Act} {m : Nat} {k : List AItm} {R : Env → AHeap → Prop}

/-! ### Operations -/
theorem AGo_ops_nil (h : AGo cx m k R ⟨[], e.g⟩ H) : AGo cx m (.ops [] :: k) R e H := by
  intro st0 w0 kc hm hk st a w hr
  simp only [TrK] at hk
  obtain ⟨y, k', rfl, h1, h2⟩ := hk
  cases y <;> simp only [TrItm] at h1
  simp only [TrL] at h1; subst h1
  simp only [GoK, wpOpsIn]
  exact h st0 w0 k' hm h2 st a w ⟨hr.ext, hr.hH, fun t => by simp only [look, RelV], hr.g, fun t _ => rfl, hr.kg, hr.n, hr.d⟩

theorem trOper_spec {ops : Array Oper} {o' : Oper} {o : AOper} (h : trOper cx ops o' = some o) :
    trDst cx o'.dst = some o.dst ∧ (∃ mu, trOp cx.P cx.K mu o' = some o.op) ∧ trGrd cx ops o'.guard = some o.grd := by
  unfold trOper at h
  split at h
  · rename_i d p g h1 h2 h3
    simp only [Option.some.injEq] at h; subst h
    exact ⟨h1, ⟨_, h2⟩, h3⟩
  · cases h

theorem trOp_noDefer {P : Program} {K : List Nat} {mu : Bool} {o : Oper} {ao : AOp} (h : trOp P K mu o = some ao) : ∀ c, o.op ≠ .defer c := by
  intro c hc; simp [trOp, hc] at h

/-- is a guarded operation carried out? -/
def gOk (e : Env) : Option (Od × Bool) → Option Bool
  | none => some true
  | some (x, want) => match ev e x with
    | .lit (.bool b) => some (b == want)
    | .lit (.tuple _) => some false
    | _ => none

theorem wanted_of {ops : Array Oper} {o' : Oper} {g : Option (Od × Bool)} {b : Bool} (hr : Rel cx st0 w0 st w e H a) (hgr : trGrd cx ops o'.guard = some g) (hg : gOk e g = some b) : Region.wanted o' (yielded ops a.tmps) = b := by
  cases hgu : o'.guard with
  | none =>
    simp only [hgu, trGrd, Option.some.injEq] at hgr; subst hgr
    simp only [gOk, Option.some.injEq] at hg; subst hg
    simp [Region.wanted, hgu]
  | some p =>
    obtain ⟨j, wt⟩ := p
    simp only [hgu, trGrd] at hgr
    split at hgr
    · rename_i dd hdd
      obtain ⟨z, hz, hzz⟩ := Option.map_eq_some_iff.1 hgr
      subst hzz
      have hv := hr.ops (.tmp dd) z hz
      simp only [Act.eval, Array.getD_eq_getD_getElem?] at hv
      simp only [gOk] at hg
      split at hg
      · rename_i c hx
        simp only [Option.some.injEq] at hg; subst hg
        rw [hx] at hv; simp only [RelV] at hv
        have hget : a.tmps[dd]? = some (.bool c) := by
          cases hq : a.tmps[dd]? with
          | none => rw [hq] at hv; simp [undef] at hv
          | some q => rw [hq] at hv; simp at hv; rw [hv]
        simp only [Region.wanted, hgu, yielded, hdd, Option.bind_some, hget]
        cases c <;> cases wt <;> rfl
      · rename_i vs hx
        simp only [Option.some.injEq] at hg; subst hg
        rw [hx] at hv; simp only [RelV] at hv
        have hget : ∀ c, a.tmps[dd]? ≠ some (.bool c) := by
          intro c hq; rw [hq] at hv; simp at hv
        simp only [Region.wanted, hgu, yielded, hdd, Option.bind_some]
        cases hq : a.tmps[dd]? with
        | none => rfl
        | some q =>
          cases q <;> first | rfl | exact absurd hq (hget _)
      · cases hg
    · cases hgr

/-- one operation, met -/
theorem AGo_op {o : AOper} {rest : List AOper} (hg : gOk e o.grd = some true)
    (h : ∀ (ops : Array Oper) (o' : Oper) (st0 : St) (w0 : World) (kc : List CItm) (l : List Nat), st0.loc.length = m → TrK cx st0 w0 k kc → TrL cx ops rest l → (∃ mu, trOp cx.P cx.K mu o' = some o.op) → trDst cx o'.dst = some o.dst →
      ∀ st a w, Rel cx st0 w0 st w e H a → ∀ (K' : Act → World → Prop) (Q : Exit → Act → World → Prop), (∀ st' e' H' a' w', Rel cx st0 w0 st' w' e' H' a' → AGo cx m (.ops rest :: k) R e' H' → K' a' w') →
        o'.uponIn (Fc cx.ro) 0 cx.P a K' Q ((execOp a.eval o').run cx.P w)) : AGo cx m (.ops (o :: rest) :: k) R e H := by
  intro st0 w0 kc hm hk st a w hr
  simp only [TrK] at hk
  obtain ⟨y, k', rfl, h1, h2⟩ := hk
  cases y <;> simp only [TrItm] at h1
  rename_i ops l
  simp only [TrL] at h1
  obtain ⟨i, l', o', rfl, ho, ht, hl⟩ := h1
  obtain ⟨hd, ⟨mu, hp⟩, hgr⟩ := trOper_spec ht
  simp only [GoK, wpOpsIn, ho]
  rw [if_pos (wanted_of hr hgr hg)]
  refine ⟨fun _ _ => trivial, ?_⟩
  rw [Oper.semAt_eq _ _ _ (trOp_noDefer hp)]
  refine h ops o' st0 w0 k' l' hm h2 hl ⟨mu, hp⟩ hd st a w hr _ _ fun st' e' H' a' w' hr' hgo => ?_
  have := hgo st0 w0 (.ops ops l' :: k') hm ⟨_, _, rfl, hl, h2⟩ st' a' w' hr'
  simpa only [GoK] using this

theorem upon_step {o' : Oper} {ad : Option (Bool × Nat)} {r : AV} (hrel : Rel cx st0 w0 st w e H a) (hd : trDst cx o'.dst = some ad) (hs : StepV cx.P a.eval o' st w r H')
    {K' : Act → World → Prop} {Q : Exit → Act → World → Prop} (hk : ∀ st' w' a', Rel cx st0 w0 st' w' (put e ad r) H' a' → K' a' w') : o'.uponIn (Fc cx.ro) 0 cx.P a K' Q ((execOp a.eval o').run cx.P w) := by
  obtain ⟨v, w', st', hrun, hext, hH', hr⟩ := hs
  rcases hrun with hrun | ⟨hrun, rfl⟩
  · rw [hrun]; simp only [Oper.uponIn]
    exact hk st' w' _ (hrel.put hext hH' hd hr)
  · rw [hrun]; simp only [Oper.uponIn]
    exact hk st' w' _ (hrel.put hext hH' hd hr)

section
variable {d : Option (Bool × Nat)} {op : AOp} {g : Option (Od × Bool)} {rest : List AOper}

theorem AGo_skipped (hg : gOk e g = some false) (h : AGo cx m (.ops rest :: k) R (put e d (.lit undef)) H) : AGo cx m (.ops (⟨d, op, g⟩ :: rest) :: k) R e H := by
  intro st0 w0 kc hm hk st a w hr
  simp only [TrK] at hk
  obtain ⟨y, k', rfl, h3, h4⟩ := hk
  cases y <;> simp only [TrItm] at h3
  rename_i ops l
  simp only [TrL] at h3
  obtain ⟨i, l', o', rfl, ho, ht, hl⟩ := h3
  obtain ⟨hd, ⟨mu, hp⟩, hgr⟩ := trOper_spec ht
  simp only [GoK, wpOpsIn, ho]
  rw [if_neg (by rw [wanted_of hr hgr hg]; simp)]
  refine ⟨fun _ _ => trivial, ?_⟩
  have := h st0 w0 (.ops ops l' :: k') hm ⟨_, _, rfl, hl, h4⟩ st (a.put o'.dst undef) w (hr.put (.refl _ _) hr.hH hd relLit)
  simpa only [GoK] using this

theorem AGo_val {r : AV} (hg : gOk e g = some true) (hv : opVal (ev e) H op = some r) (h : AGo cx m (.ops rest :: k) R (put e d r) H) : AGo cx m (.ops (⟨d, op, g⟩ :: rest) :: k) R e H := by
  refine AGo_op hg fun ops o' st0 w0 kc l hm hk hl hp hd st a w hrel K' Q hK => ?_
  obtain ⟨mu, hp⟩ := hp
  exact upon_step hrel hd (opVal_sound (fun a => rfl) hp hrel.ops hrel.hH hv) fun st' w' a' hr' => hK _ _ _ _ _ hr' h

theorem AGo_act {r : AV} (hg : gOk e g = some true) (hv : opAct (ev e) H op = some (r, H')) (h : AGo cx m (.ops rest :: k) R (put e d r) H') : AGo cx m (.ops (⟨d, op, g⟩ :: rest) :: k) R e H := by
  refine AGo_op hg fun ops o' st0 w0 kc l hm hk hl hp hd st a w hrel K' Q hK => ?_
  obtain ⟨mu, hp⟩ := hp
  exact upon_step hrel hd (opAct_sound hp hrel.ops hrel.hH hv) fun st' w' a' hr' => hK _ _ _ _ _ hr' h

/-! ### Calls -/
def callable (P : Program) (f : Nat) : Bool := match P.funcs[f]? with
  | some fn => fn.name != "runtime.NumGoroutine" && fn.body.isSome
  | none => false

/-- THE CONTRACT: called with these abstract values in this abstract heap the function returns, and what comes is of K. -/
def ACalls (P : Program) (f : Nat) (args : List AV) (H : AHeap) (K : AV → AHeap → Prop) : Prop :=
  callable P f = true ∧ ∀ st w vals, RelH st w H → RelL st args vals →
    Calls P f vals.toArray w fun x w' => ∃ v r H' st', x = .returned v ∧ Ext st w st' w' ∧ RelH st' w' H' ∧ RelV st' r v ∧ K r H'

theorem ACalls.mono {P : Program} {f : Nat} {args : List AV} {K K' : AV → AHeap → Prop} (h : ACalls P f args H K) (hk : ∀ r H', K r H' → K' r H') : ACalls P f args H K' :=
  ⟨h.1, fun st w vals hH hr => (h.2 st w vals hH hr).mono fun x w' ⟨v, r, H', st', e1, e2, e3, e4, e5⟩ => ⟨v, r, H', st', e1, e2, e3, e4, hk _ _ e5⟩⟩

theorem trOp_call {P : Program} {K : List Nat} {mu : Bool} {o : Oper} {f : Od} {xs : List Od} (h : trOp P K mu o = some (.call f xs)) :
    ∃ c f', o.op = .call c ∧ c.callee = .value f' ∧ od K f' = some f ∧ ods K c.args.toList = some xs := by
  cases hop : o.op <;> simp only [trOp, hop] at h
  case call c =>
    obtain ⟨callee, args, argTypes⟩ := c
    cases callee with
    | value f' =>
      simp only [trCall] at h
      split at h
      · rename_i g ys h1 h2
        simp only [Option.some.injEq, AOp.call.injEq] at h
        obtain ⟨rfl, rfl⟩ := h
        exact ⟨_, f', rfl, rfl, h1, h2⟩
      · cases h
    | invoke a b => simp [trCall] at h
    | builtin b =>
      exfalso
      simp only [trCall] at h
      repeat' split at h
      all_goals first
        | contradiction
        | (cases h; done)
        | (obtain ⟨ys, hys, h'⟩ := Option.map_eq_some_iff.1 h; cases h')
  all_goals
    exfalso
    repeat' split at h
    all_goals first
      | contradiction
      | (cases h; done)
      | (obtain ⟨ys, hys, h'⟩ := Option.map_eq_some_iff.1 h; cases h'; done)
      | (unfold trBin at h; repeat' split at h
         all_goals first
           | (cases h; done)
           | (simp only [Option.some.injEq] at h; cases h; done)
           | (obtain ⟨ys, hys, h'⟩ := Option.map_eq_some_iff.1 h; cases h'; done))

theorem AGo_call {f : Od} {xs : List Od} {fid : Nat} {caps : List AV} (hg : gOk e g = some true) (hf : ev e f = .fn fid caps)
    (h : ACalls cx.P fid (xs.map (ev e) ++ caps) H fun r H' => AGo cx m (.ops rest :: k) R (put e d r) H') : AGo cx m (.ops (⟨d, .call f xs, g⟩ :: rest) :: k) R e H := by
  refine AGo_op hg fun ops o' st0 w0 kc l hm hk hl hp hd st a w hrel K' Q hK => ?_
  obtain ⟨mu, hp⟩ := hp
  obtain ⟨c, f', hop, hcal, hf', hxs⟩ := trOp_call hp
  have hfv := hrel.ops f' f hf'
  rw [hf] at hfv; simp only [RelV] at hfv
  obtain ⟨us, hfv, hus⟩ := hfv
  have hargs := hrel.ops.list hxs
  obtain ⟨hc, hcalls⟩ := h
  unfold callable at hc
  split at hc
  · rename_i fn hfn
    simp only [Bool.and_eq_true, bne_iff_ne, ne_eq] at hc
    have hrun : (execOp a.eval o').run cx.P w = .ok (.enter fid ((c.args.map a.eval) ++ us)) w := by
      have hb : fn.body.isNone = false := by cases hx : fn.body <;> simp [hx] at hc ⊢
      have hn : (fn.name == "runtime.NumGoroutine") = false := by simpa using hc.1
      simp only [execOp, hop, resolve, hcal, Deferred.ofValue, hfv, Sem.run_bind, Sem.run_pure, Result.andThen_ok, invoke, callFunc, run_program, hfn, hn, hb, Bool.false_eq_true, if_false]
      simp
    rw [hrun]; simp only [Oper.uponIn]
    refine ⟨fun h => (by simp [Fc] at h), ?_⟩
    have h2 := hcalls st w (c.args.toList.map a.eval ++ us.toList) hrel.hH (hargs.append hus)
    have harr : (c.args.toList.map a.eval ++ us.toList).toArray = c.args.map a.eval ++ us := by apply Array.ext'; simp
    rw [harr] at h2
    have h3 := callsIn_wide (n := 0 - 1).2 h2
    refine CallsIn.mono (F := Fc cx.ro) h3 fun x w' hx => ?_
    obtain ⟨v, r, H', st', rfl, e2, e3, e4, e5⟩ := hx
    exact hK _ _ _ _ _ (hrel.put e2 e3 hd e4) e5
  · cases hc
end

/-! ### Values whose objects are all among the first -/
mutual
def AV.lt (n : Nat) (a : AV) : Prop := match a with
  | .agg cs => AV.ltL n cs
  | .tup cs => AV.ltL n cs
  | .fn _ cs => AV.ltL n cs
  | .mp id _ _ => id < n
  | .ms _ id _ _ _ => id < n
  | .yl id _ => id < n
  | _ => True
def AV.ltL (n : Nat) (as : List AV) : Prop := match as with
  | [] => True
  | a :: as => a.lt n ∧ AV.ltL n as
end

def St.take (st : St) (n : Nat) : St := ⟨st.rd, st.loc.take n⟩

mutual
theorem RelV.take {st : St} {n : Nat} : ∀ {a : AV} {v : Value}, a.lt n → RelV st a v → RelV (st.take n) a v
  | .bad, _, _, _ => by simp only [RelV]
  | .lit u, v, _, hv => by simp only [RelV] at hv ⊢; exact hv
  | .agg cs, v, hn, hv => by
    simp only [AV.lt] at hn
    simp only [RelV] at hv ⊢
    obtain ⟨us, h1, h2, h3⟩ := hv
    exact ⟨us, h1, RelL.takeSt hn h2, h3⟩
  | .tup cs, v, hn, hv => by
    simp only [AV.lt] at hn
    simp only [RelV] at hv ⊢
    obtain ⟨us, h1, h2⟩ := hv
    exact ⟨us, h1, RelL.takeSt hn h2⟩
  | .vs sz es, v, _, hv => by simp only [RelV] at hv ⊢; exact hv
  | .vp cs, v, _, hv => by simp only [RelV] at hv ⊢; exact hv
  | .mp id g off, v, hn, hv => by
    simp only [AV.lt] at hn
    simp only [RelV] at hv ⊢
    obtain ⟨l, h1, h2⟩ := hv
    exact ⟨l, by simp [St.take, List.getElem?_take_of_lt hn, h1], h2⟩
  | .ms sz id g off len, v, hn, hv => by
    simp only [AV.lt] at hn
    simp only [RelV] at hv ⊢
    obtain ⟨l, h1, h2⟩ := hv
    exact ⟨l, by simp [St.take, List.getElem?_take_of_lt hn, h1], h2⟩
  | .yl id g, v, hn, hv => by
    simp only [AV.lt] at hn
    simp only [RelV] at hv ⊢
    obtain ⟨l, h1, h2⟩ := hv
    exact ⟨l, by simp [St.take, List.getElem?_take_of_lt hn, h1], h2⟩
  | .es, v, _, hv => by simp only [RelV] at hv ⊢; exact hv
  | .fn f caps, v, hn, hv => by
    simp only [AV.lt] at hn
    simp only [RelV] at hv ⊢
    obtain ⟨us, h1, h2⟩ := hv
    exact ⟨us, h1, RelL.takeSt hn h2⟩
theorem RelL.takeSt {st : St} {n : Nat} : ∀ {as : List AV} {us : List Value}, AV.ltL n as → RelL st as us → RelL (st.take n) as us
  | [], us, _, hv => by simp only [RelL] at hv ⊢; exact hv
  | a :: as, us, hn, hv => by
    simp only [AV.ltL] at hn
    simp only [RelL] at hv ⊢
    obtain ⟨u, us', h1, h2, h3⟩ := hv
    exact ⟨u, us', h1, RelV.take hn.1 h2, RelL.takeSt hn.2 h3⟩
end

def AObj.lt (n : Nat) : AObj → Prop
  | .own _ cs => AV.ltL n cs
  | _ => True
def ltH (n : Nat) : AHeap → Prop
  | [] => True
  | x :: r => x.lt n ∧ ltH n r
def ltG (n : Nat) : List (Nat × AV) → Prop
  | [] => True
  | x :: r => x.2.lt n ∧ ltG n r

theorem ltH_get {n : Nat} : ∀ {H : AHeap} {i : Nat} {x : AObj}, ltH n H → H[i]? = some x → x.lt n
  | [], i, x, _, h => by simp at h
  | y :: r, 0, x, h, hx => by simp at hx; subst hx; exact h.1
  | y :: r, i + 1, x, h, hx => by simp at hx; exact ltH_get h.2 hx
theorem ltG_look {n : Nat} : ∀ {G : List (Nat × AV)} (t : Nat), ltG n G → (look G t).lt n
  | [], t, _ => by simp [look, AV.lt]
  | (i, v) :: r, t, h => by
    simp only [look]
    split
    · exact h.1
    · exact ltG_look t h.2

theorem RelH.take {H T : AHeap} (hH : RelH st w (H ++ T)) (hl : ltH H.length H) : RelH (st.take H.length) w H := by
  have hown : ∀ b, Owned (st.take H.length) b → Owned st b := by
    rintro b ⟨id, l, o, r, h1, h2⟩
    simp only [St.take, List.getElem?_take] at h1
    split at h1
    · exact ⟨id, l, o, r, h1, h2⟩
    · cases h1
  have hget : ∀ (id : Nat) (l : Loc), (st.take H.length).loc[id]? = some l → st.loc[id]? = some l ∧ id < H.length := by
    intro id l h
    simp only [St.take, List.getElem?_take] at h
    split at h
    · rename_i hlt; exact ⟨h, hlt⟩
    · cases h
  refine ⟨by simp [St.take, hH.len], fun b o c hc => ⟨(hH.rd b o c hc).1, (hH.rd b o c hc).2.1, fun ho => (hH.rd b o c hc).2.2 (hown b ho)⟩, ?_, ?_⟩
  · intro id l X h1 hX
    obtain ⟨h1, hlt⟩ := hget id l h1
    have := hH.obj id l X h1 (by rw [List.getElem?_append_left hlt]; exact hX)
    have hx := ltH_get hl hX
    cases X with
    | gone => exact this
    | own g cs =>
      simp only [ObjOk] at this ⊢
      refine ⟨this.1, fun b o r hb => ?_⟩
      obtain ⟨arr, T, us, f1, f2, f3, f4, f5, f6⟩ := this.2 b o r hb
      exact ⟨arr, T, us, f1, f2, f3, RelL.takeSt hx f4, f5, f6⟩
    | raw g ob => exact this
  · intro id id' l l' b o r o' r' h1 h2
    exact hH.inj id id' l l' b o r o' r' (hget id l h1).1 (hget id' l' h2).1

theorem Ext.take {n : Nat} (h : Ext st0 w0 st w) (hn : st0.loc.length ≤ n) : Ext st0 w0 (st.take n) w where
  le := ⟨h.le.rd, fun id l hl => by
    obtain ⟨l', h1, h2⟩ := h.le.loc id l hl
    have : id < n := Nat.lt_of_lt_of_le (List.getElem?_eq_some_iff.1 hl).1 hn
    exact ⟨l', by simp [St.take, List.getElem?_take_of_lt this, h1], h2⟩⟩
  size := h.size
  frame := h.frame
  own := fun b ⟨id, l, o, r, h1, h2⟩ => h.own b (by
    simp only [St.take, List.getElem?_take] at h1
    split at h1
    · exact ⟨id, l, o, r, h1, h2⟩
    · cases h1)
  os := h.os
  output := h.output
  fro := h.fro
  rdn := h.rdn

/-! ### Loops -/
/-- the temporaries that are named hold what is said -/
def Fits (e : Env) : List (Nat × AV) → Prop
  | [] => True
  | (t, v) :: r => look e.g t = v ∧ Fits e r

theorem Fits.look {S : List (Nat × AV)} (h : Fits e S) (t : Nat) : look S t = .bad ∨ look S t = look e.g t := by
  induction S with
  | nil => exact .inl rfl
  | cons x r ih =>
    obtain ⟨i, v⟩ := x
    simp only [Go.Sas.look]
    split
    · rename_i hi; subst hi; exact .inr h.1.symm
    · exact ih h.2

theorem Rel.fits {S : List (Nat × AV)} (h : Rel cx st0 w0 st w e H a) (hf : Fits e S) : Rel cx st0 w0 st w ⟨[], S⟩ H a :=
  ⟨h.ext, h.hH, fun t => by simp only [look, RelV], fun t => by
    rcases hf.look t with h1 | h1
    · rw [h1]; simp only [RelV]
    · rw [h1]; exact h.g t, fun t _ => rfl, fun t ht => by
    rcases hf.look t with h1 | h1
    · exact h1
    · rw [h1]; exact h.kg t ht, h.n, h.d⟩

/-- the heap is this one, with objects behind it that nobody names -/
def HFits (m : Nat) (S : List (Nat × AV)) (H0 H : AHeap) : Prop := H = H0 ∨ ((∃ T, H = H0 ++ T) ∧ m ≤ H0.length ∧ ltG H0.length S ∧ ltH H0.length H0)

theorem Rel.hfits {S : List (Nat × AV)} {H0 : AHeap} (h : Rel cx st0 w0 st w ⟨[], S⟩ H a) (hm : st0.loc.length = m) (hf : HFits m S H0 H) : ∃ st', Rel cx st0 w0 st' w ⟨[], S⟩ H0 a := by
  rcases hf with rfl | ⟨⟨T, rfl⟩, h1, h2, h3⟩
  · exact ⟨st, h⟩
  · refine ⟨st.take H0.length, h.ext.take (by omega), h.hH.take h3, fun t => by simp only [look, RelV], fun t => ?_, h.kl, h.kg, h.n, h.d⟩
    exact RelV.take (ltG_look t h2) (h.g t)

theorem least {p : Nat → Prop} (h : ∃ n, p n) : ∃ n, p n ∧ ∀ j, p j → n ≤ j := by
  obtain ⟨n, hn⟩ := h
  induction n using Nat.strongRecOn with
  | _ n ih =>
    by_cases hx : ∃ j, j < n ∧ p j
    · obtain ⟨j, hj, hp⟩ := hx; exact ih j hj hp
    · exact ⟨n, hn, fun j hj => Nat.le_of_not_lt fun hlt => hx ⟨j, hlt, hj⟩⟩

theorem AGo_loop {σ : Type} {c : ACode} (S : σ → List (Nat × AV)) (HS : σ → AHeap) (μ : σ → Nat) (x0 : σ) (h0 : Fits e (S x0)) (hH0 : HFits m (S x0) (HS x0) H)
    (hround : ∀ x, AGo cx m (.code c :: .bk (fun e' H' => ∃ x', μ x' < μ x ∧ Fits e' (S x') ∧ HFits m (S x') (HS x') H') :: k) R ⟨[], S x⟩ (HS x)) :
    AGo cx m (.code (.loop c) :: k) R e H := by
  refine AGo_code fun cc Q st0 w0 kc hm hk ht hn hx hr st a w hrel => ?_
  cases cc <;> (try simp only [trCode] at ht)
  case region id ops d => cases d <;> simp [trCode] at ht
  case loop c1 =>
    obtain ⟨c', h1, h2⟩ := Option.map_eq_some_iff.1 ht
    cases h2
    let I : Act → World → σ → Prop := fun a w x => ∃ st, Rel cx st0 w0 st w ⟨[], S x⟩ (HS x) a
    have hI0 : ∃ x, I a w x := by
      obtain ⟨st', hst'⟩ := (hrel.fits h0).hfits hm hH0
      exact ⟨x0, st', hst'⟩
    have hex : ∀ a w, (∃ x, I a w x) → ∃ n, ∃ x, I a w x ∧ μ x = n := fun a w ⟨x, hx⟩ => ⟨_, x, hx, rfl⟩
    classical
    let M : Act → World → Nat := fun a w => if h : ∃ n, ∃ x, I a w x ∧ μ x = n then Classical.choose (least h) else 0
    have hM : ∀ a w x, I a w x → M a w ≤ μ x := by
      intro a w x hx
      have h : ∃ n, ∃ x, I a w x ∧ μ x = n := ⟨_, x, hx, rfl⟩
      simp only [M, dif_pos h]
      exact (Classical.choose_spec (least h)).2 _ ⟨x, hx, rfl⟩
    have hM2 : ∀ a w, (∃ x, I a w x) → ∃ x, I a w x ∧ μ x = M a w := by
      intro a w hx
      have h := hex a w hx
      simp only [M, dif_pos h]
      exact (Classical.choose_spec (least h)).1
    refine wpIn_loop (fun a w => ∃ x, I a w x) M hI0 fun a w hIx => ?_
    obtain ⟨x, ⟨st1, hx1⟩, hxM⟩ := hM2 a w hIx
    have := hround x st0 w0 (.code c1 :: .bk _ :: kc) hm ⟨_, _, rfl, h1, _, _, rfl, rfl, hk⟩ st1 a w hx1
    simp only [GoK, ExK] at this
    refine wpIn_mono this fun ex a' w' hq => ?_
    cases ex <;> simp only [Exit.then] at hq ⊢
    case normal =>
      obtain ⟨st2, e2, H2, hr2, x', hlt, hf, hhf⟩ := hq
      obtain ⟨st3, hst3⟩ := (hr2.fits hf).hfits hm hhf
      have hIx' : I a' w' x' := ⟨st3, hst3⟩
      exact ⟨⟨x', hIx'⟩, by have := hM a' w' x' hIx'; omega⟩
    case exit i => exact hx _ _ _ hq
    case ret => exact hr _ _ hq
    all_goals exact hq.elim
  all_goals first | cases ht | (split at ht <;> cases ht) | (obtain ⟨_, _, h'⟩ := Option.map_eq_some_iff.1 ht; cases h')

/-- forget what is not wanted any more -/
theorem AGo_forget (S : List (Nat × AV)) (H0 : AHeap) (hf : Fits e S) (hh : HFits m S H0 H) (h : AGo cx m k R ⟨[], S⟩ H0) (hk : ∀ l r, k ≠ .ops l :: r) : AGo cx m k R e H := by
  intro st0 w0 kc hm hk st a w hr
  obtain ⟨st', h1⟩ := (hr.fits hf).hfits hm hh
  exact h st0 w0 kc hm hk st' a w h1
end Go.Sas
