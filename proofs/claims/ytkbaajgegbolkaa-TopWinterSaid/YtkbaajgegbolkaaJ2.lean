/-
An abstract machine over values, part 9: the rules for operations, calls and loops; contracts of functions.
An abstract machine over values, part 10: from a body to a contract; freezing; runs of plain steps.
An abstract machine over values, part 11: a contract over few objects holds in every greater heap.
An abstract machine over values, part 12: regions that draw their order of evaluation.
An abstract machine over values, part 13: the rule for regions that draw their order of evaluation.
An abstract machine over values, part 14: runs through regions that draw their order; what nobody writes any more; calls of functions that name no object.
An abstract machine over values, part 15: a body, run until there is something to be shown; from it to a contract.
Short names for operations of codes, and the shape of a code's entry.
Conditions: none.
-/
import Derived.Test.YtkbaajgegbolkaaJ1
import Derived.RangeFuncLeaves
import Derived.RangeFuncRecord
set_option linter.unusedVariables false
set_option linter.unusedSimpArgs false
namespace Go.Sas
variable {cx : Cx} {st0 st st' : St} {w0 w w' : World} {e e' : Env} {H H' : AHeap} {a : Act} {m : Nat} {k : List AItm} {R : Env → AHeap → Prop}

/-! ### Operations -/
theorem AGo_ops_nil (h : AGo cx m k R ⟨[], e.g⟩ H) : AGo cx m (.ops [] :: k) R e H := by
  intro st0 w0 kc hm hk st a w hr
  simp only [TrK] at hk
  obtain ⟨y, k', rfl, h1, h2⟩ := hk
  cases y <;> simp only [TrItm] at h1
  simp only [TrL] at h1; subst h1
  simp only [GoK, wpOpsIn]
  exact h st0 w0 k' hm h2 st a w ⟨hr.ext, hr.hH, fun t => by simp only [look, RelV], hr.g, fun t _ => rfl, hr.kg, hr.n, hr.d⟩

theorem trOper_spec {ops : Array Oper} {o' : Oper} {o : AOper} (h : trOper cx ops o' = some o) :
    trDst cx o'.dst = some o.dst ∧ (∃ mu, trOp cx.P cx.K mu o' = some o.op) ∧ trGrd cx ops o'.guard = some o.grd := by
  unfold trOper at h
  split at h
  · rename_i d p g h1 h2 h3
    simp only [Option.some.injEq] at h; subst h
    exact ⟨h1, ⟨_, h2⟩, h3⟩
  · cases h

theorem trOp_noDefer {P : Program} {K : List Nat} {mu : Bool} {o : Oper} {ao : AOp} (h : trOp P K mu o = some ao) : ∀ c, o.op ≠ .defer c := by
  intro c hc; simp [trOp, hc] at h

/-- is a guarded operation carried out? -/
def gOk (e : Env) : Option (Od × Bool) → Option Bool
  | none => some true
  | some (x, want) => match ev e x with
    | .lit (.bool b) => some (b == want)
    | .lit (.tuple _) => some false
    | _ => none

theorem wanted_of {ops : Array Oper} {o' : Oper} {g : Option (Od × Bool)} {b : Bool} (hr : Rel cx st0 w0 st w e H a) (hgr : trGrd cx ops o'.guard = some g) (hg : gOk e g = some b) : Region.wanted o' (yielded ops a.tmps) = b := by
  cases hgu : o'.guard with
  | none =>
    simp only [hgu, trGrd, Option.some.injEq] at hgr; subst hgr
    simp only [gOk, Option.some.injEq] at hg; subst hg
    simp [Region.wanted, hgu]
  | some p =>
    obtain ⟨j, wt⟩ := p
    simp only [hgu, trGrd] at hgr
    split at hgr
    · rename_i dd hdd
      obtain ⟨z, hz, hzz⟩ := Option.map_eq_some_iff.1 hgr
      subst hzz
      have hv := hr.ops (.tmp dd) z hz
      simp only [Act.eval, Array.getD_eq_getD_getElem?] at hv
      simp only [gOk] at hg
      split at hg
      · rename_i c hx
        simp only [Option.some.injEq] at hg; subst hg
        rw [hx] at hv; simp only [RelV] at hv
        have hget : a.tmps[dd]? = some (.bool c) := by
          cases hq : a.tmps[dd]? with
          | none => rw [hq] at hv; simp [undef] at hv
          | some q => rw [hq] at hv; simp at hv; rw [hv]
        simp only [Region.wanted, hgu, yielded, hdd, Option.bind_some, hget]
        cases c <;> cases wt <;> rfl
      · rename_i vs hx
        simp only [Option.some.injEq] at hg; subst hg
        rw [hx] at hv; simp only [RelV] at hv
        have hget : ∀ c, a.tmps[dd]? ≠ some (.bool c) := by
          intro c hq; rw [hq] at hv; simp at hv
        simp only [Region.wanted, hgu, yielded, hdd, Option.bind_some]
        cases hq : a.tmps[dd]? with
        | none => rfl
        | some q =>
          cases q <;> first | rfl | exact absurd hq (hget _)
      · cases hg
    · cases hgr

/-- one operation, met -/
theorem AGo_op {o : AOper} {rest : List AOper} (hg : gOk e o.grd = some true)
    (h : ∀ (ops : Array Oper) (o' : Oper) (st0 : St) (w0 : World) (kc : List CItm) (l : List Nat), st0.loc.length = m → TrK cx st0 w0 k kc → TrL cx ops rest l → (∃ mu, trOp cx.P cx.K mu o' = some o.op) → trDst cx o'.dst = some o.dst →
      ∀ st a w, Rel cx st0 w0 st w e H a → ∀ (K' : Act → World → Prop) (Q : Exit → Act → World → Prop), (∀ st' e' H' a' w', Rel cx st0 w0 st' w' e' H' a' → AGo cx m (.ops rest :: k) R e' H' → K' a' w') →
        o'.uponIn (Fc cx.ro) 0 cx.P a K' Q ((execOp a.eval o').run cx.P w)) : AGo cx m (.ops (o :: rest) :: k) R e H := by
  intro st0 w0 kc hm hk st a w hr
  simp only [TrK] at hk
  obtain ⟨y, k', rfl, h1, h2⟩ := hk
  cases y <;> simp only [TrItm] at h1
  rename_i ops l
  simp only [TrL] at h1
  obtain ⟨i, l', o', rfl, ho, ht, hl⟩ := h1
  obtain ⟨hd, ⟨mu, hp⟩, hgr⟩ := trOper_spec ht
  simp only [GoK, wpOpsIn, ho]
  rw [if_pos (wanted_of hr hgr hg)]
  refine ⟨fun _ _ => trivial, ?_⟩
  rw [Oper.semAt_eq _ _ _ (trOp_noDefer hp)]
  refine h ops o' st0 w0 k' l' hm h2 hl ⟨mu, hp⟩ hd st a w hr _ _ fun st' e' H' a' w' hr' hgo => ?_
  have := hgo st0 w0 (.ops ops l' :: k') hm ⟨_, _, rfl, hl, h2⟩ st' a' w' hr'
  simpa only [GoK] using this

theorem upon_step {o' : Oper} {ad : Option (Bool × Nat)} {r : AV} (hrel : Rel cx st0 w0 st w e H a) (hd : trDst cx o'.dst = some ad) (hs : StepV cx.P a.eval o' st w r H')
    {K' : Act → World → Prop} {Q : Exit → Act → World → Prop} (hk : ∀ st' w' a', Rel cx st0 w0 st' w' (put e ad r) H' a' → K' a' w') : o'.uponIn (Fc cx.ro) 0 cx.P a K' Q ((execOp a.eval o').run cx.P w) := by
  obtain ⟨v, w', st', hrun, hext, hH', hr⟩ := hs
  rcases hrun with hrun | ⟨hrun, rfl⟩
  · rw [hrun]; simp only [Oper.uponIn]
    exact hk st' w' _ (hrel.put hext hH' hd hr)
  · rw [hrun]; simp only [Oper.uponIn]
    exact hk st' w' _ (hrel.put hext hH' hd hr)

section
variable {d : Option (Bool × Nat)} {op : AOp} {g : Option (Od × Bool)} {rest : List AOper}

theorem AGo_skipped (hg : gOk e g = some false) (h : AGo cx m (.ops rest :: k) R (put e d (.lit undef)) H) : AGo cx m (.ops (⟨d, op, g⟩ :: rest) :: k) R e H := by
  intro st0 w0 kc hm hk st a w hr
  simp only [TrK] at hk
  obtain ⟨y, k', rfl, h3, h4⟩ := hk
  cases y <;> simp only [TrItm] at h3
  rename_i ops l
  simp only [TrL] at h3
  obtain ⟨i, l', o', rfl, ho, ht, hl⟩ := h3
  obtain ⟨hd, ⟨mu, hp⟩, hgr⟩ := trOper_spec ht
  simp only [GoK, wpOpsIn, ho]
  rw [if_neg (by rw [wanted_of hr hgr hg]; simp)]
  refine ⟨fun _ _ => trivial, ?_⟩
  have := h st0 w0 (.ops ops l' :: k') hm ⟨_, _, rfl, hl, h4⟩ st (a.put o'.dst undef) w (hr.put (.refl _ _) hr.hH hd relLit)
  simpa only [GoK] using this

theorem AGo_val {r : AV} (hg : gOk e g = some true) (hv : opVal (ev e) H op = some r) (h : AGo cx m (.ops rest :: k) R (put e d r) H) : AGo cx m (.ops (⟨d, op, g⟩ :: rest) :: k) R e H := by
  refine AGo_op hg fun ops o' st0 w0 kc l hm hk hl hp hd st a w hrel K' Q hK => ?_
  obtain ⟨mu, hp⟩ := hp
  exact upon_step hrel hd (opVal_sound (fun a => rfl) hp hrel.ops hrel.hH hv) fun st' w' a' hr' => hK _ _ _ _ _ hr' h

theorem AGo_act {r : AV} (hg : gOk e g = some true) (hv : opAct (ev e) H op = some (r, H')) (h : AGo cx m (.ops rest :: k) R (put e d r) H') : AGo cx m (.ops (⟨d, op, g⟩ :: rest) :: k) R e H := by
  refine AGo_op hg fun ops o' st0 w0 kc l hm hk hl hp hd st a w hrel K' Q hK => ?_
  obtain ⟨mu, hp⟩ := hp
  exact upon_step hrel hd (opAct_sound hp hrel.ops hrel.hH hv) fun st' w' a' hr' => hK _ _ _ _ _ hr' h

/-! ### Calls -/
def callable (P : Program) (f : Nat) : Bool := match P.funcs[f]? with
  | some fn => fn.name != "runtime.NumGoroutine" && fn.body.isSome
  | none => false

/-- THE CONTRACT: called with these abstract values in this abstract heap the function returns, and what comes is of K. -/
def ACalls (P : Program) (f : Nat) (args : List AV) (H : AHeap) (K : AV → AHeap → Prop) : Prop :=
  callable P f = true ∧ ∀ st w vals, RelH st w H → RelL st args vals →
    Calls P f vals.toArray w fun x w' => ∃ v r H' st', x = .returned v ∧ Ext st w st' w' ∧ RelH st' w' H' ∧ RelV st' r v ∧ K r H'

theorem ACalls.mono {P : Program} {f : Nat} {args : List AV} {K K' : AV → AHeap → Prop} (h : ACalls P f args H K) (hk : ∀ r H', K r H' → K' r H') : ACalls P f args H K' :=
  ⟨h.1, fun st w vals hH hr => (h.2 st w vals hH hr).mono fun x w' ⟨v, r, H', st', e1, e2, e3, e4, e5⟩ => ⟨v, r, H', st', e1, e2, e3, e4, hk _ _ e5⟩⟩

theorem trOp_call {P : Program} {K : List Nat} {mu : Bool} {o : Oper} {f : Od} {xs : List Od} (h : trOp P K mu o = some (.call f xs)) :
    ∃ c f', o.op = .call c ∧ c.callee = .value f' ∧ od K f' = some f ∧ ods K c.args.toList = some xs := by
  cases hop : o.op <;> simp only [trOp, hop] at h
  case call c =>
    obtain ⟨callee, args, argTypes⟩ := c
    cases callee with
    | value f' =>
      simp only [trCall] at h
      split at h
      · rename_i g ys h1 h2
        simp only [Option.some.injEq, AOp.call.injEq] at h
        obtain ⟨rfl, rfl⟩ := h
        exact ⟨_, f', rfl, rfl, h1, h2⟩
      · cases h
    | invoke a b => simp [trCall] at h
    | builtin b =>
      exfalso
      simp only [trCall] at h
      repeat' split at h
      all_goals first
        | contradiction
        | (cases h; done)
        | (obtain ⟨ys, hys, h'⟩ := Option.map_eq_some_iff.1 h; cases h')
  all_goals
    exfalso
    repeat' split at h
    all_goals first
      | contradiction
      | (cases h; done)
      | (obtain ⟨ys, hys, h'⟩ := Option.map_eq_some_iff.1 h; cases h'; done)
      | (unfold trBin at h; repeat' split at h
         all_goals first
           | (cases h; done)
           | (simp only [Option.some.injEq] at h; cases h; done)
           | (obtain ⟨ys, hys, h'⟩ := Option.map_eq_some_iff.1 h; cases h'; done))

theorem AGo_call {f : Od} {xs : List Od} {fid : Nat} {caps : List AV} (hg : gOk e g = some true) (hf : ev e f = .fn fid caps)
    (h : ACalls cx.P fid (xs.map (ev e) ++ caps) H fun r H' => AGo cx m (.ops rest :: k) R (put e d r) H') : AGo cx m (.ops (⟨d, .call f xs, g⟩ :: rest) :: k) R e H := by
  refine AGo_op hg fun ops o' st0 w0 kc l hm hk hl hp hd st a w hrel K' Q hK => ?_
  obtain ⟨mu, hp⟩ := hp
  obtain ⟨c, f', hop, hcal, hf', hxs⟩ := trOp_call hp
  have hfv := hrel.ops f' f hf'
  rw [hf] at hfv; simp only [RelV] at hfv
  obtain ⟨us, hfv, hus⟩ := hfv
  have hargs := hrel.ops.list hxs
  obtain ⟨hc, hcalls⟩ := h
  unfold callable at hc
  split at hc
  · rename_i fn hfn
    simp only [Bool.and_eq_true, bne_iff_ne, ne_eq] at hc
    have hrun : (execOp a.eval o').run cx.P w = .ok (.enter fid ((c.args.map a.eval) ++ us)) w := by
      have hb : fn.body.isNone = false := by cases hx : fn.body <;> simp [hx] at hc ⊢
      have hn : (fn.name == "runtime.NumGoroutine") = false := by simpa using hc.1
      simp only [execOp, hop, resolve, hcal, Deferred.ofValue, hfv, Sem.run_bind, Sem.run_pure, Result.andThen_ok, invoke, callFunc, run_program, hfn, hn, hb, Bool.false_eq_true, if_false]
      simp
    rw [hrun]; simp only [Oper.uponIn]
    refine ⟨fun h => (by simp [Fc] at h), ?_⟩
    have h2 := hcalls st w (c.args.toList.map a.eval ++ us.toList) hrel.hH (hargs.append hus)
    have harr : (c.args.toList.map a.eval ++ us.toList).toArray = c.args.map a.eval ++ us := by apply Array.ext'; simp
    rw [harr] at h2
    have h3 := callsIn_wide (n := 0 - 1).2 h2
    refine CallsIn.mono (F := Fc cx.ro) h3 fun x w' hx => ?_
    obtain ⟨v, r, H', st', rfl, e2, e3, e4, e5⟩ := hx
    exact hK _ _ _ _ _ (hrel.put e2 e3 hd e4) e5
  · cases hc
end

/-! ### Values whose objects are all among the first -/
mutual
def AV.lt (n : Nat) (a : AV) : Prop := match a with
  | .agg cs => AV.ltL n cs
  | .tup cs => AV.ltL n cs
  | .fn _ cs => AV.ltL n cs
  | .mp id _ _ => id < n
  | .ms _ id _ _ _ => id < n
  | .yl id _ => id < n
  | _ => True
def AV.ltL (n : Nat) (as : List AV) : Prop := match as with
  | [] => True
  | a :: as => a.lt n ∧ AV.ltL n as
end

def St.take (st : St) (n : Nat) : St := ⟨st.rd, st.loc.take n⟩

mutual
theorem RelV.take {st : St} {n : Nat} : ∀ {a : AV} {v : Value}, a.lt n → RelV st a v → RelV (st.take n) a v
  | .bad, _, _, _ => by simp only [RelV]
  | .lit u, v, _, hv => by simp only [RelV] at hv ⊢; exact hv
  | .agg cs, v, hn, hv => by
    simp only [AV.lt] at hn
    simp only [RelV] at hv ⊢
    obtain ⟨us, h1, h2, h3⟩ := hv
    exact ⟨us, h1, RelL.takeSt hn h2, h3⟩
  | .tup cs, v, hn, hv => by
    simp only [AV.lt] at hn
    simp only [RelV] at hv ⊢
    obtain ⟨us, h1, h2⟩ := hv
    exact ⟨us, h1, RelL.takeSt hn h2⟩
  | .vs sz es, v, _, hv => by simp only [RelV] at hv ⊢; exact hv
  | .vp cs, v, _, hv => by simp only [RelV] at hv ⊢; exact hv
  | .mp id g off, v, hn, hv => by
    simp only [AV.lt] at hn
    simp only [RelV] at hv ⊢
    obtain ⟨l, h1, h2⟩ := hv
    exact ⟨l, by simp [St.take, List.getElem?_take_of_lt hn, h1], h2⟩
  | .ms sz id g off len, v, hn, hv => by
    simp only [AV.lt] at hn
    simp only [RelV] at hv ⊢
    obtain ⟨l, h1, h2⟩ := hv
    exact ⟨l, by simp [St.take, List.getElem?_take_of_lt hn, h1], h2⟩
  | .yl id g, v, hn, hv => by
    simp only [AV.lt] at hn
    simp only [RelV] at hv ⊢
    obtain ⟨l, h1, h2⟩ := hv
    exact ⟨l, by simp [St.take, List.getElem?_take_of_lt hn, h1], h2⟩
  | .es, v, _, hv => by simp only [RelV] at hv ⊢; exact hv
  | .nni, v, _, hv => by simp only [RelV] at hv ⊢; exact hv
  | .fn f caps, v, hn, hv => by
    simp only [AV.lt] at hn
    simp only [RelV] at hv ⊢
    obtain ⟨us, h1, h2⟩ := hv
    exact ⟨us, h1, RelL.takeSt hn h2⟩
theorem RelL.takeSt {st : St} {n : Nat} : ∀ {as : List AV} {us : List Value}, AV.ltL n as → RelL st as us → RelL (st.take n) as us
  | [], us, _, hv => by simp only [RelL] at hv ⊢; exact hv
  | a :: as, us, hn, hv => by
    simp only [AV.ltL] at hn
    simp only [RelL] at hv ⊢
    obtain ⟨u, us', h1, h2, h3⟩ := hv
    exact ⟨u, us', h1, RelV.take hn.1 h2, RelL.takeSt hn.2 h3⟩
end

def AObj.lt (n : Nat) : AObj → Prop
  | .own _ cs => AV.ltL n cs
  | .raw _ _ es _ => AV.ltL n es
  | .gone => True
def ltH (n : Nat) : AHeap → Prop
  | [] => True
  | x :: r => x.lt n ∧ ltH n r
def ltG (n : Nat) : List (Nat × AV) → Prop
  | [] => True
  | x :: r => x.2.lt n ∧ ltG n r

theorem ltH_get {n : Nat} : ∀ {H : AHeap} {i : Nat} {x : AObj}, ltH n H → H[i]? = some x → x.lt n
  | [], i, x, _, h => by simp at h
  | y :: r, 0, x, h, hx => by simp at hx; subst hx; exact h.1
  | y :: r, i + 1, x, h, hx => by simp at hx; exact ltH_get h.2 hx
theorem ltG_look {n : Nat} : ∀ {G : List (Nat × AV)} (t : Nat), ltG n G → (look G t).lt n
  | [], t, _ => by simp [look, AV.lt]
  | (i, v) :: r, t, h => by
    simp only [look]
    split
    · exact h.1
    · exact ltG_look t h.2

theorem owned_take {st : St} {n b : Nat} (h : Owned (st.take n) b) : Owned st b := by
  obtain ⟨id, l, o, r, h1, h2⟩ := h
  simp only [St.take, List.getElem?_take] at h1
  split at h1
  · exact ⟨id, l, o, r, h1, h2⟩
  · cases h1
theorem RelH.take {H T : AHeap} (hH : RelH st w (H ++ T)) (hl : ltH H.length H) : RelH (st.take H.length) w H := by
  have hown : ∀ b, Owned (st.take H.length) b → Owned st b := by
    rintro b ⟨id, l, o, r, h1, h2⟩
    simp only [St.take, List.getElem?_take] at h1
    split at h1
    · exact ⟨id, l, o, r, h1, h2⟩
    · cases h1
  have hget : ∀ (id : Nat) (l : Loc), (st.take H.length).loc[id]? = some l → st.loc[id]? = some l ∧ id < H.length := by
    intro id l h
    simp only [St.take, List.getElem?_take] at h
    split at h
    · rename_i hlt; exact ⟨h, hlt⟩
    · cases h
  refine ⟨by simp [St.take, hH.len], fun b o c hc => ⟨(hH.rd b o c hc).1, (hH.rd b o c hc).2.1, fun ho => (hH.rd b o c hc).2.2 (hown b ho)⟩, ?_, ?_⟩
  · intro id l X h1 hX
    obtain ⟨h1, hlt⟩ := hget id l h1
    have := hH.obj id l X h1 (by rw [List.getElem?_append_left hlt]; exact hX)
    have hx := ltH_get hl hX
    cases X with
    | gone => exact this
    | own g cs =>
      simp only [ObjOk] at this ⊢
      refine ⟨this.1, fun b o r hb => ?_⟩
      obtain ⟨arr, T, us, f1, f2, f3, f4, f5, f6⟩ := this.2 b o r hb
      exact ⟨arr, T, us, f1, f2, f3, RelL.takeSt hx f4, f5, f6⟩
    | raw g ob es us => exact ⟨this.1, RelL.takeSt hx this.2.1, this.2.2⟩
  · intro id id' l l' b o r o' r' h1 h2
    exact hH.inj id id' l l' b o r o' r' (hget id l h1).1 (hget id' l' h2).1

theorem Ext.take {n : Nat} (h : Ext st0 w0 st w) (hn : st0.loc.length ≤ n) : Ext st0 w0 (st.take n) w where
  le := ⟨h.le.rd, fun id l hl => by
    obtain ⟨l', h1, h2⟩ := h.le.loc id l hl
    have : id < n := Nat.lt_of_lt_of_le (List.getElem?_eq_some_iff.1 hl).1 hn
    exact ⟨l', by simp [St.take, List.getElem?_take_of_lt this, h1], h2⟩⟩
  size := h.size
  frame := h.frame
  own := fun b ⟨id, l, o, r, h1, h2⟩ => h.own b (by
    simp only [St.take, List.getElem?_take] at h1
    split at h1
    · exact ⟨id, l, o, r, h1, h2⟩
    · cases h1)
  os := h.os
  output := h.output
  rdn := h.rdn

/-! ### Loops -/
/-- the temporaries that are named hold what is said -/
def Fits (e : Env) : List (Nat × AV) → Prop
  | [] => True
  | (t, v) :: r => look e.g t = v ∧ Fits e r

theorem Fits.look {S : List (Nat × AV)} (h : Fits e S) (t : Nat) : look S t = .bad ∨ look S t = look e.g t := by
  induction S with
  | nil => exact .inl rfl
  | cons x r ih =>
    obtain ⟨i, v⟩ := x
    simp only [Go.Sas.look]
    split
    · rename_i hi; subst hi; exact .inr h.1.symm
    · exact ih h.2

theorem Rel.fits {S : List (Nat × AV)} (h : Rel cx st0 w0 st w e H a) (hf : Fits e S) : Rel cx st0 w0 st w ⟨[], S⟩ H a :=
  ⟨h.ext, h.hH, fun t => by simp only [look, RelV], fun t => by
    rcases hf.look t with h1 | h1
    · rw [h1]; simp only [RelV]
    · rw [h1]; exact h.g t, fun t _ => rfl, fun t ht => by
    rcases hf.look t with h1 | h1
    · exact h1
    · rw [h1]; exact h.kg t ht, h.n, h.d⟩

/-- the heap is this one, with objects behind it that nobody names -/
def HFits (m : Nat) (S : List (Nat × AV)) (H0 H : AHeap) : Prop := H = H0 ∨ ((∃ T, H = H0 ++ T) ∧ m ≤ H0.length ∧ ltG H0.length S ∧ ltH H0.length H0)

theorem Rel.hfits {S : List (Nat × AV)} {H0 : AHeap} (h : Rel cx st0 w0 st w ⟨[], S⟩ H a) (hm : st0.loc.length = m) (hf : HFits m S H0 H) : ∃ st', Rel cx st0 w0 st' w ⟨[], S⟩ H0 a := by
  rcases hf with rfl | ⟨⟨T, rfl⟩, h1, h2, h3⟩
  · exact ⟨st, h⟩
  · refine ⟨st.take H0.length, h.ext.take (by omega), h.hH.take h3, fun t => by simp only [look, RelV], fun t => ?_, h.kl, h.kg, h.n, h.d.sub fun b hb => owned_take hb⟩
    exact RelV.take (ltG_look t h2) (h.g t)

theorem least {p : Nat → Prop} (h : ∃ n, p n) : ∃ n, p n ∧ ∀ j, p j → n ≤ j := by
  obtain ⟨n, hn⟩ := h
  induction n using Nat.strongRecOn with
  | _ n ih =>
    by_cases hx : ∃ j, j < n ∧ p j
    · obtain ⟨j, hj, hp⟩ := hx; exact ih j hj hp
    · exact ⟨n, hn, fun j hj => Nat.le_of_not_lt fun hlt => hx ⟨j, hlt, hj⟩⟩

theorem AGo_loop {σ : Type} {c : ACode} (S : σ → List (Nat × AV)) (HS : σ → AHeap) (μ : σ → Nat) (x0 : σ) (h0 : Fits e (S x0)) (hH0 : HFits m (S x0) (HS x0) H)
    (hround : ∀ x, AGo cx m (.code c :: .bk (fun e' H' => ∃ x', μ x' < μ x ∧ Fits e' (S x') ∧ HFits m (S x') (HS x') H') :: k) R ⟨[], S x⟩ (HS x)) :
    AGo cx m (.code (.loop c) :: k) R e H := by
  refine AGo_code fun cc Q st0 w0 kc hm hk ht hn hx hr st a w hrel => ?_
  cases cc <;> (try simp only [trCode] at ht)
  case region id ops d => cases d <;> simp [trCode] at ht
  case loop c1 =>
    obtain ⟨c', h1, h2⟩ := Option.map_eq_some_iff.1 ht
    cases h2
    let I : Act → World → σ → Prop := fun a w x => ∃ st, Rel cx st0 w0 st w ⟨[], S x⟩ (HS x) a
    have hI0 : ∃ x, I a w x := by
      obtain ⟨st', hst'⟩ := (hrel.fits h0).hfits hm hH0
      exact ⟨x0, st', hst'⟩
    have hex : ∀ a w, (∃ x, I a w x) → ∃ n, ∃ x, I a w x ∧ μ x = n := fun a w ⟨x, hx⟩ => ⟨_, x, hx, rfl⟩
    classical
    let M : Act → World → Nat := fun a w => if h : ∃ n, ∃ x, I a w x ∧ μ x = n then Classical.choose (least h) else 0
    have hM : ∀ a w x, I a w x → M a w ≤ μ x := by
      intro a w x hx
      have h : ∃ n, ∃ x, I a w x ∧ μ x = n := ⟨_, x, hx, rfl⟩
      simp only [M, dif_pos h]
      exact (Classical.choose_spec (least h)).2 _ ⟨x, hx, rfl⟩
    have hM2 : ∀ a w, (∃ x, I a w x) → ∃ x, I a w x ∧ μ x = M a w := by
      intro a w hx
      have h := hex a w hx
      simp only [M, dif_pos h]
      exact (Classical.choose_spec (least h)).1
    refine wpIn_loop (fun a w => ∃ x, I a w x) M hI0 fun a w hIx => ?_
    obtain ⟨x, ⟨st1, hx1⟩, hxM⟩ := hM2 a w hIx
    have := hround x st0 w0 (.code c1 :: .bk _ :: kc) hm ⟨_, _, rfl, h1, _, _, rfl, rfl, hk⟩ st1 a w hx1
    simp only [GoK, ExK] at this
    refine wpIn_mono this fun ex a' w' hq => ?_
    cases ex <;> simp only [Exit.then] at hq ⊢
    case normal =>
      obtain ⟨st2, e2, H2, hr2, x', hlt, hf, hhf⟩ := hq
      obtain ⟨st3, hst3⟩ := (hr2.fits hf).hfits hm hhf
      have hIx' : I a' w' x' := ⟨st3, hst3⟩
      exact ⟨⟨x', hIx'⟩, by have := hM a' w' x' hIx'; omega⟩
    case exit i => exact hx _ _ _ hq
    case ret => exact hr _ _ hq
    all_goals exact hq.elim
  all_goals first | cases ht | (split at ht <;> cases ht) | (obtain ⟨_, _, h'⟩ := Option.map_eq_some_iff.1 ht; cases h')

/-- forget what is not wanted any more -/
theorem AGo_forget (S : List (Nat × AV)) (H0 : AHeap) (hf : Fits e S) (hh : HFits m S H0 H) (h : AGo cx m k R ⟨[], S⟩ H0) (hk : ∀ l r, k ≠ .ops l :: r) : AGo cx m k R e H := by
  intro st0 w0 kc hm hk st a w hr
  obtain ⟨st', h1⟩ := (hr.fits hf).hfits hm hh
  exact h st0 w0 kc hm hk st' a w h1
end Go.Sas
namespace Go.Sas
variable {cx : Cx} {st0 st st' : St} {w0 w w' : World} {e e' : Env} {H H' : AHeap} {a : Act} {m : Nat} {k : List AItm} {R : Env → AHeap → Prop}

/-! ### Results -/
inductive ARes where
  | t (x : Od)
  | cell (x : Od) (n : Option Nat)

def trRes (P : Program) (K : List Nat) : List ResultVar → Option (List ARes)
  | [] => some []
  | .tmp t :: r => match od K (.tmp t), trRes P K r with
    | some x, some y => some (.t x :: y)
    | _, _ => none
  | .cell a t :: r => match od K (.tmp a), shT P t, trRes P K r with
    | some x, some n, some y => some (.cell x n :: y)
    | _, _, _ => none

def aResL (e : Env) (H : AHeap) : List ARes → Option (List AV)
  | [] => some []
  | .t x :: r => match aResL e H r with
    | some y => some (ev e x :: y)
    | none => none
  | .cell x n :: r => match ldA H n (ev e x), aResL e H r with
    | some v, some y => some (v :: y)
    | _, _ => none

def aTup : List AV → AV
  | [v] => v
  | vs => .tup vs

theorem ldA_ptr {n : Option Nat} {x r : AV} {v : Value} (hH : RelH st w H) (hv : RelV st x v) (hr : ldA H n x = some r) : ∃ ad, v = .pointer (some ad) := by
  unfold ldA at hr
  split at hr
  · simp only [RelV] at hv; obtain ⟨b, o, us, rfl, _⟩ := hv; exact ⟨_, rfl⟩
  · split at hr
    · rename_i g' cs hX
      split at hr
      · rename_i hg; subst hg
        obtain ⟨_, b, o, r', _, _, _, rfl⟩ := relV_mp_live hH (live_of_own hX) hv
        exact ⟨_, rfl⟩
      · cases hr
    · cases hr
  · cases hr

def resF (tmps : Array Value) : ResultVar → Sem Value
  | .tmp t => Pure.pure (tmps.getD t undef)
  | .cell ad t => do loadVar t (← asAddr (tmps.getD ad undef))

theorem results_eq (fn : Func) (tmps : Array Value) : results fn tmps = (do let vs ← fn.results.mapM (resF tmps); Pure.pure (if h : vs.size = 1 then vs[0] else .tuple vs)) := by
  unfold results
  have : (fun (x : ResultVar) => resF tmps x) = (fun x => match x with
    | .tmp t => Pure.pure (tmps.getD t undef)
    | .cell a t => do loadVar t (← asAddr (tmps.getD a undef))) := by funext x; cases x <;> rfl
  exact congrArg (fun f => (do let vs ← fn.results.mapM f; Pure.pure (if h : vs.size = 1 then vs[0] else .tuple vs) : Sem Value)) this.symm

theorem res_run (hrel : Rel cx st0 w0 st w e H a) : ∀ {rs : List ResultVar} {ars : List ARes} {vs : List AV}, trRes cx.P cx.K rs = some ars → aResL e H ars = some vs →
    ∃ us, (rs.mapM (resF a.tmps)).run cx.P w = .ok us w ∧ RelL st vs us
  | [], ars, vs, h1, h2 => by
    simp only [trRes, Option.some.injEq] at h1; subst h1
    simp only [aResL, Option.some.injEq] at h2; subst h2
    exact ⟨[], by simp, RelL.nil⟩
  | .tmp t :: rs, ars, vs, h1, h2 => by
    simp only [trRes] at h1
    split at h1
    · rename_i x y hx hy
      simp only [Option.some.injEq] at h1; subst h1
      simp only [aResL] at h2
      split at h2
      · rename_i z hz
        simp only [Option.some.injEq] at h2; subst h2
        obtain ⟨us, h3, h4⟩ := res_run hrel hy hz
        refine ⟨a.tmps.getD t undef :: us, ?_, RelL.cons (hrel.ops (.tmp t) x hx) h4⟩
        simp only [List.mapM_cons, resF, Sem.run_bind, Sem.run_pure, Result.andThen_ok, h3]
      · cases h2
    · cases h1
  | .cell ad t :: rs, ars, vs, h1, h2 => by
    simp only [trRes] at h1
    split at h1
    · rename_i x n y hx hn hy
      simp only [Option.some.injEq] at h1; subst h1
      simp only [aResL] at h2
      split at h2
      · rename_i v z hv hz
        simp only [Option.some.injEq] at h2; subst h2
        obtain ⟨us, h3, h4⟩ := res_run hrel hy hz
        have hxx := hrel.ops (.tmp ad) x hx
        obtain ⟨ptr, hptr⟩ := ldA_ptr hrel.hH hxx hv
        obtain ⟨u, h5, h6⟩ := ld_sound (P := cx.P) hn hrel.hH hxx hv
        simp only [Act.eval] at hptr h5
        rw [hptr] at h5
        simp only [Instr.loadAt, Instr.sureAddr, Sem.run_bind, Sem.run_pure, Result.andThen_ok] at h5
        refine ⟨u :: us, ?_, RelL.cons h6 h4⟩
        simp only [List.mapM_cons, resF, Sem.run_bind, hptr, asAddr, Sem.run_pure, Result.andThen_ok, h5, h3]
      · cases h2
    · cases h1

/-! ### From a body to a contract -/
def argsG : Nat → List AV → List (Nat × AV)
  | _, [] => []
  | i, a :: as => (i, a) :: argsG (i + 1) as

theorem look_argsG : ∀ (as : List AV) (i t : Nat), look (argsG i as) t = if t < i then .bad else (as[t - i]?).getD .bad
  | [], i, t => by simp [argsG, look]
  | a :: as, i, t => by
    simp only [argsG, look]
    split
    · rename_i h; subst h; simp
    · rename_i h
      rw [look_argsG as (i + 1) t]
      by_cases h1 : t < i
      · rw [if_pos h1, if_pos (by omega)]
      · rw [if_neg h1, if_neg (by omega)]
        rw [show t - i = (t - (i + 1)) + 1 by omega]; simp

def argsIn (K : List Nat) : Nat → Nat → Bool
  | _, 0 => true
  | i, n + 1 => K.contains i && argsIn K (i + 1) n

theorem argsIn_spec {K : List Nat} : ∀ {n i t : Nat}, argsIn K i n = true → i ≤ t → t < i + n → K.contains t = true
  | 0, i, t, _, h1, h2 => absurd h2 (by omega)
  | n + 1, i, t, h, h1, h2 => by
    simp only [argsIn, Bool.and_eq_true] at h
    by_cases he : t = i
    · rw [he]; exact h.1
    · exact argsIn_spec h.2 (by omega) (by omega)

/-- the value is handed back; what stands behind the first objects is dropped -/
def Hands (m : Nat) (Kk : AV → AHeap → Prop) (r : AV) (H : AHeap) : Prop := Kk r H ∨ ∃ H0, (∃ T, H = H0 ++ T) ∧ m ≤ H0.length ∧ r.lt H0.length ∧ ltH H0.length H0 ∧ Kk r H0

/-! ### Marks of loops over functions -/
/-- neither cells: not frozen -/
def Obj.plain : Obj → Bool
  | .cells _ _ _ => false
  | _ => true
theorem cell_put {w : World} {b x y : Nat} {o o' : Obj} {c : Value} (h : w.heap[b]? = some o) (h1 : Obj.plain o = true) (hc : w.cell? ⟨x, y, none⟩ = some c) : (w.putObj b o').cell? ⟨x, y, none⟩ = some c := by
  by_cases hb : x = b
  · subst hb
    unfold World.cell? at hc
    rw [h] at hc
    cases o <;> first | (simp at hc; done) | (simp [Obj.plain] at h1; done)
  · rw [cell_of_heap (World.putObj_heap_other hb)]; exact hc
/-- a block that no object is at, turned -/
theorem RelH.put {b : Nat} {o o' : Obj} (hH : RelH st w H) (h : w.heap[b]? = some o) (h1 : Obj.plain o = true) (hno : ¬ Owned st b) : RelH st (w.putObj b o') H :=
  ⟨hH.len, fun x y c hc => ⟨(hH.rd x y c hc).1, cell_put h h1 (hH.rd x y c hc).2.1, (hH.rd x y c hc).2.2⟩, fun id l X hl hX => (hH.obj id l X hl hX).mono (.refl _) fun b' o r hb => World.putObj_heap_other fun he => hno ⟨id, l, o, r, hl, by rw [hb, he]⟩, hH.inj⟩
theorem Ext.put {b : Nat} {o o' : Obj} (hx : Ext st0 w0 st w) (h : w.heap[b]? = some o) (h1 : Obj.plain o = true) (h2 : Obj.plain o' = true) (hb : w0.heap.size ≤ b ∨ Owned st0 b) : Ext st0 w0 st (w.putObj b o') where
  le := hx.le
  size := by simpa using hx.size
  frame := fun b' hb' ho => by
    rw [World.putObj_heap_other fun he => by subst he; exact hb.elim (fun h => by omega) ho]
    exact hx.frame b' hb' ho
  own := hx.own
  os := hx.os
  output := hx.output
  rdn := hx.rdn
theorem Rel.shut {ts : Array Value} {d : Deferred} {ds : List Deferred} (h : Rel cx st0 w0 st w e H { tmps := ts, defers := d :: ds }) :
    ∃ D, d = { target := .collected D, args := #[] } ∧ w.heap[D]? = some (.deferred (some [])) ∧ Rel cx st0 w0 st (w.putObj D (.deferred none)) e H { tmps := ts, defers := ds } := by
  obtain ⟨D, h1, h2, h3, h4⟩ := h.d.all d (by simp)
  refine ⟨D, h1, h3, h.ext.put h3 rfl rfl (.inl h2), h.hH.put h3 rfl h4, h.l, h.g, h.kl, h.kg, h.n, ?_⟩
  have hnd := List.nodup_cons.1 h.d.nd
  refine ⟨hnd.2, fun d' hd' => ?_⟩
  obtain ⟨D', g1, g2, g3, g4⟩ := h.d.all d' (by simp [hd'])
  refine ⟨D', g1, g2, ?_, g4⟩
  rw [World.putObj_heap_other fun he => hnd.1 (by rw [h1, ← he, ← g1]; exact hd')]
  exact g3
theorem Rel.leaves {ts : Array Value} {fn : Func} {Q : Ending → World → Prop} : ∀ {ds : List Deferred} {w : World}, Rel cx st0 w0 st w e H { tmps := ts, defers := ds } →
    (∀ w', Rel cx st0 w0 st w' e H { tmps := ts, defers := [] } → ∃ v, (results fn ts).run cx.P w' = .ok v w' ∧ Q (.returned v) w') → LeavesInM Fence.wide 0 cx.P fn ts Q ds .returning w
  | [], w, h, hq => by
    simp only [LeavesInM, LeavesIn]
    exact hq w h
  | d :: ds, w, h, hq => by
    obtain ⟨D, h1, h2, h3⟩ := h.shut
    simp only [LeavesInM]
    exact ⟨by simp, .inl ⟨D, _, by rw [h1], run_takeDeferred h2, Rel.leaves h3 hq⟩⟩

theorem ACalls_of {P : Program} {K mu : List Nat} {f : Nat} {fn : Func} {c : Code} {ac : ACode} {rs : List ARes} {args : List AV} {Kk : AV → AHeap → Prop}
    (hf : P.funcs[f]? = some fn) (hb : fn.body = some c) (hname : (fn.name != "runtime.NumGoroutine") = true)
    (htr : trCode ⟨P, K, mu, fn.ntmps, none⟩ c = some ac) (hres : trRes P K fn.results.toList = some rs) (hn : args.length ≤ fn.ntmps) (hK : argsIn K 0 args.length = true)
    (h : AGo ⟨P, K, mu, fn.ntmps, none⟩ H.length [.code ac] (fun e H' => ∃ vs, aResL e H' rs = some vs ∧ Hands H.length Kk (aTup vs) H') ⟨[], argsG 0 args⟩ H) : ACalls P f args H Kk := by
  refine ⟨by simp [callable, hf, hb]; simpa using hname, fun st w vals hH hv => ?_⟩
  have hl := hv.length
  refine callsIn_wide (n := 0).1 (callsIn_of_wp_marks hf hb trivial ?_)
  have hsz : (vals.toArray ++ Array.replicate (fn.ntmps - vals.toArray.size) undef).size = fn.ntmps := by simp; omega
  have hget : ∀ t, (vals.toArray ++ Array.replicate (fn.ntmps - vals.toArray.size) undef).getD t undef = (vals[t]?).getD undef := by
    intro t
    rw [Array.getD_eq_getD_getElem?, Array.getElem?_append]
    split
    · simp
    · rename_i hlt
      rw [List.getElem?_eq_none (by simpa using hlt)]
      simp only [Array.getElem?_replicate]
      split <;> rfl
  have hrel : Rel ⟨P, K, mu, fn.ntmps, none⟩ st w st w ⟨[], argsG 0 args⟩ H { tmps := vals.toArray ++ Array.replicate (fn.ntmps - vals.toArray.size) undef, defers := [] } := by
    refine ⟨.refl _ _, hH, fun t => by simp only [look, RelV], fun t => ?_, fun t _ => rfl, fun t ht => ?_, hsz, .nil⟩
    · rw [look_argsG, if_neg (Nat.not_lt_zero _), hget, Nat.sub_zero]
      cases hx : args[t]? with
      | none => simp only [Option.getD_none, RelV]
      | some x =>
        obtain ⟨u, hu, hr⟩ := hv.get hx
        rw [hu]; exact hr
    · rw [look_argsG, if_neg (Nat.not_lt_zero _), Nat.sub_zero]
      rcases Nat.lt_or_ge t args.length with hlt | hge
      · have := argsIn_spec hK (Nat.zero_le t) (by omega)
        simp only at ht; rw [this] at ht; cases ht
      · rw [List.getElem?_eq_none hge]; rfl
  have hgo := h st w [.code c] hH.len ⟨_, _, rfl, htr, rfl⟩ st _ w hrel
  simp only [GoK, ExK] at hgo
  refine wpIn_mono (show c.wpIn Fence.wide 0 P _ _ w from hgo) fun ex a' w' hq => ?_
  have fin : (∃ st' e' H', Rel ⟨P, K, mu, fn.ntmps, none⟩ st w st' w' e' H' a' ∧ ∃ vs, aResL e' H' rs = some vs ∧ Hands H.length Kk (aTup vs) H') →
      LeavesInM Fence.wide 0 P fn a'.tmps (fun x w' => ∃ v' r H' st', x = .returned v' ∧ Ext st w st' w' ∧ RelH st' w' H' ∧ RelV st' r v' ∧ Kk r H') a'.defers .returning w' := by
    rintro ⟨st', e', H', hr', vs, hvs, hh⟩
    refine Rel.leaves (cx := ⟨P, K, mu, fn.ntmps, none⟩) hr' fun w' hr' => ?_
    obtain ⟨us, h1, h2⟩ := res_run hr' hres hvs
    have hl2 := h2.length
    have hrun : (results fn a'.tmps).run P w' = .ok (if h : us.length = 1 then us[0] else .tuple us.toArray) w' := by
      rw [results_eq, Array.mapM_eq_mapM_toList]
      simp only [Sem.run_bind, Sem.run_map, h1, Result.andThen_ok, Sem.run_pure]
      simp
    have hval : RelV st' (aTup vs) (if h : us.length = 1 then us[0] else .tuple us.toArray) := by
      by_cases h1 : us.length = 1
      · rw [dif_pos h1]
        match vs, us, hl2, h2, h1 with
        | [v], [u], _, h2, _ =>
          obtain ⟨u', us', he, hv, _⟩ := h2.uncons
          cases he; exact hv
      · rw [dif_neg h1]
        have : aTup vs = .tup vs := by
          match vs, us, hl2, h1 with
          | [], _, _, _ => rfl
          | [v], [u], _, h1 => exact absurd rfl h1
          | _ :: _ :: _, _, _, _ => rfl
        rw [this]; simp only [RelV]
        exact ⟨_, rfl, by simpa using h2⟩
    rcases hh with hk | ⟨H0, ⟨T, rfl⟩, hle, hlt, hltH, hk⟩
    · exact ⟨_, hrun, _, _, H', st', rfl, hr'.ext, hr'.hH, hval, hk⟩
    · exact ⟨_, hrun, _, _, H0, st'.take H0.length, rfl, hr'.ext.take (by rw [hH.len]; exact hle), hr'.hH.take hltH, hval.take hlt, hk⟩
  cases ex <;> simp only [bodyPostM] at hq ⊢
  all_goals first | exact fin hq | exact hq.elim

/-! ### Runs of plain steps -/
def opRun (e : Od → AV) (H : AHeap) (o : AOp) : Option (AV × AHeap) := match opVal e H o with
  | some r => some (r, H)
  | none => opAct e H o

theorem AGo_run1 {d : Option (Bool × Nat)} {op : AOp} {g : Option (Od × Bool)} {rest : List AOper} {r : AV} (hg : gOk e g = some true) (hv : opRun (ev e) H op = some (r, H')) (h : AGo cx m (.ops rest :: k) R (put e d r) H') :
    AGo cx m (.ops (⟨d, op, g⟩ :: rest) :: k) R e H := by
  unfold opRun at hv
  split at hv
  · rename_i x hx
    simp only [Option.some.injEq, Prod.mk.injEq] at hv
    obtain ⟨rfl, rfl⟩ := hv
    exact AGo_val hg hx h
  · exact AGo_act hg hv h

def exitA (i : Nat) : List AItm → Option (List AItm)
  | [] => none
  | .blk j :: k => if i = j then some k else exitA i k
  | .code _ :: k => exitA i k
  | .ops _ :: k => exitA i k
  | .bk _ :: k => exitA i k

theorem AEx_exitA {i : Nat} : ∀ {k k' : List AItm}, exitA i k = some k' → AGo cx m k' R e H → AEx cx m i k R e H
  | [], k', h, _ => by simp [exitA] at h
  | .blk j :: k, k', h, hg => by
    simp only [exitA] at h
    split at h
    · rename_i hij; subst hij; cases h; exact AEx_blk hg
    · rename_i hij; exact AEx_pass (fun j' hj => by cases hj; exact hij) (AEx_exitA h hg)
  | .code _ :: k, k', h, hg => AEx_pass (fun j hj => by cases hj) (AEx_exitA (by simpa only [exitA] using h) hg)
  | .ops _ :: k, k', h, hg => AEx_pass (fun j hj => by cases hj) (AEx_exitA (by simpa only [exitA] using h) hg)
  | .bk _ :: k, k', h, hg => AEx_pass (fun j hj => by cases hj) (AEx_exitA (by simpa only [exitA] using h) hg)

/-- One plain step; none where there is something to be shown. -/
def stepA (k : List AItm) (e : Env) (H : AHeap) : Option (List AItm × Env × AHeap) := match k with
  | .code .skip :: k => some (k, e, H)
  | .code (.seq x y) :: k => some (.code x :: .code y :: k, e, H)
  | .code (.block i x) :: k => some (.code x :: .blk i :: k, e, H)
  | .code (.reg l) :: k => some (.ops l :: k, e, H)
  | .code (.exit i) :: k => match exitA i k with
    | some k' => some (k', e, H)
    | none => none
  | .blk _ :: k => some (k, e, H)
  | .ops [] :: k => some (k, ⟨[], e.g⟩, H)
  | .ops (⟨d, op, g⟩ :: rest) :: k => match gOk e g with
    | some true => match opRun (ev e) H op with
      | some (r, H') => some (.ops rest :: k, put e d r, H')
      | none => none
    | some false => some (.ops rest :: k, put e d (.lit undef), H)
    | none => none
  | _ => none

theorem stepA_sound {k' : List AItm} (hs : stepA k e H = some (k', e', H')) (h : AGo cx m k' R e' H') : AGo cx m k R e H := by
  unfold stepA at hs
  split at hs
  · cases hs; exact AGo_skip h
  · cases hs; exact AGo_seq h
  · cases hs; exact AGo_block h
  · cases hs; exact AGo_reg h
  · split at hs
    · rename_i k2 hk2; cases hs; exact AGo_exit (AEx_exitA hk2 h)
    · cases hs
  · cases hs; exact AGo_blk h
  · cases hs; exact AGo_ops_nil h
  · split at hs
    · rename_i hg
      split at hs
      · rename_i r H2 hr
        cases hs; exact AGo_run1 hg hr h
      · cases hs
    · rename_i hg; cases hs; exact AGo_skipped hg h
    · cases hs
  · cases hs

end Go.Sas
namespace Go.Sas

/-! ### Other names for the objects -/
def at_ (ι : List Nat) (i : Nat) : Nat := (ι[i]?).getD 0

mutual
def AV.ren (ι : List Nat) (a : AV) : AV := match a with
  | .agg cs => .agg (AV.renL ι cs)
  | .tup cs => .tup (AV.renL ι cs)
  | .fn f cs => .fn f (AV.renL ι cs)
  | .mp id g off => .mp (at_ ι id) g off
  | .ms sz id g off len => .ms sz (at_ ι id) g off len
  | .yl id g => .yl (at_ ι id) g
  | .bad => .bad
  | .lit v => .lit v
  | .vs sz xs => .vs sz xs
  | .vp cs => .vp cs
  | .es => .es
  | .nni => .nni
def AV.renL (ι : List Nat) (as : List AV) : List AV := match as with
  | [] => []
  | a :: as => a.ren ι :: AV.renL ι as
end

def AObj.ren (ι : List Nat) : AObj → AObj
  | .own g cs => .own g (AV.renL ι cs)
  | .gone => .gone
  | .raw g o es us => .raw g o (AV.renL ι es) us

mutual
theorem AV.ren_nid {ι : List Nat} : ∀ {a : AV}, a.nid = true → a.ren ι = a
  | .bad, _ | .lit _, _ | .vs _ _, _ | .vp _, _ | .es, _ | .nni, _ => by simp only [AV.ren]
  | .agg cs, h => by simp only [AV.nid] at h; simp only [AV.ren, AV.renL_nid h]
  | .tup cs, h => by simp only [AV.nid] at h; simp only [AV.ren, AV.renL_nid h]
  | .fn f cs, h => by simp only [AV.nid] at h; simp only [AV.ren, AV.renL_nid h]
  | .mp _ _ _, h | .ms _ _ _ _ _, h | .yl _ _, h => by simp [AV.nid] at h
theorem AV.renL_nid {ι : List Nat} : ∀ {as : List AV}, AV.nidL as = true → AV.renL ι as = as
  | [], _ => by simp only [AV.renL]
  | a :: as, h => by
    simp only [AV.nidL, Bool.and_eq_true] at h
    simp only [AV.renL, AV.ren_nid h.1, AV.renL_nid h.2]
end

mutual
theorem AV.lt_nid {n : Nat} : ∀ {a : AV}, a.nid = true → a.lt n
  | .bad, _ | .lit _, _ | .vs _ _, _ | .vp _, _ | .es, _ | .nni, _ => by simp only [AV.lt]
  | .agg cs, h => by simp only [AV.nid] at h; simp only [AV.lt]; exact AV.ltL_nid h
  | .tup cs, h => by simp only [AV.nid] at h; simp only [AV.lt]; exact AV.ltL_nid h
  | .fn f cs, h => by simp only [AV.nid] at h; simp only [AV.lt]; exact AV.ltL_nid h
  | .mp _ _ _, h | .ms _ _ _ _ _, h | .yl _ _, h => by simp [AV.nid] at h
theorem AV.ltL_nid {n : Nat} : ∀ {as : List AV}, AV.nidL as = true → AV.ltL n as
  | [], _ => by simp only [AV.ltL]
  | a :: as, h => by
    simp only [AV.nidL, Bool.and_eq_true] at h
    simp only [AV.ltL]; exact ⟨AV.lt_nid h.1, AV.ltL_nid h.2⟩
end

/-- where the objects of the few lie: s knows of them what st knows -/
def Sel (ι : List Nat) (s st : St) : Prop := s.rd = st.rd ∧ ∀ (k i : Nat), ι[k]? = some i → st.loc[i]? = s.loc[k]?

mutual
theorem RelV.ren_to {ι : List Nat} {s st : St} (h : Sel ι s st) (hn : s.loc.length ≤ ι.length) : ∀ {a : AV} {v : Value}, RelV s a v → RelV st (a.ren ι) v
  | .bad, _, _ => by simp only [AV.ren, RelV]
  | .lit u, v, hv => by simp only [AV.ren, RelV] at hv ⊢; exact hv
  | .agg cs, v, hv => by
    simp only [AV.ren, RelV] at hv ⊢
    obtain ⟨us, h1, h2, h3⟩ := hv
    exact ⟨us, h1, RelL.ren_to h hn h2, h3⟩
  | .tup cs, v, hv => by
    simp only [AV.ren, RelV] at hv ⊢
    obtain ⟨us, h1, h2⟩ := hv
    exact ⟨us, h1, RelL.ren_to h hn h2⟩
  | .vs sz es, v, hv => by simp only [AV.ren, RelV, St.pure] at hv ⊢; rw [← h.1]; exact hv
  | .vp cs, v, hv => by simp only [AV.ren, RelV, St.pure] at hv ⊢; rw [← h.1]; exact hv
  | .mp id g off, v, hv => by
    simp only [AV.ren, RelV] at hv ⊢
    obtain ⟨l, h1, h2⟩ := hv
    have : id < ι.length := Nat.lt_of_lt_of_le (List.getElem?_eq_some_iff.1 h1).1 hn
    exact ⟨l, by rw [at_, List.getElem?_eq_getElem this, Option.getD_some, h.2 id _ (List.getElem?_eq_getElem this), h1], h2⟩
  | .ms sz id g off len, v, hv => by
    simp only [AV.ren, RelV] at hv ⊢
    obtain ⟨l, h1, h2⟩ := hv
    have : id < ι.length := Nat.lt_of_lt_of_le (List.getElem?_eq_some_iff.1 h1).1 hn
    exact ⟨l, by rw [at_, List.getElem?_eq_getElem this, Option.getD_some, h.2 id _ (List.getElem?_eq_getElem this), h1], h2⟩
  | .yl id g, v, hv => by
    simp only [AV.ren, RelV] at hv ⊢
    obtain ⟨l, h1, h2⟩ := hv
    have : id < ι.length := Nat.lt_of_lt_of_le (List.getElem?_eq_some_iff.1 h1).1 hn
    exact ⟨l, by rw [at_, List.getElem?_eq_getElem this, Option.getD_some, h.2 id _ (List.getElem?_eq_getElem this), h1], h2⟩
  | .es, v, hv => by simp only [AV.ren, RelV] at hv ⊢; exact hv
  | .nni, v, hv => by simp only [AV.ren, RelV] at hv ⊢; exact hv
  | .fn f caps, v, hv => by
    simp only [AV.ren, RelV] at hv ⊢
    obtain ⟨us, h1, h2⟩ := hv
    exact ⟨us, h1, RelL.ren_to h hn h2⟩
theorem RelL.ren_to {ι : List Nat} {s st : St} (h : Sel ι s st) (hn : s.loc.length ≤ ι.length) : ∀ {as : List AV} {us : List Value}, RelL s as us → RelL st (AV.renL ι as) us
  | [], us, hv => by simp only [AV.renL, RelL] at hv ⊢; exact hv
  | a :: as, us, hv => by
    simp only [AV.renL, RelL] at hv ⊢
    obtain ⟨u, us', h1, h2, h3⟩ := hv
    exact ⟨u, us', h1, RelV.ren_to h hn h2, RelL.ren_to h hn h3⟩
end

mutual
theorem RelV.ren_of {ι : List Nat} {s st : St} (h : Sel ι s st) : ∀ {a : AV} {v : Value}, a.lt ι.length → RelV st (a.ren ι) v → RelV s a v
  | .bad, _, _, _ => by simp only [RelV]
  | .lit u, v, _, hv => by simp only [AV.ren, RelV] at hv ⊢; exact hv
  | .agg cs, v, hl, hv => by
    simp only [AV.lt] at hl
    simp only [AV.ren, RelV] at hv ⊢
    obtain ⟨us, h1, h2, h3⟩ := hv
    exact ⟨us, h1, RelL.ren_of h hl h2, h3⟩
  | .tup cs, v, hl, hv => by
    simp only [AV.lt] at hl
    simp only [AV.ren, RelV] at hv ⊢
    obtain ⟨us, h1, h2⟩ := hv
    exact ⟨us, h1, RelL.ren_of h hl h2⟩
  | .vs sz es, v, _, hv => by simp only [AV.ren, RelV, St.pure] at hv ⊢; rw [h.1]; exact hv
  | .vp cs, v, _, hv => by simp only [AV.ren, RelV, St.pure] at hv ⊢; rw [h.1]; exact hv
  | .mp id g off, v, hl, hv => by
    simp only [AV.lt] at hl
    simp only [AV.ren, RelV] at hv ⊢
    obtain ⟨l, h1, h2⟩ := hv
    exact ⟨l, by rw [← h.2 id _ (List.getElem?_eq_getElem hl), ← h1, at_, List.getElem?_eq_getElem hl, Option.getD_some], h2⟩
  | .ms sz id g off len, v, hl, hv => by
    simp only [AV.lt] at hl
    simp only [AV.ren, RelV] at hv ⊢
    obtain ⟨l, h1, h2⟩ := hv
    exact ⟨l, by rw [← h.2 id _ (List.getElem?_eq_getElem hl), ← h1, at_, List.getElem?_eq_getElem hl, Option.getD_some], h2⟩
  | .yl id g, v, hl, hv => by
    simp only [AV.lt] at hl
    simp only [AV.ren, RelV] at hv ⊢
    obtain ⟨l, h1, h2⟩ := hv
    exact ⟨l, by rw [← h.2 id _ (List.getElem?_eq_getElem hl), ← h1, at_, List.getElem?_eq_getElem hl, Option.getD_some], h2⟩
  | .es, v, _, hv => by simp only [AV.ren, RelV] at hv ⊢; exact hv
  | .nni, v, _, hv => by simp only [AV.ren, RelV] at hv ⊢; exact hv
  | .fn f caps, v, hl, hv => by
    simp only [AV.lt] at hl
    simp only [AV.ren, RelV] at hv ⊢
    obtain ⟨us, h1, h2⟩ := hv
    exact ⟨us, h1, RelL.ren_of h hl h2⟩
theorem RelL.ren_of {ι : List Nat} {s st : St} (h : Sel ι s st) : ∀ {as : List AV} {us : List Value}, AV.ltL ι.length as → RelL st (AV.renL ι as) us → RelL s as us
  | [], us, _, hv => by simp only [AV.renL, RelL] at hv ⊢; exact hv
  | a :: as, us, hl, hv => by
    simp only [AV.ltL] at hl
    simp only [AV.renL, RelL] at hv ⊢
    obtain ⟨u, us', h1, h2, h3⟩ := hv
    exact ⟨u, us', h1, RelV.ren_of h hl.1 h2, RelL.ren_of h hl.2 h3⟩
end

/-! ### A list with some of its places turned, and more behind it -/
def updL {α : Type} : List α → List Nat → List α → List α
  | L, i :: ι, x :: N => updL (L.set i x) ι N
  | L, _, _ => L

def merge {α : Type} (L : List α) (ι : List Nat) (N : List α) : List α := updL L ι N ++ N.drop ι.length

/-- the names, with those of new objects -/
def more (ι : List Nat) (n k : Nat) : List Nat := ι ++ List.range' n (k - ι.length)

section
variable {α : Type}
theorem updL_length : ∀ (ι : List Nat) (L N : List α), (updL L ι N).length = L.length
  | [], L, N => by simp [updL]
  | i :: ι, L, [] => by simp [updL]
  | i :: ι, L, x :: N => by simp [updL, updL_length ι]

theorem updL_other : ∀ (ι : List Nat) (L N : List α) (id : Nat), id ∉ ι → (updL L ι N)[id]? = L[id]?
  | [], L, N, id, h => by simp [updL]
  | i :: ι, L, [], id, h => by simp [updL]
  | i :: ι, L, x :: N, id, h => by
    simp only [List.mem_cons, not_or] at h
    rw [updL, updL_other ι _ N id h.2, List.getElem?_set_ne (Ne.symm h.1)]

theorem updL_at : ∀ (ι : List Nat) (L N : List α) (k id : Nat), ι.Nodup → ι[k]? = some id → id < L.length → k < N.length → (updL L ι N)[id]? = N[k]?
  | [], L, N, k, id, _, h, _, _ => by simp at h
  | i :: ι, L, [], k, id, _, _, _, h => by simp at h
  | i :: ι, L, x :: N, 0, id, hn, h, hl, _ => by
    simp at h; subst h
    have hn := List.nodup_cons.1 hn
    rw [updL, updL_other ι _ N i hn.1]; simp [hl]
  | i :: ι, L, x :: N, k + 1, id, hn, h, hl, hk => by
    simp at h hk
    have hn := List.nodup_cons.1 hn
    rw [updL, updL_at ι _ N k id hn.2 h (by simpa using hl) hk]; simp

variable {L N : List α} {ι : List Nat}
theorem merge_length (h : ι.length ≤ N.length) : (merge L ι N).length = L.length + (N.length - ι.length) := by simp [merge, updL_length]

theorem more_get {n k id : Nat} {c : Nat} (h : (more ι n c)[k]? = some id) : ι[k]? = some id ∨ (ι.length ≤ k ∧ k < ι.length + (c - ι.length) ∧ id = n + (k - ι.length)) := by
  unfold more at h
  rcases Nat.lt_or_ge k ι.length with hk | hk
  · rw [List.getElem?_append_left hk] at h; exact .inl h
  · rw [List.getElem?_append_right hk] at h
    right
    have hlt : k - ι.length < c - ι.length := by
      rcases Nat.lt_or_ge (k - ι.length) (c - ι.length) with h1 | h1
      · exact h1
      · rw [List.getElem?_eq_none (by simpa using h1)] at h; cases h
    rw [List.getElem?_eq_getElem (by simpa using hlt)] at h
    simp at h
    omega

theorem more_length {n c : Nat} (h : ι.length ≤ c) : (more ι n c).length = c := by simp [more]; omega

theorem merge_at {k id : Nat} (hn : ι.Nodup) (hι : ∀ i ∈ ι, i < L.length) (hN : ι.length ≤ N.length) (h : (more ι L.length N.length)[k]? = some id) : (merge L ι N)[id]? = N[k]? := by
  rcases more_get h with h | ⟨h1, h2, rfl⟩
  · have hl := hι id (List.mem_of_getElem? h)
    have hk := (List.getElem?_eq_some_iff.1 h).1
    rw [merge, List.getElem?_append_left (by rw [updL_length]; exact hl), updL_at ι L N k id hn h hl (by omega)]
  · rw [merge, List.getElem?_append_right (by rw [updL_length]; omega), updL_length, List.getElem?_drop]
    congr 1; omega

theorem merge_other {id : Nat} (h : id ∉ ι) (hl : id < L.length) : (merge L ι N)[id]? = L[id]? := by
  rw [merge, List.getElem?_append_left (by rw [updL_length]; exact hl), updL_other ι L N id h]

theorem merge_cover {id : Nat} (hN : ι.length ≤ N.length) (h : id < (merge L ι N).length) : (∃ k, k < N.length ∧ (more ι L.length N.length)[k]? = some id) ∨ (id ∉ ι ∧ id < L.length) := by
  rw [merge_length hN] at h
  by_cases hm : id ∈ ι
  · obtain ⟨k, hk⟩ := List.mem_iff_getElem?.1 hm
    have hlt := (List.getElem?_eq_some_iff.1 hk).1
    exact .inl ⟨k, by omega, by rw [more, List.getElem?_append_left hlt, hk]⟩
  · rcases Nat.lt_or_ge id L.length with hl | hl
    · exact .inr ⟨hm, hl⟩
    · refine .inl ⟨ι.length + (id - L.length), by omega, ?_⟩
      rw [more, List.getElem?_append_right (by omega), List.getElem?_eq_getElem (by simp; omega)]
      simp; omega
end

/-! ### The frame -/
theorem ObjOk.ren {ι : List Nat} {s st : St} {w : World} {l : Loc} {X : AObj} (h : Sel ι s st) (hn : s.loc.length ≤ ι.length) (hX : ObjOk s w l X) : ObjOk st w l (X.ren ι) := by
  cases X with
  | gone => exact hX
  | raw g o es us => exact ⟨hX.1, RelL.ren_to h hn hX.2.1, hX.2.2⟩
  | own g cs =>
    simp only [AObj.ren, ObjOk] at hX ⊢
    refine ⟨hX.1, fun b o r hb => ?_⟩
    obtain ⟨arr, T, us, f1, f2, f3, f4, f5, f6⟩ := hX.2 b o r hb
    have e1 := f4.length
    have f4' := f4.ren_to h hn
    exact ⟨arr, T, us, f1, f2, by rw [← f4'.length, e1]; exact f3, f4', f5, f6⟩

theorem ObjOk.ren_of {ι : List Nat} {s st : St} {w : World} {l : Loc} {X : AObj} (h : Sel ι s st) (hl : X.lt ι.length) (hX : ObjOk st w l (X.ren ι)) : ObjOk s w l X := by
  cases X with
  | gone => exact hX
  | raw g o es us => exact ⟨hX.1, RelL.ren_of h hl hX.2.1, hX.2.2⟩
  | own g cs =>
    simp only [AObj.ren, ObjOk, AObj.lt] at hX hl ⊢
    refine ⟨hX.1, fun b o r hb => ?_⟩
    obtain ⟨arr, T, us, f1, f2, f3, f4, f5, f6⟩ := hX.2 b o r hb
    have e1 := f4.length
    have f4' := f4.ren_of h hl
    exact ⟨arr, T, us, f1, f2, by rw [← f4'.length, e1]; exact f3, f4', f5, f6⟩

theorem merge_sel {st s1 : St} {ι : List Nat} (hn : ι.Nodup) (hι : ∀ i ∈ ι, i < st.loc.length) (h1 : ι.length ≤ s1.loc.length) :
    Sel (more ι st.loc.length s1.loc.length) s1 ⟨s1.rd, merge st.loc ι s1.loc⟩ := ⟨rfl, fun k i hk => merge_at hn hι h1 hk⟩

theorem ACalls.frame {P : Program} {f : Nat} {args : List AV} {H0 H : AHeap} {K0 : AV → AHeap → Prop} (ι : List Nat) (h : ACalls P f args H0 K0)
    (hnd : ι.Nodup) (hlen : H0.length = ι.length) (hlt : AV.ltL ι.length args) (hlt0 : ltH ι.length H0) (hsub : ∀ k X, H0[k]? = some X → H[at_ ι k]? = some (X.ren ι)) :
    ACalls P f (AV.renL ι args) H fun r H' => ∃ r0 H1, K0 r0 H1 ∧ ι.length ≤ H1.length ∧ r = r0.ren (more ι H.length H1.length) ∧ H' = merge H ι (H1.map (AObj.ren (more ι H.length H1.length))) := by
  refine ⟨h.1, fun st w vals hH hv => ?_⟩
  have hatι : ∀ (k i : Nat), ι[k]? = some i → at_ ι k = i := fun k i hk => by simp [at_, hk]
  have hι : ∀ i ∈ ι, i < st.loc.length := by
    intro i hi
    obtain ⟨k, hk⟩ := List.mem_iff_getElem?.1 hi
    have hlt := (List.getElem?_eq_some_iff.1 hk).1
    have := hsub k _ (List.getElem?_eq_getElem (by omega))
    rw [hatι k i hk] at this
    rw [hH.len]; exact (List.getElem?_eq_some_iff.1 this).1
  let s : St := ⟨st.rd, ι.map fun i => (st.loc[i]?).getD ⟨0, none⟩⟩
  have hsel : Sel ι s st := ⟨rfl, fun k i hk => by
    have := hι i (List.mem_of_getElem? hk)
    simp [s, hk, List.getElem?_eq_getElem this]⟩
  have hsl : s.loc.length = ι.length := by simp [s]
  have hget : ∀ (k : Nat) (l : Loc), s.loc[k]? = some l → ∃ i, ι[k]? = some i ∧ st.loc[i]? = some l := by
    intro k l hk
    have hlt : k < ι.length := by rw [← hsl]; exact (List.getElem?_eq_some_iff.1 hk).1
    exact ⟨ι[k], List.getElem?_eq_getElem hlt, by rw [hsel.2 k _ (List.getElem?_eq_getElem hlt)]; exact hk⟩
  have hows : ∀ b, Owned s b → ∃ (i : Nat) (l : Loc) (o r : Nat), i ∈ ι ∧ st.loc[i]? = some l ∧ l.base = some (b, o, r) := by
    rintro b ⟨k, l, o, r, h1, h2⟩
    obtain ⟨i, hi, hl⟩ := hget k l h1
    exact ⟨i, l, o, r, List.mem_of_getElem? hi, hl, h2⟩
  have hown : ∀ b, Owned s b → Owned st b := fun b hb => by
    obtain ⟨i, l, o, r, _, h1, h2⟩ := hows b hb
    exact ⟨i, l, o, r, h1, h2⟩
  have hidx : ∀ (k k' i : Nat), ι[k]? = some i → ι[k']? = some i → k = k' := by
    intro k k' i hk hk'
    have h1 := (List.getElem?_eq_some_iff.1 hk).1
    exact (List.getElem?_inj h1 hnd).1 (hk.trans hk'.symm)
  have hs : RelH s w H0 := by
    refine ⟨by rw [hsl, hlen], fun b o c hc => ⟨(hH.rd b o c hc).1, (hH.rd b o c hc).2.1, fun ho => (hH.rd b o c hc).2.2 (hown b ho)⟩, ?_, ?_⟩
    · intro k l X hl hX
      obtain ⟨i, hi, hl'⟩ := hget k l hl
      have h1 := hsub k X hX
      rw [hatι k i hi] at h1
      exact ObjOk.ren_of hsel (ltH_get hlt0 hX) (hH.obj i l _ hl' h1)
    · intro k k' l l' b o r o' r' h1 h2 h3 h4
      obtain ⟨i, hi, hl⟩ := hget k l h1
      obtain ⟨i', hi', hl'⟩ := hget k' l' h2
      have := hH.inj i i' l l' b o r o' r' hl hl' h3 h4
      subst this
      exact hidx k k' i hi hi'
  refine (h.2 s w vals hs (RelL.ren_of hsel hlt hv)).mono fun x w' hx => ?_
  obtain ⟨v, r0, H1, s1, hxv, hext, hH1, hr, hK⟩ := hx
  have hle1 : ι.length ≤ s1.loc.length := by
    rcases Nat.eq_zero_or_pos ι.length with h0 | h0
    · omega
    · have hl : ι.length - 1 < s.loc.length := by omega
      obtain ⟨l', h1, _⟩ := hext.le.loc (ι.length - 1) _ (List.getElem?_eq_getElem hl)
      have := (List.getElem?_eq_some_iff.1 h1).1
      omega
  have hselm := merge_sel (s1 := s1) hnd hι hle1
  let st' : St := ⟨s1.rd, merge st.loc ι s1.loc⟩
  have hlenH1 := hH1.len
  have hιH : ∀ i ∈ ι, i < H.length := fun i hi => by rw [← hH.len]; exact hι i hi
  rw [hH.len, hlenH1] at hselm
  have hmor : (more ι H.length H1.length).length = H1.length := more_length (by omega)
  have hat : ∀ (k id : Nat), (more ι H.length H1.length)[k]? = some id → st'.loc[id]? = s1.loc[k]? := fun k id hk => hselm.2 k id hk
  have hat' : ∀ (k id : Nat), (more ι H.length H1.length)[k]? = some id → (merge H ι (H1.map (AObj.ren (more ι H.length H1.length))))[id]? = (H1[k]?).map (AObj.ren (more ι H.length H1.length)) := fun k id hk => by
    rw [merge_at hnd hιH (by simp; omega) (by simpa using hk)]; simp
  have hot : ∀ (id : Nat), id ∉ ι → id < st.loc.length → st'.loc[id]? = st.loc[id]? := fun id h1 h2 => merge_other h1 h2
  have hot' : ∀ (id : Nat), id ∉ ι → id < st.loc.length → (merge H ι (H1.map (AObj.ren (more ι H.length H1.length))))[id]? = H[id]? := fun id h1 h2 => merge_other h1 (by rw [← hH.len]; exact h2)
  have hcov : ∀ (id : Nat) (l : Loc), st'.loc[id]? = some l → (∃ k : Nat, (more ι H.length H1.length)[k]? = some id ∧ s1.loc[k]? = some l) ∨ (id ∉ ι ∧ id < st.loc.length ∧ st.loc[id]? = some l) := by
    intro id l hl
    rcases merge_cover hle1 (List.getElem?_eq_some_iff.1 hl).1 with ⟨k, hk, hk'⟩ | ⟨h1, h2⟩
    · rw [hH.len, hlenH1] at hk'
      exact .inl ⟨k, hk', by rw [← hat k id hk']; exact hl⟩
    · exact .inr ⟨h1, h2, by rw [← hot id h1 h2]; exact hl⟩
  have hnot : ∀ (id : Nat) (l : Loc) (b o r : Nat), id ∉ ι → st.loc[id]? = some l → l.base = some (b, o, r) → ¬ Owned s b := by
    intro id l b o r h1 h2 h3 ho
    obtain ⟨i, l', o', r', h4, h5, h6⟩ := hows b ho
    have := hH.inj id i l l' b o r o' r' h2 h5 h3 h6
    subst this; exact h1 h4
  have hle : st.le st' := by
    refine ⟨fun b o c hc => hext.le.rd b o c hc, fun id l hl => ?_⟩
    by_cases hm : id ∈ ι
    · obtain ⟨k, hk⟩ := List.mem_iff_getElem?.1 hm
      have hk2 := hsel.2 k id hk
      obtain ⟨l', h1, h2, h3⟩ := hext.le.loc k l (by rw [← hk2]; exact hl)
      refine ⟨l', ?_, h2, h3⟩
      rw [hat k id (by rw [more, List.getElem?_append_left (List.getElem?_eq_some_iff.1 hk).1, hk])]; exact h1
    · exact ⟨l, by rw [hot id hm (List.getElem?_eq_some_iff.1 hl).1]; exact hl, Nat.le_refl _, fun _ => rfl⟩
  have hown' : ∀ b, Owned st' b → Owned s1 b ∨ ∃ (id : Nat) (l : Loc) (o r : Nat), id ∉ ι ∧ st.loc[id]? = some l ∧ l.base = some (b, o, r) := by
    rintro b ⟨id, l, o, r, h1, h2⟩
    rcases hcov id l h1 with ⟨k, _, hk⟩ | ⟨h3, h4, h5⟩
    · exact .inl ⟨k, l, o, r, hk, h2⟩
    · exact .inr ⟨id, l, o, r, h3, h5, h2⟩
  have hsep : ∀ (id : Nat) (l : Loc) (b o r : Nat), id ∉ ι → st.loc[id]? = some l → l.base = some (b, o, r) → ¬ Owned s1 b := by
    intro id l b o r h1 h2 h3 ho
    rcases hext.own b ho with h4 | h4
    · exact hnot id l b o r h1 h2 h3 h4
    · have := owned_lt hH ⟨id, l, o, r, h2, h3⟩; omega
  refine ⟨v, r0.ren (more ι H.length H1.length), _, st', hxv, ?_, ?_, hr.ren_to hselm (by rw [hmor, hlenH1]; exact Nat.le_refl _), r0, H1, hK, by omega, rfl, rfl⟩
  · refine ⟨hle, hext.size, fun b hb ho => hext.frame b hb fun h => ho (hown b h), fun b hb => ?_, hext.os, hext.output, fun b o c hc => ?_⟩
    · rcases hown' b hb with h1 | ⟨id, l, o, r, _, h2, h3⟩
      · exact (hext.own b h1).imp (hown b) fun h => h
      · exact .inl ⟨id, l, o, r, h2, h3⟩
    · exact (hext.rdn b o c hc).imp (fun h => h) fun h => h.imp (fun h => h) (hown b)
  · refine ⟨?_, ?_, ?_, ?_⟩
    · show (merge st.loc ι s1.loc).length = _
      rw [merge_length hle1, merge_length (by simp; omega), hH.len, hlenH1]; simp
    · intro b o c hc
      have h1 := hH1.rd b o c hc
      refine ⟨h1.1, h1.2.1, fun ho => ?_⟩
      rcases hown' b ho with h2 | ⟨id, l, o', r, h2, h3, h4⟩
      · exact h1.2.2 h2
      · rcases hext.rdn b o c hc with h5 | h5 | h5
        · exact (hH.rd b o c h5).2.2 ⟨id, l, o', r, h3, h4⟩
        · have := owned_lt hH ⟨id, l, o', r, h3, h4⟩; omega
        · exact hnot id l b o' r h2 h3 h4 h5
    · intro id l X hl hX
      rcases hcov id l hl with ⟨k, hk, hk'⟩ | ⟨h3, h4, h5⟩
      · rw [hat' k id hk] at hX
        obtain ⟨X1, hX1, rfl⟩ := Option.map_eq_some_iff.1 hX
        exact ObjOk.ren hselm (by rw [hmor, hlenH1]; exact Nat.le_refl _) (hH1.obj k l X1 hk' hX1)
      · rw [hot' id h3 h4] at hX
        exact (hH.obj id l X h5 hX).mono hle fun b o r hb => hext.frame b (owned_lt hH ⟨id, l, o, r, h5, hb⟩) (hnot id l b o r h3 h5 hb)
    · intro id id' l l' b o r o' r' h1 h2 h3 h4
      rcases hcov id l h1 with ⟨k, hk, hk2⟩ | ⟨g1, g2, g3⟩ <;> rcases hcov id' l' h2 with ⟨k', hk', hk2'⟩ | ⟨g1', g2', g3'⟩
      · have := hH1.inj k k' l l' b o r o' r' hk2 hk2' h3 h4
        subst this; rw [hk] at hk'; exact Option.some.inj hk'
      · exact absurd ⟨k, l, o, r, hk2, h3⟩ (hsep id' l' b o' r' g1' g3' h4)
      · exact absurd ⟨k', l', o', r', hk2', h4⟩ (hsep id l b o r g1 g3 h3)
      · exact hH.inj id id' l l' b o r o' r' g3 g3' h3 h4
end Go.Sas
namespace Go.Sas

/-! ### What an operation looks at -/
section congr
variable {e e' : Od → AV} {H : AHeap} {op : AOp}

theorem odl_congr {x : Option Od} (h : ∀ y ∈ odl x, e y = e' y) : x.map e = x.map e' := by
  cases x with
  | none => rfl
  | some x => simp [h x (by simp [odl])]

theorem opVal_congr (h : ∀ x ∈ opOds op, e x = e' x) : opVal e H op = opVal e' H op := by
  cases op <;> simp only [opOds, List.mem_cons, List.not_mem_nil, or_false, forall_eq_or_imp, forall_eq, List.mem_append, or_imp, forall_and] at h <;> try (simp only [opVal, h]; done)
  case mk z ps =>
    have : ps.map (fun (o, n, x) => (o, n, e x)) = ps.map (fun (o, n, x) => (o, n, e' x)) := by
      apply List.map_congr_left
      rintro ⟨o, n, x⟩ hx
      have := h x (by simp only [List.mem_map]; exact ⟨(o, n, x), hx, rfl⟩)
      simp [this]
    simp only [opVal, this]
  case mks mu sz xs =>
    have : xs.map e = xs.map e' := List.map_congr_left h
    cases mu <;> simp only [opVal, this]
  case mkf f xs => simp only [opVal, List.map_congr_left h]
  case mx xs => simp only [opVal, List.map_congr_left h]
  case mn xs => simp only [opVal, List.map_congr_left h]
  case sl sz x a b c => simp only [opVal, h.1, odl_congr h.2.1.1, odl_congr h.2.1.2, odl_congr h.2.2]
  case ssl x a b => simp only [opVal, h.1, odl_congr h.2.1, odl_congr h.2.2]

theorem opAct_congr (h : ∀ x ∈ opOds op, e x = e' x) : opAct e H op = opAct e' H op := by
  cases op <;> simp only [opOds, List.mem_cons, List.not_mem_nil, or_false, forall_eq_or_imp, forall_eq, List.mem_append, or_imp, forall_and] at h <;> try (simp only [opAct, h]; done)
  case mks mu sz xs =>
    have : xs.map e = xs.map e' := List.map_congr_left h
    cases mu <;> simp only [opAct, this]
end congr

/-! ### Part of a heap -/
/-- `own g []`: the object is there, what it holds is not said -/
def SubH : AHeap → AHeap → Prop
  | [], _ => True
  | .gone :: M, _ :: H => SubH M H
  | .own g [] :: M, .own g' _ :: H => g = g' ∧ SubH M H
  | x :: M, y :: H => x = y ∧ SubH M H
  | _ :: _, [] => False

def SubX (X : AObj) (o : Option AObj) : Prop := o = some X ∨ ∃ g cs, X = .own g [] ∧ o = some (.own g cs)

theorem SubH.uncons {x y : AObj} {M H : AHeap} (h : SubH (x :: M) (y :: H)) : SubH M H ∧ (x ≠ .gone → SubX x (some y)) := by
  cases x with
  | gone => simp only [SubH] at h; exact ⟨h, fun hx => absurd rfl hx⟩
  | raw g o es us => simp only [SubH] at h; exact ⟨h.2, fun _ => .inl (by rw [h.1])⟩
  | own g cs =>
    cases cs with
    | cons c cs => simp only [SubH] at h; exact ⟨h.2, fun _ => .inl (by rw [h.1])⟩
    | nil =>
      cases y with
      | own g' cs' => simp only [SubH] at h; exact ⟨h.2, fun _ => .inr ⟨g, cs', rfl, by rw [h.1]⟩⟩
      | gone => simp [SubH] at h
      | raw g' o es us => simp [SubH] at h

theorem SubH.get : ∀ {M H : AHeap} {id : Nat} {X : AObj}, SubH M H → M[id]? = some X → X ≠ .gone → SubX X H[id]?
  | [], H, id, X, _, h, _ => by simp at h
  | x :: M, [], id, X, hs, h, _ => by cases x <;> simp [SubH] at hs
  | x :: M, y :: H, 0, X, hs, h, hx => by simp at h; subst h; exact hs.uncons.2 hx
  | x :: M, y :: H, id + 1, X, hs, h, hx => by simp at h ⊢; exact SubH.get hs.uncons.1 h hx

theorem SubH.live {M H : AHeap} {id g : Nat} (hs : SubH M H) (h : live M id g = true) : live H id g = true := by
  unfold Go.Sas.live at *
  split at h
  · rename_i g' cs hX
    rcases hs.get hX (by simp) with h1 | ⟨g2, cs2, h1, h2⟩
    · rw [h1]; exact h
    · cases h1; rw [h2]; exact h
  · rename_i g' ob es us hX
    rcases hs.get hX (by simp) with h1 | ⟨g2, cs2, h1, h2⟩
    · rw [h1]; exact h
    · cases h1
  · cases h

theorem ldA_sub {M H : AHeap} {n : Option Nat} {a r : AV} (hs : SubH M H) (h : ldA M n a = some r) : ldA H n a = some r := by
  unfold ldA at *
  split at h
  · exact h
  · split at h
    · rename_i g' cs hX
      rcases hs.get hX (by simp) with h1 | ⟨g2, cs2, h1, h2⟩
      · simp only [h1]; exact h
      · cases h1
        simp only [h2]
        split at h
        · rename_i hg
          rw [if_pos hg]
          cases n with
          | none => simp [getN] at h
          | some k =>
            simp only [getN] at h ⊢
            split at h
            · rename_i hk
              simp only [List.length_nil, Nat.le_zero_eq, Nat.add_eq_zero_iff] at hk
              obtain ⟨rfl, rfl⟩ := hk
              rw [if_pos (by omega)]
              simpa using h
            · cases h
        · cases h
    · cases h
  · cases h

theorem opVal_sub {M H : AHeap} {e : Od → AV} {op : AOp} {r : AV} (hs : SubH M H) (h : opVal e M op = some r) : opVal e H op = some r := by
  have hl : ∀ {id g}, live M id g = true → live H id g = true := fun h => hs.live h
  cases op
  case ld n a => simp only [opVal] at h ⊢; exact ldA_sub hs h
  case nilc x =>
    simp only [opVal] at h ⊢
    unfold nilcA at *
    split at h
    · exact h
    · split at h
      · rename_i h1; rw [if_pos (hl h1)]; exact h
      · cases h
    · exact h
    · split at h
      · rename_i h1; rw [if_pos (hl h1)]; exact h
      · cases h
    · cases h
  case fa x off =>
    simp only [opVal] at h ⊢
    unfold faA at *
    split at h
    · exact h
    · split at h
      · rename_i h1; rw [if_pos (hl h1)]; exact h
      · cases h
    · cases h
  case ia sz x i =>
    simp only [opVal] at h ⊢
    unfold iaA at *
    split at h
    · exact h
    · split at h
      · rename_i h1; rw [if_pos ⟨h1.1, h1.2.1, h1.2.2.1, hl h1.2.2.2⟩]; exact h
      · cases h
    · cases h
  case iaa len sz x i =>
    simp only [opVal] at h ⊢
    unfold iaaA at *
    split at h
    · exact h
    · split at h
      · rename_i h1; rw [if_pos ⟨h1.1, h1.2.1, hl h1.2.2⟩]; exact h
      · cases h
    · cases h
  case len x =>
    simp only [opVal] at h ⊢
    unfold lenA at *
    split at h
    · exact h
    · split at h
      · rename_i h1; rw [if_pos (hl h1)]; exact h
      · cases h
    · exact h
    · exact h
    · cases h
  case sl sz x lo hi mx =>
    simp only [opVal] at h ⊢
    unfold slA at *
    split at h
    · exact h
    · split at h
      · split at h
        · rename_i h1; rw [if_pos ⟨h1.1, h1.2.1, h1.2.2.1, hl h1.2.2.2⟩]; exact h
        · cases h
      · split at h
        · rename_i m' hm'
          (try simp only [hm'])
          split at h
          · rename_i h1; rw [if_pos ⟨h1.1, h1.2.1, h1.2.2.1, h1.2.2.2.1, h1.2.2.2.2.1, hl h1.2.2.2.2.2⟩]; exact h
          · cases h
        · cases h
      · cases h
    · exact h
    · exact h
    · cases h
  case eqn neg x =>
    simp only [opVal] at h ⊢
    obtain ⟨b, hb, rfl⟩ := Option.map_eq_some_iff.1 h
    refine Option.map_eq_some_iff.2 ⟨b, ?_, rfl⟩
    unfold eqnA at *
    split at hb
    · exact hb
    · exact hb
    · split at hb
      · rename_i h1; rw [if_pos (hl h1)]; exact hb
      · cases hb
    · cases hb
  case mks mu sz xs => cases mu <;> exact h
  all_goals exact h

/-! ### The environment, by what is looked up -/
def EqE (e e' : Env) : Prop := (∀ t, look e.l t = look e'.l t) ∧ ∀ t, look e.g t = look e'.g t

theorem EqE.refl (e : Env) : EqE e e := ⟨fun _ => rfl, fun _ => rfl⟩
theorem EqE.symm {e e' : Env} (h : EqE e e') : EqE e' e := ⟨fun t => (h.1 t).symm, fun t => (h.2 t).symm⟩
theorem EqE.ev {e e' : Env} (h : EqE e e') (x : Od) : ev e x = ev e' x := by
  cases x with
  | l t => exact h.1 t
  | g t => exact h.2 t
  | c a => rfl
theorem look_put_l (e : Env) (b : Bool) (d : Nat) (r : AV) (t : Nat) : look (put e (some (b, d)) r).l t = if b = false ∧ d = t then r else look e.l t := by
  cases b <;> simp [put, look]
theorem look_put_g (e : Env) (b : Bool) (d : Nat) (r : AV) (t : Nat) : look (put e (some (b, d)) r).g t = if b = true ∧ d = t then r else look e.g t := by
  cases b <;> simp [put, look_gset]
theorem EqE.put {e e' : Env} (h : EqE e e') (d : Option (Bool × Nat)) (r : AV) : EqE (put e d r) (put e' d r) := by
  cases d with
  | none => exact h
  | some d =>
    obtain ⟨b, d⟩ := d
    exact ⟨fun t => by rw [look_put_l, look_put_l, h.1 t], fun t => by rw [look_put_g, look_put_g, h.2 t]⟩
theorem put_comm {e : Env} {d d' : Option (Bool × Nat)} {r r' : AV} (h : ∀ b x b' x', d = some (b, x) → d' = some (b', x') → x ≠ x') : EqE (put (put e d r) d' r') (put (put e d' r') d r) := by
  cases d with
  | none => exact .refl _
  | some d =>
    cases d' with
    | none => exact .refl _
    | some d' =>
      obtain ⟨b, x⟩ := d
      obtain ⟨b', x'⟩ := d'
      have hne := h b x b' x' rfl rfl
      refine ⟨fun t => ?_, fun t => ?_⟩
      · simp only [look_put_l]
        split <;> split <;> first | rfl | (rename_i h1 h2; exact absurd (h2.2.trans h1.2.symm) hne)
      · simp only [look_put_g]
        split <;> split <;> first | rfl | (rename_i h1 h2; exact absurd (h2.2.trans h1.2.symm) hne)

theorem Rel.eqE {cx : Cx} {st0 st : St} {w0 w : World} {e e' : Env} {H : AHeap} {a : Act} (h : Rel cx st0 w0 st w e H a) (he : EqE e e') : Rel cx st0 w0 st w e' H a :=
  ⟨h.ext, h.hH, fun t => by rw [← he.1 t]; exact h.l t, fun t => by rw [← he.2 t]; exact h.g t, fun t ht => by rw [← he.1 t]; exact h.kl t ht, fun t ht => by rw [← he.2 t]; exact h.kg t ht, h.n, h.d⟩

theorem AGo.eqE {cx : Cx} {m : Nat} {k : List AItm} {R : Env → AHeap → Prop} {e e' : Env} {H : AHeap} (h : AGo cx m k R e H) (he : EqE e e') : AGo cx m k R e' H :=
  fun st0 w0 kc hm hk st a w hr => h st0 w0 kc hm hk st a w (hr.eqE he.symm)

/-- they are alike in what the operation looks at -/
def Agree (e e' : Env) (o : AOper) : Prop := (∀ x ∈ opOds o.op, ev e x = ev e' x) ∧ gOk e o.grd = gOk e' o.grd

theorem EqE.agree {e e' : Env} (h : EqE e e') (o : AOper) : Agree e e' o := by
  refine ⟨fun x _ => h.ev x, ?_⟩
  cases hg : o.grd with
  | none => rfl
  | some g => simp only [gOk, h.ev]

theorem Agree.symm {e e' : Env} {o : AOper} (h : Agree e e' o) : Agree e' e o := ⟨fun x hx => (h.1 x hx).symm, h.2.symm⟩

theorem ev_put_ne {e : Env} {b : Bool} {d : Nat} {r : AV} {x : Od} (h : odSlot x ≠ some d) : ev (put e (some (b, d)) r) x = ev e x := by
  cases x with
  | l t => simp only [ev, look_put_l]; rw [if_neg]; rintro ⟨_, rfl⟩; exact h rfl
  | g t => simp only [ev, look_put_g]; rw [if_neg]; rintro ⟨_, rfl⟩; exact h rfl
  | c a => rfl

theorem agree_put {e : Env} {o : AOper} {d : Option (Bool × Nat)} {r : AV} (h : ∀ b t, d = some (b, t) → looks o t = false) : Agree (put e d r) e o := by
  cases d with
  | none => exact (EqE.refl e).agree o
  | some d =>
    obtain ⟨b, t⟩ := d
    have h := h b t rfl
    simp only [looks, Bool.or_eq_false_iff, List.any_eq_false, beq_iff_eq] at h
    refine ⟨fun x hx => ev_put_ne (h.1 x hx), ?_⟩
    cases hg : o.grd with
    | none => rfl
    | some g =>
      obtain ⟨x, wt⟩ := g
      simp only [hg, beq_eq_false_iff_ne] at h
      simp only [gOk, ev_put_ne h.2]

theorem apartA_spec {x y : AOper} (h : apartA x y = true) : (∀ b t, x.dst = some (b, t) → looks y t = false) ∧ (∀ b t, y.dst = some (b, t) → looks x t = false) ∧ (∀ b s b' t, x.dst = some (b, s) → y.dst = some (b', t) → s ≠ t) := by
  simp only [apartA, Bool.and_eq_true] at h
  refine ⟨fun b t hx => ?_, fun b t hy => ?_, fun b s b' t hx hy => ?_⟩
  · rw [hx] at h; simp at h; exact h.1.1
  · rw [hy] at h; simp at h; exact h.2
  · rw [hx, hy] at h; simp at h; exact h.1.2

/-! ### Steps of a region that draws its order -/
/-- what stays; where the new variables get their places -/
structure DM where
  M : AHeap
  base : Nat
  news : List Nat
  M1 : AHeap
  cs : List AV
  nn : Nat
  kc : List (Nat × Nat × Nat × AV)

/-- cells that stay as they are, of objects that are written to -/
def kcLook : List (Nat × Nat × Nat × AV) → Nat → Nat → Nat → Option AV
  | [], _, _, _ => none
  | (i, g, o, v) :: r, id, g', off => match Nat.beq i id && Nat.beq g g' && Nat.beq o off with
    | true => some v
    | false => kcLook r id g' off
def KcOk : List (Nat × Nat × Nat × AV) → AHeap → Prop
  | [], _ => True
  | (i, g, o, v) :: r, H => (∃ cs, H[i]? = some (.own g cs) ∧ cs[o]? = some v) ∧ KcOk r H
theorem kc_ld : ∀ {kc : List (Nat × Nat × Nat × AV)} {H : AHeap} {id g off : Nat} {v : AV}, KcOk kc H → kcLook kc id g off = some v → ldA H none (.mp id g off) = some v
  | [], H, id, g, off, v, _, h => by cases h
  | (i, g', o, u) :: r, H, id, g, off, v, hk, h => by
    simp only [kcLook] at h
    simp only [KcOk] at hk
    split at h
    · rename_i hb
      simp only [Bool.and_eq_true] at hb
      have h1 := Nat.eq_of_beq_eq_true hb.1.1
      have h2 := Nat.eq_of_beq_eq_true hb.1.2
      have h3 := Nat.eq_of_beq_eq_true hb.2
      subst h1 h2 h3
      cases h
      obtain ⟨⟨cs, e1, e2⟩, _⟩ := hk
      simp only [ldA, e1, if_true]
      simpa [getN] using e2
    · exact kc_ld hk.2 h
def KcK (kc : List (Nat × Nat × Nat × AV)) (H' : AHeap) (p : Prop) : Prop := match kc with
  | [] => p
  | kc => KcOk kc H' ∧ p
@[simp] theorem KcK_nil {H' : AHeap} {p : Prop} : KcK [] H' p = p := rfl
theorem KcK.mk {kc : List (Nat × Nat × Nat × AV)} {H' : AHeap} {p : Prop} (h : KcOk kc H') (hp : p) : KcK kc H' p := by
  unfold KcK; split
  · exact hp
  · exact ⟨h, hp⟩
theorem KcK.ok {kc : List (Nat × Nat × Nat × AV)} {H' : AHeap} {p : Prop} (h : KcK kc H' p) : KcOk kc H' ∧ p := by
  unfold KcK at h; split at h
  · exact ⟨trivial, h⟩
  · exact h

def posOf : List Nat → Nat → Nat → Option Nat
  | [], _, _ => none
  | x :: r, b, i => if x = i then some b else posOf r (b + 1) i

def MVal (D : DM) (it : DItm) (e : Env) : Option AV := match gOk e it.o.grd with
  | some false => some (.lit undef)
  | some true => match it.o.op with
    | .new _ => (posOf D.news D.base it.i).map fun id => .mp id 0 0
    | op => opVal (ev e) (match it.tail with | true => D.M1 | false => D.M) op
  | none => none

/-- a slice that is made: its length and its cells -/
def mkN (sz by_ : Nat) (z : List Value) (ln cp : Int) (cs : List AV) (n : Nat) : Prop := 0 ≤ ln ∧ ln ≤ cp ∧ cp ≤ 9223372036854775807 ∧ by_ * cp ≤ 281474976710656 ∧ z.length = sz ∧ n = ln.toNat ∧ cs = List.flatten (List.replicate ln.toNat (z.map .lit))
/-- a load from a cell that stays -/
def MKc (D : DM) (it : DItm) (e : Env) (r : AV) : Prop := gOk e it.o.grd = some true ∧ ∃ a id g off, it.o.op = .ld none a ∧ ev e a = .mp id g off ∧ kcLook D.kc id g off = some r
def MRel (D : DM) (it : DItm) (e : Env) (r : AV) : Prop := match isNwl it.o.op with
  | false => MVal D it e = some r ∨ MKc D it e r
  | true => match gOk e it.o.grd with
    | some false => r = .lit undef
    | some true => ∃ sz by_ z l c ln cp id, it.o.op = .newl sz by_ z l c ∧ ev e l = .lit (.int .i64 ln) ∧ ev e c = .lit (.int .i64 cp) ∧ mkN sz by_ z ln cp D.cs D.nn ∧ posOf D.news D.base it.i = some id ∧ r = .ms sz id 0 0 D.nn
    | none => False

def ResK : List Nat → Nat → List Nat → AHeap → AHeap → Prop
  | [], _, _, _, _ => True
  | i :: r, b, ws, H, H' => (ws.contains i = true ∨ H'[b]? = H[b]?) ∧ ResK r (b + 1) ws H H'

def Keep (D : Option DM) (it : DItm) (H H' : AHeap) : Prop := match D with
  | none => True
  | some D => it.tail = true ∨ KcK D.kc H' (SubH D.M H' ∧ ResK D.news D.base it.ws H H' ∧ (isStB it.o.op = true ∨ (SubH D.M1 H → SubH D.M1 H')))

def nx (D : Option DM) (it : DItm) : Option DM := if it.tail then none else D

def JStep (P : Program) (D : Option DM) (it : DItm) (e : Env) (H : AHeap) (K : Option DM → AV → AHeap → Prop) : Prop :=
  match movB it.o.op with
  | true => match D with
    | none => False
    | some D' => ∃ r, MRel D' it e r ∧ K (some D') r H
  | false => match gOk e it.o.grd with
    | none => False
    | some false => K (nx D it) (.lit undef) H
    | some true => match it.o.op with
      | .call f xs => ∃ fid caps, ev e f = .fn fid caps ∧ ACalls P fid (xs.map (ev e) ++ caps) H fun r H' => Keep D it H H' ∧ K (nx D it) r H'
      | op => ∃ r H', opAct (ev e) H op = some (r, H') ∧ Keep D it H H' ∧ K (nx D it) r H'

theorem MVal_congr {D : DM} {it : DItm} {e e' : Env} (h : Agree e e' it.o) : MVal D it e = MVal D it e' := by
  unfold MVal
  rw [h.2]
  split
  · rfl
  · split
    · rfl
    · exact opVal_congr h.1
  · rfl

theorem MVal_rel {D : DM} {it : DItm} {e : Env} {r : AV} (h : MVal D it e = some r) : MRel D it e r := by
  unfold MRel
  cases hn : isNwl it.o.op with
  | false => simp only; exact .inl h
  | true =>
    simp only
    unfold MVal at h
    split at h
    · rename_i hg
      exact (Option.some.inj h).symm
    · rename_i hg
      exfalso
      have : ∃ sz by_ z l c, it.o.op = .newl sz by_ z l c := by
        cases hop : it.o.op <;> rw [hop] at hn <;> first | (cases hn; done) | exact ⟨_, _, _, _, _, rfl⟩
      obtain ⟨sz, by_, z, l, c, hop⟩ := this
      split at h
      · rename_i hz; rw [hop] at hz; cases hz
      · rw [hop] at h; cases h
    · cases h
theorem MRel_congr {D : DM} {it : DItm} {e e' : Env} {r : AV} (h : Agree e e' it.o) (hr : MRel D it e r) : MRel D it e' r := by
  unfold MRel at hr ⊢
  cases hn : isNwl it.o.op with
  | false =>
    simp only [hn] at hr ⊢
    rcases hr with hr | ⟨hg, a, id, g, off, hop, hev, hk⟩
    · rw [← MVal_congr h]; exact .inl hr
    · refine .inr ⟨by rw [← h.2]; exact hg, a, id, g, off, hop, ?_, hk⟩
      rw [← h.1 a (by rw [hop]; simp [opOds])]; exact hev
  | true =>
    simp only [hn] at hr ⊢
    rw [← h.2]
    split
    · rename_i hg; simp only [hg] at hr; exact hr
    · rename_i hg
      simp only [hg] at hr
      obtain ⟨sz, by_, z, l, c, ln, cp, id, h1, h2, h3, h4, h5, h6⟩ := hr
      have hx := h.1
      rw [h1] at hx; simp only [opOds, List.mem_cons, List.not_mem_nil, or_false, forall_eq_or_imp, forall_eq] at hx
      exact ⟨sz, by_, z, l, c, ln, cp, id, h1, by rw [← hx.1]; exact h2, by rw [← hx.2]; exact h3, h4, h5, h6⟩
    · rename_i hg; simp only [hg] at hr

theorem JStep.imp {P : Program} {D : Option DM} {it : DItm} {e e' : Env} {H : AHeap} {K K' : Option DM → AV → AHeap → Prop} (h : JStep P D it e H K) (ha : Agree e e' it.o)
    (hk : ∀ D' r H', (it.tail = false → D' = D) → (movB it.o.op = true → H' = H ∧ D' = D) → K D' r H' → K' D' r H') : JStep P D it e' H K' := by
  unfold JStep at *
  split
  · rename_i hm
    simp only [hm] at h
    cases D with
    | none => exact h
    | some D' =>
      simp only at h ⊢
      obtain ⟨r, h1, h2⟩ := h
      exact ⟨r, MRel_congr ha h1, hk _ _ _ (fun _ => rfl) (fun _ => ⟨rfl, rfl⟩) h2⟩
  · rename_i hm
    have hk2 : ∀ r H', K (nx D it) r H' → K' (nx D it) r H' := fun r H' h => hk _ _ _ (fun ht => by simp [nx, ht]) (fun h => by rw [hm] at h; cases h) h
    simp only [hm] at h
    rw [← ha.2]
    split
    · rename_i hg; simp only [hg] at h
    · rename_i hg; simp only [hg] at h; exact hk2 _ _ h
    · rename_i hg
      simp only [hg] at h
      split
      · rename_i f xs hop
        simp only [hop] at h
        obtain ⟨fid, caps, h1, h2⟩ := h
        have hx := ha.1
        rw [hop] at hx; simp only [opOds, List.mem_cons, forall_eq_or_imp] at hx
        refine ⟨fid, caps, by rw [← hx.1]; exact h1, ?_⟩
        rw [← List.map_congr_left hx.2]
        exact h2.mono fun r H' h3 => ⟨h3.1, hk2 _ _ h3.2⟩
      · rename_i hno
        split at h
        · rename_i f xs hop; exact absurd hop (hno f xs)
        · obtain ⟨r, H', h1, h2, h3⟩ := h
          exact ⟨r, H', by rw [← opAct_congr ha.1]; exact h1, h2, hk2 _ _ h3⟩

def DGo (cx : Cx) (m : Nat) (k : List AItm) (R : Env → AHeap → Prop) : Option DM → List DItm → Env → AHeap → Prop
  | _, [], e, H => AGo cx m k R ⟨[], e.g⟩ H
  | D, it :: l, e, H => JStep cx.P D it e H fun D' r H' => DGo cx m k R D' l (put e it.o.dst r) H'

theorem DGo.eqE {cx : Cx} {m : Nat} {k : List AItm} {R : Env → AHeap → Prop} : ∀ {l : List DItm} {D : Option DM} {e e' : Env} {H : AHeap}, DGo cx m k R D l e H → EqE e e' → DGo cx m k R D l e' H
  | [], D, e, e', H, h, he => by
    simp only [DGo] at h ⊢
    exact h.eqE ⟨fun _ => rfl, he.2⟩
  | it :: l, D, e, e', H, h, he => by
    simp only [DGo] at h ⊢
    exact h.imp (he.agree _) fun D' r H' _ _ h' => DGo.eqE h' (he.put _ _)

/-! ### The orders -/
inductive Valid (ops : Array Oper) (A : List AOper) : Array Bool → List Nat → Prop
  | nil {listed : Array Bool} : Region.ready .any ops listed = [] → Valid ops A listed []
  | mov {listed : Array Bool} {i : Nat} {l : List Nat} : i ∈ Region.ready .any ops listed → isMov A i = true → freeA ops A listed i = true → Valid ops A (listed.setIfInBounds i true) l → Valid ops A listed (i :: l)
  | one {listed : Array Bool} {i : Nat} {l : List Nat} : Region.ready .any ops listed = [i] → Valid ops A (listed.setIfInBounds i true) l → Valid ops A listed (i :: l)

theorem canonGo_valid {ops : Array Oper} {A : List AOper} : ∀ {n : Nat} {listed : Array Bool} {l : List Nat}, canonGo ops A n listed = some l → Valid ops A listed l
  | 0, listed, l, h => by
    simp only [canonGo] at h
    split at h
    · rename_i he; simp only [Option.some.injEq] at h; subst h; exact .nil (by simpa using he)
    · cases h
  | n + 1, listed, l, h => by
    simp only [canonGo] at h
    split at h
    · rename_i i hi
      split at h
      · rename_i hf
        split at h
        · rename_i l' hl'
          simp only [Option.some.injEq] at h; subst h
          exact .mov (List.mem_of_find?_eq_some hi) (List.find?_some hi) hf (canonGo_valid hl')
        · cases h
      · cases h
    · split at h
      · rename_i he; simp only [Option.some.injEq] at h; subst h; exact .nil he
      · rename_i i he
        split at h
        · rename_i l' hl'
          simp only [Option.some.injEq] at h; subst h
          exact .one he (canonGo_valid hl')
        · cases h
      · cases h

theorem getD_set_true' {listed : Array Bool} {i j : Nat} (h : listed.getD j true = true) : (listed.setIfInBounds i true).getD j true = true := by
  by_cases hij : i = j
  · subst hij
    rcases Nat.lt_or_ge i listed.size with hlt | hge
    · simp [hlt]
    · rw [Array.setIfInBounds_eq_of_size_le hge]; exact h
  · rw [getD_set_ne true hij]; exact h

theorem getD_set_self {listed : Array Bool} {i : Nat} : (listed.setIfInBounds i true).getD i true = true := by
  rcases Nat.lt_or_ge i listed.size with hlt | hge
  · simp [hlt]
  · simp [Array.setIfInBounds_eq_of_size_le hge, hge]

theorem set_comm (listed : Array Bool) (i j : Nat) : (listed.setIfInBounds i true).setIfInBounds j true = (listed.setIfInBounds j true).setIfInBounds i true := by
  by_cases h : i = j
  · subst h; rfl
  · exact Array.setIfInBounds_comm true true h

theorem Valid.unlisted {ops : Array Oper} {A : List AOper} {listed : Array Bool} {l : List Nat} (h : Valid ops A listed l) : ∀ i ∈ l, listed.getD i true = false := by
  have fin : ∀ {listed : Array Bool} {i : Nat} {l : List Nat}, i ∈ Region.ready .any ops listed → (∀ j ∈ l, (listed.setIfInBounds i true).getD j true = false) → ∀ j ∈ i :: l, listed.getD j true = false := by
    intro listed i l hi ih j hj
    rcases List.mem_cons.1 hj with rfl | hj
    · exact (mem_ready.1 hi).1
    · have := ih j hj
      by_cases hij : i = j
      · subst hij; rw [getD_set_self] at this; cases this
      · rwa [getD_set_ne true hij] at this
  induction h with
  | nil _ => intro i hi; cases hi
  | mov h1 _ _ _ ih => exact fin h1 ih
  | one h1 _ ih => exact fin (by rw [h1]; simp) ih

theorem Valid.lt {ops : Array Oper} {A : List AOper} {listed : Array Bool} {l : List Nat} (h : Valid ops A listed l) : ∀ i ∈ l, i < ops.size := by
  have rd : ∀ {listed : Array Bool} {i : Nat}, i ∈ Region.ready .any ops listed → i < ops.size := by
    intro listed i hi
    obtain ⟨_, o, ho, _⟩ := mem_ready.1 hi
    exact (Array.getElem?_eq_some_iff.1 ho).1
  induction h with
  | nil _ => intro i hi; cases hi
  | mov h1 _ _ _ ih =>
    intro i hi
    rcases List.mem_cons.1 hi with rfl | hi
    · exact rd h1
    · exact ih i hi
  | one h1 _ ih =>
    intro i hi
    rcases List.mem_cons.1 hi with rfl | hi
    · exact rd (by rw [h1]; simp)
    · exact ih i hi

def itm (ops : Array Oper) (A : List AOper) (i : Nat) : DItm := ⟨(A[i]?).getD default, i, flagA ops A i, wsA ops A i⟩

theorem pickA_spec {ops : Array Oper} {A : List AOper} : ∀ {l : List Nat} {L : List DItm}, pickA ops A l = some L → L = l.map (itm ops A) ∧ ∀ i ∈ l, i < A.length
  | [], L, h => by simp only [pickA, Option.some.injEq] at h; subst h; simp
  | i :: l, L, h => by
    simp only [pickA] at h
    split at h
    · rename_i o l' ho hl'
      simp only [Option.some.injEq] at h; subst h
      obtain ⟨rfl, h2⟩ := pickA_spec hl'
      refine ⟨by simp [itm, ho], fun j hj => ?_⟩
      rcases List.mem_cons.1 hj with rfl | hj
      · exact (List.getElem?_eq_some_iff.1 ho).1
      · exact h2 j hj
    · cases h

theorem trOps_get {cx : Cx} {ops : Array Oper} : ∀ {os : List Oper} {A : List AOper} {i : Nat} {o : AOper}, trOps cx ops os = some A → A[i]? = some o → ∃ o', os[i]? = some o' ∧ trOper cx ops o' = some o
  | [], A, i, o, h, hi => by simp only [trOps, Option.some.injEq] at h; subst h; simp at hi
  | o1 :: os, A, i, o, h, hi => by
    simp only [trOps] at h
    split at h
    · rename_i x y hx hy
      simp only [Option.some.injEq] at h; subst h
      cases i with
      | zero => simp at hi; subst hi; exact ⟨o1, by simp, hx⟩
      | succ i => simp at hi; obtain ⟨o', h1, h2⟩ := trOps_get hy hi; exact ⟨o', by simpa using h1, h2⟩
    · cases h

theorem trOps_length {cx : Cx} {ops : Array Oper} : ∀ {os : List Oper} {A : List AOper}, trOps cx ops os = some A → A.length = os.length
  | [], A, h => by simp only [trOps, Option.some.injEq] at h; subst h; rfl
  | o1 :: os, A, h => by
    simp only [trOps] at h
    split at h
    · rename_i x y hx hy
      simp only [Option.some.injEq] at h; subst h
      simp [trOps_length hy]
    · cases h

theorem isMov_itm {ops : Array Oper} {A : List AOper} {i : Nat} (h : isMov A i = true) : movB (itm ops A i).o.op = true := by
  unfold isMov at h
  split at h
  · rename_i o ho; simp [itm, ho, h]
  · cases h

theorem not_waits {ops : Array Oper} {listed : Array Bool} {i j : Nat} (hj : j ∈ Region.ready .any ops listed) (hi : listed.getD i true = false) : waitsFor ops j i = false := by
  obtain ⟨_, o, ho, hall⟩ := mem_ready.1 hj
  cases hc : waitsFor ops j i with
  | false => rfl
  | true =>
  exfalso
  simp only [waitsFor, ho] at hc
  obtain ⟨e, he, hb⟩ := Array.any_eq_true'.1 hc
  simp only [Bool.and_eq_true, beq_iff_eq] at hb
  obtain ⟨hb, hx⟩ := hb
  have h1 := hall e he hb
  rw [hx] at h1
  simp only [Array.getD_eq_getD_getElem?] at h1 hi
  cases hq : listed[i]? with
  | none => rw [hq] at h1; simp at h1
  | some b => rw [hq] at h1 hi; simp at h1 hi; rw [h1] at hi; cases hi

theorem free_mono {ops : Array Oper} {A : List AOper} {listed : Array Bool} {i j : Nat} (h : freeA ops A listed i = true) : freeA ops A (listed.setIfInBounds j true) i = true := by
  unfold freeA at *
  split
  · rename_i hn; simp only [hn] at h; exact h
  · rename_i oi ho
    simp only [ho, List.all_eq_true, List.mem_range, Bool.or_eq_true] at h ⊢
    intro k hk
    rcases h k hk with ((h1 | h1) | h1) | h1
    · exact .inl (.inl (.inl h1))
    · exact .inl (.inl (.inr (getD_set_true' h1)))
    · exact .inl (.inr h1)
    · exact .inr h1

/-- what is listed waits for nothing that is not -/
def Cl (ops : Array Oper) (listed : Array Bool) : Prop := ∀ k i, listed.getD k true = true → k < ops.size → waitsFor ops k i = true → i < ops.size → listed.getD i true = true

theorem Cl.step {ops : Array Oper} {listed : Array Bool} {j : Nat} (h : Cl ops listed) (hj : j ∈ Region.ready .any ops listed) : Cl ops (listed.setIfInBounds j true) := by
  intro k i hk hks hw his
  by_cases hjk : j = k
  · subst hjk
    refine getD_set_true' ?_
    cases hi : listed.getD i true with
    | true => rfl
    | false => rw [not_waits hj hi] at hw; cases hw
  · rw [getD_set_ne true hjk] at hk
    exact getD_set_true' (h k i hk hks hw his)

theorem not_waits2 {ops : Array Oper} {listed : Array Bool} {i j : Nat} (h : Cl ops listed) (hj : j ∈ Region.ready .any ops listed) (hi : listed.getD i true = false) (his : i < ops.size) : waits2 ops j i = false := by
  cases hc : waits2 ops j i with
  | false => rfl
  | true =>
    exfalso
    simp only [waits2, Bool.or_eq_true, List.any_eq_true, List.mem_range, Bool.and_eq_true] at hc
    rcases hc with hc | ⟨k, hks, h1, h2⟩
    · rw [not_waits hj hi] at hc; cases hc
    · cases hk : listed.getD k true with
      | false => rw [not_waits hj hk] at h1; cases h1
      | true =>
        have := h k i hk hks h2 his
        rw [hi] at this; cases this

/-- What is ready may be taken now. -/
theorem pull {cx : Cx} {m : Nat} {k : List AItm} {R : Env → AHeap → Prop} {ops : Array Oper} {A : List AOper} (hsz : A.length = ops.size) : ∀ {l : List Nat} {listed : Array Bool} {D : Option DM} {e : Env} {H : AHeap} {j : Nat},
    Cl ops listed → Valid ops A listed l → DGo cx m k R D (l.map (itm ops A)) e H → j ∈ Region.ready .any ops listed →
    ∃ l', j ∈ l ∧ (∀ x ∈ l', x ∈ l) ∧ l'.length + 1 = l.length ∧ Valid ops A (listed.setIfInBounds j true) l' ∧
      JStep cx.P D (itm ops A j) e H fun D' r H' => DGo cx m k R D' (l'.map (itm ops A)) (put e (itm ops A j).o.dst r) H'
  | [], listed, D, e, H, j, _, hv, hg, hj => by
    cases hv with
    | nil h => rw [h] at hj; cases hj
  | i :: l, listed, D, e, H, j, hcl, hv, hg, hj => by
    simp only [List.map_cons, DGo] at hg
    by_cases hij : j = i
    · subst hij
      refine ⟨l, by simp, fun x hx => by simp [hx], by simp, ?_, hg⟩
      cases hv with
      | mov _ _ _ h => exact h
      | one _ h => exact h
    · cases hv with
      | one h1 h2 => rw [h1] at hj; simp at hj; exact absurd hj hij
      | mov h1 h2 h3 h4 =>
        have hun := (mem_ready.1 h1).1
        have hm := isMov_itm (ops := ops) h2
        have hg' := hg
        unfold JStep at hg'
        simp only [hm] at hg'
        cases D with
        | none => exact hg'.elim
        | some D =>
          simp only at hg'
          obtain ⟨ri, hri, hgo⟩ := hg'
          obtain ⟨l', g1, g2, g3, g4, g5⟩ := pull hsz (hcl.step h1) h4 hgo (ready_mono hj hij)
          have hw := not_waits hj hun
          have hjlt : j < ops.size := by
            obtain ⟨_, o, ho, _⟩ := mem_ready.1 hj
            exact (Array.getElem?_eq_some_iff.1 ho).1
          have hilt : i < ops.size := by
            obtain ⟨_, o, ho, _⟩ := mem_ready.1 h1
            exact (Array.getElem?_eq_some_iff.1 ho).1
          have hap : apartA (itm ops A i).o (itm ops A j).o = true := by
            have hAi : A[i]? = some A[i] := List.getElem?_eq_getElem (by omega)
            have hAj : A[j]? = some A[j] := List.getElem?_eq_getElem (by omega)
            unfold freeA at h3
            simp only [hAi, List.all_eq_true, List.mem_range, Bool.or_eq_true, beq_iff_eq] at h3
            have := h3 j hjlt
            rw [hw, (mem_ready.1 hj).1] at this
            simp only [hAj] at this
            simp only [itm, hAi, hAj, Option.getD_some]
            rcases this with ((h | h) | h) | h
            · exact absurd h hij
            · cases h
            · cases h
            · exact h
          obtain ⟨a1, a2, a3⟩ := apartA_spec hap
          have htail : (itm ops A j).tail = false ∨ movB (itm ops A j).o.op = true := by
            cases hmj : isMov A j with
            | true => exact .inr (isMov_itm hmj)
            | false =>
            cases ht : (itm ops A j).tail with
            | false => exact .inl rfl
            | true =>
              simp only [itm, flagA, hmj, tailA, List.all_eq_true, List.mem_range, Bool.or_eq_true] at ht
              have := ht i hilt
              rw [h2, not_waits2 hcl hj hun hilt] at this
              simp at this
          refine ⟨i :: l', by simp [g1], fun x hx => ?_, by simp [g3], .mov (ready_mono h1 (Ne.symm hij)) h2 (free_mono h3) (by rw [set_comm]; exact g4), ?_⟩
          · rcases List.mem_cons.1 hx with rfl | hx
            · simp
            · simp [g2 x hx]
          · refine g5.imp (agree_put a1) fun D' r H' hD hD2 hgo' => ?_
            have hD := htail.elim hD (fun h => (hD2 h).2)
            subst hD
            simp only [List.map_cons, DGo, JStep, hm]
            refine ⟨ri, ?_, ?_⟩
            · exact MRel_congr (agree_put (e := e) a2).symm hri
            · exact hgo'.eqE (put_comm a3)
end Go.Sas
namespace Go.Sas

/-! ### A place that was kept is taken -/
def St.fill (st : St) (id : Nat) (l : Loc) : St := ⟨st.rd, st.loc.set id l⟩

theorem fill_get {st : St} {id g : Nat} {ba : Option (Nat × Nat × Nat)} (h : st.loc[id]? = some ⟨g, none⟩) {j : Nat} {l : Loc} (hj : st.loc[j]? = some l) :
    ∃ l', (st.fill id ⟨g, ba⟩).loc[j]? = some l' ∧ l'.g = l.g ∧ (l.base = none ∨ l'.base = l.base) := by
  by_cases he : id = j
  · subst he
    rw [h] at hj; cases hj
    exact ⟨⟨g, ba⟩, by simp [St.fill, (List.getElem?_eq_some_iff.1 h).1], rfl, .inl rfl⟩
  · exact ⟨l, by simp [St.fill, List.getElem?_set, he, hj], rfl, .inr rfl⟩

mutual
theorem RelV.fill {st : St} {id g : Nat} {ba : Option (Nat × Nat × Nat)} (h : st.loc[id]? = some ⟨g, none⟩) : ∀ {a : AV} {v : Value}, RelV st a v → RelV (st.fill id ⟨g, ba⟩) a v
  | .bad, _, _ => by simp only [RelV]
  | .lit u, v, hv => by simp only [RelV] at hv ⊢; exact hv
  | .agg cs, v, hv => by
    simp only [RelV] at hv ⊢
    obtain ⟨us, h1, h2, h3⟩ := hv
    exact ⟨us, h1, RelL.fill h h2, h3⟩
  | .tup cs, v, hv => by
    simp only [RelV] at hv ⊢
    obtain ⟨us, h1, h2⟩ := hv
    exact ⟨us, h1, RelL.fill h h2⟩
  | .vs sz es, v, hv => by simp only [RelV] at hv ⊢; exact hv
  | .vp cs, v, hv => by simp only [RelV] at hv ⊢; exact hv
  | .mp i g' off, v, hv => by
    simp only [RelV] at hv ⊢
    obtain ⟨l, h1, h2, h3, h4⟩ := hv
    obtain ⟨l', e1, e2, e3⟩ := fill_get (ba := ba) h h1
    refine ⟨l', e1, by omega, fun hlt => h3 (by omega), fun he => ?_⟩
    obtain ⟨b, o, r, f1, f2⟩ := h4 (by omega)
    rcases e3 with e3 | e3
    · rw [e3] at f1; cases f1
    · exact ⟨b, o, r, by rw [e3]; exact f1, f2⟩
  | .ms sz i g' off len, v, hv => by
    simp only [RelV] at hv ⊢
    obtain ⟨l, h1, h2, h3, h4⟩ := hv
    obtain ⟨l', e1, e2, e3⟩ := fill_get (ba := ba) h h1
    refine ⟨l', e1, by omega, fun hlt => h3 (by omega), fun he => ?_⟩
    obtain ⟨a, cap, f1, f2, f3⟩ := h4 (by omega)
    refine ⟨a, cap, f1, f2, fun hc => ?_⟩
    obtain ⟨b, o, r, f4, f5⟩ := f3 hc
    rcases e3 with e3 | e3
    · rw [e3] at f4; cases f4
    · exact ⟨b, o, r, by rw [e3]; exact f4, f5⟩
  | .yl i g', v, hv => by
    simp only [RelV] at hv ⊢
    obtain ⟨l, h1, h2, h3, h4⟩ := hv
    obtain ⟨l', e1, e2, e3⟩ := fill_get (ba := ba) h h1
    refine ⟨l', e1, by omega, fun hlt => h3 (by omega), fun he => ?_⟩
    obtain ⟨b, o, r, f1, f2⟩ := h4 (by omega)
    rcases e3 with e3 | e3
    · rw [e3] at f1; cases f1
    · exact ⟨b, o, r, by rw [e3]; exact f1, f2⟩
  | .es, v, hv => by simp only [RelV] at hv ⊢; exact hv
  | .nni, v, hv => by simp only [RelV] at hv ⊢; exact hv
  | .fn f caps, v, hv => by
    simp only [RelV] at hv ⊢
    obtain ⟨us, h1, h2⟩ := hv
    exact ⟨us, h1, RelL.fill h h2⟩
theorem RelL.fill {st : St} {id g : Nat} {ba : Option (Nat × Nat × Nat)} (h : st.loc[id]? = some ⟨g, none⟩) : ∀ {as : List AV} {us : List Value}, RelL st as us → RelL (st.fill id ⟨g, ba⟩) as us
  | [], us, hv => by simp only [RelL] at hv ⊢; exact hv
  | a :: as, us, hv => by
    simp only [RelL] at hv ⊢
    obtain ⟨u, us', h1, h2, h3⟩ := hv
    exact ⟨u, us', h1, RelV.fill h h2, RelL.fill h h3⟩
end

theorem fill_new {st0 st : St} {w0 w : World} {H : AHeap} {id : Nat} (hH : RelH st w H) (hl : st.loc[id]? = some ⟨0, none⟩) (arr : Array Value) (T : TypeId) (us : List Value) (room : Nat) (hs : ∀ u ∈ us, Scal u) (hr1 : us.length ≤ room) (hr2 : room ≤ arr.size) (hgs : ∀ (i : Nat) (c : Value), us[i]? = some c → arr[i]? = some c)
    (hX : H[id]? = some (.own 0 (us.map .lit))) (hext : Ext st0 w0 st w) (hm : st0.loc.length ≤ id) :
    RelH (st.fill id ⟨0, some (w.heap.size, 0, room)⟩) (w.alloc (.cells arr T)) H ∧ Ext st0 w0 (st.fill id ⟨0, some (w.heap.size, 0, room)⟩) (w.alloc (.cells arr T)) := by
  have hid := (List.getElem?_eq_some_iff.1 hl).1
  have hget : ∀ (j : Nat) (x : Loc), (st.fill id ⟨0, some (w.heap.size, 0, room)⟩).loc[j]? = some x → (j = id ∧ x = ⟨0, some (w.heap.size, 0, room)⟩) ∨ (j ≠ id ∧ st.loc[j]? = some x) := by
    intro j x hx
    simp only [St.fill, List.getElem?_set] at hx
    split at hx
    · rename_i he; subst he
      simp [hid] at hx
      exact .inl ⟨rfl, hx.symm⟩
    · rename_i he; exact .inr ⟨fun h => he h.symm, hx⟩
  have hown : ∀ b, Owned (st.fill id ⟨0, some (w.heap.size, 0, room)⟩) b → Owned st b ∨ b = w.heap.size := by
    rintro b ⟨j, x, o, r, hx, hb⟩
    rcases hget j x hx with ⟨rfl, rfl⟩ | ⟨_, hx'⟩
    · cases hb; exact .inr rfl
    · exact .inl ⟨j, x, o, r, hx', hb⟩
  refine ⟨⟨by simp [St.fill, hH.len], ?_, ?_, ?_⟩, ⟨⟨fun b o c h => hext.le.rd b o c h, ?_⟩, by rw [size_alloc]; exact Nat.le_succ_of_le hext.size, fun b hb ho => ?_, fun b hb => ?_, hext.os, hext.output, hext.rdn⟩⟩
  · intro b o c hc
    have h := hH.rd b o c hc
    have hb := rd_lt hH hc
    exact ⟨h.1, by rw [cell_of_heap (heap_alloc_lt _ _ hb)]; exact h.2.1, fun ho => (hown b ho).elim h.2.2 (fun he => by omega)⟩
  · intro j x X hx hXj
    rcases hget j x hx with ⟨rfl, rfl⟩ | ⟨hj, hx'⟩
    · rw [hX] at hXj; cases hXj
      simp only [ObjOk]
      refine ⟨trivial, fun b o r hb => ?_⟩
      simp at hb
      obtain ⟨rfl, rfl, rfl⟩ := hb
      exact ⟨arr, T, us, heap_alloc_new _ _, by omega, by simpa using hr1, RelL.lits _, hs, fun i c hc => by rw [Nat.zero_add]; exact hgs i c hc⟩
    · have h := hH.obj j x X hx' hXj
      have hb : ∀ b o r, x.base = some (b, o, r) → (w.alloc (.cells arr T)).heap[b]? = w.heap[b]? := fun b o r hb => heap_alloc_lt _ _ (owned_lt hH ⟨j, x, o, r, hx', hb⟩)
      cases X with
      | gone => exact h
      | own g cs =>
        simp only [ObjOk] at h ⊢
        refine ⟨h.1, fun b o r hbb => ?_⟩
        obtain ⟨arr', T', us, f1, f2, f3, f4, f5, f6⟩ := h.2 b o r hbb
        exact ⟨arr', T', us, by rw [hb b o r hbb]; exact f1, f2, f3, f4.fill hl, f5, f6⟩
      | raw g ob es us =>
        simp only [ObjOk] at h ⊢
        obtain ⟨h1, he, b, o, r, h2, h3⟩ := h
        exact ⟨h1, he.fill hl, b, o, r, h2, by rw [hb b o r h2]; exact h3⟩
  · intro i i' l l' b o r o' r' h1 h2 h3 h4
    rcases hget i l h1 with ⟨rfl, rfl⟩ | ⟨g1, g2⟩ <;> rcases hget i' l' h2 with ⟨rfl, rfl⟩ | ⟨g1', g2'⟩
    · rfl
    · cases h3; exact absurd (owned_lt hH ⟨i', l', o', r', g2', h4⟩) (Nat.lt_irrefl _)
    · cases h4; exact absurd (owned_lt hH ⟨i, l, o, r, g2, h3⟩) (Nat.lt_irrefl _)
    · exact hH.inj i i' l l' b o r o' r' g2 g2' h3 h4
  · intro j l hj
    have hlt : j < st0.loc.length := (List.getElem?_eq_some_iff.1 hj).1
    obtain ⟨l', h1, h2⟩ := hext.le.loc j l hj
    exact ⟨l', by simp only [St.fill]; rw [List.getElem?_set_ne (by omega)]; exact h1, h2⟩
  · rw [heap_alloc_lt _ _ (Nat.lt_of_lt_of_le hb hext.size)]; exact hext.frame b hb ho
  · rcases hown b hb with h | h
    · exact hext.own b h
    · exact .inr (by rw [h]; exact hext.size)

theorem Mk.fill {w0 : World} {st : St} {w : World} {ds : List Deferred} {id : Nat} {room : Nat} {cells : Array Value} {T : TypeId} (h : Mk w0 st w ds) : Mk w0 (st.fill id ⟨0, some (w.heap.size, 0, room)⟩) (w.alloc (.cells cells T)) ds :=
  ⟨h.nd, fun d hd => by
    obtain ⟨D, h1, h2, h3, h4⟩ := h.all d hd
    have hlt : D < w.heap.size := (Array.getElem?_eq_some_iff.1 h3).1
    refine ⟨D, h1, h2, by rw [heap_alloc_lt _ _ hlt]; exact h3, ?_⟩
    rintro ⟨j, l, o, r, hj, hb⟩
    simp only [St.fill, List.getElem?_set] at hj
    split at hj
    · split at hj
      · cases hj; cases hb; omega
      · cases hj
    · exact h4 ⟨j, l, o, r, hj, hb⟩⟩

/-! ### Soundness of a step -/
theorem posOf_ge : ∀ {l : List Nat} {b i id : Nat}, posOf l b i = some id → b ≤ id
  | [], b, i, id, h => by simp [posOf] at h
  | x :: r, b, i, id, h => by
    simp only [posOf] at h
    split at h
    · simp at h; omega
    · have := posOf_ge h; omega

theorem posOf_inj : ∀ {l : List Nat} {b i i' id : Nat}, posOf l b i = some id → posOf l b i' = some id → i = i'
  | [], b, i, i', id, h, _ => by simp [posOf] at h
  | x :: r, b, i, i', id, h, h' => by
    simp only [posOf] at h h'
    split at h <;> split at h'
    · omega
    · simp at h; have := posOf_ge h'; omega
    · simp at h'; have := posOf_ge h; omega
    · exact posOf_inj h h'

theorem ResK.get : ∀ {l : List Nat} {b i id : Nat} {ws : List Nat} {H H' : AHeap}, ResK l b ws H H' → posOf l b i = some id → ws.contains i = false → H'[id]? = H[id]?
  | [], b, i, id, ws, H, H', h, hp, _ => by simp [posOf] at hp
  | x :: r, b, i, id, ws, H, H', h, hp, hw => by
    simp only [ResK] at h
    simp only [posOf] at hp
    split at hp
    · rename_i hx; subst hx
      simp at hp; subst hp
      rcases h.1 with h1 | h1
      · rw [h1] at hw; cases hw
      · exact h1
    · exact ResK.get h.2 hp hw

/-- the cells of what is laid -/
def nwC (cs : List AV) : AOp → Option (List AV)
  | .new z => some (z.map .lit)
  | .newl _ _ _ _ _ => some cs
  | _ => none
def Inv (m : Nat) (D : Option DM) (L : List DItm) (st : St) (H : AHeap) : Prop := ∀ D', D = some D' → (SubH D'.M H ∧ KcOk D'.kc H) ∧ ((∃ it ∈ L, movB it.o.op = true ∧ it.tail = true) → SubH D'.M1 H) ∧
  ∀ it ∈ L, ∀ z, nwC D'.cs it.o.op = some z → ∃ id, posOf D'.news D'.base it.i = some id ∧ m ≤ id ∧ H[id]? = some (.own 0 z) ∧ st.loc[id]? = some ⟨0, none⟩

theorem virt_keep {st st' : St} {w w' : World} {H' : AHeap} {id : Nat} {cs : List AV} (hext : Ext st w st' w') (hH' : RelH st' w' H') (hl : st.loc[id]? = some ⟨0, none⟩) (hX : H'[id]? = some (.own 0 cs)) : st'.loc[id]? = some ⟨0, none⟩ := by
  obtain ⟨l', h1, h2, h3⟩ := hext.le.loc id _ hl
  have := hH'.obj id l' _ h1 hX
  simp only [ObjOk] at this
  have hb := h3 this.1
  obtain ⟨g, ba⟩ := l'
  simp only at this hb
  rw [h1, this.1, hb]

theorem trOp_new {P : Program} {K : List Nat} {mu : Bool} {o : Oper} {z : List Value} (h : trOp P K mu o = some (.new z)) : ∃ t, o.op = .alloc t ∧ zrT P t = some z := by
  cases hop : o.op <;> simp only [trOp, hop] at h
  case alloc t =>
    split at h
    · rename_i z' hz
      split at h
      · cases h
      · simp only [Option.some.injEq, AOp.new.injEq] at h; subst h; exact ⟨t, rfl, hz⟩
    · cases h
  case call c =>
    exfalso
    unfold trCall at h
    repeat' split at h
    all_goals first
      | contradiction
      | (cases h; done)
      | (obtain ⟨ys, hys, h'⟩ := Option.map_eq_some_iff.1 h; cases h')
  all_goals
    exfalso
    repeat' split at h
    all_goals first
      | contradiction
      | (cases h; done)
      | (obtain ⟨ys, hys, h'⟩ := Option.map_eq_some_iff.1 h; cases h'; done)
      | (unfold trBin at h; repeat' split at h
         all_goals first
           | (cases h; done)
           | (simp only [Option.some.injEq] at h; cases h; done)
           | (obtain ⟨ys, hys, h'⟩ := Option.map_eq_some_iff.1 h; cases h'; done))

theorem trOp_mksl {P : Program} {K : List Nat} {mu : Bool} {o : Oper} {sz by_ : Nat} {z : List Value} {l c : Od} (h : trOp P K mu o = some (.mksl sz by_ z l c)) :
    ∃ t e' xl xc sz1, o.op = .makeSlice t xl xc ∧ slT P t = some e' ∧ szT P e' = some (sz1 + 1) ∧ byT P e' = some by_ ∧ zrT P e' = some z ∧ od K xl = some l ∧ od K xc = some c ∧ sz = sz1 + 1 := by
  cases hop : o.op <;> simp only [trOp, hop] at h
  case makeSlice t xl xc =>
    split at h
    · rename_i e' he
      split at h
      · rename_i sz1 b1 z1 l1 c1 hsz hby hz hl hc
        split at h
        · simp only [Option.some.injEq, AOp.mksl.injEq] at h
          obtain ⟨rfl, rfl, rfl, rfl, rfl⟩ := h
          exact ⟨t, e', xl, xc, sz1, rfl, he, hsz, hby, hz, hl, hc, rfl⟩
        · cases h
      · cases h
    · cases h
  case call c =>
    exfalso
    unfold trCall at h
    repeat' split at h
    all_goals first
      | contradiction
      | (cases h; done)
      | (obtain ⟨ys, hys, h'⟩ := Option.map_eq_some_iff.1 h; cases h')
  all_goals
    exfalso
    repeat' split at h
    all_goals first
      | contradiction
      | (cases h; done)
      | (obtain ⟨ys, hys, h'⟩ := Option.map_eq_some_iff.1 h; cases h'; done)
      | (unfold trBin at h; repeat' split at h
         all_goals first
           | (cases h; done)
           | (simp only [Option.some.injEq] at h; cases h; done)
           | (obtain ⟨ys, hys, h'⟩ := Option.map_eq_some_iff.1 h; cases h'; done))

theorem call_run {cx : Cx} {st0 st : St} {w0 w : World} {e : Env} {H : AHeap} {a : Act} {o' : Oper} {mu : Bool} {f : Od} {xs : List Od} {fid : Nat} {caps : List AV} {ad : Option (Bool × Nat)} {K : AV → AHeap → Prop}
    (hrel : Rel cx st0 w0 st w e H a) (hp : trOp cx.P cx.K mu o' = some (.call f xs)) (hf : ev e f = .fn fid caps) (h : ACalls cx.P fid (xs.map (ev e) ++ caps) H K)
    {K' : Act → World → Prop} {Q : Exit → Act → World → Prop} (hd : trDst cx o'.dst = some ad)
    (hk : ∀ st' w' a' r H', Ext st w st' w' → RelH st' w' H' → Rel cx st0 w0 st' w' (put e ad r) H' a' → K r H' → K' a' w') : o'.uponIn (Fc cx.ro) 0 cx.P a K' Q ((execOp a.eval o').run cx.P w) := by
  obtain ⟨c, f', hop, hcal, hf', hxs⟩ := trOp_call hp
  have hfv := hrel.ops f' f hf'
  rw [hf] at hfv; simp only [RelV] at hfv
  obtain ⟨us, hfv, hus⟩ := hfv
  have hargs := hrel.ops.list hxs
  obtain ⟨hc, hcalls⟩ := h
  unfold callable at hc
  split at hc
  · rename_i fn hfn
    simp only [Bool.and_eq_true, bne_iff_ne, ne_eq] at hc
    have hrun : (execOp a.eval o').run cx.P w = .ok (.enter fid ((c.args.map a.eval) ++ us)) w := by
      have hb : fn.body.isNone = false := by cases hx : fn.body <;> simp [hx] at hc ⊢
      have hn : (fn.name == "runtime.NumGoroutine") = false := by simpa using hc.1
      simp only [execOp, hop, resolve, hcal, Deferred.ofValue, hfv, Sem.run_bind, Sem.run_pure, Result.andThen_ok, invoke, callFunc, run_program, hfn, hn, hb, Bool.false_eq_true, if_false]
      simp
    rw [hrun]; simp only [Oper.uponIn]
    refine ⟨fun h => (by simp [Fc] at h), ?_⟩
    have h2 := hcalls st w (c.args.toList.map a.eval ++ us.toList) hrel.hH (hargs.append hus)
    have harr : (c.args.toList.map a.eval ++ us.toList).toArray = c.args.map a.eval ++ us := by apply Array.ext'; simp
    rw [harr] at h2
    have h3 := callsIn_wide (n := 0 - 1).2 h2
    refine CallsIn.mono (F := Fc cx.ro) h3 fun x w' hx => ?_
    obtain ⟨v, r, H', st', rfl, e2, e3, e4, e5⟩ := hx
    exact hk _ _ _ _ _ e2 e3 (hrel.put e2 e3 hd e4) e5
  · cases hc

section
variable {cx : Cx} {m : Nat} {k : List AItm} {R : Env → AHeap → Prop} {ops : Array Oper} {A : List AOper}

theorem ws_waits {i j : Nat} (h : (wsA ops A j).contains i = true) : waitsFor ops j i = true := by
  simp only [wsA, List.contains_iff_mem, List.mem_filter, Bool.and_eq_true] at h
  exact h.2.2

/-- an operation, as it was translated -/
def unl : AOp → AOp
  | .newl sz by_ z l c => .mksl sz by_ z l c
  | op => op
theorem unl_id {op : AOp} (h : isNwl op = false) : unl op = op := by cases op <;> first | rfl | cases h
def TrA (cx : Cx) (ops : Array Oper) (A : List AOper) : Prop := ∃ A0, trOps cx ops ops.toList = some A0 ∧ A0.all (fun o => !isNwl o.op) = true ∧ (A = A0 ∨ A = A0.map nwl)
theorem TrA.len (h : TrA cx ops A) : A.length = ops.size := by
  obtain ⟨A0, h1, _, h2⟩ := h
  have := trOps_length h1
  rcases h2 with rfl | rfl
  · rw [this]; simp
  · rw [List.length_map, this]; simp
theorem TrA.get (h : TrA cx ops A) {i : Nat} {o : AOper} (hi : A[i]? = some o) : ∃ o', ops[i]? = some o' ∧ trDst cx o'.dst = some o.dst ∧ (∃ mu, trOp cx.P cx.K mu o' = some (unl o.op)) ∧ trGrd cx ops o'.guard = some o.grd := by
  obtain ⟨A0, h1, h0, h2⟩ := h
  rcases h2 with rfl | rfl
  · obtain ⟨o', g1, g2⟩ := trOps_get h1 hi
    obtain ⟨f1, ⟨mu, f2⟩, f3⟩ := trOper_spec g2
    have hn : isNwl o.op = false := by
      have := List.all_eq_true.1 h0 o (List.mem_of_getElem? hi)
      simpa using this
    exact ⟨o', by simpa using g1, f1, ⟨mu, by rw [unl_id hn]; exact f2⟩, f3⟩
  · rw [List.getElem?_map] at hi
    obtain ⟨o0, hi0, rfl⟩ := Option.map_eq_some_iff.1 hi
    obtain ⟨o', g1, g2⟩ := trOps_get h1 hi0
    obtain ⟨f1, ⟨mu, f2⟩, f3⟩ := trOper_spec g2
    have hn : isNwl o0.op = false := by
      have := List.all_eq_true.1 h0 o0 (List.mem_of_getElem? hi0)
      simpa using this
    have hu : unl (nwl o0).op = o0.op := by
      obtain ⟨d, op, g⟩ := o0
      cases op <;> first | rfl | (exact unl_id hn)
    have hd : (nwl o0).dst = o0.dst ∧ (nwl o0).grd = o0.grd := by
      obtain ⟨d, op, g⟩ := o0
      cases op <;> exact ⟨rfl, rfl⟩
    exact ⟨o', by simpa using g1, by rw [hd.1]; exact f1, ⟨mu, by rw [hu]; exact f2⟩, by rw [hd.2]; exact f3⟩

theorem jstep_sound (hA : TrA cx ops A) {listed : Array Bool} {l l' : List Nat} {D : Option DM} {e : Env} {H : AHeap} {j : Nat} {K : Option DM → AV → AHeap → Prop}
    (hj : j ∈ Region.ready .any ops listed) (hjl : j ∈ l) (hsub : ∀ i ∈ l', i ∈ l) (hun : ∀ i ∈ l', listed.getD i true = false) (hne : ∀ i ∈ l', i ≠ j) (hcl : Cl ops listed) (hlt : ∀ i ∈ l', i < ops.size)
    {st0 st : St} {w0 w : World} {a : Act} (hm : st0.loc.length = m) (hrel : Rel cx st0 w0 st w e H a) (hinv : Inv m D (l.map (itm ops A)) st H) (hs : JStep cx.P D (itm ops A j) e H K)
    {Kc : Act → World → Prop} {Q : Exit → Act → World → Prop}
    (hk : ∀ D' r H' st' w' a', Rel cx st0 w0 st' w' (put e (itm ops A j).o.dst r) H' a' → Inv m D' (l'.map (itm ops A)) st' H' → K D' r H' → Kc a' w') : wpOpIn (Fc cx.ro) 0 cx.P ops Q j Kc a w := by
  have hjlt : j < ops.size := by
    obtain ⟨_, o, ho, _⟩ := mem_ready.1 hj
    exact (Array.getElem?_eq_some_iff.1 ho).1
  have hAl : A.length = ops.size := hA.len
  have hAj : A[j]? = some A[j] := List.getElem?_eq_getElem (by omega)
  have hio : (itm ops A j).o = A[j] := by simp [itm, hAj]
  obtain ⟨o', ho, htr⟩ := hA.get hAj
  rw [← hio] at htr
  obtain ⟨hd, ⟨mu, hp⟩, hgr⟩ := htr
  have hii : (itm ops A j).i = j := rfl
  have hsame : ∀ {D'}, (∀ D1, D' = some D1 → D = some D1) → Inv m D' (l'.map (itm ops A)) st H := fun {D'} hD D1 h1 => by
    obtain ⟨g1, g3, g2⟩ := hinv D1 (hD D1 h1)
    have hin : ∀ it ∈ l'.map (itm ops A), it ∈ l.map (itm ops A) := fun it hit => by
      obtain ⟨i, hi, rfl⟩ := List.mem_map.1 hit
      exact List.mem_map.2 ⟨i, hsub i hi, rfl⟩
    exact ⟨g1, fun ⟨it, h1, h2⟩ => g3 ⟨it, hin it h1, h2⟩, fun it hit => g2 it (hin it hit)⟩
  have hnx : ∀ D1, nx D (itm ops A j) = some D1 → D = some D1 ∧ (itm ops A j).tail = false := by
    intro D1 h; unfold nx at h; split at h
    · cases h
    · rename_i ht; exact ⟨h, by simpa using ht⟩
  have hstep : ∀ {st' : St} {w' : World} {H' : AHeap}, Ext st w st' w' → RelH st' w' H' → Keep D (itm ops A j) H H' → Inv m (nx D (itm ops A j)) (l'.map (itm ops A)) st' H' := by
    intro st' w' H' hext hH' hkeep D1 h1
    obtain ⟨h2, h3⟩ := hnx D1 h1
    subst h2
    simp only [Keep, h3, Bool.false_eq_true, false_or] at hkeep
    obtain ⟨hkc', hkeep⟩ := hkeep.ok
    obtain ⟨g1, g3, g2⟩ := hinv D1 rfl
    have hin : ∀ it ∈ l'.map (itm ops A), it ∈ l.map (itm ops A) := fun it hit => by
      obtain ⟨i, hi, rfl⟩ := List.mem_map.1 hit
      exact List.mem_map.2 ⟨i, hsub i hi, rfl⟩
    refine ⟨⟨hkeep.1, hkc'⟩, fun ⟨it, h1, h2, h4⟩ => ?_, fun it hit z hz => ?_⟩
    · rcases hkeep.2.2 with hs | hs
      · exfalso
        obtain ⟨i, hi, rfl⟩ := List.mem_map.1 h1
        have his := hlt i hi
        have hAi : A[i]? = some A[i] := List.getElem?_eq_getElem (by omega)
        have hmi : isMov A i = true := by unfold isMov; rw [hAi]; simpa [itm, hAi] using h2
        simp only [itm, flagA, hmi, earlyA, List.all_eq_true, List.mem_range, Bool.or_eq_true] at h4
        have h5 := h4 j hjlt
        rw [not_waits2 hcl hj (hun i hi) his] at h5
        have hst : isStA A j = true := by unfold isStA; rw [hAj]; rw [hio] at hs; exact hs
        rw [hst] at h5
        simp at h5
      · exact hs (g3 ⟨it, hin it h1, h2, h4⟩)
    obtain ⟨i, hi, rfl⟩ := List.mem_map.1 hit
    obtain ⟨id, f1, f2, f3, f4⟩ := g2 _ (List.mem_map.2 ⟨i, hsub i hi, rfl⟩) z hz
    have hnw : (itm ops A j).ws.contains i = false := by
      cases hc : (itm ops A j).ws.contains i with
      | false => rfl
      | true =>
        have := ws_waits (ops := ops) (A := A) (j := j) hc
        rw [not_waits hj (hun i hi)] at this; cases this
    have hX : H'[id]? = some (.own 0 z) := by rw [hkeep.2.1.get f1 hnw]; exact f3
    exact ⟨id, f1, f2, hX, virt_keep hext hH' f4 hX⟩
  have hstepV : ∀ {st' : St} {w' : World} {D' : Option DM}, (∀ D1, D' = some D1 → D = some D1) → Ext st w st' w' → RelH st' w' H → Inv m D' (l'.map (itm ops A)) st' H := by
    intro st' w' D' hD hext hH' D1 h1
    obtain ⟨g1, g3, g2⟩ := hsame hD D1 h1
    refine ⟨g1, g3, fun it hit z hz => ?_⟩
    obtain ⟨id, f1, f2, f3, f4⟩ := g2 it hit z hz
    exact ⟨id, f1, f2, f3, virt_keep hext hH' f4 f3⟩
  have hwant : ∀ b, gOk e (itm ops A j).o.grd = some b → Region.wanted o' (yielded ops a.tmps) = b := fun b hg => wanted_of hrel hgr hg
  have skip : gOk e (itm ops A j).o.grd = some false → (∀ a', Rel cx st0 w0 st w (put e (itm ops A j).o.dst (.lit undef)) H a' → Kc a' w) → wpOpIn (Fc cx.ro) 0 cx.P ops Q j Kc a w := by
    intro hg hkc
    simp only [wpOpIn, ho]
    rw [if_neg (by rw [hwant _ hg]; simp)]
    exact ⟨fun _ _ => trivial, hkc _ (hrel.put (.refl _ _) hrel.hH hd relLit)⟩
  have run : gOk e (itm ops A j).o.grd = some true → o'.uponIn (Fc cx.ro) 0 cx.P a Kc Q ((execOp a.eval o').run cx.P w) → wpOpIn (Fc cx.ro) 0 cx.P ops Q j Kc a w := by
    intro hg hu
    simp only [wpOpIn, ho]
    rw [if_pos (hwant _ hg)]
    exact ⟨fun _ _ => trivial, by rw [Oper.semAt_eq _ _ _ (trOp_noDefer hp)]; exact hu⟩
  have viaStep : ∀ {r : AV} {H' : AHeap}, StepV cx.P a.eval o' st w r H' → (∀ st' w' a', Ext st w st' w' → RelH st' w' H' → Rel cx st0 w0 st' w' (put e (itm ops A j).o.dst r) H' a' → Kc a' w') → o'.uponIn (Fc cx.ro) 0 cx.P a Kc Q ((execOp a.eval o').run cx.P w) := by
    intro r H' hsv hkc
    obtain ⟨v, w', st', hrun, hext, hH', hr⟩ := hsv
    rcases hrun with hrun | ⟨hrun, rfl⟩
    · rw [hrun]; simp only [Oper.uponIn]
      exact hkc st' w' _ hext hH' (hrel.put hext hH' hd hr)
    · rw [hrun]; simp only [Oper.uponIn]
      exact hkc st' w' _ hext hH' (hrel.put hext hH' hd hr)
  unfold JStep at hs
  split at hs
  · cases D with
    | none => exact hs.elim
    | some D' =>
      simp only at hs
      obtain ⟨r, hr, hK⟩ := hs
      have hlaid : ∀ {id : Nat} {us : List Value} {arr : Array Value} {T : TypeId} {room : Nat} {v : Value} {r : AV}, posOf D'.news D'.base j = some id → st.loc[id]? = some ⟨0, none⟩ → st0.loc.length ≤ id → H[id]? = some (.own 0 (us.map .lit)) →
          (∀ u ∈ us, Scal u) → us.length ≤ room → room ≤ arr.size → (∀ (i : Nat) (c : Value), us[i]? = some c → arr[i]? = some c) → (execOp a.eval o').run cx.P w = .ok (.value v) (w.alloc (.cells arr T)) →
          RelV (st.fill id ⟨0, some (w.heap.size, 0, room)⟩) r v → gOk e (itm ops A j).o.grd = some true → K (some D') r H → wpOpIn (Fc cx.ro) 0 cx.P ops Q j Kc a w := by
        intro id us arr T room v r f1 f4 hmid f3 hsc hr1 hr2 hget hrun hval hg hK
        obtain ⟨h1, h2⟩ := fill_new hrel.hH f4 arr T us room hsc hr1 hr2 hget f3 hrel.ext hmid
        refine run hg ?_
        rw [hrun]; simp only [Oper.uponIn]
        have hrel2 : Rel cx st0 w0 (st.fill id ⟨0, some (w.heap.size, 0, room)⟩) (w.alloc (.cells arr T)) e H a :=
          ⟨h2, h1, fun t => (hrel.l t).fill f4, fun t => (hrel.g t).fill f4, hrel.kl, hrel.kg, hrel.n, hrel.d.fill⟩
        refine hk _ _ _ _ _ _ (hrel2.put (.refl _ _) h1 hd hval) ?_ hK
        intro D1 h3
        obtain ⟨g3, g5, g4⟩ := hsame (D' := some D') (fun _ h => h) D1 h3
        refine ⟨g3, g5, fun it hit z' hz' => ?_⟩
        obtain ⟨id', e1, e2, e3, e4⟩ := g4 it hit z' hz'
        refine ⟨id', e1, e2, e3, ?_⟩
        obtain ⟨i', hi', rfl⟩ := List.mem_map.1 hit
        simp only [Option.some.injEq] at h3; subst h3
        have hne' : id ≠ id' := by
          intro he; subst he
          exact hne i' hi' (posOf_inj e1 f1)
        simp only [St.fill]; rw [List.getElem?_set_ne hne']; exact e4
      unfold MRel at hr
      cases hnw : isNwl (itm ops A j).o.op with
      | true =>
        simp only [hnw] at hr
        split at hr
        · rename_i hg
          subst hr
          exact skip hg fun a' hr' => hk _ _ _ _ _ _ hr' (hsame fun _ h => h) hK
        · rename_i hg
          obtain ⟨sz, by_, z, l1, c1, ln, cp, id, hop, hln, hcp, ⟨q1, q2, q3, q4, q5, q6, q7⟩, hid, rfl⟩ := hr
          obtain ⟨g1, _, g2⟩ := hinv D' rfl
          obtain ⟨id', f1, f2, f3, f4⟩ := g2 _ (List.mem_map.2 ⟨j, hjl, rfl⟩) D'.cs (by rw [hop]; rfl)
          have : id = id' := by rw [hii] at hid f1; rw [hid] at f1; exact Option.some.inj f1
          subst this
          rw [hop] at hp
          obtain ⟨t, e', xl, xc, sz1, hop', he, hsz, hby, hzr, hxl, hxc, rfl⟩ := trOp_mksl hp
          obtain ⟨i, zv, hi, hzv, rfl, hsc⟩ := zrT_spec hzr
          obtain ⟨i', hi', hb⟩ := byT_spec hby
          rw [hi] at hi'; cases hi'
          have hsize : zv.cells.size = sz1 + 1 := by simpa using q5
          have hll := hrel.ops xl l1 hxl
          have hcc := hrel.ops xc c1 hxc
          rw [hln] at hll; rw [hcp] at hcc
          simp only [RelV] at hll hcc
          have hrun := mksl_run (w := w) hop' he hsz hi hzv hb hsize hll hcc q1 q2 q3 q4
          have hmul : ln.toNat * (sz1 + 1) ≤ cp.toNat * (sz1 + 1) := Nat.mul_le_mul_right _ (by omega)
          rw [q7, zeros_flatten] at f3
          rw [hii] at f1
          refine hlaid (us := (List.replicate ln.toNat zv.cells.toList).flatten) (room := cp.toNat * (sz1 + 1)) f1 f4 (by omega) f3
            (fun u hu => by
              obtain ⟨x, hx, hu⟩ := List.mem_flatten.1 hu
              have := List.eq_of_mem_replicate hx
              exact hsc u (this ▸ hu)) (by simp [List.length_flatten, hsize]; omega) (by simp [hsize]) (zeros_get (by omega) ln.toNat cp.toNat (by omega)) hrun ?_ hg hK
          rw [q6]
          exact ms_new (by simp [St.fill, (List.getElem?_eq_some_iff.1 f4).1]) (by omega) (Nat.le_refl _)
        · exact hr.elim
      | false =>
      simp only [hnw] at hr
      rw [unl_id hnw] at hp
      rcases hr with hr | ⟨hg, a0, id, g, off, hop, hev, hkl⟩
      case inr =>
        have hv : opVal (ev e) H (itm ops A j).o.op = some r := by rw [hop]; simp only [opVal, hev]; exact kc_ld (hinv D' rfl).1.2 hkl
        exact run hg (viaStep (opVal_sound (fun a => rfl) hp hrel.ops hrel.hH hv) fun st' w' a' hext hH' hr' => hk _ _ _ _ _ _ hr' (hstepV (fun _ h => h) hext hH') hK)
      unfold MVal at hr
      split at hr
      · rename_i hg
        simp only [Option.some.injEq] at hr; subst hr
        exact skip hg fun a' hr' => hk _ _ _ _ _ _ hr' (hsame fun _ h => h) hK
      · rename_i hg
        split at hr
        · rename_i z hz
          obtain ⟨id, hid, rfl⟩ := Option.map_eq_some_iff.1 hr
          obtain ⟨g1, _, g2⟩ := hinv D' rfl
          obtain ⟨id', f1, f2, f3, f4⟩ := g2 _ (List.mem_map.2 ⟨j, hjl, rfl⟩) (z.map .lit) (by rw [hz]; rfl)
          have : id = id' := by rw [hii] at hid f1; rw [hid] at f1; exact Option.some.inj f1
          subst this
          rw [hz] at hp
          obtain ⟨t, hop, hzr⟩ := trOp_new hp
          obtain ⟨i, zv, hi, hzv, rfl, hsc⟩ := zrT_spec hzr
          have hrun : (execOp a.eval o').run cx.P w = .ok (.value (.pointer (some ⟨w.heap.size, 0, none⟩))) (w.alloc (.cells zv.cells t)) := by
            simp [execOp, hop, Instr.alloc, zeroValue, typeInfo, hi, hzv, newVar, newRow]
          rw [hii] at f1
          refine hlaid (us := zv.cells.toList) (room := zv.cells.size) f1 f4 (by omega) f3 hsc (by simp) (Nat.le_refl _) (fun i c hc => by simpa using hc) hrun ?_ hg hK
          simp only [RelV]
          refine ⟨⟨0, some (w.heap.size, 0, zv.cells.size)⟩, by simp [St.fill, (List.getElem?_eq_some_iff.1 f4).1], Nat.le_refl _, fun h => absurd h (Nat.lt_irrefl _), fun _ => ⟨_, _, _, rfl, rfl⟩⟩
        · rename_i hmv _ _ _
          have hv : opVal (ev e) H (itm ops A j).o.op = some r := by
            cases ht : (itm ops A j).tail with
            | true => rw [ht] at hr; exact opVal_sub ((hinv D' rfl).2.1 ⟨_, List.mem_map.2 ⟨j, hjl, rfl⟩, hmv, ht⟩) hr
            | false => rw [ht] at hr; exact opVal_sub (hinv D' rfl).1.1 hr
          refine run hg (viaStep (opVal_sound (fun a => rfl) hp hrel.ops hrel.hH hv) fun st' w' a' hext hH' hr' => hk _ _ _ _ _ _ hr' (hstepV (fun _ h => h) hext hH') hK)
      · cases hr
  · split at hs
    · exact hs.elim
    · rename_i hg
      exact skip hg fun a' hr' => hk _ _ _ _ _ _ hr' (hsame fun D1 h => (hnx D1 h).1) hs
    · rename_i hg
      split at hs
      · rename_i f xs hop
        obtain ⟨fid, caps, hf, hcalls⟩ := hs
        rw [hop] at hp
        exact run hg (call_run hrel hp hf hcalls hd fun st' w' a' r H' hext hH' hr' hK => hk _ _ _ _ _ _ hr' (hstep hext hH' hK.1) hK.2)
      · obtain ⟨r, H', hact, hkeep, hK⟩ := hs
        have hnw : isNwl (itm ops A j).o.op = false := by
          cases hx : (itm ops A j).o.op <;> first | rfl | (rename_i hmv _ _; rw [hx] at hmv; cases hmv) | (rw [hx] at hact; cases hact)
        rw [unl_id hnw] at hp
        exact run hg (viaStep (opAct_sound hp hrel.ops hrel.hH hact) fun st' w' a' hext hH' hr' => hk _ _ _ _ _ _ hr' (hstep hext hH' hkeep) hK)

theorem draw_any (hA : TrA cx ops A) {Q : Exit → Act → World → Prop} {st0 : St} {w0 : World} {kc : List CItm} (hm : st0.loc.length = m) (hkc : TrK cx st0 w0 k kc)
    (hn : ∀ a' w', GoK cx.P cx.ro kc (fun a' w' => ∃ st' e' H', Rel cx st0 w0 st' w' e' H' a' ∧ R e' H') a' w' → Q .normal a' w') :
    ∀ (n : Nat) {l : List Nat} {listed : Array Bool} {D : Option DM} {e : Env} {H : AHeap}, l.length ≤ n → Cl ops listed → Valid ops A listed l → DGo cx m k R D (l.map (itm ops A)) e H →
      ∀ st a w, Rel cx st0 w0 st w e H a → Inv m D (l.map (itm ops A)) st H → wpAnyIn (Fc cx.ro) 0 cx.P .any ops Q n listed a w := by
  have hAl : A.length = ops.size := hA.len
  have done : ∀ {D : Option DM} {e : Env} {H : AHeap}, DGo cx m k R D [] e H → ∀ st a w, Rel cx st0 w0 st w e H a → Q .normal a w := by
    intro D e H hg st a w hr
    simp only [DGo] at hg
    exact hn _ _ (hg st0 w0 kc hm hkc st a w ⟨hr.ext, hr.hH, fun t => by simp only [look, RelV], hr.g, fun t _ => rfl, hr.kg, hr.n, hr.d⟩)
  intro n
  induction n with
  | zero =>
    intro l listed D e H hl _ hv hg st a w hr hinv
    have : l = [] := List.length_eq_zero_iff.1 (by omega)
    subst this
    cases hv with
    | nil h => exact ⟨h, done hg st a w hr⟩
  | succ n ih =>
    intro l listed D e H hl hcl hv hg st a w hr hinv
    refine ⟨fun hnil => ?_, fun j hj => ?_⟩
    · cases hv with
      | nil h => exact done hg st a w hr
      | mov h1 _ _ _ => rw [hnil] at h1; cases h1
      | one h1 _ => rw [hnil] at h1; cases h1
    · obtain ⟨l', g1, g2, g3, g4, g5⟩ := pull hAl hcl hv hg hj
      have hun := hv.unlisted
      refine jstep_sound hA hj g1 g2 (fun i hi => hun i (g2 i hi)) (fun i hi he => ?_) hcl (fun i hi => hv.lt i (g2 i hi)) hm hr hinv g5 fun D' r H' st' w' a' hr' hinv' hK => ih (by omega) (hcl.step hj) g4 hK st' a' w' hr' hinv'
      subst he
      have := g4.unlisted i hi
      rw [getD_set_self] at this; cases this
end

theorem canonGo_len {ops : Array Oper} {A : List AOper} : ∀ {n : Nat} {listed : Array Bool} {l : List Nat}, canonGo ops A n listed = some l → l.length ≤ n
  | 0, listed, l, h => by
    simp only [canonGo] at h
    split at h
    · simp only [Option.some.injEq] at h; subst h; simp
    · cases h
  | n + 1, listed, l, h => by
    simp only [canonGo] at h
    split at h
    · split at h
      · split at h
        · rename_i l' hl'
          simp only [Option.some.injEq] at h; subst h
          have := canonGo_len hl'; simp; omega
        · cases h
      · cases h
    · split at h
      · simp only [Option.some.injEq] at h; subst h; simp
      · split at h
        · rename_i l' hl'
          simp only [Option.some.injEq] at h; subst h
          have := canonGo_len hl'; simp; omega
        · cases h
      · cases h

/-! ### The rule -/
def newsOf : List DItm → List (Nat × Option (List Value))
  | [] => []
  | ⟨⟨_, .new z, _⟩, i, _, _⟩ :: l => (i, some z) :: newsOf l
  | ⟨⟨_, .newl _ _ _ _ _, _⟩, i, _, _⟩ :: l => (i, none) :: newsOf l
  | _ :: l => newsOf l

def cellsN (cs : List AV) : Option (List Value) → List AV
  | some z => z.map .lit
  | none => cs
/-- the places that are kept for the new variables -/
def keptN (cs : List AV) (l : List DItm) : AHeap := (newsOf l).map fun p => .own 0 (cellsN cs p.2)
abbrev kept (l : List DItm) : AHeap := keptN [] l

theorem push_nones {cs : List AV} {st : St} {w : World} : ∀ (zs : List (Nat × Option (List Value))) {H : AHeap}, RelH st w H → ∃ st', Ext st w st' w ∧ RelH st' w (H ++ zs.map fun p => .own 0 (cellsN cs p.2)) ∧ ∀ k, k < zs.length → st'.loc[H.length + k]? = some ⟨0, none⟩
  | [], H, h => ⟨st, .refl _ _, by simpa using h, fun k hk => absurd hk (Nat.not_lt_zero _)⟩
  | z :: zs, H, h => by
    obtain ⟨h1, h2, h3⟩ := push_none h (cellsN cs z.2)
    obtain ⟨st', g1, g2, g3⟩ := push_nones (cs := cs) zs h2
    refine ⟨st', h1.trans g1, by simpa using g2, fun k hk => ?_⟩
    cases k with
    | zero =>
      exact virt_keep (cs := cellsN cs z.2) g1 g2 h3 (by simp)
    | succ k =>
      have := g3 k (by simp at hk; omega)
      rw [← this]; congr 1; simp; omega

theorem newsOf_cons {it : DItm} {l : List DItm} : (∃ z, (∀ cs, nwC cs it.o.op = some (cellsN cs z)) ∧ newsOf (it :: l) = (it.i, z) :: newsOf l) ∨ ((∀ cs z, nwC cs it.o.op ≠ some z) ∧ newsOf (it :: l) = newsOf l) := by
  obtain ⟨⟨d, op, g⟩, i, t, ws⟩ := it
  cases op <;> first | (left; exact ⟨some _, fun _ => rfl, rfl⟩) | (left; exact ⟨none, fun _ => rfl, rfl⟩) | (right; exact ⟨fun cs z h => (by cases h), rfl⟩)

theorem newsOf_pos {cs : List AV} {ops : Array Oper} {A : List AOper} : ∀ {l : List Nat} (b : Nat) {i : Nat} {z : List AV}, i ∈ l → nwC cs (itm ops A i).o.op = some z →
    ∃ k y, posOf ((newsOf (l.map (itm ops A))).map (·.1)) b i = some (b + k) ∧ (newsOf (l.map (itm ops A)))[k]? = some (i, y) ∧ cellsN cs y = z
  | [], b, i, z, h, _ => by cases h
  | x :: l, b, i, z, h, hz => by
    rw [List.map_cons]
    rcases newsOf_cons (it := itm ops A x) (l := l.map (itm ops A)) with ⟨z', h1, h2⟩ | ⟨h1, h2⟩
    · rw [h2]
      have hx : (itm ops A x).i = x := rfl
      by_cases hxi : x = i
      · subst hxi
        have h1 := h1 cs
        rw [hz] at h1
        exact ⟨0, z', by simp [posOf, hx], by simp [hx], (Option.some.inj h1).symm⟩
      · have hi : i ∈ l := by
          rcases List.mem_cons.1 h with rfl | h
          · exact absurd rfl hxi
          · exact h
        obtain ⟨k, y, g1, g2, g3⟩ := newsOf_pos (b + 1) hi hz
        refine ⟨k + 1, y, ?_, by simpa using g2, g3⟩
        simp only [List.map_cons, posOf, hx, if_neg hxi, g1]
        congr 1; omega
    · rw [h2]
      have hi : i ∈ l := by
        rcases List.mem_cons.1 h with rfl | h
        · exact absurd hz (h1 cs z)
        · exact h
      exact newsOf_pos b hi hz

theorem AGo_draw {cx : Cx} {m : Nat} {k : List AItm} {R : Env → AHeap → Prop} {e : Env} {H : AHeap} {L : List DItm} (M M1 : AHeap) (cs : List AV) (nn : Nat) (hM : SubH M (H ++ keptN cs L)) (hM1 : SubH M1 (H ++ keptN cs L)) (kcl : List (Nat × Nat × Nat × AV)) (hkc0 : KcOk kcl (H ++ keptN cs L))
    (h : DGo cx m k R (some ⟨M, H.length, (newsOf L).map (·.1), M1, cs, nn, kcl⟩) L e (H ++ keptN cs L)) : AGo cx m (.code (.draw L) :: k) R e H := by
  refine AGo_code fun c Q st0 w0 kc hm hk ht hn hx hr st a w hrel => ?_
  cases c <;> (try simp only [trCode] at ht)
  case region id ops d =>
    cases d <;> simp only [trCode, Option.some.injEq, regOr_draw, drawOr_draw] at ht
    · have hL := ht
      have hfound : cx.P.follows .mixedOrders = true ∧ ∃ A l, TrA cx ops A ∧ canonGo ops A ops.size (Array.replicate ops.size false) = some l ∧ pickA ops A l = some L := by
        unfold canon at hL
        split at hL
        · rename_i A hA
          split at hL
          · rename_i hmx
            simp only [Bool.and_eq_true] at hmx
            split at hL
            · rename_i l hl
              exact ⟨hmx.1, A, l, ⟨A, hA, hmx.2, .inl rfl⟩, hl, hL⟩
            · split at hL
              · rename_i l hl
                exact ⟨hmx.1, A.map nwl, l, ⟨A, hA, hmx.2, .inr rfl⟩, hl, hL⟩
              · cases hL
          · cases hL
        · cases hL
      obtain ⟨hmx, A, l, hTA, hl, hL⟩ := hfound
      obtain ⟨rfl, hlt⟩ := pickA_spec hL
      refine wpIn_region_any hmx ?_
      have hrel1 : RelH st { w with drawn := w.drawn + 1 } H := hrel.hH.drawn _
      obtain ⟨st', g1, g2, g3⟩ := push_nones (cs := cs) (newsOf (l.map (itm ops A))) hrel1
      have hrel2 : Rel cx st0 w0 st' { w with drawn := w.drawn + 1 } e (H ++ keptN cs (l.map (itm ops A))) a :=
        ⟨(hrel.ext.trans (Ext.drawn st w _)).trans g1, g2, fun t => (hrel.l t).mono g1.le, fun t => (hrel.g t).mono g1.le, hrel.kl, hrel.kg, hrel.n, hrel.d.mono ((Ext.drawn st w _).trans g1)⟩
      refine draw_any hTA hm hk hn ops.size (canonGo_len hl) (fun k i hk hks => by simp [hks] at hk) (canonGo_valid hl) h st' a _ hrel2 fun D' hD => ?_
      cases hD
      refine ⟨⟨hM, hkc0⟩, fun _ => hM1, fun it hit z hz => ?_⟩
      obtain ⟨i, hi, rfl⟩ := List.mem_map.1 hit
      obtain ⟨p, y, h1, h2, h3⟩ := newsOf_pos H.length hi hz
      have hplt := (List.getElem?_eq_some_iff.1 h2).1
      refine ⟨H.length + p, h1, ?_, ?_, g3 p hplt⟩
      · have : st0.loc.length ≤ st.loc.length := by
          rcases Nat.eq_zero_or_pos st0.loc.length with h0 | h0
          · omega
          · obtain ⟨l', e1, _⟩ := hrel.ext.le.loc (st0.loc.length - 1) _ (List.getElem?_eq_getElem (by omega))
            have := (List.getElem?_eq_some_iff.1 e1).1
            omega
        rw [hrel.hH.len, hm] at this; omega
      · rw [List.getElem?_append_right (by omega), Nat.add_sub_cancel_left]
        simp [keptN, h2, h3]
  all_goals first | cases ht | (split at ht <;> cases ht) | (obtain ⟨_, _, h'⟩ := Option.map_eq_some_iff.1 ht; cases h')
end Go.Sas
namespace Go.Sas
variable {cx : Cx} {m : Nat} {k : List AItm} {R : Env → AHeap → Prop} {e : Env} {H H' : AHeap} {D : Option DM} {L : List DItm} {it : DItm}

/-! ### Runs -/
def weakO : AObj → AObj
  | .own g _ => .own g []
  | _ => .gone

def hasN : List Nat → Nat → Bool
  | [], _ => false
  | x :: r, i => match x == i with | true => true | false => hasN r i
/-- i + 1000: nothing is said of the object i -/
def maskGo (us : List Nat) : Nat → AHeap → AHeap
  | _, [] => []
  | i, x :: H => (match hasN us i with
    | true => weakO x
    | false => match hasN us (i + 1000) with
      | true => .gone
      | false => x) :: maskGo us (i + 1) H

/-- the heap, but for what some objects hold -/
def mask (us : List Nat) (H : AHeap) : AHeap := match us with
  | [] => H
  | us => maskGo us 0 H

theorem maskGo_sub {us : List Nat} : ∀ {i : Nat} {H T : AHeap}, SubH (maskGo us i H) (H ++ T)
  | _, [], _ => by simp [maskGo, SubH]
  | i, x :: H, T => by
    have ih := maskGo_sub (us := us) (i := i + 1) (H := H) (T := T)
    simp only [maskGo, List.cons_append]
    split
    · cases x <;> simp only [weakO, SubH] <;> first | exact ih | exact ⟨trivial, ih⟩
    split
    · exact ih
    · rcases x with _ | ⟨g, _ | ⟨c, cs⟩⟩ | ⟨g, o⟩ <;> simp only [SubH] <;> first | exact ih | exact ⟨trivial, ih⟩ | exact ⟨rfl, ih⟩

theorem maskGo_nil : ∀ {i : Nat} {H : AHeap}, maskGo [] i H = H
  | _, [] => rfl
  | i, x :: H => by simp only [maskGo, hasN, maskGo_nil]
theorem mask_sub {us : List Nat} {H T : AHeap} : SubH (mask us H) (H ++ T) := by
  unfold mask
  split
  · have := maskGo_sub (us := []) (i := 0) (H := H) (T := T)
    rwa [maskGo_nil] at this
  · exact maskGo_sub
/-- i + 2000000: the object i is weak from the first write on -/
def lateU : List Nat → List Nat
  | [] => []
  | u :: us => (if 2000000 ≤ u then u - 2000000 else u) :: lateU us
theorem AGo_drw (us : List Nat) (h : DGo cx m k R (some ⟨mask (lateU us) H, H.length, (newsOf L).map (·.1), mask us H, [], 0, []⟩) L e (H ++ kept L)) : AGo cx m (.code (.draw L) :: k) R e H :=
  AGo_draw (mask (lateU us) H) (mask us H) [] 0 mask_sub mask_sub [] trivial h
/-- a region that makes slices of one length: their cells -/
theorem AGo_drwN (us : List Nat) (cs : List AV) (nn : Nat) (h : DGo cx m k R (some ⟨mask (lateU us) H, H.length, (newsOf L).map (·.1), mask us H, cs, nn, []⟩) L e (H ++ keptN cs L)) : AGo cx m (.code (.draw L) :: k) R e H :=
  AGo_draw (mask (lateU us) H) (mask us H) cs nn mask_sub mask_sub [] trivial h

theorem DGo_nil (h : AGo cx m k R ⟨[], e.g⟩ H) : DGo cx m k R D [] e H := h

theorem DGo_act {r : AV} (hm : movB it.o.op = false) (hg : gOk e it.o.grd = some true) (hv : opAct (ev e) H it.o.op = some (r, H')) (hk : Keep D it H H') (h : DGo cx m k R (nx D it) L (put e it.o.dst r) H') : DGo cx m k R D (it :: L) e H := by
  simp only [DGo, JStep, hm, hg]
  split
  · rename_i f xs hop; rw [hop] at hv; simp [opAct] at hv
  · exact ⟨r, H', hv, hk, h⟩

theorem DGo_call {d : Option (Bool × Nat)} {f : Od} {xs : List Od} {g : Option (Od × Bool)} {i : Nat} {tl : Bool} {ws : List Nat} {fid : Nat} {caps : List AV} (hg : gOk e g = some true) (hf : ev e f = .fn fid caps)
    (h : ACalls cx.P fid (xs.map (ev e) ++ caps) H fun r H' => Keep D ⟨⟨d, .call f xs, g⟩, i, tl, ws⟩ H H' ∧ DGo cx m k R (nx D ⟨⟨d, .call f xs, g⟩, i, tl, ws⟩) L (put e d r) H') :
    DGo cx m k R D (⟨⟨d, .call f xs, g⟩, i, tl, ws⟩ :: L) e H := by
  simp only [DGo, JStep, movB, hg]
  exact ⟨fid, caps, hf, h⟩

/-! ### Calls of functions that name no object -/
/-- called with these values, whatever there is, it yields a value of Q and leaves all as it was -/
def PCalls (P : Program) (f : Nat) (args : List AV) (Q : AV → Prop) : Prop := ACalls P f args [] fun r H' => H' = [] ∧ r.nid = true ∧ Q r

theorem PCalls.calls {P : Program} {f : Nat} {args : List AV} {Q : AV → Prop} (h : PCalls P f args Q) (ha : AV.nidL args = true) (H : AHeap) : ACalls P f args H fun r H' => H' = H ∧ r.nid = true ∧ Q r := by
  have := ACalls.frame (H := H) [] h List.nodup_nil rfl (AV.ltL_nid ha) (by simp [ltH]) (fun k X hk => by simp at hk)
  rw [AV.renL_nid ha] at this
  refine this.mono fun r H' hr => ?_
  obtain ⟨r0, H1, ⟨rfl, hn, hq⟩, _, rfl, rfl⟩ := hr
  exact ⟨by simp [merge, updL], by rw [AV.ren_nid hn]; exact hn, by rw [AV.ren_nid hn]; exact hq⟩

/-! ### What nobody writes any more -/
/-- other values for what lives on, another heap: whatever fits the one fits the other -/
def Turns (e : Env) (H : AHeap) (e' : Env) (H' : AHeap) : Prop := ∀ st w, RelH st w H → ∃ st', Ext st w st' w ∧ RelH st' w H' ∧
  (∀ t v, RelV st (look e.l t) v → RelV st' (look e'.l t) v) ∧ (∀ t v, RelV st (look e.g t) v → RelV st' (look e'.g t) v) ∧ (∀ t, look e.l t = .bad → look e'.l t = .bad) ∧ (∀ t, look e.g t = .bad → look e'.g t = .bad)

theorem AGo_turn {e' : Env} (ht : Turns e H e' H') (h : AGo cx m k R e' H') : AGo cx m k R e H := by
  intro st0 w0 kc hm hk st a w hr
  obtain ⟨st', h1, h2, h3, h4, h5, h6⟩ := ht st w hr.hH
  exact h st0 w0 kc hm hk st' a w ⟨hr.ext.trans h1, h2, fun t => h3 t _ (hr.l t), fun t => h4 t _ (hr.g t), fun t ht => h5 t (hr.kl t ht), fun t ht => h6 t (hr.kg t ht), hr.n, hr.d.mono h1⟩

theorem uncell {st : St} {x : AV} {cs : List AV} {us : List Value} (hx : x.cells = some cs) (hr : RelL st cs us) (hs : ∀ u ∈ us, Scal u) : ∃ v, RelV st x v ∧ v.cells.toList = us := by
  have one : RelL st [x] us → ∃ v, RelV st x v ∧ v.cells.toList = us := fun h => by
    obtain ⟨u, us', rfl, h1, h2⟩ := h.uncons
    simp only [RelL] at h2; subst h2
    exact ⟨u, h1, by rw [(hs u (by simp)).cells]⟩
  cases x with
  | bad => simp [AV.cells] at hx
  | tup _ => simp [AV.cells] at hx
  | lit v =>
    simp only [AV.cells] at hx
    split at hx
    · simp only [Option.some.injEq] at hx; subst hx; exact one hr
    · cases hx
  | agg cs' =>
    simp only [AV.cells, Option.some.injEq] at hx; subst hx
    refine ⟨.agg us.toArray, ?_, by simp [Value.cells]⟩
    simp only [RelV]
    exact ⟨_, rfl, by simpa using hr, by simpa using hs⟩
  | _ => simp only [AV.cells, Option.some.injEq] at hx; subst hx; exact one hr

theorem uncells {st : St} : ∀ {xs : List AV} {cs : List AV} {us : List Value}, xs.foldr (fun e acc => match e.cells, acc with | some cs, some r => some (cs ++ r) | _, _ => none) (some []) = some cs → RelL st cs us → (∀ u ∈ us, Scal u) →
    ∃ vs, RelL st xs vs ∧ flat vs = us
  | [], cs, us, h, hr, hs => by
    simp only [List.foldr_nil, Option.some.injEq] at h; subst h
    simp only [RelL] at hr; subst hr
    exact ⟨[], RelL.nil, rfl⟩
  | x :: xs, cs, us, h, hr, hs => by
    simp only [List.foldr_cons] at h
    split at h
    · rename_i c1 c2 h1 h2
      simp only [Option.some.injEq] at h; subst h
      have g1 := hr.take c1.length
      have g2 := hr.drop c1.length
      rw [List.take_left] at g1; rw [List.drop_left] at g2
      obtain ⟨v, f1, f2⟩ := uncell h1 g1 (fun u hu => hs u (List.mem_of_mem_take hu))
      obtain ⟨vs, f3, f4⟩ := uncells h2 g2 (fun u hu => hs u (List.mem_of_mem_drop hu))
      exact ⟨v :: vs, RelL.cons f1 f3, by simp only [flat, List.flatMap_cons, f2] at f4 ⊢; rw [f4, List.take_append_drop]⟩
    · cases h

theorem uncells_size {st : St} {sz : Nat} : ∀ {xs : List AV} {vs : List Value}, RelL st xs vs → elemsLen sz xs = true → ∀ u ∈ vs, u.cells.size = sz
  | [], vs, h, _, u, hu => by simp only [RelL] at h; subst h; cases hu
  | x :: xs, vs, h, he, u, hu => by
    obtain ⟨v, vs', rfl, h1, h2⟩ := h.uncons
    simp only [elemsLen, List.all_cons, Bool.and_eq_true] at he
    rcases List.mem_cons.1 hu with rfl | hu
    · have := he.1
      split at this
      · rename_i cs hcs
        have h3 := (h1.cells hcs).1.length
        simp at h3 this; omega
      · cases this
    · exact uncells_size h2 he.2 u hu

/-- A row is nobody's to write any more: every value that shows it as it is now becomes a slice of its elements. -/
theorem freeze_st {st : St} {w : World} {id g : Nat} {cs : List AV} (hH : RelH st w H) (hX : H[id]? = some (.own g cs)) :
    ∃ st', Ext st w st' w ∧ RelH st' w (H.set id .gone) ∧ ∀ (sz off len : Nat) (xs : List AV) (v : Value), cellsOfSl [] sz (.vs sz xs) = some ((cs.drop off).take (len * sz)) → off + len * sz ≤ cs.length → xs.length = len → elemsOk sz xs = true →
      RelV st (.ms sz id g off len) v → RelV st' (.vs sz xs) v := by
  have hlt : id < st.loc.length := by rw [hH.len]; exact (List.getElem?_eq_some_iff.1 hX).1
  have hl : st.loc[id]? = some st.loc[id] := List.getElem?_eq_getElem hlt
  generalize st.loc[id] = l at hl
  have hg : l.g = g := (hH.obj id l _ hl hX).1
  -- what is known of the cells
  obtain ⟨rd', hrd1, hrd2, hrd3⟩ : ∃ rd' : Nat → Nat → Option Value, (∀ b o c, st.rd b o = some c → rd' b o = some c) ∧
      (∀ b o c, rd' b o = some c → st.rd b o = some c ∨ (Scal c ∧ w.cell? ⟨b, o, none⟩ = some c ∧ ∃ o' r, l.base = some (b, o', r))) ∧
      (∀ b o r, l.base = some (b, o, r) → ∃ us, RelL st cs us ∧ (∀ u ∈ us, Scal u) ∧ ∀ i c, us[i]? = some c → rd' b (o + i) = some c) := by
    cases hb : l.base with
    | none => exact ⟨st.rd, fun _ _ _ h => h, fun _ _ _ h => .inl h, fun b o r h => by cases h⟩
    | some x =>
      obtain ⟨b, o, r⟩ := x
      obtain ⟨us, h1, h2, h3⟩ := own_cells hH hX hl hb
      have hnone : ∀ o', st.rd b o' = none := fun o' => by
        cases hq : st.rd b o' with
        | none => rfl
        | some c => exact absurd ⟨id, l, o, r, hl, hb⟩ (hH.rd b o' c hq).2.2
      refine ⟨fun b' o' => if b' = b then (if o ≤ o' then us[o' - o]? else none) else st.rd b' o', fun b' o' c h => ?_, fun b' o' c h => ?_, fun b' o' r' h => ?_⟩
      · have : b' ≠ b := fun he => by subst he; rw [hnone] at h; cases h
        simp only [if_neg this]; exact h
      · simp only at h
        split at h
        · rename_i he; subst he
          split at h
          · rename_i hle
            have := h3 _ c h
            rw [Nat.add_sub_cancel' hle] at this
            exact .inr ⟨h2 c (List.mem_of_getElem? h), this, o, r, rfl⟩
          · cases h
        · exact .inl h
      · cases h
        exact ⟨us, h1, h2, fun i c hc => by simp [hc]⟩
  let st' : St := ⟨rd', st.loc.set id ⟨g + 1, none⟩⟩
  have hget : ∀ (j : Nat) (x : Loc), st'.loc[j]? = some x → (j = id ∧ x = ⟨g + 1, none⟩) ∨ (j ≠ id ∧ st.loc[j]? = some x) := by
    intro j x hx
    simp only [st', List.getElem?_set] at hx
    split at hx
    · rename_i he; subst he
      simp [hlt] at hx
      exact .inl ⟨rfl, hx.symm⟩
    · rename_i he; exact .inr ⟨fun h => he h.symm, hx⟩
  have hown : ∀ b, Owned st' b → Owned st b ∧ ∀ o r, l.base ≠ some (b, o, r) := by
    rintro b ⟨j, x, o, r, hx, hb⟩
    rcases hget j x hx with ⟨rfl, rfl⟩ | ⟨hj, hx'⟩
    · cases hb
    · exact ⟨⟨j, x, o, r, hx', hb⟩, fun o' r' h => hj (hH.inj j id x l b o r o' r' hx' hl hb h)⟩
  have hle : st.le st' := ⟨hrd1, fun j x hx => by
    by_cases hj : j = id
    · subst hj
      rw [hl] at hx; cases hx
      exact ⟨⟨g + 1, none⟩, by simp [st', hlt], by simp only; omega, fun h => by simp only at h; omega⟩
    · exact ⟨x, by simp [st', List.getElem?_set, Ne.symm hj, hx], Nat.le_refl _, fun _ => rfl⟩⟩
  refine ⟨st', ⟨hle, Nat.le_refl _, fun _ _ _ => rfl, fun b hb => .inl (hown b hb).1, rfl, rfl, fun b o c hc => ?_⟩, ⟨by simp [st', hH.len], ?_, ?_, ?_⟩, ?_⟩
  · rcases hrd2 b o c hc with h | ⟨_, _, o', r, h⟩
    · exact .inl h
    · exact .inr (.inr ⟨id, l, o', r, hl, h⟩)
  · intro b o c hc
    rcases hrd2 b o c hc with h | ⟨h1, h2, o', r, h3⟩
    · exact ⟨(hH.rd b o c h).1, (hH.rd b o c h).2.1, fun ho => (hH.rd b o c h).2.2 (hown b ho).1⟩
    · exact ⟨h1, h2, fun ho => (hown b ho).2 o' r h3⟩
  · intro j x X hx hXj
    rcases hget j x hx with ⟨rfl, rfl⟩ | ⟨hj, hx'⟩
    · rw [List.getElem?_set_self (by rw [← hH.len]; exact hlt)] at hXj
      cases hXj; rfl
    · rw [List.getElem?_set_ne (Ne.symm hj)] at hXj
      exact (hH.obj j x X hx' hXj).mono hle fun _ _ _ _ => rfl
  · intro j j' x x' b o r o' r' hx hx' hb hb'
    rcases hget j x hx with ⟨rfl, rfl⟩ | ⟨_, hx⟩
    · cases hb
    · rcases hget j' x' hx' with ⟨rfl, rfl⟩ | ⟨_, hx'⟩
      · cases hb'
      · exact hH.inj j j' x x' b o r o' r' hx hx' hb hb'
  · intro sz off len xs v hxs hle2 hlen hok hv
    simp only [RelV] at hv
    obtain ⟨l2, h1, h2, h3, h4⟩ := hv
    rw [hl] at h1; cases h1
    obtain ⟨a, cap, rfl, hcap, h5⟩ := h4 hg.symm
    simp only [cellsOfSl, if_true] at hxs
    simp only [elemsOk, Bool.and_eq_true] at hok
    simp only [RelV]
    by_cases hc : 0 < cap
    · obtain ⟨b, o, r, h6, rfl, h7⟩ := h5 hc
      obtain ⟨us, f1, f2, f3⟩ := hrd3 b o r h6
      obtain ⟨vs, f4, f5⟩ := uncells hxs ((f1.drop off).take (len * sz)) (fun u hu => f2 u (List.mem_of_mem_drop (List.mem_of_mem_take hu)))
      refine ⟨_, cap, vs, by rw [hlen], by rw [hlen]; exact hcap, RelL.nid (st' := st'.pure) hrd1 hok.1 f4, uncells_size f4 hok.2, fun _ => ⟨b, o + off, rfl, ?_⟩⟩
      intro i c hi
      rw [f5] at hi
      have hi2 : i < len * sz := by
        rcases Nat.lt_or_ge i (len * sz) with h | h
        · exact h
        · rw [List.getElem?_eq_none (by simp; omega)] at hi; cases hi
      rw [List.getElem?_take_of_lt hi2, List.getElem?_drop] at hi
      have := f3 (off + i) c hi
      rw [Nat.add_assoc]; exact this
    · have : len = 0 := by omega
      subst this
      have : xs = [] := List.length_eq_zero_iff.1 hlen
      subst this
      exact ⟨a, cap, [], rfl, by simp, by simp [RelL], by simp, fun h => absurd rfl h⟩

theorem AGo_freeze (t : Nat) {id g sz off len : Nat} {xs cs : List AV} (hX : H[id]? = some (.own g cs)) (ht : look e.g t = .ms sz id g off len) (h1 : cellsOfSl [] sz (.vs sz xs) = some ((cs.drop off).take (len * sz)))
    (h2 : off + len * sz ≤ cs.length) (h3 : xs.length = len) (h4 : elemsOk sz xs = true) (h : AGo cx m k R ⟨e.l, gset e.g t (.vs sz xs)⟩ (H.set id .gone)) : AGo cx m k R e H := by
  refine AGo_turn (fun st w hH => ?_) h
  obtain ⟨st', g1, g2, g3⟩ := freeze_st hH hX
  refine ⟨st', g1, g2, fun t v hv => hv.mono g1.le, fun t' v hv => ?_, fun _ h => h, fun t' hb => ?_⟩
  · rw [look_gset]
    split
    · rename_i he; subst he
      rw [ht] at hv
      exact g3 sz off len xs v h1 h2 h3 h4 hv
    · exact hv.mono g1.le
  · rw [look_gset]
    split
    · rename_i he; subst he; rw [ht] at hb; cases hb
    · exact hb

/-- the slice that is none, as a row without room -/
theorem AGo_nilms (t sz : Nat) (ht : look e.g t = .lit (.slice none 0 0)) (h : AGo cx m k R ⟨e.l, gset e.g t (.ms sz H.length 0 0 0)⟩ (H ++ [.own 0 []])) : AGo cx m k R e H := by
  refine AGo_turn (fun st w hH => ?_) h
  obtain ⟨g1, g2, g3⟩ := push_none hH []
  refine ⟨_, g1, g2, fun t v hv => hv.mono g1.le, fun t' v hv => ?_, fun _ h => h, fun t' hb => ?_⟩
  · rw [look_gset]
    split
    · rename_i he; subst he
      rw [ht] at hv
      simp only [RelV] at hv ⊢
      subst hv
      exact ⟨_, g3, Nat.le_refl _, fun h => absurd h (Nat.lt_irrefl _), fun _ => ⟨none, 0, rfl, Nat.le_refl _, fun h => absurd h (Nat.lt_irrefl _)⟩⟩
    · exact hv.mono g1.le
  · rw [look_gset]
    split
    · rename_i he; subst he; rw [ht] at hb; cases hb
    · exact hb
end Go.Sas
namespace Go.Sas
variable {cx : Cx} {m : Nat} {k : List AItm} {R : Env → AHeap → Prop} {e : Env} {H H' : AHeap} {D : Option DM} {L : List DItm} {it : DItm}

/-- both ways, where it is not known which -/
def caseB (b : Bool) (p q : Unit → Prop) : Prop := match b with
  | true => p ()
  | false => q ()

/-- what was asked is known from now on -/
def learn (e : Env) (x : Od) (b : Bool) : Env := match x with
  | .l t => ⟨(t, .lit (.bool b)) :: e.l, e.g⟩
  | .g t => ⟨e.l, gset e.g t (.lit (.bool b))⟩
  | .c _ => e

theorem learn_eqE {x : Od} {b : Bool} (h : ev e x = .lit (.bool b)) : EqE (learn e x b) e := by
  cases x with
  | l t =>
    refine ⟨fun s => ?_, fun s => rfl⟩
    simp only [learn, look]
    split
    · rename_i he; subst he; exact h.symm
    · rfl
  | g t =>
    refine ⟨fun s => rfl, fun s => ?_⟩
    simp only [learn, look_gset]
    split
    · rename_i he; subst he; exact h.symm
    · rfl
  | c a => exact .refl _

/-! Arithmetic, and what is to be shown, that are not looked into -/
structure Ar where
  add : IntKind → Int → Int → Int
  sub : IntKind → Int → Int → Int
  mul : IntKind → Int → Int → Int
  quo : IntKind → Int → Int → Int
  rem : IntKind → Int → Int → Int
  and : IntKind → Int → Int → Int
  or : IntKind → Int → Int → Int
  xor : IntKind → Int → Int → Int
  shl : IntKind → Int → Int → Int
  shr : IntKind → Int → Int → Int
  neg : IntKind → Int → Int
  cv : IntKind → Int → Int
  eq : Int → Int → Bool
  ne : Int → Int → Bool
  lt : Int → Int → Bool
  le : Int → Int → Bool
  max : Int → Int → Int
  min : Int → Int → Int
  len : Nat → Int
  vlen : List AV → Int
  seq : ByteArray → ByteArray → Bool
  beq : Bool → Bool → Bool
  band : Bool → Bool → Bool
  bnot : Bool → Bool
  nz : Int → Prop
  nn : Int → Prop
  sg : Nat → Nat → Prop
  ix : Nat → Nat → List AV → Int → List AV → Prop
  ixm : Nat → Nat → Nat → Nat → Int → Nat → Prop
  off : Nat → Nat → Nat → Prop
  get : Option Nat → List AV → Nat → AV → Prop
  upd : Nat → List AV → Nat → List AV → List AV → Prop
  app : Nat → Nat → Nat → List AV → Nat → Nat → List AV → List AV → Nat → Prop
  mkz : Nat → Nat → List Value → Int → Int → List AV → Nat → Prop
  slv : Nat → Nat → List AV → Option Int → Option Int → List AV → Prop
  slm : Nat → Nat → Nat → Nat → Option Int → Option Int → Nat → Nat → Prop
  sls : ByteArray → Option Int → Option Int → ByteArray → Prop
  sx : ByteArray → Int → Int → Prop
  aix : Nat → Nat → Option Nat → List AV → Int → AV → Prop
  scat : ByteArray → ByteArray → ByteArray → Prop
  keep : Option DM → DItm → AHeap → AHeap → Prop
  fz : Nat → Nat → Nat → List AV → Prop
  apps : Nat → Nat → Nat → List AV → Nat → Nat → ByteArray → List AV → Nat → Prop

/-- an element of a slice -/
def ixS (sz sz' : Nat) (es : List AV) (n : Int) (c : List AV) : Prop := sz = sz' ∧ 0 ≤ n ∧ ∃ x, es[n.toNat]? = some x ∧ x.cells = some c
/-- the place of an element -/
def ixmS (sz sz' off len : Nat) (n : Int) (o : Nat) : Prop := sz = sz' ∧ 0 ≤ n ∧ n < len ∧ o = off + n.toNat * sz
def offS (o k r : Nat) : Prop := r = o + k
def getS (n : Option Nat) (cs : List AV) (o : Nat) (v : AV) : Prop := getN n cs o = some v
def updS (n : Nat) (cs : List AV) (o : Nat) (xs cs' : List AV) : Prop := xs.length = n ∧ o + n ≤ cs.length ∧ cs' = cs.take o ++ xs ++ cs.drop (o + n)
/-- what is put behind -/
def appS (sz sz' by_ : Nat) (cs : List AV) (off len : Nat) (es cs' : List AV) (n : Nat) : Prop := sz = sz' ∧ off + len * sz ≤ cs.length ∧ (len + es.length) * by_ ≤ 140737488355328 ∧ n = len + es.length ∧
  ∃ xs, cellsOfSl [] sz (.vs sz es) = some xs ∧ cs' = (cs.drop off).take (len * sz) ++ xs
def appsS (sz sz' by_ : Nat) (cs : List AV) (off len : Nat) (b : ByteArray) (cs' : List AV) (n : Nat) : Prop := sz = 1 ∧ sz = sz' ∧ off + len * sz ≤ cs.length ∧ (len + b.size) * by_ ≤ 140737488355328 ∧ n = len + b.size ∧ cs' = (cs.drop off).take (len * sz) ++ strC b
def mkS (sz by_ : Nat) (z : List Value) (ln cp : Int) (cs : List AV) (n : Nat) : Prop := 0 ≤ ln ∧ ln ≤ cp ∧ cp ≤ 9223372036854775807 ∧ by_ * cp ≤ 281474976710656 ∧ z.length = sz ∧ n = ln.toNat ∧ cs = List.flatten (List.replicate ln.toNat (z.map .lit))
/-- a bound of a slice expression -/
def bdI (d : Nat) : Option Int → Option Nat
  | none => some d
  | some n => if 0 ≤ n then some n.toNat else none
def slvS (sz sz' : Nat) (es : List AV) (lo hi : Option Int) (r : List AV) : Prop := sz = sz' ∧ ∃ l h, bdI 0 lo = some l ∧ bdI es.length hi = some h ∧ l ≤ h ∧ h ≤ es.length ∧ r = (es.drop l).take (h - l)
def slmS (sz sz' off len : Nat) (lo hi : Option Int) (o n : Nat) : Prop := sz = sz' ∧ ∃ l h, bdI 0 lo = some l ∧ bdI len hi = some h ∧ l ≤ h ∧ h ≤ len ∧ o = off + l * sz ∧ n = h - l
def slsS (s : ByteArray) (lo hi : Option Int) (r : ByteArray) : Prop := ∃ l h, bdI 0 lo = some l ∧ bdI s.size hi = some h ∧ l ≤ h ∧ h ≤ s.size ∧ r = s.extract l h
def sxS (s : ByteArray) (n : Int) (b : Int) : Prop := 0 ≤ n ∧ ∃ x : UInt8, s[n.toNat]? = some x ∧ b = x.toNat
def aixS (len sz : Nat) (n : Option Nat) (cs : List AV) (m : Int) (v : AV) : Prop := 0 ≤ m ∧ m < len ∧ getN n cs (m.toNat * sz) = some v
def scatS (a b r : ByteArray) : Prop := a.size + b.size ≤ 9223372036854775807 ∧ r = a ++ b
/-- elements that are copied and never written -/
def fzS (sz sz' by_ : Nat) (xs : List AV) : Prop := sz = sz' ∧ xs.length * by_ ≤ 140737488355328 ∧ elemsOk sz xs = true
def nzS (n : Int) : Prop := n ≠ 0
def nnS (n : Int) : Prop := 0 ≤ n
def sgS (g g' : Nat) : Prop := g = g'

/-- as it is -/
def std : Ar := ⟨iAdd, iSub, iMul, iQuo, iRem, iAnd, iOr, iXor, iShl, iShr, iNeg, iCv, iEq, iNe, iLt, iLe, iMax, iMin, iLen, fun l => iLen l.length, sEq, fun a b => a == b, and, not,
  nzS, nnS, sgS, ixS, ixmS, offS, getS, updS, appS, mkS, slvS, slmS, slsS, sxS, aixS, scatS, Keep, fzS, appsS⟩

def zeroB : Int → Bool
  | .ofNat 0 => true
  | _ => false
def negB : Int → Bool
  | .negSucc _ => true
  | _ => false
theorem zeroB_iff {n : Int} : zeroB n = true ↔ n = 0 := by
  unfold zeroB
  split
  · simp
  · rename_i h
    simp only [Bool.false_eq_true, false_iff]
    intro he; subst he; exact h rfl
theorem negB_iff {n : Int} : negB n = true ↔ n < 0 := by
  cases n with
  | ofNat n => simp [negB]
  | negSucc n => simp [negB]

abbrev PT := (AV → AHeap → Prop) → Prop

/-- a number that is a divisor, or by how much is shifted: written out, or not -/
def divG (A : Ar) (y : Od) (b : Int) (p : Prop) (T : Unit → Prop) : Prop := match y with
  | .c _ => (match zeroB b with | true => T () | false => p)
  | _ => A.nz b ∧ p
def shG (A : Ar) (y : Od) (b : Int) (p : Prop) (T : Unit → Prop) : Prop := match y with
  | .c _ => (match negB b with | true => T () | false => p)
  | _ => A.nn b ∧ p

def binP (A : Ar) (op : BinOp) (y : Od) (u v : AV) (K : AV → Prop) (T : Unit → Prop) : Prop := match u, v with
  | .lit (.int k a), .lit (.int k' b) => (match op with
    | .shl => shG A y b (K (.lit (.int k (A.shl k a b)))) T
    | .shr => shG A y b (K (.lit (.int k (A.shr k a b)))) T
    | .andNot => T ()
    | op => if k = k' then (match op with
      | .add => K (.lit (.int k (A.add k a b)))
      | .sub => K (.lit (.int k (A.sub k a b)))
      | .mul => K (.lit (.int k (A.mul k a b)))
      | .quo => divG A y b (K (.lit (.int k (A.quo k a b)))) T
      | .rem => divG A y b (K (.lit (.int k (A.rem k a b)))) T
      | .and => K (.lit (.int k (A.and k a b)))
      | .or => K (.lit (.int k (A.or k a b)))
      | .xor => K (.lit (.int k (A.xor k a b)))
      | .eql => K (.lit (.bool (A.eq a b)))
      | .neq => K (.lit (.bool (A.ne a b)))
      | .lss => K (.lit (.bool (A.lt a b)))
      | .leq => K (.lit (.bool (A.le a b)))
      | .gtr => K (.lit (.bool (A.lt b a)))
      | .geq => K (.lit (.bool (A.le b a)))
      | _ => T ()) else T ())
  | .lit (.string a), .lit (.string b) => (match op with
    | .eql => K (.lit (.bool (A.seq a b)))
    | .neq => K (.lit (.bool (A.bnot (A.seq a b))))
    | .add => ∃ r, A.scat a b r ∧ K (.lit (.string r))
    | _ => T ())
  | _, _ => T ()

theorem divG_sound {y : Od} {b : Int} {p : Prop} {T : Prop} (h : divG std y b p (fun _ => T)) : T ∨ (b ≠ 0 ∧ p) := by
  unfold divG at h
  split at h
  · split at h
    · exact .inl h
    · rename_i hz; exact .inr ⟨fun hb => (by rw [zeroB_iff.2 hb] at hz; cases hz), h⟩
  · exact .inr h
theorem shG_sound {y : Od} {b : Int} {p : Prop} {T : Prop} (h : shG std y b p (fun _ => T)) : T ∨ (¬ b < 0 ∧ p) := by
  unfold shG at h
  split at h
  · split at h
    · exact .inl h
    · rename_i hz; exact .inr ⟨fun hb => (by rw [negB_iff.2 hb] at hz; cases hz), h⟩
  · exact .inr ⟨by have := h.1; simp only [std, nnS] at this; omega, h.2⟩

theorem binP_sound {op : BinOp} {y : Od} {u v : AV} {K : AV → Prop} {T : Prop} (h : binP std op y u v K (fun _ => T)) : T ∨ ∃ r, binA op u v = some r ∧ K r := by
  unfold binP at h
  split at h
  · rename_i k a k' b
    split at h
    · rcases shG_sound h with h | ⟨h1, h2⟩
      · exact .inl h
      · exact .inr ⟨_, by simp only [binA]; rw [if_neg h1]; rfl, h2⟩
    · rcases shG_sound h with h | ⟨h1, h2⟩
      · exact .inl h
      · exact .inr ⟨_, by simp only [binA]; rw [if_neg h1]; rfl, h2⟩
    · exact .inl h
    · rename_i n1 n2 n3
      split at h
      · rename_i hk
        cases op <;> simp only at h <;>
          first
            | (exact .inr ⟨_, by simp only [binA]; rw [if_pos hk]; rfl, h⟩)
            | (rcases divG_sound h with h | ⟨h1, h2⟩
               · exact .inl h
               · exact .inr ⟨_, by simp only [binA]; rw [if_pos hk, if_neg h1]; rfl, h2⟩)
            | exact .inl h
      · exact .inl h
  · split at h
    · exact .inr ⟨_, rfl, h⟩
    · exact .inr ⟨_, rfl, h⟩
    · obtain ⟨r, ⟨h1, rfl⟩, h2⟩ := h
      exact .inr ⟨_, by simp only [binA]; rw [if_pos h1]; rfl, h2⟩
    · exact .inl h
  · exact .inl h

def lenG (A : Ar) (H : AHeap) : AV → Option AV
  | .vs _ es => some (.lit (.int .i64 (A.vlen es)))
  | .ms _ id g _ len => if live H id g then some (.lit (.int .i64 (A.len len))) else none
  | .es => some (.lit (.int .i64 0))
  | .lit (.slice none 0 0) => some (.lit (.int .i64 0))
  | _ => none

def eqG (A : Ar) : ESh → AV → AV → Option Bool
  | .i, .lit (.int k a), .lit (.int k' b) => if k = k' then some (A.eq a b) else none
  | .b, .lit (.bool a), .lit (.bool b) => some (A.beq a b)
  | .s, .lit (.string a), .lit (.string b) => some (A.seq a b)
  | .nil, .agg _, .agg _ => some true
  | .fld off n sh rest, .agg xs, .agg ys => match getN n xs off, getN n ys off with
    | some a, some b => match eqG A sh a b, eqG A rest (.agg xs) (.agg ys) with
      | some p, some q => some (A.band p q)
      | _, _ => none
    | _, _ => none
  | _, _, _ => none
theorem eqG_std : ∀ (sh : ESh) (x y : AV), eqG std sh x y = eqE sh x y
  | .i, x, y => by
    cases x with
    | lit u => cases u <;> first | rfl | (cases y with | lit v => cases v <;> rfl | _ => rfl)
    | _ => rfl
  | .b, x, y => by
    cases x with
    | lit u => cases u <;> first | rfl | (cases y with | lit v => cases v <;> rfl | _ => rfl)
    | _ => rfl
  | .s, x, y => by
    cases x with
    | lit u => cases u <;> first | rfl | (cases y with | lit v => cases v <;> rfl | _ => rfl)
    | _ => rfl
  | .nil, x, y => by cases x <;> cases y <;> rfl
  | .fld off n sh rest, x, y => by
    cases x <;> cases y <;> (try (simp only [eqG, eqE]; done))
    rename_i xs ys
    simp only [eqG, eqE]
    cases getN n xs off <;> cases getN n ys off <;> try rfl
    simp only [eqG_std sh, eqG_std rest]
    rfl

def opValG (A : Ar) (e : Od → AV) (H : AHeap) : AOp → Option AV
  | .un op x => match op, e x with
    | .not, .lit (.bool b) => some (.lit (.bool (A.bnot b)))
    | .neg, .lit (.int k n) => some (.lit (.int k (A.neg k n)))
    | _, _ => none
  | .cv k x => match e x with
    | .lit (.int _ n) => some (.lit (.int k (A.cv k n)))
    | _ => none
  | .len x => lenG A H (e x)
  | .lens x => match e x with
    | .lit (.string s) => some (.lit (.int .i64 (A.len s.size)))
    | _ => none
  | .mx xs => match xs.map e with
    | a :: r => foldA A.max a r
    | [] => none
  | .mn xs => match xs.map e with
    | a :: r => foldA A.min a r
    | [] => none
  | .binb neg x y => match e x, e y with
    | .lit (.bool a), .lit (.bool b) => some (.lit (.bool (if neg then A.bnot (A.beq a b) else A.beq a b)))
    | _, _ => none
  | .eqs neg sh x y => (eqG A sh (e x) (e y)).map fun r => .lit (.bool (if neg then A.bnot r else r))
  | op => opVal e H op

theorem opValG_sound {e : Od → AV} {H : AHeap} {op : AOp} {r : AV} (h : opValG std e H op = some r) : opVal e H op = some r := by
  cases op <;> simp only [opValG] at h <;> try exact h
  case eqs neg sh x y => rw [eqG_std] at h; exact h

def opRunG (A : Ar) (e : Od → AV) (H : AHeap) (o : AOp) : Option (AV × AHeap) := match opValG A e H o with
  | some r => some (r, H)
  | none => opAct e H o

theorem opRunG_sound {e : Od → AV} {H H' : AHeap} {op : AOp} {r : AV} (h : opRunG std e H op = some (r, H')) : opRun e H op = some (r, H') := by
  unfold opRunG at h
  split at h
  · rename_i r' hr
    rw [opRun, opValG_sound hr]; exact h
  · rename_i hn
    cases op
    case un => simp [opAct] at h
    case cv => simp [opAct] at h
    case len => simp [opAct] at h
    case lens => simp [opAct] at h
    case mx => simp [opAct] at h
    case mn => simp [opAct] at h
    case binb => simp [opAct] at h
    case eqs => simp [opAct] at h
    all_goals (simp only [opValG] at hn; rw [opRun, hn]; exact h)

/-- objects that are not looked into -/
def isSy : List Nat → Nat → Bool
  | [], _ => false
  | x :: r, i => match Nat.beq x i with | true => true | false => isSy r i

def bdG : Option AV → Option (Option Int)
  | none => some none
  | some (.lit (.int _ n)) => some (some n)
  | some _ => none

def detP (A : Ar) (e : Od → AV) (H : AHeap) (op : AOp) (K : AV → AHeap → Prop) (T : Unit → Prop) : Prop := match opRunG A e H op with
  | some (r, H') => K r H'
  | none => T ()

/-- an object that is not looked into, and how it stands -/
def symP (A : Ar) (H : AHeap) (id g : Nat) (p : List AV → Prop) (T : Unit → Prop) : Prop := match H[id]? with
  | some (.own g' cs) => A.sg g g' ∧ p cs
  | _ => T ()

/-- What an operation does, by what is to be shown behind it. -/
def opPT (A : Ar) (sy : List Nat) (e : Od → AV) (H : AHeap) (op : AOp) (K : AV → AHeap → Prop) (T : Unit → Prop) : Prop := match op with
  | .bin op x y => binP A op y (e x) (e y) (fun r => K r H) T
  | .ia sz x i => (match e x, e i with
    | .vs sz' es, .lit (.int _ n) => ∃ c, A.ix sz sz' es n c ∧ K (.vp c) H
    | .ms sz' id g off len, .lit (.int q n) => (match isSy sy id with
      | true => symP A H id g (fun _ => ∃ o, A.ixm sz sz' off len n o ∧ K (.mp id g o) H) T
      | false => detP A e H op K T)
    | _, _ => T ())
  | .iaa len sz x i => (match e x, e i with
    | .mp id g off, .lit (.int q n) => (match isSy sy id with
      | true => symP A H id g (fun _ => ∃ o, A.ixm sz sz off len n o ∧ K (.mp id g o) H) T
      | false => detP A e H op K T)
    | _, _ => T ())
  | .fa x off => (match e x with
    | .mp id g o => (match isSy sy id with
      | true => symP A H id g (fun _ => ∃ o', A.off o off o' ∧ K (.mp id g o') H) T
      | false => detP A e H op K T)
    | _ => detP A e H op K T)
  | .nilc x => (match e x with
    | .mp id g o => (match isSy sy id with
      | true => symP A H id g (fun _ => K (.mp id g o) H) T
      | false => detP A e H op K T)
    | _ => detP A e H op K T)
  | .len x => (match e x with
    | .ms sz id g off len => (match isSy sy id with
      | true => symP A H id g (fun _ => K (.lit (.int .i64 (A.len len))) H) T
      | false => detP A e H op K T)
    | _ => detP A e H op K T)
  | .ld n a => (match e a with
    | .mp id g o => (match isSy sy id with
      | true => symP A H id g (fun cs => ∃ v, A.get n cs o v ∧ K v H) T
      | false => detP A e H op K T)
    | _ => detP A e H op K T)
  | .st n a v => (match e a with
    | .mp id g o => (match isSy sy id with
      | true => (match (e v).cells with
        | some xs => symP A H id g (fun cs => ∃ cs', A.upd n cs o xs cs' ∧ K (.lit undef) (H.set id (.own g cs'))) T
        | none => T ())
      | false => detP A e H op K T)
    | _ => detP A e H op K T)
  | .app sz by_ s x => (match e s with
    | .ms sz' id g off len => (match isSy sy id with
      | true => (match e x with
        | .vs sx es => symP A H id g (fun cs => ∃ cs' n, A.app sz sz' by_ cs off len es cs' n ∧ sz = sx ∧ K (.ms sz id (g + 1) 0 n) (H.set id (.own (g + 1) cs'))) T
        | .lit (.string b) => symP A H id g (fun cs => ∃ cs' n, A.apps sz sz' by_ cs off len b cs' n ∧ K (.ms sz id (g + 1) 0 n) (H.set id (.own (g + 1) cs'))) T
        | _ => T ())
      | false => detP A e H op K T)
    | .es => (match isSy sy H.length with
      | true => (match e x with
        | .vs sx es => ∃ cs' n, A.app sz sz by_ [] 0 0 es cs' n ∧ sz = sx ∧ K (.ms sz H.length 0 0 n) (H ++ [.own 0 cs'])
        | .lit (.string b) => ∃ cs' n, A.apps sz sz by_ [] 0 0 b cs' n ∧ K (.ms sz H.length 0 0 n) (H ++ [.own 0 cs'])
        | _ => T ())
      | false => detP A e H op K T)
    | .lit (.slice none 0 0) => (match isSy sy H.length with
      | true => (match e x with
        | .vs sx es => ∃ cs' n, A.app sz sz by_ [] 0 0 es cs' n ∧ sz = sx ∧ K (.ms sz H.length 0 0 n) (H ++ [.own 0 cs'])
        | .lit (.string b) => ∃ cs' n, A.apps sz sz by_ [] 0 0 b cs' n ∧ K (.ms sz H.length 0 0 n) (H ++ [.own 0 cs'])
        | _ => T ())
      | false => detP A e H op K T)
    | _ => T ())
  | .mksl sz by_ z l c => (match e l, e c with
    | .lit (.int .i64 ln), .lit (.int .i64 cp) => (match isSy sy H.length with
      | true => ∃ cs n, A.mkz sz by_ z ln cp cs n ∧ K (.ms sz H.length 0 0 n) (H ++ [.own 0 cs])
      | false => detP A e H op K T)
    | _, _ => T ())
  | .sl sz x lo hi mx => (match mx with
    | some _ => T ()
    | none => (match bdG (lo.map e), bdG (hi.map e) with
      | some l, some h => (match e x with
        | .vs sz' es => ∃ r, A.slv sz sz' es l h r ∧ K (.vs sz r) H
        | .ms sz' id g off len => (match isSy sy id with
          | true => symP A H id g (fun _ => ∃ o n, A.slm sz sz' off len l h o n ∧ K (.ms sz id g o n) H) T
          | false => detP A e H op K T)
        | _ => detP A e H op K T)
      | _, _ => T ()))
  | .ssl x lo hi => (match bdG (lo.map e), bdG (hi.map e), e x with
    | some l, some h, .lit (.string s) => ∃ r, A.sls s l h r ∧ K (.lit (.string r)) H
    | _, _, _ => T ())
  | .sx x i => (match e x, e i with
    | .lit (.string s), .lit (.int _ n) => ∃ b, A.sx s n b ∧ K (.lit (.int .u8 b)) H
    | _, _ => T ())
  | .ix len sz n x i => (match e x, e i with
    | .agg cs, .lit (.int _ m) => ∃ v, A.aix len sz n cs m v ∧ K v H
    | _, _ => T ())
  | .cpy _ _ _ => T ()
  | .eqn _ _ => T ()
  | .call _ _ => T ()
  | op => detP A e H op K T

theorem live_own {id g : Nat} {cs : List AV} (h : H[id]? = some (.own g cs)) : live H id g = true := by simp [live, h]

theorem detP_sound {o : Od → AV} {op : AOp} {K : AV → AHeap → Prop} {T : Prop} (h : detP std o H op K (fun _ => T)) : T ∨ ∃ r H', opRun o H op = some (r, H') ∧ K r H' := by
  unfold detP at h
  split at h
  · rename_i r H' hr; exact .inr ⟨r, H', opRunG_sound hr, h⟩
  · exact .inl h

theorem symP_sound {id g : Nat} {p : List AV → Prop} {T : Prop} (h : symP std H id g p (fun _ => T)) : T ∨ ∃ cs, H[id]? = some (.own g cs) ∧ p cs := by
  unfold symP at h
  split at h
  · rename_i g' cs hX
    obtain ⟨h1, h2⟩ := h
    have h1 : g = g' := h1
    subst h1
    exact .inr ⟨cs, hX, h2⟩
  · exact .inl h

theorem bdG_spec {d : Nat} {x : Option AV} {n : Option Int} (h : bdG x = some n) : bdA d x = bdI d n := by
  unfold bdG at h
  split at h <;> simp only [Option.some.injEq, reduceCtorEq] at h <;> subst h <;> rfl

theorem runV {o : Od → AV} {op : AOp} {r : AV} (h : opVal o H op = some r) : opRun o H op = some (r, H) := by simp [opRun, h]
theorem runA' {o : Od → AV} {op : AOp} {r : AV} (hn : opVal o H op = none) (h : opAct o H op = some (r, H')) : opRun o H op = some (r, H') := by simp [opRun, h, hn]

theorem cellsOfSl_vs {sz : Nat} {es : List AV} : cellsOfSl H sz (.vs sz es) = cellsOfSl [] sz (.vs sz es) := rfl

theorem opPT_sound {sy : List Nat} {o : Od → AV} {op : AOp} {K : AV → AHeap → Prop} {T : Prop} (h : opPT std sy o H op K (fun _ => T)) : T ∨ ∃ r H', opRun o H op = some (r, H') ∧ K r H' := by
  cases op
  case bin op x y =>
    simp only [opPT] at h
    rcases binP_sound h with h | ⟨r, h1, h2⟩
    · exact .inl h
    · exact .inr ⟨r, H, runV h1, h2⟩
  case ia sz x i =>
    simp only [opPT] at h
    split at h
    · rename_i sz' es q n hx hi
      obtain ⟨c, ⟨rfl, h1, y, h2, h3⟩, h4⟩ := h
      exact .inr ⟨_, H, runV (by simp only [opVal, hx, hi, iaA]; rw [if_pos ⟨trivial, h1⟩, h2]; simp only [h3]), h4⟩
    · rename_i sz' id g off len q n hx hi
      split at h
      · rcases symP_sound h with h | ⟨cs, hX, y, ⟨rfl, h1, h2, rfl⟩, h3⟩
        · exact .inl h
        · exact .inr ⟨_, H, runV (by simp only [opVal, hx, hi, iaA]; rw [if_pos ⟨trivial, h1, h2, live_own hX⟩]), h3⟩
      · exact detP_sound h
    · exact .inl h
  case iaa len sz x i =>
    simp only [opPT] at h
    split at h
    · rename_i id g off q n hx hi
      split at h
      · rcases symP_sound h with h | ⟨cs, hX, y, ⟨_, h1, h2, rfl⟩, h3⟩
        · exact .inl h
        · exact .inr ⟨_, H, runV (by simp only [opVal, hx, hi, iaaA]; rw [if_pos ⟨h1, h2, live_own hX⟩]), h3⟩
      · exact detP_sound h
    · exact .inl h
  case fa x off =>
    simp only [opPT] at h
    split at h
    · rename_i id g p hx
      split at h
      · rcases symP_sound h with h | ⟨cs, hX, y, h1, h3⟩
        · exact .inl h
        · have h1 : y = p + off := h1
          subst h1
          exact .inr ⟨_, H, runV (by simp only [opVal, hx, faA]; rw [if_pos (live_own hX)]), h3⟩
      · exact detP_sound h
    · exact detP_sound h
  case nilc x =>
    simp only [opPT] at h
    split at h
    · rename_i id g p hx
      split at h
      · rcases symP_sound h with h | ⟨cs, hX, h3⟩
        · exact .inl h
        · exact .inr ⟨_, H, runV (by simp only [opVal, hx, nilcA]; rw [if_pos (live_own hX)]), h3⟩
      · exact detP_sound h
    · exact detP_sound h
  case len x =>
    simp only [opPT] at h
    split at h
    · rename_i sz id g off len hx
      split at h
      · rcases symP_sound h with h | ⟨cs, hX, h3⟩
        · exact .inl h
        · exact .inr ⟨_, H, runV (by simp only [opVal, hx, lenA]; rw [if_pos (live_own hX)]; rfl), h3⟩
      · exact detP_sound h
    · exact detP_sound h
  case ld n a =>
    simp only [opPT] at h
    split at h
    · rename_i id g p hx
      split at h
      · rcases symP_sound h with h | ⟨cs, hX, v, h1, h3⟩
        · exact .inl h
        · exact .inr ⟨_, H, runV (by simp only [opVal, hx, ldA, hX]; rw [if_pos trivial]; exact h1), h3⟩
      · exact detP_sound h
    · exact detP_sound h
  case st n a v =>
    simp only [opPT] at h
    split at h
    · rename_i id g p hx
      split at h
      · split at h
        · rename_i xs hxs
          rcases symP_sound h with h | ⟨cs, hX, cs', ⟨h1, h2, rfl⟩, h3⟩
          · exact .inl h
          · exact .inr ⟨_, _, runA' rfl (by simp only [opAct, hx, hxs, hX]; rw [if_pos ⟨trivial, h1, h2⟩]), h3⟩
        · exact .inl h
      · exact detP_sound h
    · exact detP_sound h
  case app sz by_ s x =>
    simp only [opPT] at h
    split at h
    · rename_i sz' id g off len hs
      split at h
      · split at h
        · rename_i sx es hx
          rcases symP_sound h with h | ⟨cs, hX, cs', n, ⟨rfl, h1, h2, rfl, xs, h4, rfl⟩, rfl, h3⟩
          · exact .inl h
          · refine .inr ⟨_, _, runA' rfl ?_, h3⟩
            simp only [opAct, hx, hs, lenOfSl, cellsOfSl_vs, h4, hX]
            rw [if_pos ⟨trivial, trivial, h1, h2⟩]
        · rename_i b hx
          rcases symP_sound h with h | ⟨cs, hX, cs', n, ⟨rfl, rfl, h1, h2, rfl, rfl⟩, h3⟩
          · exact .inl h
          · refine .inr ⟨_, _, runA' rfl ?_, h3⟩
            simp only [opAct, hx, hs, lenOfSl, cellsOfSl, if_true, hX]
            rw [if_pos ⟨trivial, trivial, h1, h2⟩]
        · exact .inl h
      · exact detP_sound h
    · rename_i hs
      split at h
      · split at h
        · rename_i sx es hx
          obtain ⟨cs', n, ⟨_, _, h2, rfl, xs, h4, rfl⟩, rfl, h3⟩ := h
          refine .inr ⟨_, _, runA' rfl ?_, by simpa using h3⟩
          simp only [opAct, hx, hs, lenOfSl, cellsOfSl_vs, h4]
          rw [if_pos (by simpa using h2)]
        · rename_i b hx
          obtain ⟨cs', n, ⟨rfl, _, _, h2, rfl, rfl⟩, h3⟩ := h
          refine .inr ⟨_, _, runA' rfl ?_, by simpa using h3⟩
          simp only [opAct, hx, hs, lenOfSl, cellsOfSl, if_true]
          rw [if_pos (by simpa using h2)]
        · exact .inl h
      · exact detP_sound h
    · rename_i hs
      split at h
      · split at h
        · rename_i sx es hx
          obtain ⟨cs', n, ⟨_, _, h2, rfl, xs, h4, rfl⟩, rfl, h3⟩ := h
          refine .inr ⟨_, _, runA' rfl ?_, by simpa using h3⟩
          simp only [opAct, hx, hs, lenOfSl, cellsOfSl_vs, h4]
          rw [if_pos (by simpa using h2)]
        · rename_i b hx
          obtain ⟨cs', n, ⟨rfl, _, _, h2, rfl, rfl⟩, h3⟩ := h
          refine .inr ⟨_, _, runA' rfl ?_, by simpa using h3⟩
          simp only [opAct, hx, hs, lenOfSl, cellsOfSl, if_true]
          rw [if_pos (by simpa using h2)]
        · exact .inl h
      · exact detP_sound h
    · exact .inl h
  case mksl sz by_ z l c =>
    simp only [opPT] at h
    split at h
    · rename_i ln cp hl hc
      split at h
      · obtain ⟨cs, n, ⟨h1, h2, h3, h4, h5, rfl, rfl⟩, h6⟩ := h
        refine .inr ⟨_, _, runA' rfl ?_, h6⟩
        simp only [opAct, hl, hc]
        rw [if_pos ⟨h1, h2, h3, h4, h5⟩]
      · exact detP_sound h
    · exact .inl h
  case sl sz x lo hi mx =>
    simp only [opPT] at h
    cases mx with
    | some m => exact .inl h
    | none =>
      simp only at h
      split at h
      · rename_i l h' hl hh
        split at h
        · rename_i sz' es hx
          obtain ⟨r, ⟨rfl, a, b, h1, h2, h3, h4, rfl⟩, h5⟩ := h
          refine .inr ⟨_, H, runV ?_, h5⟩
          simp only [opVal, hx, slA, bdG_spec hl, bdG_spec hh, h1, h2, Option.map_none]
          rw [if_pos ⟨trivial, h3, h4⟩]
        · rename_i sz' id g off len hx
          split at h
          · rcases symP_sound h with h | ⟨cs, hX, p, n, ⟨rfl, a, b, h1, h2, h3, h4, rfl, rfl⟩, h5⟩
            · exact .inl h
            · refine .inr ⟨_, H, runV ?_, h5⟩
              simp only [opVal, hx, slA, bdG_spec hl, bdG_spec hh, h1, h2, Option.map_none]
              rw [if_pos ⟨trivial, h3, h4, live_own hX⟩]
          · exact detP_sound h
        · exact detP_sound h
      · exact .inl h
  case ssl x lo hi =>
    simp only [opPT] at h
    split at h
    · rename_i l h' s hl hh hx
      obtain ⟨r, ⟨a, b, h1, h2, h3, h4, rfl⟩, h5⟩ := h
      refine .inr ⟨_, H, runV ?_, h5⟩
      simp only [opVal, hx, sslA, bdG_spec hl, bdG_spec hh, h1, h2]
      rw [if_pos ⟨h3, h4⟩]
    · exact .inl h
  case sx x i =>
    simp only [opPT] at h
    split at h
    · rename_i s q n hx hi
      obtain ⟨b, ⟨h1, y, h2, rfl⟩, h3⟩ := h
      exact .inr ⟨_, H, runV (by simp only [opVal, hx, hi]; rw [if_pos h1, h2]), h3⟩
    · exact .inl h
  case ix len sz n x i =>
    simp only [opPT] at h
    split at h
    · rename_i cs q m hx hi
      obtain ⟨v, ⟨h1, h2, h3⟩, h4⟩ := h
      exact .inr ⟨_, H, runV (by simp only [opVal, hx, hi]; rw [if_pos ⟨h1, h2⟩]; exact h3), h4⟩
    · exact .inl h
  case cpy => exact .inl h
  case eqn => exact .inl h
  case call => exact .inl h
  all_goals exact detP_sound h

/-! ### Calls that pass by themselves -/
/-- functions that leave all objects as they are -/
abbrev PTab := List (Nat × (List AV → Option ((AV → Prop) → Prop)))
/-- functions that write -/
abbrev ETab := List (Nat × (List AV → AHeap → Option PT))
def pLook : PTab → Nat → List AV → Option ((AV → Prop) → Prop)
  | [], _, _ => none
  | (g, p) :: r, f, args => match Nat.beq g f with | true => p args | false => pLook r f args
def eLook : ETab → Nat → List AV → AHeap → Option PT
  | [], _, _, _ => none
  | (g, p) :: r, f, args, H => match Nat.beq g f with | true => p args H | false => eLook r f args H

def PTabOk (P : Program) (ca : PTab) : Prop := ∀ f args pt, pLook ca f args = some pt → ∀ (H : AHeap) (Kk : AV → AHeap → Prop), pt (fun r => Kk r H) → ACalls P f args H Kk
def ETabOk (P : Program) (cb : ETab) : Prop := ∀ f args H pt, eLook cb f args H = some pt → ∀ (Kk : AV → AHeap → Prop), pt Kk → ACalls P f args H Kk

theorem PTabOk.nil {P : Program} : PTabOk P [] := fun f args r h => by simp [pLook] at h
theorem ETabOk.nil {P : Program} : ETabOk P [] := fun f args H r h => by simp [eLook] at h
theorem PTabOk.cons {P : Program} {ca : PTab} {f : Nat} {p : List AV → Option ((AV → Prop) → Prop)} (hf : ∀ args pt, p args = some pt → ∀ (H : AHeap) (Kk : AV → AHeap → Prop), pt (fun r => Kk r H) → ACalls P f args H Kk) (h : PTabOk P ca) : PTabOk P ((f, p) :: ca) := by
  intro g args r hr
  simp only [pLook] at hr
  split at hr
  · rename_i hg; have := Nat.eq_of_beq_eq_true hg; subst this; exact hf args r hr
  · exact h g args r hr
theorem ETabOk.cons {P : Program} {cb : ETab} {f : Nat} {p : List AV → AHeap → Option PT} (hf : ∀ args H pt, p args H = some pt → ∀ (Kk : AV → AHeap → Prop), pt Kk → ACalls P f args H Kk) (h : ETabOk P cb) : ETabOk P ((f, p) :: cb) := by
  intro g args H r hr
  simp only [eLook] at hr
  split at hr
  · rename_i hg; have := Nat.eq_of_beq_eq_true hg; subst this; exact hf args H r hr
  · exact h g args H r hr

def callF (e : Env) : AOp → Option (Nat × List AV)
  | .call f xs => match ev e f with
    | .fn fid caps => some (fid, xs.map (ev e) ++ caps)
    | _ => none
  | _ => none

/-- a copy that nobody writes: sizes, elements -/
def frzA (sy : List Nat) (e : Od → AV) (H : AHeap) : AOp → Option (Nat × Nat × Nat × List AV)
  | .app sz by_ s x => match isSy sy H.length with
    | true => none
    | false => match e s, e x with
      | .es, .vs sz' xs => some (sz, sz', by_, xs)
      | .lit (.slice none 0 0), .vs sz' xs => some (sz, sz', by_, xs)
      | _, _ => none
  | _ => none

theorem cells_ex {sz : Nat} : ∀ {xs : List AV}, elemsLen sz xs = true → ∃ cs, cellsOfSl H sz (.vs sz xs) = some cs ∧ cs.length = xs.length * sz
  | [], _ => ⟨[], by simp [cellsOfSl]⟩
  | x :: xs, h => by
    simp only [elemsLen, List.all_cons, Bool.and_eq_true] at h
    obtain ⟨cs, h1, h2⟩ := cells_ex (xs := xs) (by simpa [elemsLen] using h.2)
    simp only [cellsOfSl, if_true] at h1
    split at h
    · rename_i c hc
      simp only [beq_iff_eq] at h
      refine ⟨c ++ cs, by simp only [cellsOfSl, if_true, List.foldr_cons, hc]; rw [h1], ?_⟩
      simp [h.1, h2, Nat.add_mul]; omega
    · simp at h

theorem AGo_frzapp {d : Option (Bool × Nat)} {op : AOp} {g : Option (Od × Bool)} {rest : List AOper} {sy : List Nat} {sz sz' by_ : Nat} {xs : List AV} (hg : gOk e g = some true) (hop : frzA sy (ev e) H op = some (sz, sz', by_, xs)) (hb : fzS sz sz' by_ xs)
    (h : AGo cx m (.ops rest :: k) R (put e d (.vs sz xs)) (H ++ [.gone])) : AGo cx m (.ops (⟨d, op, g⟩ :: rest) :: k) R e H := by
  obtain ⟨rfl, hb1, hb2⟩ := hb
  simp only [elemsOk, Bool.and_eq_true] at hb2
  obtain ⟨cs, hcs, hcl⟩ := cells_ex (H := H) hb2.2
  have hact : opAct (ev e) H op = some (.ms sz H.length 0 0 xs.length, H ++ [.own 0 cs]) := by
    unfold frzA at hop
    split at hop
    · split at hop
      · cases hop
      · split at hop
        · rename_i hs hx
          cases hop
          simp only [opAct, hs, hx, lenOfSl, hcs]
          rw [if_pos hb1]
        · rename_i hs hx
          cases hop
          simp only [opAct, hs, hx, lenOfSl, hcs]
          rw [if_pos hb1]
        · cases hop
    · cases hop
  refine AGo_op hg fun ops o' st0 w0 kc l hm hk hl hp hd st a w hrel K' Q hK => ?_
  obtain ⟨mu, hp⟩ := hp
  obtain ⟨v, w', st', hrun, hext, hH', hr⟩ := opAct_sound hp hrel.ops hrel.hH hact
  obtain ⟨st2, g1, g2, g3⟩ := freeze_st (id := H.length) (g := 0) (cs := cs) hH' (by simp)
  have hset : (H ++ [AObj.own 0 cs]).set H.length .gone = H ++ [.gone] := by simp
  rw [hset] at g2
  have hv := g3 sz 0 xs.length xs v (by rw [show cellsOfSl [] sz (.vs sz xs) = cellsOfSl H sz (.vs sz xs) from rfl, hcs, List.drop_zero, List.take_of_length_le (by omega)]) (by omega) rfl (by simp only [elemsOk, Bool.and_eq_true]; exact hb2) hr
  exact upon_step hrel hd ⟨v, w', st2, hrun, hext.trans g1, g2, hv⟩ fun st' w' a' hr' => hK _ _ _ _ _ hr' h

structure Tb where
  sy : List Nat
  us : List Nat
  ca : PTab
  cb : ETab

def SOp0 (A : Ar) (tb : Tb) (T c : List AItm → Env → AHeap → Prop) (d : Option (Bool × Nat)) (op : AOp) (g : Option (Od × Bool)) (rest : List AOper) (k : List AItm) (e : Env) (H : AHeap) (go : Bool) : Prop :=
  match go with
  | false => c (.ops rest :: k) (put e d (.lit undef)) H
  | true => match callF e op with
    | some (f, args) => (match pLook tb.ca f args with
      | some pt => pt (fun r => c (.ops rest :: k) (put e d r) H)
      | none => match eLook tb.cb f args H with
        | some pt => pt (fun r H' => c (.ops rest :: k) (put e d r) H')
        | none => T (.ops (⟨d, op, g⟩ :: rest) :: k) e H)
    | none => match frzA tb.sy (ev e) H op with
      | some (sz, sz', by_, xs) => A.fz sz sz' by_ xs ∧ c (.ops rest :: k) (put e d (.vs sz xs)) (H ++ [.gone])
      | none => opPT A tb.sy (ev e) H op (fun r H' => c (.ops rest :: k) (put e d r) H') (fun _ => T (.ops (⟨d, op, g⟩ :: rest) :: k) e H)

/-- a run stops before an operation that yields a temporary t where 1000000 + t is listed, or that writes through it -/
def stopB (us : List Nat) (d : Option (Bool × Nat)) (op : AOp) : Bool := match us with
  | [] => false
  | us => match d with
    | some (_, t) => us.contains (1000000 + t)
    | none => match op with
      | .st _ a _ => (match odSlot a with
        | some t => us.contains (1000000 + t)
        | none => false)
      | _ => false
def SOp (A : Ar) (tb : Tb) (T c : List AItm → Env → AHeap → Prop) (d : Option (Bool × Nat)) (op : AOp) (g : Option (Od × Bool)) (rest : List AOper) (k : List AItm) (e : Env) (H : AHeap) (go : Bool) : Prop :=
  match stopB tb.us d op with
  | true => T (.ops (⟨d, op, g⟩ :: rest) :: k) e H
  | false => SOp0 A tb T c d op g rest k e H go

def isNewB : AOp → Bool
  | .new _ => true
  | _ => false
/-- there are slices that are made whose places are to be kept: a run stops here (see AGo_drwN) -/
def hasNwl : List DItm → Bool
  | [] => false
  | it :: l => match isNwl it.o.op with | true => true | false => hasNwl l
/-- a slice that is made in a place that was kept -/
def nwlP (A : Ar) (D : DM) (i : Nat) (e : Od → AV) (op : AOp) (p : AV → Prop) (q : Prop) : Prop := match op with
  | .newl sz by_ z l c => (match e l, e c with
    | .lit (.int .i64 ln), .lit (.int .i64 cp) => (match posOf D.news D.base i with
      | some id => A.mkz sz by_ z ln cp D.cs D.nn ∧ p (.ms sz id 0 0 D.nn)
      | none => q)
    | _, _ => q)
  | _ => q

/-- what stays must stay -/
def keepG (A : Ar) (D : Option DM) (it : DItm) (H H' : AHeap) (p : Prop) : Prop := match it.tail with
  | true => p
  | false => match D with
    | none => p
    | some _ => A.keep D it H H' ∧ p

/-- one operation of a region that draws its order -/
def SDg0 (A : Ar) (tb : Tb) (T c : Option DM → List DItm → Env → AHeap → Prop) (D : Option DM) (it : DItm) (l : List DItm) (e : Env) (H : AHeap) (go : Bool) : Prop :=
  match movB it.o.op with
  | true => (match D with
    | none => T D (it :: l) e H
    | some D' => match go with
      | false => c (some D') l (put e it.o.dst (.lit undef)) H
      | true => match isNewB it.o.op with
        | true => (match posOf D'.news D'.base it.i with
          | some id => c (some D') l (put e it.o.dst (.mp id 0 0)) H
          | none => T D (it :: l) e H)
        | false => match isNwl it.o.op with
          | true => nwlP A D' it.i (ev e) it.o.op (fun r => c (some D') l (put e it.o.dst r) H) (T D (it :: l) e H)
          | false => opPT A tb.sy (ev e) (match it.tail with | true => D'.M1 | false => D'.M) it.o.op (fun r _ => c (some D') l (put e it.o.dst r) H) (fun _ => T D (it :: l) e H))
  | false => match go with
    | false => c (nx D it) l (put e it.o.dst (.lit undef)) H
    | true => match callF e it.o.op with
      | some (f, args) => (match pLook tb.ca f args with
        | some pt => pt (fun r => c (nx D it) l (put e it.o.dst r) H)
        | none => match eLook tb.cb f args H with
          | some pt => pt (fun r H' => keepG A D it H H' (c (nx D it) l (put e it.o.dst r) H'))
          | none => T D (it :: l) e H)
      | none => opPT A tb.sy (ev e) H it.o.op (fun r H' => keepG A D it H H' (c (nx D it) l (put e it.o.dst r) H')) (fun _ => T D (it :: l) e H)
def SDg (A : Ar) (tb : Tb) (T c : Option DM → List DItm → Env → AHeap → Prop) (D : Option DM) (it : DItm) (l : List DItm) (e : Env) (H : AHeap) (go : Bool) : Prop :=
  match stopB tb.us it.o.dst it.o.op with
  | true => T D (it :: l) e H
  | false => SDg0 A tb T c D it l e H go

def SD (A : Ar) (tb : Tb) (T : Option DM → List DItm → Env → AHeap → Prop) (fin : Env → AHeap → Prop) : Nat → Option DM → List DItm → Env → AHeap → Prop
  | 0, D, L, e, H => T D L e H
  | n + 1, D, L, e, H => match L with
    | [] => fin ⟨[], e.g⟩ H
    | it :: l => match it.o.grd with
      | some (x, want) => (match ev e x with
        | .lit (.bool b) => caseB b (fun _ => SDg A tb T (SD A tb T fin n) D it l (learn e x true) H want) (fun _ => SDg A tb T (SD A tb T fin n) D it l (learn e x false) H (!want))
        | .lit (.tuple _) => SDg A tb T (SD A tb T fin n) D it l e H false
        | _ => T D (it :: l) e H)
      | none => SDg A tb T (SD A tb T fin n) D it l e H true

/-- The rest of a body, run until there is a loop, or something that is not known; T: what is to be shown there. -/
def SGo (A : Ar) (tb : Tb) (ro : Option Nat) (T : List AItm → Env → AHeap → Prop) (TD : List AItm → Option DM → List DItm → Env → AHeap → Prop) (R : Env → AHeap → Prop) : Nat → List AItm → Env → AHeap → Prop
  | 0, k, e, H => T k e H
  | n + 1, k, e, H => match k with
    | [] => R e H
    | .code (.cond z x y) :: k => (match ev e z with
      | .lit (.bool b) => caseB b (fun _ => SGo A tb ro T TD R n (.code x :: k) (learn e z true) H) (fun _ => SGo A tb ro T TD R n (.code y :: k) (learn e z false) H)
      | _ => T (.code (.cond z x y) :: k) e H)
    | .code .ret :: _ => RetOk ro (R e H)
    | .code (.draw L) :: k => (match hasNwl L with
      | true => T (.code (.draw L) :: k) e H
      | false => SD A tb (TD k) (fun e H => SGo A tb ro T TD R n k e H) 200 (some ⟨mask (lateU tb.us) H, H.length, (newsOf L).map (·.1), mask tb.us H, [], 0, []⟩) L e (H ++ kept L))
    | .ops (⟨d, op, g⟩ :: rest) :: k => (match g with
      | some (x, want) => (match ev e x with
        | .lit (.bool b) => caseB b (fun _ => SOp A tb T (SGo A tb ro T TD R n) d op g rest k (learn e x true) H want) (fun _ => SOp A tb T (SGo A tb ro T TD R n) d op g rest k (learn e x false) H (!want))
        | .lit (.tuple _) => SOp A tb T (SGo A tb ro T TD R n) d op g rest k e H false
        | _ => T (.ops (⟨d, op, g⟩ :: rest) :: k) e H)
      | none => SOp A tb T (SGo A tb ro T TD R n) d op g rest k e H true)
    | .bk I :: _ => I e H
    | k => match stepA k e H with
      | some (k', e', H') => SGo A tb ro T TD R n k' e' H'
      | none => T k e H

theorem caseB_elim {b : Bool} {p q : Unit → Prop} {X : Prop} (h : caseB b p q) (hp : b = true → p () → X) (hq : b = false → q () → X) : X := by
  cases b
  · exact hq rfl h
  · exact hp rfl h

theorem gOk_learn {e : Env} {x : Od} {b want : Bool} (h : ev e x = .lit (.bool b)) : gOk (learn e x b) (some (x, want)) = some (b == want) := by
  simp only [gOk, (learn_eqE h).ev, h]

section
variable {tb : Tb}

theorem callF_spec {op : AOp} {f : Nat} {args : List AV} (h : callF e op = some (f, args)) : ∃ g xs caps, op = .call g xs ∧ ev e g = .fn f caps ∧ args = xs.map (ev e) ++ caps := by
  cases op <;> simp only [callF, reduceCtorEq] at h
  rename_i g xs
  split at h
  · rename_i fid caps hf
    simp only [Option.some.injEq, Prod.mk.injEq] at h
    obtain ⟨rfl, rfl⟩ := h
    exact ⟨g, xs, caps, rfl, hf, rfl⟩
  · cases h

theorem movB_run {o : Od → AV} {op : AOp} {r : AV} (hm : movB op = true) (hn : isNewB op = false) (h : opRun o H op = some (r, H')) : opVal o H op = some r := by
  unfold opRun at h
  split at h
  · rename_i r' hr; simp only [Option.some.injEq, Prod.mk.injEq] at h; rw [hr, h.1]
  · exfalso
    cases op with
    | mks mu sz xs => cases mu with
      | false => cases h
      | true => cases hm
    | box | st | mksl | app | cpy | call => cases hm
    | new => cases hn
    | _ => cases h

theorem actB_run {o : Od → AV} {op : AOp} {r : AV} (hm : movB op = false) (h : opRun o H op = some (r, H')) : opAct o H op = some (r, H') := by
  unfold opRun at h
  split at h
  · rename_i r' hr
    exfalso
    cases op with
    | mks mu sz xs => cases mu with
      | false => cases hm
      | true => cases hr
    | box | st | mksl | app | cpy | call => cases hr
    | _ => cases hm
  · exact h

theorem ResK.refl : ∀ {l : List Nat} {b : Nat} {ws : List Nat} {H : AHeap}, ResK l b ws H H
  | [], _, _, _ => trivial
  | _ :: _, _, _, _ => ⟨.inr rfl, ResK.refl⟩

/-- what stays is there -/
def Stays (D : Option DM) (H : AHeap) : Prop := ∀ D', D = some D' → SubH D'.M H ∧ KcOk D'.kc H

theorem Stays.nx (h : Stays D H) : Stays (nx D it) H := by
  intro D' hD
  unfold Go.Sas.nx at hD
  split at hD
  · cases hD
  · exact h D' hD

theorem Stays.keep (h : Stays D H) : Keep D it H H := by
  cases D with
  | none => trivial
  | some D => exact .inr (.mk (h D rfl).2 ⟨(h D rfl).1, ResK.refl, .inr fun h => h⟩)

theorem Keep.stays (h : Keep D it H H') : Stays (Go.Sas.nx D it) H' := by
  intro D' hD
  unfold Go.Sas.nx at hD
  cases ht : it.tail
  · rw [ht] at hD
    simp only [Bool.false_eq_true, if_false] at hD
    subst hD
    simp only [Keep, ht, Bool.false_eq_true, false_or] at h
    exact ⟨h.ok.2.1, h.ok.1⟩
  · rw [ht] at hD; simp at hD

theorem DGo_mov' {D' : DM} {r : AV} (hm : movB it.o.op = true) (hg : gOk e it.o.grd = some true) (hn : isNewB it.o.op = false) (hr : opVal (ev e) (match it.tail with | true => D'.M1 | false => D'.M) it.o.op = some r) (h : DGo cx m k R (some D') L (put e it.o.dst r) H) : DGo cx m k R (some D') (it :: L) e H := by
  simp only [DGo, JStep, hm]
  refine ⟨r, MVal_rel ?_, h⟩
  unfold MVal
  simp only [hg]
  split
  · rename_i z hz; rw [hz] at hn; cases hn
  · exact hr

theorem keepG_sound {p : Prop} (h : keepG std D it H H' p) : Keep D it H H' ∧ p := by
  unfold keepG at h
  split at h
  · rename_i ht
    refine ⟨?_, h⟩
    cases D with
    | none => trivial
    | some D => exact .inl ht
  · split at h
    · exact ⟨trivial, h⟩
    · exact h

theorem SDg0_sound {c : Option DM → List DItm → Env → AHeap → Prop} {go : Bool} (hca : PTabOk cx.P tb.ca) (hcb : ETabOk cx.P tb.cb) (hst : Stays D H) (hg : gOk e it.o.grd = some go) (hc : ∀ D L e H, Stays D H → c D L e H → DGo cx m k R D L e H)
    (h : SDg0 std tb (DGo cx m k R) c D it L e H go) : DGo cx m k R D (it :: L) e H := by
  unfold SDg0 at h
  split at h
  · rename_i hm
    split at h
    · exact h
    · rename_i D'
      split at h
      · simp only [DGo, JStep, hm]
        exact ⟨.lit undef, MVal_rel (by unfold MVal; simp only [hg]), hc _ _ _ _ hst h⟩
      · split at h
        · rename_i hn
          split at h
          · rename_i id hid
            simp only [DGo, JStep, hm]
            refine ⟨.mp id 0 0, MVal_rel ?_, hc _ _ _ _ hst h⟩
            unfold MVal
            simp only [hg]
            split
            · rw [hid]; rfl
            · rename_i hno
              unfold isNewB at hn
              split at hn
              · rename_i z hz; exact absurd hz (hno z)
              · cases hn
          · exact h
        · rename_i hn
          split at h
          · rename_i hnw
            unfold nwlP at h
            split at h
            · rename_i sz by_ z l1 c1 hop
              split at h
              · rename_i ln cp hl1 hc1
                split at h
                · rename_i id hid
                  simp only [DGo, JStep, hm]
                  refine ⟨_, ?_, hc _ _ _ _ hst h.2⟩
                  unfold MRel
                  simp only [hnw, hg]
                  exact ⟨sz, by_, z, l1, c1, ln, cp, id, hop, hl1, hc1, h.1, hid, rfl⟩
                · exact h
              · exact h
            · exact h
          · rcases opPT_sound h with h | ⟨r, H', h1, h2⟩
            · exact h
            · exact DGo_mov' hm hg hn (movB_run hm hn h1) (hc _ _ _ _ hst h2)
  · rename_i hm
    split at h
    · simp only [DGo, JStep, hm, hg]
      exact hc _ _ _ _ hst.nx h
    · split at h
      · rename_i f args hcf
        obtain ⟨g, xs, caps, hop, hf, rfl⟩ := callF_spec hcf
        obtain ⟨⟨d, op, gd⟩, i, tl, ws⟩ := it
        simp only at hop hg; subst hop
        split at h
        · rename_i pt hpt
          have hq : (fun r => c (nx D ⟨⟨d, .call g xs, gd⟩, i, tl, ws⟩) L (put e d r) H) = fun r => (H = H ∧ c (nx D ⟨⟨d, .call g xs, gd⟩, i, tl, ws⟩) L (put e d r) H) := by funext r; simp
          have h : pt (fun r => c (nx D ⟨⟨d, .call g xs, gd⟩, i, tl, ws⟩) L (put e d r) H) := h
          rw [hq] at h
          refine DGo_call hg hf ((hca _ _ _ hpt H (fun r H' => H' = H ∧ c (nx D ⟨⟨d, .call g xs, gd⟩, i, tl, ws⟩) L (put e d r) H) h).mono fun r H' hr => ?_)
          obtain ⟨rfl, hr⟩ := hr
          exact ⟨hst.keep, hc _ _ _ _ hst.nx hr⟩
        · split at h
          · rename_i pt hpt
            exact DGo_call hg hf ((hcb _ _ _ _ hpt _ h).mono fun r H' hr => ⟨(keepG_sound hr).1, hc _ _ _ _ (Keep.stays (keepG_sound hr).1) (keepG_sound hr).2⟩)
          · exact h
      · rcases opPT_sound h with h | ⟨r, H', h1, h2⟩
        · exact h
        · have h3 := actB_run hm h1
          exact DGo_act hm hg h3 (keepG_sound h2).1 (hc _ _ _ _ (Keep.stays (keepG_sound h2).1) (keepG_sound h2).2)
theorem SDg_sound {c : Option DM → List DItm → Env → AHeap → Prop} {go : Bool} (hca : PTabOk cx.P tb.ca) (hcb : ETabOk cx.P tb.cb) (hst : Stays D H) (hg : gOk e it.o.grd = some go) (hc : ∀ D L e H, Stays D H → c D L e H → DGo cx m k R D L e H)
    (h : SDg std tb (DGo cx m k R) c D it L e H go) : DGo cx m k R D (it :: L) e H := by
  unfold SDg at h
  split at h
  · exact h
  · exact SDg0_sound hca hcb hst hg hc h

theorem SD_sound (hca : PTabOk cx.P tb.ca) (hcb : ETabOk cx.P tb.cb) {fin : Env → AHeap → Prop} (hf : ∀ (e : Env) (H : AHeap), fin ⟨[], e.g⟩ H → AGo cx m k R ⟨[], e.g⟩ H) : ∀ {n : Nat} {D : Option DM} {L : List DItm} {e : Env} {H : AHeap}, Stays D H → SD std tb (DGo cx m k R) fin n D L e H → DGo cx m k R D L e H
  | 0, D, L, e, H, _, h => h
  | n + 1, D, L, e, H, hst, h => by
    simp only [SD] at h
    split at h
    · exact hf e H h
    · split at h
      · rename_i x want hgd
        split at h
        · rename_i b hx
          refine caseB_elim h (fun hb h => ?_) (fun hb h => ?_)
          · subst hb
            refine (SDg_sound hca hcb hst ?_ (fun _ _ _ _ hs h => SD_sound hca hcb hf hs h) h).eqE (learn_eqE hx)
            rw [hgd, gOk_learn hx]; cases want <;> rfl
          · subst hb
            refine (SDg_sound hca hcb hst ?_ (fun _ _ _ _ hs h => SD_sound hca hcb hf hs h) h).eqE (learn_eqE hx)
            rw [hgd, gOk_learn hx]; cases want <;> rfl
        · rename_i hx
          exact SDg_sound hca hcb hst (by rw [hgd]; simp only [gOk, hx]) (fun _ _ _ _ hs h => SD_sound hca hcb hf hs h) h
        · exact h
      · rename_i hgd
        exact SDg_sound hca hcb hst (by rw [hgd]; rfl) (fun _ _ _ _ hs h => SD_sound hca hcb hf hs h) h

theorem SOp0_sound (hca : PTabOk cx.P tb.ca) (hcb : ETabOk cx.P tb.cb) {c : List AItm → Env → AHeap → Prop} {d : Option (Bool × Nat)} {op : AOp} {g : Option (Od × Bool)} {rest : List AOper} {go : Bool} (hc : ∀ k e H, c k e H → AGo cx m k R e H) (hg : gOk e g = some go)
    (h : SOp0 std tb (fun k => AGo cx m k R) c d op g rest k e H go) : AGo cx m (.ops (⟨d, op, g⟩ :: rest) :: k) R e H := by
  unfold SOp0 at h
  split at h
  · exact AGo_skipped hg (hc _ _ _ h)
  · split at h
    · rename_i f args hcf
      obtain ⟨f', xs, caps, rfl, hf, rfl⟩ := callF_spec hcf
      split at h
      · rename_i pt hpt
        exact AGo_call hg hf ((hca _ _ _ hpt H (fun r H' => c (.ops rest :: k) (put e d r) H') h).mono fun r H' hr => hc _ _ _ hr)
      · split at h
        · rename_i pt hpt
          exact AGo_call hg hf ((hcb _ _ _ _ hpt _ h).mono fun r H' hr => hc _ _ _ hr)
        · exact h
    · split at h
      · rename_i hop
        exact AGo_frzapp hg hop h.1 (hc _ _ _ h.2)
      · rcases opPT_sound h with h | ⟨r, H', h1, h2⟩
        · exact h
        · exact AGo_run1 hg h1 (hc _ _ _ h2)
theorem SOp_sound (hca : PTabOk cx.P tb.ca) (hcb : ETabOk cx.P tb.cb) {c : List AItm → Env → AHeap → Prop} {d : Option (Bool × Nat)} {op : AOp} {g : Option (Od × Bool)} {rest : List AOper} {go : Bool} (hc : ∀ k e H, c k e H → AGo cx m k R e H) (hg : gOk e g = some go)
    (h : SOp std tb (fun k => AGo cx m k R) c d op g rest k e H go) : AGo cx m (.ops (⟨d, op, g⟩ :: rest) :: k) R e H := by
  unfold SOp at h
  split at h
  · exact h
  · exact SOp0_sound hca hcb hc hg h

theorem SGo_sound' (hca : PTabOk cx.P tb.ca) (hcb : ETabOk cx.P tb.cb) : ∀ {n : Nat} {k : List AItm} {e : Env} {H : AHeap}, SGo std tb cx.ro (fun k => AGo cx m k R) (fun k => DGo cx m k R) R n k e H → AGo cx m k R e H
  | 0, k, e, H, h => h
  | n + 1, k, e, H, h => by
    unfold SGo at h
    split at h
    · exact AGo_nil h
    · split at h
      · rename_i b hx
        refine AGo_cond hx (fun hb => ?_) (fun hb => ?_)
        · subst hb; exact (SGo_sound' hca hcb (show SGo std tb cx.ro _ _ R n _ _ _ from h)).eqE (learn_eqE hx)
        · subst hb; exact (SGo_sound' hca hcb (show SGo std tb cx.ro _ _ R n _ _ _ from h)).eqE (learn_eqE hx)
      · exact h
    · exact AGo_ret h
    · split at h
      · exact h
      exact AGo_drw tb.us (SD_sound hca hcb (fun e H h => SGo_sound' hca hcb h) (fun D' hD => by cases hD; exact ⟨mask_sub, trivial⟩) h)
    · split at h
      · split at h
        · rename_i b hx
          refine caseB_elim h (fun hb h => ?_) (fun hb h => ?_)
          · subst hb
            refine (SOp_sound hca hcb (fun _ _ _ h => SGo_sound' hca hcb h) ?_ h).eqE (learn_eqE hx)
            rw [gOk_learn hx]; rename_i want _ _; cases want <;> rfl
          · subst hb
            refine (SOp_sound hca hcb (fun _ _ _ h => SGo_sound' hca hcb h) ?_ h).eqE (learn_eqE hx)
            rw [gOk_learn hx]; rename_i want _ _; cases want <;> rfl
        · rename_i hx
          exact SOp_sound hca hcb (fun _ _ _ h => SGo_sound' hca hcb h) (by simp only [gOk, hx]) h
        · exact h
      · exact SOp_sound hca hcb (fun _ _ _ h => SGo_sound' hca hcb h) rfl h
    · exact AGo_bk h
    · split at h
      · rename_i hs; exact stepA_sound hs (SGo_sound' hca hcb h)
      · exact h

/-- T, TD: what is to be shown where the run stops -/
theorem SGo_run {A : Ar} (hA : A = std) (tb : Tb) (hca : PTabOk cx.P tb.ca) (hcb : ETabOk cx.P tb.cb) (n : Nat) (h : ∀ T TD, T = (fun k => AGo cx m k R) → TD = (fun k => DGo cx m k R) → SGo A tb cx.ro T TD R n k e H) : AGo cx m k R e H := by
  subst hA; exact SGo_sound' hca hcb (h _ _ rfl rfl)

theorem SD_run {A : Ar} (hA : A = std) (tb : Tb) (hca : PTabOk cx.P tb.ca) (hcb : ETabOk cx.P tb.cb) (n n' : Nat) (hst : Stays D H) (h : ∀ T TD, T = (fun k => AGo cx m k R) → TD = (fun k => DGo cx m k R) → SD A tb (TD k) (SGo A tb cx.ro T TD R n' k) n D L e H) : DGo cx m k R D L e H := by
  subst hA; exact SD_sound hca hcb (fun _ _ h => SGo_sound' hca hcb h) hst (h _ _ rfl rfl)
end

/-! ### From a body to a contract, once more -/
mutual
def AV.ltB (n : Nat) (a : AV) : Bool := match a with
  | .agg cs => AV.ltLB n cs
  | .tup cs => AV.ltLB n cs
  | .fn _ cs => AV.ltLB n cs
  | .mp id _ _ => decide (id < n)
  | .ms _ id _ _ _ => decide (id < n)
  | .yl id _ => decide (id < n)
  | _ => true
def AV.ltLB (n : Nat) (as : List AV) : Bool := match as with
  | [] => true
  | a :: as => a.ltB n && AV.ltLB n as
end
mutual
theorem AV.ltB_spec {n : Nat} : ∀ {a : AV}, a.ltB n = true → a.lt n
  | .bad, _ | .lit _, _ | .vs _ _, _ | .vp _, _ | .es, _ | .nni, _ => by simp only [AV.lt]
  | .agg cs, h => by simp only [AV.ltB] at h; simp only [AV.lt]; exact AV.ltLB_spec h
  | .tup cs, h => by simp only [AV.ltB] at h; simp only [AV.lt]; exact AV.ltLB_spec h
  | .fn f cs, h => by simp only [AV.ltB] at h; simp only [AV.lt]; exact AV.ltLB_spec h
  | .mp _ _ _, h | .ms _ _ _ _ _, h | .yl _ _, h => by simp only [AV.ltB, decide_eq_true_eq] at h; simp only [AV.lt]; exact h
theorem AV.ltLB_spec {n : Nat} : ∀ {as : List AV}, AV.ltLB n as = true → AV.ltL n as
  | [], _ => by simp only [AV.ltL]
  | a :: as, h => by
    simp only [AV.ltLB, Bool.and_eq_true] at h
    simp only [AV.ltL]; exact ⟨AV.ltB_spec h.1, AV.ltLB_spec h.2⟩
end
def ltHB (n : Nat) : AHeap → Bool
  | [] => true
  | .own _ cs :: H => AV.ltLB n cs && ltHB n H
  | .raw _ _ es _ :: H => AV.ltLB n es && ltHB n H
  | .gone :: H => ltHB n H
theorem ltHB_spec {n : Nat} : ∀ {H : AHeap}, ltHB n H = true → ltH n H
  | [], _ => trivial
  | .own g cs :: H, h => by simp only [ltHB, Bool.and_eq_true] at h; exact ⟨AV.ltLB_spec h.1, ltHB_spec h.2⟩
  | .gone :: H, h => ⟨trivial, ltHB_spec (by simpa only [ltHB] using h)⟩
  | .raw g o es us :: H, h => by simp only [ltHB, Bool.and_eq_true] at h; exact ⟨AV.ltLB_spec h.1, ltHB_spec h.2⟩

/-- what is to be shown where a function returns -/
def RetP (rs : List ARes) (m : Nat) (Kk : AV → AHeap → Prop) (e : Env) (H : AHeap) : Prop := match aResL e H rs with
  | none => False
  | some vs => if AV.ltB m (aTup vs) && ltHB m (H.take m) then Kk (aTup vs) (H.take m) else Kk (aTup vs) H

theorem RetP.hands {rs : List ARes} {m : Nat} {Kk : AV → AHeap → Prop} (hm : m ≤ H.length) (h : RetP rs m Kk e H) : ∃ vs, aResL e H rs = some vs ∧ Hands m Kk (aTup vs) H := by
  unfold RetP at h
  split at h
  · exact h.elim
  · rename_i vs hvs
    refine ⟨vs, hvs, ?_⟩
    split at h
    · rename_i hb
      simp only [Bool.and_eq_true] at hb
      have hl : (H.take m).length = m := by simp; omega
      exact .inr ⟨H.take m, ⟨H.drop m, (List.take_append_drop m H).symm⟩, by omega, by rw [hl]; exact AV.ltB_spec hb.1, by rw [hl]; exact ltHB_spec hb.2, h⟩
    · exact .inl h

theorem AGo.weaken {R' : Env → AHeap → Prop} (h : AGo cx m k R e H) (hR : ∀ e' H', m ≤ H'.length → R e' H' → R' e' H') (hk : ∀ I, .bk I ∉ k) : AGo cx m k R' e H := by
  intro st0 w0 kc hm hk' st a w hr
  have := h st0 w0 kc hm hk' st a w hr
  have hQ : ∀ a' w', (∃ st' e' H', Rel cx st0 w0 st' w' e' H' a' ∧ R e' H') → (∃ st' e' H', Rel cx st0 w0 st' w' e' H' a' ∧ R' e' H') := by
    rintro a' w' ⟨st', e', H', h1, h2⟩
    refine ⟨st', e', H', h1, hR e' H' ?_ h2⟩
    have : st0.loc.length ≤ st'.loc.length := by
      rcases Nat.eq_zero_or_pos st0.loc.length with h0 | h0
      · omega
      · obtain ⟨l', e1, _⟩ := h1.ext.le.loc (st0.loc.length - 1) _ (List.getElem?_eq_getElem (by omega))
        have := (List.getElem?_eq_some_iff.1 e1).1
        omega
    rw [h1.hH.len, hm] at this; exact this
  exact GoK.mono hQ kc a w this
where
  GoK.mono {P : Program} {ro : Option Nat} {R R' : Act → World → Prop} (hQ : ∀ a w, R a w → R' a w) (kc : List CItm) (a : Act) (w : World) (h : GoK P ro kc R a w) : GoK P ro kc R' a w := by
    have key : ∀ kc : List CItm, (∀ a w, GoK P ro kc R a w → GoK P ro kc R' a w) ∧ ∀ i a w, ExK P ro i kc R a w → ExK P ro i kc R' a w := by
      intro kc
      induction kc with
      | nil => exact ⟨fun a w h => by simp only [GoK] at h ⊢; exact hQ a w h, fun i a w h => by simp [ExK] at h⟩
      | cons x kc ih =>
        cases x with
        | code c =>
          refine ⟨fun a w h => ?_, fun i a w h => by simp only [ExK] at h ⊢; exact ih.2 i a w h⟩
          simp only [GoK] at h ⊢
          refine wpIn_mono h fun ex a' w' hq => ?_
          cases ex <;> simp only at hq ⊢ <;> first | exact ih.1 _ _ hq | exact ih.2 _ _ _ hq | exact RetOk.mono (hQ _ _) hq | exact hq
        | ops ops l =>
          refine ⟨fun a w h => ?_, fun i a w h => by simp only [ExK] at h ⊢; exact ih.2 i a w h⟩
          simp only [GoK] at h ⊢
          refine wpOpsIn_mono (fun ex a' w' hq => ?_) _ _ _ h
          cases ex <;> simp only at hq ⊢ <;> first | exact ih.1 _ _ hq | exact hq
        | blk j =>
          refine ⟨fun a w h => by simp only [GoK] at h ⊢; exact ih.1 _ _ h, fun i a w h => ?_⟩
          simp only [ExK] at h ⊢
          split
          · rename_i he; rw [if_pos he] at h; exact ih.1 _ _ h
          · rename_i he; rw [if_neg he] at h; exact ih.2 _ _ _ h
        | bk I => exact ⟨fun a w h => by simp only [GoK] at h ⊢; exact h, fun i a w h => by simp only [ExK] at h ⊢; exact ih.2 i a w h⟩
    exact (key kc).1 a w h

/-- of a function that names no object: whatever there is -/
theorem liftP {P : Program} {f : Nat} {args : List AV} {res : AV} (h : ACalls P f args [] fun r H' => r = res ∧ H' = []) (ha : AV.nidL args = true) (hr : res.nid = true) (H : AHeap) {Kk : AV → AHeap → Prop} (hk : Kk res H) : ACalls P f args H Kk := by
  have := ACalls.frame (H := H) [] h List.nodup_nil rfl (AV.ltL_nid ha) (by simp [ltH]) (fun k X hk => by simp at hk)
  rw [AV.renL_nid ha] at this
  refine this.mono fun r H' hx => ?_
  obtain ⟨r0, H1, ⟨rfl, rfl⟩, _, rfl, rfl⟩ := hx
  rw [AV.ren_nid hr]
  simpa [merge, updL] using hk
end Go.Sas
namespace Go.Sas
@[reducible] def Od.i (n : Int) : Od := .c (.lit (.int .i64 n))
@[reducible] def Od.b (b : Bool) : Od := .c (.lit (.bool b))
@[reducible] def AOper.l (t : Nat) (o : AOp) : AOper := ⟨some (false, t), o, none⟩
@[reducible] def AOper.g (t : Nat) (o : AOp) : AOper := ⟨some (true, t), o, none⟩
@[reducible] def AOper.n (o : AOp) : AOper := ⟨none, o, none⟩
@[reducible] def AOper.lw (t : Nat) (o : AOp) (x : Od) (b : Bool) : AOper := ⟨some (false, t), o, some (x, b)⟩
@[reducible] def AOper.gw (t : Nat) (o : AOp) (x : Od) (b : Bool) : AOper := ⟨some (true, t), o, some (x, b)⟩
@[reducible] def AOper.nw (o : AOp) (x : Od) (b : Bool) : AOper := ⟨none, o, some (x, b)⟩
@[reducible] def DItm.l (t : Nat) (o : AOp) (i : Nat) : DItm := ⟨⟨some (false, t), o, none⟩, i, true, []⟩
@[reducible] def DItm.g (t : Nat) (o : AOp) (i : Nat) : DItm := ⟨⟨some (true, t), o, none⟩, i, true, []⟩
@[reducible] def DItm.n (o : AOp) (i : Nat) : DItm := ⟨⟨none, o, none⟩, i, true, []⟩
@[reducible] def DItm.lw (t : Nat) (o : AOp) (x : Od) (b : Bool) (i : Nat) : DItm := ⟨⟨some (false, t), o, some (x, b)⟩, i, true, []⟩
@[reducible] def DItm.gw (t : Nat) (o : AOp) (x : Od) (b : Bool) (i : Nat) : DItm := ⟨⟨some (true, t), o, some (x, b)⟩, i, true, []⟩
@[reducible] def DItm.nw (o : AOp) (x : Od) (b : Bool) (i : Nat) : DItm := ⟨⟨none, o, some (x, b)⟩, i, true, []⟩
@[reducible] def DItm.lf (t : Nat) (o : AOp) (i : Nat) : DItm := ⟨⟨some (false, t), o, none⟩, i, false, []⟩
@[reducible] def DItm.gf (t : Nat) (o : AOp) (i : Nat) : DItm := ⟨⟨some (true, t), o, none⟩, i, false, []⟩
@[reducible] def DItm.nf (o : AOp) (i : Nat) : DItm := ⟨⟨none, o, none⟩, i, false, []⟩
@[reducible] def DItm.lwf (t : Nat) (o : AOp) (x : Od) (b : Bool) (i : Nat) : DItm := ⟨⟨some (false, t), o, some (x, b)⟩, i, false, []⟩
@[reducible] def DItm.gwf (t : Nat) (o : AOp) (x : Od) (b : Bool) (i : Nat) : DItm := ⟨⟨some (true, t), o, some (x, b)⟩, i, false, []⟩
@[reducible] def DItm.nwf (o : AOp) (x : Od) (b : Bool) (i : Nat) : DItm := ⟨⟨none, o, some (x, b)⟩, i, false, []⟩
@[reducible] def DItm.lx (t : Nat) (o : AOp) (i : Nat) (b : Bool) (w : List Nat) : DItm := ⟨⟨some (false, t), o, none⟩, i, b, w⟩
@[reducible] def DItm.gx (t : Nat) (o : AOp) (i : Nat) (b : Bool) (w : List Nat) : DItm := ⟨⟨some (true, t), o, none⟩, i, b, w⟩
@[reducible] def DItm.nx (o : AOp) (i : Nat) (b : Bool) (w : List Nat) : DItm := ⟨⟨none, o, none⟩, i, b, w⟩
@[reducible] def DItm.lwx (t : Nat) (o : AOp) (x : Od) (c : Bool) (i : Nat) (b : Bool) (w : List Nat) : DItm := ⟨⟨some (false, t), o, some (x, c)⟩, i, b, w⟩
@[reducible] def DItm.gwx (t : Nat) (o : AOp) (x : Od) (c : Bool) (i : Nat) (b : Bool) (w : List Nat) : DItm := ⟨⟨some (true, t), o, some (x, c)⟩, i, b, w⟩
@[reducible] def DItm.nwx (o : AOp) (x : Od) (c : Bool) (i : Nat) (b : Bool) (w : List Nat) : DItm := ⟨⟨none, o, some (x, c)⟩, i, b, w⟩
def GoS (P : Program) (f n : Nat) (K mu : List Nat) (nt : Nat) (ac : ACode) (rs : List ARes) : Prop := ∀ ⦃args : List AV⦄ ⦃H : AHeap⦄ ⦃Kk : AV → AHeap → Prop⦄, args.length = n →
  AGo ⟨P, K, mu, nt, none⟩ H.length [.code ac] (RetP rs H.length Kk) ⟨[], argsG 0 args⟩ H → ACalls P f args H Kk
theorem GoS.mk {P : Program} {f n nt : Nat} {K mu : List Nat} {fn : Func} {c : Code} {ac : ACode} {rs : List ARes} (hf : P.funcs[f]? = some fn) (hb : fn.body = some c) (hname : (fn.name != "runtime.NumGoroutine") = true)
    (htr : trCode ⟨P, K, mu, nt, none⟩ c = some ac) (ht : fn.ntmps = nt) (hres : trRes P K fn.results.toList = some rs) (hn : Nat.ble n nt = true) (hK : argsIn K 0 n = true) : GoS P f n K mu nt ac rs := by
  subst ht
  intro args H Kk hl h
  exact ACalls_of hf hb hname htr (rs := rs) hres (by rw [hl]; exact Nat.le_of_ble_eq_true hn) (by rw [hl]; exact hK) (h.weaken (fun _ _ => RetP.hands) (by simp))
end Go.Sas
