/-
An abstract machine over values, part 10: from a body to a contract; freezing; runs of plain steps.
Conditions: none (lemmas over any program).
-/
import Derived.Test.YtelmlpjkpebcgaaAbs9
set_option linter.unusedVariables false
set_option linter.unusedSimpArgs false
namespace Go.Sas
variable {cx : Cx} {st0 st st' : St} {w0 w w' : World} {e e' : Env} {H H' : AHeap} {a : Act} {m : Nat} {k : List AItm} {R : Env → AHeap → Prop}

/-! ### Results -/
inductive ARes where
  | t (x : Od)
  | cell (x : Od) (n : Option Nat)

def trRes (P : Program) (K : List Nat) : List ResultVar → Option (List ARes)
  | [] => some []
  | .tmp t :: r => match od K (.tmp t), trRes P K r with
    | some x, some y => some (.t x :: y)
    | _, _ => none
  | .cell a t :: r => match od K (.tmp a), shT P t, trRes P K r with
    | some x, some n, some y => some (.cell x n :: y)
    | _, _, _ => none

def aResL (e : Env) (H : AHeap) : List ARes → Option (List AV)
  | [] => some []
  | .t x :: r => match aResL e H r with
    | some y => some (ev e x :: y)
    | none => none
  | .cell x n :: r => match ldA H n (ev e x), aResL e H r with
    | some v, some y => some (v :: y)
    | _, _ => none

def aTup : List AV → AV
  | [v] => v
  | vs => .tup vs

theorem ldA_ptr {n : Option Nat} {x r : AV} {v : Value} (hH : RelH st w H) (hv : RelV st x v) (hr : ldA H n x = some r) : ∃ ad, v = .pointer (some ad) := by
  unfold ldA at hr
  split at hr
  · simp only [RelV] at hv; obtain ⟨b, o, us, rfl, _⟩ := hv; exact ⟨_, rfl⟩
  · split at hr
    · rename_i g' cs hX
      split at hr
      · rename_i hg; subst hg
        obtain ⟨_, b, o, r', _, _, _, rfl⟩ := relV_mp_live hH (live_of_own hX) hv
        exact ⟨_, rfl⟩
      · cases hr
    · cases hr
  · cases hr

def resF (tmps : Array Value) : ResultVar → Sem Value
  | .tmp t => Pure.pure (tmps.getD t undef)
  | .cell ad t => do loadVar t (← asAddr (tmps.getD ad undef))

theorem results_eq (fn : Func) (tmps : Array Value) : results fn tmps = (do let vs ← fn.results.mapM (resF tmps); Pure.pure (if h : vs.size = 1 then vs[0] else .tuple vs)) := by
  unfold results
  have : (fun (x : ResultVar) => resF tmps x) = (fun x => match x with
    | .tmp t => Pure.pure (tmps.getD t undef)
    | .cell a t => do loadVar t (← asAddr (tmps.getD a undef))) := by funext x; cases x <;> rfl
  exact congrArg (fun f => (do let vs ← fn.results.mapM f; Pure.pure (if h : vs.size = 1 then vs[0] else .tuple vs) : Sem Value)) this.symm

theorem res_run (hrel : Rel cx st0 w0 st w e H a) : ∀ {rs : List ResultVar} {ars : List ARes} {vs : List AV}, trRes cx.P cx.K rs = some ars → aResL e H ars = some vs →
    ∃ us, (rs.mapM (resF a.tmps)).run cx.P w = .ok us w ∧ RelL st vs us
  | [], ars, vs, h1, h2 => by
    simp only [trRes, Option.some.injEq] at h1; subst h1
    simp only [aResL, Option.some.injEq] at h2; subst h2
    exact ⟨[], by simp, RelL.nil⟩
  | .tmp t :: rs, ars, vs, h1, h2 => by
    simp only [trRes] at h1
    split at h1
    · rename_i x y hx hy
      simp only [Option.some.injEq] at h1; subst h1
      simp only [aResL] at h2
      split at h2
      · rename_i z hz
        simp only [Option.some.injEq] at h2; subst h2
        obtain ⟨us, h3, h4⟩ := res_run hrel hy hz
        refine ⟨a.tmps.getD t undef :: us, ?_, RelL.cons (hrel.ops (.tmp t) x hx) h4⟩
        simp only [List.mapM_cons, resF, Sem.run_bind, Sem.run_pure, Result.andThen_ok, h3]
      · cases h2
    · cases h1
  | .cell ad t :: rs, ars, vs, h1, h2 => by
    simp only [trRes] at h1
    split at h1
    · rename_i x n y hx hn hy
      simp only [Option.some.injEq] at h1; subst h1
      simp only [aResL] at h2
      split at h2
      · rename_i v z hv hz
        simp only [Option.some.injEq] at h2; subst h2
        obtain ⟨us, h3, h4⟩ := res_run hrel hy hz
        have hxx := hrel.ops (.tmp ad) x hx
        obtain ⟨ptr, hptr⟩ := ldA_ptr hrel.hH hxx hv
        obtain ⟨u, h5, h6⟩ := ld_sound (P := cx.P) hn hrel.hH hxx hv
        simp only [Act.eval] at hptr h5
        rw [hptr] at h5
        simp only [Instr.loadAt, Instr.sureAddr, Sem.run_bind, Sem.run_pure, Result.andThen_ok] at h5
        refine ⟨u :: us, ?_, RelL.cons h6 h4⟩
        simp only [List.mapM_cons, resF, Sem.run_bind, hptr, asAddr, Sem.run_pure, Result.andThen_ok, h5, h3]
      · cases h2
    · cases h1

/-! ### From a body to a contract -/
def argsG : Nat → List AV → List (Nat × AV)
  | _, [] => []
  | i, a :: as => (i, a) :: argsG (i + 1) as

theorem look_argsG : ∀ (as : List AV) (i t : Nat), look (argsG i as) t = if t < i then .bad else (as[t - i]?).getD .bad
  | [], i, t => by simp [argsG, look]
  | a :: as, i, t => by
    simp only [argsG, look]
    split
    · rename_i h; subst h; simp
    · rename_i h
      rw [look_argsG as (i + 1) t]
      by_cases h1 : t < i
      · rw [if_pos h1, if_pos (by omega)]
      · rw [if_neg h1, if_neg (by omega)]
        rw [show t - i = (t - (i + 1)) + 1 by omega]; simp

def argsIn (K : List Nat) : Nat → Nat → Bool
  | _, 0 => true
  | i, n + 1 => K.contains i && argsIn K (i + 1) n

theorem argsIn_spec {K : List Nat} : ∀ {n i t : Nat}, argsIn K i n = true → i ≤ t → t < i + n → K.contains t = true
  | 0, i, t, _, h1, h2 => absurd h2 (by omega)
  | n + 1, i, t, h, h1, h2 => by
    simp only [argsIn, Bool.and_eq_true] at h
    by_cases he : t = i
    · rw [he]; exact h.1
    · exact argsIn_spec h.2 (by omega) (by omega)

/-- the value is handed back; what stands behind the first objects is dropped -/
def Hands (m : Nat) (Kk : AV → AHeap → Prop) (r : AV) (H : AHeap) : Prop := Kk r H ∨ ∃ H0, (∃ T, H = H0 ++ T) ∧ m ≤ H0.length ∧ r.lt H0.length ∧ ltH H0.length H0 ∧ Kk r H0

theorem ACalls_of {P : Program} {K mu : List Nat} {f : Nat} {fn : Func} {c : Code} {ac : ACode} {rs : List ARes} {args : List AV} {Kk : AV → AHeap → Prop}
    (hf : P.funcs[f]? = some fn) (hb : fn.body = some c) (hname : (fn.name != "runtime.NumGoroutine") = true)
    (htr : trCode ⟨P, K, mu, fn.ntmps, none⟩ c = some ac) (hres : trRes P K fn.results.toList = some rs) (hn : args.length ≤ fn.ntmps) (hK : argsIn K 0 args.length = true)
    (h : AGo ⟨P, K, mu, fn.ntmps, none⟩ H.length [.code ac] (fun e H' => ∃ vs, aResL e H' rs = some vs ∧ Hands H.length Kk (aTup vs) H') ⟨[], argsG 0 args⟩ H) : ACalls P f args H Kk := by
  refine ⟨by simp [callable, hf, hb]; simpa using hname, fun st w vals hH hv => ?_⟩
  have hl := hv.length
  refine calls_of_wp hf hb ?_
  have hsz : (vals.toArray ++ Array.replicate (fn.ntmps - vals.toArray.size) undef).size = fn.ntmps := by simp; omega
  have hget : ∀ t, (vals.toArray ++ Array.replicate (fn.ntmps - vals.toArray.size) undef).getD t undef = (vals[t]?).getD undef := by
    intro t
    rw [Array.getD_eq_getD_getElem?, Array.getElem?_append]
    split
    · simp
    · rename_i hlt
      rw [List.getElem?_eq_none (by simpa using hlt)]
      simp only [Array.getElem?_replicate]
      split <;> rfl
  have hrel : Rel ⟨P, K, mu, fn.ntmps, none⟩ st w st w ⟨[], argsG 0 args⟩ H { tmps := vals.toArray ++ Array.replicate (fn.ntmps - vals.toArray.size) undef, defers := [] } := by
    refine ⟨.refl _ _, hH, fun t => by simp only [look, RelV], fun t => ?_, fun t _ => rfl, fun t ht => ?_, hsz, rfl⟩
    · rw [look_argsG, if_neg (Nat.not_lt_zero _), hget, Nat.sub_zero]
      cases hx : args[t]? with
      | none => simp only [Option.getD_none, RelV]
      | some x =>
        obtain ⟨u, hu, hr⟩ := hv.get hx
        rw [hu]; exact hr
    · rw [look_argsG, if_neg (Nat.not_lt_zero _), Nat.sub_zero]
      rcases Nat.lt_or_ge t args.length with hlt | hge
      · have := argsIn_spec hK (Nat.zero_le t) (by omega)
        simp only at ht; rw [this] at ht; cases ht
      · rw [List.getElem?_eq_none hge]; rfl
  have hgo := h st w [.code c] hH.len ⟨_, _, rfl, htr, rfl⟩ st _ w hrel
  simp only [GoK, ExK] at hgo
  have hwp := (wpIn_wide (n := 0)).1 (show c.wpIn Fence.wide 0 P _ _ w from hgo)
  refine wp_mono hwp fun ex a' w' hq => ?_
  have fin : (∃ st' e' H', Rel ⟨P, K, mu, fn.ntmps, none⟩ st w st' w' e' H' a' ∧ ∃ vs, aResL e' H' rs = some vs ∧ Hands H.length Kk (aTup vs) H') →
      a'.defers = [] ∧ ∃ v, (results fn a'.tmps).run P w' = .ok v w' ∧ ∃ v' r H' st', (Ending.returned v) = .returned v' ∧ Ext st w st' w' ∧ RelH st' w' H' ∧ RelV st' r v' ∧ Kk r H' := by
    rintro ⟨st', e', H', hr', vs, hvs, hh⟩
    refine ⟨hr'.d, ?_⟩
    obtain ⟨us, h1, h2⟩ := res_run hr' hres hvs
    have hl2 := h2.length
    have hrun : (results fn a'.tmps).run P w' = .ok (if h : us.length = 1 then us[0] else .tuple us.toArray) w' := by
      rw [results_eq, Array.mapM_eq_mapM_toList]
      simp only [Sem.run_bind, Sem.run_map, h1, Result.andThen_ok, Sem.run_pure]
      simp
    have hval : RelV st' (aTup vs) (if h : us.length = 1 then us[0] else .tuple us.toArray) := by
      by_cases h1 : us.length = 1
      · rw [dif_pos h1]
        match vs, us, hl2, h2, h1 with
        | [v], [u], _, h2, _ =>
          obtain ⟨u', us', he, hv, _⟩ := h2.uncons
          cases he; exact hv
      · rw [dif_neg h1]
        have : aTup vs = .tup vs := by
          match vs, us, hl2, h1 with
          | [], _, _, _ => rfl
          | [v], [u], _, h1 => exact absurd rfl h1
          | _ :: _ :: _, _, _, _ => rfl
        rw [this]; simp only [RelV]
        exact ⟨_, rfl, by simpa using h2⟩
    rcases hh with hk | ⟨H0, ⟨T, rfl⟩, hle, hlt, hltH, hk⟩
    · exact ⟨_, hrun, _, _, H', st', rfl, hr'.ext, hr'.hH, hval, hk⟩
    · exact ⟨_, hrun, _, _, H0, st'.take H0.length, rfl, hr'.ext.take (by rw [hH.len]; exact hle), hr'.hH.take hltH, hval.take hlt, hk⟩
  cases ex <;> simp only [bodyPost] at hq ⊢
  all_goals first | exact fin hq | exact hq.elim

/-! ### Runs of plain steps -/
/-- operations that go through or not without anything to be shown -/
def easy : AOp → Bool
  | .mv _ | .mk _ _ | .nilc _ | .binb _ _ _ | .un _ _ | .cv _ _ | .mkf _ _ | .fa _ _ | .ex _ _ | .len _ | .lens _ | .lenc _ | .mx _ | .mn _ | .pick _ _ _ => true
  | .bin .quo _ _ | .bin .rem _ _ | .bin .shl _ _ | .bin .shr _ _ => false
  | .bin _ _ _ => true
  | _ => false

def opRun (e : Od → AV) (H : AHeap) (o : AOp) : Option (AV × AHeap) := match opVal e H o with
  | some r => some (r, H)
  | none => opAct e H o

theorem AGo_run1 {d : Option (Bool × Nat)} {op : AOp} {g : Option (Od × Bool)} {rest : List AOper} {r : AV} (hg : gOk e g = some true) (hv : opRun (ev e) H op = some (r, H')) (h : AGo cx m (.ops rest :: k) R (put e d r) H') :
    AGo cx m (.ops (⟨d, op, g⟩ :: rest) :: k) R e H := by
  unfold opRun at hv
  split at hv
  · rename_i x hx
    simp only [Option.some.injEq, Prod.mk.injEq] at hv
    obtain ⟨rfl, rfl⟩ := hv
    exact AGo_val hg hx h
  · exact AGo_act hg hv h

def exitA (i : Nat) : List AItm → Option (List AItm)
  | [] => none
  | .blk j :: k => if i = j then some k else exitA i k
  | .code _ :: k => exitA i k
  | .ops _ :: k => exitA i k
  | .bk _ :: k => exitA i k

theorem AEx_exitA {i : Nat} : ∀ {k k' : List AItm}, exitA i k = some k' → AGo cx m k' R e H → AEx cx m i k R e H
  | [], k', h, _ => by simp [exitA] at h
  | .blk j :: k, k', h, hg => by
    simp only [exitA] at h
    split at h
    · rename_i hij; subst hij; cases h; exact AEx_blk hg
    · rename_i hij; exact AEx_pass (fun j' hj => by cases hj; exact hij) (AEx_exitA h hg)
  | .code _ :: k, k', h, hg => AEx_pass (fun j hj => by cases hj) (AEx_exitA (by simpa only [exitA] using h) hg)
  | .ops _ :: k, k', h, hg => AEx_pass (fun j hj => by cases hj) (AEx_exitA (by simpa only [exitA] using h) hg)
  | .bk _ :: k, k', h, hg => AEx_pass (fun j hj => by cases hj) (AEx_exitA (by simpa only [exitA] using h) hg)

/-- One plain step; none where there is something to be shown. -/
def stepA (k : List AItm) (e : Env) (H : AHeap) : Option (List AItm × Env × AHeap) := match k with
  | .code .skip :: k => some (k, e, H)
  | .code (.seq x y) :: k => some (.code x :: .code y :: k, e, H)
  | .code (.block i x) :: k => some (.code x :: .blk i :: k, e, H)
  | .code (.reg l) :: k => some (.ops l :: k, e, H)
  | .code (.exit i) :: k => match exitA i k with
    | some k' => some (k', e, H)
    | none => none
  | .blk _ :: k => some (k, e, H)
  | .ops [] :: k => some (k, ⟨[], e.g⟩, H)
  | .ops (⟨d, op, g⟩ :: rest) :: k => match gOk e g with
    | some true => match opRun (ev e) H op with
      | some (r, H') => some (.ops rest :: k, put e d r, H')
      | none => none
    | some false => some (.ops rest :: k, put e d (.lit undef), H)
    | none => none
  | _ => none

theorem stepA_sound {k' : List AItm} (hs : stepA k e H = some (k', e', H')) (h : AGo cx m k' R e' H') : AGo cx m k R e H := by
  unfold stepA at hs
  split at hs
  · cases hs; exact AGo_skip h
  · cases hs; exact AGo_seq h
  · cases hs; exact AGo_block h
  · cases hs; exact AGo_reg h
  · split at hs
    · rename_i k2 hk2; cases hs; exact AGo_exit (AEx_exitA hk2 h)
    · cases hs
  · cases hs; exact AGo_blk h
  · cases hs; exact AGo_ops_nil h
  · split at hs
    · rename_i hg
      split at hs
      · rename_i r H2 hr
        cases hs; exact AGo_run1 hg hr h
      · cases hs
    · rename_i hg; cases hs; exact AGo_skipped hg h
    · cases hs
  · cases hs

/-- As many plain steps as there are. -/
def runA : Nat → List AItm → Env → AHeap → List AItm × Env × AHeap
  | 0, k, e, H => (k, e, H)
  | n + 1, k, e, H => match stepA k e H with
    | some (k', e', H') => runA n k' e' H'
    | none => (k, e, H)

theorem AGo_run : ∀ (n : Nat) {k : List AItm} {e : Env} {H : AHeap}, (∀ s, s = runA n k e H → AGo cx m s.1 R s.2.1 s.2.2) → AGo cx m k R e H
  | 0, k, e, H, h => h _ rfl
  | n + 1, k, e, H, h => by
    cases hs : stepA k e H with
    | none => exact h (k, e, H) (by simp [runA, hs])
    | some x =>
      obtain ⟨k', e', H'⟩ := x
      exact stepA_sound hs (AGo_run n fun s hs' => h s (by simp [runA, hs, hs']))
end Go.Sas
