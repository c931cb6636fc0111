/-
A load of a variable of the package, whose cells are known; the cases of failing.
Two trucks that cannot meet in a minute, whatever fails: contract.
Conditions: none.
-/
import Derived.Test.YtndnjmpebpampaaGreatDoorWF
set_option linter.unusedVariables false
set_option linter.unusedSimpArgs false
namespace Go.Sas
open Go.Proofs
set_option maxRecDepth 100000
theorem trOp_ld {P : Program} {K : List Nat} {mu : Bool} {o : Oper} {n : Option Nat} {a : Od} (h : trOp P K mu o = some (.ld n a)) : ∃ t x, o.op = .load t x ∧ shT P t = some n ∧ od K x = some a := by
  cases hop : o.op <;> simp only [trOp, hop] at h
  case load t x =>
    split at h
    · rename_i n' a' h1 h2
      simp only [Option.some.injEq, AOp.ld.injEq] at h
      obtain ⟨rfl, rfl⟩ := h
      exact ⟨t, x, rfl, h1, h2⟩
    · cases h
  case call c =>
    exfalso
    unfold trCall at h
    repeat' split at h
    all_goals first
      | contradiction
      | (cases h; done)
      | (obtain ⟨ys, hys, h'⟩ := Option.map_eq_some_iff.1 h; cases h')
  all_goals
    exfalso
    repeat' split at h
    all_goals first
      | contradiction
      | (cases h; done)
      | (obtain ⟨ys, hys, h'⟩ := Option.map_eq_some_iff.1 h; cases h'; done)
      | (unfold trBin at h; repeat' split at h
         all_goals first
           | (cases h; done)
           | (simp only [Option.some.injEq] at h; cases h; done)
           | (obtain ⟨ys, hys, h'⟩ := Option.map_eq_some_iff.1 h; cases h'; done))
/-- wherever these objects are, this block holds these cells -/
def PinsC (H : AHeap) (g : Nat) (us : List Value) : Prop := ∀ st w, RelH st w H → ∀ i c, us[i]? = some c → w.cell? ⟨g, i, none⟩ = some c
theorem AGo_ldG {cx : Cx} {m : Nat} {k : List AItm} {R : Env → AHeap → Prop} {e : Env} {H : AHeap} {rest : List AOper} {d : Option (Bool × Nat)} {g : Option (Od × Bool)} {n : Option Nat} {b : Nat} {v : AV}
    (us : List Value) (hg : gOk e g = some true) (hP : PinsC H b us) (hs : ∀ u ∈ us, Scal u) (hv : getN n (us.map .lit) 0 = some v)
    (h : AGo cx m (.ops rest :: k) R (put e d v) H) : AGo cx m (.ops (⟨d, .ld n (.c (.lit (.pointer (some ⟨b, 0, none⟩)))), g⟩ :: rest) :: k) R e H := by
  refine AGo_op hg fun ops o' st0 w0 kc l hm hk hl htr hd st a w hr K' Q hK => ?_
  obtain ⟨mu, htr⟩ := htr
  refine upon_step (r := v) (H' := H) hr hd ?_ fun st' w' a' hr' => hK _ _ _ _ _ hr' h
  obtain ⟨t, x, hop, hsh, hod⟩ := trOp_ld htr
  have hx := hr.ops x _ hod
  simp only [ev, RelV] at hx
  have hb := hP st w hr.hH
  obtain ⟨u, hu, hru⟩ := getN_sound (P := cx.P) (w := w) (b := b) (o := 0) (off := 0) hsh (RelL.lits us) hs (fun i c hc => by rw [Nat.zero_add]; exact hb i c hc) hv
  exact StepV.same hr.hH (by simp [execOp, hop, hx, Instr.loadAt, Instr.sureAddr] at hu ⊢; simp [hu]) hru
/-- cells of a variable of a package that nobody writes -/
def rawC (g : Nat) (us : List Value) : AObj := .raw 0 pinO [.vp (us.map .lit)] [.pointer (some ⟨g, 0, none⟩)]
theorem rawC_pins {H : AHeap} {id g : Nat} {us : List Value} (hX : H[id]? = some (rawC g us)) : PinsC H g us := by
  intro st w hH i c hc
  have hlt : id < st.loc.length := by rw [hH.len]; exact (List.getElem?_eq_some_iff.1 hX).1
  obtain ⟨l, hl⟩ : ∃ l, st.loc[id]? = some l := ⟨_, List.getElem?_eq_getElem hlt⟩
  have h := hH.obj id l _ hl hX
  simp only [rawC, ObjOk] at h
  obtain ⟨hg, hes, _⟩ := h
  obtain ⟨u, us', he, hv, _⟩ := hes.uncons
  cases he
  simp only [RelV] at hv
  obtain ⟨b2, o2, us2, e1, e2, e3⟩ := hv
  cases e1
  have := relL_lits e2
  subst this
  have := e3 i c hc
  rw [Nat.zero_add] at this
  exact (hH.rd _ _ _ this).2.1
/-- where a function returns that began at these objects -/
def RetH (rs : List ARes) (H0 : AHeap) (Kk : AV → AHeap → Prop) (e : Env) (H : AHeap) : Prop := match aResL e H rs with
  | none => False
  | some vs => match AV.ltB H0.length (aTup vs) with
    | true => H.take H0.length = H0 ∧ Kk (aTup vs) H0
    | false => Kk (aTup vs) H
theorem RetH.p {rs : List ARes} {H0 H : AHeap} {Kk : AV → AHeap → Prop} {e : Env} (h0 : ltHB H0.length H0 = true) (h : RetH rs H0 Kk e H) : RetP rs H0.length Kk e H := by
  unfold RetH at h
  unfold RetP
  split at h
  · exact h.elim
  · rename_i vs hvs
    rw [hvs]
    simp only
    split at h
    · rename_i hb
      obtain ⟨h1, h2⟩ := h
      rw [hb, h1, h0]
      exact h2
    · rename_i hb
      rw [hb]
      exact h
end Go.Sas
namespace Go.Sas
open Go.Proofs
set_option maxRecDepth 100000
def casL : List Value := [.int .i64 0, .int .i64 0, .int .i64 1, .int .i64 0, .int .i64 0, .int .i64 1, .int .i64 1, .int .i64 1]
def rawP : AObj := rawC 0 casL
/-- the variable of the cases is the first object or the second one -/
def CasH (H : AHeap) : Prop := ∃ T, H = rawP :: T ∨ ∃ Y, H = Y :: rawP :: T
theorem rawP_ren {l : List Nat} : rawP.ren l = rawP := by simp [rawP, rawC, AObj.ren, AV.renL, AV.ren]
def eNearT : List AV → Option ((AV → Prop) → Prop)
  | [.agg [.lit (.int .i64 gap), .lit (.int .i64 _)], .agg [.lit (.int .i64 w), .lit (.int .i64 s), .lit (.int .i64 lo), .lit (.int .i64 hi), .vs 2 ys, .lit (.int .i64 L), .vs 2 xs], .agg [.lit (.int .i64 w'), .lit (.int .i64 s'), .lit (.int .i64 lo'), .lit (.int .i64 hi'), .vs 2 ys', .lit (.int .i64 L'), .vs 2 xs'], .lit (.int .i64 M)] =>
    some fun K => ∃ (t u : Tck) (m : Nat), (L' = L ∧ TrkV L t w s lo hi ys xs ∧ TrkV L u w' s' lo' hi' ys' xs' ∧ (1 ≤ gap ∧ gap ≤ 100000) ∧ m ≤ 100000 ∧ M = iLen m) ∧ ∀ x y q, q = meetT L gap t u m → K (.tup [I x, I y, B q])
  | _ => none
theorem eNearT_ok : ∀ args pt, eNearT args = some pt → ∀ (H : AHeap) (Kk : AV → AHeap → Prop), pt (fun r => Kk r H) → ACalls Tryz.prog 70 args H Kk := by
  intro args pt h H Kk hk
  unfold eNearT at h
  split at h
  · cases h
    obtain ⟨t, u, m, ⟨rfl, h1, h2, h4, h5, h6⟩, h3⟩ := hk
    exact p70 _ _ _ t u _ _ _ _ _ _ _ _ _ _ _ _ m h1 h2 h4 h5 _ h6 H (fun x y => h3 x y _ rfl)
  · cases h
abbrev prV (a b : List AV) : AV := .agg (a ++ b)
abbrev tkS (w s lo hi L : Int) (ys xs : List AV) : List AV := [I w, I s, I lo, I hi, .vs 2 ys, I L, .vs 2 xs]
abbrev mtV (a b c : Int) (d e : Bool) (x y : Int) : AV := .agg [I a, I b, I c, B d, B e, I x, I y]
theorem TrkV.lt {L : Int} {t : Tck} {w s lo hi : Int} {ys xs : List AV} (h : TrkV L t w s lo hi ys xs) : (∀ n, AV.ltL n ys) ∧ ∀ n, AV.ltL n xs :=
  ⟨fun n => AV.ltL_nid (by rw [h.ys]; exact nidL_hd _), fun n => AV.ltL_nid (by rw [h.xs]; exact nidL_map (fun _ => rfl) _)⟩
set_option maxHeartbeats 4000000 in
theorem p51X {X : AObj} (hX : X = rawP) (L gap f : Int) (t u : Tck) (w s lo hi w' s' lo' hi' : Int) (ys xs zs vs ys' xs' zs' vs' : List AV) (m : Nat)
    (h1 : TrkV L t w s lo hi ys xs) (h2 : TrkV L (freeT true t) w s lo hi zs vs) (h3 : TrkV L u w' s' lo' hi' ys' xs') (h4 : TrkV L (freeT true u) w' s' lo' hi' zs' vs')
    (hg : 1 ≤ gap ∧ gap ≤ 100000) (hf : 0 ≤ f ∧ f ≤ 20) (hm : m ≤ 100000) (M : Int) (hM : M = iLen m)
    (hN : ∀ a b : Bool, (if a then 1 else 0) + (if b then 1 else 0) ≤ f → meetT L gap (freeT a t) (freeT b u) m = false) {Kk : AV → AHeap → Prop}
    (h : Kk (.tup [mtV 0 0 0 false false 0 0, B false]) [X]) : ACalls Tryz.prog 51 [.agg [I gap, I f], prV (tkS w s lo hi L ys xs) (tkS w s lo hi L zs vs), prV (tkS w' s' lo' hi' L ys' xs') (tkS w' s' lo' hi' L zs' vs'), I M] [X] Kk := by
  have hlt : ltHB 1 [X] = true := by subst hX; rfl
  have hlX : ∀ n, X.lt (n + 1) := fun n => by subst hX; simp [AObj.lt, rawP, rawC, AV.ltL, AV.lt]
  have l1 := h1.lt.1
  have l2 := h1.lt.2
  have l3 := h2.lt.1
  have l4 := h2.lt.2
  have l5 := h3.lt.1
  have l6 := h3.lt.2
  have l7 := h4.lt.1
  have l8 := h4.lt.2
  have hPn : ∀ T, PinsC (X :: T) 0 casL := fun T => by subst hX; exact rawC_pins (id := 0) rfl
  clear hX
  show ACalls Tryz.prog 51 [.agg [I gap, I f], .agg [I w, I s, I lo, I hi, .vs 2 ys, I L, .vs 2 xs, I w, I s, I lo, I hi, .vs 2 zs, I L, .vs 2 vs], .agg [I w', I s', I lo', I hi', .vs 2 ys', I L, .vs 2 xs', I w', I s', I lo', I hi', .vs 2 zs', I L, .vs 2 vs'], I M] [X] Kk
  have hA : std = std := rfl
  refine go51 rfl (AGo.weaken (SGo_run (R := RetH _ [X] Kk) hA ⟨[], [1000015], [], []⟩ .nil .nil 200 fun T TD hT hTD => ?_) (fun _ _ _ h => RetH.p hlt h) (by simp))
  cbv
  rw [hT]
  refine AGo_ldG (b := 0) casL rfl (hPn _) (by intro u hu; simp only [casL, List.mem_cons, List.not_mem_nil, or_false] at hu; rcases hu with rfl | rfl | rfl | rfl | rfl | rfl | rfl | rfl <;> trivial) rfl ?_
  clear hA
  obtain ⟨A, hA⟩ : ∃ A, A = std := ⟨_, rfl⟩
  refine SGo_run hA ⟨[], [], [], []⟩ .nil .nil 200 fun T TD hT hTD => ?_
  cbv
  rw [hT]
  refine AGo_upE [3, 4, 5, 6, 7, 8, 15] 4 (fun _ (_ : Unit) => True) (fun j _ i => [(16, I i)]) (fun _ _ => [X, .own 0 [I gap, I f], .own 0 [I w, I s, I lo, I hi, .vs 2 ys, I L, .vs 2 xs, I w, I s, I lo, I hi, .vs 2 zs, I L, .vs 2 vs], .own 0 [I w', I s', I lo', I hi', .vs 2 ys', I L, .vs 2 xs', I w', I s', I lo', I hi', .vs 2 zs', I L, .vs 2 vs'], .own 0 [I 0, I 0, I 0, B false, B false, I 0, I 0]]) () trivial ⟨rfl, trivial⟩ (.inl rfl) fun j _ i hi2 hj hP Bk hB => ?_
  have hc : j = 0 ∨ j = 1 ∨ j = 2 ∨ j = 3 ∨ j = 4 := by omega
  rcases hc with rfl | rfl | rfl | rfl | rfl
  · have hi3 : i = 0 := hi2
    subst hi3
    have hl4 : A.lt 0 4 = true := by subst hA; rfl
    have had : A.add .i64 0 0 = 0 := by subst hA; rfl
    have hnx : A.add .i64 0 1 = iLen 1 := by subst hA; rfl
    have hff : ∀ x, A.lt f x = decide (f < x) := by subst hA; intro x; rfl
    refine SGo_run hA ⟨[], [], (70, eNearT) :: [], []⟩ (.cons eNearT_ok .nil) .nil 200 fun T TD hT hTD => ?_
    cbv
    split <;> cbv
    rotate_left
    · rename_i hz; exact Bool.noConfusion (hl4.symm.trans hz)
    refine Exists.intro (.agg [I 0, I 0]) (And.intro (by subst hA; exact ⟨by decide, by decide, rfl⟩) ?_); cbv
    split <;> cbv
    · rename_i hz
      refine hB () _ _ (by decide) trivial ⟨congrArg I hnx, trivial⟩ ⟨rfl, rfl, rfl, rfl, rfl, rfl, rfl, trivial⟩ (.inr ⟨⟨_, rfl⟩, by simp, by simp [ltG, AV.lt, AV.ltL, keepS, look, gset], ⟨hlX 4, by simp [ltH, AObj.lt, AV.ltL, AV.lt, l1, l2, l3, l4, l5, l6, l7, l8]⟩⟩)
    rename_i hz
    have hz : A.lt f (A.add .i64 0 0) = false := hz
    rw [had, hff] at hz
    have hz := of_decide_eq_false hz
    have hq := hN false false (by simp; omega)
    refine Exists.intro (freeT false t) (Exists.intro (freeT false u) (Exists.intro m (And.intro ⟨rfl, h1, h3, hg, hm, hM⟩ ?_)))
    intro x y q hq2
    rw [hq] at hq2
    subst hq2
    cbv
    refine hB () _ _ (by decide) trivial ⟨congrArg I hnx, trivial⟩ ⟨rfl, rfl, rfl, rfl, rfl, rfl, rfl, trivial⟩ (.inr ⟨⟨_, rfl⟩, by simp, by simp [ltG, AV.lt, AV.ltL, keepS, look, gset], ⟨hlX 4, by simp [ltH, AObj.lt, AV.ltL, AV.lt, l1, l2, l3, l4, l5, l6, l7, l8]⟩⟩)

  · have hi3 : i = 1 := hi2
    subst hi3
    have hl4 : A.lt 1 4 = true := by subst hA; rfl
    have had : A.add .i64 1 0 = 1 := by subst hA; rfl
    have hnx : A.add .i64 1 1 = iLen 2 := by subst hA; rfl
    have hff : ∀ x, A.lt f x = decide (f < x) := by subst hA; intro x; rfl
    refine SGo_run hA ⟨[], [], (70, eNearT) :: [], []⟩ (.cons eNearT_ok .nil) .nil 200 fun T TD hT hTD => ?_
    cbv
    split <;> cbv
    rotate_left
    · rename_i hz; exact Bool.noConfusion (hl4.symm.trans hz)
    refine Exists.intro (.agg [I 1, I 0]) (And.intro (by subst hA; exact ⟨by decide, by decide, rfl⟩) ?_); cbv
    split <;> cbv
    · rename_i hz
      refine hB () _ _ (by decide) trivial ⟨congrArg I hnx, trivial⟩ ⟨rfl, rfl, rfl, rfl, rfl, rfl, rfl, trivial⟩ (.inr ⟨⟨_, rfl⟩, by simp, by simp [ltG, AV.lt, AV.ltL, keepS, look, gset], ⟨hlX 4, by simp [ltH, AObj.lt, AV.ltL, AV.lt, l1, l2, l3, l4, l5, l6, l7, l8]⟩⟩)
    rename_i hz
    have hz : A.lt f (A.add .i64 1 0) = false := hz
    rw [had, hff] at hz
    have hz := of_decide_eq_false hz
    have hq := hN true false (by simp; omega)
    refine Exists.intro (freeT true t) (Exists.intro (freeT false u) (Exists.intro m (And.intro ⟨rfl, h2, h3, hg, hm, hM⟩ ?_)))
    intro x y q hq2
    rw [hq] at hq2
    subst hq2
    cbv
    refine hB () _ _ (by decide) trivial ⟨congrArg I hnx, trivial⟩ ⟨rfl, rfl, rfl, rfl, rfl, rfl, rfl, trivial⟩ (.inr ⟨⟨_, rfl⟩, by simp, by simp [ltG, AV.lt, AV.ltL, keepS, look, gset], ⟨hlX 4, by simp [ltH, AObj.lt, AV.ltL, AV.lt, l1, l2, l3, l4, l5, l6, l7, l8]⟩⟩)

  · have hi3 : i = 2 := hi2
    subst hi3
    have hl4 : A.lt 2 4 = true := by subst hA; rfl
    have had : A.add .i64 0 1 = 1 := by subst hA; rfl
    have hnx : A.add .i64 2 1 = iLen 3 := by subst hA; rfl
    have hff : ∀ x, A.lt f x = decide (f < x) := by subst hA; intro x; rfl
    refine SGo_run hA ⟨[], [], (70, eNearT) :: [], []⟩ (.cons eNearT_ok .nil) .nil 200 fun T TD hT hTD => ?_
    cbv
    split <;> cbv
    rotate_left
    · rename_i hz; exact Bool.noConfusion (hl4.symm.trans hz)
    refine Exists.intro (.agg [I 0, I 1]) (And.intro (by subst hA; exact ⟨by decide, by decide, rfl⟩) ?_); cbv
    split <;> cbv
    · rename_i hz
      refine hB () _ _ (by decide) trivial ⟨congrArg I hnx, trivial⟩ ⟨rfl, rfl, rfl, rfl, rfl, rfl, rfl, trivial⟩ (.inr ⟨⟨_, rfl⟩, by simp, by simp [ltG, AV.lt, AV.ltL, keepS, look, gset], ⟨hlX 4, by simp [ltH, AObj.lt, AV.ltL, AV.lt, l1, l2, l3, l4, l5, l6, l7, l8]⟩⟩)
    rename_i hz
    have hz : A.lt f (A.add .i64 0 1) = false := hz
    rw [had, hff] at hz
    have hz := of_decide_eq_false hz
    have hq := hN false true (by simp; omega)
    refine Exists.intro (freeT false t) (Exists.intro (freeT true u) (Exists.intro m (And.intro ⟨rfl, h1, h4, hg, hm, hM⟩ ?_)))
    intro x y q hq2
    rw [hq] at hq2
    subst hq2
    cbv
    refine hB () _ _ (by decide) trivial ⟨congrArg I hnx, trivial⟩ ⟨rfl, rfl, rfl, rfl, rfl, rfl, rfl, trivial⟩ (.inr ⟨⟨_, rfl⟩, by simp, by simp [ltG, AV.lt, AV.ltL, keepS, look, gset], ⟨hlX 4, by simp [ltH, AObj.lt, AV.ltL, AV.lt, l1, l2, l3, l4, l5, l6, l7, l8]⟩⟩)

  · have hi3 : i = 3 := hi2
    subst hi3
    have hl4 : A.lt 3 4 = true := by subst hA; rfl
    have had : A.add .i64 1 1 = 2 := by subst hA; rfl
    have hnx : A.add .i64 3 1 = iLen 4 := by subst hA; rfl
    have hff : ∀ x, A.lt f x = decide (f < x) := by subst hA; intro x; rfl
    refine SGo_run hA ⟨[], [], (70, eNearT) :: [], []⟩ (.cons eNearT_ok .nil) .nil 200 fun T TD hT hTD => ?_
    cbv
    split <;> cbv
    rotate_left
    · rename_i hz; exact Bool.noConfusion (hl4.symm.trans hz)
    refine Exists.intro (.agg [I 1, I 1]) (And.intro (by subst hA; exact ⟨by decide, by decide, rfl⟩) ?_); cbv
    split <;> cbv
    · rename_i hz
      refine hB () _ _ (by decide) trivial ⟨congrArg I hnx, trivial⟩ ⟨rfl, rfl, rfl, rfl, rfl, rfl, rfl, trivial⟩ (.inr ⟨⟨_, rfl⟩, by simp, by simp [ltG, AV.lt, AV.ltL, keepS, look, gset], ⟨hlX 4, by simp [ltH, AObj.lt, AV.ltL, AV.lt, l1, l2, l3, l4, l5, l6, l7, l8]⟩⟩)
    rename_i hz
    have hz : A.lt f (A.add .i64 1 1) = false := hz
    rw [had, hff] at hz
    have hz := of_decide_eq_false hz
    have hq := hN true true (by simp; omega)
    refine Exists.intro (freeT true t) (Exists.intro (freeT true u) (Exists.intro m (And.intro ⟨rfl, h2, h4, hg, hm, hM⟩ ?_)))
    intro x y q hq2
    rw [hq] at hq2
    subst hq2
    cbv
    refine hB () _ _ (by decide) trivial ⟨congrArg I hnx, trivial⟩ ⟨rfl, rfl, rfl, rfl, rfl, rfl, rfl, trivial⟩ (.inr ⟨⟨_, rfl⟩, by simp, by simp [ltG, AV.lt, AV.ltL, keepS, look, gset], ⟨hlX 4, by simp [ltH, AObj.lt, AV.ltL, AV.lt, l1, l2, l3, l4, l5, l6, l7, l8]⟩⟩)

  · have hi3 : i = 4 := hi2
    subst hi3
    have hl4 : A.lt 4 4 = false := by subst hA; rfl
    refine SGo_run hA ⟨[], [], [], []⟩ .nil .nil 200 fun T TD hT hTD => ?_
    cbv
    split <;> cbv
    · rename_i hz; exact Bool.noConfusion (hl4.symm.trans hz)
    exact h
theorem TrkV.nid {L : Int} {t : Tck} {w s lo hi : Int} {ys xs : List AV} (h : TrkV L t w s lo hi ys xs) : AV.nidL ys = true ∧ AV.nidL xs = true :=
  ⟨by rw [h.ys]; exact nidL_hd _, by rw [h.xs]; exact nidL_map (fun _ => rfl) _⟩
theorem frame2 {f : Nat} {args : List AV} {Y : AObj} {T : AHeap} {r : AV} (ha : AV.nidL args = true) (hr : r.nid = true) (h0 : ACalls Tryz.prog f args [rawP] fun r' H' => r' = r ∧ H' = [rawP]) {Kk : AV → AHeap → Prop} (hk : Kk r (Y :: rawP :: T)) : ACalls Tryz.prog f args (Y :: rawP :: T) Kk := by
  have hf := ACalls.frame (H := Y :: rawP :: T) [1] h0 (by decide) rfl (AV.ltL_nid ha) (by simp [Go.Sas.ltH, AObj.lt, rawP, rawC, AV.ltL, AV.lt]) (fun k X hX => by
    match k with
    | 0 => simp at hX; subst hX; rw [rawP_ren]; rfl
    | k + 1 => simp at hX)
  rw [AV.renL_nid ha] at hf
  refine hf.mono fun r' H' hx => ?_
  obtain ⟨r0, H1, ⟨rfl, rfl⟩, _, rfl, rfl⟩ := hx
  rw [AV.ren_nid hr]
  simpa [merge, updL, more, rawP_ren, at_] using hk
theorem frame1 {f : Nat} {args : List AV} {H : AHeap} {r : AV} (hC : CasH H) (ha : AV.nidL args = true) (hr : r.nid = true) (h0 : ACalls Tryz.prog f args [rawP] fun r' H' => r' = r ∧ H' = [rawP]) {Kk : AV → AHeap → Prop} (hk : Kk r H) : ACalls Tryz.prog f args H Kk := by
  obtain ⟨T, hH⟩ := hC
  rcases hH with rfl | ⟨Y, rfl⟩
  rotate_left
  · exact frame2 ha hr h0 hk
  have hf := ACalls.frame (H := rawP :: T) [0] h0 (by decide) rfl (AV.ltL_nid ha) (by simp [Go.Sas.ltH, AObj.lt, rawP, rawC, AV.ltL, AV.lt]) (fun k X hX => by
    match k with
    | 0 => simp at hX; subst hX; rw [rawP_ren]; rfl
    | k + 1 => simp at hX)
  rw [AV.renL_nid ha] at hf
  refine hf.mono fun r' H' hx => ?_
  obtain ⟨r0, H1, ⟨rfl, rfl⟩, _, rfl, rfl⟩ := hx
  rw [AV.ren_nid hr]
  simpa [merge, updL, more, rawP_ren, at_] using hk
theorem p51 (L gap f : Int) (t u : Tck) (w s lo hi w' s' lo' hi' : Int) (ys xs zs vs ys' xs' zs' vs' : List AV) (m : Nat)
    (h1 : TrkV L t w s lo hi ys xs) (h2 : TrkV L (freeT true t) w s lo hi zs vs) (h3 : TrkV L u w' s' lo' hi' ys' xs') (h4 : TrkV L (freeT true u) w' s' lo' hi' zs' vs')
    (hg : 1 ≤ gap ∧ gap ≤ 100000) (hf : 0 ≤ f ∧ f ≤ 20) (hm : m ≤ 100000) (M : Int) (hM : M = iLen m)
    (hN : ∀ a b : Bool, (if a then 1 else 0) + (if b then 1 else 0) ≤ f → meetT L gap (freeT a t) (freeT b u) m = false) {H : AHeap} (hC : CasH H) {Kk : AV → AHeap → Prop}
    (h : Kk (.tup [mtV 0 0 0 false false 0 0, B false]) H) : ACalls Tryz.prog 51 [.agg [I gap, I f], prV (tkS w s lo hi L ys xs) (tkS w s lo hi L zs vs), prV (tkS w' s' lo' hi' L ys' xs') (tkS w' s' lo' hi' L zs' vs'), I M] H Kk := by
  refine frame1 hC ?_ ?_ (p51X rfl L gap f t u w s lo hi w' s' lo' hi' ys xs zs vs ys' xs' zs' vs' m h1 h2 h3 h4 hg hf hm M hM hN ⟨rfl, rfl⟩) h
  · simp [AV.nidL, AV.nid, h1.nid.1, h1.nid.2, h2.nid.1, h2.nid.2, h3.nid.1, h3.nid.2, h4.nid.1, h4.nid.2]
  · simp [AV.nidL, AV.nid]
end Go.Sas
