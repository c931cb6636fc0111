/-
An abstract machine over values, part 23: the run by reckoning, made plain step by step, for the kernel.
Conditions: none.
-/
import Derived.Test.YtndnjmpebpampaaDoorQAbs22
set_option linter.unusedVariables false
set_option linter.unusedSimpArgs false
namespace Go.Sas

noncomputable def gOkK (e : Env) (g : Option (Od × Bool)) : Option Bool := match g with
  | none => some true
  | some (x, want) => match evK e x with
    | .lit (.bool b) => some (b == want)
    | .lit (.tuple _) => some false
    | _ => none
theorem gOkK_eq {e : Env} {g : Option (Od × Bool)} : gOkK e g = gOk e g := by
  unfold gOkK gOk; rw [evK_eq]; rfl
noncomputable def callK (e : Env) (op : AOp) : Option (Nat × List AV) := match op with
  | .call f xs => match evK e f with
    | .fn fid caps => some (fid, xs.map (evK e) ++ caps)
    | _ => none
  | _ => none
theorem callK_eq {e : Env} {op : AOp} : callK e op = callF e op := by
  unfold callK callF; rw [evK_eq]; rfl

noncomputable def callXK (ct : CTab) (ft : FTab) (ih : XRun) (f : Nat) (args : List AV) (H : AHeap) : Option (AV × AHeap) := match fLook ft f with
  | some g => match g args with
    | some r => some (r, H)
    | none => none
  | none => match cLook ct f with
    | none => none
    | some E => match Nat.beq args.length E.np with
      | false => none
      | true => argsK 0 args fun a => match ih (.go [.code E.ac]) ⟨[], a⟩ H with
        | none => none
        | some (e', H') => retE E.fz E.rs H.length e' H'
theorem callXK_eq {ct : CTab} {ft : FTab} {ih : XRun} {f : Nat} {args : List AV} {H : AHeap} : callXK ct ft ih f args H = callX ct ft ih f args H := by
  unfold callXK callX
  simp only [argsK_eq]
  rfl

section
variable {β : Type}
noncomputable def pairK (x : Option (AV × AHeap)) (f : AV → AHeap → Option β) : Option β := match x with
  | some (r, H) => fAV r fun r => fHp H fun H => f r H
  | none => none
theorem pairK_eq {x : Option (AV × AHeap)} {f : AV → AHeap → Option β} : pairK x f = match x with | some (r, H) => f r H | none => none := by
  unfold pairK
  split
  · rw [fAV_eq, fHp_eq]
  · rfl

noncomputable def retV (x : Option AV) (f : AV → Option β) : Option β := match x with
  | some r => fAV r f
  | none => none
theorem retV_eq {x : Option AV} {f : AV → Option β} : retV x f = match x with | some r => f r | none => none := by
  unfold retV; cases x
  · rfl
  · simp only [fAV_eq]
noncomputable def fB (b : Bool) (f : AV → Option β) : Option β := match b with
  | true => f (.lit (.bool true))
  | false => f (.lit (.bool false))
theorem fB_eq {b : Bool} {f : AV → Option β} : fB b f = f (.lit (.bool b)) := by cases b <;> rfl
noncomputable def fW (n : Int) (f : AV → Option β) : Option β := fI (wrapK n) fun z => f (.lit (.int .i64 z))
theorem fW_eq {n : Int} {f : AV → Option β} : fW n f = f (.lit (.int .i64 (IntKind.i64.wrap n))) := by unfold fW; rw [fI_eq, wrapK_eq]
noncomputable def binI (op : BinOp) (m n : Int) (f : AV → Option β) : Option β := match op with
  | .add => fW (m + n) f
  | .sub => fW (m - n) f
  | .mul => fW (m * n) f
  | .eql => fB (eqK m n) f
  | .neq => fB (!eqK m n) f
  | .lss => fB (ltK m n) f
  | .leq => fB (!ltK n m) f
  | .gtr => fB (ltK n m) f
  | .geq => fB (!ltK m n) f
  | op => retV (binA op (.lit (.int .i64 m)) (.lit (.int .i64 n))) f
noncomputable def binF3 (op : BinOp) (m : Int) (b : AV) (u : Value) (f : AV → Option β) : Option β := match u with
  | .int .i64 n => binI op m n f
  | _ => retV (binA op (.lit (.int .i64 m)) b) f
noncomputable def binF2 (op : BinOp) (m : Int) (b : AV) (f : AV → Option β) : Option β := match b with
  | .lit u => binF3 op m (.lit u) u f
  | b => retV (binA op (.lit (.int .i64 m)) b) f
noncomputable def binF1 (op : BinOp) (u : Value) (b : AV) (f : AV → Option β) : Option β := match u with
  | .int .i64 m => binF2 op m b f
  | u => retV (binA op (.lit u) b) f
noncomputable def binF (op : BinOp) (a b : AV) (f : AV → Option β) : Option β := match a with
  | .lit u => binF1 op u b f
  | a => retV (binA op a b) f
theorem binF_eq {op : BinOp} {a b : AV} {f : AV → Option β} : binF op a b f = retV (binA op a b) f := by
  unfold binF
  split
  · unfold binF1
    split
    · unfold binF2
      split
      · unfold binF3
        split
        · unfold binI
          split <;> first
            | rfl
            | (simp only [fW_eq, fB_eq, retV_eq, binA, if_true, iAdd, iSub, iMul, ltK_eq, eqK_eq, leK_eq]; done)
            | (simp only [fW_eq, fB_eq, retV_eq, binA, if_true, iAdd, iSub, iMul, ltK_eq, eqK_eq, leK_eq]; rfl)
        · rfl
      · rfl
    · rfl
  · rfl
noncomputable def callKK (ct : CTab) (ft : FTab) (ih : XRun) (e : Env) (H : AHeap) (fv : AV) (xs : List Od) (f : AV → AHeap → Option β) : Option β := match fv with
  | .fn fid caps => fL (xs.map (evK e) ++ caps) fun args => pairK (callXK ct ft ih fid args H) f
  | _ => none
noncomputable def othK (e : Env) (H : AHeap) (op : AOp) (f : AV → AHeap → Option β) : Option β := match opVal (evK e) H op with
  | some r => fAV r fun r => f r H
  | none => pairK (opAct (evK e) H op) f

/-- one act -/
noncomputable def actK (ct : CTab) (ft : FTab) (ih : XRun) (e : Env) (H : AHeap) (op : AOp) (f : AV → AHeap → Option β) : Option β := match op with
  | .mv x => fA1 (evK e x) fun r => f r H
  | .bin op x y => binF op (evK e x) (evK e y) fun r => f r H
  | .call g xs => callKK ct ft ih e H (evK e g) xs f
  | .ld n a => retV (ldA H n (evK e a)) fun r => f r H
  | .fa x off => retV (faA H off (evK e x)) fun r => f r H
  | .ia sz x i => retV (iaA H sz (evK e x) (evK e i)) fun r => f r H
  | .len x => retV (lenA H (evK e x)) fun r => f r H
  | .st n a v => pairK (opAct (evK e) H (.st n a v)) f
  | op => othK e H op f
theorem actK_eq {ct : CTab} {ft : FTab} {ih : XRun} {e : Env} {H : AHeap} {op : AOp} {f : AV → AHeap → Option β} : actK ct ft ih e H op f = match actX ct ft ih e H op with | some (r, H) => f r H | none => none := by
  have hv : ∀ op, callF e op = none → actX ct ft ih e H op = opRun (ev e) H op := fun op h => by unfold actX; rw [h]
  have hr : ∀ {op : AOp} {x : Option AV}, opVal (ev e) H op = x → opAct (ev e) H op = none → callF e op = none → retV x (fun r => f r H) = match actX ct ft ih e H op with | some (r, H) => f r H | none => none := by
    intro op x h1 h2 h3
    rw [hv op h3]; unfold opRun; rw [h1, h2, retV_eq]
    cases x <;> rfl
  have ho : ∀ {op : AOp}, callF e op = none → othK e H op f = match actX ct ft ih e H op with | some (r, H) => f r H | none => none := by
    intro op h3
    rw [hv op h3]; unfold opRun othK; rw [evK_eq]
    cases opVal (ev e) H op with
    | some r => simp only; rw [fAV_eq]
    | none => simp only; rw [pairK_eq]
  unfold actK
  rw [evK_eq]
  split
  · rw [fA1_eq, hv _ rfl]; rfl
  · rw [binF_eq]; exact hr rfl rfl rfl
  · rename_i g xs
    generalize hq : ev e g = q
    by_cases hfn : ∃ fid caps, q = .fn fid caps
    · obtain ⟨fid, caps, rfl⟩ := hfn
      have hc : callF e (.call g xs) = some (fid, xs.map (ev e) ++ caps) := by simp only [callF, hq]
      simp only [callKK, actX, hc, evK_eq, fL_eq, pairK_eq, callXK_eq]
    · have hc : callF e (.call g xs) = none := by
        simp only [callF, hq]
        split
        · rename_i fid caps; exact absurd ⟨fid, caps, rfl⟩ hfn
        · rfl
      rw [hv _ hc]
      have : callKK ct ft ih e H q xs f = none := by
        unfold callKK
        split
        · rename_i fid caps; exact absurd ⟨fid, caps, rfl⟩ hfn
        · rfl
      rw [this]; rfl
  · exact hr rfl rfl rfl
  · exact hr rfl rfl rfl
  · exact hr rfl rfl rfl
  · exact hr rfl rfl rfl
  · rw [pairK_eq, hv _ rfl]; rfl
  · rename_i h1 h2 h3 h4 h5 h6 h7 h8
    refine ho ?_
    cases op <;> first | rfl | exact absurd rfl (h3 _ _)
end

noncomputable def drK (ct : CTab) (ft : FTab) (ih : XRun) (ck : Bool) (D : Option DM) (L : List DItm) (e : Env) (H : AHeap) : Option (Env × AHeap) := match L with
  | [] => clrK e fun e => some (e, H)
  | it :: l => match movB it.o.op with
    | true => match D with
      | none => none
      | some D' => match MValK (match ck with | true => D' | false => ⟨H, D'.base, D'.news, H, [], 0, []⟩) it e with
        | some r => fAV r fun r => putK e it.o.dst r fun e => ih (.dr ck D l) e H
        | none => none
    | false => match ck || !it.tail with
     | false => some (e, H)
     | true => match gOkK e it.o.grd with
      | none => none
      | some false => putK e it.o.dst (.lit undef) fun e => ih (.dr ck (nx D it) l) e H
      | some true => pairK (match callK e it.o.op with | some (f, args) => fL args fun args => callXK ct ft ih f args H | none => opAct (evK e) H it.o.op) fun r H' =>
        match !ck || keepB D it H H' with
          | true => putK e it.o.dst r fun e => ih (.dr ck (nx D it) l) e H'
          | false => none
theorem drK_eq {ct : CTab} {ft : FTab} {ih : XRun} {ck : Bool} {D : Option DM} {L : List DItm} {e : Env} {H : AHeap} : drK ct ft ih ck D L e H = drX ct ft ih ck D L e H := by
  unfold drK drX
  split
  · rw [clrK_eq]
  · rename_i it l
    simp only [fAV_eq, putK_eq, pairK_eq, gOkK_eq, callK_eq, evK_eq, fL_eq, callXK_eq]
    cases movB it.o.op with
    | true => rfl
    | false =>
      simp only
      cases hct : (ck || !it.tail) with
      | false => rfl
      | true =>
      simp only
      cases gOk e it.o.grd with
      | none => rfl
      | some b =>
        cases b with
        | false => rfl
        | true =>
          simp only
          cases callF e it.o.op with
          | none => simp only; cases opAct (ev e) H it.o.op <;> rfl
          | some x => obtain ⟨f, args⟩ := x; simp only; cases callX ct ft ih f args H <;> rfl

noncomputable def drawK (ih : XRun) (L : List DItm) (e : Env) (H : AHeap) : Option (Env × AHeap) :=
  fHp (H ++ kept L) fun H1 => fN H.length fun b => match L.any (fun it => !movB it.o.op && !it.tail && !isCallB it.o.op) with
    | false => fHp (mask [] H) fun M => fHp (mask (us1 L []) H) fun M1 => ih (.dr true (some ⟨M, b, (newsOf L).map (·.1), M1, [], 0, []⟩) L) e H1
    | true => match ih (.dr false (some ⟨H, b, (newsOf L).map (·.1), H, [], 0, []⟩) L) e H1 with
      | none => fHp (mask [] H) fun M => fHp (mask (us1 L []) H) fun M1 => ih (.dr true (some ⟨M, b, (newsOf L).map (·.1), M1, [], 0, []⟩) L) e H1
      | some (_, H2) => fHp (mask (diffIds 0 H H2) H) fun M => fHp (mask (us1 L (diffIds 0 H H2)) H) fun M1 => ih (.dr true (some ⟨M, b, (newsOf L).map (·.1), M1, [], 0, []⟩) L) e H1
noncomputable def drawKB (ih : XRun) (L : List DItm) (e : Env) (H : AHeap) : Option (Env × AHeap) := match drawK ih L e H with
  | some x => some x
  | none => drawX2 ih L e H
theorem drawK_eq {ih : XRun} {L : List DItm} {e : Env} {H : AHeap} : drawK ih L e H = drawX ih L e H := by
  unfold drawK drawX
  simp only [fHp_eq, fN_eq]
  split
  · rename_i h; simp only [h]
  · rename_i h
    simp only [h]
    split <;> rename_i h2 <;> simp only [h2]

theorem drawKB_eq {ih : XRun} {L : List DItm} {e : Env} {H : AHeap} : drawKB ih L e H = drawB ih L e H := by
  unfold drawKB drawB; rw [drawK_eq]
  cases drawX ih L e H <;> rfl

noncomputable def doK (ct : CTab) (ft : FTab) (ih : XRun) (d : Option (Bool × Nat)) (op : AOp) (rest : List AOper) (k : List XItm) (e : Env) (H : AHeap) : Option (Env × AHeap) :=
  actK ct ft ih e H op fun r H => putK e d r fun e => ih (.go (.ops rest :: k)) e H
noncomputable def grdK (ct : CTab) (ft : FTab) (ih : XRun) (d : Option (Bool × Nat)) (op : AOp) (g : Option (Od × Bool)) (rest : List AOper) (k : List XItm) (e : Env) (H : AHeap) : Option (Env × AHeap) := match gOkK e g with
  | none => none
  | some b => match b with
    | false => putK e d (.lit undef) fun e => ih (.go (.ops rest :: k)) e H
    | true => doK ct ft ih d op rest k e H
noncomputable def operK (ct : CTab) (ft : FTab) (ih : XRun) (o : AOper) (rest : List AOper) (k : List XItm) (e : Env) (H : AHeap) : Option (Env × AHeap) := match o with
  | ⟨d, op, g⟩ => match g with
    | none => doK ct ft ih d op rest k e H
    | some g => grdK ct ft ih d op (some g) rest k e H
noncomputable def opsK (ct : CTab) (ft : FTab) (ih : XRun) (l : List AOper) (k : List XItm) (e : Env) (H : AHeap) : Option (Env × AHeap) := match l with
  | [] => clrK e fun e => ih (.go k) e H
  | o :: rest => operK ct ft ih o rest k e H
noncomputable def exitK (ih : XRun) (x : Option (List XItm)) (e : Env) (H : AHeap) : Option (Env × AHeap) := match x with
  | some k' => ih (.go k') e H
  | none => none
noncomputable def condK (ih : XRun) (a : AV) (x y : ACode) (k : List XItm) (e : Env) (H : AHeap) : Option (Env × AHeap) := match a with
  | .lit (.bool true) => ih (.go (.code x :: k)) e H
  | .lit (.bool false) => ih (.go (.code y :: k)) e H
  | _ => none
noncomputable def afterK (ih : XRun) (k : List XItm) (x : Option (Env × AHeap)) : Option (Env × AHeap) := match x with
  | some (e', H') => ih (.go k) e' H'
  | none => none
noncomputable def codeK (ih : XRun) (c : ACode) (k : List XItm) (e : Env) (H : AHeap) : Option (Env × AHeap) := match c with
  | .skip => ih (.go k) e H
  | .ret => some (e, H)
  | .seq x y => ih (.go (.code x :: .code y :: k)) e H
  | .block i x => ih (.go (.code x :: .blk i :: k)) e H
  | .exit i => exitK ih (exitX i k) e H
  | .cond z x y => condK ih (evK e z) x y k e H
  | .loop c => clrK e fun e => ih (.go (.code c :: .lp c :: k)) e H
  | .reg l => ih (.go (.ops l :: k)) e H
  | .draw L => afterK ih k (drawKB ih L e H)
  | _ => none
noncomputable def itmK (ct : CTab) (ft : FTab) (ih : XRun) (x : XItm) (k : List XItm) (e : Env) (H : AHeap) : Option (Env × AHeap) := match x with
  | .code c => codeK ih c k e H
  | .ops l => opsK ct ft ih l k e H
  | .blk _ => ih (.go k) e H
  | .lp c => clrK e fun e => ih (.go (.code c :: .lp c :: k)) e H
noncomputable def goK (ct : CTab) (ft : FTab) (ih : XRun) (k : List XItm) (e : Env) (H : AHeap) : Option (Env × AHeap) := match k with
  | [] => some (e, H)
  | x :: k => itmK ct ft ih x k e H
noncomputable def bodyK (ct : CTab) (ft : FTab) (ih : XRun) : XRun := fun m e H => match m with
  | .dr ck D L => drK ct ft ih ck D L e H
  | .go k => goK ct ft ih k e H
theorem bodyK_eq {ct : CTab} {ft : FTab} {ih : XRun} : ∀ {m : XMode} {e : Env} {H : AHeap}, bodyK ct ft ih m e H = bodyX ct ft ih m e H
  | .dr ck D L, e, H => by simp only [bodyK, bodyX, drK_eq]
  | .go [], e, H => rfl
  | .go (.blk _ :: k), e, H => rfl
  | .go (.lp c :: k), e, H => rfl
  | .go (.ops [] :: k), e, H => rfl
  | .go (.ops (⟨d, op, none⟩ :: rest) :: k), e, H => by
    simp only [bodyK, goK, itmK, opsK, operK, doK, bodyX, putK_eq, actK_eq, gOk]
    rfl
  | .go (.ops (⟨d, op, some g⟩ :: rest) :: k), e, H => by
    simp only [bodyK, goK, itmK, opsK, operK, grdK, doK, bodyX, gOkK_eq, putK_eq, actK_eq]
    cases gOk e (some g) with
    | none => rfl
    | some b => cases b <;> rfl
  | .go (.code c :: k), e, H => by
    cases c <;> simp only [bodyK, goK, itmK, codeK, bodyX, clrK_eq, evK_eq, drawKB_eq, exitK, condK, afterK] <;> rfl

noncomputable def exK (ct : CTab) (ft : FTab) (n : Nat) : XRun := Nat.rec (fun _ _ _ => none) (fun _ ih => bodyK ct ft ih) n
theorem exK_eq {ct : CTab} {ft : FTab} : ∀ {n : Nat}, exK ct ft n = ex ct ft n
  | 0 => rfl
  | n + 1 => by
    funext m e H
    have : exK ct ft (n + 1) = bodyK ct ft (exK ct ft n) := rfl
    rw [this, ex, exK_eq, bodyK_eq]

/-- what is reckoned is so: of a function that leaves nothing behind -/
noncomputable def outK (x : Option (AV × AHeap)) : Option AV := match x with
  | some (r, []) => some r
  | _ => none
noncomputable def runK (ct : CTab) (ft : FTab) (n f : Nat) (args : List AV) : Option AV := outK (callXK ct ft (exK ct ft n) f args [])
theorem runK_calls {P : Program} {ct : CTab} {ft : FTab} (hct : CTabOk P ct) (hft : FTabOk P ft) {n f : Nat} {args : List AV} {r : AV} (h : runK ct ft n f args = some r) : ACalls P f args [] fun r' H' => r' = r ∧ H' = [] := by
  unfold runK outK at h
  split at h
  · rename_i r0 hr
    cases h
    rw [callXK_eq, exK_eq] at hr
    exact ex_calls hct hft hr ⟨rfl, rfl⟩
  · cases h
/-- for tables: a value of truth -/
noncomputable def isTrueK (x : Option AV) : Bool := match x with
  | some (.lit (.bool true)) => true
  | _ => false
theorem isTrueK_spec {x : Option AV} (h : isTrueK x = true) : x = some (.lit (.bool true)) := by
  unfold isTrueK at h
  split at h
  · rfl
  · cases h
end Go.Sas
