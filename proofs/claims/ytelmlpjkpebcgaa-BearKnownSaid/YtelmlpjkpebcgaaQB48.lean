/-
BearKnown: what a verdict on the plate of the examples is: an entry of the table of functions; the run by reckoning: verdicts.
Conditions: none.
-/
import Derived.Test.YtelmlpjkpebcgaaJ8
set_option linter.unusedVariables false
set_option linter.unusedSimpArgs false
namespace Go.Sas
open Go.Proofs
set_option maxRecDepth 100000
def unSp : List AV → Option (List (Int × Int))
  | [] => some []
  | .agg [.lit (.int .i64 a), .lit (.int .i64 b)] :: t => match unSp t with
    | some l => some ((a, b) :: l)
    | none => none
  | _ => none
theorem unSp_ok : ∀ {xs : List AV} {l : List (Int × Int)}, unSp xs = some l → xs = l.map sp
  | [], l, h => by simp [unSp] at h; subst h; rfl
  | x :: t, l, h => by
    unfold unSp at h
    split at h
    · rename_i h0; cases h0
    · rename_i a b t' h0
      cases h0
      split at h
      · rename_i l' hl
        cases h
        rw [unSp_ok hl]; rfl
      · cases h
    · cases h
def unLd : List AV → Option (List Load)
  | [] => some []
  | .agg [.lit (.int .i64 m), .lit (.int .i64 a), .lit (.int .i64 b), .lit (.int .i64 s)] :: t => match unLd t with
    | some l => some (⟨m, (a, b), s⟩ :: l)
    | none => none
  | _ => none
theorem unLd_ok : ∀ {xs : List AV} {l : List Load}, unLd xs = some l → xs = l.map ldV
  | [], l, h => by simp [unLd] at h; subst h; rfl
  | x :: t, l, h => by
    unfold unLd at h
    split at h
    · rename_i h0; cases h0
    · rename_i m a b s t' h0
      cases h0
      split at h
      · rename_i l' hl
        cases h
        rw [unLd_ok hl]; rfl
      · cases h
    · cases h
theorem plP_is : PlateIs plP 40000 50000 (plP.shares.map sp) (plP.creep.map sp) 5 500000 98 640000 1440000 50 250000 := ⟨rfl, rfl, rfl, rfl, rfl, rfl, rfl, rfl, rfl, rfl⟩
theorem exV_is : exV = plV 40000 50000 (.vs 2 (plP.shares.map sp)) (.vs 2 (plP.creep.map sp)) 5 500000 98 640000 1440000 50 250000 := rfl
def g87 : List AV → Option AV
  | [pl, ic, cc, ls, .lit (.int .i64 (.ofNat j))] => match avEq pl exV, asVs 2 ic, asVs 2 cc, asVs 4 ls with
    | true, some xi, some xc, some xl => match unSp xi, unSp xc, unLd xl with
      | some ice, some cr, some l => match l[j]? with
        | some y => match decide (checkAllS plP ice cr = 0) && decide (l.length ≤ 30) && l.all (fun x => decide (loadE ice.length x = 0)) with
          | true => some (I (veS plP ice cr l y))
          | false => none
        | none => none
      | _, _, _ => none
    | _, _, _, _ => none
  | _ => none
theorem g87_ok : ∀ args r, g87 args = some r → ∀ (H : AHeap) (Kk : AV → AHeap → Prop), Kk r H → ACalls Try.prog 87 args H Kk := by
  intro args r h H Kk hk
  unfold g87 at h
  split at h
  · rename_i pl ic cc ls j
    split at h
    · rename_i xi xc xl e1 e2 e3 e4
      split at h
      · rename_i ice cr l f1 f2 f3
        split at h
        · rename_i y hy
          split at h
          · rename_i hc
            simp only [Bool.and_eq_true, decide_eq_true_eq, List.all_eq_true] at hc
            have h := Option.some.inj h
            have hV := checkAllS_ok hc.1.1
            have hL : LoadsV ice.length l := ⟨hc.1.2, fun x hx => loadE_ok (hc.2 x hx)⟩
            have hp := avEq_spec e1
            subst hp
            rw [exV_is]
            have := p87 plP plP_is ice cr l hV hL j y hy H (Kk := Kk) (by rw [h]; exact hk)
            rw [← unSp_ok f1, ← unSp_ok f2, ← unLd_ok f3] at this
            exact this.wk ⟨Wk.rfl, asVs_wk e2, asVs_wk e3, asVs_wk e4, Wk.rfl, trivial⟩
          · cases h
        · cases h
      · cases h
    · cases h
  · cases h
def ft87 : FTab := [(87, g87)]
theorem ft87_ok : FTabOk Try.prog ft87 := .cons g87_ok .nil
theorem r80 : runK ctV ft87 5200 80 [] = some (.lit (.bool true)) := by kernel_rfl
end Go.Sas
