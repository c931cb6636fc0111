/-
FreightKnown: the examples of shares, bills and files: contract.
FreightKnown: the law's core.
Conditions: none.
-/
import Derived.Test.YtndnjmpebpampaaDoorXAf
import Derived.Test.YtndnjmpebpampaaDoorXKf
import Derived.Test.YtndnjmpebpampaaDoorQSY1
import Derived.Test.YtndnjmpebpampaaDoorP8f
import Derived.Test.YtndnjmpebpampaaDoorHFf
set_option linter.unusedVariables false
set_option linter.unusedSimpArgs false
namespace Go.Sas
open Go.Proofs
set_option maxRecDepth 100000
/-- where a function returns that began at these objects -/
def RetH (rs : List ARes) (H0 : AHeap) (Kk : AV → AHeap → Prop) (e : Env) (H : AHeap) : Prop := match aResL e H rs with
  | none => False
  | some vs => match AV.ltB H0.length (aTup vs) with
    | true => H.take H0.length = H0 ∧ Kk (aTup vs) H0
    | false => Kk (aTup vs) H
theorem RetH.p {rs : List ARes} {H0 H : AHeap} {Kk : AV → AHeap → Prop} {e : Env} (h0 : ltHB H0.length H0 = true) (h : RetH rs H0 Kk e H) : RetP rs H0.length Kk e H := by
  unfold RetH at h
  unfold RetP
  split at h
  · exact h.elim
  · rename_i vs hvs
    rw [hvs]
    simp only
    split at h
    · rename_i hb
      obtain ⟨h1, h2⟩ := h
      rw [hb, h1, h0]
      exact h2
    · rename_i hb
      rw [hb]
      exact h
/-- the table of powers lies in the second object -/
structure Tb1 (H : AHeap) (g : Nat) (ob : Obj) : Prop where
  p : ∃ T, H = .own 0 [] :: rawG 1 g ob :: T
  g : Tryd.prog.globalNamed "internal/strconv.uint64pow10" = some g
  ob : TabOb ob
theorem Tb1.pins {H : AHeap} {g : Nat} {ob : Obj} (h : Tb1 H g ob) : Pins H g ob := fun st w hH => by
  obtain ⟨T, rfl⟩ := h.p
  exact rawG_heap hH (id := 1) rfl
def txS : List UInt8 := [115, 101, 97, 115, 111, 110, 32, 49, 32, 50, 32, 52, 32, 53, 10, 99, 97, 112, 32, 50, 32, 51, 10, 99, 97, 112, 32, 50, 32, 51, 10, 99, 97, 112, 32, 50, 32, 51, 10, 99, 97, 112, 32, 50, 32, 51, 10, 99, 97, 112, 32, 50, 32, 51, 10, 99, 97, 112, 32, 50, 32, 51, 10, 99, 97, 112, 32, 50, 32, 51, 10, 111, 114, 100, 101, 114, 32, 52, 32, 51, 32, 53, 32, 50, 48, 10, 111, 114, 100, 101, 114, 32, 53, 32, 53, 32, 49, 32, 49, 48, 10]
def tab33 : List (List AV × AV) := [([seaA], .tup [.lit (.string ⟨txS.toArray⟩), I 0])]
theorem txS_ok : writeF seaF = txS := by decide +kernel
/-- an entry of a table of what is known of some arguments where the table of powers lies in the second object -/
def eAscT (g : Nat) (ob : Obj) (l : List (List AV × AV)) : List AV → AHeap → Option PT := fun args H => match asc l args with
  | some r => some fun K => ∃ _u : Unit, Tb1 H g ob ∧ K r H
  | none => none
theorem eAscT_ok {g : Nat} {ob : Obj} : ∀ args H pt, eAscT g ob tab33 args H = some pt → ∀ (Kk : AV → AHeap → Prop), pt Kk → ACalls Tryd.prog 33 args H Kk := by
  intro args H pt h Kk hk
  unfold eAscT at h
  split at h
  · rename_i r hr
    cases h
    obtain ⟨_, hT, hk⟩ := hk
    unfold tab33 asc at hr
    split at hr
    · rename_i hb
      have hr := Option.some.inj hr
      rw [← avEqL_spec hb]
      refine w9 seaF (by decide) (by decide) H hT.pins hT.g hT.ob ?_
      rw [txS_ok, show checkF seaF = 0 by decide]
      rw [← hr] at hk
      exact hk
    · simp [asc] at hr
  · cases h
theorem p17 {X : AObj} {g : Nat} {ob : Obj} (hX : X = rawG 1 g ob) (hg : Tryd.prog.globalNamed "internal/strconv.uint64pow10" = some g) (hob : TabOb ob) {Kk : AV → AHeap → Prop} (h : Kk (B true) [.own 0 [], X]) : ACalls Tryd.prog 17 [] [.own 0 [], X] Kk := by
  have hlt : ltHB 2 [.own 0 [], X] = true := by subst hX; rfl
  have hT1 : ∀ T, Tb1 (.own 0 [] :: X :: T) g ob := fun T => ⟨⟨T, by rw [hX]⟩, hg, hob⟩
  clear hX hg hob
  have hA : std = std := rfl
  refine go17 rfl (AGo.weaken (SGo_run (R := RetH _ [.own 0 [], X] Kk) hA ⟨[], [], (4, eAsc tab4) :: (7, eAsc tab7) :: (9, eAsc tab9) :: (16, eAsc tab16) :: (31, eAsc tab31) :: (32, eAsc tab32) :: [], (33, eAscT g ob tab33) :: []⟩ (.cons (eAsc_ok tab4_ok) (.cons (eAsc_ok tab7_ok) (.cons (eAsc_ok tab9_ok) (.cons (eAsc_ok tab16_ok) (.cons (eAsc_ok tab31_ok) (.cons (eAsc_ok tab32_ok) .nil)))))) (.cons eAscT_ok .nil) 200 fun T TD hT hTD => ?_) (fun _ _ _ h => RetH.p hlt h) (by simp))
  cbv
  refine Exists.intro () (And.intro (hT1 _) ?_); cbv
  exact h
theorem rawG_ren {id g : Nat} {ob : Obj} {l : List Nat} (h : at_ l id = id) : (rawG id g ob).ren l = rawG id g ob := by
  simp [rawG, AObj.ren, AV.renL, AV.ren, h]
theorem p17T {H : AHeap} {g : Nat} {ob : Obj} (hT : Tb1 H g ob) {Kk : AV → AHeap → Prop} (hk : Kk (B true) H) : ACalls Tryd.prog 17 [] H Kk := by
  obtain ⟨⟨T, rfl⟩, hg, hob⟩ := hT
  have h0 := p17 (Kk := fun r H' => r = B true ∧ H' = [.own 0 [], rawG 1 g ob]) rfl hg hob ⟨rfl, rfl⟩
  have hf := ACalls.frame (H := .own 0 [] :: rawG 1 g ob :: T) [0, 1] h0 (by decide) rfl (AV.ltL_nid rfl) (by simp [Go.Sas.ltH, AObj.lt, rawG, AV.ltL, AV.lt]) (fun k X hX => by
    match k with
    | 0 => simp at hX; subst hX; rfl
    | 1 => simp at hX; subst hX; rw [rawG_ren rfl]; rfl
    | k + 2 => simp at hX)
  refine hf.mono fun r H' hx => ?_
  obtain ⟨r0, H1, ⟨rfl, rfl⟩, _, rfl, rfl⟩ := hx
  rw [AV.ren_nid rfl]
  simpa [merge, updL, more, rawG, AObj.ren, AV.renL, AV.ren, at_] using hk
def eT1 (g : Nat) (ob : Obj) : List AV → AHeap → Option PT
  | [], H => some fun K => ∃ _u : Unit, Tb1 H g ob ∧ K (B true) H
  | _, _ => none
theorem eT1_ok {g : Nat} {ob : Obj} : ∀ args H pt, eT1 g ob args H = some pt → ∀ (Kk : AV → AHeap → Prop), pt Kk → ACalls Tryd.prog 17 args H Kk := by
  intro args H pt h Kk hk
  unfold eT1 at h
  split at h
  · cases h
    obtain ⟨_, hT, hk⟩ := hk
    exact p17T hT hk
  · cases h
end Go.Sas
namespace Go.Sas
open Go.Proofs
set_option maxRecDepth 100000
def eT0 : List AV → Option ((AV → Prop) → Prop)
  | [] => some fun K => K (B true)
  | _ => none
theorem eT0_ok {f : Nat} (hf : ∀ (H : AHeap) {Kk : AV → AHeap → Prop}, Kk (B true) H → ACalls Tryd.prog f [] H Kk) : ∀ args pt, eT0 args = some pt → ∀ (H : AHeap) (Kk : AV → AHeap → Prop), pt (fun r => Kk r H) → ACalls Tryd.prog f args H Kk := by
  intro args pt h H Kk hk
  unfold eT0 at h
  split at h
  · cases h; exact hf H hk
  · cases h
set_option maxHeartbeats 4000000 in
theorem core3 {X : AObj} {g : Nat} {ob : Obj} (hX : X = rawG 1 g ob) (hg : Tryd.prog.globalNamed "internal/strconv.uint64pow10" = some g) (hob : TabOb ob) :
    ACalls Tryd.prog 3 [] [.own 0 [], X] fun r H' => r = .lit (.bool true) ∧ H' = [.own 0 [], X] := by
  obtain ⟨Kk, hKk⟩ : ∃ K : AV → AHeap → Prop, K = fun r H' => r = .lit (.bool true) ∧ H' = [.own 0 [], X] := ⟨_, rfl⟩
  rw [← hKk]
  have h : Kk (B true) [.own 0 [], X] := by rw [hKk]; exact ⟨rfl, rfl⟩
  clear hKk
  have hlt : ltHB 2 [.own 0 [], X] = true := by subst hX; rfl
  have hlX : X.lt 2 := by subst hX; simp [AObj.lt, rawG, AV.ltL, AV.lt]
  have hT1 : ∀ T, Tb1 (.own 0 [] :: X :: T) g ob := fun T => ⟨⟨T, by rw [hX]⟩, hg, hob⟩
  clear hX hg hob
  have hA : std = std := rfl
  refine go3 rfl (AGo.weaken (SGo_run (R := RetH _ [.own 0 [], X] Kk) hA ⟨[], [7, 8, 9, 1000024], [], (4, eSeaM) :: []⟩ .nil (.cons eSeaM_ok .nil) 200 fun T TD hT hTD => ?_) (fun _ _ _ h => RetH.p hlt h) (by simp))
  cbv
  repeat (refine And.intro (.inr ⟨by rcases X with _ | ⟨g, _ | ⟨c, cs⟩⟩ | _ <;> simp [SubH], trivial⟩) ?_; cbv)
  rw [hT]
  have hE1 : Elems 4 (seaF.ords.map orV) [I 4, I 3, I 5, I 20, I 5, I 5, I 1, I 10] := Elems_map (f := orV) (g := orC4) (sz := 4) (fun _ => rfl) (fun _ => rfl) (fun _ => rfl) seaF.ords
  have hE2 : Elems 4 (dearL.map orV) [I 4, I 3, I 21, I 20, I 5, I 5, I 1, I 10] := Elems_map (f := orV) (g := orC4) (sz := 4) (fun _ => rfl) (fun _ => rfl) (fun _ => rfl) dearL
  refine SGo_run (R := RetH _ [.own 0 [], X] Kk) hA ⟨[], [1000047], (4, eAsc tab4) :: (5, eT0) :: [], (6, eMut (eAsc tab6)) :: []⟩ (.cons (eAsc_ok tab4_ok) (.cons (eT0_ok p5) .nil)) (.cons (eMut_ok (eAsc_ok tab6_ok)) .nil) 200 fun T TD hT hTD => ?_
  cbv
  refine Exists.intro (seaF.ords.map orV) (And.intro ⟨rfl, hE1, rfl⟩ ?_); cbv
  refine Exists.intro (seaF.ords.map orV) (And.intro ⟨rfl, hE1, rfl⟩ ?_); cbv
  refine Exists.intro (dearL.map orV) (And.intro ⟨rfl, hE2, rfl⟩ ?_); cbv
  rw [hT]
  refine SGo_run (R := RetH _ [.own 0 [], X] Kk) hA ⟨[], [], (4, eAsc tab4) :: (7, eAsc tab7) :: (8, eAsc tab8) :: (9, eAsc tab9) :: (10, eAsc tab10) :: (11, eAsc tab11) :: (12, eAsc tab12) :: (13, eAsc tab13) :: (14, eAsc tab14) :: (15, eSpan) :: (16, eAsc tab16) :: [], (17, eT1 g ob) :: []⟩ (.cons (eAsc_ok tab4_ok) (.cons (eAsc_ok tab7_ok) (.cons (eAsc_ok tab8_ok) (.cons (eAsc_ok tab9_ok) (.cons (eAsc_ok tab10_ok) (.cons (eAsc_ok tab11_ok) (.cons (eAsc_ok tab12_ok) (.cons (eAsc_ok tab13_ok) (.cons (eAsc_ok tab14_ok) (.cons eSpan_ok (.cons (eAsc_ok tab16_ok) .nil))))))))))) (.cons eT1_ok .nil) 200 fun T TD hT hTD => ?_
  cbv
  refine Exists.intro () (And.intro (hT1 _) ?_); cbv
  refine And.intro (.inr ⟨by rcases X with _ | ⟨g, _ | ⟨c, cs⟩⟩ | _ <;> simp [SubH], .inr (by rcases X with _ | ⟨g, _ | ⟨c, cs⟩⟩ | _ <;> simp [SubH])⟩) ?_; cbv
  exact h
end Go.Sas
