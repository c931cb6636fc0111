/-
ProbeKnown: the examples of marks: contract.
ProbeKnown: the examples of stale places and closures: contract.
ProbeKnown: the examples of tracks: contract.
ProbeKnown: the law's core.
Conditions: none.
-/
import Derived.Test.YtpokfjhlilbpfaaDoorXHd
import Derived.Test.YtpokfjhlilbpfaaDoorXJd
import Derived.Test.YtpokfjhlilbpfaaDoorP7d
import Derived.Test.YtpokfjhlilbpfaaDoorP8d
import Derived.Test.YtpokfjhlilbpfaaDoorXCd
import Derived.Test.YtpokfjhlilbpfaaDoorQPW7
import Derived.Test.YtpokfjhlilbpfaaDoorQSY1
set_option linter.unusedVariables false
set_option linter.unusedSimpArgs false
namespace Go.Sas
open Go.Proofs
set_option maxRecDepth 100000
theorem tab6_ok : AscOk Tryd.prog 6 [([], rdA)] := .cons (fun H Kk hk => p6 H hk) .nil
theorem tab7_ok : AscOk Tryd.prog 7 [([], lkA exL)] := .cons (fun H Kk hk => p7 H hk) .nil
def tab6 : List (List AV × AV) := [([], rdA)]
def tab19 : List (List AV × AV) := [([ptA cv1, ptA cv1], B true), ([ptA cv2, ptA cv2], B true)]
theorem p12 (H : AHeap) {Kk : AV → AHeap → Prop} (h : Kk (B true) H) : ACalls Tryd.prog 12 [] H Kk := by
  refine (fun q => pureC (by rfl) (by rfl) q H h) ?_
  clear h
  intro Kk h
  obtain ⟨A, hA⟩ : ∃ A, A = std := ⟨_, rfl⟩
  have e0 : A.eq 0 0 = true := by subst hA; rfl
  refine go12 rfl (SGo_run hA ⟨[], [], (6, eAsc tab6) :: (18, eAsc tab18) :: (19, eAsc tab19) :: [], []⟩ (.cons (eAsc_ok tab6_ok) (.cons (eAsc_ok tab18_ok) (.cons (eAsc_ok tab19_ok) .nil))) .nil 200 fun T TD hT hTD => ?_)
  cbv
  repeat' (split <;> first | (rename_i hz; exact Bool.noConfusion (hz.symm.trans e0)) | cbv)
  all_goals exact h
end Go.Sas
namespace Go.Sas
open Go.Proofs
set_option maxRecDepth 100000
theorem p7m {Kk : AV → AHeap → Prop} (h : Kk (.ms 5 0 0 0 1) [.own 0 [I 1, I 0, I 10, I 500, I 500]]) : ACalls Tryd.prog 7 [] [] Kk := by
  obtain ⟨A, hA⟩ : ∃ A, A = std := ⟨_, rfl⟩
  refine go7m rfl (SGo_run hA ⟨[], [], (10, eCore) :: [], []⟩ (.cons eCore_ok .nil) .nil 200 fun T TD hT hTD => ?_)
  cbv
  exact h
def eLkM : List AV → AHeap → Option PT
  | [], [] => some fun K => K (.ms 5 0 0 0 1) [.own 0 [I 1, I 0, I 10, I 500, I 500]]
  | _, _ => none
theorem eLkM_ok : ∀ args H pt, eLkM args H = some pt → ∀ (Kk : AV → AHeap → Prop), pt Kk → ACalls Tryd.prog 7 args H Kk := by
  intro args H pt h Kk hk
  unfold eLkM at h
  split at h
  · cases h; exact p7m hk
  · cases h
def tab7 : List (List AV × AV) := [([], lkA exL)]
def tab24 : List (List AV × AV) := [([.vs 2 [spA 1 4], .vs 2 [spA 1 4]], B true)]
def tab25 : List (List AV × AV) := [([.vs 1 [I 3], .vs 1 [I 3]], B true), ([.vs 1 [I 1], .vs 1 [I 1]], B true)]
def tab26 : List (List AV × AV) := [([ptA [(4, 4, 1)], ptA [(4, 4, 1)]], B true)]
set_option maxHeartbeats 2000000 in
theorem p13 (H : AHeap) {Kk : AV → AHeap → Prop} (h : Kk (B true) H) : ACalls Tryd.prog 13 [] H Kk := by
  refine (fun q => pureC (by rfl) (by rfl) q H h) ?_
  clear h
  intro Kk h
  have hA : std = std := rfl
  refine go13 rfl (SGo_run hA ⟨[], [1000024], (6, eAsc tab6) :: (7, eAsc tab7) :: (20, eAsc tab20) :: (21, eAsc tab21) :: [], []⟩ (.cons (eAsc_ok tab6_ok) (.cons (eAsc_ok tab7_ok) (.cons (eAsc_ok tab20_ok) (.cons (eAsc_ok tab21_ok) .nil)))) .nil 200 fun T TD hT hTD => ?_)
  cbv
  rw [hT]
  refine SGo_run hA ⟨[], [1000030], (4, eSpn) :: [], (7, eLkM) :: []⟩ (.cons eSpn_ok .nil) (.cons eLkM_ok .nil) 200 fun T TD hT hTD => ?_
  cbv
  rw [hT]
  refine AGo_frzS 6 (id := 0) (g := 1) (n := 2) (xs := exL3.map lkV) rfl rfl rfl (Elems_map (f := lkV) (g := fun x : Lk => [I x.k, I x.p, I x.h, I x.lo, I x.hi]) (sz := 5) (fun _ => rfl) (fun _ => rfl) (fun _ => rfl) exL3) ?_
  refine SGo_run hA ⟨[], [], (6, eAsc tab6) :: (7, eAsc tab7) :: (22, eAsc tab22) :: (23, eAsc tab23) :: (4, eSpn) :: (24, eAsc tab24) :: (25, eAsc tab25) :: (26, eAsc tab26) :: [], []⟩ (.cons (eAsc_ok tab6_ok) (.cons (eAsc_ok tab7_ok) (.cons (eAsc_ok tab22_ok) (.cons (eAsc_ok tab23_ok) (.cons eSpn_ok (.cons (eAsc_ok tab24_ok) (.cons (eAsc_ok tab25_ok) (.cons (eAsc_ok tab26_ok) .nil)))))))) .nil 200 fun T TD hT hTD => ?_
  cbv
  exact h
end Go.Sas
namespace Go.Sas
open Go.Proofs
set_option maxRecDepth 100000
/-- where a function returns that began at these objects -/
def RetH (rs : List ARes) (H0 : AHeap) (Kk : AV → AHeap → Prop) (e : Env) (H : AHeap) : Prop := match aResL e H rs with
  | none => False
  | some vs => match AV.ltB H0.length (aTup vs) with
    | true => H.take H0.length = H0 ∧ Kk (aTup vs) H0
    | false => Kk (aTup vs) H
theorem RetH.p {rs : List ARes} {H0 H : AHeap} {Kk : AV → AHeap → Prop} {e : Env} (h0 : ltHB H0.length H0 = true) (h : RetH rs H0 Kk e H) : RetP rs H0.length Kk e H := by
  unfold RetH at h
  unfold RetP
  split at h
  · exact h.elim
  · rename_i vs hvs
    rw [hvs]
    simp only
    split at h
    · rename_i hb
      obtain ⟨h1, h2⟩ := h
      rw [hb, h1, h0]
      exact h2
    · rename_i hb
      rw [hb]
      exact h
/-- the table of powers lies in the second object -/
structure Tb1 (H : AHeap) (g : Nat) (ob : Obj) : Prop where
  p : ∃ T, H = .own 0 [] :: rawG 1 g ob :: T
  g : Tryd.prog.globalNamed "internal/strconv.uint64pow10" = some g
  ob : TabOb ob
theorem Tb1.pins {H : AHeap} {g : Nat} {ob : Obj} (h : Tb1 H g ob) : Pins H g ob := fun st w hH => by
  obtain ⟨T, rfl⟩ := h.p
  exact rawG_heap hH (id := 1) rfl
def exT : Trk := ⟨(160, 170), [⟨2, 9, 6000, 6001⟩]⟩
def tkA : AV := tkV 160 170 (.vs 4 (exT.ec.map ecV))
def tab27 : List (List AV × AV) := [([tkA], .tup [lkA [⟨3, 2, 9, 480, 511⟩], I 0])]
theorem tab27_ok : AscOk Tryd.prog 27 tab27 :=
  .cons (fun H Kk hk => p27 exT (by decide) H (by unfold looksA; rw [show checkT exT = 0 by decide, show looksK exT = [⟨3, 2, 9, 480, 511⟩] by decide]; exact hk)) .nil
def tab29 : List (List AV × AV) := [([lkA [⟨3, 2, 9, 480, 511⟩], lkA [⟨3, 2, 9, 480, 511⟩]], B true)]
theorem tab29_ok : AscOk Tryd.prog 29 tab29 := .cons (fun H Kk hk => p29 [⟨3, 2, 9, 480, 511⟩] [⟨3, 2, 9, 480, 511⟩] (by decide) (by decide) H (by simpa using hk)) .nil
def txT : ByteArray := ⟨[114, 97, 100, 97, 114, 32, 49, 54, 48, 32, 49, 55, 48, 10, 101, 99, 104, 111, 32, 50, 32, 57, 32, 54, 48, 48, 48, 32, 54, 48, 48, 49, 10].toArray⟩
def tab28 : List (List AV × AV) := [([tkA], .tup [.lit (.string txT), I 0])]
theorem txT_ok : writeK exT = [114, 97, 100, 97, 114, 32, 49, 54, 48, 32, 49, 55, 48, 10, 101, 99, 104, 111, 32, 50, 32, 57, 32, 54, 48, 48, 48, 32, 54, 48, 48, 49, 10] := by decide +kernel
/-- an entry of a table of what is known of some arguments where the table of powers lies in the second object -/
def eAscT (g : Nat) (ob : Obj) (l : List (List AV × AV)) : List AV → AHeap → Option PT := fun args H => match asc l args with
  | some r => some fun K => ∃ _u : Unit, Tb1 H g ob ∧ K r H
  | none => none
theorem eAscT_ok {g : Nat} {ob : Obj} : ∀ args H pt, eAscT g ob tab28 args H = some pt → ∀ (Kk : AV → AHeap → Prop), pt Kk → ACalls Tryd.prog 28 args H Kk := by
  intro args H pt h Kk hk
  unfold eAscT at h
  split at h
  · rename_i r hr
    cases h
    obtain ⟨_, hT, hk⟩ := hk
    have key : AscOk Tryd.prog 28 [] := .nil
    unfold tab28 asc at hr
    split at hr
    · rename_i hb
      have hr := Option.some.inj hr
      rw [← avEqL_spec hb]
      refine w8 exT (by decide) H hT.pins hT.g hT.ob ?_
      rw [txT_ok, show checkT exT = 0 by decide]
      rw [← hr] at hk
      exact hk
    · simp [asc] at hr
  · cases h
theorem p14 {X : AObj} {g : Nat} {ob : Obj} (hX : X = rawG 1 g ob) (hg : Tryd.prog.globalNamed "internal/strconv.uint64pow10" = some g) (hob : TabOb ob) {Kk : AV → AHeap → Prop} (h : Kk (B true) [.own 0 [], X]) : ACalls Tryd.prog 14 [] [.own 0 [], X] Kk := by
  have hlt : ltHB 2 [.own 0 [], X] = true := by subst hX; rfl
  have hT1 : ∀ T, Tb1 (.own 0 [] :: X :: T) g ob := fun T => ⟨⟨T, by rw [hX]⟩, hg, hob⟩
  clear hX hg hob
  have hA : std = std := rfl
  refine go14 rfl (AGo.weaken (SGo_run (R := RetH _ [.own 0 [], X] Kk) hA ⟨[], [], (4, eSpn) :: (27, eAsc tab27) :: (29, eAsc tab29) :: [], (28, eAscT g ob tab28) :: []⟩ (.cons eSpn_ok (.cons (eAsc_ok tab27_ok) (.cons (eAsc_ok tab29_ok) .nil))) (.cons eAscT_ok .nil) 200 fun T TD hT hTD => ?_) (fun _ _ _ h => RetH.p hlt h) (by simp))
  cbv
  refine Exists.intro () (And.intro (hT1 _) ?_); cbv
  exact h
end Go.Sas
namespace Go.Sas
open Go.Proofs
set_option maxRecDepth 100000
def eT0 : List AV → Option ((AV → Prop) → Prop)
  | [] => some fun K => K (B true)
  | _ => none
theorem eT0_ok {f : Nat} (hf : ∀ (H : AHeap) {Kk : AV → AHeap → Prop}, Kk (B true) H → ACalls Tryd.prog f [] H Kk) : ∀ args pt, eT0 args = some pt → ∀ (H : AHeap) (Kk : AV → AHeap → Prop), pt (fun r => Kk r H) → ACalls Tryd.prog f args H Kk := by
  intro args pt h H Kk hk
  unfold eT0 at h
  split at h
  · cases h; exact hf H hk
  · cases h
theorem rawG_ren {id g : Nat} {ob : Obj} {l : List Nat} (h : at_ l id = id) : (rawG id g ob).ren l = rawG id g ob := by
  simp [rawG, AObj.ren, AV.renL, AV.ren, h]
theorem p14T {H : AHeap} {g : Nat} {ob : Obj} (hT : Tb1 H g ob) {Kk : AV → AHeap → Prop} (hk : Kk (B true) H) : ACalls Tryd.prog 14 [] H Kk := by
  obtain ⟨⟨T, rfl⟩, hg, hob⟩ := hT
  have h0 := p14 (Kk := fun r H' => r = B true ∧ H' = [.own 0 [], rawG 1 g ob]) rfl hg hob ⟨rfl, rfl⟩
  have hf := ACalls.frame (H := .own 0 [] :: rawG 1 g ob :: T) [0, 1] h0 (by decide) rfl (AV.ltL_nid rfl) (by simp [Go.Sas.ltH, AObj.lt, rawG, AV.ltL, AV.lt]) (fun k X hX => by
    match k with
    | 0 => simp at hX; subst hX; rfl
    | 1 => simp at hX; subst hX; rw [rawG_ren rfl]; rfl
    | k + 2 => simp at hX)
  refine hf.mono fun r H' hx => ?_
  obtain ⟨r0, H1, ⟨rfl, rfl⟩, _, rfl, rfl⟩ := hx
  rw [AV.ren_nid rfl]
  simpa [merge, updL, more, rawG, AObj.ren, AV.renL, AV.ren, at_] using hk
def eT1 (g : Nat) (ob : Obj) : List AV → AHeap → Option PT
  | [], H => some fun K => ∃ _u : Unit, Tb1 H g ob ∧ K (B true) H
  | _, _ => none
theorem eT1_ok {g : Nat} {ob : Obj} : ∀ args H pt, eT1 g ob args H = some pt → ∀ (Kk : AV → AHeap → Prop), pt Kk → ACalls Tryd.prog 14 args H Kk := by
  intro args H pt h Kk hk
  unfold eT1 at h
  split at h
  · cases h
    obtain ⟨_, hT, hk⟩ := hk
    exact p14T hT hk
  · cases h
set_option maxHeartbeats 4000000 in
theorem core3 {X : AObj} {g : Nat} {ob : Obj} (hX : X = rawG 1 g ob) (hg : Tryd.prog.globalNamed "internal/strconv.uint64pow10" = some g) (hob : TabOb ob) :
    ACalls Tryd.prog 3 [] [.own 0 [], X] fun r H' => r = .lit (.bool true) ∧ H' = [.own 0 [], X] := by
  obtain ⟨Kk, hKk⟩ : ∃ K : AV → AHeap → Prop, K = fun r H' => r = .lit (.bool true) ∧ H' = [.own 0 [], X] := ⟨_, rfl⟩
  rw [← hKk]
  have h : Kk (B true) [.own 0 [], X] := by rw [hKk]; exact ⟨rfl, rfl⟩
  clear hKk
  have hlt : ltHB 2 [.own 0 [], X] = true := by subst hX; rfl
  have hlX : X.lt 2 := by subst hX; simp [AObj.lt, rawG, AV.ltL, AV.lt]
  have hT1 : ∀ T, Tb1 (.own 0 [] :: X :: T) g ob := fun T => ⟨⟨T, by rw [hX]⟩, hg, hob⟩
  clear hX hg hob
  have hA : std = std := rfl
  refine go3 rfl (AGo.weaken (SGo_run (R := RetH _ [.own 0 [], X] Kk) hA ⟨[], [], (4, eSpn) :: (6, eAsc tab6) :: (7, eAsc tab7) :: (5, eAsc tab5) :: [], []⟩ (.cons eSpn_ok (.cons (eAsc_ok tab6_ok) (.cons (eAsc_ok tab7_ok) (.cons (eAsc_ok tab5_ok) .nil)))) .nil 200 fun T TD hT hTD => ?_) (fun _ _ _ h => RetH.p hlt h) (by simp))
  cbv
  rw [hT]
  refine AGo_upE [0, 1, 2, 3] 6 (fun j (_ : Unit) => True) (fun j _ i => [(4, I i)]) (fun _ _ => [.own 0 [], X]) () trivial ⟨rfl, trivial⟩ (.inl rfl) fun j s i hi hj _ Bk hB => ?_
  match j, hj with
  | 0, _ =>
    have hi : i = 0 := hi
    subst hi
    refine SGo_run (R := RetH _ [.own 0 [], X] Kk) hA ⟨[], [], (4, eSpn) :: (6, eAsc tab6) :: (7, eAsc tab7) :: (5, eAsc tab5) :: [], []⟩ (.cons eSpn_ok (.cons (eAsc_ok tab6_ok) (.cons (eAsc_ok tab7_ok) (.cons (eAsc_ok tab5_ok) .nil)))) .nil 200 fun T TD hT hTD => ?_
    cbv
    refine Exists.intro [I 0] (And.intro (show ixS 1 1 _ 0 _ from ⟨rfl, by decide, _, rfl, rfl⟩) ?_); cbv
    refine Exists.intro [I 10] (And.intro (show ixS 1 1 _ 0 _ from ⟨rfl, by decide, _, rfl, rfl⟩) ?_); cbv
    refine And.intro (.inr ⟨by rcases X with _ | ⟨g, _ | ⟨c, cs⟩⟩ | _ <;> simp [SubH], trivial⟩) ?_; cbv
    refine Exists.intro [I 500, I 500] (And.intro (show ixS 2 2 _ 0 _ from ⟨rfl, by decide, _, rfl, rfl⟩) ?_); cbv
    refine hB () _ _ (by omega) trivial ⟨rfl, trivial⟩ ⟨rfl, rfl, rfl, rfl, trivial⟩ (.inr ⟨⟨_, rfl⟩, Nat.le_refl _, by simp [ltG, AV.lt, AV.ltL, keepS, look, gset], ⟨by simp [AObj.lt, AV.ltL], hlX, trivial⟩⟩)
  | 1, _ =>
    have hi : i = 1 := hi
    subst hi
    refine SGo_run (R := RetH _ [.own 0 [], X] Kk) hA ⟨[], [], (4, eSpn) :: (6, eAsc tab6) :: (7, eAsc tab7) :: (5, eAsc tab5) :: [], []⟩ (.cons eSpn_ok (.cons (eAsc_ok tab6_ok) (.cons (eAsc_ok tab7_ok) (.cons (eAsc_ok tab5_ok) .nil)))) .nil 200 fun T TD hT hTD => ?_
    cbv
    refine Exists.intro [I 1] (And.intro (show ixS 1 1 _ 1 _ from ⟨rfl, by decide, _, rfl, rfl⟩) ?_); cbv
    refine Exists.intro [I 10] (And.intro (show ixS 1 1 _ 1 _ from ⟨rfl, by decide, _, rfl, rfl⟩) ?_); cbv
    refine And.intro (.inr ⟨by rcases X with _ | ⟨g, _ | ⟨c, cs⟩⟩ | _ <;> simp [SubH], trivial⟩) ?_; cbv
    refine Exists.intro [I 490, I 510] (And.intro (show ixS 2 2 _ 1 _ from ⟨rfl, by decide, _, rfl, rfl⟩) ?_); cbv
    refine hB () _ _ (by omega) trivial ⟨rfl, trivial⟩ ⟨rfl, rfl, rfl, rfl, trivial⟩ (.inr ⟨⟨_, rfl⟩, Nat.le_refl _, by simp [ltG, AV.lt, AV.ltL, keepS, look, gset], ⟨by simp [AObj.lt, AV.ltL], hlX, trivial⟩⟩)
  | 2, _ =>
    have hi : i = 2 := hi
    subst hi
    refine SGo_run (R := RetH _ [.own 0 [], X] Kk) hA ⟨[], [], (4, eSpn) :: (6, eAsc tab6) :: (7, eAsc tab7) :: (5, eAsc tab5) :: [], []⟩ (.cons eSpn_ok (.cons (eAsc_ok tab6_ok) (.cons (eAsc_ok tab7_ok) (.cons (eAsc_ok tab5_ok) .nil)))) .nil 200 fun T TD hT hTD => ?_
    cbv
    refine Exists.intro [I 4] (And.intro (show ixS 1 1 _ 2 _ from ⟨rfl, by decide, _, rfl, rfl⟩) ?_); cbv
    refine Exists.intro [I 10] (And.intro (show ixS 1 1 _ 2 _ from ⟨rfl, by decide, _, rfl, rfl⟩) ?_); cbv
    refine And.intro (.inr ⟨by rcases X with _ | ⟨g, _ | ⟨c, cs⟩⟩ | _ <;> simp [SubH], trivial⟩) ?_; cbv
    refine Exists.intro [I 420, I 580] (And.intro (show ixS 2 2 _ 2 _ from ⟨rfl, by decide, _, rfl, rfl⟩) ?_); cbv
    refine hB () _ _ (by omega) trivial ⟨rfl, trivial⟩ ⟨rfl, rfl, rfl, rfl, trivial⟩ (.inr ⟨⟨_, rfl⟩, Nat.le_refl _, by simp [ltG, AV.lt, AV.ltL, keepS, look, gset], ⟨by simp [AObj.lt, AV.ltL], hlX, trivial⟩⟩)
  | 3, _ =>
    have hi : i = 3 := hi
    subst hi
    refine SGo_run (R := RetH _ [.own 0 [], X] Kk) hA ⟨[], [], (4, eSpn) :: (6, eAsc tab6) :: (7, eAsc tab7) :: (5, eAsc tab5) :: [], []⟩ (.cons eSpn_ok (.cons (eAsc_ok tab6_ok) (.cons (eAsc_ok tab7_ok) (.cons (eAsc_ok tab5_ok) .nil)))) .nil 200 fun T TD hT hTD => ?_
    cbv
    refine Exists.intro [I 0] (And.intro (show ixS 1 1 _ 3 _ from ⟨rfl, by decide, _, rfl, rfl⟩) ?_); cbv
    refine Exists.intro [I 14] (And.intro (show ixS 1 1 _ 3 _ from ⟨rfl, by decide, _, rfl, rfl⟩) ?_); cbv
    refine And.intro (.inr ⟨by rcases X with _ | ⟨g, _ | ⟨c, cs⟩⟩ | _ <;> simp [SubH], trivial⟩) ?_; cbv
    refine Exists.intro [I 492, I 504] (And.intro (show ixS 2 2 _ 3 _ from ⟨rfl, by decide, _, rfl, rfl⟩) ?_); cbv
    refine hB () _ _ (by omega) trivial ⟨rfl, trivial⟩ ⟨rfl, rfl, rfl, rfl, trivial⟩ (.inr ⟨⟨_, rfl⟩, Nat.le_refl _, by simp [ltG, AV.lt, AV.ltL, keepS, look, gset], ⟨by simp [AObj.lt, AV.ltL], hlX, trivial⟩⟩)
  | 4, _ =>
    have hi : i = 4 := hi
    subst hi
    refine SGo_run (R := RetH _ [.own 0 [], X] Kk) hA ⟨[], [], (4, eSpn) :: (6, eAsc tab6) :: (7, eAsc tab7) :: (5, eAsc tab5) :: [], []⟩ (.cons eSpn_ok (.cons (eAsc_ok tab6_ok) (.cons (eAsc_ok tab7_ok) (.cons (eAsc_ok tab5_ok) .nil)))) .nil 200 fun T TD hT hTD => ?_
    cbv
    refine Exists.intro [I 0] (And.intro (show ixS 1 1 _ 4 _ from ⟨rfl, by decide, _, rfl, rfl⟩) ?_); cbv
    refine Exists.intro [I 6] (And.intro (show ixS 1 1 _ 4 _ from ⟨rfl, by decide, _, rfl, rfl⟩) ?_); cbv
    refine And.intro (.inr ⟨by rcases X with _ | ⟨g, _ | ⟨c, cs⟩⟩ | _ <;> simp [SubH], trivial⟩) ?_; cbv
    refine Exists.intro [I 496, I 508] (And.intro (show ixS 2 2 _ 4 _ from ⟨rfl, by decide, _, rfl, rfl⟩) ?_); cbv
    refine hB () _ _ (by omega) trivial ⟨rfl, trivial⟩ ⟨rfl, rfl, rfl, rfl, trivial⟩ (.inr ⟨⟨_, rfl⟩, Nat.le_refl _, by simp [ltG, AV.lt, AV.ltL, keepS, look, gset], ⟨by simp [AObj.lt, AV.ltL], hlX, trivial⟩⟩)
  | 5, _ =>
    have hi : i = 5 := hi
    subst hi
    refine SGo_run (R := RetH _ [.own 0 [], X] Kk) hA ⟨[], [], (4, eSpn) :: (6, eAsc tab6) :: (7, eAsc tab7) :: (5, eAsc tab5) :: [], []⟩ (.cons eSpn_ok (.cons (eAsc_ok tab6_ok) (.cons (eAsc_ok tab7_ok) (.cons (eAsc_ok tab5_ok) .nil)))) .nil 200 fun T TD hT hTD => ?_
    cbv
    refine Exists.intro [I 4] (And.intro (show ixS 1 1 _ 5 _ from ⟨rfl, by decide, _, rfl, rfl⟩) ?_); cbv
    refine Exists.intro [I 14] (And.intro (show ixS 1 1 _ 5 _ from ⟨rfl, by decide, _, rfl, rfl⟩) ?_); cbv
    refine And.intro (.inr ⟨by rcases X with _ | ⟨g, _ | ⟨c, cs⟩⟩ | _ <;> simp [SubH], trivial⟩) ?_; cbv
    refine Exists.intro [I 412, I 580] (And.intro (show ixS 2 2 _ 5 _ from ⟨rfl, by decide, _, rfl, rfl⟩) ?_); cbv
    refine hB () _ _ (by omega) trivial ⟨rfl, trivial⟩ ⟨rfl, rfl, rfl, rfl, trivial⟩ (.inr ⟨⟨_, rfl⟩, Nat.le_refl _, by simp [ltG, AV.lt, AV.ltL, keepS, look, gset], ⟨by simp [AObj.lt, AV.ltL], hlX, trivial⟩⟩)
  | 6, _ =>
    have hi : i = 6 := hi
    subst hi
    refine SGo_run (R := RetH _ [.own 0 [], X] Kk) hA ⟨[], [], (4, eSpn) :: (6, eAsc tab6) :: (7, eAsc tab7) :: (5, eAsc tab5) :: (8, eAsc tab8) :: (9, eAsc tab9) :: (10, eCore) :: (11, eAsc tab11) :: (12, eT0) :: (13, eT0) :: [], (14, eT1 g ob) :: []⟩ (.cons eSpn_ok (.cons (eAsc_ok tab6_ok) (.cons (eAsc_ok tab7_ok) (.cons (eAsc_ok tab5_ok) (.cons (eAsc_ok tab8_ok) (.cons (eAsc_ok tab9_ok) (.cons eCore_ok (.cons (eAsc_ok tab11_ok) (.cons (eT0_ok p12) (.cons (eT0_ok p13) .nil)))))))))) (.cons eT1_ok .nil) 200 fun T TD hT hTD => ?_
    cbv
    refine Exists.intro () (And.intro (hT1 _) ?_); cbv
    exact h
  | n + 7, hj => omega
end Go.Sas
