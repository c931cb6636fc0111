/-
Freight: Share: contracts.
Freight: shares that are written to; bills: contracts.
Freight: bills: contract.
Conditions: none.
-/
import Derived.Test.YtndnjmpebpampaaDoorHSf
import Derived.Test.YtndnjmpebpampaaDoorHGf
import Derived.Test.YtndnjmpebpampaaDoorQG33
set_option linter.unusedVariables false
set_option linter.unusedSimpArgs false
namespace Go.Sas
open Go.Proofs
set_option maxRecDepth 100000
def wtB (w : Int) : Bool := !decide (0 ≤ w ∧ w ≤ 1000000)
def shareE (am : Int) (ws : List Int) : Int :=
  if ¬ (0 ≤ am ∧ am ≤ 1000000000000) then 2 else if ws.length = 0 then 6 else if 40 < ws.length then 8 else if ws.any wtB = true then 2 else 0
theorem shareE_ok {am : Int} {ws : List Int} : shareE am ws = 0 ↔ (0 ≤ am ∧ am ≤ 1000000000000) ∧ WtsV ws := by
  unfold shareE
  constructor
  · intro h
    split at h
    · contradiction
    rename_i h1
    split at h
    · contradiction
    split at h
    · contradiction
    split at h
    · contradiction
    rename_i h2 h3 h4
    refine ⟨by omega, by omega, by omega, fun w hw => ?_⟩
    rw [Bool.not_eq_true, List.any_eq_false] at h4
    have := h4 w hw
    simp only [wtB, Bool.not_eq_true, Bool.not_eq_false', decide_eq_true_eq] at this
    exact this
  · rintro ⟨h1, h2, h3, h4⟩
    rw [if_neg (by omega), if_neg (by omega), if_neg (by omega), if_neg]
    rw [Bool.not_eq_true, List.any_eq_false]
    intro w hw
    have := h4 w hw
    simp [wtB, this]
/-- shares, with the error -/
def shareR (am : Int) (ws : List Int) : List Int := if shareE am ws = 0 then shareV am ws else []
theorem p44 (w : Int) (H : AHeap) {Kk : AV → AHeap → Prop} (h : Kk (B (wtB w)) H) : ACalls Tryd.prog 44 [I w] H Kk := by
  refine (fun q => pureC (by rfl) (by rfl) q H h) ?_
  clear h
  intro Kk h
  obtain ⟨A, hA⟩ : ∃ A, A = std := ⟨_, rfl⟩
  have hne : ∀ x y, A.ne x y = decide (x ≠ y) := by subst hA; intro x y; simp only [std, iNe]; rw [Bool.eq_iff_iff]; simp
  have hee : ∀ x y, A.eq x y = decide (x = y) := by subst hA; intro x y; exact iEq_dec _ _
  have hll : ∀ x y, A.lt x y = decide (x < y) := by subst hA; intro x y; rfl
  have hle : ∀ x y, A.le x y = decide (x ≤ y) := by subst hA; intro x y; rfl
  have hnb : ∀ b, A.bnot b = !b := by subst hA; intro b; rfl
  have hbd : ∀ x y, A.band x y = (x && y) := by subst hA; intro x y; rfl
  have hsg : ∀ g, A.sg g g := by subst hA; exact fun _ => rfl
  refine go44 rfl (SGo_run hA ⟨[], [], (21, eIn) :: [], []⟩ (.cons (eIn_ok p21) .nil) .nil 200 fun T TD hT hTD => ?_)
  cbv
  intro q hq; cbv
  exact leaf h (congrArg B ((hnb q).trans (by rw [hq]; rfl)).symm) rfl
def eWt : List AV → Option ((AV → Prop) → Prop)
  | [.lit (.int .i64 w)] => some fun K => ∀ q, q = wtB w → K (B q)
  | _ => none
theorem eWt_ok : ∀ args pt, eWt args = some pt → ∀ (H : AHeap) (Kk : AV → AHeap → Prop), pt (fun r => Kk r H) → ACalls Tryd.prog 44 args H Kk := by
  intro args pt h H Kk hk
  unfold eWt at h
  split at h
  · cases h; exact p44 _ H (hk _ rfl)
  · cases h
theorem p60 (ws : List Int) (hl : ws.length ≤ 9223372036854775807) (H : AHeap) {Kk : AV → AHeap → Prop} (h : Kk (I (idxP wtB ws 0)) H) : ACalls Tryd.prog 60 [.vs 1 (ws.map I), .fn 44 []] H Kk := by
  refine (fun q => pureC (by rfl) (by rfl) q H h) ?_
  clear h
  intro Kk h
  obtain ⟨xs, hxs⟩ : ∃ xs, xs = ws.map I := ⟨_, rfl⟩
  rw [← hxs]
  obtain ⟨W, hW⟩ : ∃ W, W = idxP wtB ws 0 := ⟨_, rfl⟩
  rw [← hW] at h
  obtain ⟨A, hA⟩ : ∃ A, A = std := ⟨_, rfl⟩
  have hne : ∀ x y, A.ne x y = decide (x ≠ y) := by subst hA; intro x y; simp only [std, iNe]; rw [Bool.eq_iff_iff]; simp
  have hee : ∀ x y, A.eq x y = decide (x = y) := by subst hA; intro x y; exact iEq_dec _ _
  have hll : ∀ x y, A.lt x y = decide (x < y) := by subst hA; intro x y; rfl
  have hle : ∀ x y, A.le x y = decide (x ≤ y) := by subst hA; intro x y; rfl
  have hnb : ∀ b, A.bnot b = !b := by subst hA; intro b; rfl
  have hbd : ∀ x y, A.band x y = (x && y) := by subst hA; intro x y; rfl
  have hsg : ∀ g, A.sg g g := by subst hA; exact fun _ => rfl
  refine go60 rfl (SGo_run hA ⟨[], [], [], []⟩ .nil .nil 200 fun T TD hT hTD => ?_)
  cbv
  rw [hT]
  refine AGo_upE [0, 1, 7] ws.length (fun j (_ : Unit) => W = idxP wtB (ws.drop j) (iLen j)) (fun j _ i => [(8, I i)]) (fun _ _ => []) () hW ⟨rfl, trivial⟩ (.inl rfl) fun j _ i hi hj hP Bk hB => ?_
  have hlt : A.lt i (A.vlen xs) = decide (j < ws.length) := by subst hA; exact lt_len (by simp [hxs]) hi
  have hadd : ∀ N, j < N → N ≤ 9223372036854775807 → A.add .i64 i 1 = iLen (j + 1) := fun N hj hN => by subst hA; exact add_one hi hj hN
  refine SGo_run hA ⟨[], [], (44, eWt) :: [], []⟩ (.cons eWt_ok .nil) .nil 200 fun T TD hT hTD => ?_
  cbv
  split <;> cbv
  · rename_i hk0
    have hk1 : j < ws.length := by have hz := hlt.symm.trans hk0; simpa using hz
    clear hk0
    obtain ⟨w, hx⟩ : ∃ x, ws[j]? = some x := ⟨_, List.getElem?_eq_getElem hk1⟩
    have hix : A.ix 1 1 xs i [I w] := by subst hA; exact ix_map hxs hi hx rfl
    rw [drop_cons hx] at hP
    refine Exists.intro _ (And.intro hix ?_); cbv
    intro q hq; cbv
    cases q with
    | true =>
      cbv
      refine leaf h (congrArg I ?_) rfl
      have e : idxP wtB (w :: ws.drop (j + 1)) (iLen j) = iLen j := if_pos hq.symm
      exact (hP.trans e).trans hi.symm
    | false =>
      cbv
      refine hB () _ _ hk1 ?_ ⟨congrArg I (hadd _ hk1 (by omega)), trivial⟩ ⟨rfl, rfl, rfl, trivial⟩ (.inl rfl)
      rw [hP]
      have : idxP wtB (w :: ws.drop (j + 1)) (iLen j) = idxP wtB (ws.drop (j + 1)) (iLen j + 1) := if_neg (by rw [← hq]; simp)
      rw [this]; rfl
  · rename_i hk0
    have hk1 : ¬ j < ws.length := by have hz := hlt.symm.trans hk0; simpa using hz
    clear hk0
    refine leaf h (congrArg I ?_) rfl
    rw [hP, List.drop_eq_nil_of_le (by omega)]; rfl
def eIdxW : List AV → Option ((AV → Prop) → Prop)
  | [.vs 1 xs, .fn 44 []] => some fun K => ∃ ws : List Int, (xs = ws.map I ∧ ws.length ≤ 9223372036854775807) ∧ ∀ q, q = idxP wtB ws 0 → K (I q)
  | _ => none
theorem eIdxW_ok : ∀ args pt, eIdxW args = some pt → ∀ (H : AHeap) (Kk : AV → AHeap → Prop), pt (fun r => Kk r H) → ACalls Tryd.prog 60 args H Kk := by
  intro args pt h H Kk hk
  unfold eIdxW at h
  split at h
  · cases h
    obtain ⟨ws, ⟨rfl, h1⟩, h2⟩ := hk
    exact p60 _ h1 H (h2 _ rfl)
  · cases h
theorem p43 (ws : List Int) (hl : ws.length ≤ 9223372036854775807) (H : AHeap) {Kk : AV → AHeap → Prop} (h : Kk (B (ws.any wtB)) H) : ACalls Tryd.prog 43 [.vs 1 (ws.map I), .fn 44 []] H Kk := by
  refine (fun q => pureC (by rfl) (by rfl) q H h) ?_
  clear h
  intro Kk h
  obtain ⟨xs, hxs⟩ : ∃ xs, xs = ws.map I := ⟨_, rfl⟩
  rw [← hxs]
  obtain ⟨A, hA⟩ : ∃ A, A = std := ⟨_, rfl⟩
  have hne : ∀ x y, A.ne x y = decide (x ≠ y) := by subst hA; intro x y; simp only [std, iNe]; rw [Bool.eq_iff_iff]; simp
  have hee : ∀ x y, A.eq x y = decide (x = y) := by subst hA; intro x y; exact iEq_dec _ _
  have hll : ∀ x y, A.lt x y = decide (x < y) := by subst hA; intro x y; rfl
  have hle : ∀ x y, A.le x y = decide (x ≤ y) := by subst hA; intro x y; rfl
  have hnb : ∀ b, A.bnot b = !b := by subst hA; intro b; rfl
  have hbd : ∀ x y, A.band x y = (x && y) := by subst hA; intro x y; rfl
  have hsg : ∀ g, A.sg g g := by subst hA; exact fun _ => rfl
  refine go43 rfl (SGo_run hA ⟨[], [], (60, eIdxW) :: [], []⟩ (.cons eIdxW_ok .nil) .nil 200 fun T TD hT hTD => ?_)
  cbv
  refine Exists.intro ws (And.intro ⟨hxs, hl⟩ ?_)
  intro q hq; cbv
  exact leaf h (congrArg B ((hle 0 q).trans (by rw [hq]; exact idxP_any (Int.le_refl _))).symm) rfl
def eAnyW : List AV → Option ((AV → Prop) → Prop)
  | [.vs 1 xs, .fn 44 []] => some fun K => ∃ ws : List Int, (xs = ws.map I ∧ ws.length ≤ 9223372036854775807) ∧ ∀ q, q = ws.any wtB → K (B q)
  | _ => none
theorem eAnyW_ok : ∀ args pt, eAnyW args = some pt → ∀ (H : AHeap) (Kk : AV → AHeap → Prop), pt (fun r => Kk r H) → ACalls Tryd.prog 43 args H Kk := by
  intro args pt h H Kk hk
  unfold eAnyW at h
  split at h
  · cases h
    obtain ⟨ws, ⟨rfl, h1⟩, h2⟩ := hk
    exact p43 _ h1 H (h2 _ rfl)
  · cases h
def eShare : List AV → Option ((AV → Prop) → Prop)
  | [.lit (.int .i64 am), .vs 1 xs] => some fun K => ∃ ws : List Int, (xs = ws.map I ∧ WtsV ws ∧ SrtN ws.length ∧ 0 ≤ am ∧ am ≤ 1000000000000) ∧ ∀ ys, ys = (shareV am ws).map I → K (.vs 1 ys)
  | _ => none
theorem eShare_ok : ∀ args pt, eShare args = some pt → ∀ (H : AHeap) (Kk : AV → AHeap → Prop), pt (fun r => Kk r H) → ACalls Tryd.prog 45 args H Kk := by
  intro args pt h H Kk hk
  unfold eShare at h
  split at h
  · cases h
    obtain ⟨ws, ⟨rfl, h1, h2, h3⟩, h4⟩ := hk
    exact p45 _ ws h1 h2 h3 H (h4 _ rfl)
  · cases h
theorem p31 (am : Int) (ws : List Int) (hl : ws.length ≤ 9223372036854775807) (hs : shareE am ws = 0 → SrtN ws.length) (H : AHeap) {Kk : AV → AHeap → Prop} (h : Kk (.tup [.vs 1 ((shareR am ws).map I), I (shareE am ws)]) H) : ACalls Tryd.prog 31 [I am, .vs 1 (ws.map I)] H Kk := by
  refine (fun q => pureF (by rfl) (by rfl) q H h) ?_
  clear h
  intro Kk h
  obtain ⟨xs, hxs⟩ : ∃ xs, xs = ws.map I := ⟨_, rfl⟩
  rw [← hxs]
  obtain ⟨A, hA⟩ : ∃ A, A = std := ⟨_, rfl⟩
  have hne : ∀ x y, A.ne x y = decide (x ≠ y) := by subst hA; intro x y; simp only [std, iNe]; rw [Bool.eq_iff_iff]; simp
  have hee : ∀ x y, A.eq x y = decide (x = y) := by subst hA; intro x y; exact iEq_dec _ _
  have hll : ∀ x y, A.lt x y = decide (x < y) := by subst hA; intro x y; rfl
  have hle : ∀ x y, A.le x y = decide (x ≤ y) := by subst hA; intro x y; rfl
  have hnb : ∀ b, A.bnot b = !b := by subst hA; intro b; rfl
  have hbd : ∀ x y, A.band x y = (x && y) := by subst hA; intro x y; rfl
  have hsg : ∀ g, A.sg g g := by subst hA; exact fun _ => rfl
  obtain ⟨F, hF⟩ : ∃ F, F = Frees 0 Kk := ⟨_, rfl⟩
  rw [← hF]
  have hvl : A.vlen xs = iLen ws.length := by subst hA; simp [std, hxs]
  have hw : ∀ c, shareE am ws = c → c ≠ 0 → F (aTup [.lit (.slice none 0 0), I c]) [] := fun c h1 h2 => by
    rw [hF]
    refine Frees.wk (r' := .tup [.vs 1 [], I c]) (Wk.tup ⟨Wk.nil, Wk.rfl, trivial⟩) (Frees.drop0 ?_ rfl)
    have h3 : shareR am ws = [] := by unfold shareR; rw [if_neg (by rw [h1]; exact h2)]
    rw [h3, h1] at h; exact h
  refine go31 rfl (SGo_run hA ⟨[], [], (21, eIn) :: (43, eAnyW) :: (45, eShare) :: [], []⟩ (.cons (eIn_ok p21) (.cons eAnyW_ok (.cons eShare_ok .nil))) .nil 200 fun T TD hT hTD => ?_)
  cbv
  intro q1 hq1; cbv
  have z1 : A.bnot q1 = decide (¬ (0 ≤ am ∧ am ≤ 1000000000000)) := by rw [hnb, hq1]; exact (decide_not ..).symm
  split <;> cbv
  · rename_i hz
    have hz := of_decide_eq_true (z1.symm.trans hz)
    exact hw 2 (by unfold shareE; rw [if_pos hz]) (by decide)
  rename_i hz
  have hz := of_decide_eq_false (z1.symm.trans hz)
  have z2 : A.eq (A.vlen xs) 0 = decide (ws.length = 0) := by rw [hvl, hee, decide_eq_decide]; unfold iLen; omega
  split <;> cbv
  · rename_i hz2
    have hz2 := of_decide_eq_true (z2.symm.trans hz2)
    exact hw 6 (by unfold shareE; rw [if_neg hz, if_pos hz2]) (by decide)
  rename_i hz2
  have hz2 := of_decide_eq_false (z2.symm.trans hz2)
  have z3 : A.lt 40 (A.vlen xs) = decide (40 < ws.length) := by rw [hvl, hll, decide_eq_decide]; unfold iLen; omega
  split <;> cbv
  · rename_i hz3
    have hz3 := of_decide_eq_true (z3.symm.trans hz3)
    exact hw 8 (by unfold shareE; rw [if_neg hz, if_neg hz2, if_pos hz3]) (by decide)
  rename_i hz3
  have hz3 := of_decide_eq_false (z3.symm.trans hz3)
  refine Exists.intro ws (And.intro ⟨hxs, hl⟩ ?_)
  intro q2 hq2; cbv
  cases q2 with
  | true =>
    cbv
    exact hw 2 (by unfold shareE; rw [if_neg hz, if_neg hz2, if_neg hz3, if_pos hq2.symm]) (by decide)
  | false =>
    cbv
    have hE : shareE am ws = 0 := by unfold shareE; rw [if_neg hz, if_neg hz2, if_neg hz3, if_neg (by rw [← hq2]; simp)]
    obtain ⟨h1, h2⟩ := shareE_ok.1 hE
    refine Exists.intro ws (And.intro ⟨hxs, h2, hs hE, h1⟩ ?_)
    intro ys hys; cbv
    rw [hF]
    have h3 : shareR am ws = shareV am ws := by unfold shareR; rw [if_pos hE]
    rw [h3, hE, ← hys] at h
    exact Frees.drop0 h rfl
end Go.Sas
namespace Go.Sas
open Go.Proofs
set_option maxRecDepth 100000
theorem p45m (am : Int) (ws : List Int) (hw : WtsV ws) (hs : SrtN ws.length) (ha : 0 ≤ am ∧ am ≤ 1000000000000) (H : AHeap) {Kk : AV → AHeap → Prop}
    (h : Kk (.ms 1 (H.length + 1) ws.length 0 ws.length) (H ++ [.own 0 [], .own ws.length ((shareV am ws).map I), .own ws.length [], .own ws.length []])) : ACalls Tryd.prog 45 [I am, .vs 1 (ws.map I)] H Kk := by
  have h1 : ACalls Tryd.prog 45 [I am, .vs 1 (ws.map I)] [] fun r H' => r = .ms 1 1 ws.length 0 ws.length ∧ H' = [.own 0 [], .own ws.length ((shareV am ws).map I), .own ws.length [], .own ws.length []] := by
    refine ACalls.frees ?_
    refine p45c am ws hw hs ha fun c3 c4 => ?_
    refine Frees.weak 0 rfl ?_
    refine Frees.weak 2 rfl ?_
    refine Frees.weak 3 rfl ?_
    exact Frees.now ⟨rfl, rfl⟩
  have h2 := ACalls.frame (H := H) [] h1 List.nodup_nil rfl (AV.ltL_nid (by rfl)) (by simp [ltH]) (fun k X hk => by simp at hk)
  rw [AV.renL_nid (by rfl)] at h2
  refine h2.mono fun r H' hx => ?_
  obtain ⟨r0, H1, ⟨rfl, rfl⟩, _, rfl, rfl⟩ := hx
  simpa [merge, updL, AObj.ren, AV.renL, AV.ren, more, at_, List.range', AV.renL_nid (nidL_I _)] using h
def eShareM : List AV → AHeap → Option PT
  | [.lit (.int .i64 am), .vs 1 xs], H => some fun K => ∃ (ws : List Int) (n : Nat), (xs = ws.map I ∧ n = ws.length ∧ WtsV ws ∧ SrtN n ∧ 0 ≤ am ∧ am ≤ 1000000000000) ∧ ∀ cs, cs = (shareV am ws).map I → K (.ms 1 (H.length + 1) n 0 n) (H ++ [.own 0 [], .own n cs, .own n [], .own n []])
  | _, _ => none
theorem eShareM_ok : ∀ args H pt, eShareM args H = some pt → ∀ (Kk : AV → AHeap → Prop), pt Kk → ACalls Tryd.prog 45 args H Kk := by
  intro args H pt h Kk hk
  unfold eShareM at h
  split at h
  · cases h
    obtain ⟨ws, n, ⟨rfl, rfl, h1, h2, h3⟩, h4⟩ := hk
    exact p45m _ ws h1 h2 h3 _ (h4 _ rfl)
  · cases h
def billE (f : Frt) (w : Win) (way : List (List Int)) (rate road : Int) : Int :=
  if checkWayS f w way ≠ 0 then checkWayS f w way else if ¬ (0 ≤ rate ∧ rate ≤ 1000000) ∨ ¬ (0 ≤ road ∧ road ≤ 1000000000000) then 2 else 0
def billT (rate : Int) (us sh : List Int) (j : Nat) : List Int := (List.range sh.length).map fun k => sh.getD k 0 + (if k < j then rate * us.getD k 0 else 0)
def billV (way : List (List Int)) (rate road : Int) : List Int := billT rate (way.map sumI) (shareV road (way.map sumI)) way.length
def billR (f : Frt) (w : Win) (way : List (List Int)) (rate road : Int) : List Int := if billE f w way rate road = 0 then billV way rate road else []
theorem billT_len {rate : Int} {us sh : List Int} {j : Nat} : (billT rate us sh j).length = sh.length := by simp [billT]
theorem billT_zero {rate : Int} {us sh : List Int} : billT rate us sh 0 = sh := by
  unfold billT
  apply List.ext_getElem?
  intro i
  rw [List.getElem?_map]
  by_cases hi : i < sh.length
  · rw [List.getElem?_range hi, List.getElem?_eq_getElem hi]; simp [List.getD_eq_getElem?_getD, hi]
  · rw [List.getElem?_eq_none (by simpa using hi), List.getElem?_eq_none (by omega)]; rfl
theorem billT_get {rate : Int} {us sh : List Int} {j : Nat} (h : j < sh.length) : (billT rate us sh j)[j]? = some (sh.getD j 0) := by
  unfold billT; rw [List.getElem?_map, List.getElem?_range h]; simp
theorem billT_set {rate : Int} {us sh : List Int} {j : Nat} (h : j < sh.length) : (billT rate us sh j).set j (sh.getD j 0 + rate * us.getD j 0) = billT rate us sh (j + 1) := by
  unfold billT
  apply List.ext_getElem?
  intro i
  rw [List.getElem?_set, List.getElem?_map, List.getElem?_map]
  by_cases hi : i < sh.length
  · rw [List.getElem?_range hi]
    by_cases hj : j = i
    · subst hj; rw [if_pos rfl, if_pos (by simpa using h)]; simp
    · rw [if_neg hj]
      simp only [Option.map_some, Option.some.injEq]
      by_cases h1 : i < j
      · rw [if_pos h1, if_pos (by omega)]
      · rw [if_neg h1, if_neg (by omega)]
  · rw [List.getElem?_eq_none (by simpa using hi)]
    by_cases hj : j = i
    · omega
    · rw [if_neg hj]; rfl
/-- the units of a way are weights -/
theorem way_wts {f : Frt} {w : Win} {way : List (List Int)} (hV : FrtV f) (h : WayV f w way) : WtsV (way.map sumI) ∧ (way.map sumI).length ≤ 6 := by
  have h1 := h.n
  have h2 := hV.o1
  have h3 := hV.o2
  refine ⟨⟨by rw [List.length_map]; omega, by rw [List.length_map]; omega, fun x hx => ?_⟩, by rw [List.length_map]; omega⟩
  obtain ⟨r, hr, rfl⟩ := List.mem_map.1 hx
  refine ⟨sumI_nn fun y hy => (h.b r hr y hy).1, ?_⟩
  obtain ⟨i, hi⟩ := List.mem_iff_getElem?.1 hr
  have hil := (List.getElem?_eq_some_iff.1 hi).1
  obtain ⟨o, ho⟩ : ∃ o, f.ords[i]? = some o := ⟨_, List.getElem?_eq_getElem (by omega)⟩
  have := h.u (r, o) (List.mem_iff_getElem?.2 ⟨i, List.getElem?_zip_eq_some.2 ⟨hi, ho⟩⟩)
  have h5 := hV.ob o (List.mem_of_getElem? ho)
  dsimp only at this; omega
end Go.Sas
namespace Go.Sas
open Go.Proofs
set_option maxRecDepth 100000
set_option maxHeartbeats 4000000 in
theorem p32 (a b c d u v rate road : Int) (cs : List (Int × Int)) (os : List Ord) (ws : List Int) (way : List (List Int)) (hc : cs.length ≤ 9223372036854775807) (ho : os.length ≤ 9223372036854775807) (hw : ws.length ≤ 9223372036854775807) (hy : way.length ≤ 9223372036854775807) (H : AHeap) {Kk : AV → AHeap → Prop}
    (h : Kk (.tup [.vs 1 ((billR ⟨(a, b), (c, d), cs, os⟩ ⟨u, v, ws⟩ way rate road).map I), I (billE ⟨(a, b), (c, d), cs, os⟩ ⟨u, v, ws⟩ way rate road)]) H) :
    ACalls Tryd.prog 32 [frV a b c d (.vs 2 (cs.map sp)) (.vs 4 (os.map orV)), winV u v (.vs 1 (ws.map I)), .vs 1 (way.map fun r => .vs 1 (r.map I)), I rate, I road] H Kk := by
  refine (fun q => pureF (by rfl) (by rfl) q H h) ?_
  clear h
  intro Kk h
  obtain ⟨xs, hxs⟩ : ∃ xs, xs = cs.map sp := ⟨_, rfl⟩
  obtain ⟨ys, hys⟩ : ∃ ys, ys = os.map orV := ⟨_, rfl⟩
  obtain ⟨zs, hzs⟩ : ∃ ys, ys = ws.map I := ⟨_, rfl⟩
  obtain ⟨rs, hrs⟩ : ∃ rs : List AV, rs = way.map fun r => .vs 1 (r.map I) := ⟨_, rfl⟩
  rw [← hxs, ← hys, ← hzs, ← hrs]
  obtain ⟨f, hf⟩ : ∃ f : Frt, f = ⟨(a, b), (c, d), cs, os⟩ := ⟨_, rfl⟩
  obtain ⟨wn, hwn⟩ : ∃ w : Win, w = ⟨u, v, ws⟩ := ⟨_, rfl⟩
  rw [← hf, ← hwn] at h
  obtain ⟨A, hA⟩ : ∃ A, A = std := ⟨_, rfl⟩
  have hne : ∀ x y, A.ne x y = decide (x ≠ y) := by subst hA; intro x y; simp only [std, iNe]; rw [Bool.eq_iff_iff]; simp
  have hee : ∀ x y, A.eq x y = decide (x = y) := by subst hA; intro x y; exact iEq_dec _ _
  have hll : ∀ x y, A.lt x y = decide (x < y) := by subst hA; intro x y; rfl
  have hle : ∀ x y, A.le x y = decide (x ≤ y) := by subst hA; intro x y; rfl
  have hnb : ∀ b, A.bnot b = !b := by subst hA; intro b; rfl
  have hbd : ∀ x y, A.band x y = (x && y) := by subst hA; intro x y; rfl
  have hsg : ∀ g, A.sg g g := by subst hA; exact fun _ => rfl
  obtain ⟨F, hF⟩ : ∃ F, F = Frees 0 Kk := ⟨_, rfl⟩
  rw [← hF]
  have hwr : ∀ e H, billE f wn way rate road = e → e ≠ 0 → F (aTup [.lit (.slice none 0 0), I e]) H := fun e H h1 h2 => by
    rw [hF]
    refine Frees.wk (r' := .tup [.vs 1 [], I e]) (Wk.tup ⟨Wk.nil, Wk.rfl, trivial⟩) (Frees.drop0 ?_ rfl)
    have h3 : billR f wn way rate road = [] := by unfold billR; rw [if_neg (by rw [h1]; exact h2)]
    rw [h3, h1] at h; exact h
  refine go32 rfl (SGo_run hA ⟨[], [], (25, eCheckWay) :: (21, eIn) :: [], []⟩ (.cons eCheckWay_ok (.cons (eIn_ok p21) .nil)) .nil 200 fun T TD hT hTD => ?_)
  cbv
  refine Exists.intro cs (Exists.intro os (Exists.intro ws (Exists.intro way (And.intro hxs (And.intro hys (And.intro hzs (And.intro hrs (And.intro hc (And.intro ho (And.intro hw (And.intro hy ?_)))))))))))
  intro q hq; cbv
  rw [← hf, ← hwn] at hq
  have hzq : A.ne q 0 = decide (q ≠ 0) := hne _ _
  split <;> cbv
  · rename_i hz
    have hz := of_decide_eq_true (hzq.symm.trans hz)
    exact hwr q _ (by unfold billE; rw [if_pos (by rw [← hq]; exact hz), hq]) hz
  rename_i hz
  have hz : q = 0 := by have hz := of_decide_eq_false (hzq.symm.trans hz); simpa using hz
  rw [hz] at hq
  intro q1 hq1; cbv
  have hE : ∀ e, (if ¬ (0 ≤ rate ∧ rate ≤ 1000000) ∨ ¬ (0 ≤ road ∧ road ≤ 1000000000000) then 2 else 0) = e → billE f wn way rate road = e := fun e he => by
    unfold billE; rw [if_neg (by rw [← hq]; simp)]; exact he
  have z1 : A.bnot q1 = decide (¬ (0 ≤ rate ∧ rate ≤ 1000000)) := by rw [hnb, hq1]; exact (decide_not ..).symm
  by_cases hrt : 0 ≤ rate ∧ rate ≤ 1000000
  rotate_left
  · have z2 : A.bnot q1 = true := by rw [z1, decide_eq_true_eq]; exact hrt
    split <;> first | (rename_i hz; exact Bool.noConfusion (hz.symm.trans z2)) | cbv
    exact hwr 2 _ (hE 2 (if_pos (.inl hrt))) (by decide)
  have z2 : A.bnot q1 = false := by rw [z1, decide_eq_false_iff_not]; exact fun h => h hrt
  split <;> first | (rename_i hz; exact Bool.noConfusion (hz.symm.trans z2)) | cbv
  intro q2 hq2; cbv
  have z3 : A.bnot q2 = decide (¬ (0 ≤ road ∧ road ≤ 1000000000000)) := by rw [hnb, hq2]; exact (decide_not ..).symm
  split <;> cbv
  · rename_i hz4
    have hz4 := of_decide_eq_true (z3.symm.trans hz4)
    exact hwr 2 _ (hE 2 (if_pos (.inr hz4))) (by decide)
  rename_i hz4
  have hz4 := of_decide_eq_false (z3.symm.trans hz4)
  have hrd : 0 ≤ road ∧ road ≤ 1000000000000 := Decidable.of_not_not hz4
  have hE0 : billE f wn way rate road = 0 := hE 0 (if_neg (by rw [not_or]; exact ⟨fun h => h hrt, hz4⟩))
  clear hwr hE z1 z2 z3
  obtain ⟨hcw, _⟩ := checkWayS_ok hq.symm
  obtain ⟨hV, _⟩ := checkWinterS_ok hcw
  have hWV := checkWay_way hq.symm
  obtain ⟨hwts, hw6⟩ := way_wts hV hWV
  obtain ⟨us, hus⟩ : ∃ us, us = way.map sumI := ⟨_, rfl⟩
  rw [← hus] at hwts hw6
  obtain ⟨n, hn⟩ : ∃ n, n = way.length := ⟨_, rfl⟩
  have hul : us.length = n := by rw [hus, List.length_map, hn]
  have hD := hV.c2
  rw [hT]
  refine AGo_nilms 13 1 rfl ?_
  refine AGo_upE [3, 4, 34, 35] n (fun _ (_ : Unit) => True) (fun j _ i => [(13, .ms 1 2 j 0 j), (36, I i)]) (fun j _ => [.own 0 [I a, I b, I c, I d, .vs 2 xs, .vs 4 ys], .own 0 [I u, I v, .vs 1 zs], .own j ((us.take j).map I)]) () trivial ⟨rfl, rfl, trivial⟩ (.inl rfl) fun j _ i hi hj _ Bk hB => ?_
  have hvl : A.vlen rs = iLen n := by subst hA; simp [std, hrs, hn]
  have hlt : A.lt i (A.vlen rs) = decide (j < n) := by rw [hvl, hll, hi, decide_eq_decide]; unfold iLen; omega
  have hadd : ∀ N, j < N → N ≤ 9223372036854775807 → A.add .i64 i 1 = iLen (j + 1) := fun N hj hN => by subst hA; exact add_one hi hj hN
  obtain ⟨c1, hc1⟩ : ∃ r, r = (us.take j).map I := ⟨_, rfl⟩
  rw [← hc1]
  clear hT hTD T TD
  refine SGo_run hA ⟨[2], [1000046], (42, eTotal) :: [], []⟩ (.cons (eTotal_ok p42) .nil) .nil 200 fun T TD hT hTD => ?_
  cbv
  split <;> cbv
  · rename_i hk0
    have hk1 : j < n := by have hz := hlt.symm.trans hk0; simpa using hz
    clear hk0
    obtain ⟨r, hx⟩ : ∃ x, way[j]? = some x := ⟨_, List.getElem?_eq_getElem (by omega)⟩
    have hrm := List.mem_of_getElem? hx
    obtain ⟨rv, hrv⟩ : ∃ x, x = r.map I := ⟨_, rfl⟩
    have hix : A.ix 1 1 rs i [.vs 1 rv] := by subst hA; rw [hrv]; exact ix_map (f := fun r : List Int => AV.vs 1 (r.map I)) hrs hi hx rfl
    refine Exists.intro _ (And.intro hix ?_); cbv
    refine Exists.intro r (And.intro hrv (And.intro (by have := hWV.d r hrm; omega) (And.intro (fun x hx => by have := hWV.b r hrm x hx; omega) ?_)))
    intro q3 hq3; cbv
    have hut : us.take (j + 1) = us.take j ++ [q3] := by
      rw [List.take_succ_eq_append_getElem (by omega)]
      congr 2
      have : us[j]? = some q3 := by rw [hus, List.getElem?_map, hx, hq3]; rfl
      exact (List.getElem?_eq_some_iff.1 this).2
    obtain ⟨d1, hd1⟩ : ∃ r, r = (us.take (j + 1)).map I := ⟨_, rfl⟩
    have ha1 : A.app 1 1 8 c1 0 j [I q3] d1 (j + 1) := by
      rw [hd1, hut, List.map_append, ← hc1]; subst hA; exact app_one (by rw [hc1, List.length_map, List.length_take]; omega) rfl (by omega)
    refine And.intro (hsg _) (Exists.intro d1 (Exists.intro (j + 1) (And.intro ha1 (And.intro rfl ?_)))); cbv
    exact hB () _ _ hk1 trivial ⟨rfl, congrArg I (hadd _ hk1 (by omega)), trivial⟩ ⟨rfl, rfl, rfl, rfl, trivial⟩ (.inl (by rw [hd1]))
  rename_i hk0
  have hk1 : ¬ j < n := by have hz := hlt.symm.trans hk0; simpa using hz
  clear hk0
  have hjn : j = n := by omega
  subst hjn
  rw [List.take_of_length_le (by omega)] at hc1
  clear hB hadd hlt
  rw [hT]
  obtain ⟨xu, hxu⟩ : ∃ x, x = us.map I := ⟨_, rfl⟩
  refine AGo_frzS 13 (id := 2) (g := j) (sz := 1) (n := j) (xs := xu) (cs := c1) rfl rfl (by rw [hxu, List.length_map, hul]) (by rw [hc1, hxu]; exact Elems_I _) ?_
  clear hT hTD T TD
  refine SGo_run hA ⟨[4], [], [], (45, eShareM) :: []⟩ .nil (.cons eShareM_ok .nil) 200 fun T TD hT hTD => ?_
  cbv
  refine Exists.intro us (Exists.intro j (And.intro ⟨hxu, hul.symm, hwts, ⟨by have := hwts.1; omega, by omega⟩, hrd⟩ ?_))
  intro c2 hc2; cbv
  rw [hT]
  obtain ⟨sh, hsh⟩ : ∃ l, l = shareV road us := ⟨_, rfl⟩
  have hshl : sh.length = j := by rw [hsh, shareV_len, hul]
  have hshb : ∀ k, k < j → 0 ≤ sh.getD k 0 ∧ sh.getD k 0 ≤ 1000000000001 := fun k hk => by
    rw [hsh, share_get (by omega)]
    have := shB_bnd hwts hrd.1 ((shB road us).getD k 0) (by rw [List.getD_eq_getElem?_getD, List.getElem?_eq_getElem (by rw [shB_len]; omega)]; exact List.getElem_mem _)
    split <;> omega
  have hvl2 : A.vlen xu = iLen j := by subst hA; simp [std, hxu, hul]
  refine AGo_upE [3, 16, 49, 50] j (fun _ (_ : Unit) => True) (fun t _ i => [(51, I i)]) (fun t _ => [.own 0 [I a, I b, I c, I d, .vs 2 xs, .vs 4 ys], .own 0 [I u, I v, .vs 1 zs], .gone, .own 0 [], .own j ((billT rate us sh t).map I), .own j [], .own j []]) () trivial ⟨rfl, trivial⟩ (.inl (by rw [hc2, ← hsh, billT_zero])) fun t _ i2 hi2 ht _ Bk hB => ?_
  have hlt2 : A.lt i2 (A.vlen xu) = decide (t < j) := by rw [hvl2, hll, hi2, decide_eq_decide]; unfold iLen; omega
  have hadd2 : ∀ N, t < N → N ≤ 9223372036854775807 → A.add .i64 i2 1 = iLen (t + 1) := fun N hj hN => by subst hA; exact add_one hi2 hj hN
  obtain ⟨o1, ho1⟩ : ∃ r, r = (billT rate us sh t).map I := ⟨_, rfl⟩
  rw [← ho1]
  clear hT hTD T TD
  refine SGo_run hA ⟨[4], [], [], []⟩ .nil .nil 200 fun T TD hT hTD => ?_
  cbv
  split <;> cbv
  · rename_i hz5
    have htj : t < j := of_decide_eq_true (hlt2.symm.trans hz5)
    obtain ⟨un, hun⟩ : ∃ x, us[t]? = some x := ⟨_, List.getElem?_eq_getElem (by omega)⟩
    have hub := hwts.2.2 un (List.mem_of_getElem? hun)
    have hix : A.ix 1 1 xu i2 [I un] := by subst hA; exact ix_map hxu hi2 hun rfl
    have hgd : us.getD t 0 = un := by rw [List.getD_eq_getElem?_getD, hun]; rfl
    obtain ⟨sv, hsv⟩ : ∃ x, x = sh.getD t 0 := ⟨_, rfl⟩
    have hsb := hshb t htj
    rw [← hsv] at hsb
    have hp0 : 0 ≤ rate * un := Int.mul_nonneg hrt.1 hub.1
    have hp1 : rate * un ≤ 1000000 * 1000000 := Int.mul_le_mul hrt.2 hub.2 hub.1 (by omega)
    have hmul : A.mul .i64 rate un = rate * un := by subst hA; exact iMul_id (by omega) (by omega)
    have hx2 : A.ixm 1 1 0 j i2 t := by subst hA; exact ixm1 hi2 htj
    have hg2 : A.get none o1 t (I sv) := by subst hA; rw [ho1, hsv]; exact getS_I (billT_get (by omega))
    obtain ⟨o2, ho2⟩ : ∃ r, r = (billT rate us sh (t + 1)).map I := ⟨_, rfl⟩
    have hav : A.add .i64 sv (A.mul .i64 rate un) = sv + rate * un := by rw [hmul]; subst hA; exact iAdd_id (by omega) (by omega)
    have hup : A.upd 1 o1 t [I (A.add .i64 sv (A.mul .i64 rate un))] o2 := by
      rw [hav, ho2, ho1, ← billT_set (by omega), hgd, hsv]; subst hA; exact updS_I (by rw [billT_len]; omega)
    refine Exists.intro _ (And.intro hix ?_); cbv
    refine And.intro (hsg _) (Exists.intro t (And.intro hx2 ?_)); cbv
    refine And.intro (hsg _) (Exists.intro _ (And.intro hg2 ?_)); cbv
    refine And.intro (hsg _) (Exists.intro t (And.intro hx2 ?_)); cbv
    refine And.intro (hsg _) (Exists.intro o2 (And.intro hup ?_)); cbv
    exact hB () _ _ htj trivial ⟨congrArg I (hadd2 _ htj (by omega)), trivial⟩ ⟨rfl, rfl, rfl, rfl, trivial⟩ (.inl (by rw [ho2]))
  · rename_i hz5
    have htj : ¬ t < j := of_decide_eq_false (hlt2.symm.trans hz5)
    have htj : t = j := by omega
    have hfin : billT rate us sh t = billR f wn way rate road := by
      unfold billR; rw [if_pos hE0, htj]; unfold billV; rw [← hus, ← hsh, ← hn]
    rw [hF]
    refine Frees.frz 4 j 1 ((billR f wn way rate road).map I) rfl (by rw [ho1, hfin]; exact Elems_I _) ?_
    have e : AV.frz 4 j 1 ((billR f wn way rate road).map I) (aTup [.ms 1 4 j 0 j, I 0]) = .tup [.vs 1 ((billR f wn way rate road).map I), I 0] := by
      have := frz_self (id := 4) (g := j) (sz := 1) (len := j) (xs := (billR f wn way rate road).map I) (by rw [List.length_map, ← hfin, billT_len, hshl])
      simp only [aTup, AV.frz, AV.frzL] at this ⊢
      rw [this]
    rw [e]
    rw [hE0] at h
    exact Frees.drop0 h rfl
end Go.Sas
