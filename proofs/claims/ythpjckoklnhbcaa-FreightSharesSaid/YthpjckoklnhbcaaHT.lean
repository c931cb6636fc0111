/-
Freight: Share: contracts.
Freight: shares that are written to; bills: contracts.
Freight: bills: contract.
Conditions: none.
-/
import Derived.Test.YthpjckoklnhbcaaHS
import Derived.Test.YthpjckoklnhbcaaHG
import Derived.Test.YthpjckoklnhbcaaQG33
set_option linter.unusedVariables false
set_option linter.unusedSimpArgs false
namespace Go.Sas
open Go.Proofs
set_option maxRecDepth 100000
def wtB (w : Int) : Bool := !decide (0 ≤ w ∧ w ≤ 1000000)
def shareE (am : Int) (ws : List Int) : Int :=
  if ¬ (0 ≤ am ∧ am ≤ 1000000000000) then 2 else if ws.length = 0 then 6 else if 40 < ws.length then 8 else if ws.any wtB = true then 2 else 0
theorem shareE_ok {am : Int} {ws : List Int} : shareE am ws = 0 ↔ (0 ≤ am ∧ am ≤ 1000000000000) ∧ WtsV ws := by
  unfold shareE
  constructor
  · intro h
    split at h
    · contradiction
    rename_i h1
    split at h
    · contradiction
    split at h
    · contradiction
    split at h
    · contradiction
    rename_i h2 h3 h4
    refine ⟨by omega, by omega, by omega, fun w hw => ?_⟩
    rw [Bool.not_eq_true, List.any_eq_false] at h4
    have := h4 w hw
    simp only [wtB, Bool.not_eq_true, Bool.not_eq_false', decide_eq_true_eq] at this
    exact this
  · rintro ⟨h1, h2, h3, h4⟩
    rw [if_neg (by omega), if_neg (by omega), if_neg (by omega), if_neg]
    rw [Bool.not_eq_true, List.any_eq_false]
    intro w hw
    have := h4 w hw
    simp [wtB, this]
/-- shares, with the error -/
def shareR (am : Int) (ws : List Int) : List Int := if shareE am ws = 0 then shareV am ws else []
theorem p97 (w : Int) (H : AHeap) {Kk : AV → AHeap → Prop} (h : Kk (B (wtB w)) H) : ACalls Try.prog 97 [I w] H Kk := by
  refine (fun q => pureC (by rfl) (by rfl) q H h) ?_
  clear h
  intro Kk h
  obtain ⟨A, hA⟩ : ∃ A, A = std := ⟨_, rfl⟩
  have hne : ∀ x y, A.ne x y = decide (x ≠ y) := by subst hA; intro x y; simp only [std, iNe]; rw [Bool.eq_iff_iff]; simp
  have hee : ∀ x y, A.eq x y = decide (x = y) := by subst hA; intro x y; exact iEq_dec _ _
  have hll : ∀ x y, A.lt x y = decide (x < y) := by subst hA; intro x y; rfl
  have hle : ∀ x y, A.le x y = decide (x ≤ y) := by subst hA; intro x y; rfl
  have hnb : ∀ b, A.bnot b = !b := by subst hA; intro b; rfl
  have hbd : ∀ x y, A.band x y = (x && y) := by subst hA; intro x y; rfl
  have hsg : ∀ g, A.sg g g := by subst hA; exact fun _ => rfl
  refine go97 rfl (SGo_run hA ⟨[], [], (65, eIn) :: [], []⟩ (.cons (eIn_ok p65) .nil) .nil 200 fun T TD hT hTD => ?_)
  cbv
  intro q hq; cbv
  exact leaf h (congrArg B ((hnb q).trans (by rw [hq]; rfl)).symm) rfl
def eWt : List AV → Option ((AV → Prop) → Prop)
  | [.lit (.int .i64 w)] => some fun K => ∀ q, q = wtB w → K (B q)
  | _ => none
theorem eWt_ok : ∀ args pt, eWt args = some pt → ∀ (H : AHeap) (Kk : AV → AHeap → Prop), pt (fun r => Kk r H) → ACalls Try.prog 97 args H Kk := by
  intro args pt h H Kk hk
  unfold eWt at h
  split at h
  · cases h; exact p97 _ H (hk _ rfl)
  · cases h
theorem p114 (ws : List Int) (hl : ws.length ≤ 9223372036854775807) (H : AHeap) {Kk : AV → AHeap → Prop} (h : Kk (I (idxP wtB ws 0)) H) : ACalls Try.prog 114 [.vs 1 (ws.map I), .fn 97 []] H Kk := by
  refine (fun q => pureC (by rfl) (by rfl) q H h) ?_
  clear h
  intro Kk h
  obtain ⟨xs, hxs⟩ : ∃ xs, xs = ws.map I := ⟨_, rfl⟩
  rw [← hxs]
  obtain ⟨W, hW⟩ : ∃ W, W = idxP wtB ws 0 := ⟨_, rfl⟩
  rw [← hW] at h
  obtain ⟨A, hA⟩ : ∃ A, A = std := ⟨_, rfl⟩
  have hne : ∀ x y, A.ne x y = decide (x ≠ y) := by subst hA; intro x y; simp only [std, iNe]; rw [Bool.eq_iff_iff]; simp
  have hee : ∀ x y, A.eq x y = decide (x = y) := by subst hA; intro x y; exact iEq_dec _ _
  have hll : ∀ x y, A.lt x y = decide (x < y) := by subst hA; intro x y; rfl
  have hle : ∀ x y, A.le x y = decide (x ≤ y) := by subst hA; intro x y; rfl
  have hnb : ∀ b, A.bnot b = !b := by subst hA; intro b; rfl
  have hbd : ∀ x y, A.band x y = (x && y) := by subst hA; intro x y; rfl
  have hsg : ∀ g, A.sg g g := by subst hA; exact fun _ => rfl
  refine go114 rfl (SGo_run hA ⟨[], [], [], []⟩ .nil .nil 200 fun T TD hT hTD => ?_)
  cbv
  rw [hT]
  refine AGo_upE [0, 1, 7] ws.length (fun j (_ : Unit) => W = idxP wtB (ws.drop j) (iLen j)) (fun j _ i => [(8, I i)]) (fun _ _ => []) () hW ⟨rfl, trivial⟩ (.inl rfl) fun j _ i hi hj hP Bk hB => ?_
  have hlt : A.lt i (A.vlen xs) = decide (j < ws.length) := by subst hA; exact lt_len (by simp [hxs]) hi
  have hadd : ∀ N, j < N → N ≤ 9223372036854775807 → A.add .i64 i 1 = iLen (j + 1) := fun N hj hN => by subst hA; exact add_one hi hj hN
  refine SGo_run hA ⟨[], [], (97, eWt) :: [], []⟩ (.cons eWt_ok .nil) .nil 200 fun T TD hT hTD => ?_
  cbv
  split <;> cbv
  · rename_i hk0
    have hk1 : j < ws.length := by have hz := hlt.symm.trans hk0; simpa using hz
    clear hk0
    obtain ⟨w, hx⟩ : ∃ x, ws[j]? = some x := ⟨_, List.getElem?_eq_getElem hk1⟩
    have hix : A.ix 1 1 xs i [I w] := by subst hA; exact ix_map hxs hi hx rfl
    rw [drop_cons hx] at hP
    refine Exists.intro _ (And.intro hix ?_); cbv
    intro q hq; cbv
    cases q with
    | true =>
      cbv
      refine leaf h (congrArg I ?_) rfl
      have e : idxP wtB (w :: ws.drop (j + 1)) (iLen j) = iLen j := if_pos hq.symm
      exact (hP.trans e).trans hi.symm
    | false =>
      cbv
      refine hB () _ _ hk1 ?_ ⟨congrArg I (hadd _ hk1 (by omega)), trivial⟩ ⟨rfl, rfl, rfl, trivial⟩ (.inl rfl)
      rw [hP]
      have : idxP wtB (w :: ws.drop (j + 1)) (iLen j) = idxP wtB (ws.drop (j + 1)) (iLen j + 1) := if_neg (by rw [← hq]; simp)
      rw [this]; rfl
  · rename_i hk0
    have hk1 : ¬ j < ws.length := by have hz := hlt.symm.trans hk0; simpa using hz
    clear hk0
    refine leaf h (congrArg I ?_) rfl
    rw [hP, List.drop_eq_nil_of_le (by omega)]; rfl
def eIdxW : List AV → Option ((AV → Prop) → Prop)
  | [.vs 1 xs, .fn 97 []] => some fun K => ∃ ws : List Int, (xs = ws.map I ∧ ws.length ≤ 9223372036854775807) ∧ ∀ q, q = idxP wtB ws 0 → K (I q)
  | _ => none
theorem eIdxW_ok : ∀ args pt, eIdxW args = some pt → ∀ (H : AHeap) (Kk : AV → AHeap → Prop), pt (fun r => Kk r H) → ACalls Try.prog 114 args H Kk := by
  intro args pt h H Kk hk
  unfold eIdxW at h
  split at h
  · cases h
    obtain ⟨ws, ⟨rfl, h1⟩, h2⟩ := hk
    exact p114 _ h1 H (h2 _ rfl)
  · cases h
theorem p96 (ws : List Int) (hl : ws.length ≤ 9223372036854775807) (H : AHeap) {Kk : AV → AHeap → Prop} (h : Kk (B (ws.any wtB)) H) : ACalls Try.prog 96 [.vs 1 (ws.map I), .fn 97 []] H Kk := by
  refine (fun q => pureC (by rfl) (by rfl) q H h) ?_
  clear h
  intro Kk h
  obtain ⟨xs, hxs⟩ : ∃ xs, xs = ws.map I := ⟨_, rfl⟩
  rw [← hxs]
  obtain ⟨A, hA⟩ : ∃ A, A = std := ⟨_, rfl⟩
  have hne : ∀ x y, A.ne x y = decide (x ≠ y) := by subst hA; intro x y; simp only [std, iNe]; rw [Bool.eq_iff_iff]; simp
  have hee : ∀ x y, A.eq x y = decide (x = y) := by subst hA; intro x y; exact iEq_dec _ _
  have hll : ∀ x y, A.lt x y = decide (x < y) := by subst hA; intro x y; rfl
  have hle : ∀ x y, A.le x y = decide (x ≤ y) := by subst hA; intro x y; rfl
  have hnb : ∀ b, A.bnot b = !b := by subst hA; intro b; rfl
  have hbd : ∀ x y, A.band x y = (x && y) := by subst hA; intro x y; rfl
  have hsg : ∀ g, A.sg g g := by subst hA; exact fun _ => rfl
  refine go96 rfl (SGo_run hA ⟨[], [], (114, eIdxW) :: [], []⟩ (.cons eIdxW_ok .nil) .nil 200 fun T TD hT hTD => ?_)
  cbv
  refine Exists.intro ws (And.intro ⟨hxs, hl⟩ ?_)
  intro q hq; cbv
  exact leaf h (congrArg B ((hle 0 q).trans (by rw [hq]; exact idxP_any (Int.le_refl _))).symm) rfl
def eAnyW : List AV → Option ((AV → Prop) → Prop)
  | [.vs 1 xs, .fn 97 []] => some fun K => ∃ ws : List Int, (xs = ws.map I ∧ ws.length ≤ 9223372036854775807) ∧ ∀ q, q = ws.any wtB → K (B q)
  | _ => none
theorem eAnyW_ok : ∀ args pt, eAnyW args = some pt → ∀ (H : AHeap) (Kk : AV → AHeap → Prop), pt (fun r => Kk r H) → ACalls Try.prog 96 args H Kk := by
  intro args pt h H Kk hk
  unfold eAnyW at h
  split at h
  · cases h
    obtain ⟨ws, ⟨rfl, h1⟩, h2⟩ := hk
    exact p96 _ h1 H (h2 _ rfl)
  · cases h
def eShare : List AV → Option ((AV → Prop) → Prop)
  | [.lit (.int .i64 am), .vs 1 xs] => some fun K => ∃ ws : List Int, (xs = ws.map I ∧ WtsV ws ∧ SrtN ws.length ∧ 0 ≤ am ∧ am ≤ 1000000000000) ∧ ∀ ys, ys = (shareV am ws).map I → K (.vs 1 ys)
  | _ => none
theorem eShare_ok : ∀ args pt, eShare args = some pt → ∀ (H : AHeap) (Kk : AV → AHeap → Prop), pt (fun r => Kk r H) → ACalls Try.prog 98 args H Kk := by
  intro args pt h H Kk hk
  unfold eShare at h
  split at h
  · cases h
    obtain ⟨ws, ⟨rfl, h1, h2, h3⟩, h4⟩ := hk
    exact p98 _ ws h1 h2 h3 H (h4 _ rfl)
  · cases h
def eShareR : List AV → Option ((AV → Prop) → Prop)
  | [.lit (.int .i64 am), .vs 1 xs] => some fun K => ∃ ws : List Int, (xs = ws.map I ∧ WtsV ws ∧ 0 ≤ am ∧ am ≤ 1000000000000) ∧ ∀ ys, ys = (shareV am ws).map I → K (.vs 1 ys)
  | _ => none
theorem eShareR_ok : ∀ args pt, eShareR args = some pt → ∀ (H : AHeap) (Kk : AV → AHeap → Prop), pt (fun r => Kk r H) → ACalls Try.prog 99 args H Kk := by
  intro args pt h H Kk hk
  unfold eShareR at h
  split at h
  · cases h
    obtain ⟨ws, ⟨rfl, h1, h3⟩, h4⟩ := hk
    exact p99 _ ws h1 h3 H (h4 _ rfl)
  · cases h
theorem p48 (am : Int) (ws : List Int) (hl : ws.length ≤ 9223372036854775807) (hs : shareE am ws = 0 → SrtN ws.length) (H : AHeap) {Kk : AV → AHeap → Prop} (h : Kk (.tup [.vs 1 ((shareR am ws).map I), I (shareE am ws)]) H) : ACalls Try.prog 48 [I am, .vs 1 (ws.map I)] H Kk := by
  refine (fun q => pureF (by rfl) (by rfl) q H h) ?_
  clear h
  intro Kk h
  obtain ⟨xs, hxs⟩ : ∃ xs, xs = ws.map I := ⟨_, rfl⟩
  rw [← hxs]
  obtain ⟨A, hA⟩ : ∃ A, A = std := ⟨_, rfl⟩
  have hne : ∀ x y, A.ne x y = decide (x ≠ y) := by subst hA; intro x y; simp only [std, iNe]; rw [Bool.eq_iff_iff]; simp
  have hee : ∀ x y, A.eq x y = decide (x = y) := by subst hA; intro x y; exact iEq_dec _ _
  have hll : ∀ x y, A.lt x y = decide (x < y) := by subst hA; intro x y; rfl
  have hle : ∀ x y, A.le x y = decide (x ≤ y) := by subst hA; intro x y; rfl
  have hnb : ∀ b, A.bnot b = !b := by subst hA; intro b; rfl
  have hbd : ∀ x y, A.band x y = (x && y) := by subst hA; intro x y; rfl
  have hsg : ∀ g, A.sg g g := by subst hA; exact fun _ => rfl
  obtain ⟨F, hF⟩ : ∃ F, F = Frees 0 Kk := ⟨_, rfl⟩
  rw [← hF]
  have hvl : A.vlen xs = iLen ws.length := by subst hA; simp [std, hxs]
  have hw : ∀ c, shareE am ws = c → c ≠ 0 → F (aTup [.lit (.slice none 0 0), I c]) [] := fun c h1 h2 => by
    rw [hF]
    refine Frees.wk (r' := .tup [.vs 1 [], I c]) (Wk.tup ⟨Wk.nil, Wk.rfl, trivial⟩) (Frees.drop0 ?_ rfl)
    have h3 : shareR am ws = [] := by unfold shareR; rw [if_neg (by rw [h1]; exact h2)]
    rw [h3, h1] at h; exact h
  refine go48 rfl (SGo_run hA ⟨[], [], (65, eIn) :: (96, eAnyW) :: (98, eShare) :: [], []⟩ (.cons (eIn_ok p65) (.cons eAnyW_ok (.cons eShare_ok .nil))) .nil 200 fun T TD hT hTD => ?_)
  cbv
  intro q1 hq1; cbv
  have z1 : A.bnot q1 = decide (¬ (0 ≤ am ∧ am ≤ 1000000000000)) := by rw [hnb, hq1]; exact (decide_not ..).symm
  split <;> cbv
  · rename_i hz
    have hz := of_decide_eq_true (z1.symm.trans hz)
    exact hw 2 (by unfold shareE; rw [if_pos hz]) (by decide)
  rename_i hz
  have hz := of_decide_eq_false (z1.symm.trans hz)
  have z2 : A.eq (A.vlen xs) 0 = decide (ws.length = 0) := by rw [hvl, hee, decide_eq_decide]; unfold iLen; omega
  split <;> cbv
  · rename_i hz2
    have hz2 := of_decide_eq_true (z2.symm.trans hz2)
    exact hw 6 (by unfold shareE; rw [if_neg hz, if_pos hz2]) (by decide)
  rename_i hz2
  have hz2 := of_decide_eq_false (z2.symm.trans hz2)
  have z3 : A.lt 40 (A.vlen xs) = decide (40 < ws.length) := by rw [hvl, hll, decide_eq_decide]; unfold iLen; omega
  split <;> cbv
  · rename_i hz3
    have hz3 := of_decide_eq_true (z3.symm.trans hz3)
    exact hw 8 (by unfold shareE; rw [if_neg hz, if_neg hz2, if_pos hz3]) (by decide)
  rename_i hz3
  have hz3 := of_decide_eq_false (z3.symm.trans hz3)
  refine Exists.intro ws (And.intro ⟨hxs, hl⟩ ?_)
  intro q2 hq2; cbv
  cases q2 with
  | true =>
    cbv
    exact hw 2 (by unfold shareE; rw [if_neg hz, if_neg hz2, if_neg hz3, if_pos hq2.symm]) (by decide)
  | false =>
    cbv
    have hE : shareE am ws = 0 := by unfold shareE; rw [if_neg hz, if_neg hz2, if_neg hz3, if_neg (by rw [← hq2]; simp)]
    obtain ⟨h1, h2⟩ := shareE_ok.1 hE
    refine Exists.intro ws (And.intro ⟨hxs, h2, hs hE, h1⟩ ?_)
    intro ys hys; cbv
    rw [hF]
    have h3 : shareR am ws = shareV am ws := by unfold shareR; rw [if_pos hE]
    rw [h3, hE, ← hys] at h
    exact Frees.drop0 h rfl
def eShareF (f : Nat) : List AV → Option ((AV → Prop) → Prop)
  | [.lit (.int .i64 am), .vs 1 xs] => some fun K => ∃ ws : List Int, (xs = ws.map I ∧ ws.length ≤ 9223372036854775807 ∧ (shareE am ws = 0 → SrtN ws.length)) ∧ ∀ ys e, ys = (shareR am ws).map I → e = shareE am ws → K (.tup [.vs 1 ys, I e])
  | _ => none
theorem eShareF_ok {f : Nat} (hf : ∀ (am : Int) (ws : List Int), ws.length ≤ 9223372036854775807 → (shareE am ws = 0 → SrtN ws.length) → ∀ (H : AHeap) {Kk : AV → AHeap → Prop}, Kk (.tup [.vs 1 ((shareR am ws).map I), I (shareE am ws)]) H → ACalls Try.prog f [I am, .vs 1 (ws.map I)] H Kk) :
    ∀ args pt, eShareF f args = some pt → ∀ (H : AHeap) (Kk : AV → AHeap → Prop), pt (fun r => Kk r H) → ACalls Try.prog f args H Kk := by
  intro args pt h H Kk hk
  unfold eShareF at h
  split at h
  · cases h
    obtain ⟨ws, ⟨rfl, h1, h2⟩, h4⟩ := hk
    exact hf _ ws h1 h2 H (h4 _ _ rfl rfl)
  · cases h
end Go.Sas
namespace Go.Sas
open Go.Proofs
set_option maxRecDepth 100000
/-! ### Bills -/
end Go.Sas
namespace Go.Sas
open Go.Proofs
set_option maxRecDepth 100000
end Go.Sas
