/-
Radar files: which tracks are valid: contract of the program's function.
Conditions: none.
-/
import Derived.Test.YtpokfjhlilbpfaaDoorXJd
import Derived.Test.YtpokfjhlilbpfaaDoorP9d
import Derived.Test.YtpokfjhlilbpfaaDoorXDd
set_option linter.unusedVariables false
set_option linter.unusedSimpArgs false
namespace Go.Sas
open Go.Proofs
set_option maxRecDepth 100000
set_option maxHeartbeats 1000000 in
theorem p48 (t : Trk) (hl : t.ec.length ≤ 9223372036854775807) (H : AHeap) {Kk : AV → AHeap → Prop} (h : Kk (I (checkT t)) H) : ACalls Tryd.prog 48 [tkV t.sp.1 t.sp.2 (.vs 4 (t.ec.map ecV))] H Kk := by
  refine (fun q => pureC (by rfl) (by rfl) q H h) ?_
  clear h
  intro Kk h
  obtain ⟨⟨s1, s2⟩, l⟩ := t
  dsimp only at hl h ⊢
  obtain ⟨ys, hys⟩ : ∃ ys, ys = l.map ecV := ⟨_, rfl⟩
  rw [← hys]
  obtain ⟨W, hW⟩ : ∃ W, W = checkT ⟨(s1, s2), l⟩ := ⟨_, rfl⟩
  rw [← hW] at h
  have hW1 : ¬ ((1 ≤ s1 ∧ s1 ≤ 1000) ∧ (1 ≤ s2 ∧ s2 ≤ 1000)) → W = 2 := fun hh => by rw [hW]; unfold checkT; rw [if_pos hh]
  have hW2 : ((1 ≤ s1 ∧ s1 ≤ 1000) ∧ (1 ≤ s2 ∧ s2 ≤ 1000)) → s2 < s1 → W = 11 := fun hh h2 => by rw [hW]; unfold checkT; rw [if_neg (Decidable.not_not.2 hh), if_pos h2]
  have hW3 : ((1 ≤ s1 ∧ s1 ≤ 1000) ∧ (1 ≤ s2 ∧ s2 ≤ 1000)) → ¬ s2 < s1 → 200 < l.length → W = 8 := fun hh h2 h3 => by rw [hW]; unfold checkT; rw [if_neg (Decidable.not_not.2 hh), if_neg h2, if_pos h3]
  have hW4 : ((1 ≤ s1 ∧ s1 ≤ 1000) ∧ (1 ≤ s2 ∧ s2 ≤ 1000)) → ¬ s2 < s1 → ¬ 200 < l.length → W = firstE echE l := fun hh h2 h3 => by rw [hW]; unfold checkT; rw [if_neg (Decidable.not_not.2 hh), if_neg h2, if_neg h3]
  clear hW
  obtain ⟨A, hA⟩ : ∃ A, A = std := ⟨_, rfl⟩
  have hv : A.lt 200 (A.vlen ys) = decide (200 < l.length) := by subst hA; simp only [std, iLt, hys, List.length_map, iLen]; rw [decide_eq_decide]; omega
  have hls : A.lt s2 s1 = decide (s2 < s1) := by subst hA; rfl
  have hbn : ∀ b, A.bnot b = !b := by subst hA; intro b; rfl
  refine go48 rfl (SGo_run hA ⟨[], [], (16, eIn) :: [], []⟩ (.cons (eIn_ok p16) .nil) .nil 200 fun T TD hT hTD => ?_)
  cbv
  repeat' (first | (intro qq hfq; cbv) | (split <;> cbv))
  all_goals try
    refine leaf h (congrArg I ?_) rfl
    clear hT hTD hA hys h hW4
    simp only [hv, hls, hbn] at *
    subst_vars
    simp only [Bool.not_eq_true', Bool.not_eq_false', decide_eq_true_eq, decide_eq_false_iff_not] at *
    first | exact hW1 (by omega) | exact hW2 (by omega) (by omega) | exact hW3 (by omega) (by omega) (by omega)
  rename_i q1 hf1 b1 he1 b2 he2 b3 he3 b4 he4
  have e1 : 1 ≤ s1 ∧ s1 ≤ 1000 := by rw [hbn, hf1] at he1; simpa using he1
  have e2 : 1 ≤ s2 ∧ s2 ≤ 1000 := by rw [hbn, hfq] at he2; simpa using he2
  have e3 : ¬ s2 < s1 := by rw [hls] at he3; simpa using he3
  have e4 : ¬ 200 < l.length := by rw [hv] at he4; simpa using he4
  have hW := hW4 ⟨e1, e2⟩ e3 e4
  clear hW1 hW2 hW3 hW4 he1 he2 he3 he4 hf1 hfq hv hls
  rw [hT]
  refine AGo_upE [1, 32, 33] l.length (fun j (_ : Unit) => W = firstE echE (l.drop j)) (fun _ _ i => [(34, I i)]) (fun _ _ => [.own 0 [I s1, I s2, .vs 4 ys]]) () hW ⟨rfl, trivial⟩ (.inl rfl) fun j _ i hi hj hP Bk hB => ?_
  have hlt : A.lt i (A.vlen ys) = decide (j < l.length) := by subst hA; exact lt_len (by simp [hys]) hi
  have hadd : ∀ N, j < N → N ≤ 9223372036854775807 → A.add .i64 i 1 = iLen (j + 1) := fun N hj hN => by subst hA; exact add_one hi hj hN
  refine SGo_run hA ⟨[], [], (16, eIn) :: [], []⟩ (.cons (eIn_ok p16) .nil) .nil 200 fun T TD hT hTD => ?_
  cbv
  split <;> cbv
  · rename_i hk0
    have hk1 : j < l.length := by have hz := hlt.symm.trans hk0; simpa using hz
    clear hk0
    obtain ⟨⟨x1, x2, x3, x4⟩, hx⟩ : ∃ x, l[j]? = some x := ⟨_, List.getElem?_eq_getElem hk1⟩
    have hix : A.ix 4 4 ys i [I x1, I x2, I x3, I x4] := by subst hA; exact ix_map hys hi hx rfl
    rw [firstE_drop hx] at hP
    have hR : ∀ e, e ≠ 0 → echE ⟨x1, x2, x3, x4⟩ = e → W = e := fun e h0 h => by rw [hP, h, if_neg h0]
    have hN : echE ⟨x1, x2, x3, x4⟩ = 0 → W = firstE echE (l.drop (j + 1)) := fun h => by rw [hP, if_pos h]
    have hlt2 : A.lt x4 x3 = decide (x4 < x3) := by subst hA; rfl
    have hE : echE ⟨x1, x2, x3, x4⟩ = if (0 ≤ x1 ∧ x1 ≤ 999) ∧ (0 ≤ x2 ∧ x2 ≤ 10000) ∧ (0 ≤ x3 ∧ x3 ≤ 1000000) ∧ (0 ≤ x4 ∧ x4 ≤ 1000000) then (if x3 ≤ x4 then 0 else 11) else 2 := rfl
    refine Exists.intro _ (And.intro hix ?_); cbv
    repeat' (first | (intro qq hfq; cbv) | (split <;> cbv))
    all_goals first
      | refine hB () _ _ hk1 (hN ?_) ⟨congrArg I (hadd _ hk1 (by omega)), trivial⟩ ⟨rfl, rfl, rfl, trivial⟩ (.inr ⟨⟨_, rfl⟩, Nat.zero_le _, by simp [ltG, AV.lt, AV.ltL, keepS, look], by simp [ltH, AObj.lt, AV.lt, AV.ltL]⟩)
      | refine leaf h (congrArg I (hR _ (by decide) ?_)) rfl
    all_goals
      clear hR hN hP hix hlt hadd hB hx h hl e4 hk1 hi hj hT hTD hys hA hW
      simp only [hbn, hlt2] at *
      subst_vars
      simp only [Bool.not_eq_true', Bool.not_eq_false', decide_eq_true_eq, decide_eq_false_iff_not] at *
      first | (rw [hE, if_neg (by omega)]) | (rw [hE, if_pos (by omega), if_neg (by omega)]) | (rw [hE, if_pos (by omega), if_pos (by omega)])
  · rename_i hk0
    have hk1 : ¬ j < l.length := by have hz := hlt.symm.trans hk0; simpa using hz
    clear hk0
    have hf : W = 0 := by rw [hP, List.drop_eq_nil_of_le (by omega)]; rfl
    exact leaf h (congrArg I hf) rfl
end Go.Sas
