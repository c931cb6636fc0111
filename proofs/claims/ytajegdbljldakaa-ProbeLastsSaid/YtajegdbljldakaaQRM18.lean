/-
Probe: what is shut stays so, when nothing new is seen.
Conditions: none.
-/
import Derived.Test.YtajegdbljldakaaQRM17
import Derived.Test.YtajegdbljldakaaPO
set_option linter.unusedVariables false
set_option linter.unusedSimpArgs false
namespace Go.Sas
theorem chg_back {r : Rch} {t : Int} (ht : t ≤ 0) (h0 : 0 ≤ r.th) : chg r t ≤ chg r (t - 1) := by
  unfold chg
  rw [if_pos (show t - 1 < 0 by omega)]
  by_cases h : t < 0
  · rw [if_pos h]
    exact Int.mul_le_mul_of_nonneg_right (by omega) h0
  · rw [if_neg h, show t = 0 by omega]
    have : (0 : Int) ≤ -(0 - 1) * r.th := Int.mul_nonneg (by decide) h0
    omega
theorem rise_back {R : List Rch} (hR : PlcOk R) {a b : Nat} {t : Int} (ht : t ≤ 0) : riseS R a t b ≤ riseS R a (t - 1) b := by
  obtain ⟨p, hp, he⟩ := riseS_ex hR a b (t - 1)
  rw [he]
  refine Int.le_trans (riseS_le hp) ?_
  unfold wayS
  have := chg_back (r := R.getD p rc0) ht (hR.at_ hp).2.2.1.1
  omega
theorem know_back {R : List Rch} (hR : PlcOk R) {l : List Lk} {p : Nat} {h : Int} (hl : ∀ x ∈ l, x.h ≤ h) : (knowS R l p (h + 1)).1 ≤ (knowS R l p h).1 := by
  obtain ⟨a1, _, a3, _, _⟩ := knowG_fold (R := R) (p := p) (h := h) (l := l) (s := (0, 3000)) rfl
  obtain ⟨_, _, _, b4, _⟩ := knowG_fold (R := R) (p := p) (h := h + 1) (l := l) (s := (0, 3000)) rfl
  rcases b4 with b4 | ⟨x, hx, b4⟩
  · show (l.foldl (knowG R p (h + 1)) (0, 3000)).1 ≤ (l.foldl (knowG R p h) (0, 3000)).1
    rw [b4]; exact a1
  · show (l.foldl (knowG R p (h + 1)) (0, 3000)).1 ≤ (l.foldl (knowG R p h) (0, 3000)).1
    rw [b4]
    have h1 := (a3 x hx).1
    have h2 := rise_back (a := x.p.toNat) (b := p) hR (show x.h - h ≤ 0 by have := hl x hx; omega)
    rw [show x.h - (h + 1) = x.h - h - 1 by omega]
    omega
theorem stale_back {R : List Rch} {a b c : Int} {l : List Lk} {h : Int} {p : Nat} (hl : ∀ x ∈ l, x.h ≤ h) (hs : staleS R a b c l h p = true) : staleS R a b c l (h + 1) p = true := by
  unfold staleS at hs ⊢
  rw [Bool.not_eq_true', List.any_eq_false] at hs ⊢
  intro x hx
  have h1 := hs x hx
  unfold seenS at h1 ⊢
  rw [Bool.and_eq_true, decide_eq_true_eq, decide_eq_true_eq] at h1 ⊢
  have := hl x hx
  omega
/-- what is shut stays so -/
theorem why_back {R : List Rch} (hR : PlcOk R) {a b c : Int} {l : List Lk} {m : List Mrk} {need h : Int} {p : Nat} (hp : p < R.length) (hl : ∀ x ∈ l, x.h ≤ h) (hm : ∀ x ∈ m, x.h ≤ h) (hs : ∀ x ∈ m, 0 ≤ x.s) (hw : whyS R a b c l m need h p ≠ 0) : whyS R a b c l m need (h + 1) p ≠ 0 := by
  intro h0
  obtain ⟨e1, e2, e3⟩ := why_zero h0
  refine hw ?_
  have k1 := know_back hR (p := p) hl
  have hv := verd_next (m := m) (h := h) (N := iLen R.length) (p := p) (by unfold iLen; omega) hs (fun x hx _ => by have := hm x hx; omega)
  have hr := verd_rng (m := m) (h := h) (N := iLen R.length) (p := p)
  have k2 : verdS m h (iLen R.length) p = 2 := by
    rcases hr with hr | hr | hr
    · have := hv.1 hr; rw [e2] at this; exact absurd this (by decide)
    · exact hr
    · exact absurd e2 (hv.2 hr)
  have k3 : staleS R a b c l h p = false := by
    cases hq : staleS R a b c l h p with
    | false => rfl
    | true => have := stale_back hl hq; rw [e3] at this; cases this
  unfold whyS
  rw [if_neg (by omega), if_neg (by rw [k2]; simp), if_neg (by rw [k3]; simp)]
/-- the first of so many numbers of which something holds -/
def FstR (q : Nat → Bool) (N r : Nat) : Prop := r ≤ N ∧ (∀ i < r, q i = false) ∧ (r < N → q r = true)
theorem FstR.uniq {q : Nat → Bool} {N r r' : Nat} (h : FstR q N r) (h' : FstR q N r') : r = r' := by
  obtain ⟨a1, a2, a3⟩ := h
  obtain ⟨b1, b2, b3⟩ := h'
  by_cases c1 : r < r'
  · have := b2 r c1; rw [a3 (by omega)] at this; cases this
  · by_cases c2 : r' < r
    · have := a2 r' c2; rw [b3 (by omega)] at this; cases this
    · omega
theorem FstR.of_mono {q : Nat → Bool} {N r : Nat} (hq : ∀ i, q i = true → q (i + 1) = true) (h1 : r ≤ N) (h2 : ∀ i, r = i + 1 → q i = false) (h3 : r < N → q r = true) : FstR q N r := by
  refine ⟨h1, fun i hi => ?_, h3⟩
  cases hqi : q i with
  | false => rfl
  | true =>
    have : ∀ d, q (i + d) = true := by
      intro d
      induction d with
      | zero => exact hqi
      | succ d ih => exact hq _ ih
    have h4 := h2 (r - 1) (by omega)
    have h5 := this (r - 1 - i)
    rw [show i + (r - 1 - i) = r - 1 by omega, h4] at h5; cases h5
/-- whether a place is shut so many hours later, when nothing new is seen -/
def shutQ (R : List Rch) (a b c : Int) (l : List Lk) (m : List Mrk) (need h : Int) (p n : Nat) : Bool := decide (whyS R a b c (pastL l h) (pastM m h) need (h + iLen n) p ≠ 0)
theorem pastL_h {l : List Lk} {h : Int} : ∀ x ∈ pastL l h, x.h ≤ h := fun x hx => by
  have := (List.mem_filter.1 hx).2; exact of_decide_eq_true this
theorem pastM_h {m : List Mrk} {h : Int} : ∀ x ∈ pastM m h, x.h ≤ h := fun x hx => by
  have := (List.mem_filter.1 hx).2; exact of_decide_eq_true this
theorem shutQ_mono {R : List Rch} (hR : PlcOk R) {a b c : Int} {l : List Lk} {m : List Mrk} {need h : Int} {p : Nat} (hp : p < R.length) (hs : ∀ x ∈ m, 0 ≤ x.s) (n : Nat) (hq : shutQ R a b c l m need h p n = true) : shutQ R a b c l m need h p (n + 1) = true := by
  unfold shutQ at hq ⊢
  rw [decide_eq_true_eq] at hq ⊢
  rw [show h + iLen (n + 1) = h + iLen n + 1 by unfold iLen; omega]
  exact why_back hR hp (fun x hx => by have := pastL_h x hx; unfold iLen; omega) (fun x hx => by have := pastM_h x hx; unfold iLen; omega) (fun x hx => hs x (List.mem_filter.1 hx).1) hq
/-- how long a place stays open, with the error -/
def LastQ (rs : List Rch) (a b c : Int) (l : List Lk) (m : List Mrk) (need h p v e : Int) : Prop :=
  (askE rs a b c l m need h ≠ 0 → v = 0 ∧ e = askE rs a b c l m need h) ∧
  (askE rs a b c l m need h = 0 → ¬ (0 ≤ p ∧ p ≤ iLen (plc rs).length - 1) → v = 0 ∧ e = 7) ∧
  (askE rs a b c l m need h = 0 → 0 ≤ p ∧ p ≤ iLen (plc rs).length - 1 → e = 0 ∧ ∃ r, FstR (shutQ (plc rs) a b c l m need h p.toNat) (10001 - h).toNat r ∧ v = if r = 0 then -1 else h + iLen r - 1)
theorem LastQ.uniq {rs : List Rch} {a b c : Int} {l : List Lk} {m : List Mrk} {need h p v e v' e' : Int} (h1 : LastQ rs a b c l m need h p v e) (h2 : LastQ rs a b c l m need h p v' e') : v = v' ∧ e = e' := by
  obtain ⟨a1, a2, a3⟩ := h1
  obtain ⟨b1, b2, b3⟩ := h2
  by_cases hE : askE rs a b c l m need h = 0
  · by_cases hp : 0 ≤ p ∧ p ≤ iLen (plc rs).length - 1
    · obtain ⟨rfl, r, hr, rfl⟩ := a3 hE hp
      obtain ⟨rfl, r', hr', rfl⟩ := b3 hE hp
      rw [hr.uniq hr']; exact ⟨rfl, rfl⟩
    · obtain ⟨rfl, rfl⟩ := a2 hE hp
      obtain ⟨rfl, rfl⟩ := b2 hE hp
      exact ⟨rfl, rfl⟩
  · obtain ⟨rfl, rfl⟩ := a1 hE
    obtain ⟨rfl, rfl⟩ := b1 hE
    exact ⟨rfl, rfl⟩
/-- marks of hours before: they only spread -/
theorem cov_grow {m : List Mrk} {k N : Nat} {h : Int} (hk : k < m.length) (hm : ∀ x ∈ m, x.h ≤ h) : ∀ p, (covB m k (h + 1) N).1 p = sprF N (m.getD k mk0).s (covB m k h N).1 p := by
  intro p
  unfold covB
  have hkh : (m.getD k mk0).h ≤ h := by
    rw [List.getD_eq_getElem?_getD, List.getElem?_eq_getElem hk]; exact hm _ (List.getElem_mem _)
  by_cases h4 : (m.getD k mk0).k = 4
  · rw [if_pos (.inl h4), if_pos (.inl h4)]
    dsimp only
    unfold sprF
    symm
    rw [List.any_eq_false]
    intro x _; simp
  · rw [if_neg (by rintro (h | h); exact h4 h; omega), if_neg (by rintro (h | h); exact h4 h; omega)]
    obtain ⟨j, hj⟩ : ∃ j : Nat, (h - (m.getD k mk0).h).toNat = j := ⟨_, rfl⟩
    rw [show (h + 1 - (m.getD k mk0).h).toNat = j + 1 by omega, hj]
    show (takF m 0 _ (sprF N _ _)) p = _
    unfold takF
    rw [List.drop_zero, takes_no (fun y hy => by have := hm y hy; unfold iLen; omega), Bool.not_false, Bool.and_true]
end Go.Sas
