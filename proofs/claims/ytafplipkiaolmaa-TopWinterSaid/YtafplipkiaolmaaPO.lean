/-
Probe: how much thicker ice may be, along a way; courses.
Probe: what is known, and courses.
Conditions: none.
-/
import Derived.Test.YtafplipkiaolmaaPM
set_option linter.unusedVariables false
set_option linter.unusedSimpArgs false
namespace Go.Sas
theorem chg_add {r1 r2 : Rch} (h1 : 0 ≤ r1.th) (h2 : 0 ≤ r1.gr) (h3 : 0 ≤ r2.th) (h4 : 0 ≤ r2.gr) (t1 t2 : Int) : chg r1 (t1 + t2) ≤ chg r1 t1 + chg r2 t2 ∨ chg r2 (t1 + t2) ≤ chg r1 t1 + chg r2 t2 := by
  unfold chg
  by_cases c1 : t1 < 0 <;> by_cases c2 : t2 < 0
  · rw [if_pos c1, if_pos c2, if_pos (by omega), if_pos (by omega), Int.neg_add, Int.add_mul, Int.add_mul]
    by_cases c3 : r1.th ≤ r2.th
    · left; have := Int.mul_le_mul_of_nonneg_left c3 (show 0 ≤ -t2 by omega); omega
    · right; have := Int.mul_le_mul_of_nonneg_left (show r2.th ≤ r1.th by omega) (show 0 ≤ -t1 by omega); omega
  · rw [if_pos c1, if_neg c2]
    have e1 : 0 ≤ -t1 * r1.th := Int.mul_nonneg (by omega) h1
    have e2 : 0 ≤ t2 * r2.gr := Int.mul_nonneg (by omega) h4
    by_cases c3 : t1 + t2 < 0
    · left; rw [if_pos c3, Int.neg_add, Int.add_mul]
      have := Int.mul_nonneg (show 0 ≤ t2 by omega) h1
      have e3 : -t2 * r1.th = -(t2 * r1.th) := by rw [Int.neg_mul]
      omega
    · right; rw [if_neg c3, Int.add_mul]
      have := Int.mul_nonneg (show 0 ≤ -t1 by omega) h4
      have e3 : -t1 * r2.gr = -(t1 * r2.gr) := by rw [Int.neg_mul]
      omega
  · rw [if_neg c1, if_pos c2]
    have e1 : 0 ≤ t1 * r1.gr := Int.mul_nonneg (by omega) h2
    have e2 : 0 ≤ -t2 * r2.th := Int.mul_nonneg (by omega) h3
    by_cases c3 : t1 + t2 < 0
    · right; rw [if_pos c3, Int.neg_add, Int.add_mul]
      have := Int.mul_nonneg (show 0 ≤ t1 by omega) h3
      have e3 : -t1 * r2.th = -(t1 * r2.th) := by rw [Int.neg_mul]
      omega
    · left; rw [if_neg c3, Int.add_mul]
      have := Int.mul_nonneg (show 0 ≤ -t2 by omega) h2
      have e3 : -t2 * r1.gr = -(t2 * r1.gr) := by rw [Int.neg_mul]
      omega
  · rw [if_neg c1, if_neg c2, if_neg (by omega), if_neg (by omega), Int.add_mul, Int.add_mul]
    by_cases c3 : r1.gr ≤ r2.gr
    · left; have := Int.mul_le_mul_of_nonneg_left c3 (show 0 ≤ t2 by omega); omega
    · right; have := Int.mul_le_mul_of_nonneg_left (show r2.gr ≤ r1.gr by omega) (show 0 ≤ t1 by omega); omega
theorem riseS_le {R : List Rch} {a b p : Nat} {t : Int} (hp : p < R.length) : riseS R a t b ≤ wayS R a t b p := minN_le (by omega)
theorem riseS_ex {R : List Rch} (h : PlcOk R) (a b : Nat) (t : Int) : ∃ p, p < R.length ∧ riseS R a t b = wayS R a t b p := by
  obtain ⟨p, hp, he⟩ := minN_ex (V := wayS R a t b) (R.length - 1)
  have := h.pos
  exact ⟨p, by omega, he⟩
theorem rise_tri {R : List Rch} (h : PlcOk R) (a b c : Nat) (t1 t2 : Int) : riseS R a (t1 + t2) c ≤ riseS R a t1 b + riseS R b t2 c := by
  obtain ⟨p1, hp1, e1⟩ := riseS_ex h a b t1
  obtain ⟨p2, hp2, e2⟩ := riseS_ex h b c t2
  have b1 := rc0_bnd h.all p1
  have b2 := rc0_bnd h.all p2
  rw [e1, e2]
  have d1 := farS_tri R c p2 p1
  have d2 := farS_tri R p2 b p1
  have d3 := farS_tri R p2 p1 a
  rcases chg_add (r1 := R.getD p1 rc0) (r2 := R.getD p2 rc0) b1.2.2.1 b1.2.2.2.2.1 b2.2.2.1 b2.2.2.2.2.1 t1 t2 with hc | hc
  · have := riseS_le (a := a) (b := c) (t := t1 + t2) hp1
    unfold wayS at *; omega
  · have := riseS_le (a := a) (b := c) (t := t1 + t2) hp2
    unfold wayS at *; omega
/-- the number of a course at a place, as thick as anchors allow -/
def ancG (R : List Rch) (h : Int) (p : Nat) (m : Int) (x : Lk) : Int := min m (x.lo + riseS R p (h - x.h) x.p.toNat)
def ancT (R : List Rch) (l : List Lk) (h : Int) (p : Nat) : Int := l.foldl (ancG R h p) 3000
theorem ancG_fold {R : List Rch} {h : Int} {p : Nat} : ∀ {l : List Lk} {m : Int}, (l.foldl (ancG R h p) m ≤ m ∧ (∀ x ∈ l, l.foldl (ancG R h p) m ≤ x.lo + riseS R p (h - x.h) x.p.toNat)) ∧ (l.foldl (ancG R h p) m = m ∨ ∃ x ∈ l, l.foldl (ancG R h p) m = x.lo + riseS R p (h - x.h) x.p.toNat)
  | [], m => ⟨⟨Int.le_refl _, by simp⟩, .inl rfl⟩
  | x :: l, m => by
    obtain ⟨⟨h1, h2⟩, h3⟩ := ancG_fold (R := R) (h := h) (p := p) (l := l) (m := ancG R h p m x)
    simp only [List.foldl_cons]
    have e : ancG R h p m x = min m (x.lo + riseS R p (h - x.h) x.p.toNat) := rfl
    obtain ⟨z, hz⟩ : ∃ z, z = l.foldl (ancG R h p) (ancG R h p m x) := ⟨_, rfl⟩
    obtain ⟨y0, hy0⟩ : ∃ y, y = ancG R h p m x := ⟨_, rfl⟩
    simp only [← hz] at h1 h2 h3 ⊢
    rw [← hy0] at h1 h3 e
    refine ⟨⟨by omega, fun y hy => ?_⟩, ?_⟩
    · rcases List.mem_cons.1 hy with rfl | hy
      · omega
      · exact h2 y hy
    · rcases h3 with h3 | ⟨y, hy, h3⟩
      · by_cases hm : m ≤ x.lo + riseS R p (h - x.h) x.p.toNat
        · exact .inl (by omega)
        · exact .inr ⟨x, by simp, by omega⟩
      · exact .inr ⟨y, by simp [hy], h3⟩
/-- a course of some hours -/
structure CrsOk (R : List Rch) (T : Nat → Nat → Int) (hours : Nat) : Prop where
  rng : ∀ i p, i < hours → p < R.length → 0 ≤ T i p ∧ T i p ≤ 3000
  lip : ∀ i j p q, i < hours → j < hours → p < R.length → q < R.length → T j q ≤ T i p + riseS R q ((j : Int) - i) p
theorem ancT_crs {R : List Rch} (hR : PlcOk R) {l : List Lk} {f : Int} {hours : Nat} (hf : 0 ≤ f ∧ f ≤ 100) (hn : hours ≤ 100) (hl : ∀ x ∈ l, (0 ≤ x.p ∧ x.p < R.length) ∧ (0 ≤ x.h ∧ x.h ≤ 10000) ∧ 0 ≤ x.lo) : CrsOk R (fun i p => ancT R l (f + i) p) hours := by
  have hb : ∀ x ∈ l, ∀ (i p : Nat), i < hours → p < R.length → 0 ≤ riseS R p (f + i - x.h) x.p.toNat := fun x hx i p hi hp => by
    have := hl x hx
    exact (riseS_bnd hR hp (b := x.p.toNat) (by omega) (t := f + i - x.h) (by omega)).1
  refine ⟨fun i p hi hp => ?_, fun i j p q hi hj hp hq => ?_⟩
  · obtain ⟨⟨h1, _⟩, h3⟩ := ancG_fold (R := R) (h := f + i) (p := p) (l := l) (m := 3000)
    refine ⟨?_, h1⟩
    unfold ancT
    rcases h3 with h3 | ⟨x, hx, h3⟩
    · omega
    · have := hb x hx i p hi hp
      have := (hl x hx).2.2
      omega
  · unfold ancT
    obtain ⟨_, h3⟩ := ancG_fold (R := R) (h := f + i) (p := p) (l := l) (m := 3000)
    obtain ⟨⟨h4, h5⟩, _⟩ := ancG_fold (R := R) (h := f + j) (p := q) (l := l) (m := 3000)
    have h6 := (riseS_bnd hR hq hp (t := (j : Int) - i) (by omega)).1
    rcases h3 with h3 | ⟨x, hx, h3⟩
    · omega
    · have h7 := h5 x hx
      have h8 := rise_tri hR q p x.p.toNat ((j : Int) - i) (f + i - x.h)
      rw [show (j : Int) - i + (f + i - x.h) = f + j - x.h by omega] at h8
      omega
/-- looks that a course fits -/
def LkFit (R : List Rch) (T : Nat → Nat → Int) (f : Int) (hours : Nat) (x : Lk) : Prop :=
  (1 ≤ x.k ∧ x.k ≤ 3) ∧ ∃ i p : Nat, i < hours ∧ p < R.length ∧ x.p = p ∧ x.h = f + i ∧ 0 ≤ x.lo ∧ x.lo ≤ T i p ∧ T i p ≤ x.hi ∧ x.hi ≤ 3000
theorem LkFit.ok {R : List Rch} {T : Nat → Nat → Int} {f : Int} {hours : Nat} {x : Lk} (h : LkFit R T f hours x) (hf : 0 ≤ f ∧ f ≤ 100) (hn : hours ≤ 100) : LkOk R.length x := by
  obtain ⟨h1, i, p, h2, h3, h4, h5, h6, h7, h8, h9⟩ := h
  exact ⟨h1, by omega, by omega, h6, by omega, h9⟩
theorem LksOk.fits {R : List Rch} {T : Nat → Nat → Int} {f : Int} {hours : Nat} {l : List Lk} (hT : CrsOk R T hours) (hf : 0 ≤ f ∧ f ≤ 100) (hn : hours ≤ 100) (hl : l.length ≤ 200) (h : ∀ x ∈ l, LkFit R T f hours x) : LksOk R l := by
  refine ⟨hl, fun x hx => (h x hx).ok hf hn, fun x hx y hy => ?_⟩
  obtain ⟨_, i, p, h2, h3, h4, h5, h6, h7, h8, h9⟩ := h x hx
  obtain ⟨_, j, q, k2, k3, k4, k5, k6, k7, k8, k9⟩ := h y hy
  have := hT.lip i j p q h2 k2 h3 k3
  rw [h4, h5, k4, k5, show f + (j : Int) - (f + i) = j - i by omega]
  simp only [Int.toNat_natCast]
  omega
end Go.Sas
namespace Go.Sas
end Go.Sas
