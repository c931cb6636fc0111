/-
Probe: how marks spread, and are mended; the runs of a road.
Probe: what marks cover hour by hour (the reference), and by spans (the program).
Probe: what is shut stays so, when nothing new is seen.
Conditions: none.
-/
import Derived.Test.YtpokfjhlilbpfaaDoorXEd
import Derived.Test.YtpokfjhlilbpfaaDoorPSd
import Derived.Test.YtpokfjhlilbpfaaDoorPOd
set_option linter.unusedVariables false
set_option linter.unusedSimpArgs false
namespace Go.Sas
theorem inL_iff {l : Sps} {p : Int} : inL l p = true ↔ ∃ s ∈ l, s.1 ≤ p ∧ p ≤ s.2 := by
  unfold inL; rw [List.any_eq_true]; simp
theorem inL_without {l : Sps} {f t p : Int} : inL (withoutS l f t) p = true ↔ inL l p = true ∧ ¬ (f ≤ p ∧ p ≤ t) := by
  rw [inL_iff, inL_iff]
  unfold withoutS
  constructor
  · rintro ⟨s, hs, h1, h2⟩
    obtain ⟨u, hu, hs⟩ := List.mem_flatMap.1 hs
    rcases List.mem_append.1 hs with hs | hs
    · split at hs
      · simp only [List.mem_singleton] at hs; subst hs; dsimp only at h1 h2
        exact ⟨⟨u, hu, by omega⟩, by omega⟩
      · cases hs
    · split at hs
      · simp only [List.mem_singleton] at hs; subst hs; dsimp only at h1 h2
        exact ⟨⟨u, hu, by omega⟩, by omega⟩
      · cases hs
  · rintro ⟨⟨u, hu, h1, h2⟩, h3⟩
    by_cases hp : p < f
    · exact ⟨(u.1, min u.2 (f - 1)), List.mem_flatMap.2 ⟨u, hu, List.mem_append_left _ (by rw [if_pos (by omega)]; simp)⟩, by dsimp only; omega, by dsimp only; omega⟩
    · exact ⟨(max u.1 (t + 1), u.2), List.mem_flatMap.2 ⟨u, hu, List.mem_append_right _ (by rw [if_pos (by omega)]; simp)⟩, by dsimp only; omega, by dsimp only; omega⟩
theorem inL_spread {l : Sps} {N b p : Int} (hp : 0 ≤ p ∧ p ≤ N - 1) : inL (spreadS N b l) p = true ↔ ∃ s ∈ l, s.1 - b ≤ p ∧ p ≤ s.2 + b := by
  rw [inL_iff]
  unfold spreadS
  constructor
  · rintro ⟨s, hs, h1, h2⟩
    obtain ⟨u, hu, rfl⟩ := List.mem_map.1 hs
    dsimp only at h1 h2
    exact ⟨u, hu, by omega, by omega⟩
  · rintro ⟨u, hu, h1, h2⟩
    exact ⟨_, List.mem_map.2 ⟨u, hu, rfl⟩, by dsimp only; omega, by dsimp only; omega⟩
theorem spread_more {l : Sps} {N b b' p : Int} (hp : 0 ≤ p ∧ p ≤ N - 1) (hb : b ≤ b') (h : inL (spreadS N b l) p = true) : inL (spreadS N b' l) p = true := by
  obtain ⟨s, hs, h1, h2⟩ := (inL_spread hp).1 h
  exact (inL_spread hp).2 ⟨s, hs, by omega, by omega⟩
/-- without a mend of the next hour nothing shrinks -/
theorem cov_more {m : List Mrk} {k : Nat} {h N p : Int} (hp : 0 ≤ p ∧ p ≤ N - 1) (hs : 0 ≤ (m.getD k mk0).s) (hno : ∀ x ∈ m, x.k = 4 → x.h ≠ h + 1) :
    (inL (covS m k h N).1 p = true → inL (covS m k (h + 1) N).1 p = true) ∧ (inL (covS m k h N).2 p = true → inL (covS m k (h + 1) N).2 p = true) := by
  have hm : mendS m k (h + 1) = mendS m k h := by
    unfold mendS
    congr 1
    unfold mendL
    congr 1
    apply List.filter_congr
    rintro ⟨x, i⟩ hx
    have hxm := List.fst_mem_of_mem_zipIdx hx
    unfold isMend
    dsimp only at hxm ⊢
    rw [decide_eq_decide]
    have := hno x hxm
    constructor
    · rintro ⟨h1, h2, h3⟩; exact ⟨h1, by have := this h1; omega, h3⟩
    · rintro ⟨h1, h2, h3⟩; exact ⟨h1, by omega, h3⟩
  unfold covS
  rw [hm]
  by_cases hq : (m.getD k mk0).k = 4 ∨ h < (m.getD k mk0).h
  · rw [if_pos hq]; exact ⟨fun hh => Bool.noConfusion hh, fun hh => Bool.noConfusion hh⟩
  · rw [if_neg hq, if_neg (by omega)]
    dsimp only
    refine ⟨fun h1 => spread_more hp ?_ h1, fun h1 => h1⟩
    exact Int.mul_le_mul_of_nonneg_right (by omega) hs
theorem putF_val {f : Nat → Int} {l : Sps} {v : Int} {p : Nat} : putF f l v p = if f p ≠ 1 ∧ inL l p = true then v else f p := rfl
theorem verdF_char {m : List Mrk} {h N : Int} {p : Nat} : ∀ {k : Nat}, (verdF m h N k p = 1 ∨ verdF m h N k p = 2 ∨ verdF m h N k p = 3) ∧ (verdF m h N k p = 1 ↔ ∃ j < k, inL (covS m j h N).2 p = true) ∧
    (verdF m h N k p = 2 ↔ ∀ j < k, inL (covS m j h N).1 p = false ∧ inL (covS m j h N).2 p = false)
  | 0 => by
    refine ⟨.inr (.inl rfl), ⟨fun h => ?_, fun ⟨j, hj, _⟩ => absurd hj (Nat.not_lt_zero _)⟩, ⟨fun _ j hj => absurd hj (Nat.not_lt_zero _), fun _ => rfl⟩⟩
    have : (2 : Int) = 1 := h
    omega
  | k + 1 => by
    obtain ⟨h1, h2, h3⟩ := verdF_char (m := m) (h := h) (N := N) (p := p) (k := k)
    have hv : verdF m h N (k + 1) p = putF (putF (verdF m h N k) (covS m k h N).1 3) (covS m k h N).2 1 p := rfl
    rw [hv, putF_val, putF_val]
    obtain ⟨a, ha⟩ : ∃ a, a = verdF m h N k p := ⟨_, rfl⟩
    obtain ⟨u, hu⟩ : ∃ u, u = inL (covS m k h N).1 p := ⟨_, rfl⟩
    obtain ⟨w, hw⟩ : ∃ w, w = inL (covS m k h N).2 p := ⟨_, rfl⟩
    rw [← ha] at h1 h2 h3
    rw [← ha, ← hu, ← hw]
    have e2 : (∃ j < k + 1, inL (covS m j h N).2 p = true) ↔ a = 1 ∨ w = true := by
      rw [h2]
      constructor
      · rintro ⟨j, hj, hj2⟩
        by_cases hjk : j = k
        · subst hjk; exact .inr (hw.trans hj2)
        · exact .inl ⟨j, by omega, hj2⟩
      · rintro (⟨j, hj, hj2⟩ | hq)
        · exact ⟨j, by omega, hj2⟩
        · exact ⟨k, by omega, hw.symm.trans hq⟩
    have e3 : (∀ j < k + 1, inL (covS m j h N).1 p = false ∧ inL (covS m j h N).2 p = false) ↔ a = 2 ∧ u = false ∧ w = false := by
      rw [h3]
      constructor
      · intro hq; exact ⟨fun j hj => hq j (by omega), hu.trans (hq k (by omega)).1, hw.trans (hq k (by omega)).2⟩
      · rintro ⟨q1, q2, q3⟩ j hj
        by_cases hjk : j = k
        · subst hjk; exact ⟨hu.symm.trans q2, hw.symm.trans q3⟩
        · exact q1 j (by omega)
    rw [e2, e3]
    clear e2 e3 h2 h3 hu hw ha hv
    rcases h1 with rfl | rfl | rfl <;> cases u <;> cases w <;> simp
theorem verd_next {m : List Mrk} {h N : Int} {p : Nat} (hp : (p : Int) ≤ N - 1) (hs : ∀ x ∈ m, 0 ≤ x.s) (hno : ∀ x ∈ m, x.k = 4 → x.h ≠ h + 1) :
    (verdS m h N p = 1 → verdS m (h + 1) N p = 1) ∧ (verdS m h N p = 3 → verdS m (h + 1) N p ≠ 2) := by
  unfold verdS
  obtain ⟨a1, a2, a3⟩ := verdF_char (m := m) (h := h) (N := N) (p := p) (k := m.length)
  obtain ⟨b1, b2, b3⟩ := verdF_char (m := m) (h := h + 1) (N := N) (p := p) (k := m.length)
  have hsk : ∀ k, k < m.length → 0 ≤ (m.getD k mk0).s := fun k hk => by
    rw [List.getD_eq_getElem?_getD, List.getElem?_eq_getElem hk]; exact hs _ (List.getElem_mem _)
  have hcm : ∀ k, k < m.length → _ := fun k hk => cov_more (m := m) (k := k) (h := h) (N := N) (p := p) ⟨by omega, hp⟩ (hsk k hk) hno
  constructor
  · intro h1
    obtain ⟨j, hj, hj2⟩ := a2.1 h1
    exact b2.2 ⟨j, hj, (hcm j hj).2 hj2⟩
  · intro h1 h2
    have h3 := b3.1 h2
    have h4 : verdF m h N m.length p = 2 := a3.2 fun j hj => by
      constructor
      · cases hq : inL (covS m j h N).1 p with
        | false => rfl
        | true => have := (hcm j hj).1 hq; rw [(h3 j hj).1] at this; cases this
      · cases hq : inL (covS m j h N).2 p with
        | false => rfl
        | true => have := (hcm j hj).2 hq; rw [(h3 j hj).2] at this; cases this
    omega
theorem verd_rng {m : List Mrk} {h N : Int} {p : Nat} : verdS m h N p = 1 ∨ verdS m h N p = 2 ∨ verdS m h N p = 3 := (verdF_char (m := m) (h := h) (N := N) (p := p) (k := m.length)).1
/-! The runs part the road -/
def nxtR (l : List (Nat × Nat × Int)) : Nat := match l.getLast? with
  | some x => x.2.1 + 1
  | none => 0
def ChainR (l : List (Nat × Nat × Int)) : Prop := ∀ (i : Nat) (x : Nat × Nat × Int), l[i]? = some x → x.1 = nxtR (l.take i) ∧ x.1 ≤ x.2.1 ∧ ∀ y, l[i - 1]? = some y → 0 < i → x.2.2 ≠ y.2.2
theorem ChainR.snoc {l : List (Nat × Nat × Int)} {x : Nat × Nat × Int} (h : ChainR l) (h1 : x.1 = nxtR l) (h2 : x.1 ≤ x.2.1) (h3 : ∀ y, l.getLast? = some y → x.2.2 ≠ y.2.2) : ChainR (l ++ [x]) := by
  intro i z hz
  by_cases hi : i < l.length
  · rw [List.getElem?_append_left hi] at hz
    obtain ⟨a1, a2, a3⟩ := h i z hz
    refine ⟨by rw [List.take_append_of_le_length (by omega)]; exact a1, a2, fun y hy h0 => ?_⟩
    rw [List.getElem?_append_left (by omega)] at hy
    exact a3 y hy h0
  · have hil : i = l.length := by
      have := (List.getElem?_eq_some_iff.1 hz).1
      simp at this; omega
    subst hil
    rw [List.getElem?_append_right (Nat.le_refl _)] at hz
    simp at hz; subst hz
    refine ⟨by rw [List.take_left]; exact h1, h2, fun y hy h0 => ?_⟩
    rw [List.getElem?_append_left (by omega)] at hy
    exact h3 y (by rw [List.getLast?_eq_getElem?]; exact hy)
theorem ChainR.last {l : List (Nat × Nat × Int)} {f t t' : Nat} {v : Int} (h : ChainR (l ++ [(f, t, v)])) (ht : t ≤ t') : ChainR (l ++ [(f, t', v)]) := by
  have hl : ChainR l := fun i x hx => by
    have hi := (List.getElem?_eq_some_iff.1 hx).1
    obtain ⟨a1, a2, a3⟩ := h i x (by rw [List.getElem?_append_left hi]; exact hx)
    refine ⟨by rw [List.take_append_of_le_length (by omega)] at a1; exact a1, a2, fun y hy h0 => a3 y (by rw [List.getElem?_append_left (by omega)]; exact hy) h0⟩
  obtain ⟨a1, a2, a3⟩ := h l.length (f, t, v) (by simp)
  rw [List.take_left] at a1
  refine hl.snoc a1 (by dsimp only at a2 ⊢; omega) fun y hy => ?_
  have hne : 0 < l.length := by
    cases l with
    | nil => simp at hy
    | cons _ _ => simp
  rw [List.getLast?_eq_getElem?] at hy
  exact a3 y (by rw [List.getElem?_append_left (by omega)]; exact hy) hne
end Go.Sas
namespace Go.Sas
def inM (p : Nat) (y : Mrk) : Bool := decide (y.f ≤ (p : Int) ∧ (p : Int) ≤ y.t)
def takesB (h : Int) (p : Nat) (y : Mrk) : Bool := decide (y.k = 4) && decide (y.h = h) && inM p y
/-- places up to so many beside one -/
def sprF (N : Nat) (s : Int) (f : Nat → Bool) (p : Nat) : Bool := (List.range N).any fun q => f q && decide ((p : Int) - s ≤ (q : Int) ∧ (q : Int) ≤ (p : Int) + s)
theorem sprF_congr {N : Nat} {s : Int} {f g : Nat → Bool} {p : Nat} (h : ∀ q < N, f q = g q) : sprF N s f p = sprF N s g p := by
  unfold sprF
  rw [Bool.eq_iff_iff, List.any_eq_true, List.any_eq_true]
  constructor
  · rintro ⟨q, hq, h1⟩; exact ⟨q, hq, by rw [← h q (List.mem_range.1 hq)]; exact h1⟩
  · rintro ⟨q, hq, h1⟩; exact ⟨q, hq, by rw [h q (List.mem_range.1 hq)]; exact h1⟩
def GdS (N : Int) (S : Sps) : Prop := ∀ s ∈ S, 0 ≤ s.1 ∧ s.1 ≤ s.2 ∧ s.2 ≤ N - 1
theorem GdS.without {N f t : Int} {S : Sps} (h : GdS N S) : GdS N (withoutS S f t) := by
  intro s hs
  obtain ⟨u, hu, hs⟩ := List.mem_flatMap.1 hs
  have := h u hu
  rcases List.mem_append.1 hs with hs | hs
  · split at hs
    · simp only [List.mem_singleton] at hs; subst hs; dsimp only; omega
    · cases hs
  · split at hs
    · simp only [List.mem_singleton] at hs; subst hs; dsimp only; omega
    · cases hs
theorem GdS.spread {N b : Int} {S : Sps} (hb : 0 ≤ b) (h : GdS N S) : GdS N (spreadS N b S) := by
  intro s hs
  obtain ⟨u, hu, rfl⟩ := List.mem_map.1 hs
  have := h u hu
  dsimp only; omega
theorem spread_zero' {l : Sps} {N p : Int} (hp : 0 ≤ p ∧ p ≤ N - 1) : inL (spreadS N 0 l) p = inL l p := by
  rw [Bool.eq_iff_iff, inL_spread hp, inL_iff]; simp
theorem spread_succ {S : Sps} {N : Nat} {e s : Int} {p : Nat} (hG : GdS N S) (he : 0 ≤ e) (hs : 0 ≤ s) (hp : p < N) :
    inL (spreadS N (e + s) S) p = sprF N s (fun q => inL (spreadS N e S) q) p := by
  unfold sprF
  rw [Bool.eq_iff_iff, inL_spread (by omega), List.any_eq_true]
  constructor
  · rintro ⟨u, hu, h1, h2⟩
    have hu2 := hG u hu
    obtain ⟨q, hq, hq1, hq2, hq3⟩ : ∃ q : Nat, q < N ∧ ((p : Int) - s ≤ q ∧ (q : Int) ≤ p + s) ∧ u.1 - e ≤ q ∧ (q : Int) ≤ u.2 + e := by
      by_cases c1 : (p : Int) < u.1 - e
      · exact ⟨(u.1 - e).toNat, by omega, by omega, by omega, by omega⟩
      · by_cases c2 : u.2 + e < p
        · exact ⟨(u.2 + e).toNat, by omega, by omega, by omega, by omega⟩
        · exact ⟨p, hp, by omega, by omega, by omega⟩
    refine ⟨q, List.mem_range.2 hq, ?_⟩
    rw [Bool.and_eq_true, decide_eq_true_eq]
    exact ⟨(inL_spread (by omega)).2 ⟨u, hu, hq2, hq3⟩, hq1⟩
  · rintro ⟨q, hq, h1⟩
    rw [Bool.and_eq_true, decide_eq_true_eq] at h1
    have hq := List.mem_range.1 hq
    obtain ⟨u, hu, h2, h3⟩ := (inL_spread (by omega)).1 h1.1
    exact ⟨u, hu, by omega, by omega⟩
/-- what a list of mends leaves, hour by hour -/
def setT (L : List Mrk) (x : Mrk) (N : Nat) : Nat → Nat → Bool
  | 0, p => inM p x && !(L.any (takesB x.h p))
  | j + 1, p => sprF N x.s (setT L x N j) p && !(L.any (takesB (x.h + iLen (j + 1)) p))
theorem takes_no {L : List Mrk} {h : Int} {p : Nat} (hL : ∀ y ∈ L, y.h ≠ h) : L.any (takesB h p) = false := by
  rw [List.any_eq_false]; intro y hy; unfold takesB; rw [decide_eq_false (hL y hy)]; simp
theorem grow_T {L S} {x : Mrk} {N a : Nat} (hs : 0 ≤ x.s) (hG : GdS N S) (hL : ∀ y ∈ L, y.h ≤ x.h + iLen a) (h0 : ∀ p < N, inL S p = setT L x N a p) :
    ∀ d p, p < N → inL (spreadS N (iLen d * x.s) S) p = setT L x N (a + d) p
  | 0, p, hp => by
    rw [show iLen 0 * x.s = 0 by unfold iLen; omega, spread_zero' (by omega)]; exact h0 p hp
  | d + 1, p, hp => by
    have hd : 0 ≤ iLen d * x.s := Int.mul_nonneg (by unfold iLen; omega) hs
    have e : iLen (d + 1) * x.s = iLen d * x.s + x.s := by unfold iLen; rw [Int.natCast_add, Int.add_mul]; simp
    rw [e, spread_succ hG hd hs hp]
    show _ = (sprF N x.s (setT L x N (a + d)) p && !(L.any (takesB (x.h + iLen (a + d + 1)) p)))
    rw [takes_no (fun y hy => by have := hL y hy; unfold iLen at *; omega), Bool.not_false, Bool.and_true]
    exact sprF_congr fun q hq => grow_T hs hG hL h0 d q hq
theorem setT_snoc {L : List Mrk} {y x : Mrk} {N b : Nat} (hy : y.h = x.h + iLen b) : ∀ {j p : Nat}, j < b → setT (L ++ [y]) x N j p = setT L x N j p
  | 0, p, hj => by
    have : (L ++ [y]).any (takesB x.h p) = L.any (takesB x.h p) := by
      rw [List.any_append, takes_no (L := [y]) (fun z hz => by simp at hz; subst hz; unfold iLen at hy; omega), Bool.or_false]
    show (inM p x && !((L ++ [y]).any _)) = (inM p x && !(L.any _)); rw [this]
  | j + 1, p, hj => by
    have : (L ++ [y]).any (takesB (x.h + iLen (j + 1)) p) = L.any (takesB (x.h + iLen (j + 1)) p) := by
      rw [List.any_append, takes_no (L := [y]) (fun z hz => by simp at hz; subst hz; unfold iLen at *; omega), Bool.or_false]
    show (sprF N x.s _ p && !((L ++ [y]).any _)) = (sprF N x.s _ p && !(L.any _))
    rw [this, sprF_congr fun q _ => setT_snoc (L := L) hy (j := j) (p := q) (by omega)]
theorem setT_at {L : List Mrk} {y x : Mrk} {N b : Nat} (hy : y.h = x.h + iLen b) (h4 : y.k = 4) : ∀ {p : Nat}, setT (L ++ [y]) x N b p = (setT L x N b p && !(inM p y)) := by
  intro p
  have e : ∀ h, y.h = h → (L ++ [y]).any (takesB h p) = (L.any (takesB h p) || inM p y) := fun h hh => by
    rw [List.any_append]; simp only [List.any_cons, List.any_nil, Bool.or_false]; congr 1
    unfold takesB; rw [decide_eq_true h4, decide_eq_true hh]; rfl
  cases b with
  | zero =>
    show (inM p x && !((L ++ [y]).any _)) = (inM p x && !(L.any _) && _)
    rw [e _ (by unfold iLen at hy; omega), Bool.not_or, Bool.and_assoc]
  | succ b =>
    show (sprF N x.s _ p && !((L ++ [y]).any _)) = (sprF N x.s _ p && !(L.any _) && _)
    rw [e _ hy, Bool.not_or, Bool.and_assoc, sprF_congr fun q _ => setT_snoc (L := L) hy (j := b) (p := q) (by omega)]
def CovT (x : Mrk) (N : Nat) (P : List Mrk) (s : Sps × Sps × Int) : Prop :=
  ∃ a : Nat, s.2.2 = x.h + iLen a ∧ GdS N s.1 ∧ (∀ y ∈ P, y.h ≤ x.h + iLen a) ∧ (∀ d p, p < N → inL (spreadS N (iLen d * x.s) s.1) p = setT P x N (a + d) p) ∧ ∀ p : Nat, inL s.2.1 p = (inM p x && !(P.any (inM p)))
theorem CovT.step {x y : Mrk} {N : Nat} {P : List Mrk} {s : Sps × Sps × Int} (hs : 0 ≤ x.s) (h : CovT x N P s) (h4 : y.k = 4) (hy : s.2.2 ≤ y.h) : CovT x N (P ++ [y]) (covStep N x.s s y) := by
  obtain ⟨a, ha, hG, hP, hd, hsu⟩ := h
  obtain ⟨e, he⟩ : ∃ e : Nat, y.h = x.h + iLen (a + e) := ⟨(y.h - s.2.2).toNat, by unfold iLen at *; omega⟩
  have hby : y.h - s.2.2 = iLen e := by unfold iLen at *; omega
  have hG2 : GdS N (withoutS (spreadS N (iLen e * x.s) s.1) y.f y.t) := (hG.spread (Int.mul_nonneg (by unfold iLen; omega) hs)).without
  have hc : covStep N x.s s y = (withoutS (spreadS N (iLen e * x.s) s.1) y.f y.t, withoutS s.2.1 y.f y.t, y.h) := by unfold covStep; rw [hby]
  rw [hc]
  have hwo : ∀ (S : Sps) (p : Nat), inL (withoutS S y.f y.t) p = (inL S p && !(inM p y)) := fun S p => by
    rw [Bool.eq_iff_iff, inL_without, Bool.and_eq_true, Bool.not_eq_true', ← Bool.not_eq_true]; unfold inM; rw [decide_eq_true_eq]
  have hP2 : ∀ z ∈ P ++ [y], z.h ≤ x.h + iLen (a + e) := fun z hz => by
    rcases List.mem_append.1 hz with hz | hz
    · have := hP z hz; unfold iLen at *; omega
    · simp at hz; subst hz; omega
  refine ⟨a + e, he, hG2, hP2, grow_T hs hG2 hP2 fun p hp => ?_, fun p => ?_⟩
  · rw [hwo, setT_at he h4, hd e p hp]
  · show inL (withoutS s.2.1 y.f y.t) p = _
    rw [hwo, hsu, List.any_append]; simp only [List.any_cons, List.any_nil, Bool.or_false]; rw [Bool.not_or, Bool.and_assoc]
end Go.Sas
namespace Go.Sas
theorem chg_back {r : Rch} {t : Int} (ht : t ≤ 0) (h0 : 0 ≤ r.th) : chg r t ≤ chg r (t - 1) := by
  unfold chg
  rw [if_pos (show t - 1 < 0 by omega)]
  by_cases h : t < 0
  · rw [if_pos h]
    exact Int.mul_le_mul_of_nonneg_right (by omega) h0
  · rw [if_neg h, show t = 0 by omega]
    have : (0 : Int) ≤ -(0 - 1) * r.th := Int.mul_nonneg (by decide) h0
    omega
theorem rise_back {R : List Rch} (hR : PlcOk R) {a b : Nat} {t : Int} (ht : t ≤ 0) : riseS R a t b ≤ riseS R a (t - 1) b := by
  obtain ⟨p, hp, he⟩ := riseS_ex hR a b (t - 1)
  rw [he]
  refine Int.le_trans (riseS_le hp) ?_
  unfold wayS
  have := chg_back (r := R.getD p rc0) ht (hR.at_ hp).2.2.1.1
  omega
theorem know_back {R : List Rch} (hR : PlcOk R) {l : List Lk} {p : Nat} {h : Int} (hl : ∀ x ∈ l, x.h ≤ h) : (knowS R l p (h + 1)).1 ≤ (knowS R l p h).1 := by
  obtain ⟨a1, _, a3, _, _⟩ := knowG_fold (R := R) (p := p) (h := h) (l := l) (s := (0, 3000)) rfl
  obtain ⟨_, _, _, b4, _⟩ := knowG_fold (R := R) (p := p) (h := h + 1) (l := l) (s := (0, 3000)) rfl
  rcases b4 with b4 | ⟨x, hx, b4⟩
  · show (l.foldl (knowG R p (h + 1)) (0, 3000)).1 ≤ (l.foldl (knowG R p h) (0, 3000)).1
    rw [b4]; exact a1
  · show (l.foldl (knowG R p (h + 1)) (0, 3000)).1 ≤ (l.foldl (knowG R p h) (0, 3000)).1
    rw [b4]
    have h1 := (a3 x hx).1
    have h2 := rise_back (a := x.p.toNat) (b := p) hR (show x.h - h ≤ 0 by have := hl x hx; omega)
    rw [show x.h - (h + 1) = x.h - h - 1 by omega]
    omega
theorem stale_back {R : List Rch} {a b c : Int} {l : List Lk} {h : Int} {p : Nat} (hl : ∀ x ∈ l, x.h ≤ h) (hs : staleS R a b c l h p = true) : staleS R a b c l (h + 1) p = true := by
  unfold staleS at hs ⊢
  rw [Bool.not_eq_true', List.any_eq_false] at hs ⊢
  intro x hx
  have h1 := hs x hx
  unfold seenS at h1 ⊢
  rw [Bool.and_eq_true, decide_eq_true_eq, decide_eq_true_eq] at h1 ⊢
  have := hl x hx
  omega
/-- what is shut stays so -/
theorem why_back {R : List Rch} (hR : PlcOk R) {a b c : Int} {l : List Lk} {m : List Mrk} {need h : Int} {p : Nat} (hp : p < R.length) (hl : ∀ x ∈ l, x.h ≤ h) (hm : ∀ x ∈ m, x.h ≤ h) (hs : ∀ x ∈ m, 0 ≤ x.s) (hw : whyS R a b c l m need h p ≠ 0) : whyS R a b c l m need (h + 1) p ≠ 0 := by
  intro h0
  obtain ⟨e1, e2, e3⟩ := why_zero h0
  refine hw ?_
  have k1 := know_back hR (p := p) hl
  have hv := verd_next (m := m) (h := h) (N := iLen R.length) (p := p) (by unfold iLen; omega) hs (fun x hx _ => by have := hm x hx; omega)
  have hr := verd_rng (m := m) (h := h) (N := iLen R.length) (p := p)
  have k2 : verdS m h (iLen R.length) p = 2 := by
    rcases hr with hr | hr | hr
    · have := hv.1 hr; rw [e2] at this; exact absurd this (by decide)
    · exact hr
    · exact absurd e2 (hv.2 hr)
  have k3 : staleS R a b c l h p = false := by
    cases hq : staleS R a b c l h p with
    | false => rfl
    | true => have := stale_back hl hq; rw [e3] at this; cases this
  unfold whyS
  rw [if_neg (by omega), if_neg (by rw [k2]; simp), if_neg (by rw [k3]; simp)]
/-- the first of so many numbers of which something holds -/
def FstR (q : Nat → Bool) (N r : Nat) : Prop := r ≤ N ∧ (∀ i < r, q i = false) ∧ (r < N → q r = true)
theorem FstR.uniq {q : Nat → Bool} {N r r' : Nat} (h : FstR q N r) (h' : FstR q N r') : r = r' := by
  obtain ⟨a1, a2, a3⟩ := h
  obtain ⟨b1, b2, b3⟩ := h'
  by_cases c1 : r < r'
  · have := b2 r c1; rw [a3 (by omega)] at this; cases this
  · by_cases c2 : r' < r
    · have := a2 r' c2; rw [b3 (by omega)] at this; cases this
    · omega
theorem FstR.of_mono {q : Nat → Bool} {N r : Nat} (hq : ∀ i, q i = true → q (i + 1) = true) (h1 : r ≤ N) (h2 : ∀ i, r = i + 1 → q i = false) (h3 : r < N → q r = true) : FstR q N r := by
  refine ⟨h1, fun i hi => ?_, h3⟩
  cases hqi : q i with
  | false => rfl
  | true =>
    have : ∀ d, q (i + d) = true := by
      intro d
      induction d with
      | zero => exact hqi
      | succ d ih => exact hq _ ih
    have h4 := h2 (r - 1) (by omega)
    have h5 := this (r - 1 - i)
    rw [show i + (r - 1 - i) = r - 1 by omega, h4] at h5; cases h5
/-- whether a place is shut so many hours later, when nothing new is seen -/
def shutQ (R : List Rch) (a b c : Int) (l : List Lk) (m : List Mrk) (need h : Int) (p n : Nat) : Bool := decide (whyS R a b c (pastL l h) (pastM m h) need (h + iLen n) p ≠ 0)
theorem pastL_h {l : List Lk} {h : Int} : ∀ x ∈ pastL l h, x.h ≤ h := fun x hx => by
  have := (List.mem_filter.1 hx).2; exact of_decide_eq_true this
theorem pastM_h {m : List Mrk} {h : Int} : ∀ x ∈ pastM m h, x.h ≤ h := fun x hx => by
  have := (List.mem_filter.1 hx).2; exact of_decide_eq_true this
theorem shutQ_mono {R : List Rch} (hR : PlcOk R) {a b c : Int} {l : List Lk} {m : List Mrk} {need h : Int} {p : Nat} (hp : p < R.length) (hs : ∀ x ∈ m, 0 ≤ x.s) (n : Nat) (hq : shutQ R a b c l m need h p n = true) : shutQ R a b c l m need h p (n + 1) = true := by
  unfold shutQ at hq ⊢
  rw [decide_eq_true_eq] at hq ⊢
  rw [show h + iLen (n + 1) = h + iLen n + 1 by unfold iLen; omega]
  exact why_back hR hp (fun x hx => by have := pastL_h x hx; unfold iLen; omega) (fun x hx => by have := pastM_h x hx; unfold iLen; omega) (fun x hx => hs x (List.mem_filter.1 hx).1) hq
/-- how long a place stays open, with the error -/
def LastQ (rs : List Rch) (a b c : Int) (l : List Lk) (m : List Mrk) (need h p v e : Int) : Prop :=
  (askE rs a b c l m need h ≠ 0 → v = 0 ∧ e = askE rs a b c l m need h) ∧
  (askE rs a b c l m need h = 0 → ¬ (0 ≤ p ∧ p ≤ iLen (plc rs).length - 1) → v = 0 ∧ e = 7) ∧
  (askE rs a b c l m need h = 0 → 0 ≤ p ∧ p ≤ iLen (plc rs).length - 1 → e = 0 ∧ ∃ r, FstR (shutQ (plc rs) a b c l m need h p.toNat) (10001 - h).toNat r ∧ v = if r = 0 then -1 else h + iLen r - 1)
theorem LastQ.uniq {rs : List Rch} {a b c : Int} {l : List Lk} {m : List Mrk} {need h p v e v' e' : Int} (h1 : LastQ rs a b c l m need h p v e) (h2 : LastQ rs a b c l m need h p v' e') : v = v' ∧ e = e' := by
  obtain ⟨a1, a2, a3⟩ := h1
  obtain ⟨b1, b2, b3⟩ := h2
  by_cases hE : askE rs a b c l m need h = 0
  · by_cases hp : 0 ≤ p ∧ p ≤ iLen (plc rs).length - 1
    · obtain ⟨rfl, r, hr, rfl⟩ := a3 hE hp
      obtain ⟨rfl, r', hr', rfl⟩ := b3 hE hp
      rw [hr.uniq hr']; exact ⟨rfl, rfl⟩
    · obtain ⟨rfl, rfl⟩ := a2 hE hp
      obtain ⟨rfl, rfl⟩ := b2 hE hp
      exact ⟨rfl, rfl⟩
  · obtain ⟨rfl, rfl⟩ := a1 hE
    obtain ⟨rfl, rfl⟩ := b1 hE
    exact ⟨rfl, rfl⟩
end Go.Sas
