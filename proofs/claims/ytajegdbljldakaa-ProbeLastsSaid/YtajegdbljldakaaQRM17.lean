/-
Probe: what marks cover hour by hour (the reference), and by spans (the program).
Conditions: none.
-/
import Derived.Test.YtajegdbljldakaaQRM16
set_option linter.unusedVariables false
set_option linter.unusedSimpArgs false
namespace Go.Sas
def inM (p : Nat) (y : Mrk) : Bool := decide (y.f ≤ (p : Int) ∧ (p : Int) ≤ y.t)
def takesB (h : Int) (p : Nat) (y : Mrk) : Bool := decide (y.k = 4) && decide (y.h = h) && inM p y
/-- places taken out by the mends of an hour, from a number on -/
def takF (m : List Mrk) (i : Nat) (h : Int) (f : Nat → Bool) (p : Nat) : Bool := f p && !((m.drop i).any (takesB h p))
/-- places up to so many beside one -/
def sprF (N : Nat) (s : Int) (f : Nat → Bool) (p : Nat) : Bool := (List.range N).any fun q => f q && decide ((p : Int) - s ≤ (q : Int) ∧ (q : Int) ≤ (p : Int) + s)
def hrsF (m : List Mrk) (k N : Nat) (x : Mrk) : Nat → (Nat → Bool) × (Nat → Bool)
  | 0 => (takF m (k + 1) x.h (fun p => inM p x), takF m (k + 1) x.h (fun p => inM p x))
  | j + 1 => (takF m 0 (x.h + iLen (j + 1)) (sprF N x.s (hrsF m k N x j).1), takF m 0 (x.h + iLen (j + 1)) (hrsF m k N x j).2)
def covB (m : List Mrk) (k : Nat) (h : Int) (N : Nat) : (Nat → Bool) × (Nat → Bool) :=
  if (m.getD k mk0).k = 4 ∨ h < (m.getD k mk0).h then (fun _ => false, fun _ => false) else hrsF m k N (m.getD k mk0) (h - (m.getD k mk0).h).toNat
theorem sprF_congr {N : Nat} {s : Int} {f g : Nat → Bool} {p : Nat} (h : ∀ q < N, f q = g q) : sprF N s f p = sprF N s g p := by
  unfold sprF
  rw [Bool.eq_iff_iff, List.any_eq_true, List.any_eq_true]
  constructor
  · rintro ⟨q, hq, h1⟩; exact ⟨q, hq, by rw [← h q (List.mem_range.1 hq)]; exact h1⟩
  · rintro ⟨q, hq, h1⟩; exact ⟨q, hq, by rw [h q (List.mem_range.1 hq)]; exact h1⟩
def GdS (N : Int) (S : Sps) : Prop := ∀ s ∈ S, 0 ≤ s.1 ∧ s.1 ≤ s.2 ∧ s.2 ≤ N - 1
theorem GdS.without {N f t : Int} {S : Sps} (h : GdS N S) : GdS N (withoutS S f t) := by
  intro s hs
  obtain ⟨u, hu, hs⟩ := List.mem_flatMap.1 hs
  have := h u hu
  rcases List.mem_append.1 hs with hs | hs
  · split at hs
    · simp only [List.mem_singleton] at hs; subst hs; dsimp only; omega
    · cases hs
  · split at hs
    · simp only [List.mem_singleton] at hs; subst hs; dsimp only; omega
    · cases hs
theorem GdS.spread {N b : Int} {S : Sps} (hb : 0 ≤ b) (h : GdS N S) : GdS N (spreadS N b S) := by
  intro s hs
  obtain ⟨u, hu, rfl⟩ := List.mem_map.1 hs
  have := h u hu
  dsimp only; omega
theorem spread_zero' {l : Sps} {N p : Int} (hp : 0 ≤ p ∧ p ≤ N - 1) : inL (spreadS N 0 l) p = inL l p := by
  rw [Bool.eq_iff_iff, inL_spread hp, inL_iff]; simp
theorem spread_succ {S : Sps} {N : Nat} {e s : Int} {p : Nat} (hG : GdS N S) (he : 0 ≤ e) (hs : 0 ≤ s) (hp : p < N) :
    inL (spreadS N (e + s) S) p = sprF N s (fun q => inL (spreadS N e S) q) p := by
  unfold sprF
  rw [Bool.eq_iff_iff, inL_spread (by omega), List.any_eq_true]
  constructor
  · rintro ⟨u, hu, h1, h2⟩
    have hu2 := hG u hu
    obtain ⟨q, hq, hq1, hq2, hq3⟩ : ∃ q : Nat, q < N ∧ ((p : Int) - s ≤ q ∧ (q : Int) ≤ p + s) ∧ u.1 - e ≤ q ∧ (q : Int) ≤ u.2 + e := by
      by_cases c1 : (p : Int) < u.1 - e
      · exact ⟨(u.1 - e).toNat, by omega, by omega, by omega, by omega⟩
      · by_cases c2 : u.2 + e < p
        · exact ⟨(u.2 + e).toNat, by omega, by omega, by omega, by omega⟩
        · exact ⟨p, hp, by omega, by omega, by omega⟩
    refine ⟨q, List.mem_range.2 hq, ?_⟩
    rw [Bool.and_eq_true, decide_eq_true_eq]
    exact ⟨(inL_spread (by omega)).2 ⟨u, hu, hq2, hq3⟩, hq1⟩
  · rintro ⟨q, hq, h1⟩
    rw [Bool.and_eq_true, decide_eq_true_eq] at h1
    have hq := List.mem_range.1 hq
    obtain ⟨u, hu, h2, h3⟩ := (inL_spread (by omega)).1 h1.1
    exact ⟨u, hu, by omega, by omega⟩
/-- what a list of mends leaves, hour by hour -/
def setT (L : List Mrk) (x : Mrk) (N : Nat) : Nat → Nat → Bool
  | 0, p => inM p x && !(L.any (takesB x.h p))
  | j + 1, p => sprF N x.s (setT L x N j) p && !(L.any (takesB (x.h + iLen (j + 1)) p))
theorem takes_no {L : List Mrk} {h : Int} {p : Nat} (hL : ∀ y ∈ L, y.h ≠ h) : L.any (takesB h p) = false := by
  rw [List.any_eq_false]; intro y hy; unfold takesB; rw [decide_eq_false (hL y hy)]; simp
theorem grow_T {L S} {x : Mrk} {N a : Nat} (hs : 0 ≤ x.s) (hG : GdS N S) (hL : ∀ y ∈ L, y.h ≤ x.h + iLen a) (h0 : ∀ p < N, inL S p = setT L x N a p) :
    ∀ d p, p < N → inL (spreadS N (iLen d * x.s) S) p = setT L x N (a + d) p
  | 0, p, hp => by
    rw [show iLen 0 * x.s = 0 by unfold iLen; omega, spread_zero' (by omega)]; exact h0 p hp
  | d + 1, p, hp => by
    have hd : 0 ≤ iLen d * x.s := Int.mul_nonneg (by unfold iLen; omega) hs
    have e : iLen (d + 1) * x.s = iLen d * x.s + x.s := by unfold iLen; rw [Int.natCast_add, Int.add_mul]; simp
    rw [e, spread_succ hG hd hs hp]
    show _ = (sprF N x.s (setT L x N (a + d)) p && !(L.any (takesB (x.h + iLen (a + d + 1)) p)))
    rw [takes_no (fun y hy => by have := hL y hy; unfold iLen at *; omega), Bool.not_false, Bool.and_true]
    exact sprF_congr fun q hq => grow_T hs hG hL h0 d q hq
theorem setT_snoc {L : List Mrk} {y x : Mrk} {N b : Nat} (hy : y.h = x.h + iLen b) : ∀ {j p : Nat}, j < b → setT (L ++ [y]) x N j p = setT L x N j p
  | 0, p, hj => by
    have : (L ++ [y]).any (takesB x.h p) = L.any (takesB x.h p) := by
      rw [List.any_append, takes_no (L := [y]) (fun z hz => by simp at hz; subst hz; unfold iLen at hy; omega), Bool.or_false]
    show (inM p x && !((L ++ [y]).any _)) = (inM p x && !(L.any _)); rw [this]
  | j + 1, p, hj => by
    have : (L ++ [y]).any (takesB (x.h + iLen (j + 1)) p) = L.any (takesB (x.h + iLen (j + 1)) p) := by
      rw [List.any_append, takes_no (L := [y]) (fun z hz => by simp at hz; subst hz; unfold iLen at *; omega), Bool.or_false]
    show (sprF N x.s _ p && !((L ++ [y]).any _)) = (sprF N x.s _ p && !(L.any _))
    rw [this, sprF_congr fun q _ => setT_snoc (L := L) hy (j := j) (p := q) (by omega)]
theorem setT_at {L : List Mrk} {y x : Mrk} {N b : Nat} (hy : y.h = x.h + iLen b) (h4 : y.k = 4) : ∀ {p : Nat}, setT (L ++ [y]) x N b p = (setT L x N b p && !(inM p y)) := by
  intro p
  have e : ∀ h, y.h = h → (L ++ [y]).any (takesB h p) = (L.any (takesB h p) || inM p y) := fun h hh => by
    rw [List.any_append]; simp only [List.any_cons, List.any_nil, Bool.or_false]; congr 1
    unfold takesB; rw [decide_eq_true h4, decide_eq_true hh]; rfl
  cases b with
  | zero =>
    show (inM p x && !((L ++ [y]).any _)) = (inM p x && !(L.any _) && _)
    rw [e _ (by unfold iLen at hy; omega), Bool.not_or, Bool.and_assoc]
  | succ b =>
    show (sprF N x.s _ p && !((L ++ [y]).any _)) = (sprF N x.s _ p && !(L.any _) && _)
    rw [e _ hy, Bool.not_or, Bool.and_assoc, sprF_congr fun q _ => setT_snoc (L := L) hy (j := b) (p := q) (by omega)]
def CovT (x : Mrk) (N : Nat) (P : List Mrk) (s : Sps × Sps × Int) : Prop :=
  ∃ a : Nat, s.2.2 = x.h + iLen a ∧ GdS N s.1 ∧ (∀ y ∈ P, y.h ≤ x.h + iLen a) ∧ (∀ d p, p < N → inL (spreadS N (iLen d * x.s) s.1) p = setT P x N (a + d) p) ∧ ∀ p : Nat, inL s.2.1 p = (inM p x && !(P.any (inM p)))
theorem CovT.step {x y : Mrk} {N : Nat} {P : List Mrk} {s : Sps × Sps × Int} (hs : 0 ≤ x.s) (h : CovT x N P s) (h4 : y.k = 4) (hy : s.2.2 ≤ y.h) : CovT x N (P ++ [y]) (covStep N x.s s y) := by
  obtain ⟨a, ha, hG, hP, hd, hsu⟩ := h
  obtain ⟨e, he⟩ : ∃ e : Nat, y.h = x.h + iLen (a + e) := ⟨(y.h - s.2.2).toNat, by unfold iLen at *; omega⟩
  have hby : y.h - s.2.2 = iLen e := by unfold iLen at *; omega
  have hG2 : GdS N (withoutS (spreadS N (iLen e * x.s) s.1) y.f y.t) := (hG.spread (Int.mul_nonneg (by unfold iLen; omega) hs)).without
  have hc : covStep N x.s s y = (withoutS (spreadS N (iLen e * x.s) s.1) y.f y.t, withoutS s.2.1 y.f y.t, y.h) := by unfold covStep; rw [hby]
  rw [hc]
  have hwo : ∀ (S : Sps) (p : Nat), inL (withoutS S y.f y.t) p = (inL S p && !(inM p y)) := fun S p => by
    rw [Bool.eq_iff_iff, inL_without, Bool.and_eq_true, Bool.not_eq_true', ← Bool.not_eq_true]; unfold inM; rw [decide_eq_true_eq]
  have hP2 : ∀ z ∈ P ++ [y], z.h ≤ x.h + iLen (a + e) := fun z hz => by
    rcases List.mem_append.1 hz with hz | hz
    · have := hP z hz; unfold iLen at *; omega
    · simp at hz; subst hz; omega
  refine ⟨a + e, he, hG2, hP2, grow_T hs hG2 hP2 fun p hp => ?_, fun p => ?_⟩
  · rw [hwo, setT_at he h4, hd e p hp]
  · show inL (withoutS s.2.1 y.f y.t) p = _
    rw [hwo, hsu, List.any_append]; simp only [List.any_cons, List.any_nil, Bool.or_false]; rw [Bool.not_or, Bool.and_assoc]
theorem CovT.fold {x : Mrk} {N : Nat} (hs : 0 ≤ x.s) : ∀ {L P : List Mrk} {s : Sps × Sps × Int}, CovT x N P s → (∀ y ∈ L, y.k = 4) → (∀ y ∈ L, s.2.2 ≤ y.h) → L.Pairwise (fun a b => a.h ≤ b.h) → CovT x N (P ++ L) (L.foldl (covStep N x.s) s)
  | [], P, s, h, _, _, _ => by rw [List.append_nil]; exact h
  | y :: L, P, s, h, h4, hh, hw => by
    rw [List.pairwise_cons] at hw
    have := CovT.fold hs (L := L) (h.step hs (h4 y (by simp)) (hh y (by simp))) (fun z hz => h4 z (by simp [hz])) (fun z hz => hw.1 z hz) hw.2
    rw [List.append_assoc] at this; exact this
theorem hrs_T {m L : List Mrk} {k N : Nat} {x : Mrk} {J : Nat} (h0 : ∀ p, L.any (takesB x.h p) = (m.drop (k + 1)).any (takesB x.h p)) (h : ∀ j < J, ∀ p, L.any (takesB (x.h + iLen (j + 1)) p) = m.any (takesB (x.h + iLen (j + 1)) p)) :
    ∀ j ≤ J, ∀ p, (hrsF m k N x j).1 p = setT L x N j p
  | 0, _, p => by
    show (inM p x && !(_)) = (inM p x && !(_)); rw [h0]
  | j + 1, hj, p => by
    show (sprF N x.s (hrsF m k N x j).1 p && !((m.drop 0).any _)) = (sprF N x.s (setT L x N j) p && !(L.any _))
    rw [List.drop_zero, h j (by omega), sprF_congr fun q _ => hrs_T h0 h j (by omega) q]
theorem hrs_S {m L : List Mrk} {k N : Nat} {x : Mrk} (h0 : ∀ p, L.any (takesB x.h p) = (m.drop (k + 1)).any (takesB x.h p)) :
    ∀ J, (∀ j < J, ∀ p, L.any (takesB (x.h + iLen (j + 1)) p) = m.any (takesB (x.h + iLen (j + 1)) p)) → ∀ p, (hrsF m k N x J).2 p = (inM p x && !(L.any fun y => decide (y.h ≤ x.h + iLen J ∧ x.h ≤ y.h) && decide (y.k = 4) && inM p y))
  | 0, _, p => by
    show (inM p x && !(_)) = _
    rw [← h0]; congr 2; congr 1; funext y; unfold takesB iLen
    rw [Bool.eq_iff_iff]; simp only [Bool.and_eq_true, decide_eq_true_eq]
    constructor
    · rintro ⟨⟨a, b⟩, c⟩; exact ⟨⟨by omega, a⟩, c⟩
    · rintro ⟨⟨a, b⟩, c⟩; exact ⟨⟨b, by omega⟩, c⟩
  | J + 1, h, p => by
    show ((hrsF m k N x J).2 p && !((m.drop 0).any _)) = _
    rw [List.drop_zero, ← h J (by omega), hrs_S h0 J (fun j hj => h j (by omega)), Bool.and_assoc, ← Bool.not_or]
    congr 2
    rw [Bool.eq_iff_iff]
    simp only [Bool.or_eq_true, List.any_eq_true, takesB, Bool.and_eq_true, decide_eq_true_eq]
    constructor
    · rintro (⟨y, hy, ⟨⟨a, b⟩, c⟩⟩ | ⟨y, hy, ⟨⟨a, b⟩, c⟩⟩)
      · exact ⟨y, hy, ⟨⟨by unfold iLen at *; omega, b⟩, c⟩⟩
      · exact ⟨y, hy, ⟨⟨by unfold iLen at *; omega, a⟩, c⟩⟩
    · rintro ⟨y, hy, ⟨⟨a, b⟩, c⟩⟩
      by_cases hq : y.h = x.h + iLen (J + 1)
      · exact .inr ⟨y, hy, ⟨⟨b, hq⟩, c⟩⟩
      · exact .inl ⟨y, hy, ⟨⟨by unfold iLen at *; omega, b⟩, c⟩⟩
theorem cov_eq {m : List Mrk} {k N : Nat} {h : Int} (hk : k < m.length) (hm : ∀ x ∈ m, MkOk N x) : ∀ p < N, inL (covS m k h N).1 p = (covB m k h N).1 p ∧ inL (covS m k h N).2 p = (covB m k h N).2 p := by
  intro p hp
  obtain ⟨x, hx⟩ : ∃ x, m[k]? = some x := ⟨_, List.getElem?_eq_getElem hk⟩
  have d1 : m.getD k mk0 = x := by rw [List.getD_eq_getElem?_getD, hx]; rfl
  have hxo : MkOk N x := hm x (List.mem_of_getElem? hx)
  unfold covS covB
  rw [d1]
  by_cases hc : x.k = 4 ∨ h < x.h
  · rw [if_pos hc, if_pos hc]; exact ⟨rfl, rfl⟩
  rw [if_neg hc, if_neg hc]
  dsimp only
  obtain ⟨L, hL⟩ : ∃ L, L = mendS m k h := ⟨_, rfl⟩
  rw [← hL]
  have hmem : ∀ y, y ∈ L ↔ ∃ i, m[i]? = some y ∧ y.k = 4 ∧ y.h ≤ h ∧ (x.h < y.h ∨ y.h = x.h ∧ k < i) := fun y => by
    rw [hL]; unfold mendS sortM; rw [sortV_mem]; unfold mendL
    rw [List.mem_map]
    constructor
    · rintro ⟨⟨z, i⟩, hz, rfl⟩
      obtain ⟨h1, h2⟩ := List.mem_filter.1 hz
      rw [List.mem_zipIdx_iff_getElem?] at h1
      unfold isMend at h2; rw [decide_eq_true_eq, d1] at h2
      exact ⟨i, h1, h2⟩
    · rintro ⟨i, h1, h2⟩
      refine ⟨(y, i), List.mem_filter.2 ⟨by rw [List.mem_zipIdx_iff_getElem?]; exact h1, ?_⟩, rfl⟩
      unfold isMend; rw [decide_eq_true_eq, d1]; exact h2
  have hsrt : L.Pairwise (fun a b => a.h ≤ b.h) := by rw [hL]; exact sortM_sorted
  have h0 : ∀ p, L.any (takesB x.h p) = (m.drop (k + 1)).any (takesB x.h p) := fun p => by
    rw [Bool.eq_iff_iff, List.any_eq_true, List.any_eq_true]
    constructor
    · rintro ⟨y, hy, h2⟩
      obtain ⟨i, e1, e2, e3, e4⟩ := (hmem y).1 hy
      refine ⟨y, ?_, h2⟩
      have hyh : y.h = x.h := by unfold takesB at h2; simp only [Bool.and_eq_true, decide_eq_true_eq] at h2; exact h2.1.2
      exact List.mem_of_getElem? (i := i - (k + 1)) (by rw [List.getElem?_drop, show k + 1 + (i - (k + 1)) = i by omega]; exact e1)
    · rintro ⟨y, hy, h2⟩
      obtain ⟨i, hi⟩ := List.getElem?_of_mem hy
      rw [List.getElem?_drop] at hi
      refine ⟨y, (hmem y).2 ⟨k + 1 + i, hi, ?_⟩, h2⟩
      unfold takesB at h2; simp only [Bool.and_eq_true, decide_eq_true_eq] at h2
      exact ⟨h2.1.1, by omega, by omega⟩
  have h1 : ∀ j < (h - x.h).toNat, ∀ p, L.any (takesB (x.h + iLen (j + 1)) p) = m.any (takesB (x.h + iLen (j + 1)) p) := fun j hj p => by
    rw [Bool.eq_iff_iff, List.any_eq_true, List.any_eq_true]
    constructor
    · rintro ⟨y, hy, h2⟩
      obtain ⟨i, e1, e2⟩ := (hmem y).1 hy
      exact ⟨y, List.mem_of_getElem? e1, h2⟩
    · rintro ⟨y, hy, h2⟩
      obtain ⟨i, hi⟩ := List.getElem?_of_mem hy
      refine ⟨y, (hmem y).2 ⟨i, hi, ?_⟩, h2⟩
      unfold takesB iLen at h2; simp only [Bool.and_eq_true, decide_eq_true_eq] at h2
      exact ⟨h2.1.1, by omega, by omega⟩
  have hini : CovT x N [] ([(x.f, x.t)], [(x.f, x.t)], x.h) := by
    have hin : ∀ p : Nat, inL [(x.f, x.t)] p = inM p x := fun p => by simp [inL, inM]
    have hG : GdS N [(x.f, x.t)] := fun s hs => by simp at hs; subst hs; exact ⟨hxo.2.1, hxo.2.2.1, hxo.2.2.2.1⟩
    refine ⟨0, by unfold iLen; simp, hG, by simp, grow_T hxo.2.2.2.2.2.1 hG (by simp) fun q hq => ?_, fun q => ?_⟩
    · rw [hin]; show _ = (inM q x && !(List.any [] _)); simp
    · show inL [(x.f, x.t)] q = _; rw [hin]; simp
  have hfold := CovT.fold hxo.2.2.2.2.2.1 hini (L := L) (fun y hy => by obtain ⟨i, _, e, _⟩ := (hmem y).1 hy; exact e) (fun y hy => by obtain ⟨i, _, _, _, e⟩ := (hmem y).1 hy; dsimp only; omega) hsrt
  rw [List.nil_append] at hfold
  obtain ⟨s, hsd⟩ : ∃ s, s = L.foldl (covStep N x.s) ([(x.f, x.t)], [(x.f, x.t)], x.h) := ⟨_, rfl⟩
  rw [← hsd] at hfold ⊢
  obtain ⟨a, ha, _, hPa, hd, hsu⟩ := hfold
  have hah : x.h + iLen a ≤ h := by
    have : ∀ (L : List Mrk) (s : Sps × Sps × Int), s.2.2 ≤ h → (∀ y ∈ L, y.h ≤ h) → (L.foldl (covStep N x.s) s).2.2 ≤ h := by
      intro L
      induction L with
      | nil => exact fun s h1 _ => h1
      | cons y L ih => exact fun s h1 h2 => ih _ (h2 y (by simp)) (fun z hz => h2 z (by simp [hz]))
    rw [← ha, hsd]
    exact this L _ (by dsimp only; omega) (fun y hy => by obtain ⟨i, _, _, e, _⟩ := (hmem y).1 hy; exact e)
  constructor
  · have he : h - s.2.2 = iLen ((h - x.h).toNat - a) := by unfold iLen at *; omega
    rw [he, hd _ p hp, show a + ((h - x.h).toNat - a) = (h - x.h).toNat by unfold iLen at hah; omega]
    exact (hrs_T h0 h1 _ (Nat.le_refl _) p).symm
  · rw [hsu, hrs_S h0 _ h1]
    congr 2
    rw [Bool.eq_iff_iff, List.any_eq_true, List.any_eq_true]
    constructor
    · rintro ⟨y, hy, h2⟩
      obtain ⟨i, e1, e2, e3, e4⟩ := (hmem y).1 hy
      refine ⟨y, hy, ?_⟩
      simp only [Bool.and_eq_true, decide_eq_true_eq]
      exact ⟨⟨by unfold iLen; omega, e2⟩, h2⟩
    · rintro ⟨y, hy, h2⟩
      simp only [Bool.and_eq_true, decide_eq_true_eq] at h2
      exact ⟨y, hy, h2.2⟩
/-- the verdict from the two rows -/
def vofB (may sure : Bool) : Int := if sure = true then 1 else if may = true then 3 else 2
def mayB (m : List Mrk) (h : Int) (N k p : Nat) : Bool := (List.range k).any fun j => (covB m j h N).1 p
def sureB (m : List Mrk) (h : Int) (N k p : Nat) : Bool := (List.range k).any fun j => (covB m j h N).2 p
theorem verd_eq {m : List Mrk} {N : Nat} {h : Int} (hm : ∀ x ∈ m, MkOk N x) {p : Nat} (hp : p < N) : verdS m h N p = vofB (mayB m h N m.length p) (sureB m h N m.length p) := by
  have hc := fun j hj => cov_eq (h := h) (k := j) hj hm p hp
  unfold verdS
  obtain ⟨h1, h2, h3⟩ := verdF_char (m := m) (h := h) (N := N) (p := p) (k := m.length)
  have e2 : sureB m h N m.length p = true ↔ ∃ j < m.length, inL (covS m j h N).2 p = true := by
    unfold sureB; rw [List.any_eq_true]
    constructor
    · rintro ⟨j, hj, hj2⟩; have hj := List.mem_range.1 hj; exact ⟨j, hj, by rw [(hc j hj).2]; exact hj2⟩
    · rintro ⟨j, hj, hj2⟩; exact ⟨j, List.mem_range.2 hj, by rw [← (hc j hj).2]; exact hj2⟩
  have e1 : mayB m h N m.length p = true ↔ ∃ j < m.length, inL (covS m j h N).1 p = true := by
    unfold mayB; rw [List.any_eq_true]
    constructor
    · rintro ⟨j, hj, hj2⟩; have hj := List.mem_range.1 hj; exact ⟨j, hj, by rw [(hc j hj).1]; exact hj2⟩
    · rintro ⟨j, hj, hj2⟩; exact ⟨j, List.mem_range.2 hj, by rw [← (hc j hj).1]; exact hj2⟩
  unfold vofB
  by_cases c1 : sureB m h N m.length p = true
  · rw [if_pos c1]; exact h2.2 (e2.1 c1)
  · rw [if_neg c1]
    have n2 : ¬ verdF m h N m.length p = 1 := fun hq => c1 (e2.2 (h2.1 hq))
    by_cases c2 : mayB m h N m.length p = true
    · rw [if_pos c2]
      obtain ⟨j, hj, hj2⟩ := e1.1 c2
      have : ¬ verdF m h N m.length p = 2 := fun hq => by have := (h3.1 hq j hj).1; rw [hj2] at this; cases this
      clear hj2 hc e1 e2 h2 h3
      omega
    · rw [if_neg c2]
      refine h3.2 fun j hj => ⟨?_, ?_⟩
      · cases hq : inL (covS m j h N).1 p with
        | false => rfl
        | true => exact absurd (e1.2 ⟨j, hj, hq⟩) c2
      · cases hq : inL (covS m j h N).2 p with
        | false => rfl
        | true => exact absurd (e2.2 ⟨j, hj, hq⟩) c1
end Go.Sas
