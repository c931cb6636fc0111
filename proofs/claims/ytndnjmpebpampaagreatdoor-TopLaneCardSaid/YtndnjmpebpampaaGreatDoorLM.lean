/-
Trucks on a lane: where they may be, and when two of them meet.
Valid trucks and convoys: which error there is.
Conditions: none.
-/
import Derived.Test.YtndnjmpebpampaaGreatDoorP7
import Derived.Test.YtndnjmpebpampaaGreatDoorJ1
set_option linter.unusedVariables false
set_option linter.unusedSimpArgs false
namespace Go.Sas
/-- a hold: at which metre of the road, and until which minute -/
structure Hld where
  a : Int
  u : Int
/-- a truck -/
structure Tck where
  way : Int
  st : Int
  lo : Int
  hi : Int
  hs : List Hld
/-- how far along the way a metre of the road is -/
def aloC (L way a : Int) : Int := if way = 2 then L - a else a
/-- where a truck stops at last behind a minute -/
def stopP (L way m : Int) : List Hld → Int
  | [] => L
  | h :: t => if m < h.u then aloC L way h.a else stopP L way m t
/-- the same of one that has gone so far -/
def stopG (L way g m : Int) : List Hld → Int
  | [] => L
  | h :: t => if g ≤ aloC L way h.a ∧ m < h.u then aloC L way h.a else stopG L way g m t
/-- holds in order -/
structure HldV (L way : Int) (l : List Hld) : Prop where
  n : l.length ≤ 8
  all : ∀ h ∈ l, (1 ≤ h.a ∧ h.a ≤ L - 1) ∧ 0 ≤ h.u ∧ h.u ≤ 10000
  ord : l.Pairwise fun x y => aloC L way x.a < aloC L way y.a
theorem aloC_bnd {L way a : Int} (h : 1 ≤ a ∧ a ≤ L - 1) : 1 ≤ aloC L way a ∧ aloC L way a ≤ L - 1 := by unfold aloC; split <;> omega
theorem stopP_le {L way m : Int} : ∀ {l : List Hld}, (∀ h ∈ l, (1 ≤ h.a ∧ h.a ≤ L - 1) ∧ 0 ≤ h.u ∧ h.u ≤ 10000) → stopP L way m l ≤ L
  | [], _ => by simp [stopP]
  | h :: t, ha => by
    simp only [stopP]
    have h1 := aloC_bnd (way := way) (ha h (List.mem_cons_self ..)).1
    split
    · omega
    · exact stopP_le fun x hx => ha x (List.mem_cons_of_mem _ hx)
theorem stopP_pos {L way m : Int} (hL : 1 ≤ L) : ∀ {l : List Hld}, (∀ h ∈ l, (1 ≤ h.a ∧ h.a ≤ L - 1) ∧ 0 ≤ h.u ∧ h.u ≤ 10000) → 1 ≤ stopP L way m l
  | [], _ => by simpa [stopP] using hL
  | h :: t, ha => by
    simp only [stopP]
    have h1 := aloC_bnd (way := way) (ha h (List.mem_cons_self ..)).1
    split
    · omega
    · exact stopP_pos hL fun x hx => ha x (List.mem_cons_of_mem _ hx)
/-- behind the first hold -/
theorem stopP_gt {L way m c : Int} : ∀ {l : List Hld}, c < L → (∀ h ∈ l, c < aloC L way h.a) → c < stopP L way m l
  | [], hc, _ => by simpa [stopP] using hc
  | h :: t, hc, ha => by
    simp only [stopP]
    split
    · exact ha h (List.mem_cons_self ..)
    · exact stopP_gt hc fun x hx => ha x (List.mem_cons_of_mem _ hx)
theorem stopP_mono {L way : Int} {m m' : Int} (hm : m ≤ m') : ∀ {l : List Hld}, (∀ h ∈ l, (1 ≤ h.a ∧ h.a ≤ L - 1) ∧ 0 ≤ h.u ∧ h.u ≤ 10000) → (l.Pairwise fun x y => aloC L way x.a < aloC L way y.a) → stopP L way m l ≤ stopP L way m' l
  | [], _, _ => by simp [stopP]
  | h :: t, ha, ho => by
    have h1 := aloC_bnd (way := way) (ha h (List.mem_cons_self ..)).1
    have h2 := List.pairwise_cons.1 ho
    have h3 := stopP_gt (m := m') (l := t) (c := aloC L way h.a) (by omega) h2.1
    have h4 := stopP_mono hm (fun x hx => ha x (List.mem_cons_of_mem _ hx)) h2.2
    simp only [stopP]
    split <;> split <;> omega
theorem stopP_last {L way m : Int} (hm : 10000 ≤ m) : ∀ {l : List Hld}, (∀ h ∈ l, (1 ≤ h.a ∧ h.a ≤ L - 1) ∧ 0 ≤ h.u ∧ h.u ≤ 10000) → stopP L way m l = L
  | [], _ => rfl
  | h :: t, ha => by
    have h1 := ha h (List.mem_cons_self ..)
    simp only [stopP]
    rw [if_neg (by omega)]
    exact stopP_last hm fun x hx => ha x (List.mem_cons_of_mem _ hx)
theorem stopG_eq {L way g m : Int} : ∀ {l : List Hld}, g ≤ stopP L way m l → stopG L way g m l = stopP L way m l
  | [], _ => rfl
  | h :: t, hg => by
    simp only [stopP] at hg
    simp only [stopG, stopP]
    by_cases hu : m < h.u
    · rw [if_pos hu] at hg ⊢
      rw [if_pos ⟨hg, hu⟩]
    · rw [if_neg hu] at hg ⊢
      rw [if_neg (fun h => hu h.2)]
      exact stopG_eq hg
/-- no bay in which it waits: the way on is longer -/
theorem bay_iff {L way g m : Int} (hL : g ≤ L) : ∀ {l : List Hld}, (∀ h ∈ l, (1 ≤ h.a ∧ h.a ≤ L - 1) ∧ 0 ≤ h.u ∧ h.u ≤ 10000) → (l.Pairwise fun x y => aloC L way x.a < aloC L way y.a) → g ≤ stopP L way m l →
    ((g < L ∧ ∀ h ∈ l, ¬ (aloC L way h.a = g ∧ m < h.u)) ↔ g < stopP L way m l)
  | [], _, _, _ => by simp [stopP]
  | h :: t, ha, ho, hg => by
    have h1 := aloC_bnd (way := way) (ha h (List.mem_cons_self ..)).1
    have h2 := List.pairwise_cons.1 ho
    have h5 := bay_iff (m := m) hL (l := t) (fun x hx => ha x (List.mem_cons_of_mem _ hx)) h2.2
    simp only [stopP] at hg ⊢
    by_cases hu : m < h.u
    · rw [if_pos hu] at hg ⊢
      constructor
      · rintro ⟨_, q⟩
        have := q h (List.mem_cons_self ..)
        omega
      · intro q
        refine ⟨by omega, fun x hx => ?_⟩
        rcases List.mem_cons.1 hx with rfl | hx
        · omega
        · have := h2.1 x hx; omega
    · rw [if_neg hu] at hg ⊢
      rw [← h5 hg]
      constructor
      · rintro ⟨q1, q⟩; exact ⟨q1, fun x hx => q x (List.mem_cons_of_mem _ hx)⟩
      · rintro ⟨q1, q⟩
        refine ⟨q1, fun x hx => ?_⟩
        rcases List.mem_cons.1 hx with rfl | hx
        · exact fun h => hu h.2
        · exact q x hx
/-- a valid truck of a road of a length and a gap -/
structure TckV (L gap : Int) (t : Tck) : Prop where
  way : t.way = 1 ∨ t.way = 2
  st : 0 ≤ t.st ∧ t.st ≤ 10000
  lo : 1 ≤ t.lo ∧ t.lo ≤ t.hi
  hi : t.hi ≤ 1000
  len : L ≤ 1000 * t.lo
  gap : 2 * t.hi ≤ gap
  hs : HldV L t.way t.hs
/-- a truck that fails, or not -/
def freeT (f : Bool) (t : Tck) : Tck := if f then { t with hs := [] } else t
theorem freeT_way {f : Bool} {t : Tck} : (freeT f t).way = t.way := by unfold freeT; split <;> rfl
theorem freeT_st {f : Bool} {t : Tck} : (freeT f t).st = t.st := by unfold freeT; split <;> rfl
theorem TckV.free {L gap : Int} {t : Tck} (h : TckV L gap t) (f : Bool) : TckV L gap (freeT f t) := by
  unfold freeT
  split
  · exact ⟨h.way, h.st, h.lo, h.hi, h.len, h.gap, ⟨Nat.zero_le _, fun _ h => by simp at h, List.Pairwise.nil⟩⟩
  · exact h
def stopT (L : Int) (t : Tck) (m : Int) : Int := stopP L t.way m t.hs
/-- how far it has gone in the next minute -/
def nxtT (L : Int) (t : Tck) (g m d : Int) : Int := min (g + d) (stopT L t m)
/-- between which numbers lies how far it has gone -/
def waysT (L : Int) (t : Tck) : Nat → Int × Int
  | 0 => (0, 0)
  | m + 1 => if t.st < m + 1 then (nxtT L t (waysT L t m).1 m t.lo, nxtT L t (waysT L t m).2 m t.hi) else waysT L t m
theorem stopT_bnd {L gap : Int} {t : Tck} (hV : TckV L gap t) (hL : 1 ≤ L) (m : Int) : 1 ≤ stopT L t m ∧ stopT L t m ≤ L := ⟨stopP_pos hL hV.hs.all, stopP_le hV.hs.all⟩
theorem stopT_mono {L gap : Int} {t : Tck} (hV : TckV L gap t) {m m' : Int} (h : m ≤ m') : stopT L t m ≤ stopT L t m' := stopP_mono h hV.hs.all hV.hs.ord
theorem waysT_bnd {L gap : Int} {t : Tck} (hV : TckV L gap t) (hL : 1 ≤ L) : ∀ m : Nat, 0 ≤ (waysT L t m).1 ∧ (waysT L t m).1 ≤ (waysT L t m).2 ∧ (waysT L t m).2 ≤ stopT L t m
  | 0 => by have := stopT_bnd hV hL ((0 : Nat) : Int); simp only [waysT]; omega
  | m + 1 => by
    have h1 := waysT_bnd hV hL m
    have h2 := stopT_mono hV (show (m : Int) ≤ ((m + 1 : Nat) : Int) by omega)
    have h3 := stopT_bnd hV hL m
    have h4 := hV.lo
    simp only [waysT, nxtT]
    split <;> omega
/-- a course of a truck -/
def CrsT (L : Int) (t : Tck) (g : Nat → Int) (n : Nat) : Prop := ∀ m : Nat, m ≤ n → (waysT L t m).1 ≤ g m ∧ g m ≤ (waysT L t m).2
theorem CrsT.next {L : Int} {t : Tck} {m : Nat} {g d : Int} (hg : (waysT L t m).1 ≤ g ∧ g ≤ (waysT L t m).2) (hd : t.lo ≤ d ∧ d ≤ t.hi) (hm : t.st < (m : Int) + 1) : (waysT L t (m + 1)).1 ≤ nxtT L t g m d ∧ nxtT L t g m d ≤ (waysT L t (m + 1)).2 := by
  simp only [waysT]
  rw [if_pos hm]
  simp only [nxtT]
  omega
theorem waysT_wait {L : Int} {t : Tck} : ∀ {m : Nat}, (m : Int) ≤ t.st → waysT L t m = (0, 0)
  | 0, _ => rfl
  | m + 1, h => by
    simp only [waysT]
    rw [if_neg (by omega)]
    exact waysT_wait (by omega)
theorem waysT_up {L gap : Int} {t : Tck} (hV : TckV L gap t) (hL : 1 ≤ L) {m : Nat} : ∀ {k : Nat}, m ≤ k → (waysT L t m).1 ≤ (waysT L t k).1
  | 0, h => by rw [show m = 0 by omega]; exact Int.le_refl _
  | k + 1, h => by
    by_cases he : m = k + 1
    · rw [he]; exact Int.le_refl _
    have h1 := waysT_up hV hL (m := m) (k := k) (by omega)
    have h2 := waysT_bnd hV hL k
    have h4 := hV.lo
    simp only [waysT, nxtT]
    split <;> omega
/-- it arrives -/
theorem waysT_end {L gap : Int} {t : Tck} (hV : TckV L gap t) (hL : 1 ≤ L) {m : Nat} (hm : 11001 ≤ m) : (waysT L t m).1 = L := by
  have key : ∀ k : Nat, min ((k : Int) * t.lo) L ≤ (waysT L t (10001 + k)).1 := by
    intro k
    induction k with
    | zero => have := (waysT_bnd hV hL 10001).1; simp only [Nat.add_zero]; omega
    | succ k ih =>
      have h1 := hV.st
      have h4 := hV.lo
      rw [show 10001 + (k + 1) = 10001 + k + 1 by omega]
      simp only [waysT, nxtT]
      rw [if_pos (by omega)]
      have h5 : stopT L t ((10001 + k : Nat) : Int) = L := stopP_last (by omega) hV.hs.all
      rw [h5]
      dsimp only
      rw [show ((k + 1 : Nat) : Int) * t.lo = (k : Int) * t.lo + t.lo by rw [Int.natCast_add, Int.add_mul]; simp]
      omega
  have h1 := key 1000
  have h2 := waysT_up hV hL (show 10001 + 1000 ≤ m by omega)
  have h3 := waysT_bnd hV hL m
  have h4 := stopT_bnd hV hL m
  have h5 := hV.len
  rw [show ((1000 : Nat) : Int) * t.lo = 1000 * t.lo by rfl] at h1
  omega
theorem waysT_free {L gap : Int} {t : Tck} (hV : TckV L gap t) (hL : 1 ≤ L) : ∀ m : Nat, (waysT L t m).1 ≤ (waysT L (freeT true t) m).1
  | 0 => Int.le_refl _
  | m + 1 => by
    have h1 := waysT_free hV hL m
    have h2 := stopT_bnd hV hL m
    simp only [waysT, nxtT, freeT_st]
    have e1 : stopT L (freeT true t) m = L := rfl
    have e2 : (freeT true t).lo = t.lo := rfl
    rw [e1, e2]
    split <;> omega
/-- the first minute in which it has surely arrived -/
def Arr (L : Int) (t : Tck) (n : Nat) : Prop := (waysT L t n).1 = L ∧ ∀ k, k < n → (waysT L t k).1 < L
theorem Arr.uniq {L : Int} {t : Tck} {a b : Nat} (ha : Arr L t a) (hb : Arr L t b) : a = b := by
  rcases Nat.lt_trichotomy a b with h | h | h
  · have := hb.2 _ h; have := ha.1; omega
  · exact h
  · have := ha.2 _ h; have := hb.1; omega
/-- on the lane -/
def onT (L : Int) (t : Tck) (g m : Int) : Bool := decide (t.st ≤ m ∧ g < stopT L t m)
/-- where it may be on the lane: how far gone -/
def laneT (L : Int) (t : Tck) (m : Nat) : Int × Int := ((waysT L t m).1, min (waysT L t m).2 (stopT L t m - 1))
def isT (L : Int) (t : Tck) (m : Nat) : Bool := decide (t.st ≤ m ∧ (laneT L t m).1 ≤ (laneT L t m).2)
def roadC (L way : Int) (x : Int × Int) : Int × Int := if way = 2 then (L - x.2, L - x.1) else x
/-- too near -/
def nearC (a b : Int × Int) (gap : Int) : Bool := decide (max a.1 (b.1 - gap + 1) ≤ a.2 ∧ max b.1 (max a.1 (b.1 - gap + 1) - gap + 1) ≤ b.2)
theorem nearC_of {a b : Int × Int} {gap x y : Int} (hg : 1 ≤ gap) (hx : a.1 ≤ x ∧ x ≤ a.2) (hy : b.1 ≤ y ∧ y ≤ b.2) (h1 : x - y < gap) (h2 : y - x < gap) : nearC a b gap = true := by
  simp only [nearC, decide_eq_true_eq]; omega
def meetT (L gap : Int) (t u : Tck) (m : Nat) : Bool := isT L t m && isT L u m && nearC (roadC L t.way (laneT L t m)) (roadC L u.way (laneT L u m)) gap
theorem roadC_mem {L way : Int} {x : Int × Int} {g : Int} (h : x.1 ≤ g ∧ g ≤ x.2) : (roadC L way x).1 ≤ aloC L way g ∧ aloC L way g ≤ (roadC L way x).2 := by
  unfold roadC aloC; split <;> omega
/-- two trucks that cannot meet -/
theorem apartT {L gap : Int} {t u : Tck} {m : Nat} (hg : 1 ≤ gap) (h : meetT L gap t u m = false) {x y : Int} (hx : (waysT L t m).1 ≤ x ∧ x ≤ (waysT L t m).2) (hy : (waysT L u m).1 ≤ y ∧ y ≤ (waysT L u m).2) (ox : onT L t x m = true) (oy : onT L u y m = true) :
    gap ≤ aloC L t.way x - aloC L u.way y ∨ gap ≤ aloC L u.way y - aloC L t.way x := by
  simp only [onT, decide_eq_true_eq] at ox oy
  have lx : (laneT L t m).1 ≤ x ∧ x ≤ (laneT L t m).2 := by simp only [laneT]; omega
  have ly : (laneT L u m).1 ≤ y ∧ y ≤ (laneT L u m).2 := by simp only [laneT]; omega
  have i1 : isT L t m = true := by simp only [isT, decide_eq_true_eq]; omega
  have i2 : isT L u m = true := by simp only [isT, decide_eq_true_eq]; omega
  unfold meetT at h
  rw [i1, i2, Bool.true_and, Bool.true_and] at h
  rcases Int.lt_or_le (aloC L t.way x - aloC L u.way y) gap with h1 | h1
  · rcases Int.lt_or_le (aloC L u.way y - aloC L t.way x) gap with h2 | h2
    · rw [nearC_of hg (roadC_mem lx) (roadC_mem ly) h1 h2] at h; cases h
    · exact .inr h2
  · exact .inl h1
/-- a truck that has arrived is not on the lane -/
theorem isT_end {L gap : Int} {t : Tck} (hV : TckV L gap t) (hL : 1 ≤ L) {m : Nat} (h : (waysT L t m).1 = L) : isT L t m = false := by
  have := stopT_bnd hV hL m
  unfold isT
  refine decide_eq_false ?_
  simp only [laneT]
  omega
/-- no two trucks meet in any course, up to a minute -/
def Acc (L gap fails : Int) (l : List Tck) (e : Nat) : Prop := ∀ m : Nat, m ≤ e → ∀ (i k : Nat) (t u : Tck), i < k → l[i]? = some t → l[k]? = some u → ∀ f g : Bool, (if f then 1 else 0) + (if g then 1 else 0) ≤ fails → meetT L gap (freeT f t) (freeT g u) m = false
/-- by then all have arrived -/
def EndT (L : Int) (l : List Tck) (e : Nat) : Prop := ∀ t ∈ l, (waysT L t e).1 = L
theorem Acc.all {L gap fails : Int} {l : List Tck} {e : Nat} (h : Acc L gap fails l e) (hE : EndT L l e) (hL : 1 ≤ L) (hV : ∀ t ∈ l, TckV L gap t) (m : Nat) : Acc L gap fails l m := by
  intro m' _ i k t u hik ht hu f g hfg
  by_cases hm : m' ≤ e
  · exact h m' hm i k t u hik ht hu f g hfg
  have h1 := hV t (List.mem_of_getElem? ht)
  have h2 := hE t (List.mem_of_getElem? ht)
  have h3 : (waysT L (freeT f t) m').1 = L := by
    have h4 := waysT_up (h1.free f) hL (show e ≤ m' by omega)
    have h5 := waysT_bnd (h1.free f) hL m'
    have h6 := stopT_bnd (h1.free f) hL m'
    have h7 := waysT_free h1 hL e
    cases f
    · have e1 : freeT false t = t := rfl
      rw [e1] at h4 h5 h6 ⊢; omega
    · omega
  unfold meetT
  rw [isT_end (h1.free f) hL h3]
  rfl
end Go.Sas
namespace Go.Sas
def hldA (L way : Int) (l : List Hld) (i : Nat) : Int := aloC L way (l.getD i ⟨0, 0⟩).a
/-- the error of a hold -/
def hldE (L way : Int) (l : List Hld) (i : Nat) : Int :=
  if ¬ ((1 ≤ (l.getD i ⟨0, 0⟩).a ∧ (l.getD i ⟨0, 0⟩).a ≤ L - 1) ∧ 0 ≤ (l.getD i ⟨0, 0⟩).u ∧ (l.getD i ⟨0, 0⟩).u ≤ 10000) then 2 else if 0 < i ∧ hldA L way l i ≤ hldA L way l (i - 1) then 11 else 0
/-- the first number that is not 0 -/
def fstE (f : Nat → Int) : Nat → Int
  | 0 => 0
  | n + 1 => if fstE f n ≠ 0 then fstE f n else f n
theorem fstE_zero {f : Nat → Int} : ∀ {n : Nat}, fstE f n = 0 ↔ ∀ i, i < n → f i = 0
  | 0 => by simp [fstE]
  | n + 1 => by
    have ih := fstE_zero (f := f) (n := n)
    simp only [fstE]
    constructor
    · intro h
      split at h
      · rename_i h1; exact absurd h h1
      · rename_i h1
        have h1 := ih.1 (by simpa using h1)
        intro i hi
        rcases Nat.lt_or_ge i n with h2 | h2
        · exact h1 i h2
        · rw [show i = n by omega]; exact h
    · intro h
      rw [if_neg (by simpa using ih.2 fun i hi => h i (by omega))]
      exact h n (by omega)
theorem fstE_at {f : Nat → Int} {j : Nat} {r : Int} (h1 : ∀ i, i < j → f i = 0) (h2 : f j = r) (hr : r ≠ 0) : ∀ {n : Nat}, j < n → fstE f n = r
  | n + 1, hn => by
    simp only [fstE]
    by_cases hj : j = n
    · subst hj
      rw [if_neg (by simpa using fstE_zero.2 h1)]; exact h2
    · have := fstE_at h1 h2 hr (n := n) (by omega)
      rw [this, if_pos hr]
def tckE (L gap : Int) (t : Tck) : Int :=
  if ¬ (t.way = 1 ∨ t.way = 2) then 4 else if ¬ ((0 ≤ t.st ∧ t.st ≤ 10000) ∧ (1 ≤ t.lo ∧ t.lo ≤ 1000) ∧ 1 ≤ t.hi ∧ t.hi ≤ 1000) then 2 else if t.hi < t.lo then 11 else if 1000 * t.lo < L then 13 else if gap < 2 * t.hi then 12 else
  if 8 < t.hs.length then 8 else fstE (hldE L t.way t.hs) t.hs.length
structure Cvy where
  len : Int
  gap : Int
  fails : Int
  trs : List Tck
def cvyE (c : Cvy) : Int :=
  if ¬ ((1 ≤ c.len ∧ c.len ≤ 100000) ∧ (1 ≤ c.gap ∧ c.gap ≤ 100000) ∧ 0 ≤ c.fails ∧ c.fails ≤ 20) then 2 else if 20 < c.trs.length then 8 else fstE (fun i => tckE c.len c.gap (c.trs.getD i ⟨0, 0, 0, 0, []⟩)) c.trs.length
structure CvyV (c : Cvy) : Prop where
  len : 1 ≤ c.len ∧ c.len ≤ 100000
  gap : 1 ≤ c.gap ∧ c.gap ≤ 100000
  fails : 0 ≤ c.fails ∧ c.fails ≤ 20
  n : c.trs.length ≤ 20
  all : ∀ t ∈ c.trs, TckV c.len c.gap t
theorem hlds_ok {L way : Int} {l : List Hld} (hn : l.length ≤ 8) : fstE (hldE L way l) l.length = 0 ↔ HldV L way l := by
  rw [fstE_zero]
  constructor
  · intro h
    have h0 : ∀ i (hi : i < l.length), l.getD i ⟨0, 0⟩ = l[i] := fun i hi => by rw [List.getD_eq_getElem?_getD, List.getElem?_eq_getElem hi]; rfl
    have hb : ∀ i, i < l.length → ((1 ≤ (l.getD i ⟨0, 0⟩).a ∧ (l.getD i ⟨0, 0⟩).a ≤ L - 1) ∧ 0 ≤ (l.getD i ⟨0, 0⟩).u ∧ (l.getD i ⟨0, 0⟩).u ≤ 10000) ∧ (0 < i → hldA L way l (i - 1) < hldA L way l i) := fun i hi => by
      have := h i hi
      unfold hldE at this
      split at this
      · omega
      · rename_i h1
        split at this
        · omega
        · rename_i h2; exact ⟨Decidable.not_not.1 h1, by omega⟩
    refine ⟨hn, fun x hx => ?_, ?_⟩
    · obtain ⟨i, hi, rfl⟩ := List.mem_iff_getElem.1 hx
      rw [← h0 i hi]; exact (hb i hi).1
    · have key : ∀ (d i : Nat), i + (d + 1) < l.length → hldA L way l i < hldA L way l (i + (d + 1)) := by
        intro d
        induction d with
        | zero => intro i hi; exact (hb (i + 1) hi).2 (by omega)
        | succ d ih =>
          intro i hi
          have h1 := ih i (by omega)
          have h2 := (hb (i + (d + 1 + 1)) hi).2 (by omega)
          rw [show i + (d + 1 + 1) - 1 = i + (d + 1) by omega] at h2
          omega
      refine List.pairwise_iff_getElem.2 fun i j hi hj hij => ?_
      obtain ⟨d, rfl⟩ : ∃ d, j = i + (d + 1) := ⟨j - i - 1, by omega⟩
      have := key d i hj
      unfold hldA at this
      rw [h0 i hi, h0 _ hj] at this
      exact this
  · intro hV i hi
    have h0 : ∀ i (hi : i < l.length), l.getD i ⟨0, 0⟩ = l[i] := fun i hi => by rw [List.getD_eq_getElem?_getD, List.getElem?_eq_getElem hi]; rfl
    have h1 := hV.all _ (List.getElem_mem hi)
    unfold hldE
    rw [if_neg (by rw [h0 i hi]; omega), if_neg]
    rintro ⟨h2, h3⟩
    have h4 := List.pairwise_iff_getElem.1 hV.ord (i - 1) i (by omega) hi (by omega)
    unfold hldA at h3
    rw [h0 i hi, h0 (i - 1) (by omega)] at h3
    omega
theorem tckE_ok {L gap : Int} {t : Tck} : tckE L gap t = 0 ↔ TckV L gap t := by
  unfold tckE
  constructor
  · intro h
    split at h
    · omega
    split at h
    · omega
    split at h
    · omega
    split at h
    · omega
    split at h
    · omega
    split at h
    · omega
    rename_i h1 h2 h3 h4 h5 h6
    have h1 := Decidable.not_not.1 h1
    have h2 := Decidable.not_not.1 h2
    exact ⟨h1, h2.1, by omega, by omega, by omega, by omega, (hlds_ok (by omega)).1 h⟩
  · intro h
    have h1 := h.way
    have h2 := h.st
    have h3 := h.lo
    have h4 := h.hi
    have h5 := h.len
    have h6 := h.gap
    have h7 := h.hs.n
    rw [if_neg (by omega), if_neg (by omega), if_neg (by omega), if_neg (by omega), if_neg (by omega), if_neg (by omega)]
    exact (hlds_ok h7).2 h.hs
theorem cvyE_ok {c : Cvy} : cvyE c = 0 ↔ CvyV c := by
  have h0 : ∀ i (hi : i < c.trs.length), c.trs.getD i ⟨0, 0, 0, 0, []⟩ = c.trs[i] := fun i hi => by rw [List.getD_eq_getElem?_getD, List.getElem?_eq_getElem hi]; rfl
  unfold cvyE
  constructor
  · intro h
    split at h
    · omega
    split at h
    · omega
    rename_i h1 h2
    have h1 := Decidable.not_not.1 h1
    refine ⟨h1.1, h1.2.1, h1.2.2, by omega, fun t ht => ?_⟩
    obtain ⟨i, hi, rfl⟩ := List.mem_iff_getElem.1 ht
    have := fstE_zero.1 h i hi
    rw [h0 i hi] at this
    exact tckE_ok.1 this
  · intro h
    have h1 := h.len
    have h2 := h.gap
    have h3 := h.fails
    have h4 := h.n
    rw [if_neg (by omega), if_neg (by omega)]
    refine fstE_zero.2 fun i hi => ?_
    rw [h0 i hi]
    exact tckE_ok.2 (h.all _ (List.getElem_mem hi))
end Go.Sas
