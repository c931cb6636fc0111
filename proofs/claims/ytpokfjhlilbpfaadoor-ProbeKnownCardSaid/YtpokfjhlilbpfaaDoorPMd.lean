/-
Probe: what surveys, looks and marks are, which are valid, what is known of a place.
Probe: what Known and Least answer.
Probe: the cost of a way by the ends of reaches.
Probe: what is stale; marks; why places are shut.
Conditions: none.
-/
import Derived.Test.YtpokfjhlilbpfaaDoorP7d
set_option linter.unusedVariables false
set_option linter.unusedSimpArgs false
namespace Go.Sas
structure Rch where
  lg : Int
  sl : Int
  th : Int
  gr : Int
  ev : Int
structure Lk where
  k : Int
  p : Int
  h : Int
  lo : Int
  hi : Int
structure Mrk where
  k : Int
  f : Int
  t : Int
  h : Int
  s : Int
abbrev rcV (r : Rch) : AV := .agg [I r.lg, I r.sl, I r.th, I r.gr, I r.ev]
abbrev lkV (x : Lk) : AV := .agg [I x.k, I x.p, I x.h, I x.lo, I x.hi]
abbrev mkV (x : Mrk) : AV := .agg [I x.k, I x.f, I x.t, I x.h, I x.s]
abbrev svV (rs : AV) (a b c : Int) : AV := .agg [rs, I a, I b, I c]
def rc0 : Rch := ⟨0, 0, 0, 0, 0⟩
/-- the first error of a row -/
def firstE {α : Type} (f : α → Int) : List α → Int
  | [] => 0
  | x :: r => if f x = 0 then firstE f r else f x
def orElse (a b : Int) : Int := if a = 0 then b else a
theorem firstE_drop {α : Type} {f : α → Int} {l : List α} {i : Nat} {x : α} (h : l[i]? = some x) : firstE f (l.drop i) = if f x = 0 then firstE f (l.drop (i + 1)) else f x := by
  rw [drop_cons h]; rfl
theorem firstE_all {α : Type} {f : α → Int} : ∀ {l : List α}, (∀ x ∈ l, f x = 0) → firstE f l = 0
  | [], _ => rfl
  | x :: l, h => by simp only [firstE]; rw [if_pos (h x (by simp))]; exact firstE_all fun y hy => h y (by simp [hy])
theorem firstE_zero {α : Type} {f : α → Int} : ∀ {l : List α}, firstE f l = 0 → ∀ x ∈ l, f x = 0
  | [], _, x, hx => by simp at hx
  | y :: l, h, x, hx => by
    simp only [firstE] at h
    by_cases h0 : f y = 0
    · rw [if_pos h0] at h
      rcases List.mem_cons.1 hx with rfl | hx
      · exact h0
      · exact firstE_zero h x hx
    · rw [if_neg h0] at h; exact absurd h h0
def rchE (r : Rch) : Int := if ¬(1 ≤ r.lg ∧ r.lg ≤ 1000) ∨ ¬(0 ≤ r.sl ∧ r.sl ≤ 3000) ∨ ¬(0 ≤ r.th ∧ r.th ≤ 1000) ∨ ¬(0 ≤ r.gr ∧ r.gr ≤ 1000) ∨ ¬(0 ≤ r.ev ∧ r.ev ≤ 10000) then 2 else 0
def sumLg : List Rch → Int
  | [] => 0
  | r :: l => r.lg + sumLg l
def sgtE (a b c : Int) : Int := if ¬(0 ≤ a ∧ a ≤ 50) ∨ ¬(0 ≤ b ∧ b ≤ 50) ∨ ¬(0 ≤ c ∧ c ≤ 50) then 2 else 0
/-- the error of a survey -/
def checkV (rs : List Rch) (a b c : Int) : Int :=
  if rs.length = 0 then 6 else if 20 < rs.length then 8 else orElse (firstE rchE rs) (if 1000 < sumLg rs then 8 else sgtE a b c)
/-- the reach of each place -/
def plc (rs : List Rch) : List Rch := rs.flatMap fun r => List.replicate r.lg.toNat r
theorem plc_cons (r : Rch) (rs : List Rch) : plc (r :: rs) = List.replicate r.lg.toNat r ++ plc rs := rfl
theorem plc_append (a b : List Rch) : plc (a ++ b) = plc a ++ plc b := by simp [plc]
theorem plc_len : ∀ {rs : List Rch}, (∀ r ∈ rs, 0 ≤ r.lg) → ((plc rs).length : Int) = sumLg rs
  | [], _ => rfl
  | r :: rs, h => by
    rw [plc_cons, List.length_append, List.length_replicate, sumLg]
    have := plc_len (rs := rs) fun x hx => h x (by simp [hx])
    have := h r (by simp)
    omega
theorem sumLg_append (a b : List Rch) : sumLg (a ++ b) = sumLg a + sumLg b := by
  induction a with
  | nil => simp [sumLg]
  | cons x a ih => simp only [List.cons_append, sumLg, ih]; omega
theorem sumLg_nonneg : ∀ {rs : List Rch}, (∀ r ∈ rs, 0 ≤ r.lg) → 0 ≤ sumLg rs
  | [], _ => by simp [sumLg]
  | r :: rs, h => by
    have := sumLg_nonneg (rs := rs) fun x hx => h x (by simp [hx])
    have := h r (by simp)
    simp only [sumLg]; omega
/-- a reach that may be -/
def RchOk (r : Rch) : Prop := (1 ≤ r.lg ∧ r.lg ≤ 1000) ∧ (0 ≤ r.sl ∧ r.sl ≤ 3000) ∧ (0 ≤ r.th ∧ r.th ≤ 1000) ∧ (0 ≤ r.gr ∧ r.gr ≤ 1000) ∧ (0 ≤ r.ev ∧ r.ev ≤ 10000)
theorem rchE_ok {r : Rch} : rchE r = 0 ↔ RchOk r := by
  unfold rchE RchOk
  constructor
  · intro h
    by_cases h1 : 1 ≤ r.lg ∧ r.lg ≤ 1000 <;> by_cases h2 : 0 ≤ r.sl ∧ r.sl ≤ 3000 <;> by_cases h3 : 0 ≤ r.th ∧ r.th ≤ 1000 <;> by_cases h4 : 0 ≤ r.gr ∧ r.gr ≤ 1000 <;> by_cases h5 : 0 ≤ r.ev ∧ r.ev ≤ 10000 <;> simp_all
  · rintro ⟨h1, h2, h3, h4, h5⟩
    simp [h1, h2, h3, h4, h5]
/-- a road that may be -/
structure RoadOk (rs : List Rch) : Prop where
  n1 : 1 ≤ rs.length
  n2 : rs.length ≤ 20
  all : ∀ r ∈ rs, RchOk r
  le : sumLg rs ≤ 1000
structure SgtOk (a b c : Int) : Prop where
  a : 0 ≤ a ∧ a ≤ 50
  b : 0 ≤ b ∧ b ≤ 50
  c : 0 ≤ c ∧ c ≤ 50
theorem checkV_ok {rs : List Rch} {a b c : Int} : checkV rs a b c = 0 ↔ RoadOk rs ∧ SgtOk a b c := by
  unfold checkV
  constructor
  · intro h
    by_cases h1 : rs.length = 0
    · rw [if_pos h1] at h; omega
    rw [if_neg h1] at h
    by_cases h2 : 20 < rs.length
    · rw [if_pos h2] at h; omega
    rw [if_neg h2] at h
    unfold orElse at h
    by_cases h3 : firstE rchE rs = 0
    · rw [if_pos h3] at h
      by_cases h4 : 1000 < sumLg rs
      · rw [if_pos h4] at h; omega
      rw [if_neg h4] at h
      refine ⟨⟨by omega, by omega, fun r hr => rchE_ok.1 (firstE_zero h3 r hr), by omega⟩, ?_⟩
      unfold sgtE at h
      by_cases q1 : 0 ≤ a ∧ a ≤ 50 <;> by_cases q2 : 0 ≤ b ∧ b ≤ 50 <;> by_cases q3 : 0 ≤ c ∧ c ≤ 50 <;> simp_all
      exact ⟨q1, q2, q3⟩
    · rw [if_neg h3] at h; exact absurd h h3
  · rintro ⟨⟨h1, h2, h3, h4⟩, ⟨h5, h6, h7⟩⟩
    rw [if_neg (by omega), if_neg (by omega), firstE_all fun r hr => rchE_ok.2 (h3 r hr)]
    unfold orElse sgtE
    rw [if_pos rfl, if_neg (by omega)]
    simp [h5, h6, h7]
theorem RoadOk.len {rs : List Rch} (h : RoadOk rs) : ((plc rs).length : Int) = sumLg rs := plc_len fun r hr => by have := (h.all r hr).1; omega
theorem RoadOk.mem {rs : List Rch} (h : RoadOk rs) {r : Rch} (hr : r ∈ plc rs) : RchOk r := by
  simp only [plc, List.mem_flatMap, List.mem_replicate] at hr
  obtain ⟨x, hx, _, rfl⟩ := hr
  exact h.all _ hx
theorem RoadOk.pos {rs : List Rch} (h : RoadOk rs) : 1 ≤ (plc rs).length := by
  have h1 := h.n1
  cases rs with
  | nil => simp at h1
  | cons r rs =>
    have := (h.all r (by simp)).1
    rw [plc_cons, List.length_append, List.length_replicate]; omega
theorem RoadOk.le' {rs : List Rch} (h : RoadOk rs) : (plc rs).length ≤ 1000 := by have := h.len; have := h.le; omega

/-! The least of a row -/
def minN (V : Nat → Int) : Nat → Int
  | 0 => V 0
  | k + 1 => min (minN V k) (V (k + 1))
theorem minN_le {V : Nat → Int} : ∀ {k p : Nat}, p ≤ k → minN V k ≤ V p
  | 0, p, h => by rw [show p = 0 by omega]; exact Int.le_refl _
  | k + 1, p, h => by
    simp only [minN]
    by_cases h1 : p = k + 1
    · subst h1; omega
    · have := minN_le (V := V) (k := k) (p := p) (by omega); omega
theorem minN_ex {V : Nat → Int} : ∀ (k : Nat), ∃ p, p ≤ k ∧ minN V k = V p
  | 0 => ⟨0, Nat.le_refl _, rfl⟩
  | k + 1 => by
    obtain ⟨p, h1, h2⟩ := minN_ex (V := V) k
    simp only [minN]
    by_cases h : minN V k ≤ V (k + 1)
    · exact ⟨p, by omega, by omega⟩
    · exact ⟨k + 1, by omega, by omega⟩
theorem minN_eq {V : Nat → Int} {k : Nat} {m : Int} (h1 : ∀ p, p ≤ k → m ≤ V p) (h2 : ∃ p, p ≤ k ∧ m = V p) : minN V k = m := by
  obtain ⟨p, hp, rfl⟩ := h2
  obtain ⟨q, hq, h3⟩ := minN_ex (V := V) k
  have := minN_le (V := V) hp
  have := h1 q hq
  omega
theorem minN_congr {V W : Nat → Int} : ∀ {k : Nat}, (∀ p, p ≤ k → V p = W p) → minN V k = minN W k
  | 0, h => h 0 (Nat.le_refl _)
  | k + 1, h => by simp only [minN]; rw [minN_congr fun p hp => h p (by omega), h (k + 1) (Nat.le_refl _)]

/-! Ways along the road -/
/-- the sum of the slopes before a place -/
def slp (R : List Rch) : Nat → Int
  | 0 => 0
  | p + 1 => slp R p + (R.getD p rc0).sl
def farS (R : List Rch) (a b : Nat) : Int := max (slp R a - slp R b) (slp R b - slp R a)
/-- by how much the ice changes at most in some hours (back in time: less than none) -/
def chg (r : Rch) (t : Int) : Int := if t < 0 then -t * r.th else t * r.gr
def wayS (R : List Rch) (a : Nat) (t : Int) (b p : Nat) : Int := farS R b p + chg (R.getD p rc0) t + farS R p a
/-- by how much the ice may be thicker at a place than at another place so many hours before -/
def riseS (R : List Rch) (a : Nat) (t : Int) (b : Nat) : Int := minN (wayS R a t b) (R.length - 1)
/-- places that may be -/
structure PlcOk (R : List Rch) : Prop where
  pos : 1 ≤ R.length
  le : R.length ≤ 1000
  all : ∀ r ∈ R, RchOk r
theorem RoadOk.plc {rs : List Rch} (h : RoadOk rs) : PlcOk (plc rs) := ⟨h.pos, h.le', fun _ hr => h.mem hr⟩
theorem PlcOk.at_ {R : List Rch} (h : PlcOk R) {p : Nat} (hp : p < R.length) : RchOk (R.getD p rc0) := by
  rw [List.getD_eq_getElem?_getD, List.getElem?_eq_getElem hp]
  exact h.all _ (List.getElem_mem hp)
theorem rc0_bnd {R : List Rch} (h : ∀ r ∈ R, RchOk r) (p : Nat) : 0 ≤ (R.getD p rc0).sl ∧ (R.getD p rc0).sl ≤ 3000 ∧ 0 ≤ (R.getD p rc0).th ∧ (R.getD p rc0).th ≤ 1000 ∧ 0 ≤ (R.getD p rc0).gr ∧ (R.getD p rc0).gr ≤ 1000 := by
  by_cases hp : p < R.length
  · rw [List.getD_eq_getElem?_getD, List.getElem?_eq_getElem hp]
    have := h _ (List.getElem_mem hp)
    obtain ⟨_, h2, h3, h4, _⟩ := this
    simp only [Option.getD_some]; omega
  · rw [List.getD_eq_getElem?_getD, List.getElem?_eq_none (by omega)]
    simp [rc0]
theorem slp_mono {R : List Rch} (h : ∀ r ∈ R, RchOk r) {a : Nat} : ∀ {b : Nat}, a ≤ b → slp R a ≤ slp R b
  | 0, hab => by rw [show a = 0 by omega]; exact Int.le_refl _
  | b + 1, hab => by
    by_cases h1 : a = b + 1
    · subst h1; exact Int.le_refl _
    · have := slp_mono h (a := a) (b := b) (by omega)
      have := (rc0_bnd h b).1
      simp only [slp]; omega
theorem slp_bnd {R : List Rch} (h : ∀ r ∈ R, RchOk r) : ∀ (p : Nat), 0 ≤ slp R p ∧ slp R p ≤ 3000 * (p : Int)
  | 0 => by simp [slp]
  | p + 1 => by
    have := slp_bnd h p
    have := rc0_bnd h p
    simp only [slp]; omega
theorem farS_bnd {R : List Rch} (h : ∀ r ∈ R, RchOk r) {a b : Nat} (ha : a ≤ 1000) (hb : b ≤ 1000) : 0 ≤ farS R a b ∧ farS R a b ≤ 3000000 := by
  have := slp_bnd h a
  have := slp_bnd h b
  unfold farS; omega
theorem farS_symm (R : List Rch) (a b : Nat) : farS R a b = farS R b a := by unfold farS; omega
theorem farS_self (R : List Rch) (a : Nat) : farS R a a = 0 := by unfold farS; omega
theorem farS_tri (R : List Rch) (a b c : Nat) : farS R a c ≤ farS R a b + farS R b c := by unfold farS; omega
theorem mul_range {a b A B : Int} (h1 : 0 ≤ a) (h2 : a ≤ A) (h3 : 0 ≤ b) (h4 : b ≤ B) : 0 ≤ a * b ∧ a * b ≤ A * B :=
  ⟨Int.mul_nonneg h1 h3, Int.mul_le_mul h2 h4 h3 (by omega)⟩
theorem chg_bnd {R : List Rch} (h : ∀ r ∈ R, RchOk r) (p : Nat) {t : Int} (ht : -10000 ≤ t ∧ t ≤ 10000) : 0 ≤ chg (R.getD p rc0) t ∧ chg (R.getD p rc0) t ≤ 10000000 := by
  have hb := rc0_bnd h p
  unfold chg
  split
  · exact mul_range (A := 10000) (B := 1000) (by omega) (by omega) (by omega) (by omega)
  · exact mul_range (A := 10000) (B := 1000) (by omega) (by omega) (by omega) (by omega)
theorem riseS_bnd {R : List Rch} (h : PlcOk R) {a b : Nat} (ha : a < R.length) (hb : b < R.length) {t : Int} (ht : -10000 ≤ t ∧ t ≤ 10000) : 0 ≤ riseS R a t b ∧ riseS R a t b ≤ 16000000 := by
  obtain ⟨p, hp, he⟩ := minN_ex (V := wayS R a t b) (R.length - 1)
  have hl := h.le
  have h1 := farS_bnd h.all (a := b) (b := p) (by omega) (by omega)
  have h2 := farS_bnd h.all (a := p) (b := a) (by omega) (by omega)
  have h3 := chg_bnd h.all p ht
  unfold riseS
  rw [he]
  unfold wayS; omega

/-! Looks -/
def lookE (n : Int) (x : Lk) : Int :=
  if ¬(1 ≤ x.k ∧ x.k ≤ 3) then 4 else if ¬(0 ≤ x.p ∧ x.p ≤ n - 1) then 7 else if ¬(0 ≤ x.h ∧ x.h ≤ 10000) ∨ ¬(0 ≤ x.lo ∧ x.lo ≤ 3000) ∨ ¬(0 ≤ x.hi ∧ x.hi ≤ 3000) then 2 else if x.hi < x.lo then 11 else 0
def LkOk (n : Int) (x : Lk) : Prop := (1 ≤ x.k ∧ x.k ≤ 3) ∧ (0 ≤ x.p ∧ x.p ≤ n - 1) ∧ (0 ≤ x.h ∧ x.h ≤ 10000) ∧ 0 ≤ x.lo ∧ x.lo ≤ x.hi ∧ x.hi ≤ 3000
theorem lookE_ok {n : Int} {x : Lk} : lookE n x = 0 ↔ LkOk n x := by
  unfold lookE LkOk
  constructor
  · intro h
    by_cases h1 : 1 ≤ x.k ∧ x.k ≤ 3 <;> by_cases h2 : 0 ≤ x.p ∧ x.p ≤ n - 1 <;> by_cases h3 : 0 ≤ x.h ∧ x.h ≤ 10000 <;> by_cases h4 : 0 ≤ x.lo ∧ x.lo ≤ 3000 <;> by_cases h5 : 0 ≤ x.hi ∧ x.hi ≤ 3000 <;> by_cases h6 : x.hi < x.lo <;> simp_all
  · rintro ⟨h1, h2, h3, h4, h5, h6⟩
    rw [if_neg (by simp [h1]), if_neg (by simp; omega), if_neg (by simp; omega), if_neg (by omega)]
/-- a look contradicts another one -/
def clash (R : List Rch) (x y : Lk) : Bool := decide (x.hi + riseS R y.p.toNat (y.h - x.h) x.p.toNat < y.lo)
def looksE (R : List Rch) (l : List Lk) : Int :=
  if 200 < l.length then 8 else orElse (firstE (lookE R.length) l) (if l.any (fun x => l.any (clash R x)) then 12 else 0)
structure LksOk (R : List Rch) (l : List Lk) : Prop where
  le : l.length ≤ 200
  all : ∀ x ∈ l, LkOk R.length x
  fit : ∀ x ∈ l, ∀ y ∈ l, y.lo ≤ x.hi + riseS R y.p.toNat (y.h - x.h) x.p.toNat
theorem looksE_ok {R : List Rch} {l : List Lk} : looksE R l = 0 ↔ LksOk R l := by
  unfold looksE
  constructor
  · intro h
    by_cases h1 : 200 < l.length
    · rw [if_pos h1] at h; omega
    rw [if_neg h1] at h
    unfold orElse at h
    by_cases h2 : firstE (lookE R.length) l = 0
    · rw [if_pos h2] at h
      by_cases h3 : l.any (fun x => l.any (clash R x)) = true
      · rw [if_pos h3] at h; omega
      · refine ⟨by omega, fun x hx => lookE_ok.1 (firstE_zero h2 x hx), fun x hx y hy => ?_⟩
        by_cases h4 : y.lo ≤ x.hi + riseS R y.p.toNat (y.h - x.h) x.p.toNat
        · exact h4
        · exact absurd (List.any_eq_true.2 ⟨x, hx, List.any_eq_true.2 ⟨y, hy, by unfold clash; rw [decide_eq_true_eq]; omega⟩⟩) h3
    · rw [if_neg h2] at h; exact absurd h h2
  · rintro ⟨h1, h2, h3⟩
    rw [if_neg (by omega), firstE_all fun x hx => lookE_ok.2 (h2 x hx)]
    unfold orElse
    rw [if_pos rfl, if_neg]
    intro h4
    obtain ⟨x, hx, h5⟩ := List.any_eq_true.1 h4
    obtain ⟨y, hy, h6⟩ := List.any_eq_true.1 h5
    have := h3 x hx y hy
    unfold clash at h6
    rw [decide_eq_true_eq] at h6
    omega
/-- the error of a survey and looks -/
def surE (rs : List Rch) (a b c : Int) (l : List Lk) : Int := orElse (checkV rs a b c) (looksE (plc rs) l)
/-- what is known of a place in an hour: by one look more -/
def knowG (R : List Rch) (p : Nat) (h : Int) (s : Int × Int) (x : Lk) : Int × Int :=
  (max s.1 (x.lo - riseS R x.p.toNat (x.h - h) p), min s.2 (x.hi + riseS R p (h - x.h) x.p.toNat))
def knowS (R : List Rch) (l : List Lk) (p : Nat) (h : Int) : Int × Int := l.foldl (knowG R p h) (0, 3000)
theorem foldl_take_succ {α β : Type} {f : β → α → β} {b : β} {l : List α} {j : Nat} {x : α} (h : l[j]? = some x) : (l.take (j + 1)).foldl f b = f ((l.take j).foldl f b) x := by
  obtain ⟨h1, rfl⟩ := List.getElem?_eq_some_iff.1 h
  rw [List.take_succ_eq_append_getElem h1, List.foldl_append]; rfl
theorem knowG_fold {R : List Rch} {p : Nat} {h : Int} : ∀ {l : List Lk} {s : Int × Int} {r : Int × Int}, l.foldl (knowG R p h) s = r →
    (s.1 ≤ r.1 ∧ r.2 ≤ s.2 ∧ (∀ x ∈ l, x.lo - riseS R x.p.toNat (x.h - h) p ≤ r.1 ∧ r.2 ≤ x.hi + riseS R p (h - x.h) x.p.toNat) ∧
      (r.1 = s.1 ∨ ∃ x ∈ l, r.1 = x.lo - riseS R x.p.toNat (x.h - h) p) ∧ (r.2 = s.2 ∨ ∃ x ∈ l, r.2 = x.hi + riseS R p (h - x.h) x.p.toNat))
  | [], s, r, hr => by subst hr; exact ⟨Int.le_refl _, Int.le_refl _, by simp, .inl rfl, .inl rfl⟩
  | x :: l, s, r, hr => by
    obtain ⟨h1, h2, h3, h4, h5⟩ := knowG_fold (l := l) (s := knowG R p h s x) (r := r) hr
    unfold knowG at h1 h2 h4 h5
    dsimp only at h1 h2 h4 h5
    refine ⟨by clear h3 h4 h5; omega, by clear h3 h4 h5; omega, ?_, ?_, ?_⟩
    · intro y hy
      rcases List.mem_cons.1 hy with rfl | hy
      · clear h3 h4 h5; omega
      · exact h3 y hy
    · clear h3 h5
      rcases h4 with h4 | ⟨y, hy, h4⟩
      · by_cases hq : x.lo - riseS R x.p.toNat (x.h - h) p ≤ s.1
        · exact .inl (by omega)
        · exact .inr ⟨x, by simp, by omega⟩
      · exact .inr ⟨y, by simp [hy], h4⟩
    · clear h3 h4
      rcases h5 with h5 | ⟨y, hy, h5⟩
      · by_cases hq : s.2 ≤ x.hi + riseS R p (h - x.h) x.p.toNat
        · exact .inl (by omega)
        · exact .inr ⟨x, by simp, by omega⟩
      · exact .inr ⟨y, by simp [hy], h5⟩
end Go.Sas
namespace Go.Sas
/-- the error of what Known is asked -/
def knownE (rs : List Rch) (a b c : Int) (l : List Lk) (p t : Int) : Int :=
  orElse (surE rs a b c l) (if ¬(0 ≤ p ∧ p ≤ sumLg rs - 1) then 7 else if ¬(0 ≤ t ∧ t ≤ 10000) then 2 else 0)
def knownR (rs : List Rch) (a b c : Int) (l : List Lk) (p t : Int) : (Int × Int) × Int :=
  if knownE rs a b c l p t = 0 then (knowS (plc rs) l p.toNat t, 0) else ((0, 0), knownE rs a b c l p t)
/-- the least of some places, from one on -/
def leastN (V : Nat → Int × Int) (f : Nat) : Nat → Int × Int
  | 0 => V f
  | k + 1 => (min (leastN V f k).1 (V (f + k + 1)).1, min (leastN V f k).2 (V (f + k + 1)).2)
def leastE (rs : List Rch) (a b c : Int) (l : List Lk) (f u t : Int) : Int :=
  orElse (surE rs a b c l) (if ¬(0 ≤ f ∧ f ≤ sumLg rs - 1) ∨ ¬(0 ≤ u ∧ u ≤ sumLg rs - 1) then 7 else if u < f then 11 else if ¬(0 ≤ t ∧ t ≤ 10000) then 2 else 0)
def leastR (rs : List Rch) (a b c : Int) (l : List Lk) (f u t : Int) : (Int × Int) × Int :=
  if leastE rs a b c l f u t = 0 then (leastN (fun p => knowS (plc rs) l p t) f.toNat (u - f).toNat, 0) else ((0, 0), leastE rs a b c l f u t)
theorem surE_ok {rs : List Rch} {a b c : Int} {l : List Lk} : surE rs a b c l = 0 ↔ RoadOk rs ∧ SgtOk a b c ∧ LksOk (plc rs) l := by
  unfold surE orElse
  constructor
  · intro h
    by_cases h1 : checkV rs a b c = 0
    · rw [if_pos h1] at h
      exact ⟨(checkV_ok.1 h1).1, (checkV_ok.1 h1).2, looksE_ok.1 h⟩
    · rw [if_neg h1] at h; exact absurd h h1
  · rintro ⟨h1, h2, h3⟩
    rw [if_pos (checkV_ok.2 ⟨h1, h2⟩), looksE_ok.2 h3]
theorem LksOk.all' {rs : List Rch} (hr : RoadOk rs) {l : List Lk} (h : LksOk (plc rs) l) : ∀ x ∈ l, LkOk (sumLg rs) x := fun x hx => by
  have := h.all x hx
  rw [← hr.len]; exact this
end Go.Sas
namespace Go.Sas
/-- the slopes of all places -/
def slL (R : List Rch) : List Int := (List.range R.length).map (slp R)
def costV (R : List Rch) (f t : Nat) (h : Int) (g : Rch → Int) (x : Nat) : Int := farS R f x + farS R x t + h * g (R.getD x rc0)
def costS (R : List Rch) (f t : Nat) (h : Int) (g : Rch → Int) : Int := minN (costV R f t h g) (R.length - 1)
theorem near {R : List Rch} (hR : ∀ r ∈ R, RchOk r) {f t a k p x : Nat} (hp1 : a ≤ p) (hp2 : p < a + k) (hx : x = min (max (min f t) a) (a + k - 1)) : farS R f x + farS R x t ≤ farS R f p + farS R p t := by
  have h1 := farS_tri R f p t
  by_cases c1 : min f t < a
  · have hx : x = a := by omega
    have m1 := slp_mono hR (a := x) (b := p) (by omega)
    by_cases c2 : f ≤ t
    · have m2 := slp_mono hR (a := f) (b := x) (by omega)
      unfold farS; omega
    · have m2 := slp_mono hR (a := t) (b := x) (by omega)
      unfold farS; omega
  · by_cases c2 : a + k ≤ min f t
    · have hx : x = a + k - 1 := by omega
      have m1 := slp_mono hR (a := p) (b := x) (by omega)
      have m2 := slp_mono hR (a := x) (b := f) (by omega)
      have m3 := slp_mono hR (a := x) (b := t) (by omega)
      unfold farS; omega
    · have hx : x = min f t := by omega
      have : farS R f x + farS R x t = farS R f t := by
        by_cases c3 : f ≤ t
        · rw [hx, show min f t = f by omega, farS_self]; omega
        · rw [hx, show min f t = t by omega, farS_self]; omega
      omega
theorem costV_bnd {R : List Rch} (hP : PlcOk R) {f t x : Nat} (hf : f < R.length) (ht : t < R.length) (hx : x < R.length) {h : Int} (hh : 0 ≤ h ∧ h ≤ 10000) {g : Rch → Int} (hg : ∀ r ∈ R, 0 ≤ g r ∧ g r ≤ 1000) : 0 ≤ costV R f t h g x ∧ costV R f t h g x ≤ 16000000 ∧ 0 ≤ h * g (R.getD x rc0) ∧ h * g (R.getD x rc0) ≤ 10000000 := by
  have hl := hP.le
  have h1 := farS_bnd hP.all (a := f) (b := x) (by omega) (by omega)
  have h2 := farS_bnd hP.all (a := x) (b := t) (by omega) (by omega)
  have h3 : 0 ≤ g (R.getD x rc0) ∧ g (R.getD x rc0) ≤ 1000 := by
    rw [List.getD_eq_getElem?_getD, List.getElem?_eq_getElem hx]; exact hg _ (List.getElem_mem hx)
  have h4 := mul_range (a := h) (b := g (R.getD x rc0)) (A := 10000) (B := 1000) hh.1 hh.2 h3.1 h3.2
  unfold costV; omega
theorem costS_below {R : List Rch} {f t : Nat} {h : Int} (hh : 0 ≤ h) : costS R f t h (·.th) = riseS R f (-h) t := by
  unfold costS riseS
  refine minN_congr fun p _ => ?_
  unfold costV wayS chg
  rw [farS_symm R f p, farS_symm R p t]
  by_cases h0 : h = 0
  · subst h0; simp; omega
  · rw [if_pos (by omega)]; simp only [Int.neg_neg]; omega
theorem costS_belowG {R : List Rch} {f t : Nat} {h : Int} (hh : 0 ≤ h) : costS R f t h (·.gr) = riseS R f h t := by
  unfold costS riseS
  refine minN_congr fun p _ => ?_
  unfold costV wayS chg
  rw [farS_symm R f p, farS_symm R p t, if_neg (by omega)]; dsimp only; omega
theorem costS_above {R : List Rch} {f t : Nat} {h : Int} (hh : 0 ≤ h) : costS R f t h (·.gr) = riseS R t h f := by
  unfold costS riseS
  refine minN_congr fun p _ => ?_
  unfold costV wayS chg
  rw [if_neg (by omega)]; dsimp only; omega
theorem costS_aboveT {R : List Rch} {f t : Nat} {h : Int} (hh : 0 < h) : costS R f t h (·.th) = riseS R t (-h) f := by
  unfold costS riseS
  refine minN_congr fun p _ => ?_
  unfold costV wayS chg
  rw [if_pos (by omega)]; simp only [Int.neg_neg]; omega
end Go.Sas
namespace Go.Sas
def sgtS (a b c k : Int) : Int := if k = 1 then a else if k = 2 then b else c
/-- a look sees a place, not too long ago -/
def seenS (a b c ev : Int) (p h : Int) (x : Lk) : Bool := decide (x.p - sgtS a b c x.k ≤ p ∧ p ≤ x.p + sgtS a b c x.k) && decide (h - ev ≤ x.h ∧ x.h ≤ h)
def staleS (R : List Rch) (a b c : Int) (l : List Lk) (h : Int) (p : Nat) : Bool := !l.any (seenS a b c (R.getD p rc0).ev p h)
def staleL (R : List Rch) (a b c : Int) (l : List Lk) (h : Int) : List Bool := (List.range R.length).map (staleS R a b c l h)
theorem sgtS_bnd {a b c k : Int} (h : SgtOk a b c) : 0 ≤ sgtS a b c k ∧ sgtS a b c k ≤ 50 := by
  have h1 := h.a
  have h2 := h.b
  have h3 := h.c
  unfold sgtS; split
  · exact h1
  · split
    · exact h2
    · exact h3
end Go.Sas
