/-
Frost, as plain functions: what is known of ice after a day encloses what it truly is.
Conditions: none.
-/
import Derived.Test.YtndnjmpebpampaaGreatDoorJ1
set_option linter.unusedVariables false
set_option linter.unusedSimpArgs false
namespace Go.Sas
/-! ### Roots -/
def rootN : Nat → Nat
  | 0 => 0
  | n + 1 => if (rootN n + 1) * (rootN n + 1) ≤ n + 1 then rootN n + 1 else rootN n
theorem rootN_ok : ∀ n, rootN n * rootN n ≤ n ∧ n < (rootN n + 1) * (rootN n + 1)
  | 0 => ⟨Nat.le_refl _, by decide⟩
  | n + 1 => by
    obtain ⟨h1, h2⟩ := rootN_ok n
    simp only [rootN]
    split
    · rename_i h
      refine ⟨h, ?_⟩
      have : (rootN n + 1) * (rootN n + 1) + 1 ≤ (rootN n + 1 + 1) * (rootN n + 1 + 1) := by
        rw [Nat.mul_add (rootN n + 1 + 1), Nat.add_mul (rootN n + 1)]; omega
      omega
    · omega
def rootS (n : Int) : Int := (rootN n.toNat : Int)
def roofS (n : Int) : Int := if rootS n * rootS n < n then rootS n + 1 else rootS n
theorem rootS_nn (n : Int) : 0 ≤ rootS n := by unfold rootS; omega
theorem rootS_sq {n : Int} (h : 0 ≤ n) : rootS n * rootS n ≤ n ∧ n < (rootS n + 1) * (rootS n + 1) := by
  obtain ⟨h1, h2⟩ := rootN_ok n.toNat
  unfold rootS
  have e1 : ((rootN n.toNat * rootN n.toNat : Nat) : Int) = (rootN n.toNat : Int) * rootN n.toNat := by simp
  have e2 : (((rootN n.toNat + 1) * (rootN n.toNat + 1) : Nat) : Int) = ((rootN n.toNat : Int) + 1) * ((rootN n.toNat : Int) + 1) := by simp
  rw [← e1, ← e2]
  omega
theorem rootS_neg {n : Int} (h : n ≤ 0) : rootS n = 0 := by unfold rootS; rw [show n.toNat = 0 by omega]; rfl
theorem sq_lt {a b : Int} (ha : 0 ≤ a) (h : a * a < b * b) (hb : 0 ≤ b) : a < b := by
  rcases Int.lt_or_le a b with h1 | h1
  · exact h1
  · have := Int.mul_le_mul h1 h1 hb ha; omega
theorem sq_le {a b : Int} (h : a ≤ b) (ha : 0 ≤ a) : a * a ≤ b * b := Int.mul_le_mul h h ha (by omega)
theorem le_root {r n : Int} (h0 : 0 ≤ r) (h : r * r ≤ n) : r ≤ rootS n := by
  have hn : 0 ≤ n := by have := Int.mul_nonneg h0 h0; omega
  have h1 := (rootS_sq hn).2
  have := sq_lt h0 (Int.lt_of_le_of_lt h h1) (by have := rootS_nn n; omega)
  omega
theorem root_uniq {r n : Int} (h0 : 0 ≤ r) (h1 : r * r ≤ n) (h2 : n < (r + 1) * (r + 1)) : rootS n = r := by
  have a := le_root h0 h1
  have hn : 0 ≤ n := by have := Int.mul_nonneg h0 h0; omega
  have b := sq_lt (rootS_nn n) (Int.lt_of_le_of_lt (rootS_sq hn).1 h2) (by omega)
  omega
/-! ### Laws, ice, days -/
structure FrL where
  g : Int
  lat : Int
  cov : List (Int × Int × Int)
  melt : Int × Int
  soak : Int
  white : Int × Int
structure IceK where
  b : Int × Int
  w : Int × Int
  t : Int × Int
  s : Int × Int
structure IceT where
  b : Int
  w : Int
  t : Int
  s : Int
structure DayK where
  cold : Int × Int
  fall : Int × Int
  water : Int
  clear : Bool
def dnS (n p : Int) : Int := n * p / 1000000
def upS (n p : Int) : Int := (n * p + 999999) / 1000000
def thrF (s : Int) (o x : Int × Int × Int) : Int × Int × Int := if x.1 ≤ s then x else o
def thrS (l : FrL) (s : Int) : Int × Int := (l.cov.foldl (thrF s) (l.cov.headD (0, 0, 0))).2
def covdS (l : FrL) (x : IceK) (d : DayK) : IceK :=
  let s1 : Int × Int := if d.clear then (0, 0) else x.s
  let s2 : Int × Int := (s1.1 + d.fall.1, s1.2 + d.fall.2)
  if 0 < d.water then ⟨x.b, x.w, (x.t.1 + d.water + dnS s2.1 l.soak, x.t.2 + d.water + dnS s2.2 l.soak), (0, 0)⟩ else ⟨x.b, x.w, x.t, s2⟩
def sqS (l : FrL) (b w t c : Int) : Int := (b + (w + t)) * (b + (w + t)) + l.g * (c - t * l.lat)
def frozS (l : FrL) (x : IceK) (c : Int × Int) : IceK :=
  let lo := dnS c.1 (thrS l x.s.2).1
  let hi := upS c.2 (thrS l x.s.1).2
  let few := lo / l.lat
  let many := hi / l.lat
  ⟨(if x.t.2 ≤ few then rootS (sqS l x.b.1 x.w.2 x.t.2 lo) - (x.w.2 + x.t.2) else x.b.1, if x.t.1 ≤ many then roofS (sqS l x.b.2 x.w.1 x.t.1 hi) - (x.w.1 + x.t.1) else x.b.2),
    (x.w.1 + min x.t.1 few, x.w.2 + min x.t.2 many), (max 0 (x.t.1 - many), max 0 (x.t.2 - few)), x.s⟩
def mltS (x : IceK) (lo hi : Int) : IceK :=
  let lo1 := max 0 (lo - x.s.2)
  let hi1 := max 0 (hi - x.s.1)
  let lo2 := max 0 (lo1 - x.w.2)
  let hi2 := max 0 (hi1 - x.w.1)
  ⟨(max 0 (x.b.1 - hi2), max 0 (x.b.2 - lo2)), (max 0 (x.w.1 - hi1), max 0 (x.w.2 - lo1)), x.t, (max 0 (x.s.1 - hi), max 0 (x.s.2 - lo))⟩
def meltS (l : FrL) (x : IceK) (c : Int × Int) : IceK := mltS x (dnS (-c.2) l.melt.1) (upS (-c.1) l.melt.2)
def hulS (a b : Int × Int) : Int × Int := (min a.1 b.1, max a.2 b.2)
def joinK (a b : IceK) : IceK := ⟨hulS a.b b.b, hulS a.w b.w, hulS a.t b.t, hulS a.s b.s⟩
def afterS (l : FrL) (x : IceK) (d : DayK) : IceK :=
  let y := covdS l x d
  if 0 ≤ d.cold.1 then frozS l y d.cold else if d.cold.2 < 0 then meltS l y d.cold else joinK (frozS l y (0, d.cold.2)) (meltS l y (d.cold.1, -1))
/-! true ice -/
def inS (x : Int × Int) (n : Int) : Prop := x.1 ≤ n ∧ n ≤ x.2
structure InIce (x : IceK) (t : IceT) : Prop where
  ib : inS x.b t.b
  iw : inS x.w t.w
  it : inS x.t t.t
  is : inS x.s t.s
structure FrV (l : FrL) : Prop where
  g0 : 0 ≤ l.g
  g1 : l.g ≤ 10000
  l0 : 1 ≤ l.lat
  l1 : l.lat ≤ 1000
  cne : l.cov ≠ []
  clen : l.cov.length ≤ 12
  chd : (l.cov.headD (0, 0, 0)).1 = 0
  csrt : l.cov.Pairwise fun x y => x.1 < y.1 ∧ y.2.1 ≤ x.2.1 ∧ y.2.2 ≤ x.2.2
  cb : ∀ x ∈ l.cov, 0 ≤ x.1 ∧ x.1 ≤ 5000 ∧ 0 ≤ x.2.1 ∧ x.2.1 ≤ x.2.2 ∧ x.2.2 ≤ 1000000
  m0 : 0 ≤ l.melt.1
  m1 : l.melt.1 ≤ l.melt.2
  m2 : l.melt.2 ≤ 10000000
  s0 : 0 ≤ l.soak
  s1 : l.soak ≤ 1000000
  w0 : 0 ≤ l.white.1
  w1 : l.white.1 ≤ l.white.2
  w2 : l.white.2 ≤ 1000000
structure DayV (d : DayK) : Prop where
  c0 : -1000 ≤ d.cold.1
  c1 : d.cold.1 ≤ d.cold.2
  c2 : d.cold.2 ≤ 1000
  f0 : 0 ≤ d.fall.1
  f1 : d.fall.1 ≤ d.fall.2
  f2 : d.fall.2 ≤ 1000
  w0 : 0 ≤ d.water
  w1 : d.water ≤ 200
/-- spans of numbers that are not below 0, together at most k -/
structure IceB (k : Int) (x : IceK) : Prop where
  b0 : 0 ≤ x.b.1
  b1 : x.b.1 ≤ x.b.2
  w0 : 0 ≤ x.w.1
  w1 : x.w.1 ≤ x.w.2
  t0 : 0 ≤ x.t.1
  t1 : x.t.1 ≤ x.t.2
  s0 : 0 ≤ x.s.1
  s1 : x.s.1 ≤ x.s.2
  k : x.b.2 + x.w.2 + x.t.2 + x.s.2 ≤ k
/-! ### Lemmas -/
theorem dn_mono {a b p q : Int} (h0 : 0 ≤ a) (h1 : a ≤ b) (h2 : 0 ≤ p) (h3 : p ≤ q) : dnS a p ≤ dnS b q := by
  have := Int.mul_le_mul h1 h3 h2 (by omega); unfold dnS; omega
theorem dn_nn {a p : Int} (h0 : 0 ≤ a) (h2 : 0 ≤ p) : 0 ≤ dnS a p := by
  have := Int.mul_nonneg h0 h2; unfold dnS; omega
theorem up_nn {a p : Int} (h0 : 0 ≤ a) (h2 : 0 ≤ p) : 0 ≤ upS a p := by
  have := Int.mul_nonneg h0 h2; unfold upS; omega
theorem dn_le {a p : Int} (h0 : 0 ≤ a) (h2 : p ≤ 1000000) : dnS a p ≤ a := by
  have := Int.mul_le_mul_of_nonneg_left h2 h0; unfold dnS; omega
theorem up_le {a p : Int} (h0 : 0 ≤ a) (h2 : p ≤ 1000000) : upS a p ≤ a := by
  have := Int.mul_le_mul_of_nonneg_left h2 h0; unfold upS; omega
theorem thr_mem {n : Int} : ∀ {l : List (Int × Int × Int)} {o : Int × Int × Int}, l.foldl (thrF n) o = o ∨ l.foldl (thrF n) o ∈ l
  | [], o => .inl rfl
  | x :: l, o => by
    simp only [List.foldl_cons]
    rcases thr_mem (n := n) (l := l) (o := thrF n o x) with h | h
    · rw [h]; unfold thrF; split
      · exact .inr (by simp)
      · exact .inl rfl
    · exact .inr (by simp [h])
theorem thr_mono {n n' : Int} (hn : n ≤ n') : ∀ {l : List (Int × Int × Int)} {o o' : Int × Int × Int}, (l.Pairwise fun x y => x.1 < y.1 ∧ y.2.1 ≤ x.2.1 ∧ y.2.2 ≤ x.2.2) → (o'.2.1 ≤ o.2.1 ∧ o'.2.2 ≤ o.2.2) → (∀ x ∈ l, x.2.1 ≤ o.2.1 ∧ x.2.2 ≤ o.2.2) →
    (l.foldl (thrF n') o').2.1 ≤ (l.foldl (thrF n) o).2.1 ∧ (l.foldl (thrF n') o').2.2 ≤ (l.foldl (thrF n) o).2.2
  | [], o, o', _, h, _ => h
  | x :: l, o, o', hp, h, hx => by
    obtain ⟨hp1, hp2⟩ := List.pairwise_cons.1 hp
    simp only [List.foldl_cons]
    unfold thrF
    split
    · split
      · exact thr_mono hn hp2 ⟨Int.le_refl _, Int.le_refl _⟩ fun y hy => ⟨(hp1 y hy).2.1, (hp1 y hy).2.2⟩
      · exact thr_mono hn hp2 (hx x (by simp)) fun y hy => hx y (by simp [hy])
    · rw [if_neg (by omega)]
      exact thr_mono hn hp2 h fun y hy => hx y (by simp [hy])
theorem FrV.hd {l : FrL} (h : FrV l) : l.cov.headD (0, 0, 0) ∈ l.cov := by
  have := h.cne
  cases hc : l.cov with
  | nil => exact absurd hc this
  | cons x r => simp
theorem FrV.thr {l : FrL} (h : FrV l) (s : Int) : 0 ≤ (thrS l s).1 ∧ (thrS l s).1 ≤ (thrS l s).2 ∧ (thrS l s).2 ≤ 1000000 := by
  unfold thrS
  rcases thr_mem (n := s) (l := l.cov) (o := l.cov.headD (0, 0, 0)) with h1 | h1
  · rw [h1]; have := h.cb _ h.hd; omega
  · have := h.cb _ h1; omega
theorem FrV.mono {l : FrL} (h : FrV l) {n n' : Int} (hn : n ≤ n') : (thrS l n').1 ≤ (thrS l n).1 ∧ (thrS l n').2 ≤ (thrS l n).2 := by
  unfold thrS
  refine thr_mono hn h.csrt ⟨Int.le_refl _, Int.le_refl _⟩ fun x hx => ?_
  have hs := h.csrt
  cases hc : l.cov with
  | nil => rw [hc] at hx; cases hx
  | cons y r =>
    rw [hc] at hx hs
    rw [List.headD_cons]
    rcases List.mem_cons.1 hx with rfl | hx
    · exact ⟨Int.le_refl _, Int.le_refl _⟩
    · have := (List.pairwise_cons.1 hs).1 x hx; exact ⟨this.2.1, this.2.2⟩
/-- the sum of a day's snow and water is at most twice what it was, and 1,200 more -/
theorem covd_b {l : FrL} (hl : FrV l) {k : Int} {x : IceK} (hx : IceB k x) {d : DayK} (hd : DayV d) : IceB (k + 1200) (covdS l x d) := by
  obtain ⟨b0, b1, w0, w1, t0, t1, s0, s1, hk⟩ := hx
  have := hd.f0
  have := hd.f1
  have := hd.f2
  have := hd.w0
  have := hd.w1
  have := hl.s0
  have := hl.s1
  unfold covdS
  cases hc : d.clear <;> simp only [Bool.false_eq_true, if_false, if_true]
  · have e1 := dn_nn (a := x.s.1 + d.fall.1) (p := l.soak) (by omega) (by omega)
    have e2 := dn_mono (a := x.s.1 + d.fall.1) (b := x.s.2 + d.fall.2) (p := l.soak) (q := l.soak) (by omega) (by omega) (by omega) (by omega)
    have e3 := dn_le (a := x.s.2 + d.fall.2) (p := l.soak) (by omega) (by omega)
    split <;> refine ⟨?_, ?_, ?_, ?_, ?_, ?_, ?_, ?_, ?_⟩ <;> simp only <;> omega
  · have e1 := dn_nn (a := 0 + d.fall.1) (p := l.soak) (by omega) (by omega)
    have e2 := dn_mono (a := 0 + d.fall.1) (b := 0 + d.fall.2) (p := l.soak) (q := l.soak) (by omega) (by omega) (by omega) (by omega)
    have e3 := dn_le (a := 0 + d.fall.2) (p := l.soak) (by omega) (by omega)
    split <;> refine ⟨?_, ?_, ?_, ?_, ?_, ?_, ?_, ?_, ?_⟩ <;> simp only <;> omega
/-- what is left of cold when water has frozen -/
theorem mul_div {t c q : Int} (hq : 1 ≤ q) (h : t ≤ c / q) : t * q ≤ c := by
  have h1 : t * q ≤ c / q * q := Int.mul_le_mul_of_nonneg_right h (by omega)
  have h2 := Int.ediv_mul_le c (show q ≠ 0 by omega)
  omega
/-! ### Days -/
structure DayF (x y : IceK) : Prop where
  b0 : 0 ≤ y.b.1
  b1 : y.b.1 ≤ y.b.2
  b2 : y.b.2 ≤ x.b.2 + 3163
  w0 : 0 ≤ y.w.1
  w1 : y.w.1 ≤ y.w.2
  w2 : y.w.2 ≤ x.w.2 + x.t.2
  t0 : 0 ≤ y.t.1
  t1 : y.t.1 ≤ y.t.2
  t2 : y.t.2 ≤ x.t.2
  s0 : 0 ≤ y.s.1
  s1 : y.s.1 ≤ y.s.2
  s2 : y.s.2 ≤ x.s.2
theorem DayF.b {k : Int} {x y : IceK} (h : DayF x y) (hx : IceB k x) : IceB (2 * k + 3163) y := by
  have := hx.k
  have := hx.b0
  have := hx.b1
  have := hx.w0
  have := hx.w1
  have := hx.t0
  have := hx.t1
  have := hx.s0
  have := hx.s1
  exact ⟨h.b0, h.b1, h.w0, h.w1, h.t0, h.t1, h.s0, h.s1, by have := h.b2; have := h.w2; have := h.t2; have := h.s2; omega⟩
end Go.Sas
