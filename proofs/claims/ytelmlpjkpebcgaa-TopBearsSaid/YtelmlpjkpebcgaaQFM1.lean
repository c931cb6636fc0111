/-
Frost, as plain functions: what is known of ice after a day encloses what it truly is.
Conditions: none.
-/
import Derived.Test.YtelmlpjkpebcgaaJ1
set_option linter.unusedVariables false
set_option linter.unusedSimpArgs false
namespace Go.Sas
/-! ### Roots -/
def rootN : Nat → Nat
  | 0 => 0
  | n + 1 => if (rootN n + 1) * (rootN n + 1) ≤ n + 1 then rootN n + 1 else rootN n
theorem rootN_ok : ∀ n, rootN n * rootN n ≤ n ∧ n < (rootN n + 1) * (rootN n + 1)
  | 0 => ⟨Nat.le_refl _, by decide⟩
  | n + 1 => by
    obtain ⟨h1, h2⟩ := rootN_ok n
    simp only [rootN]
    split
    · rename_i h
      refine ⟨h, ?_⟩
      have : (rootN n + 1) * (rootN n + 1) + 1 ≤ (rootN n + 1 + 1) * (rootN n + 1 + 1) := by
        rw [Nat.mul_add (rootN n + 1 + 1), Nat.add_mul (rootN n + 1)]; omega
      omega
    · omega
def rootS (n : Int) : Int := (rootN n.toNat : Int)
def roofS (n : Int) : Int := if rootS n * rootS n < n then rootS n + 1 else rootS n
theorem rootS_nn (n : Int) : 0 ≤ rootS n := by unfold rootS; omega
theorem rootS_sq {n : Int} (h : 0 ≤ n) : rootS n * rootS n ≤ n ∧ n < (rootS n + 1) * (rootS n + 1) := by
  obtain ⟨h1, h2⟩ := rootN_ok n.toNat
  unfold rootS
  have e1 : ((rootN n.toNat * rootN n.toNat : Nat) : Int) = (rootN n.toNat : Int) * rootN n.toNat := by simp
  have e2 : (((rootN n.toNat + 1) * (rootN n.toNat + 1) : Nat) : Int) = ((rootN n.toNat : Int) + 1) * ((rootN n.toNat : Int) + 1) := by simp
  rw [← e1, ← e2]
  omega
theorem rootS_neg {n : Int} (h : n ≤ 0) : rootS n = 0 := by unfold rootS; rw [show n.toNat = 0 by omega]; rfl
theorem sq_lt {a b : Int} (ha : 0 ≤ a) (h : a * a < b * b) (hb : 0 ≤ b) : a < b := by
  rcases Int.lt_or_le a b with h1 | h1
  · exact h1
  · have := Int.mul_le_mul h1 h1 hb ha; omega
theorem sq_le {a b : Int} (h : a ≤ b) (ha : 0 ≤ a) : a * a ≤ b * b := Int.mul_le_mul h h ha (by omega)
theorem le_root {r n : Int} (h0 : 0 ≤ r) (h : r * r ≤ n) : r ≤ rootS n := by
  have hn : 0 ≤ n := by have := Int.mul_nonneg h0 h0; omega
  have h1 := (rootS_sq hn).2
  have := sq_lt h0 (Int.lt_of_le_of_lt h h1) (by have := rootS_nn n; omega)
  omega
theorem root_uniq {r n : Int} (h0 : 0 ≤ r) (h1 : r * r ≤ n) (h2 : n < (r + 1) * (r + 1)) : rootS n = r := by
  have a := le_root h0 h1
  have hn : 0 ≤ n := by have := Int.mul_nonneg h0 h0; omega
  have b := sq_lt (rootS_nn n) (Int.lt_of_le_of_lt (rootS_sq hn).1 h2) (by omega)
  omega
theorem roof_sq {n : Int} (h : 0 ≤ n) : n ≤ roofS n * roofS n := by
  have := rootS_sq h
  unfold roofS
  split <;> omega
theorem root_le_roof (n : Int) : rootS n ≤ roofS n := by unfold roofS; split <;> omega
theorem roof_le {R n : Int} (h0 : 0 ≤ R) (h : n ≤ R * R) : roofS n ≤ R := by
  unfold roofS
  rcases Int.lt_or_le n 0 with hn | hn
  · rw [rootS_neg (by omega)]; split <;> omega
  · have h1 := rootS_sq hn
    split
    · rename_i h2
      have := sq_lt (rootS_nn n) (Int.lt_of_lt_of_le h2 h) h0
      omega
    · rename_i h2
      rcases Int.lt_or_le R (rootS n) with h3 | h3
      · have h4 := sq_le (a := R + 1) (b := rootS n) (by omega) (by omega)
        have e : (R + 1) * (R + 1) = R * R + 2 * R + 1 := by rw [Int.add_mul, Int.mul_add]; omega
        omega
      · exact h3
theorem le_roof {r n : Int} (h0 : 0 ≤ r) (h : r * r ≤ n) : r ≤ roofS n := Int.le_trans (le_root h0 h) (root_le_roof n)
theorem sub_sq (r d : Int) : (r - d) * (r - d) = r * r - 2 * (r * d) + d * d := by
  rw [Int.sub_mul, Int.mul_sub, Int.mul_sub, Int.mul_comm d r]; omega
theorem add_sq (r d : Int) : (r + d) * (r + d) = r * r + 2 * (r * d) + d * d := by
  rw [Int.add_mul, Int.mul_add, Int.mul_add, Int.mul_comm d r]; omega
/-- below more ice there is less growth -/
theorem grow_lo {x b a A E e : Int} (h0 : 0 ≤ x) (h1 : x ≤ b) (h2 : 0 ≤ a) (h3 : a ≤ A) (h4 : 0 ≤ E) (h5 : E ≤ e) :
    rootS ((x + A) * (x + A) + E) - A ≤ rootS ((b + a) * (b + a) + e) - a := by
  obtain ⟨r, hr⟩ : ∃ r, r = rootS ((x + A) * (x + A) + E) := ⟨_, rfl⟩
  rw [← hr]
  have hnn : 0 ≤ (x + A) * (x + A) := Int.mul_nonneg (by omega) (by omega)
  have g1 : x + A ≤ r := by rw [hr]; exact le_root (by omega) (by omega)
  have g2 : r * r ≤ (x + A) * (x + A) + E := by rw [hr]; exact (rootS_sq (by omega)).1
  obtain ⟨d, hd⟩ : ∃ d, d = A - a := ⟨_, rfl⟩
  have g3 : r - d ≤ rootS ((b + a) * (b + a) + e) := by
    refine le_root (by omega) ?_
    have k1 : (x + A) * d ≤ r * d := Int.mul_le_mul_of_nonneg_right g1 (by omega)
    have k2 := sq_le (a := x + a) (b := b + a) (by omega) (by omega)
    have k3 : (x + a) * (x + a) = (x + A) * (x + A) - 2 * ((x + A) * d) + d * d := by rw [← sub_sq, hd]; congr 1 <;> omega
    rw [sub_sq]
    omega
  omega
theorem grow_hi {x b a A E e : Int} (h0 : 0 ≤ b) (h1 : b ≤ x) (h2 : 0 ≤ A) (h3 : A ≤ a) (h4 : e ≤ E) (h5 : 0 ≤ E) :
    roofS ((b + a) * (b + a) + e) - a ≤ roofS ((x + A) * (x + A) + E) - A := by
  obtain ⟨r, hr⟩ : ∃ r, r = roofS ((x + A) * (x + A) + E) := ⟨_, rfl⟩
  rw [← hr]
  have hnn : 0 ≤ (x + A) * (x + A) := Int.mul_nonneg (by omega) (by omega)
  have g1 : x + A ≤ r := by rw [hr]; exact le_roof (by omega) (by omega)
  have g2 : (x + A) * (x + A) + E ≤ r * r := by rw [hr]; exact roof_sq (by omega)
  obtain ⟨d, hd⟩ : ∃ d, d = a - A := ⟨_, rfl⟩
  have g3 : roofS ((b + a) * (b + a) + e) ≤ r + d := by
    refine roof_le (by omega) ?_
    have k1 : (x + A) * d ≤ r * d := Int.mul_le_mul_of_nonneg_right g1 (by omega)
    have k2 := sq_le (a := b + a) (b := x + a) (by omega) (by omega)
    have k3 : (x + a) * (x + a) = (x + A) * (x + A) + 2 * ((x + A) * d) + d * d := by rw [← add_sq, hd]; congr 1 <;> omega
    have k4 := add_sq r d
    omega
  omega
/-! ### Laws, ice, days -/
structure FrL where
  g : Int
  lat : Int
  cov : List (Int × Int × Int)
  melt : Int × Int
  soak : Int
  white : Int × Int
structure IceK where
  b : Int × Int
  w : Int × Int
  t : Int × Int
  s : Int × Int
structure IceT where
  b : Int
  w : Int
  t : Int
  s : Int
structure DayK where
  cold : Int × Int
  fall : Int × Int
  water : Int
  clear : Bool
def dnS (n p : Int) : Int := n * p / 1000000
def upS (n p : Int) : Int := (n * p + 999999) / 1000000
def thrF (s : Int) (o x : Int × Int × Int) : Int × Int × Int := if x.1 ≤ s then x else o
def thrS (l : FrL) (s : Int) : Int × Int := (l.cov.foldl (thrF s) (l.cov.headD (0, 0, 0))).2
def covdS (l : FrL) (x : IceK) (d : DayK) : IceK :=
  let s1 : Int × Int := if d.clear then (0, 0) else x.s
  let s2 : Int × Int := (s1.1 + d.fall.1, s1.2 + d.fall.2)
  if 0 < d.water then ⟨x.b, x.w, (x.t.1 + d.water + dnS s2.1 l.soak, x.t.2 + d.water + dnS s2.2 l.soak), (0, 0)⟩ else ⟨x.b, x.w, x.t, s2⟩
def sqS (l : FrL) (b w t c : Int) : Int := (b + (w + t)) * (b + (w + t)) + l.g * (c - t * l.lat)
def frozS (l : FrL) (x : IceK) (c : Int × Int) : IceK :=
  let lo := dnS c.1 (thrS l x.s.2).1
  let hi := upS c.2 (thrS l x.s.1).2
  let few := lo / l.lat
  let many := hi / l.lat
  ⟨(if x.t.2 ≤ few then rootS (sqS l x.b.1 x.w.2 x.t.2 lo) - (x.w.2 + x.t.2) else x.b.1, if x.t.1 ≤ many then roofS (sqS l x.b.2 x.w.1 x.t.1 hi) - (x.w.1 + x.t.1) else x.b.2),
    (x.w.1 + min x.t.1 few, x.w.2 + min x.t.2 many), (max 0 (x.t.1 - many), max 0 (x.t.2 - few)), x.s⟩
def mltS (x : IceK) (lo hi : Int) : IceK :=
  let lo1 := max 0 (lo - x.s.2)
  let hi1 := max 0 (hi - x.s.1)
  let lo2 := max 0 (lo1 - x.w.2)
  let hi2 := max 0 (hi1 - x.w.1)
  ⟨(max 0 (x.b.1 - hi2), max 0 (x.b.2 - lo2)), (max 0 (x.w.1 - hi1), max 0 (x.w.2 - lo1)), x.t, (max 0 (x.s.1 - hi), max 0 (x.s.2 - lo))⟩
def meltS (l : FrL) (x : IceK) (c : Int × Int) : IceK := mltS x (dnS (-c.2) l.melt.1) (upS (-c.1) l.melt.2)
def hulS (a b : Int × Int) : Int × Int := (min a.1 b.1, max a.2 b.2)
def joinK (a b : IceK) : IceK := ⟨hulS a.b b.b, hulS a.w b.w, hulS a.t b.t, hulS a.s b.s⟩
def afterS (l : FrL) (x : IceK) (d : DayK) : IceK :=
  let y := covdS l x d
  if 0 ≤ d.cold.1 then frozS l y d.cold else if d.cold.2 < 0 then meltS l y d.cold else joinK (frozS l y (0, d.cold.2)) (meltS l y (d.cold.1, -1))
/-! true ice -/
def openT (l : FrL) (t : IceT) (d : DayK) (fall : Int) : IceT :=
  let s1 : Int := if d.clear then 0 else t.s
  let s2 := s1 + fall
  if 0 < d.water then ⟨t.b, t.w, t.t + d.water + dnS s2 l.soak, 0⟩ else ⟨t.b, t.w, t.t, s2⟩
def frozT (l : FrL) (t : IceT) (k : Int) (up : Bool) : IceT :=
  let z := min t.t (k / l.lat)
  if 0 < t.t - z then ⟨t.b, t.w + z, t.t - z, t.s⟩ else
    let q := (t.b + (t.w + z)) * (t.b + (t.w + z)) + l.g * (k - z * l.lat)
    ⟨(if up then roofS q else rootS q) - (t.w + z), t.w + z, t.t - z, t.s⟩
def meltT (t : IceT) (m : Int) : IceT :=
  let n := min t.s m
  let m1 := m - n
  let n1 := min t.w m1
  let m2 := m1 - n1
  ⟨t.b - min t.b m2, t.w - n1, t.t, t.s - n⟩
def inS (x : Int × Int) (n : Int) : Prop := x.1 ≤ n ∧ n ≤ x.2
structure InIce (x : IceK) (t : IceT) : Prop where
  ib : inS x.b t.b
  iw : inS x.w t.w
  it : inS x.t t.t
  is : inS x.s t.s
structure FrV (l : FrL) : Prop where
  g0 : 0 ≤ l.g
  g1 : l.g ≤ 10000
  l0 : 1 ≤ l.lat
  l1 : l.lat ≤ 1000
  cne : l.cov ≠ []
  clen : l.cov.length ≤ 12
  chd : (l.cov.headD (0, 0, 0)).1 = 0
  csrt : l.cov.Pairwise fun x y => x.1 < y.1 ∧ y.2.1 ≤ x.2.1 ∧ y.2.2 ≤ x.2.2
  cb : ∀ x ∈ l.cov, 0 ≤ x.1 ∧ x.1 ≤ 5000 ∧ 0 ≤ x.2.1 ∧ x.2.1 ≤ x.2.2 ∧ x.2.2 ≤ 1000000
  m0 : 0 ≤ l.melt.1
  m1 : l.melt.1 ≤ l.melt.2
  m2 : l.melt.2 ≤ 10000000
  s0 : 0 ≤ l.soak
  s1 : l.soak ≤ 1000000
  w0 : 0 ≤ l.white.1
  w1 : l.white.1 ≤ l.white.2
  w2 : l.white.2 ≤ 1000000
structure DayV (d : DayK) : Prop where
  c0 : -1000 ≤ d.cold.1
  c1 : d.cold.1 ≤ d.cold.2
  c2 : d.cold.2 ≤ 1000
  f0 : 0 ≤ d.fall.1
  f1 : d.fall.1 ≤ d.fall.2
  f2 : d.fall.2 ≤ 1000
  w0 : 0 ≤ d.water
  w1 : d.water ≤ 200
/-- spans of numbers that are not below 0, together at most k -/
structure IceB (k : Int) (x : IceK) : Prop where
  b0 : 0 ≤ x.b.1
  b1 : x.b.1 ≤ x.b.2
  w0 : 0 ≤ x.w.1
  w1 : x.w.1 ≤ x.w.2
  t0 : 0 ≤ x.t.1
  t1 : x.t.1 ≤ x.t.2
  s0 : 0 ≤ x.s.1
  s1 : x.s.1 ≤ x.s.2
  k : x.b.2 + x.w.2 + x.t.2 + x.s.2 ≤ k
/-- what a true day may make of true ice -/
def AftT (l : FrL) (t : IceT) (d : DayK) (r : IceT) : Prop := ∃ c f, inS d.cold c ∧ inS d.fall f ∧
  ((c < 0 ∧ ∃ m, inS (dnS (-c) l.melt.1, upS (-c) l.melt.2) m ∧ r = meltT (openT l t d f) m) ∨
    (0 ≤ c ∧ ∃ k u, inS (dnS c (thrS l (openT l t d f).s).1, upS c (thrS l (openT l t d f).s).2) k ∧ r = frozT l (openT l t d f) k u))
/-! ### Lemmas -/
theorem dn_mono {a b p q : Int} (h0 : 0 ≤ a) (h1 : a ≤ b) (h2 : 0 ≤ p) (h3 : p ≤ q) : dnS a p ≤ dnS b q := by
  have := Int.mul_le_mul h1 h3 h2 (by omega); unfold dnS; omega
theorem up_mono {a b p q : Int} (h0 : 0 ≤ a) (h1 : a ≤ b) (h2 : 0 ≤ p) (h3 : p ≤ q) : upS a p ≤ upS b q := by
  have := Int.mul_le_mul h1 h3 h2 (by omega); unfold upS; omega
theorem dn_nn {a p : Int} (h0 : 0 ≤ a) (h2 : 0 ≤ p) : 0 ≤ dnS a p := by
  have := Int.mul_nonneg h0 h2; unfold dnS; omega
theorem up_nn {a p : Int} (h0 : 0 ≤ a) (h2 : 0 ≤ p) : 0 ≤ upS a p := by
  have := Int.mul_nonneg h0 h2; unfold upS; omega
theorem dn_le_up (a p : Int) : dnS a p ≤ upS a p := by unfold dnS upS; omega
theorem dn_le {a p : Int} (h0 : 0 ≤ a) (h2 : p ≤ 1000000) : dnS a p ≤ a := by
  have := Int.mul_le_mul_of_nonneg_left h2 h0; unfold dnS; omega
theorem up_le {a p : Int} (h0 : 0 ≤ a) (h2 : p ≤ 1000000) : upS a p ≤ a := by
  have := Int.mul_le_mul_of_nonneg_left h2 h0; unfold upS; omega
theorem thr_mem {n : Int} : ∀ {l : List (Int × Int × Int)} {o : Int × Int × Int}, l.foldl (thrF n) o = o ∨ l.foldl (thrF n) o ∈ l
  | [], o => .inl rfl
  | x :: l, o => by
    simp only [List.foldl_cons]
    rcases thr_mem (n := n) (l := l) (o := thrF n o x) with h | h
    · rw [h]; unfold thrF; split
      · exact .inr (by simp)
      · exact .inl rfl
    · exact .inr (by simp [h])
theorem thr_mono {n n' : Int} (hn : n ≤ n') : ∀ {l : List (Int × Int × Int)} {o o' : Int × Int × Int}, (l.Pairwise fun x y => x.1 < y.1 ∧ y.2.1 ≤ x.2.1 ∧ y.2.2 ≤ x.2.2) → (o'.2.1 ≤ o.2.1 ∧ o'.2.2 ≤ o.2.2) → (∀ x ∈ l, x.2.1 ≤ o.2.1 ∧ x.2.2 ≤ o.2.2) →
    (l.foldl (thrF n') o').2.1 ≤ (l.foldl (thrF n) o).2.1 ∧ (l.foldl (thrF n') o').2.2 ≤ (l.foldl (thrF n) o).2.2
  | [], o, o', _, h, _ => h
  | x :: l, o, o', hp, h, hx => by
    obtain ⟨hp1, hp2⟩ := List.pairwise_cons.1 hp
    simp only [List.foldl_cons]
    unfold thrF
    split
    · split
      · exact thr_mono hn hp2 ⟨Int.le_refl _, Int.le_refl _⟩ fun y hy => ⟨(hp1 y hy).2.1, (hp1 y hy).2.2⟩
      · exact thr_mono hn hp2 (hx x (by simp)) fun y hy => hx y (by simp [hy])
    · rw [if_neg (by omega)]
      exact thr_mono hn hp2 h fun y hy => hx y (by simp [hy])
theorem FrV.hd {l : FrL} (h : FrV l) : l.cov.headD (0, 0, 0) ∈ l.cov := by
  have := h.cne
  cases hc : l.cov with
  | nil => exact absurd hc this
  | cons x r => simp
theorem FrV.thr {l : FrL} (h : FrV l) (s : Int) : 0 ≤ (thrS l s).1 ∧ (thrS l s).1 ≤ (thrS l s).2 ∧ (thrS l s).2 ≤ 1000000 := by
  unfold thrS
  rcases thr_mem (n := s) (l := l.cov) (o := l.cov.headD (0, 0, 0)) with h1 | h1
  · rw [h1]; have := h.cb _ h.hd; omega
  · have := h.cb _ h1; omega
theorem FrV.mono {l : FrL} (h : FrV l) {n n' : Int} (hn : n ≤ n') : (thrS l n').1 ≤ (thrS l n).1 ∧ (thrS l n').2 ≤ (thrS l n).2 := by
  unfold thrS
  refine thr_mono hn h.csrt ⟨Int.le_refl _, Int.le_refl _⟩ fun x hx => ?_
  have hs := h.csrt
  cases hc : l.cov with
  | nil => rw [hc] at hx; cases hx
  | cons y r =>
    rw [hc] at hx hs
    rw [List.headD_cons]
    rcases List.mem_cons.1 hx with rfl | hx
    · exact ⟨Int.le_refl _, Int.le_refl _⟩
    · have := (List.pairwise_cons.1 hs).1 x hx; exact ⟨this.2.1, this.2.2⟩
theorem covd_in {l : FrL} (hl : FrV l) {k : Int} {x : IceK} (hx : IceB k x) {d : DayK} (hd : DayV d) {t : IceT} (ht : InIce x t) {f : Int} (hf : inS d.fall f) : InIce (covdS l x d) (openT l t d f) := by
  obtain ⟨⟨b1, b2⟩, ⟨w1, w2⟩, ⟨t1, t2⟩, ⟨s1, s2⟩⟩ := ht
  obtain ⟨f1, f2⟩ := hf
  have := hx.s0
  have := hd.f0
  have := hl.s0
  unfold covdS openT
  cases hc : d.clear <;> simp only [Bool.false_eq_true, if_false, if_true]
  · have e1 := dn_mono (a := x.s.1 + d.fall.1) (b := t.s + f) (p := l.soak) (q := l.soak) (by omega) (by omega) (by omega) (by omega)
    have e2 := dn_mono (a := t.s + f) (b := x.s.2 + d.fall.2) (p := l.soak) (q := l.soak) (by omega) (by omega) (by omega) (by omega)
    split <;> refine ⟨⟨?_, ?_⟩, ⟨?_, ?_⟩, ⟨?_, ?_⟩, ⟨?_, ?_⟩⟩ <;> simp only <;> omega
  · have e1 := dn_mono (a := 0 + d.fall.1) (b := 0 + f) (p := l.soak) (q := l.soak) (by omega) (by omega) (by omega) (by omega)
    have e2 := dn_mono (a := 0 + f) (b := 0 + d.fall.2) (p := l.soak) (q := l.soak) (by omega) (by omega) (by omega) (by omega)
    split <;> refine ⟨⟨?_, ?_⟩, ⟨?_, ?_⟩, ⟨?_, ?_⟩, ⟨?_, ?_⟩⟩ <;> simp only <;> omega
/-- the sum of a day's snow and water is at most twice what it was, and 1,200 more -/
theorem covd_b {l : FrL} (hl : FrV l) {k : Int} {x : IceK} (hx : IceB k x) {d : DayK} (hd : DayV d) : IceB (k + 1200) (covdS l x d) := by
  obtain ⟨b0, b1, w0, w1, t0, t1, s0, s1, hk⟩ := hx
  have := hd.f0
  have := hd.f1
  have := hd.f2
  have := hd.w0
  have := hd.w1
  have := hl.s0
  have := hl.s1
  unfold covdS
  cases hc : d.clear <;> simp only [Bool.false_eq_true, if_false, if_true]
  · have e1 := dn_nn (a := x.s.1 + d.fall.1) (p := l.soak) (by omega) (by omega)
    have e2 := dn_mono (a := x.s.1 + d.fall.1) (b := x.s.2 + d.fall.2) (p := l.soak) (q := l.soak) (by omega) (by omega) (by omega) (by omega)
    have e3 := dn_le (a := x.s.2 + d.fall.2) (p := l.soak) (by omega) (by omega)
    split <;> refine ⟨?_, ?_, ?_, ?_, ?_, ?_, ?_, ?_, ?_⟩ <;> simp only <;> omega
  · have e1 := dn_nn (a := 0 + d.fall.1) (p := l.soak) (by omega) (by omega)
    have e2 := dn_mono (a := 0 + d.fall.1) (b := 0 + d.fall.2) (p := l.soak) (q := l.soak) (by omega) (by omega) (by omega) (by omega)
    have e3 := dn_le (a := 0 + d.fall.2) (p := l.soak) (by omega) (by omega)
    split <;> refine ⟨?_, ?_, ?_, ?_, ?_, ?_, ?_, ?_, ?_⟩ <;> simp only <;> omega
theorem mlt_in {k : Int} {x : IceK} (hx : IceB k x) {t : IceT} (ht : InIce x t) {lo hi m : Int} (h1 : lo ≤ m) (h2 : m ≤ hi) : InIce (mltS x lo hi) (meltT t m) := by
  obtain ⟨⟨b1, b2⟩, ⟨w1, w2⟩, ⟨t1, t2⟩, ⟨s1, s2⟩⟩ := ht
  obtain ⟨b0, b1', w0, w1', t0, t1', s0, s1', hk⟩ := hx
  unfold mltS meltT
  refine ⟨⟨?_, ?_⟩, ⟨?_, ?_⟩, ⟨?_, ?_⟩, ⟨?_, ?_⟩⟩ <;> simp only <;> omega
theorem div_le {a b q : Int} (hq : 1 ≤ q) (h : a ≤ b) : a / q ≤ b / q := Int.ediv_le_ediv (by omega) h
/-- what is left of cold when water has frozen -/
theorem mul_div {t c q : Int} (hq : 1 ≤ q) (h : t ≤ c / q) : t * q ≤ c := by
  have h1 : t * q ≤ c / q * q := Int.mul_le_mul_of_nonneg_right h (by omega)
  have h2 := Int.ediv_mul_le c (show q ≠ 0 by omega)
  omega
theorem froz_in {l : FrL} (hl : FrV l) {k : Int} {x : IceK} (hx : IceB k x) {t : IceT} (ht : InIce x t) {c : Int × Int} {n : Int} (hc0 : 0 ≤ c.1) (hc : inS c n) {q : Int} {u : Bool} (hq : inS (dnS n (thrS l t.s).1, upS n (thrS l t.s).2) q) : InIce (frozS l x c) (frozT l t q u) := by
  obtain ⟨⟨b1, b2⟩, ⟨w1, w2⟩, ⟨t1, t2⟩, ⟨s1, s2⟩⟩ := ht
  obtain ⟨b0, b1', w0, w1', t0, t1', s0, s1', hk⟩ := hx
  obtain ⟨c1, c2⟩ := hc
  have hT := hl.thr
  have hm1 := (hl.mono s2).1
  have hm2 := (hl.mono s1).2
  obtain ⟨lo, hlo⟩ : ∃ v, v = dnS c.1 (thrS l x.s.2).1 := ⟨_, rfl⟩
  obtain ⟨hi, hhi⟩ : ∃ v, v = upS c.2 (thrS l x.s.1).2 := ⟨_, rfl⟩
  have e0 : 0 ≤ lo := by rw [hlo]; exact dn_nn (by omega) (hT _).1
  have e1 : lo ≤ q := by rw [hlo]; exact Int.le_trans (dn_mono (by omega) c1 (hT _).1 hm1) hq.1
  have e2 : q ≤ hi := by rw [hhi]; exact Int.le_trans hq.2 (up_mono (by omega) c2 (Int.le_trans (hT _).1 (hT _).2.1) hm2)
  have hL := hl.l0
  have hg := hl.g0
  obtain ⟨few, hfew⟩ : ∃ v, v = lo / l.lat := ⟨_, rfl⟩
  obtain ⟨many, hmany⟩ : ∃ v, v = hi / l.lat := ⟨_, rfl⟩
  obtain ⟨z, hz⟩ : ∃ v, v = q / l.lat := ⟨_, rfl⟩
  have f1 : few ≤ z := by rw [hfew, hz]; exact div_le hL e1
  have f2 : z ≤ many := by rw [hz, hmany]; exact div_le hL e2
  have f0 : 0 ≤ few := by rw [hfew]; exact Int.ediv_nonneg e0 (by omega)
  unfold frozS frozT
  simp only [← hlo, ← hhi, ← hfew, ← hmany, ← hz]
  have ht0 : 0 ≤ t.t := by omega
  have hb0 : 0 ≤ t.b := by omega
  have hw0 : 0 ≤ t.w := by omega
  have M : ∀ {a b : Int}, 0 ≤ b → b ≤ a → 0 ≤ l.g * b ∧ l.g * b ≤ l.g * a := fun h1 h2 => ⟨Int.mul_nonneg hg h1, Int.mul_le_mul_of_nonneg_left h2 hg⟩
  rcases Int.lt_or_le z t.t with h | h
  · rw [show min t.t z = z by omega, if_pos (show 0 < t.t - z by omega)]
    refine ⟨⟨?_, ?_⟩, ⟨?_, ?_⟩, ⟨?_, ?_⟩, ⟨?_, ?_⟩⟩ <;> simp only <;> try omega
    · split
      · rename_i h3
        have g1 : x.t.1 * l.lat ≤ hi := mul_div hL (by rw [← hmany]; exact h3)
        have g2 := (M (a := hi - x.t.1 * l.lat) (b := hi - x.t.1 * l.lat) (by omega) (by omega)).1
        have g3 : x.b.2 + (x.w.1 + x.t.1) ≤ roofS (sqS l x.b.2 x.w.1 x.t.1 hi) := le_roof (by omega) (by unfold sqS; omega)
        omega
      · omega
  · rw [show min t.t z = t.t by omega, if_neg (show ¬ 0 < t.t - t.t by omega)]
    obtain ⟨e, he⟩ : ∃ v, v = l.g * (q - t.t * l.lat) := ⟨_, rfl⟩
    rw [← he]
    have g0 : t.t * l.lat ≤ q := mul_div hL (by rw [← hz]; exact h)
    have g1 : 0 ≤ e := by rw [he]; exact Int.mul_nonneg hg (by omega)
    obtain ⟨r, hr⟩ : ∃ v, v = if u = true then roofS ((t.b + (t.w + t.t)) * (t.b + (t.w + t.t)) + e) else rootS ((t.b + (t.w + t.t)) * (t.b + (t.w + t.t)) + e) := ⟨_, rfl⟩
    rw [← hr]
    have r1 : rootS ((t.b + (t.w + t.t)) * (t.b + (t.w + t.t)) + e) ≤ r := by
      rw [hr]; split
      · exact root_le_roof _
      · exact Int.le_refl _
    have r2 : r ≤ roofS ((t.b + (t.w + t.t)) * (t.b + (t.w + t.t)) + e) := by
      rw [hr]; split
      · exact Int.le_refl _
      · exact root_le_roof _
    refine ⟨⟨?_, ?_⟩, ⟨?_, ?_⟩, ⟨?_, ?_⟩, ⟨?_, ?_⟩⟩ <;> simp only <;> try omega
    · split
      · rename_i h3
        have g2 : x.t.2 * l.lat ≤ lo := mul_div hL (by rw [← hfew]; exact h3)
        have g3 : t.t * l.lat ≤ x.t.2 * l.lat := Int.mul_le_mul_of_nonneg_right (by omega) (by omega)
        have g4 := M (a := q - t.t * l.lat) (b := lo - x.t.2 * l.lat) (by omega) (by omega)
        have g5 := grow_lo (x := x.b.1) (b := t.b) (a := t.w + t.t) (A := x.w.2 + x.t.2) (E := l.g * (lo - x.t.2 * l.lat)) (e := e) b0 b1 (by omega) (by omega) g4.1 (by rw [he]; exact g4.2)
        unfold sqS
        omega
      · have g5 : t.b + (t.w + t.t) ≤ rootS ((t.b + (t.w + t.t)) * (t.b + (t.w + t.t)) + e) := le_root (by omega) (by omega)
        omega
    · rw [if_pos (show x.t.1 ≤ many by omega)]
      have g3 : x.t.1 * l.lat ≤ t.t * l.lat := Int.mul_le_mul_of_nonneg_right (by omega) (by omega)
      have g4 := M (a := hi - x.t.1 * l.lat) (b := q - t.t * l.lat) (by omega) (by omega)
      have g5 := grow_hi (x := x.b.2) (b := t.b) (a := t.w + t.t) (A := x.w.1 + x.t.1) (E := l.g * (hi - x.t.1 * l.lat)) (e := e) hb0 b2 (by omega) (by omega) (by rw [he]; exact g4.2) (by omega)
      unfold sqS
      omega
/-! ### Days -/
structure DayF (x y : IceK) : Prop where
  b0 : 0 ≤ y.b.1
  b1 : y.b.1 ≤ y.b.2
  b2 : y.b.2 ≤ x.b.2 + 3163
  w0 : 0 ≤ y.w.1
  w1 : y.w.1 ≤ y.w.2
  w2 : y.w.2 ≤ x.w.2 + x.t.2
  t0 : 0 ≤ y.t.1
  t1 : y.t.1 ≤ y.t.2
  t2 : y.t.2 ≤ x.t.2
  s0 : 0 ≤ y.s.1
  s1 : y.s.1 ≤ y.s.2
  s2 : y.s.2 ≤ x.s.2
theorem froz_f {l : FrL} (hl : FrV l) {k : Int} {x : IceK} (hx : IceB k x) {c : Int × Int} (hc0 : 0 ≤ c.1) (hc : c.1 ≤ c.2) (hc1 : c.2 ≤ 1000) : DayF x (frozS l x c) := by
  have hin := froz_in hl hx (t := ⟨x.b.1, x.w.1, x.t.1, x.s.1⟩) ⟨⟨Int.le_refl _, hx.b1⟩, ⟨Int.le_refl _, hx.w1⟩, ⟨Int.le_refl _, hx.t1⟩, ⟨Int.le_refl _, hx.s1⟩⟩ hc0 (n := c.1) ⟨Int.le_refl _, hc⟩ (q := dnS c.1 (thrS l x.s.1).1) (u := true)
    ⟨Int.le_refl _, Int.le_trans (dn_mono hc0 (Int.le_refl _) (hl.thr _).1 (hl.thr _).2.1) (dn_le_up _ _)⟩
  obtain ⟨⟨a1, a2⟩, ⟨a3, a4⟩, ⟨a5, a6⟩, ⟨a7, a8⟩⟩ := hin
  have h1 := Int.le_trans a1 a2
  have h2 := Int.le_trans a3 a4
  have h3 := Int.le_trans a5 a6
  have h4 := Int.le_trans a7 a8
  clear a1 a2 a3 a4 a5 a6 a7 a8
  obtain ⟨b0, b1', w0, w1', t0, t1', s0, s1', hk⟩ := hx
  have hT := hl.thr
  have hL := hl.l0
  have hg := hl.g0
  have hg1 := hl.g1
  obtain ⟨lo, hlo⟩ : ∃ v, v = dnS c.1 (thrS l x.s.2).1 := ⟨_, rfl⟩
  obtain ⟨hi, hhi⟩ : ∃ v, v = upS c.2 (thrS l x.s.1).2 := ⟨_, rfl⟩
  have e0 : 0 ≤ lo := by rw [hlo]; exact dn_nn (by omega) (hT _).1
  have e1 : hi ≤ 1000 := by rw [hhi]; exact Int.le_trans (up_le (by omega) (hT _).2.2) hc1
  have e2 : 0 ≤ hi := by rw [hhi]; exact up_nn (by omega) (Int.le_trans (hT _).1 (hT _).2.1)
  obtain ⟨few, hfew⟩ : ∃ v, v = lo / l.lat := ⟨_, rfl⟩
  obtain ⟨many, hmany⟩ : ∃ v, v = hi / l.lat := ⟨_, rfl⟩
  have f0 : 0 ≤ few := by rw [hfew]; exact Int.ediv_nonneg e0 (by omega)
  have f1 : 0 ≤ many := by rw [hmany]; exact Int.ediv_nonneg e2 (by omega)
  unfold frozS at h1 h2 h3 h4 ⊢
  simp only [← hlo, ← hhi, ← hfew, ← hmany] at h1 h2 h3 h4 ⊢
  refine ⟨?_, h1, ?_, ?_, h2, ?_, ?_, h3, ?_, ?_, h4, ?_⟩ <;> simp only <;> try omega
  · split
    · rename_i h5
      have g1 : x.t.2 * l.lat ≤ lo := mul_div hL (by rw [← hfew]; exact h5)
      have g2 : 0 ≤ l.g * (lo - x.t.2 * l.lat) := Int.mul_nonneg hg (by omega)
      have g3 : x.b.1 + (x.w.2 + x.t.2) ≤ rootS (sqS l x.b.1 x.w.2 x.t.2 lo) := le_root (by omega) (by unfold sqS; omega)
      omega
    · exact b0
  · split
    · rename_i h5
      have g0 : 0 ≤ x.t.1 * l.lat := Int.mul_nonneg t0 (by omega)
      have g2 : l.g * (hi - x.t.1 * l.lat) ≤ 10000 * 1000 := by
        have g5 : l.g * (hi - x.t.1 * l.lat) ≤ l.g * 1000 := Int.mul_le_mul_of_nonneg_left (by omega) hg
        omega
      have g3 : roofS (sqS l x.b.2 x.w.1 x.t.1 hi) ≤ x.b.2 + (x.w.1 + x.t.1) + 3163 := by
        refine roof_le (by omega) ?_
        have := add_sq (x.b.2 + (x.w.1 + x.t.1)) 3163
        unfold sqS
        omega
      omega
    · omega
theorem melt_f {l : FrL} (hl : FrV l) {k : Int} {x : IceK} (hx : IceB k x) {c : Int × Int} (hc0 : c.2 < 0) (hc : c.1 ≤ c.2) : DayF x (meltS l x c) := by
  have h1 : dnS (-c.2) l.melt.1 ≤ upS (-c.1) l.melt.2 := Int.le_trans (dn_le_up _ _) (up_mono (by omega) (by omega) hl.m0 hl.m1)
  have h0 : 0 ≤ dnS (-c.2) l.melt.1 := dn_nn (by omega) hl.m0
  obtain ⟨b0, b1', w0, w1', t0, t1', s0, s1', hk⟩ := hx
  unfold meltS mltS
  refine ⟨?_, ?_, ?_, ?_, ?_, ?_, ?_, ?_, ?_, ?_, ?_, ?_⟩ <;> simp only <;> omega
theorem DayF.join {x a b : IceK} (ha : DayF x a) (hb : DayF x b) : DayF x (joinK a b) := by
  obtain ⟨a1, a2, a3, a4, a5, a6, a7, a8, a9, a10, a11, a12⟩ := ha
  obtain ⟨c1, c2, c3, c4, c5, c6, c7, c8, c9, c10, c11, c12⟩ := hb
  unfold joinK hulS
  refine ⟨?_, ?_, ?_, ?_, ?_, ?_, ?_, ?_, ?_, ?_, ?_, ?_⟩ <;> simp only <;> omega
theorem DayF.b {k : Int} {x y : IceK} (h : DayF x y) (hx : IceB k x) : IceB (2 * k + 3163) y := by
  have := hx.k
  have := hx.b0
  have := hx.b1
  have := hx.w0
  have := hx.w1
  have := hx.t0
  have := hx.t1
  have := hx.s0
  have := hx.s1
  exact ⟨h.b0, h.b1, h.w0, h.w1, h.t0, h.t1, h.s0, h.s1, by have := h.b2; have := h.w2; have := h.t2; have := h.s2; omega⟩
theorem after_f {l : FrL} (hl : FrV l) {k : Int} {x : IceK} (hx : IceB k x) {d : DayK} (hd : DayV d) : DayF (covdS l x d) (afterS l x d) := by
  have hy := covd_b hl hx hd
  have := hd.c1
  have := hd.c2
  unfold afterS
  simp only
  split
  · exact froz_f hl hy (by omega) (by omega) (by omega)
  · split
    · exact melt_f hl hy (by omega) (by omega)
    · exact (froz_f hl hy (c := (0, d.cold.2)) (Int.le_refl _) (by simp only; omega) (by simp only; omega)).join (melt_f hl hy (c := (d.cold.1, -1)) (by simp) (by simp only; omega))
theorem after_b {l : FrL} (hl : FrV l) {k : Int} {x : IceK} (hx : IceB k x) {d : DayK} (hd : DayV d) : IceB (2 * k + 6000) (afterS l x d) := by
  have h := (after_f hl hx hd).b (covd_b hl hx hd)
  exact ⟨h.b0, h.b1, h.w0, h.w1, h.t0, h.t1, h.s0, h.s1, by have := h.k; omega⟩
theorem join_l {a b : IceK} {t : IceT} (h : InIce a t) : InIce (joinK a b) t := by
  obtain ⟨⟨a1, a2⟩, ⟨a3, a4⟩, ⟨a5, a6⟩, ⟨a7, a8⟩⟩ := h
  unfold joinK hulS
  refine ⟨⟨?_, ?_⟩, ⟨?_, ?_⟩, ⟨?_, ?_⟩, ⟨?_, ?_⟩⟩ <;> simp only <;> omega
theorem join_r {a b : IceK} {t : IceT} (h : InIce b t) : InIce (joinK a b) t := by
  obtain ⟨⟨a1, a2⟩, ⟨a3, a4⟩, ⟨a5, a6⟩, ⟨a7, a8⟩⟩ := h
  unfold joinK hulS
  refine ⟨⟨?_, ?_⟩, ⟨?_, ?_⟩, ⟨?_, ?_⟩, ⟨?_, ?_⟩⟩ <;> simp only <;> omega
theorem after_in {l : FrL} (hl : FrV l) {k : Int} {x : IceK} (hx : IceB k x) {d : DayK} (hd : DayV d) {t r : IceT} (ht : InIce x t) (hr : AftT l t d r) : InIce (afterS l x d) r := by
  obtain ⟨c, f, hc, hf, h⟩ := hr
  have hy := covd_b hl hx hd
  have hi := covd_in hl hx hd ht hf
  obtain ⟨hc1, hc2⟩ := hc
  have := hl.m0
  have := hl.m1
  unfold afterS
  simp only
  rcases h with ⟨h1, m, ⟨hm1, hm2⟩, rfl⟩ | ⟨h1, q, u, hq, rfl⟩
  · rw [if_neg (by omega)]
    have g : ∀ e : Int × Int, e.2 < 0 → e.1 ≤ c → c ≤ e.2 → InIce (meltS l (covdS l x d) e) (meltT (openT l t d f) m) := fun e he h2 h3 =>
      mlt_in hy hi (Int.le_trans (dn_mono (by omega) (by omega) (by omega) (Int.le_refl _)) hm1) (Int.le_trans hm2 (up_mono (by omega) (by omega) (by omega) (Int.le_refl _)))
    split
    · exact g _ (by omega) hc1 hc2
    · exact join_r (g (d.cold.1, -1) (by simp) hc1 (by simp only; omega))
  · split
    · exact froz_in hl hy hi (by omega) ⟨hc1, hc2⟩ hq
    · rw [if_neg (by omega)]
      exact join_l (froz_in hl hy hi (c := (0, d.cold.2)) (Int.le_refl _) ⟨h1, hc2⟩ hq)
/-- the bearing thickness -/
def thkS (l : FrL) (x : IceK) : Int × Int := (x.b.1 + dnS x.w.1 l.white.1, x.b.2 + upS x.w.2 l.white.2)
theorem thk_in {l : FrL} (hl : FrV l) {k : Int} {x : IceK} (hx : IceB k x) {t : IceT} (ht : InIce x t) {n : Int} (h : inS (dnS t.w l.white.1, upS t.w l.white.2) n) : inS (thkS l x) (t.b + n) := by
  obtain ⟨⟨b1, b2⟩, ⟨w1, w2⟩, _, _⟩ := ht
  obtain ⟨h1, h2⟩ := h
  have := hl.w0
  have := hl.w1
  have := hx.w0
  have e1 := dn_mono (a := x.w.1) (b := t.w) (p := l.white.1) (q := l.white.1) (by omega) w1 (by omega) (Int.le_refl _)
  have e2 := up_mono (a := t.w) (b := x.w.2) (p := l.white.2) (q := l.white.2) (by omega) w2 (by omega) (Int.le_refl _)
  unfold thkS
  refine ⟨?_, ?_⟩ <;> simp only at h1 h2 ⊢ <;> omega
end Go.Sas
