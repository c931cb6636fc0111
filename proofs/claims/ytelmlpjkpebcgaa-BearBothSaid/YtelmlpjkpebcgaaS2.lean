/-
What chapter 3 says, as plain functions, part 2: what ice bears; what valid data are.
Conditions: none (definitions and plain lemmas).
-/
import Derived.Test.YtelmlpjkpebcgaaS1
set_option linter.unusedVariables false
set_option linter.unusedSimpArgs false
namespace Go.Sas
/-! ### Valid data -/
structure TabV (l : List (Int × Int)) : Prop where
  ne : l ≠ []
  len : l.length ≤ 20
  hd : l.headD (0, 0) = (0, 1000000)
  srt : l.Pairwise fun x y => x.1 < y.1 ∧ y.2 ≤ x.2
  bnd : ∀ x ∈ l, 0 ≤ x.1 ∧ x.1 ≤ 10000 ∧ 0 ≤ x.2 ∧ x.2 ≤ 1000000

theorem tabGo_ok' {q : Int × Int} : ∀ {l : List (Int × Int)}, tabGo (some q) l = 0 → (∀ x ∈ l, q.1 < x.1 ∧ x.2 ≤ q.2) ∧ (l.Pairwise fun x y => x.1 < y.1 ∧ y.2 ≤ x.2) ∧ ∀ x ∈ l, 0 ≤ x.1 ∧ x.1 ≤ 10000 ∧ 0 ≤ x.2 ∧ x.2 ≤ 1000000
  | [], _ => by simp
  | x :: l, h => by
    simp only [tabGo] at h
    have he : entE (some q) x = 0 := by
      by_cases hq : entE (some q) x = 0
      · exact hq
      · rw [if_pos hq] at h; exact h
    rw [if_neg (by simp [he])] at h
    obtain ⟨h1, h2, h3⟩ := tabGo_ok' h
    have hb : ¬ (x.1 < 0 ∨ 10000 < x.1) ∧ ¬ (x.1 ≤ q.1) ∧ ¬ (x.2 < 0 ∨ 1000000 < x.2) ∧ ¬ (q.2 < x.2) := by
      simp only [entE] at he
      refine ⟨fun hc => ?_, fun hc => ?_, fun hc => ?_, fun hc => ?_⟩ <;> repeat' (split at he)
      all_goals first | omega | (exfalso; omega)
    refine ⟨fun y hy => ?_, List.pairwise_cons.2 ⟨h1, h2⟩, fun y hy => ?_⟩
    · rcases List.mem_cons.1 hy with rfl | hy
      · omega
      · have := h1 y hy; omega
    · rcases List.mem_cons.1 hy with rfl | hy
      · omega
      · exact h3 y hy
theorem tabS_ok {l : List (Int × Int)} (h : tabS l = 0) : TabV l := by
  unfold tabS at h
  split at h
  · cases h
  · split at h
    · cases h
    · rename_i h1 h2
      cases l with
      | nil => simp at h1
      | cons x l =>
        simp only [tabGo] at h
        have he : entE none x = 0 := by
          by_cases hq : entE none x = 0
          · exact hq
          · rw [if_pos hq] at h; exact h
        rw [if_neg (by simp [he])] at h
        obtain ⟨f1, f2, f3⟩ := tabGo_ok' h
        have hb : x.1 = 0 ∧ x.2 = 1000000 := by
          simp only [entE] at he
          refine ⟨?_, ?_⟩ <;> repeat' (split at he)
          all_goals omega
        refine ⟨by simp, by omega, ?_, List.pairwise_cons.2 ⟨f1, f2⟩, fun y hy => ?_⟩
        · simp only [List.headD_cons]; exact Prod.ext hb.1 hb.2
        · rcases List.mem_cons.1 hy with rfl | hy
          · omega
          · exact f3 y hy

theorem lastS_mem {n : Int} : ∀ {l : List (Int × Int)} {o : Int × Int}, l.foldl (lastF n) o = o ∨ l.foldl (lastF n) o ∈ l
  | [], o => .inl rfl
  | x :: l, o => by
    simp only [List.foldl_cons]
    rcases lastS_mem (n := n) (l := l) (o := lastF n o x) with h | h
    · rw [h]; unfold lastF; split
      · exact .inr (by simp)
      · exact .inl rfl
    · exact .inr (by simp [h])
theorem TabV.part {l : List (Int × Int)} (h : TabV l) (n : Int) : 0 ≤ partS l n ∧ partS l n ≤ 1000000 := by
  unfold partS lastS
  rw [h.hd]
  rcases lastS_mem (n := n) (l := l) (o := (0, 1000000)) with h1 | h1
  · rw [h1]; simp
  · have := h.bnd _ h1; omega
theorem fold_mono {n n' : Int} (hn : n ≤ n') : ∀ {l : List (Int × Int)} {o o' : Int × Int}, (l.Pairwise fun x y => x.1 < y.1 ∧ y.2 ≤ x.2) → o'.2 ≤ o.2 → (∀ x ∈ l, x.2 ≤ o.2) → (l.foldl (lastF n') o').2 ≤ (l.foldl (lastF n) o).2
  | [], o, o', _, h, _ => h
  | x :: l, o, o', hp, h, hx => by
    obtain ⟨hp1, hp2⟩ := List.pairwise_cons.1 hp
    simp only [List.foldl_cons]
    unfold lastF
    split
    · split
      · exact fold_mono hn hp2 (Int.le_refl _) fun y hy => (hp1 y hy).2
      · exact fold_mono hn hp2 (hx x (by simp)) fun y hy => hx y (by simp [hy])
    · rw [if_neg (by omega)]
      exact fold_mono hn hp2 h fun y hy => hx y (by simp [hy])
theorem TabV.mono {l : List (Int × Int)} (h : TabV l) {n n' : Int} (hn : n ≤ n') : partS l n' ≤ partS l n := by
  unfold partS lastS
  rw [h.hd]
  exact fold_mono hn h.srt (Int.le_refl _) fun x hx => (h.bnd x hx).2.2.2

theorem faultS_ok {a b lo hi : Int} (h : faultS a b lo hi = 0) : lo ≤ a ∧ a ≤ b ∧ b ≤ hi := by
  unfold faultS at h
  repeat' (split at h)
  all_goals omega
theorem firstE_zero {α : Type} {f : α → Int} : ∀ {l : List α}, firstE f l = 0 → ∀ x ∈ l, f x = 0
  | [], _, x, hx => by cases hx
  | y :: l, h, x, hx => by
    simp only [firstE] at h
    split at h
    · rename_i h1; exact absurd h h1
    · rename_i h1
      rcases List.mem_cons.1 hx with rfl | hx
      · simpa using h1
      · exact firstE_zero h x hx
theorem faultsS_ok {l : List (Int × Int)} {most high : Int} (h : faultsS l most high = 0) : (l.length : Int) ≤ most ∧ ∀ x ∈ l, 0 ≤ x.1 ∧ x.1 ≤ x.2 ∧ x.2 ≤ high := by
  unfold faultsS at h
  split at h
  · cases h
  · exact ⟨by omega, fun x hx => faultS_ok (firstE_zero h x hx)⟩
structure LoadV (places : Int) (x : Load) : Prop where
  at1 : 0 ≤ x.at_
  at2 : x.at_ ≤ 100 * places - 1
  w1 : 0 ≤ x.w.1
  w2 : x.w.1 ≤ x.w.2
  w3 : x.w.2 ≤ 200000
  s1 : 0 ≤ x.st
  s2 : x.st ≤ 10000
theorem loadE_ok {places : Int} {x : Load} (h : loadE places x = 0) : LoadV places x := by
  unfold loadE at h
  split at h
  · cases h
  · split at h
    · rename_i h1; exact absurd h h1
    · split at h
      · cases h
      · rename_i h1 h2 h3
        obtain ⟨e1, e2, e3⟩ := faultS_ok (Decidable.not_not.1 h2)
        exact ⟨by omega, by omega, e1, e2, e3, by omega, by omega⟩
theorem loadsS_ok {l : List Load} {places : Int} (h : loadsS places l = 0) : l.length ≤ 30 ∧ ∀ x ∈ l, LoadV places x := by
  unfold loadsS at h
  split at h
  · cases h
  · exact ⟨by omega, fun x hx => loadE_ok (firstE_zero h x hx)⟩
structure PlateV (p : Plate) : Prop where
  s1 : 1 ≤ p.str.1
  s2 : p.str.1 ≤ p.str.2
  s3 : p.str.2 ≤ 100000
  sh : TabV p.shares
  cr : TabV p.creep
  n1 : 0 ≤ p.near
  n2 : p.near ≤ 10000
  e1 : 0 ≤ p.edge
  e2 : p.edge ≤ 1000000
  g1 : 1 ≤ p.grav
  g2 : p.grav ≤ 1000
  l1 : 1 ≤ p.low
  l2 : p.low ≤ p.high
  l3 : p.high ≤ 4000000
  o1 : 0 ≤ p.shore
  o2 : p.shore ≤ 10000
  w1 : 0 ≤ p.wider
  w2 : p.wider ≤ 1000000
theorem checkS_ok {p : Plate} (h : checkS p = 0) : PlateV p := by
  unfold checkS at h
  split at h
  · rename_i h1; exact absurd h h1
  rename_i h1
  split at h
  · rename_i h1; exact absurd h h1
  rename_i h2
  split at h
  · rename_i h1; exact absurd h h1
  rename_i h3
  split at h
  · cases h
  split at h
  · cases h
  split at h
  · cases h
  obtain ⟨e1, e2, e3⟩ := faultS_ok (Decidable.not_not.1 h1)
  refine ⟨e1, e2, e3, tabS_ok (Decidable.not_not.1 h2), tabS_ok (Decidable.not_not.1 h3), ?_, ?_, ?_, ?_, ?_, ?_, ?_, ?_, ?_, ?_, ?_, ?_, ?_⟩ <;> omega
structure RoadV (p : Plate) (ice cr : List (Int × Int)) : Prop where
  p : PlateV p
  il : ice.length ≤ 1000
  ib : ∀ x ∈ ice, 0 ≤ x.1 ∧ x.1 ≤ x.2 ∧ x.2 ≤ 5000
  cl : cr.length ≤ 50
  cb : ∀ x ∈ cr, 0 ≤ x.1 ∧ x.1 ≤ x.2 ∧ x.2 ≤ 100000
theorem checkAllS_ok {p : Plate} {ice cr : List (Int × Int)} (h : checkAllS p ice cr = 0) : RoadV p ice cr := by
  unfold checkAllS at h
  split at h
  · rename_i h1; exact absurd h h1
  rename_i h1
  split at h
  · rename_i h1; exact absurd h h1
  rename_i h2
  obtain ⟨a1, a2⟩ := faultsS_ok (Decidable.not_not.1 h2)
  obtain ⟨b1, b2⟩ := faultsS_ok h
  exact ⟨checkS_ok (Decidable.not_not.1 h1), by omega, a2, by omega, b2⟩

/-! ### What ice bears -/
def strS (w : Bool) (x : Int × Int) : Int := if w then x.1 else x.2
def hevS (w : Bool) (x : Int × Int) : Int := if w then x.2 else x.1
def farS (a b : Int) : Int := iMax (a - b) (b - a)
def nearS (w : Bool) (c : Int × Int) (m near : Int) : Bool := if w then decide (c.1 - near ≤ m ∧ m ≤ c.2 + near) else decide (m - c.1 ≤ near ∧ c.2 - m ≤ near)
def cutS (p : Plate) (h : Int) (near : Bool) : Int := if near then h * p.edge / 1000000 else h
def thickS (w : Bool) (p : Plate) (ice cr : List (Int × Int)) (m : Int) : Int := cutS p (strS w (ice.getD (m / 100).toNat (0, 0))) (cr.any fun c => nearS w c m p.near)
def burdF (w : Bool) (p : Plate) (m : Int) (o : Load) : Int := hevS w o.w * partS p.shares (farS m o.at_)
def burdS (w : Bool) (p : Plate) (l : List Load) (m : Int) : Int := (l.map (burdF w p m)).sum
def enS (w : Bool) (p : Plate) (burden thick minutes : Int) : Bool := decide (burden * 1000000 ≤ strS w p.str * thick * thick * partS p.creep minutes)
def beS (w : Bool) (p : Plate) (ice cr : List (Int × Int)) (l : List Load) (x : Load) : Bool := enS w p (burdS w p l x.at_) (thickS w p ice cr x.at_) x.st
def veS (p : Plate) (ice cr : List (Int × Int)) (l : List Load) (x : Load) : Int := if beS true p ice cr l x then 1 else if !beS false p ice cr l x then 2 else 3
def holdsS (p : Plate) (ice cr : List (Int × Int)) (l : List Load) : List Int × Int :=
  if checkAllS p ice cr ≠ 0 then ([], checkAllS p ice cr) else if loadsS ice.length l ≠ 0 then ([], loadsS ice.length l) else (l.map (veS p ice cr l), 0)

theorem strS_bnd {w : Bool} {x : Int × Int} {a b : Int} (h : a ≤ x.1 ∧ x.1 ≤ x.2 ∧ x.2 ≤ b) : a ≤ strS w x ∧ strS w x ≤ b := by cases w <;> simp [strS] <;> omega
theorem hevS_bnd {w : Bool} {x : Int × Int} {a b : Int} (h : a ≤ x.1 ∧ x.1 ≤ x.2 ∧ x.2 ≤ b) : a ≤ hevS w x ∧ hevS w x ≤ b := by cases w <;> simp [hevS] <;> omega
theorem mulB {a b A B : Int} (ha : 0 ≤ a ∧ a ≤ A) (hb : 0 ≤ b ∧ b ≤ B) (hM : A * B ≤ 9223372036854775807) : iMul .i64 a b = a * b ∧ 0 ≤ a * b ∧ a * b ≤ A * B := by
  have h1 : 0 ≤ a * b := Int.mul_nonneg ha.1 hb.1
  have h2 : a * b ≤ A * B := Int.mul_le_mul ha.2 hb.2 hb.1 (by omega)
  exact ⟨iMul_id (by omega) (by omega), h1, h2⟩
theorem thickS_bnd {w : Bool} {p : Plate} {ice cr : List (Int × Int)} (h : RoadV p ice cr) (m : Int) : 0 ≤ thickS w p ice cr m ∧ thickS w p ice cr m ≤ 5000 := by
  have hs : 0 ≤ strS w (ice.getD (m / 100).toNat (0, 0)) ∧ strS w (ice.getD (m / 100).toNat (0, 0)) ≤ 5000 := by
    refine strS_bnd ?_
    rcases Nat.lt_or_ge (m / 100).toNat ice.length with h1 | h1
    · rw [List.getD_eq_getElem?_getD, List.getElem?_eq_getElem h1]
      exact h.ib _ (List.getElem_mem h1)
    · rw [List.getD_eq_getElem?_getD, List.getElem?_eq_none h1]; simp
  unfold thickS cutS
  split
  · obtain ⟨_, h1, h2⟩ := mulB hs ⟨h.p.e1, h.p.e2⟩ (by omega)
    have h3 : strS w (ice.getD (m / 100).toNat (0, 0)) * p.edge ≤ 5000 * 1000000 := h2
    omega
  · exact hs
theorem burdF_bnd {w : Bool} {p : Plate} {m : Int} {o : Load} {places : Int} (hp : PlateV p) (h : LoadV places o) : 0 ≤ burdF w p m o ∧ burdF w p m o ≤ 200000000000 := by
  have h1 := hevS_bnd (w := w) (x := o.w) ⟨h.w1, h.w2, h.w3⟩
  have h2 := hp.sh.part (farS m o.at_)
  obtain ⟨_, h3, h4⟩ := mulB h1 h2 (by omega)
  exact ⟨h3, by unfold burdF; omega⟩
theorem burdS_bnd {w : Bool} {p : Plate} {m places : Int} (hp : PlateV p) : ∀ {l : List Load}, (∀ x ∈ l, LoadV places x) → 0 ≤ burdS w p l m ∧ burdS w p l m ≤ l.length * 200000000000
  | [], _ => by simp [burdS]
  | x :: l, h => by
    have h1 := burdF_bnd (w := w) (m := m) hp (h x (by simp))
    have h2 := burdS_bnd (w := w) (m := m) hp (l := l) fun y hy => h y (by simp [hy])
    simp only [burdS, List.map_cons, List.sum_cons, List.length_cons] at h2 ⊢
    omega
end Go.Sas
