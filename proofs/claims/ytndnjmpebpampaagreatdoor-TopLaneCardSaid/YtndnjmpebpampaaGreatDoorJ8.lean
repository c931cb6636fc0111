/-
What truly is: a strength, thicknesses, cracks, weights; what ice then bears; and that verdicts hold of it.
The worst that may truly be, and the best.
Conditions: none.
-/
import Derived.Test.YtndnjmpebpampaaGreatDoorJ1
set_option linter.unusedVariables false
set_option linter.unusedSimpArgs false
namespace Go.Sas
structure Tru where
  st : Int
  ice : List Int
  cr : List Int
  ws : List Int
def tab0 (l : List (Int × Int)) (n : Int) : Int := (l.foldl (lastF n) (0, 0)).2
/-- the burden, by true weights -/
def sumT (p : Plate) (m : Int) : List Int → List Load → Int
  | w :: ws, o :: l => w * tab0 p.shares (farS o.at_ m) + sumT p m ws l
  | _, _ => 0
def nearT (p : Plate) (cr : List Int) (m : Int) : Bool := cr.any fun c => decide (farS c m ≤ p.near)
def bornS (p : Plate) (l : List Load) (t : Tru) (x : Load) : Bool :=
  decide (sumT p x.at_ t.ws l * 1000000 ≤ t.st * cutS p (t.ice.getD (x.at_ / 100).toNat 0) (nearT p t.cr x.at_) * cutS p (t.ice.getD (x.at_ / 100).toNat 0) (nearT p t.cr x.at_) * tab0 p.creep x.st)
/-- numbers within spans -/
def Ins : List Int → List (Int × Int) → Prop
  | [], [] => True
  | n :: ns, x :: l => (x.1 ≤ n ∧ n ≤ x.2) ∧ Ins ns l
  | _, _ => False
structure TruV (p : Plate) (ice cr : List (Int × Int)) (l : List Load) (t : Tru) : Prop where
  st : p.str.1 ≤ t.st ∧ t.st ≤ p.str.2
  ice : Ins t.ice ice
  cr : Ins t.cr cr
  ws : Ins t.ws (l.map (·.w))
theorem tab0_part {l : List (Int × Int)} (h : TabV l) {n : Int} (hn : 0 ≤ n) : tab0 l n = partS l n := by
  unfold tab0 partS lastS
  rw [h.hd]
  cases l with
  | nil => exact absurd rfl h.ne
  | cons x l =>
    have hx : x = (0, 1000000) := by simpa using h.hd
    subst hx
    simp only [List.foldl_cons, List.headD_cons]
    rw [show lastF n (0, 0) (0, 1000000) = (0, 1000000) from if_pos hn, show lastF n (0, 1000000) (0, 1000000) = (0, 1000000) from if_pos hn]
theorem farS_nn (a b : Int) : 0 ≤ farS a b := by simp only [farS, iMax_eq]; omega
theorem Ins.get : ∀ {ns : List Int} {l : List (Int × Int)} {i : Nat}, Ins ns l → i < l.length → (l.getD i (0, 0)).1 ≤ ns.getD i 0 ∧ ns.getD i 0 ≤ (l.getD i (0, 0)).2
  | [], [], i, _, hi => by simp at hi
  | n :: ns, x :: l, 0, h, _ => by simpa using h.1
  | n :: ns, x :: l, i + 1, h, hi => by
    have := Ins.get (i := i) h.2 (by simpa using hi)
    simpa using this
  | [], _ :: _, _, h, _ => h.elim
  | _ :: _, [], _, h, _ => h.elim
theorem Ins.len : ∀ {ns : List Int} {l : List (Int × Int)}, Ins ns l → ns.length = l.length
  | [], [], _ => rfl
  | _ :: _, _ :: _, h => by simp [Ins.len h.2]
  | [], _ :: _, h => h.elim
  | _ :: _, [], h => h.elim
theorem Ins.app {n : Int} {x : Int × Int} : ∀ {ns : List Int} {l : List (Int × Int)}, Ins ns l → (x.1 ≤ n ∧ n ≤ x.2) → Ins (ns ++ [n]) (l ++ [x])
  | [], [], _, h => ⟨h, trivial⟩
  | _ :: _, _ :: _, h, h' => ⟨h.1, Ins.app h.2 h'⟩
  | [], _ :: _, h, _ => h.elim
  | _ :: _, [], h, _ => h.elim
theorem near_le {p : Plate} {m : Int} : ∀ {ns : List Int} {l : List (Int × Int)}, Ins ns l → (∀ x ∈ l, x.1 ≤ x.2) → (nearT p ns m = true → anyS true p l m = true) ∧ (anyS false p l m = true → nearT p ns m = true)
  | [], [], _, _ => by simp [nearT, anyS]
  | n :: ns, x :: l, h, hx => by
    have ih := near_le (p := p) (m := m) h.2 fun y hy => hx y (by simp [hy])
    have h1 := h.1
    unfold nearT anyS at ih ⊢
    simp only [List.any_cons, Bool.or_eq_true, decide_eq_true_eq]
    constructor
    · rintro (h2 | h2)
      · left
        simp only [nearS, if_true, decide_eq_true_eq]
        simp only [farS, iMax_eq] at h2
        omega
      · exact .inr (ih.1 h2)
    · rintro (h2 | h2)
      · left
        simp only [nearS, Bool.false_eq_true, if_false, decide_eq_true_eq] at h2
        simp only [farS, iMax_eq]
        omega
      · exact .inr (ih.2 h2)
  | [], _ :: _, h, _ => h.elim
  | _ :: _, [], h, _ => h.elim
theorem cut_mono {p : Plate} (hp : PlateV p) {a b : Int} {u v : Bool} (ha : 0 ≤ a) (hab : a ≤ b) (huv : v = true → u = true) : 0 ≤ cutS p a u ∧ cutS p a u ≤ cutS p b v := by
  have e1 := hp.e1
  have e2 := hp.e2
  have h1 : 0 ≤ a * p.edge := Int.mul_nonneg ha e1
  have h2 : a * p.edge ≤ a * 1000000 := Int.mul_le_mul_of_nonneg_left e2 ha
  have h3 : a * p.edge ≤ b * p.edge := Int.mul_le_mul_of_nonneg_right hab e1
  unfold cutS
  cases u <;> cases v <;> simp_all <;> omega
theorem sum_le {p : Plate} (hp : PlateV p) {m : Int} : ∀ {ws : List Int} {l : List Load}, Ins ws (l.map (·.w)) → burdS false p l m ≤ sumT p m ws l ∧ sumT p m ws l ≤ burdS true p l m
  | [], [], _ => by simp [burdS, sumT]
  | w :: ws, o :: l, h => by
    have ih := sum_le hp (m := m) (ws := ws) (l := l) h.2
    have h1 := h.1
    have hq := (hp.sh.part (farS m o.at_)).1
    rw [show farS m o.at_ = farS o.at_ m by simp only [farS, iMax_eq]; omega] at hq
    have ht := tab0_part hp.sh (farS_nn o.at_ m)
    have a1 : o.w.1 * partS p.shares (farS o.at_ m) ≤ w * partS p.shares (farS o.at_ m) := Int.mul_le_mul_of_nonneg_right h1.1 hq
    have a2 : w * partS p.shares (farS o.at_ m) ≤ o.w.2 * partS p.shares (farS o.at_ m) := Int.mul_le_mul_of_nonneg_right h1.2 hq
    simp only [burdS, List.map_cons, List.sum_cons, sumT, burdF, hevS, ht, Bool.false_eq_true, if_false, if_true] at ih ⊢
    rw [show farS m o.at_ = farS o.at_ m by simp only [farS, iMax_eq]; omega]
    omega
  | [], _ :: _, h => h.elim
  | _ :: _, [], h => h.elim
theorem en_mono {u u' s s' t t' c : Int} (h : u * 1000000 ≤ s * t * t * c) (hu : u' ≤ u) (hs : 0 ≤ s ∧ s ≤ s') (ht : 0 ≤ t ∧ t ≤ t') (hc : 0 ≤ c) : u' * 1000000 ≤ s' * t' * t' * c := by
  have h1 : s * t ≤ s' * t' := Int.mul_le_mul hs.2 ht.2 ht.1 (by omega)
  have h2 : 0 ≤ s * t := Int.mul_nonneg hs.1 ht.1
  have h3 : s * t * t ≤ s' * t' * t' := Int.mul_le_mul h1 ht.2 ht.1 (by omega)
  have h4 : s * t * t * c ≤ s' * t' * t' * c := Int.mul_le_mul_of_nonneg_right h3 hc
  omega
theorem truth {p : Plate} {ice cr : List (Int × Int)} {l : List Load} {t : Tru} (hV : RoadV p ice cr) (ht : TruV p ice cr l t) {x : Load} (hx : LoadV ice.length x) : (beS true p ice cr l x = true → bornS p l t x = true) ∧ (bornS p l t x = true → beS false p ice cr l x = true) := by
  have hlt : (x.at_ / 100).toNat < ice.length := by have := hx.at1; have := hx.at2; omega
  have hi := ht.ice.get hlt
  have hib : 0 ≤ (ice.getD (x.at_ / 100).toNat (0, 0)).1 := by
    rw [List.getD_eq_getElem?_getD, List.getElem?_eq_getElem hlt]
    exact (hV.ib _ (List.getElem_mem hlt)).1
  have hn := near_le (p := p) (m := x.at_) ht.cr fun y hy => (hV.cb y hy).2.1
  have hs := sum_le hV.p (m := x.at_) ht.ws
  have hc := (hV.p.cr.part x.st).1
  have hc0 := tab0_part hV.p.cr hx.s1
  have hst := ht.st
  have hs1 := hV.p.s1
  have c1 := cut_mono hV.p hib hi.1 (u := anyS true p cr x.at_) (v := nearT p t.cr x.at_) hn.1
  have c2 := cut_mono hV.p (Int.le_trans hib hi.1) hi.2 (u := nearT p t.cr x.at_) (v := anyS false p cr x.at_) hn.2
  unfold beS enS bornS thickS
  simp only [decide_eq_true_eq, hc0]
  constructor
  · intro h
    exact en_mono h hs.2 ⟨by simp only [strS, if_true]; omega, hst.1⟩ c1 hc
  · intro h
    exact en_mono h hs.1 ⟨by omega, hst.2⟩ c2 hc
end Go.Sas
namespace Go.Sas
def movS (near : Bool) (m : Int) (c : Int × Int) : Int := if near then min (max m c.1) c.2 else if farS m c.2 < farS m c.1 then c.1 else c.2
/-- worst: true -/
def extT (w : Bool) (p : Plate) (ice cr : List (Int × Int)) (l : List Load) (m : Int) : Tru := ⟨strS w p.str, ice.map (hevS (!w)), cr.map (movS w m), (l.map (·.w)).map (hevS w)⟩
theorem sum_ext {w : Bool} {p : Plate} (hp : PlateV p) {m : Int} : ∀ (l : List Load), sumT p m ((l.map (·.w)).map (hevS w)) l = burdS w p l m
  | [] => rfl
  | o :: l => by
    have ih := sum_ext (w := w) hp (m := m) l
    simp only [burdS, List.map_cons, List.sum_cons, sumT, burdF] at ih ⊢
    rw [ih, tab0_part hp.sh (farS_nn o.at_ m), show farS m o.at_ = farS o.at_ m by simp only [farS, iMax_eq]; omega]
theorem near_ext {w : Bool} {p : Plate} (hn : 0 ≤ p.near) {m : Int} : ∀ {l : List (Int × Int)}, (∀ x ∈ l, x.1 ≤ x.2) → nearT p (l.map (movS w m)) m = anyS w p l m
  | [], _ => rfl
  | x :: l, h => by
    have ih := near_ext (w := w) hn (m := m) (l := l) fun y hy => h y (by simp [hy])
    have h1 := h x (by simp)
    unfold nearT anyS at ih ⊢
    simp only [List.map_cons, List.any_cons]
    rw [ih]
    congr 1
    cases w
    · simp only [movS, nearS, Bool.false_eq_true, if_false, decide_eq_decide]
      split <;> rename_i h2 <;> simp only [farS, iMax_eq] at h2 ⊢ <;> omega
    · simp only [movS, nearS, if_true, decide_eq_decide, farS, iMax_eq]; omega
theorem getD_map {f : Int × Int → Int} {l : List (Int × Int)} {i : Nat} (hi : i < l.length) : (l.map f).getD i 0 = f (l.getD i (0, 0)) := by
  rw [List.getD_eq_getElem?_getD, List.getD_eq_getElem?_getD, List.getElem?_map, List.getElem?_eq_getElem hi]; rfl
theorem ext_born {w : Bool} {p : Plate} {ice cr : List (Int × Int)} {l : List Load} (hV : RoadV p ice cr) {x : Load} (hx : LoadV ice.length x) : bornS p l (extT w p ice cr l x.at_) x = beS w p ice cr l x := by
  have hlt : (x.at_ / 100).toNat < ice.length := by have := hx.at1; have := hx.at2; omega
  unfold bornS beS enS thickS extT
  simp only
  rw [sum_ext hV.p, near_ext hV.p.n1 fun y hy => (hV.cb y hy).2.1, getD_map hlt, tab0_part hV.p.cr hx.s1]
  rw [show hevS (!w) (ice.getD (x.at_ / 100).toNat (0, 0)) = strS w (ice.getD (x.at_ / 100).toNat (0, 0)) by cases w <;> rfl]
  rfl
theorem Ins_map {f : Int × Int → Int} : ∀ {l : List (Int × Int)}, (∀ x ∈ l, x.1 ≤ f x ∧ f x ≤ x.2) → Ins (l.map f) l
  | [], _ => trivial
  | x :: l, h => ⟨h x (by simp), Ins_map fun y hy => h y (by simp [hy])⟩
theorem ext_tru {w : Bool} {p : Plate} {ice cr : List (Int × Int)} {l : List Load} {m places : Int} (hV : RoadV p ice cr) (hl : ∀ x ∈ l, LoadV places x) : TruV p ice cr l (extT w p ice cr l m) := by
  have h1 := hV.p.s2
  refine ⟨by cases w <;> simp [extT, strS] <;> omega, Ins_map fun x hx => ?_, Ins_map fun x hx => ?_, Ins_map fun x hx => ?_⟩
  · have := hV.ib x hx; cases w <;> simp [hevS] <;> omega
  · have := hV.cb x hx
    cases w
    · simp only [movS, Bool.false_eq_true, if_false]; split <;> omega
    · simp only [movS, if_true]; omega
  · obtain ⟨y, hy, rfl⟩ := List.mem_map.1 hx
    have := (hl y hy).w2
    cases w <;> simp [hevS] <;> omega
theorem be_imp {p : Plate} {ice cr : List (Int × Int)} {l : List Load} (hV : RoadV p ice cr) (hl : ∀ x ∈ l, LoadV ice.length x) {x : Load} (hx : LoadV ice.length x) : beS true p ice cr l x = true → beS false p ice cr l x = true := by
  intro h
  have h1 := truth hV (ext_tru (w := true) (m := x.at_) hV hl) hx
  rw [ext_born hV hx] at h1
  exact h1.2 h
end Go.Sas
