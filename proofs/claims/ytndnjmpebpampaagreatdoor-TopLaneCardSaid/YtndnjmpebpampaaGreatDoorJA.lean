/-
Narrower data: what is sure, or never, stays.
The law of what is known better answers true.
Conditions: none.
-/
import Derived.Test.YtndnjmpebpampaaGreatDoorJ8
import Derived.Test.YtndnjmpebpampaaGreatDoorJ9
set_option linter.unusedVariables false
set_option linter.unusedSimpArgs false
namespace Go.Sas
/-- a load of a weight within -/
def NarL : List Load → List Load → Prop
  | [], [] => True
  | y :: r, x :: l => (y.at_ = x.at_ ∧ y.st = x.st ∧ x.w.1 ≤ y.w.1 ∧ y.w.1 ≤ y.w.2 ∧ y.w.2 ≤ x.w.2) ∧ NarL r l
  | _, _ => False
theorem NarL.len : ∀ {r l : List Load}, NarL r l → r.length = l.length
  | [], [], _ => rfl
  | _ :: _, _ :: _, h => by simp [NarL.len h.2]
  | [], _ :: _, h => h.elim
  | _ :: _, [], h => h.elim
theorem NarL.app {y x : Load} : ∀ {r l : List Load}, NarL r l → (y.at_ = x.at_ ∧ y.st = x.st ∧ x.w.1 ≤ y.w.1 ∧ y.w.1 ≤ y.w.2 ∧ y.w.2 ≤ x.w.2) → NarL (r ++ [y]) (l ++ [x])
  | [], [], _, h => ⟨h, trivial⟩
  | _ :: _, _ :: _, h, h' => ⟨h.1, NarL.app h.2 h'⟩
  | [], _ :: _, h, _ => h.elim
  | _ :: _, [], h, _ => h.elim
theorem NarL.get : ∀ {r l : List Load} {i : Nat} {x : Load}, NarL r l → l[i]? = some x → ∃ y, r[i]? = some y ∧ (y.at_ = x.at_ ∧ y.st = x.st ∧ x.w.1 ≤ y.w.1 ∧ y.w.1 ≤ y.w.2 ∧ y.w.2 ≤ x.w.2)
  | [], [], _, _, _, h => by simp at h
  | y :: r, x :: l, 0, z, h, hz => ⟨y, rfl, by simp at hz; subst hz; exact h.1⟩
  | y :: r, x :: l, i + 1, z, h, hz => by
    obtain ⟨a, h1, h2⟩ := NarL.get (i := i) h.2 (by simpa using hz)
    exact ⟨a, by simpa using h1, h2⟩
  | [], _ :: _, _, _, h, _ => h.elim
  | _ :: _, [], _, _, h, _ => h.elim
theorem NarL.mem : ∀ {r l : List Load}, NarL r l → ∀ y ∈ r, ∃ x ∈ l, y.at_ = x.at_ ∧ y.st = x.st ∧ x.w.1 ≤ y.w.1 ∧ y.w.1 ≤ y.w.2 ∧ y.w.2 ≤ x.w.2
  | [], [], _, y, hy => by cases hy
  | y :: r, x :: l, h, z, hz => by
    rcases List.mem_cons.1 hz with rfl | hz
    · exact ⟨x, by simp, h.1⟩
    · obtain ⟨a, h1, h2⟩ := NarL.mem h.2 z hz
      exact ⟨a, by simp [h1], h2⟩
  | [], _ :: _, h, _, _ => h.elim
  | _ :: _, [], h, _, _ => h.elim
theorem NarL.ws : ∀ {r l : List Load} {ns : List Int}, NarL r l → Ins ns (r.map (·.w)) → Ins ns (l.map (·.w))
  | [], [], _, _, h => h
  | _ :: _, _ :: _, n :: ns, h, h' => ⟨by have h1 := h.1; have h2 := h'.1; simp only at h1 h2 ⊢; omega, NarL.ws h.2 h'.2⟩
  | _ :: _, _ :: _, [], _, h' => h'.elim
  | [], _ :: _, _, h, _ => h.elim
  | _ :: _, [], _, h, _ => h.elim
theorem NarL.sum {p : Plate} {m : Int} : ∀ {r l : List Load} {ns : List Int}, NarL r l → sumT p m ns r = sumT p m ns l
  | [], [], _, _ => rfl
  | y :: r, x :: l, n :: ns, h => by simp only [sumT]; rw [NarL.sum h.2, h.1.1]
  | _ :: _, _ :: _, [], _ => rfl
  | [], _ :: _, _, h => h.elim
  | _ :: _, [], _, h => h.elim
theorem Inner.len : ∀ {r l : List (Int × Int)}, Inner r l → r.length = l.length
  | [], [], _ => rfl
  | _ :: _, _ :: _, h => by simp [Inner.len h.2]
  | [], _ :: _, h => h.elim
  | _ :: _, [], h => h.elim
theorem Inner.mem : ∀ {r l : List (Int × Int)}, Inner r l → ∀ y ∈ r, ∃ x ∈ l, x.1 ≤ y.1 ∧ y.1 ≤ y.2 ∧ y.2 ≤ x.2
  | [], [], _, y, hy => by cases hy
  | y :: r, x :: l, h, z, hz => by
    rcases List.mem_cons.1 hz with rfl | hz
    · exact ⟨x, by simp, h.1⟩
    · obtain ⟨a, h1, h2⟩ := Inner.mem h.2 z hz
      exact ⟨a, by simp [h1], h2⟩
  | [], _ :: _, h, _, _ => h.elim
  | _ :: _, [], h, _, _ => h.elim
theorem Inner.ins : ∀ {r l : List (Int × Int)} {ns : List Int}, Inner r l → Ins ns r → Ins ns l
  | [], [], _, _, h => h
  | _ :: _, _ :: _, n :: ns, h, h' => ⟨by have := h.1; have := h'.1; omega, Inner.ins h.2 h'.2⟩
  | _ :: _, _ :: _, [], _, h' => h'.elim
  | [], _ :: _, _, h, _ => h.elim
  | _ :: _, [], _, h, _ => h.elim
structure NarV (p p2 : Plate) (ice cr ice2 cr2 : List (Int × Int)) (l l2 : List Load) : Prop where
  s : p.str.1 ≤ p2.str.1 ∧ p2.str.1 ≤ p2.str.2 ∧ p2.str.2 ≤ p.str.2
  e : p2 = { p with str := p2.str }
  ice : Inner ice2 ice
  cr : Inner cr2 cr
  l : NarL l2 l
theorem NarV.tru {p p2 : Plate} {ice cr ice2 cr2 : List (Int × Int)} {l l2 : List Load} {t : Tru} (h : NarV p p2 ice cr ice2 cr2 l l2) (ht : TruV p2 ice2 cr2 l2 t) : TruV p ice cr l t :=
  ⟨by have := h.s; have := ht.st; omega, h.ice.ins ht.ice, h.cr.ins ht.cr, h.l.ws ht.ws⟩
theorem sum_shares {p p' : Plate} {m : Int} (hp : p.shares = p'.shares) : ∀ {ns : List Int} {l : List Load}, sumT p m ns l = sumT p' m ns l
  | _ :: _, _ :: _ => by simp only [sumT]; rw [sum_shares hp, hp]
  | [], _ => by simp [sumT]
  | _ :: _, [] => by simp [sumT]
theorem NarV.born {p p2 : Plate} {ice cr ice2 cr2 : List (Int × Int)} {l l2 : List Load} {t : Tru} (h : NarV p p2 ice cr ice2 cr2 l l2) {x y : Load} (h1 : y.at_ = x.at_) (h2 : y.st = x.st) : bornS p2 l2 t y = bornS p l t x := by
  have he := h.e
  obtain ⟨s, sh, cre, ne, ed, gr, lo, hi, so, wi⟩ := p
  obtain ⟨s2, sh2, cre2, ne2, ed2, gr2, lo2, hi2, so2, wi2⟩ := p2
  simp only [Plate.mk.injEq, true_and] at he
  obtain ⟨rfl, rfl, rfl, rfl, rfl, rfl, rfl, rfl, rfl⟩ := he
  unfold bornS
  rw [h1, h2, h.l.sum, sum_shares (p := ⟨s2, sh2, cre2, ne2, ed2, gr2, lo2, hi2, so2, wi2⟩) (p' := ⟨s, sh2, cre2, ne2, ed2, gr2, lo2, hi2, so2, wi2⟩) rfl]
  rfl
theorem NarV.load {p p2 : Plate} {ice cr ice2 cr2 : List (Int × Int)} {l l2 : List Load} (h : NarV p p2 ice cr ice2 cr2 l l2) (hl : ∀ x ∈ l, LoadV ice.length x) : ∀ y ∈ l2, LoadV ice2.length y := fun y hy => by
  obtain ⟨x, hx, h1, h2, h3, h4, h5⟩ := h.l.mem y hy
  have := hl x hx
  obtain ⟨a1, a2, a3, a4, a5, a6, a7⟩ := this
  have hlen := h.ice.len
  exact ⟨by omega, by omega, by omega, by omega, by omega, by omega, by omega⟩
theorem NarV.check {p p2 : Plate} {ice cr ice2 cr2 : List (Int × Int)} {l l2 : List Load} (h : NarV p p2 ice cr ice2 cr2 l l2) (hc : checkS p = 0) (hs : 1 ≤ p.str.1 ∧ p.str.2 ≤ 100000) : checkS p2 = 0 := by
  have h0 := h.s
  have h1 : faultS p.str.1 p.str.2 1 100000 = 0 := faultS_of (by omega)
  have h2 : faultS p2.str.1 p2.str.2 1 100000 = 0 := faultS_of (by omega)
  have he := h.e
  obtain ⟨s, sh, cre, ne, ed, gr, lo, hi, so, wi⟩ := p
  obtain ⟨s2, sh2, cre2, ne2, ed2, gr2, lo2, hi2, so2, wi2⟩ := p2
  simp only [Plate.mk.injEq, true_and] at he
  obtain ⟨rfl, rfl, rfl, rfl, rfl, rfl, rfl, rfl, rfl⟩ := he
  unfold checkS at hc ⊢
  simp only at h1 h2
  rw [if_neg (by simp [h1])] at hc
  rw [if_neg (by simp [h2])]
  exact hc
theorem NarV.road {p p2 : Plate} {ice cr ice2 cr2 : List (Int × Int)} {l l2 : List Load} (h : NarV p p2 ice cr ice2 cr2 l l2) (hM : MadeV p ice cr l) : checkAllS p2 ice2 cr2 = 0 := by
  have hV := hM.road
  have hcl := hM.cl
  have hil := hM.il
  refine roadS_of (h.check hM.pl ⟨hV.p.s1, hV.p.s3⟩) (by rw [h.ice.len]; omega) (fun y hy => ?_) (by rw [h.cr.len]; omega) fun y hy => ?_
  · obtain ⟨x, hx, h1⟩ := h.ice.mem y hy
    have := hV.ib x hx; omega
  · obtain ⟨x, hx, h1⟩ := h.cr.mem y hy
    have := hV.cb x hx; omega
theorem NarV.holds {p p2 : Plate} {ice cr ice2 cr2 : List (Int × Int)} {l l2 : List Load} (h : NarV p p2 ice cr ice2 cr2 l l2) (hM : MadeV p ice cr l) : holdsS p2 ice2 cr2 l2 = (l2.map (veS p2 ice2 cr2 l2), 0) := by
  have hll := hM.ll
  have := h.l.len
  unfold holdsS
  rw [if_neg (by simp [h.road hM]), if_neg (by simp [loadsS_of (by omega) (h.load hM.lb)])]
theorem NarV.ve {p p2 : Plate} {ice cr ice2 cr2 : List (Int × Int)} {l l2 : List Load} (h : NarV p p2 ice cr ice2 cr2 l l2) (hM : MadeV p ice cr l) {x y : Load} (hx : x ∈ l) (hy : y ∈ l2) (h1 : y.at_ = x.at_) (h2 : y.st = x.st) : veS p ice cr l x ≠ 3 → veS p ice cr l x = veS p2 ice2 cr2 l2 y := by
  have hV := hM.road
  have hV2 := checkAllS_ok (h.road hM)
  have hl2 := h.load hM.lb
  have hxl := hM.lb x hx
  have hyl := hl2 y hy
  have f1 := truth hV (h.tru (ext_tru (w := true) (m := y.at_) hV2 hl2)) hxl
  have f2 := truth hV (h.tru (ext_tru (w := false) (m := y.at_) hV2 hl2)) hxl
  rw [← h.born h1 h2, ext_born hV2 hyl] at f1 f2
  have hi := be_imp hV2 hl2 hyl
  unfold veS
  cases g1 : beS true p ice cr l x <;> cases g2 : beS false p ice cr l x <;> cases g3 : beS true p2 ice2 cr2 l2 y <;> cases g4 : beS false p2 ice2 cr2 l2 y <;> simp_all
end Go.Sas
namespace Go.Sas
open Go.Proofs
set_option maxRecDepth 100000
abbrev ldC (x : Load) : List AV := [I x.at_, I x.w.1, I x.w.2, I x.st]
theorem Elems_ldC (l : List Load) : Elems 4 (l.map ldV) (l.flatMap ldC) := Elems_map (f := ldV) (g := ldC) (sz := 4) (fun _ => rfl) (fun _ => rfl) (fun _ => rfl) l
end Go.Sas
