/-
Freight: of a plan no unit is forgotten, and no unit that could go stays: plain laws.
Conditions: none.
-/
import Derived.Test.YthpjckoklnhbcaaZM
set_option linter.unusedVariables false
set_option linter.unusedSimpArgs false
namespace Go.Sas
theorem tellW_row {f : Frt} {w : Win} {p : List Nat} {k : Nat} {o : Ord} (ho : f.ords[k]? = some o) :
    (tellW f w p)[k]? = some (tellO o ((List.range f.caps.length).map (spreadG (roomW w) p (unitS f.ords) f.caps.length k))) := by
  have hk := (List.getElem?_eq_some_iff.1 ho).1
  have hrow : (rowsF f.ords.length f.caps.length (spreadG (roomW w) p (unitS f.ords) f.caps.length))[k]? = some ((List.range f.caps.length).map (spreadG (roomW w) p (unitS f.ords) f.caps.length k)) := by simp [rowsF, hk]
  unfold tellW tellS
  rw [List.getElem?_map, (List.getElem?_zip_eq_some (z := (o, (List.range f.caps.length).map (spreadG (roomW w) p (unitS f.ords) f.caps.length k)))).2 ⟨ho, hrow⟩]
  rfl
theorem lastP_ge : ∀ {r : List Int} {d l : Int}, 0 ≤ l → 0 ≤ d → 0 ≤ lastP d r l
  | [], d, l, h, _ => h
  | x :: r, d, l, h, hd => by
    simp only [lastP]
    exact lastP_ge (by split <;> omega) (by omega)
theorem lastP_pos : ∀ {r : List Int} {d l : Int}, 0 ≤ d → 0 < sumI r → 0 ≤ lastP d r l
  | [], d, l, _, h => by simp [sumI] at h
  | x :: r, d, l, hd, h => by
    simp only [sumI] at h
    simp only [lastP]
    by_cases hx : 0 < x
    · rw [if_pos hx]; exact lastP_ge hd (by omega)
    · rw [if_neg hx]; exact lastP_pos (by omega) (by omega)
/-- each unit is in time, late or lost -/
theorem whole_dlv {f : Frt} {w : Win} {p : List Nat} (hV : FrtV f) (hw : WinV f w) (hp : p.Nodup) {k : Nat} {o : Ord} (ho : f.ords[k]? = some o) :
    ∃ x, (tellW f w p)[k]? = some x ∧ 0 ≤ x.on ∧ 0 ≤ x.late ∧ 0 ≤ x.lost ∧ x.on + x.late + x.lost = o.u ∧ (x.day = -1 ↔ 0 < x.lost) := by
  obtain ⟨x, h1, h2, h3, h4⟩ := tellW_get (f := f) hV.u0 (roomW_nonneg (hw.bnd hV)) hp ho
  have hx := tellW_row (w := w) (p := p) ho
  rw [h1] at hx
  have hx := Option.some.inj hx
  have m1 := cumP_bnd hV.u0 k (p := p) (U := 0) (S := sumR (roomW w) (min (o.d.toNat + 1) f.caps.length))
  have m2 := cumP_bnd hV.u0 k (p := p) (U := 0) (S := sumR (roomW w) f.caps.length)
  have m3 := cumP_mono hV.u0 (sumR_mono (roomW_nonneg (hw.bnd hV)) (show min (o.d.toNat + 1) f.caps.length ≤ f.caps.length by omega)) k (p := p) (U := 0)
  rw [unitS_get ho] at m1 m2
  obtain ⟨⟨ho1, _⟩, _⟩ := OrdV_of hV ho
  refine ⟨x, h1, by omega, by omega, by omega, by omega, ?_⟩
  obtain ⟨row, hrow⟩ : ∃ r, r = (List.range f.caps.length).map (spreadG (roomW w) p (unitS f.ords) f.caps.length k) := ⟨_, rfl⟩
  rw [← hrow] at hx
  have e1 : x.lost = o.u - sumI row := by rw [hx]; rfl
  have e2 : x.day = if o.u - sumI row = 0 then lastP 0 row (-1) else -1 := by rw [hx]; rfl
  have h5 : 0 ≤ x.lost := by omega
  constructor
  · intro hd
    by_cases hz : o.u - sumI row = 0
    · rw [if_pos hz] at e2
      have := lastP_pos (r := row) (d := 0) (l := -1) (Int.le_refl _) (by omega)
      omega
    · omega
  · intro hl
    rw [if_neg (by omega)] at e2; exact e2
theorem sumI_lt {α : Type} {f g : α → Int} : ∀ {q : List α}, (∀ y ∈ q, f y ≤ g y) → (∃ k ∈ q, f k < g k) → sumI (q.map f) < sumI (q.map g)
  | [], _, ⟨k, hk, _⟩ => by simp at hk
  | y :: q, h, ⟨k, hk, hl⟩ => by
    simp only [List.map_cons, sumI]
    have h1 := h y (by simp)
    have h3 : sumI (q.map f) ≤ sumI (q.map g) := by
      have key : ∀ q : List α, (∀ y ∈ q, f y ≤ g y) → sumI (q.map f) ≤ sumI (q.map g) := by
        intro q; induction q with
        | nil => intro _; simp
        | cons a q ih => intro h; simp only [List.map_cons, sumI]; have := ih fun y hy => h y (by simp [hy]); have := h a (by simp); omega
      exact key q fun y hy => h y (by simp [hy])
    rcases List.mem_cons.1 hk with rfl | hk
    · omega
    · have := sumI_lt (q := q) (fun y hy => h y (by simp [hy])) ⟨k, hk, hl⟩
      omega
theorem sumU_eq {u : Nat → Int} : ∀ {p : List Nat}, sumU u p = sumI (p.map u)
  | [] => rfl
  | j :: p => by simp only [sumU, List.map_cons, sumI, sumU_eq (p := p)]
theorem mulX {x y X Y : Int} (hx : 0 ≤ x ∧ x ≤ X) (hy : 0 ≤ y ∧ y ≤ Y) : 0 ≤ x * y ∧ x * y ≤ X * Y :=
  ⟨Int.mul_nonneg hx.1 hy.1, Int.mul_le_mul hx.2 hy.2 hy.1 (by omega)⟩
/-- fines are bounded -/
theorem fines_bnd {f : Frt} {w : Win} {p : List Nat} (hV : FrtV f) (hw : WinV f w) (hp : p.Nodup) {fl : List Int} (hfl : fl = (f.ords.zip (rowsF f.ords.length f.caps.length (spreadG (roomW w) p (unitS f.ords) f.caps.length))).map fun q => fineO q.1 (tellO q.1 q.2)) (j : Nat) :
    0 ≤ sumI (fl.take j) ∧ sumI (fl.take j) ≤ 12000000000000 := by
  have hb : ∀ x ∈ fl.take j, 0 ≤ x ∧ x ≤ 2000000000000 := fun x hx => by
    have hx := List.mem_of_mem_take hx
    obtain ⟨k, hk⟩ := List.mem_iff_getElem?.1 hx
    have hk2 : k < f.ords.length := by
      have := (List.getElem?_eq_some_iff.1 hk).1
      rw [hfl] at this; simp [rowsF] at this; omega
    obtain ⟨o, ho⟩ : ∃ o, f.ords[k]? = some o := ⟨_, List.getElem?_eq_getElem hk2⟩
    obtain ⟨y, h1, h2, h3, h4, h5, _⟩ := whole_dlv hV hw hp ho
    have h6 := cost_get ho h1
    rw [← hfl, hk] at h6
    cases h6
    have h7 := OrdV_of hV ho
    have h8 := mulX (x := y.late) (X := 1000000) (y := o.l) (Y := 1000000) (by omega) (by omega)
    have h9 := mulX (x := y.lost) (X := 1000000) (y := o.s) (Y := 1000000) (by omega) (by omega)
    unfold fineO; omega
  have h := sumI_bnd hb
  have hl : (fl.take j).length ≤ 6 := by
    have : fl.length = f.ords.length := by rw [hfl]; simp [rowsF]
    have := hV.o2
    simp; omega
  omega
/-- where an order loses units, all that may go goes -/
theorem whole_room {f : Frt} {w : Win} {p : List Nat} (hV : FrtV f) (hw : WinV f w) (hp : p.Perm (List.range f.ords.length)) {k : Nat} {o : Ord} {x : Dlv} (ho : f.ords[k]? = some o) (hx : (tellW f w p)[k]? = some x) (hl : 0 < x.lost) {d : Nat} (hd : d < f.caps.length) :
    sumI ((List.range f.ords.length).map fun k => spreadG (roomW w) p (unitS f.ords) f.caps.length k d) = roomW w d := by
  have hR := roomW_nonneg (hw.bnd hV)
  have hnd : p.Nodup := hp.nodup_iff.2 List.nodup_range
  rw [sumI_perm (hp.symm.map _)]
  have hform := (days_form hV.u0 hR hnd f.caps.length).2
  have e3 : sumI (p.map fun k => spreadG (roomW w) p (unitS f.ords) f.caps.length k d) = sumI (p.map (cumP (unitS f.ords) (sumR (roomW w) (d + 1)) p 0)) - sumI (p.map (cumP (unitS f.ords) (sumR (roomW w) d) p 0)) := by
    have key : ∀ q : List Nat, (∀ k ∈ q, k ∈ p) → sumI (q.map fun k => spreadG (roomW w) p (unitS f.ords) f.caps.length k d) = sumI (q.map (cumP (unitS f.ords) (sumR (roomW w) (d + 1)) p 0)) - sumI (q.map (cumP (unitS f.ords) (sumR (roomW w) d) p 0)) := by
      intro q
      induction q with
      | nil => intro _; simp [sumI]
      | cons x q ih =>
        intro h
        simp only [List.map_cons, sumI]
        rw [ih fun k hk => h k (by simp [hk])]
        have := hform x d
        rw [if_pos ⟨h x (by simp), hd⟩] at this
        simp only [spreadG]
        omega
    exact key p fun _ h => h
  rw [e3, cumP_total hnd, cumP_total hnd]
  have hk : k < f.ords.length := (List.getElem?_eq_some_iff.1 ho).1
  have hkp : k ∈ p := hp.mem_iff.2 (List.mem_range.2 hk)
  obtain ⟨x2, h1, h2, h3, h4⟩ := tellW_get (f := f) hV.u0 hR hnd ho
  rw [hx] at h1; cases h1
  have h5 : sumI (p.map (cumP (unitS f.ords) (sumR (roomW w) f.caps.length) p 0)) < sumI (p.map (unitS f.ords)) := sumI_lt (fun y _ => (cumP_bnd hV.u0 y).2) ⟨k, hkp, by rw [unitS_get ho]; omega⟩
  rw [cumP_total hnd, ← sumU_eq] at h5
  have h6 := sumR_nonneg hR f.caps.length
  have h7 := sumR_mono hR (show d + 1 ≤ f.caps.length by omega)
  have h8 := sumR_nonneg hR d
  have h9 := hR d
  simp only [sumR] at h7 ⊢
  omega
end Go.Sas
