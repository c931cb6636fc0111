/-
Freight: a part of a freight: plain laws.
Conditions: none.
-/
import Derived.Test.YthpjckoklnhbcaaZM
import Derived.Test.YthpjckoklnhbcaaZ14
set_option linter.unusedVariables false
set_option linter.unusedSimpArgs false
namespace Go.Sas
theorem checkF_of {f : Frt} (h : FrtV f) : checkF f = 0 := by
  have h1 := h.c1; have h2 := h.c2; have h3 := h.fi; have h4 := h.la; have h5 := h.o1; have h6 := h.o2
  have e1 : firstE capE f.caps = 0 := firstE_all fun x hx => faultF_ok' (by have := h.cb x hx; omega)
  have e2 : orsF f.ords = 0 := by
    unfold orsF
    rw [if_neg (by omega), if_neg (by omega)]
    exact firstE_all fun o ho => by have := h.ob o ho; unfold ordE; rw [if_neg (by omega), if_neg (by omega)]
  have e3 : faultF f.fi.1 f.fi.2 0 (f.caps.length - 1) = 0 := faultF_ok' (by omega)
  have e4 : faultF f.la.1 f.la.2 0 (f.caps.length - 1) = 0 := faultF_ok' (by omega)
  unfold checkF
  rw [if_neg (by omega), if_neg (by omega), e1, e3, e4, e2]
  rfl
/-- a freight is a part of another -/
structure PartF (f f' : Frt) : Prop where
  fi : f.fi.1 ≤ f'.fi.1 ∧ f'.fi.1 ≤ f'.fi.2 ∧ f'.fi.2 ≤ f.fi.2
  la : f.la.1 ≤ f'.la.1 ∧ f'.la.1 ≤ f'.la.2 ∧ f'.la.2 ≤ f.la.2
  len : f'.caps.length = f.caps.length
  cap : ∀ (i : Nat) (x y : Int × Int), f.caps[i]? = some x → f'.caps[i]? = some y → x.1 ≤ y.1 ∧ y.1 ≤ y.2 ∧ y.2 ≤ x.2
  ords : f'.ords = f.ords
theorem PartF.valid {f f' : Frt} (hV : FrtV f) (h : PartF f f') : FrtV f' := by
  have h1 := hV.c1; have h2 := hV.c2; have h3 := hV.fi; have h4 := hV.la; have h5 := h.fi; have h6 := h.la; have h7 := h.len
  refine ⟨by omega, by omega, fun y hy => ?_, by omega, by omega, by rw [h.ords]; exact hV.o1, by rw [h.ords]; exact hV.o2, by rw [h.ords]; exact hV.ob⟩
  obtain ⟨i, hi⟩ := List.mem_iff_getElem?.1 hy
  have hlt := (List.getElem?_eq_some_iff.1 hi).1
  have hx := List.getElem?_eq_getElem (l := f.caps) (i := i) (by omega)
  have h8 := h.cap i _ _ hx hi
  have h9 := hV.cb _ (List.mem_of_getElem? hx)
  omega
theorem tellW_part {f f' : Frt} {w : Win} {p : List Nat} (h : PartF f f') : tellW f' w p = tellW f w p := by unfold tellW; rw [h.ords, h.len]
theorem PartF.worst {f f' : Frt} (hV : FrtV f) (h : PartF f f') : RoomLe f.caps.length (worstW f) (worstW f') := by
  refine roomLe_of h.fi.2.2 h.la.1 (fun d x y hx hy => ?_) (by simp [worstW, h.len]) (h.valid hV).worst
  simp only [worstW, List.getElem?_map] at hx hy
  rcases e : f.caps[d]? with _ | c
  · rw [e] at hx; simp at hx
  rcases e' : f'.caps[d]? with _ | c'
  · rw [e'] at hy; simp at hy
  rw [e] at hx; rw [e'] at hy
  simp at hx hy; subst hx hy
  exact (h.cap d c c' e e').1
theorem PartF.best {f f' : Frt} (hV : FrtV f) (h : PartF f f') : RoomLe f.caps.length (bestW f') (bestW f) := by
  refine roomLe_of h.fi.1 h.la.2.2 (fun d x y hx hy => ?_) (by simp [bestW, h.len]) hV.best
  simp only [bestW, List.getElem?_map] at hx hy
  rcases e : f.caps[d]? with _ | c
  · rw [e] at hy; simp at hy
  rcases e' : f'.caps[d]? with _ | c'
  · rw [e'] at hx; simp at hx
  rw [e] at hy; rw [e'] at hx
  simp at hx hy; subst hx hy
  exact (h.cap d c c' e e').2.2
/-- a part's range lies within -/
theorem PartF.range {f f' : Frt} {p : List Nat} (hV : FrtV f) (h : PartF f f') (hp : p.Nodup) :
    costS f.ords f.caps.length (bestW f) p ≤ costS f'.ords f'.caps.length (bestW f') p ∧ costS f'.ords f'.caps.length (worstW f') p ≤ costS f.ords f.caps.length (worstW f) p := by
  have hV' := h.valid hV
  rw [h.ords, h.len]
  exact ⟨cost_mono hV hV'.best hV.best hp (h.best hV), cost_mono hV hV.worst hV'.worst hp (h.worst hV)⟩
/-- a part keeps what is promised -/
theorem PartF.prom {f f' : Frt} {p : List Nat} (hV : FrtV f) (h : PartF f f') (hp : p.Nodup) {k : Nat} {o : Ord} (ho : f.ords[k]? = some o) :
    ∃ m m', (promS f p)[k]? = some m ∧ (promS f' p)[k]? = some m' ∧ (m ≠ 3 → m' = m) := by
  have hV' := h.valid hV
  obtain ⟨x, x', h1, h2, h3, h4, h5, _⟩ := tell_mono hV hV.worst hV'.worst hp (h.worst hV) ho
  obtain ⟨y', y, g1, g2, g3, g4, g5, _⟩ := tell_mono hV hV'.best hV.best hp (h.best hV) ho
  obtain ⟨z, z', k1, k2, k3, k4, k5, _⟩ := tell_mono hV hV'.worst hV'.best hp (by have := worst_le hV' (best_win hV'); rw [h.len] at this; exact this) ho
  rw [h2] at k1; cases k1
  rw [g1] at k2; cases k2
  refine ⟨_, _, prom_get ho h1 g2, prom_get (by rw [h.ords]; exact ho) (by rw [tellW_part h]; exact h2) (by rw [tellW_part h]; exact g1), fun hm => ?_⟩
  split at hm
  · rename_i e; rw [if_pos e, if_pos (by omega)]
  · split at hm
    · rename_i e e2; rw [if_neg e, if_pos e2, if_neg (by omega), if_pos (by omega)]
    · omega
end Go.Sas
