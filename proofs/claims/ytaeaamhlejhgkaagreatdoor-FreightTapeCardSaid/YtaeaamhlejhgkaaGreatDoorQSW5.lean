/-
strconv.Atoi as a contract of the machine.
Conditions: none.
-/
import Derived.Test.YtaeaamhlejhgkaaGreatDoorXB
import Derived.Test.YtaeaamhlejhgkaaGreatDoorQSW4
import Derived.Shelf.Strconv.AtoiAll
set_option linter.unusedVariables false
set_option linter.unusedSimpArgs false
namespace Go.Proofs
open Go.Shelf
end Go.Proofs
namespace Go.Sas
open Go.Proofs Go.RowKit
/-- an error's variable -/
def ErrOb (ob : Obj) : Prop := ∃ cs T fz ev, ob = .cells cs T fz ∧ cs[0]? = some ev ∧ (ev = .nilIface ∨ ∃ te pe, ev = .iface te pe)
def AtoiQ (s : List UInt8) (r : AV) : Prop := match Lib.atoiAll s with
  | .ok v => r = .tup [I v, .lit .nilIface]
  | _ => ∃ n : Int, r = .tup [I n, .nni]
theorem below_bytes {w w' : World} {T : TypeId} (h : w' = w ∨ ∃ t, w' = Lib.bytesWorld w T t) : Below w.heap.size w w' := by
  rcases h with rfl | ⟨t, rfl⟩
  · exact Below.refl _ _
  · exact Lib.bytesWorld_below _ _ _
set_option maxRecDepth 100000 in
theorem w77 (s : List UInt8) (H : AHeap) {i15 i16 : Nat} {o15 o16 : Obj} (hs : s.length ≤ 1000000) (hX : H[i15]? = some (rawG i15 (Tryz.laysC172_ren.g 15) o15)) (ho : ErrOb o15) (hX2 : H[i16]? = some (rawG i16 (Tryz.laysC172_ren.g 16) o16)) (ho2 : ErrOb o16)
    {Kk : AV → AHeap → Prop} (h : ∀ r, AtoiQ s r → Kk r H) : ACalls Tryz.prog 77 [strA s] H Kk := by
  refine ACalls.kit (by rfl) fun st w vals hH hr => ?_
  obtain ⟨v1, l1, rfl, h1, hr⟩ := hr
  simp only [RelL] at hr
  subst hr
  simp only [strA, RelV] at h1
  subst h1
  have hsz : (ByteArray.mk s.toArray).size = s.length := by show s.toArray.size = _; simp
  unfold AtoiQ at h
  rcases hq : Lib.atoiAll s with v | _ | _
  · rw [hq] at h
    refine (Any.strconv_Atoi_ok Tryz.laysC172 ⟨s.toArray⟩ (by omega) v hq w).mono ?_
    rintro x w' ⟨rfl, hw⟩
    refine ⟨_, _, rfl, below_bytes hw, ?_, h _ rfl⟩
    simp only [RelV]
    exact ⟨_, rfl, _, _, rfl, by simp only [RelV], _, _, rfl, by simp only [RelV], by simp only [RelL]⟩
  · rw [hq] at h
    obtain ⟨cs, T, fz, ev, rfl, hc, hev⟩ := ho
    refine (Any.strconv_Atoi_syntax Tryz.laysC172 ⟨s.toArray⟩ (by omega) hq ev w (rawG_cell hH hX ⟨cs, T, fz, rfl, hc⟩) hev).mono ?_
    rintro x w' ⟨N, rfl, _, _, hw⟩
    refine ⟨_, _, rfl, hw, ?_, h _ ⟨0, rfl⟩⟩
    simp only [RelV]
    exact ⟨_, rfl, _, _, rfl, by simp only [RelV], _, _, rfl, by simp only [RelV]; exact ⟨_, _, rfl⟩, by simp only [RelL]⟩
  · rw [hq] at h
    obtain ⟨cs, T, fz, ev, rfl, hc, hev⟩ := ho2
    refine (Any.strconv_Atoi_range Tryz.laysC172 ⟨s.toArray⟩ (by omega) hq ev w (rawG_cell hH hX2 ⟨cs, T, fz, rfl, hc⟩) hev).mono ?_
    rintro x w' ⟨N, rfl, _, _, hw⟩
    refine ⟨_, _, rfl, hw, ?_, h _ ⟨Lib.atoiSat s, rfl⟩⟩
    simp only [RelV]
    exact ⟨_, rfl, _, _, rfl, by simp only [RelV], _, _, rfl, by simp only [RelV]; exact ⟨_, _, rfl⟩, by simp only [RelL]⟩
end Go.Sas
