/-
strings.Split at one byte as a contract of the machine.
strconv.Atoi as a contract of the machine.
Conditions: none.
-/
import Derived.Test.YtpokfjhlilbpfaaGreatDoorXBg
import Derived.Test.YtpokfjhlilbpfaaGreatDoorQXM5
import Derived.Test.YtpokfjhlilbpfaaGreatDoorQSW1
import Derived.Shelf.Strconv.AtoiAll
set_option linter.unusedVariables false
set_option linter.unusedSimpArgs false
namespace Go.Sas
open Go.Proofs Go.RowKit
def strA (x : List UInt8) : AV := .lit (.string ⟨x.toArray⟩)
theorem toB (s : ByteArray) : (ByteArray.mk s.data.toList.toArray) = s := by
  cases s; simp
theorem splitB_len (s : List UInt8) (c : UInt8) : (Lib.splitB ⟨#[c]⟩ 0 (Lib.countB ⟨s.toArray⟩ ⟨#[c]⟩) ⟨s.toArray⟩).map (·.data.toList) = splitL c s := by
  rw [Lib.splitB_data]
  exact split_one c s
theorem splitL_cnt (c : UInt8) (s : List UInt8) : (splitL c s).length = s.count c + 1 := by
  induction hn : s.length using Nat.strongRecOn generalizing s with
  | _ n ih =>
    rcases miss_or_hit c s with ⟨_, h2⟩ | ⟨x, r, h1, h2, _⟩
    · rw [splitL_miss h2, count_no h2]; rfl
    · rw [h1, splitL_hit h2, List.length_cons, ih r.length (by rw [← hn, h1]; simp; omega) r rfl, List.count_append, count_no h2, List.count_cons_self]
      omega
set_option maxRecDepth 100000 in
theorem w36 (s : List UInt8) (c : UInt8) (H : AHeap) {m : Int} (hs : s.length < 4294967281) (hX : ∀ st w, RelH st w H → w.cell? ⟨1, 0, none⟩ = some (.int .i64 m))
    {Kk : AV → AHeap → Prop} (h : Kk (.vs 1 ((splitL c s).map strA)) H) : ACalls Tryz.prog 33 [strA s, strA [c]] H Kk := by
  refine ACalls.kitN (by rfl) fun st w vals hH hr => ?_
  obtain ⟨v1, l1, rfl, h1, hr⟩ := hr
  obtain ⟨v2, l2, rfl, h2, hr⟩ := hr
  simp only [RelL] at hr
  subst hr
  simp only [strA, RelV] at h1 h2
  subst h1; subst h2
  refine (Tryz.strings_Split ⟨s.toArray⟩ ⟨#[c]⟩ m w (by show s.toArray.size < _; simpa using hs) (hX _ _ hH) (Nat.le_refl 1)).mono ?_
  rintro x w' ⟨rfl, rfl⟩
  refine ⟨_, _, rfl, (Below.refl _ w).alloc (Nat.le_refl _) _, ?_, h⟩
  have e := splitB_len s c
  generalize hl : Lib.splitB ⟨#[c]⟩ 0 (Lib.countB ⟨s.toArray⟩ ⟨#[c]⟩) ⟨s.toArray⟩ = l at e ⊢
  have hc : Lib.countB ⟨s.toArray⟩ ⟨#[c]⟩ = s.count c := count_one c s
  have hn : l.length = s.count c + 1 := by rw [← splitL_cnt, ← e, List.length_map]
  have e2 : (splitL c s).map strA = l.map fun s => .lit (.string s) := by
    rw [← e, List.map_map]
    refine List.map_congr_left fun b _ => ?_
    show AV.lit (.string ⟨b.data.toList.toArray⟩) = _
    rw [toB]
  rw [e2, hc, ← hn]
  refine relS (Nat.le_refl _) fun i b hi => ?_
  rw [Lib.cell_of_heap (heap_alloc_new w _)]
  simp [hi]
end Go.Sas
namespace Go.Proofs
open Go.Shelf
end Go.Proofs
namespace Go.Sas
open Go.Proofs Go.RowKit
/-- an error's variable -/
def ErrOb (ob : Obj) : Prop := ∃ cs T fz ev, ob = .cells cs T fz ∧ cs[0]? = some ev ∧ (ev = .nilIface ∨ ∃ te pe, ev = .iface te pe)
def AtoiQ (s : List UInt8) (r : AV) : Prop := match Lib.atoiAll s with
  | .ok v => r = .tup [I v, .lit .nilIface]
  | _ => ∃ n : Int, r = .tup [I n, .nni]
theorem below_bytes {w w' : World} {T : TypeId} (h : w' = w ∨ ∃ t, w' = Lib.bytesWorld w T t) : Below w.heap.size w w' := by
  rcases h with rfl | ⟨t, rfl⟩
  · exact Below.refl _ _
  · exact Lib.bytesWorld_below _ _ _
set_option maxRecDepth 100000 in
theorem w77 (s : List UInt8) (H : AHeap) {i15 i16 : Nat} {o15 o16 : Obj} (hs : s.length ≤ 1000000) (hX : H[i15]? = some (rawG i15 (Tryz.laysC172_ren.g 15) o15)) (ho : ErrOb o15) (hX2 : H[i16]? = some (rawG i16 (Tryz.laysC172_ren.g 16) o16)) (ho2 : ErrOb o16)
    {Kk : AV → AHeap → Prop} (h : ∀ r, AtoiQ s r → Kk r H) : ACalls Tryz.prog 52 [strA s] H Kk := by
  refine ACalls.kit (by rfl) fun st w vals hH hr => ?_
  obtain ⟨v1, l1, rfl, h1, hr⟩ := hr
  simp only [RelL] at hr
  subst hr
  simp only [strA, RelV] at h1
  subst h1
  have hsz : (ByteArray.mk s.toArray).size = s.length := by show s.toArray.size = _; simp
  unfold AtoiQ at h
  rcases hq : Lib.atoiAll s with v | _ | _
  · rw [hq] at h
    refine (Any.strconv_Atoi_ok Tryz.laysC172 ⟨s.toArray⟩ (by omega) v hq w).mono ?_
    rintro x w' ⟨rfl, hw⟩
    refine ⟨_, _, rfl, below_bytes hw, ?_, h _ rfl⟩
    simp only [RelV]
    exact ⟨_, rfl, _, _, rfl, by simp only [RelV], _, _, rfl, by simp only [RelV], by simp only [RelL]⟩
  · rw [hq] at h
    obtain ⟨cs, T, fz, ev, rfl, hc, hev⟩ := ho
    refine (Any.strconv_Atoi_syntax Tryz.laysC172 ⟨s.toArray⟩ (by omega) hq ev w (rawG_cell hH hX ⟨cs, T, fz, rfl, hc⟩) hev).mono ?_
    rintro x w' ⟨N, rfl, _, _, hw⟩
    refine ⟨_, _, rfl, hw, ?_, h _ ⟨0, rfl⟩⟩
    simp only [RelV]
    exact ⟨_, rfl, _, _, rfl, by simp only [RelV], _, _, rfl, by simp only [RelV]; exact ⟨_, _, rfl⟩, by simp only [RelL]⟩
  · rw [hq] at h
    obtain ⟨cs, T, fz, ev, rfl, hc, hev⟩ := ho2
    refine (Any.strconv_Atoi_range Tryz.laysC172 ⟨s.toArray⟩ (by omega) hq ev w (rawG_cell hH hX2 ⟨cs, T, fz, rfl, hc⟩) hev).mono ?_
    rintro x w' ⟨N, rfl, _, _, hw⟩
    refine ⟨_, _, rfl, hw, ?_, h _ ⟨Lib.atoiSat s, rfl⟩⟩
    simp only [RelV]
    exact ⟨_, rfl, _, _, rfl, by simp only [RelV], _, _, rfl, by simp only [RelV]; exact ⟨_, _, rfl⟩, by simp only [RelL]⟩
end Go.Sas
