/-
probe.Write as a contract of the machine.
Conditions: none.
-/
import Derived.Test.YtpokfjhlilbpfaaDoorXDd
import Derived.Test.YtpokfjhlilbpfaaDoorQPC1
set_option linter.unusedVariables false
set_option linter.unusedSimpArgs false
namespace Go.Sas
open Go.Proofs Go.RowKit
def writeK (t : Trk) : List UInt8 := if checkT t = 0 then textT t else []
set_option maxHeartbeats 1000000 in
set_option maxRecDepth 100000 in
theorem w8 (t : Trk) (hol : t.ec.length ≤ 9223372036854775807) (H : AHeap) {g : Nat} {ob : Obj} (hX : Pins H g ob) (hg : Tryd.prog.globalNamed "internal/strconv.uint64pow10" = some g) (hob : TabOb ob)
    {Kk : AV → AHeap → Prop} (h : Kk (.tup [.lit (.string ⟨(writeK t).toArray⟩), I (checkT t)]) H) : ACalls Tryd.prog 28 [tkV t.sp.1 t.sp.2 (.vs 4 (t.ec.map ecV))] H Kk := by
  refine ACalls.low (by rfl) fun st w vals hH hr => ?_
  obtain ⟨so, rfl, h6, hp⟩ := tk_parts hr
  have hchk : ∀ w1, Low w.heap.size w w1 → Calls Tryd.prog 48 #[tkW t.sp.1 t.sp.2 so] w1 fun x w' => x = .returned (.int .i64 (checkT t)) ∧ Low w1.heap.size w1 w' := fun w1 hl => by
    refine (ACalls.world (Kk := fun r => r = I (checkT t)) (p48 t hol [] rfl) hH hl hp).mono ?_
    rintro x w' ⟨v, r, st', rfl, hv, rfl, hlw⟩
    exact ⟨by rw [relI hv], hlw⟩
  by_cases he : checkT t = 0
  · have hV := checkT_ok he
    rw [he] at hchk
    have hh : ∀ n ∈ [t.sp.1, t.sp.2], I64 n := by
      have n2 := hV.s1
      have n3 := hV.s2
      exact mem_2 ⟨by omega, by omega⟩ ⟨by omega, by omega⟩
    have ho : ∀ x ∈ t.ec.map o4, I64 x.1 ∧ I64 x.2.1 ∧ I64 x.2.2.1 ∧ I64 x.2.2.2 := fun x hx => by
      obtain ⟨o, ho, rfl⟩ := List.mem_map.1 hx
      have := hV.all o ho
      exact ⟨⟨by simp only [o4]; omega, by simp only [o4]; omega⟩, ⟨by simp only [o4]; omega, by simp only [o4]; omega⟩, ⟨by simp only [o4]; omega, by simp only [o4]; omega⟩, by simp only [o4]; omega, by simp only [o4]; omega⟩
    have hW : Calls Tryd.prog 28 #[tkW t.sp.1 t.sp.2 so] w fun x w' => x = .returned (.tuple #[.string ⟨(textK t).toArray⟩, .int .i64 0]) ∧ Low w.heap.size w w' := by
      simp only [RelV] at h6
      obtain ⟨a6, c6, us6, rfl, _, hu6, _, hd6⟩ := h6
      have hu6 := relL_map (fun x v hx => relV_ec hx) hu6
      subst hu6
      simp only [List.length_map] at hchk ⊢
      have hW := tWrite t.sp.1 t.sp.2 (t.ec.map o4) a6 c6 w (by rw [List.length_map]; exact hchk) (fun w' hw' => tab_low hH hX hg hob hw') (textK_len hh ho hV.len) hh ho (by rw [List.length_map]; have := hV.len; omega)
        (fun i x hx => by
          rw [List.getElem?_map, Option.map_eq_some_iff] at hx
          obtain ⟨o, hx, rfl⟩ := hx
          obtain ⟨b6, o6, rfl, hD6⟩ := hd6 (by intro e; rw [List.map_eq_nil_iff] at e; rw [e] at hx; simp at hx)
          obtain ⟨q1, q2, q3, q4⟩ := flat_ec hx
          exact ⟨b6, o6, rfl, (hH.rd _ _ _ (hD6 _ _ q1)).2.1, (hH.rd _ _ _ (hD6 _ _ q2)).2.1, (hH.rd _ _ _ (hD6 _ _ q3)).2.1, (hH.rd _ _ _ (hD6 _ _ q4)).2.1⟩)
      rw [List.length_map] at hW
      exact hW
    refine hW.mono ?_
    rintro x w' ⟨rfl, hlw⟩
    refine ⟨_, _, rfl, hlw, ?_, h⟩
    rw [he]
    simp only [RelV]
    refine ⟨_, rfl, _, _, rfl, ?_, _, _, rfl, by simp only [RelV], by simp only [RelL]⟩
    simp only [RelV, writeK, he, if_true, textK_textT]
  · have hW := tWriteE t.sp.1 t.sp.2 (checkT t) so w he hchk
    refine hW.mono ?_
    rintro x w' ⟨rfl, hlw⟩
    refine ⟨_, _, rfl, hlw, ?_, h⟩
    simp only [RelV]
    refine ⟨_, rfl, _, _, rfl, ?_, _, _, rfl, by simp only [RelV], by simp only [RelL]⟩
    simp only [RelV, writeK, he, if_false]
end Go.Sas
