/-
probe.Write: what it writes: contract on worlds.
Conditions: none.
-/
import Derived.Test.YtpokfjhlilbpfaaDoorXKd
set_option linter.unusedVariables false
set_option linter.unusedSimpArgs false
namespace Go.Sas
open Go.Proofs Go.RowKit
def echB (o : Int × Int × Int × Int) : List UInt8 := rowB [101, 99, 104, 111] [o.1, o.2.1, o.2.2.1, o.2.2.2] ++ [10]
def radB (a b : Int) : List UInt8 := rowB [114, 97, 100, 97, 114] [a, b] ++ [10]
def trkB (a b : Int) (os : List (Int × Int × Int × Int)) : List UInt8 := radB a b ++ os.flatMap echB
/-- what was there stands, but for the tape -/
structure Low (B : Nat) (w w' : World) : Prop where
  os : w'.os = w.os
  output : w'.output = w.output
  size : w.heap.size ≤ w'.heap.size
  block : ∀ k, k < B → w'.heap[k]? = w.heap[k]?
theorem Low.of {B : Nat} {w w' : World} (h : Below B w w') : Low B w w' := ⟨h.os, h.output, h.size, h.block⟩
theorem Low.trans {B : Nat} {a b c : World} (h : Low B a b) (k : Low B b c) : Low B a c :=
  ⟨k.os.trans h.os, k.output.trans h.output, Nat.le_trans h.size k.size, fun i hi => (k.block i hi).trans (h.block i hi)⟩
theorem Low.mono {B B' : Nat} {w w' : World} (h : Low B w w') (hB : B' ≤ B) : Low B' w w' := ⟨h.os, h.output, h.size, fun k hk => h.block k (Nat.lt_of_lt_of_le hk hB)⟩
theorem cellB {w w' : World} (h : Low w.heap.size w w') {b o : Nat} {c : Value} (hc : w.cell? ⟨b, o, none⟩ = some c) : w'.cell? ⟨b, o, none⟩ = some c := by
  have hb : b < w.heap.size := by
    rcases Nat.lt_or_ge b w.heap.size with h1 | h1
    · exact h1
    · simp [World.cell?, Array.getElem?_eq_none h1] at hc
  unfold World.cell? at hc ⊢
  simp only at hc ⊢
  rw [h.block b hb]
  exact hc
theorem fm_take {α : Type} (f : α → List UInt8) {l : List α} {k : Nat} {x : α} (h : l[k]? = some x) : (l.take (k + 1)).flatMap f = (l.take k).flatMap f ++ f x := by
  rw [List.take_add_one, h, List.flatMap_append]; simp
theorem fm_le {α : Type} (f : α → List UInt8) (l : List α) (k : Nat) : ((l.take k).flatMap f).length ≤ (l.flatMap f).length := by
  have : l.flatMap f = (l.take k).flatMap f ++ (l.drop k).flatMap f := by rw [← List.flatMap_append, List.take_append_drop]
  rw [this, List.length_append]; omega
theorem mem_2 {p : Int → Prop} {a b : Int} (h1 : p a) (h2 : p b) : ∀ n ∈ [a, b], p n := by
  intro n hn
  simp at hn
  rcases hn with rfl | rfl <;> assumption
theorem mem_4 {p : Int → Prop} {a b c d : Int} (h1 : p a) (h2 : p b) (h3 : p c) (h4 : p d) : ∀ n ∈ [a, b, c, d], p n := by
  intro n hn
  simp at hn
  rcases hn with rfl | rfl | rfl | rfl <;> assumption
set_option maxRecDepth 100000 in
/-- a row of numbers that are laid for the call -/
theorem wRowNew (B : Nat) (bs : List UInt8) (word : ByteArray) (l : List Int) (arr : Array Value) (n g : Nat) (w2 wr : World) (hg : g = wr.heap.size) (h : Bld B B (Lib.byteCells bs) w2 wr) (hB : B < w2.heap.size)
    (harr : arr = (l.map fun n => Value.int .i64 n).toArray) (hnl : n = l.length)
    (hn : ∀ n ∈ l, -9223372036854775808 ≤ n ∧ n ≤ 9223372036854775807) (htab : ∀ w', Below B w2 w' → Lib.TabIs Tryd.prog w' "internal/strconv.uint64pow10" .u64 Lib.pow10Tab)
    (hlen : bs.length + (rowB word.data.toList l).length + 1 ≤ 1000000) (hll : l.length ≤ 1000) :
    Calls Tryd.prog 49 #[.string word, .slice (some ⟨g, 0, none⟩) n n, .pointer (some ⟨B, 0, none⟩)] (wr.alloc (.cells arr 3)) fun e w' => e = .returned (.tuple #[]) ∧ Bld B B (Lib.byteCells (bs ++ rowB word.data.toList l ++ [10])) w2 w' := by
  subst hnl
  subst hg
  have hsz := h.low.size
  have h2 : Bld B B (Lib.byteCells bs) w2 (wr.alloc (.cells arr 3)) := h.below (by omega) ((Below.refl _ _).alloc (Nat.le_refl _) _)
  have hblk : (wr.alloc (.cells arr 3)).heap[wr.heap.size]? = some (.cells arr 3 (0, 0)) := heap_alloc_new wr _
  have hat : IntsAt B wr.heap.size 0 l (wr.alloc (.cells arr 3)) := by
    refine ⟨⟨arr, 3, (0, 0), hblk, by decide⟩, by omega, fun i n hi => ?_⟩
    rw [Lib.cell_of_heap hblk, harr]
    simp [hi]
  refine (wRow B B wr.heap.size 0 l.length bs word l _ h2.at_ (by simp; omega) hat hn (fun w' hw' => htab w' (h2.low.trans hw')) hlen hll).mono ?_
  rintro e w' ⟨rfl, h3⟩
  exact ⟨rfl, h2.trans h3⟩
def I64 (n : Int) : Prop := -9223372036854775808 ≤ n ∧ n ≤ 9223372036854775807
abbrev tkW (a b : Int) (so : Value) : Value := .agg #[.int .i64 a, .int .i64 b, so]
set_option maxHeartbeats 1000000 in
set_option maxRecDepth 100000 in
theorem tWriteE (a b e : Int) (so : Value) (w : World) (he : e ≠ 0) (h : ∀ w1, Low w.heap.size w w1 → Calls Tryd.prog 48 #[tkW a b so] w1 fun x w' => x = .returned (.int .i64 e) ∧ Low w1.heap.size w1 w') :
    Calls Tryd.prog 28 #[tkW a b so] w fun x w' => x = .returned (.tuple #[.string ⟨#[]⟩, .int .i64 e]) ∧ Low w.heap.size w w' := by
  go_enter Tryd.func28, Tryd.ntmps28
  go_wp2_with (go_at_call 48; refine (h _ (.of ((Below.refl _ w).alloc (Nat.le_refl _) _))).mono ?_)
  rintro x w1 ⟨rfl, h1⟩
  go_wp2
  go_ret2
  exact ⟨rfl, (Low.of ((Below.refl _ w).alloc (Nat.le_refl _) _)).trans (h1.mono (by simp))⟩
set_option maxHeartbeats 2000000 in
set_option maxRecDepth 100000 in
theorem tWrite (a b : Int) (os : List (Int × Int × Int × Int)) (ao : Option Addr) (co : Nat) (w : World)
    (h : ∀ w1, Low w.heap.size w w1 → Calls Tryd.prog 48 #[tkW a b (.slice ao os.length co)] w1 fun x w' => x = .returned (.int .i64 0) ∧ Low w1.heap.size w1 w')
    (htab : ∀ w', Low w.heap.size w w' → Lib.TabIs Tryd.prog w' "internal/strconv.uint64pow10" .u64 Lib.pow10Tab)
    (hlen : (trkB a b os).length ≤ 1000000)
    (hh : ∀ n ∈ [a, b], I64 n) (ho : ∀ x ∈ os, I64 x.1 ∧ I64 x.2.1 ∧ I64 x.2.2.1 ∧ I64 x.2.2.2) (hol : os.length ≤ 1000)
    (hoc : ∀ i x, os[i]? = some x → ∃ go oo, ao = some ⟨go, oo, none⟩ ∧ w.cell? ⟨go, oo + i * 4, none⟩ = some (.int .i64 x.1) ∧ w.cell? ⟨go, oo + i * 4 + 1, none⟩ = some (.int .i64 x.2.1) ∧ w.cell? ⟨go, oo + i * 4 + 2, none⟩ = some (.int .i64 x.2.2.1) ∧ w.cell? ⟨go, oo + i * 4 + 3, none⟩ = some (.int .i64 x.2.2.2)) :
    Calls Tryd.prog 28 #[tkW a b (.slice ao os.length co)] w fun x w' => x = .returned (.tuple #[.string ⟨(trkB a b os).toArray⟩, .int .i64 0]) ∧ Low w.heap.size w w' := by
  go_enter Tryd.func28, Tryd.ntmps28
  go_wp2_with (go_at_call 48; refine (h _ (.of ((Below.refl _ w).alloc (Nat.le_refl _) _))).mono ?_)
  rintro x w1 ⟨rfl, h1⟩
  have hbk : w1.heap[w.heap.size]? = some (.cells #[.int .i64 a, .int .i64 b, .slice ao os.length co] 81 (0, 0)) := by
    rw [h1.block _ (by simp), heap_alloc_new]
  have hlt := (Array.getElem?_eq_some_iff.1 hbk).1
  have hbk2 := Below.heap_alloc w1 (.cells #[.pointer none, .slice none 0 0] 109) _ hlt
  rw [hbk] at hbk2
  have f0 : (w1.alloc (.cells #[.pointer none, .slice none 0 0] 109)).cell? ⟨w.heap.size, 0, none⟩ = some (.int .i64 a) := by rw [Lib.cell_of_heap hbk2]; rfl
  have f1 : (w1.alloc (.cells #[.pointer none, .slice none 0 0] 109)).cell? ⟨w.heap.size, 1, none⟩ = some (.int .i64 b) := by rw [Lib.cell_of_heap hbk2]; rfl
  have hlow : Low w.heap.size w (w1.alloc (.cells #[.pointer none, .slice none 0 0] 109)) := ((Low.of ((Below.refl _ w).alloc (Nat.le_refl _) _)).trans (h1.mono (by simp))).trans (.of ((Below.refl _ w1).alloc (by omega) _))
  have hB0 : w1.heap.size < (w1.alloc (.cells #[.pointer none, .slice none 0 0] 109)).heap.size := by simp
  have hbld : Bld w1.heap.size w1.heap.size (Lib.byteCells []) (w1.alloc (.cells #[.pointer none, .slice none 0 0] 109)) (w1.alloc (.cells #[.pointer none, .slice none 0 0] 109)) := ⟨Lib.IsBuilderF.of (Lib.fresh_isBuilder 109 5 w1), Below.refl _ _, Lib.OthersKept.refl _ _ _⟩
  have htab2 : ∀ w', Below w1.heap.size (w1.alloc (.cells #[.pointer none, .slice none 0 0] 109)) w' → Lib.TabIs Tryd.prog w' "internal/strconv.uint64pow10" .u64 Lib.pow10Tab := fun w' hw' => htab w' (hlow.trans (.of (hw'.mono (by omega))))
  have hl0 : ([] : List UInt8).length + (rowB (ByteArray.mk #[114, 97, 100, 97, 114]).data.toList [a, b]).length + 1 ≤ 1000000 := by
    unfold trkB radB at hlen
    simp only [List.length_append, List.length_cons, List.length_nil] at hlen ⊢
    omega
  have hrow := wRowNew w1.heap.size [] ⟨#[114, 97, 100, 97, 114]⟩ [a, b] #[.int .i64 a, .int .i64 b] 2 (w1.heap.size + 1) _ _ (by simp) hbld hB0 rfl rfl hh htab2 hl0 (by simp)
  go_wp2_with (go_at_call 49; refine hrow.mono ?_)
  rintro x w3 ⟨rfl, h3⟩
  have e3 : Lib.byteCells ([] ++ rowB (ByteArray.mk #[114, 97, 100, 97, 114]).data.toList [a, b] ++ [10]) = Lib.byteCells (radB a b) := by rw [List.nil_append]; rfl
  rw [e3] at h3
  have g4 : w3.cell? ⟨w.heap.size, 2, none⟩ = some (.slice ao os.length co) := by
    rw [Lib.cell_of_heap ((h3.low.block _ hlt).trans hbk2)]; rfl
  clear f0 f1 hrow hl0 hbld e3
  go_wp2
  go_loopw [27] (fun i ws => ∃ k : Nat, i = .int .i64 k ∧ k ≤ os.length ∧ Bld w1.heap.size w1.heap.size (Lib.byteCells (radB a b ++ (os.take k).flatMap echB)) (w1.alloc (.cells #[.pointer none, .slice none 0 0] 109)) ws) (fun i _ => match i with | .int _ z => os.length - z.toNat | _ => 0)
  case atStart => exact ⟨0, rfl, Nat.zero_le _, by rw [List.take_zero, List.flatMap_nil, List.append_nil]; exact h3⟩
  case round =>
    obtain ⟨k, rfl, hk, h6⟩ := hrel
    by_cases hkl : k < os.length
    · have hx := List.getElem?_eq_getElem hkl
      generalize os[k] = y at hx
      obtain ⟨y1, y2, y3, y4⟩ := y
      obtain ⟨go, oo, rfl, z1, z2, z3, z4⟩ := hoc k _ hx
      have hI := ho _ (List.mem_of_getElem? hx)
      simp only at z1 z2 z3 z4 hI
      have q1 := cellB (hlow.trans (.of (h6.low.mono (by omega)))) z1
      have q2 := cellB (hlow.trans (.of (h6.low.mono (by omega)))) z2
      have q3 := cellB (hlow.trans (.of (h6.low.mono (by omega)))) z3
      have q4 := cellB (hlow.trans (.of (h6.low.mono (by omega)))) z4
      have hlc : (radB a b ++ (os.take k).flatMap echB).length + (rowB (ByteArray.mk #[101, 99, 104, 111]).data.toList [y1, y2, y3, y4]).length + 1 ≤ 1000000 := by
        have e1 := fm_le echB os (k + 1)
        rw [fm_take echB hx, List.length_append, echB, List.length_append] at e1
        unfold trkB at hlen
        simp only [List.length_append, List.length_cons, List.length_nil] at hlen e1 ⊢
        omega
      have hrow := wRowNew w1.heap.size _ ⟨#[101, 99, 104, 111]⟩ [y1, y2, y3, y4] #[.int .i64 y1, .int .i64 y2, .int .i64 y3, .int .i64 y4] 4 (wr.heap.size + 1) _ (wr.alloc (.cells #[.int .i64 y1, .int .i64 y2, .int .i64 y3, .int .i64 y4] 78)) (by simp) (h6.below (by omega) ((Below.refl _ wr).alloc (Nat.le_refl _) _)) hB0 rfl rfl (mem_4 hI.1 hI.2.1 hI.2.2.1 hI.2.2.2) htab2 hlc (by simp)
      go_wp2_with (go_at_call 49; refine hrow.mono ?_)
      rintro x w5 rfl h5
      have e5 : radB a b ++ ((os.take k).flatMap echB ++ (rowB [101, 99, 104, 111] [y1, y2, y3, y4] ++ [10])) = radB a b ++ (os.take (k + 1)).flatMap echB := by
        rw [fm_take echB hx]
        rfl
      rw [e5] at h5
      clear hrow hlc e5 z1 z2 z3 z4 q1 q2 q3 q4
      go_wp2
      go_roundw
      case rel => exact ⟨k + 1, rfl, hkl, h5⟩
      case measure =>
        show os.length - ((k : Int) + 1).toNat < os.length - (k : Int).toNat
        omega
    · have hkk : k = os.length := by omega
      subst hkk
      rw [List.take_length] at h6
      have hstr := Tryd.Builder_String_any_f w1.heap.size w1.heap.size _ _ h6.at_ (Nat.le_trans (by omega) h6.low.size)
      go_wp2_with (go_at_call 53; refine hstr.mono ?_)
      rintro x w5 ⟨rfl, _, h7⟩
      go_wp2
      go_ret2
      exact ⟨rfl, hlow.trans (.of ((h6.low.trans h7).mono (by omega)))⟩
end Go.Sas
