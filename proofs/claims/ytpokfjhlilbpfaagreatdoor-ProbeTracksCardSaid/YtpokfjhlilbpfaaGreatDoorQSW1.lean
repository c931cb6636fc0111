/-
freight.Write: what it writes: contracts on worlds.
Conditions: none.
-/
import Derived.Test.YtpokfjhlilbpfaaGreatDoorQSB1
import Derived.Test.YtpokfjhlilbpfaaGreatDoorQSH
import Derived.WalkKit
import Derived.BigCall
import Derived.Lib.BufferKept
import Derived.Lib.AppendIntMem
set_option linter.unusedVariables false
set_option linter.unusedSimpArgs false
namespace Go.Sas
open Go.Proofs Go.RowKit
theorem Bld.trans {B b : Nat} {bs bs' : List Value} {w w1 w2 : World} (h : Bld B b bs w w1) (k : Bld B b bs' w1 w2) : Bld B b bs' w w2 := ⟨k.at_, h.low.trans k.low, h.oth.trans k.oth⟩
/-- other new blocks -/
theorem isb_below {T e B b : Nat} {bs : List Value} {w w' : World} (h : Lib.IsBuilderF T e B b bs w) (k : Below w.heap.size w w') : Lib.IsBuilderF T e B b bs w' := by
  have at1 : ∀ p, Lib.BuilderAtF T e B b p bs w → Lib.BuilderAtF T e B b p bs w' := by
    rintro p ⟨hB, v, h1, h2, h3⟩
    have hb := (Array.getElem?_eq_some_iff.1 h1).1
    refine ⟨hB, v, (k.block b hb).trans h1, ?_, h3⟩
    obtain ⟨h4, h5⟩ := h2
    refine ⟨h4, ?_⟩
    rcases h5 with h5 | ⟨g, cap, cur, fz, hv, hg, hr, hx⟩
    · exact .inl h5
    · exact .inr ⟨g, cap, cur, fz, hv, hg, (k.block g (Array.getElem?_eq_some_iff.1 hr).1).trans hr, hx⟩
  exact h.elim (fun x => .inl (at1 _ x)) (fun x => .inr (at1 _ x))
theorem Bld.below {B b : Nat} {bs : List Value} {w w1 w2 : World} (h : Bld B b bs w w1) (hB : B ≤ w.heap.size) (k : Below w1.heap.size w1 w2) : Bld B b bs w w2 :=
  ⟨isb_below h.at_ k, h.low.trans (k.mono (Nat.le_trans hB h.low.size)), h.oth.below k⟩
def rowB (word : List UInt8) (l : List Int) : List UInt8 := word ++ l.flatMap (fun n => 32 :: Lib.itoa n)
theorem rowB_snoc (word : List UInt8) (l : List Int) (n : Int) : rowB word (l ++ [n]) = rowB word l ++ (32 :: Lib.itoa n) := by simp [rowB]
theorem rowB_take (word : List UInt8) (l : List Int) (k : Nat) (n : Int) (h : l[k]? = some n) : rowB word (l.take (k + 1)) = rowB word (l.take k) ++ (32 :: Lib.itoa n) := by
  rw [List.take_add_one, h]; exact rowB_snoc _ _ _
theorem rowB_le (word : List UInt8) (l : List Int) (k : Nat) : (rowB word (l.take k)).length ≤ (rowB word l).length := by
  have : rowB word l = rowB word (l.take k) ++ (l.drop k).flatMap (fun n => 32 :: Lib.itoa n) := by
    unfold rowB
    rw [List.append_assoc, ← List.flatMap_append, List.take_append_drop]
  rw [this, List.length_append]; omega
/-- the numbers of a row stand in a block that is no builder's -/
structure IntsAt (b : Nat) (g o : Nat) (l : List Int) (w : World) : Prop where
  blk : ∃ arr T fz, w.heap[g]? = some (.cells arr T fz) ∧ T ≠ 5
  ne : g ≠ b
  at_ : ∀ i n, l[i]? = some n → w.cell? ⟨g, o + i, none⟩ = some (.int .i64 n)
theorem IntsAt.kept {b g o : Nat} {l : List Int} {w w' : World} (h : IntsAt b g o l w) (k : Lib.OthersKept 5 (some b) w w') : IntsAt b g o l w' := by
  obtain ⟨arr, T, fz, h1, h2⟩ := h.blk
  have h3 := k g _ h1 (fun e => h.ne (Option.some.inj e)) (fun c fz e => h2 (by cases e; rfl))
  refine ⟨⟨arr, T, fz, h3, h2⟩, h.ne, fun i n hi => ?_⟩
  rw [← h.at_ i n hi]
  exact World.cell?_of_block (h3.trans h1.symm)
theorem rowB_nil (word : List UInt8) (l : List Int) : rowB word (l.take 0) = word := by simp [rowB]
theorem size_toL (s : ByteArray) : s.size = s.data.toList.length := by
  show s.data.size = _
  rw [Array.length_toList]
theorem rowB_len (word : ByteArray) (l : List Int) : word.size ≤ (rowB word.data.toList l).length := by
  rw [size_toL]
  unfold rowB
  rw [List.length_append]
  exact Nat.le_add_right _ _
set_option maxHeartbeats 2000000 in
set_option maxRecDepth 100000 in
theorem wRow (B b g o c : Nat) (bs : List UInt8) (word : ByteArray) (l : List Int) (w : World) (hI : Lib.IsBuilderF 74 5 B b (Lib.byteCells bs) w) (hB : B ≤ w.heap.size)
    (hl : IntsAt b g o l w) (hn : ∀ n ∈ l, -9223372036854775808 ≤ n ∧ n ≤ 9223372036854775807) (htab : ∀ w', Below B w w' → Lib.TabIs Tryz.prog w' "internal/strconv.uint64pow10" .u64 Lib.pow10Tab)
    (hlen : bs.length + (rowB word.data.toList l).length + 1 ≤ 1000000) (hll : l.length ≤ 1000) :
    Calls Tryz.prog 28 #[.string word, .slice (some ⟨g, o, none⟩) l.length c, .pointer (some ⟨b, 0, none⟩)] w fun e w' => e = .returned (.tuple #[]) ∧ Bld B b (Lib.byteCells (bs ++ rowB word.data.toList l ++ [10])) w w' := by
  have hw0 : bs.length + word.size ≤ 1000000 := by
    have := rowB_len word l
    omega
  go_enter Tryz.func28, Tryz.ntmps28
  go_wp2_with (go_at_call 29; refine (bStr B b _ word _ hI (by rw [Lib.byteCells_length]; exact hw0) hB).mono ?_)
  rintro e w1 ⟨rfl, h1⟩
  rw [Lib.strCells_eq, ← Lib.byteCells_append] at h1
  go_wp2
  go_loopw [11] (fun i wr => ∃ k : Nat, i = .int .i64 k ∧ k ≤ l.length ∧ Bld B b (Lib.byteCells (bs ++ rowB word.data.toList (l.take k))) w wr) (fun i _ => match i with | .int _ z => l.length - z.toNat | _ => 0)
  case atStart => exact ⟨0, rfl, Nat.zero_le _, by rw [rowB_nil]; exact h1⟩
  case round =>
    obtain ⟨k, rfl, hk, h2⟩ := hrel
    by_cases hlt : k < l.length
    · have hcell := (hl.kept h2.oth).at_ k l[k] (List.getElem?_eq_getElem hlt)
      have hnk := hn l[k] (List.getElem_mem hlt)
      go_wp2_with (go_at_call 30; refine (Tryz.strconv_Itoa _ hnk.1 hnk.2 _ (htab _ h2.low)).mono ?_)
      rintro e w3 ⟨rfl, kk, os, rfl⟩
      have h3 := h2.below hB (Lib.below_grow wr.heap.size wr (Nat.le_refl _) kk os)
      have hle := rowB_le word.data.toList l (k + 1)
      rw [rowB_take _ _ k _ (List.getElem?_eq_getElem hlt), List.length_append] at hle
      simp only [List.length_cons] at hle
      have hB3 : B ≤ (Go.Sort.grow (wr.drewN kk) os).heap.size := Nat.le_trans hB h3.low.size
      have hsz : (Lib.byteCells (bs ++ rowB word.data.toList (List.take k l))).length + (ByteArray.mk #[32] ++ ByteArray.mk (Lib.itoa l[k]).toArray).size ≤ 1000000 := by
        rw [Lib.byteCells_length, List.length_append, size_toL, ByteArray.data_append, Array.toList_append, List.length_append]
        simp only [List.length_cons, List.length_nil]
        omega
      have hbv := bStr B b _ (ByteArray.mk #[32] ++ ByteArray.mk (Lib.itoa l[k]).toArray) _ h3.at_ hsz hB3
      go_wp2_with (go_at_call 29; refine hbv.mono ?_)
      rintro e w4 ⟨rfl, h4⟩
      have h5 := h3.trans h4
      have e5 : Lib.byteCells (bs ++ rowB word.data.toList (List.take k l)) ++ Lib.strCells (ByteArray.mk #[32] ++ ByteArray.mk (Lib.itoa l[k]).toArray) = Lib.byteCells (bs ++ rowB word.data.toList (List.take (k + 1) l)) := by
        rw [Lib.strCells_eq, ← Lib.byteCells_append, rowB_take _ _ k _ (List.getElem?_eq_getElem hlt), ByteArray.data_append, Array.toList_append, List.append_assoc]
        rfl
      rw [e5] at h5
      clear hbv hsz h3 h4 e5 hle
      go_wp2
      go_roundw
      case rel => exact ⟨k + 1, rfl, hlt, h5⟩
      case measure =>
        show l.length - ((k : Int) + 1).toNat < l.length - (k : Int).toNat
        omega
    · have hkl : k = l.length := by omega
      subst hkl
      rw [List.take_length] at h2
      have hB2 : B ≤ wr.heap.size := Nat.le_trans hB h2.low.size
      have hsz : (Lib.byteCells (bs ++ rowB word.data.toList l)).length + 1 ≤ 1000000 := by
        rw [Lib.byteCells_length, List.length_append]; omega
      have hbv := bByte B b _ 10 _ h2.at_ hsz hB2
      go_wp2_with (go_at_call 31; refine hbv.mono ?_)
      rintro e w4 ⟨rfl, h4⟩
      go_wp2
      go_end0
      refine ⟨rfl, ?_⟩
      have h5 := h2.trans h4
      have e5 : Lib.byteCells (bs ++ rowB word.data.toList l) ++ [.int .u8 10] = Lib.byteCells (bs ++ rowB word.data.toList l ++ [10]) := by
        rw [Lib.byteCells_append (bs ++ rowB word.data.toList l)]
        rfl
      rw [e5] at h5
      exact h5
end Go.Sas
