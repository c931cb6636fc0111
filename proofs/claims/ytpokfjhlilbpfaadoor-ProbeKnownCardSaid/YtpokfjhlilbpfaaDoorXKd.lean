/-
What strings.Builder's writers do in this program: contracts on worlds.
freight.Write: what it writes: contracts on worlds.
Conditions: none.
-/
import Derived.Test.YtpokfjhlilbpfaaDoorProg
import Derived.Shelf.Strings.BuilderK
import Derived.Test.YtpokfjhlilbpfaaDoorQSH
import Derived.WalkKit
import Derived.BigCall
import Derived.Lib.BufferKept
import Derived.Lib.AppendIntMem
set_option linter.unusedVariables false
set_option linter.unusedSimpArgs false
namespace Go.Sas
open Go.Proofs Go.RowKit
theorem szB : (Tryd.prog.info? 109).map (·.size) = some 2 := by kernel_rfl
theorem lieB : liesAt Tryd.prog Tryd.prog.depth 109 (2 / Tryd.prog.cellsOf 109) 0 109 1 = true := by kernel_rfl
theorem infB : (Tryd.prog.info? 5).map (fun i => (i.zero, i.size, i.bytes)) = some (some (.int .u8 0), 1, 1) := by kernel_rfl
set_option maxHeartbeats 1000000 in
set_option maxRecDepth 100000 in
theorem bChk0 (b : Nat) (w : World) (h0 : w.cell? ⟨b, 0, none⟩ = some (.pointer none)) (hsh : w.shape? b = some (109, 2)) (hfz : w.frozen? ⟨b, 0, none⟩ = false) :
    Calls Tryd.prog 62 #[.pointer (some ⟨b, 0, none⟩)] w fun e w' => e = .returned (.tuple #[]) ∧ w' = w.setCell ⟨b, 0, none⟩ (.pointer (some ⟨b, 0, none⟩)) := by
  obtain ⟨j, hj, hjs⟩ := Option.map_eq_some_iff.1 szB
  go_enter Tryd.func62, Tryd.ntmps62
  go_wp2
  rw [Lib.run_to_unsafe w ⟨b, 0, none⟩ Tryd.underlying106 Tryd.underlying138 hj (by rw [hjs]; decide) hsh (Nat.zero_lt_succ 1)]
  simp only [Result.andThen]
  rw [Oper.upon_value]
  go_wp2
  rw [run_callFunc_extern Tryd.func71 (by kernel_rfl) (by kernel_rfl) (by kernel_rfl) (e := Extern.AbiNoEscape.same) (by kernel_rfl), Lib.run_noEscape]
  simp only [Result.andThen]
  rw [Oper.upon_value]
  go_wp2
  rw [Lib.run_from_unsafe w ⟨b, 0, none⟩ Tryd.underlying138 Tryd.underlying106 hj hsh lieB]
  simp only [Result.andThen]
  rw [Oper.upon_value]
  go_wp2
  go_end0
  exact ⟨rfl, rfl⟩
set_option maxHeartbeats 1000000 in
set_option maxRecDepth 100000 in
theorem bChk1 (b : Nat) (w : World) (h0 : w.cell? ⟨b, 0, none⟩ = some (.pointer (some ⟨b, 0, none⟩))) :
    Calls Tryd.prog 62 #[.pointer (some ⟨b, 0, none⟩)] w fun e w' => e = .returned (.tuple #[]) ∧ w' = w := by
  obtain ⟨j, hj, _⟩ := Option.map_eq_some_iff.1 szB
  go_enter Tryd.func62, Tryd.ntmps62
  go_wp2
  rw [Lib.run_neq_ptr_same w _ Tryd.underlying106 hj]
  go_wp2
  go_end0
  exact ⟨rfl, rfl⟩
/-- a builder that the call has made: its bytes, and what else stays -/
structure Bld (B b : Nat) (bs : List Value) (w0 w : World) : Prop where
  at_ : Lib.IsBuilderF 109 5 B b bs w
  low : Below B w0 w
  oth : Lib.OthersKept 5 (some b) w0 w
theorem bChk (B b : Nat) (bs : List Value) (w : World) (h : Lib.IsBuilderF 109 5 B b bs w) :
    Calls Tryd.prog 62 #[.pointer (some ⟨b, 0, none⟩)] w fun e w' => e = .returned (.tuple #[]) ∧ Lib.BuilderAtF 109 5 B b (.pointer (some ⟨b, 0, none⟩)) bs w' ∧ Bld B b bs w w' := by
  cases h with
  | inl h =>
    refine (bChk0 b w h.cell0 h.shape h.frozen0).mono fun e w' hx => ?_
    obtain ⟨rfl, rfl⟩ := hx
    have hu := h.used (.pointer (some ⟨b, 0, none⟩))
    exact ⟨rfl, hu, .inr hu, (Below.refl B w).setCell (p := ⟨b, 0, none⟩) h.1 _, (Lib.OthersKept.refl _ _ w).setCell ⟨b, 0, none⟩ rfl _⟩
  | inr h =>
    refine (bChk1 b w h.cell0).mono fun e w' hx => ?_
    obtain ⟨rfl, rfl⟩ := hx
    exact ⟨rfl, h, .inr h, Below.refl B _, Lib.OthersKept.refl _ _ _⟩
/-- what is known of a builder's block -/
theorem Bld.blk {B b : Nat} {p : Value} {bs : List Value} {w : World} (h : Lib.BuilderAtF 109 5 B b p bs w) : ∃ v, w.heap[b]? = some (.cells #[p, v] 109 (0, 0)) ∧ w.ownsRowF B 5 1 v bs.length bs ∧ v.ownBlock ≠ some b ∧ b < w.heap.size ∧ B ≤ b := by
  obtain ⟨hB, v, h1, h2, h3⟩ := h
  exact ⟨v, h1, h2, h3, (Array.getElem?_eq_some_iff.1 h1).1, hB⟩
set_option maxHeartbeats 2000000 in
set_option maxRecDepth 100000 in
theorem bStr (B b : Nat) (bs : List Value) (s : ByteArray) (w : World) (h : Lib.IsBuilderF 109 5 B b bs w) (hlen : bs.length + s.size ≤ 1000000) (hBw : B ≤ w.heap.size) :
    Calls Tryd.prog 50 #[.pointer (some ⟨b, 0, none⟩), .string s] w fun e w' => e = .returned (.tuple #[.int .i64 s.size, .nilIface]) ∧ Bld B b (bs ++ Lib.strCells s) w w' := by
  obtain ⟨i0, hi, hz0, hz1, hz2⟩ := info_parts infB
  go_enter Tryd.func50, Tryd.ntmps50
  go_wp2_with (go_at_call 62; refine (bChk B b bs _ h).mono ?_)
  rintro e w1 ⟨rfl, h1, hb1⟩
  obtain ⟨v, hbk, hown, hne, hlt, hB⟩ := Bld.blk h1
  have hsz := hb1.low.size
  have c0 : w1.cell? ⟨b, 0, none⟩ = some (.pointer (some ⟨b, 0, none⟩)) := by rw [Lib.cell_of_heap hbk]; rfl
  have c1 : w1.cell? ⟨b, 1, none⟩ = some v := by rw [Lib.cell_of_heap hbk]; rfl
  go_wp2_with (at_builtin; refine Lib.wpList_append_own_stringF _ rfl _ _ 107 9 rfl B 5 i0 Tryd.underlying107 Tryd.underlying9 hi hz0 hz1 hz2 _ _ _ rfl hown s rfl (by unfold maxLen; omega) (by omega) (by omega) ?_)
  intro v' w2 hown' hg _
  have hb2 : w2.heap[b]? = some (.cells #[.pointer (some ⟨b, 0, none⟩), v] 109 (0, 0)) := (hg.block b hlt (fun e => hne e.symm)).trans hbk
  have d0 : w2.cell? ⟨b, 0, none⟩ = some (.pointer (some ⟨b, 0, none⟩)) := by rw [Lib.cell_of_heap hb2]; rfl
  have d1 : w2.cell? ⟨b, 1, none⟩ = some v := by rw [Lib.cell_of_heap hb2]; rfl
  have f1 : w2.frozen? ⟨b, 1, none⟩ = false := Lib.frozen_of_heap hb2 1
  obtain ⟨ao, n', cap, rfl⟩ : ∃ ao n' cap, v' = .slice ao n' cap := by
    rcases hown'.2 with ⟨hv, _⟩ | ⟨g, cap, cur, fz, hv, _⟩
    · exact ⟨_, _, _, hv⟩
    · exact ⟨_, _, _, hv⟩
  go_wp2
  go_ret2
  refine ⟨rfl, .inr ?_, ?_, ?_⟩
  · exact Lib.BuilderAtF.put (T := 109) (e := 5) hB hb2 (bs' := bs ++ Lib.strCells s) (by simpa [Lib.strCells_length] using hown') (by decide)
  · exact (hb1.low.grown hg (by omega) (fun k hk => (hown.lt k hk).1)).setCell (p := ⟨b, 1, none⟩) hB _
  · exact (hb1.oth.grown hg (Lib.ownsRowF_kind hown)).setCell ⟨b, 1, none⟩ rfl _
set_option maxHeartbeats 2000000 in
set_option maxRecDepth 100000 in
theorem bByte (B b : Nat) (bs : List Value) (c : Int) (w : World) (h : Lib.IsBuilderF 109 5 B b bs w) (hlen : bs.length + 1 ≤ 1000000) (hBw : B ≤ w.heap.size) :
    Calls Tryd.prog 52 #[.pointer (some ⟨b, 0, none⟩), .int .u8 c] w fun e w' => e = .returned .nilIface ∧ Bld B b (bs ++ [.int .u8 c]) w w' := by
  obtain ⟨i0, hi, hz0, hz1, hz2⟩ := info_parts infB
  go_enter Tryd.func52, Tryd.ntmps52
  go_wp2_with (go_at_call 62; refine (bChk B b bs _ h).mono ?_)
  rintro e w1 ⟨rfl, h1, hb1⟩
  obtain ⟨v, hbk, hown, hne, hlt, hB⟩ := Bld.blk h1
  have hsz := hb1.low.size
  have c0 : w1.cell? ⟨b, 0, none⟩ = some (.pointer (some ⟨b, 0, none⟩)) := by rw [Lib.cell_of_heap hbk]; rfl
  have c1 : w1.cell? ⟨b, 1, none⟩ = some v := by rw [Lib.cell_of_heap hbk]; rfl
  go_wp2_with (at_builtin; refine wpList_append_ownF _ rfl _ _ 107 rfl B 5 i0 (.int .u8 0) 1 1 Tryd.underlying107 hi hz0 hz1 hz2 rfl (by decide) _ _ _ rfl (hown.alloc _) ⟨w1.heap.size, 0, none⟩ 1 1 [.int .u8 c] rfl rfl ?c1 ?c2 ?c3 ?c4 ?c5 ?_)
  case c1 =>
    intro j u hj
    match j, hj with
    | 0, hj => simp at hj; subst hj; simp [Addr.add]
  case c2 => intro u hu; simp at hu; subst hu; rfl
  case c3 => unfold maxLen; omega
  case c4 => omega
  case c5 => simp; omega
  intro v' w2 hown' hg _
  have hb2 : w2.heap[b]? = some (.cells #[.pointer (some ⟨b, 0, none⟩), v] 109 (0, 0)) := by
    rw [hg.block b (by simp; omega) (fun e => hne e.symm), Lib.alloc_old w1 _ b hlt]
    exact hbk
  have d0 : w2.cell? ⟨b, 0, none⟩ = some (.pointer (some ⟨b, 0, none⟩)) := by rw [Lib.cell_of_heap hb2]; rfl
  have d1 : w2.cell? ⟨b, 1, none⟩ = some v := by rw [Lib.cell_of_heap hb2]; rfl
  have f1 : w2.frozen? ⟨b, 1, none⟩ = false := Lib.frozen_of_heap hb2 1
  obtain ⟨g, cap, rfl⟩ : ∃ g cap, v' = .slice (some ⟨g, 0, none⟩) (bs.length + 1) cap := by
    rcases hown'.2 with ⟨_, h0⟩ | ⟨g, cap, cur, fz, hv, _⟩
    · omega
    · exact ⟨g, cap, hv⟩
  go_wp2
  go_ret
  refine ⟨rfl, .inr ?_, ?_, ?_⟩
  · exact Lib.BuilderAtF.put (T := 109) (e := 5) hB hb2 (bs' := bs ++ [.int .u8 c]) (by simpa using hown') (by decide)
  · exact ((hb1.low.alloc (by omega) _).grown hg (by simp; omega) (fun k hk => (hown.lt k hk).1)).setCell (p := ⟨b, 1, none⟩) hB _
  · exact ((hb1.oth.alloc _).grown hg (Lib.ownsRowF_kind (hown.alloc _))).setCell ⟨b, 1, none⟩ rfl _
end Go.Sas
namespace Go.Sas
open Go.Proofs Go.RowKit
theorem Bld.trans {B b : Nat} {bs bs' : List Value} {w w1 w2 : World} (h : Bld B b bs w w1) (k : Bld B b bs' w1 w2) : Bld B b bs' w w2 := ⟨k.at_, h.low.trans k.low, h.oth.trans k.oth⟩
/-- other new blocks -/
theorem isb_below {T e B b : Nat} {bs : List Value} {w w' : World} (h : Lib.IsBuilderF T e B b bs w) (k : Below w.heap.size w w') : Lib.IsBuilderF T e B b bs w' := by
  have at1 : ∀ p, Lib.BuilderAtF T e B b p bs w → Lib.BuilderAtF T e B b p bs w' := by
    rintro p ⟨hB, v, h1, h2, h3⟩
    have hb := (Array.getElem?_eq_some_iff.1 h1).1
    refine ⟨hB, v, (k.block b hb).trans h1, ?_, h3⟩
    obtain ⟨h4, h5⟩ := h2
    refine ⟨h4, ?_⟩
    rcases h5 with h5 | ⟨g, cap, cur, fz, hv, hg, hr, hx⟩
    · exact .inl h5
    · exact .inr ⟨g, cap, cur, fz, hv, hg, (k.block g (Array.getElem?_eq_some_iff.1 hr).1).trans hr, hx⟩
  exact h.elim (fun x => .inl (at1 _ x)) (fun x => .inr (at1 _ x))
theorem Bld.below {B b : Nat} {bs : List Value} {w w1 w2 : World} (h : Bld B b bs w w1) (hB : B ≤ w.heap.size) (k : Below w1.heap.size w1 w2) : Bld B b bs w w2 :=
  ⟨isb_below h.at_ k, h.low.trans (k.mono (Nat.le_trans hB h.low.size)), h.oth.below k⟩
def rowB (word : List UInt8) (l : List Int) : List UInt8 := word ++ l.flatMap (fun n => 32 :: Lib.itoa n)
theorem rowB_snoc (word : List UInt8) (l : List Int) (n : Int) : rowB word (l ++ [n]) = rowB word l ++ (32 :: Lib.itoa n) := by simp [rowB]
theorem rowB_take (word : List UInt8) (l : List Int) (k : Nat) (n : Int) (h : l[k]? = some n) : rowB word (l.take (k + 1)) = rowB word (l.take k) ++ (32 :: Lib.itoa n) := by
  rw [List.take_add_one, h]; exact rowB_snoc _ _ _
theorem rowB_le (word : List UInt8) (l : List Int) (k : Nat) : (rowB word (l.take k)).length ≤ (rowB word l).length := by
  have : rowB word l = rowB word (l.take k) ++ (l.drop k).flatMap (fun n => 32 :: Lib.itoa n) := by
    unfold rowB
    rw [List.append_assoc, ← List.flatMap_append, List.take_append_drop]
  rw [this, List.length_append]; omega
/-- the numbers of a row stand in a block that is no builder's -/
structure IntsAt (b : Nat) (g o : Nat) (l : List Int) (w : World) : Prop where
  blk : ∃ arr T fz, w.heap[g]? = some (.cells arr T fz) ∧ T ≠ 5
  ne : g ≠ b
  at_ : ∀ i n, l[i]? = some n → w.cell? ⟨g, o + i, none⟩ = some (.int .i64 n)
theorem IntsAt.kept {b g o : Nat} {l : List Int} {w w' : World} (h : IntsAt b g o l w) (k : Lib.OthersKept 5 (some b) w w') : IntsAt b g o l w' := by
  obtain ⟨arr, T, fz, h1, h2⟩ := h.blk
  have h3 := k g _ h1 (fun e => h.ne (Option.some.inj e)) (fun c fz e => h2 (by cases e; rfl))
  refine ⟨⟨arr, T, fz, h3, h2⟩, h.ne, fun i n hi => ?_⟩
  rw [← h.at_ i n hi]
  exact World.cell?_of_block (h3.trans h1.symm)
theorem rowB_nil (word : List UInt8) (l : List Int) : rowB word (l.take 0) = word := by simp [rowB]
theorem size_toL (s : ByteArray) : s.size = s.data.toList.length := by
  show s.data.size = _
  rw [Array.length_toList]
theorem rowB_len (word : ByteArray) (l : List Int) : word.size ≤ (rowB word.data.toList l).length := by
  rw [size_toL]
  unfold rowB
  rw [List.length_append]
  exact Nat.le_add_right _ _
set_option maxHeartbeats 2000000 in
set_option maxRecDepth 100000 in
theorem wRow (B b g o c : Nat) (bs : List UInt8) (word : ByteArray) (l : List Int) (w : World) (hI : Lib.IsBuilderF 109 5 B b (Lib.byteCells bs) w) (hB : B ≤ w.heap.size)
    (hl : IntsAt b g o l w) (hn : ∀ n ∈ l, -9223372036854775808 ≤ n ∧ n ≤ 9223372036854775807) (htab : ∀ w', Below B w w' → Lib.TabIs Tryd.prog w' "internal/strconv.uint64pow10" .u64 Lib.pow10Tab)
    (hlen : bs.length + (rowB word.data.toList l).length + 1 ≤ 1000000) (hll : l.length ≤ 1000) :
    Calls Tryd.prog 49 #[.string word, .slice (some ⟨g, o, none⟩) l.length c, .pointer (some ⟨b, 0, none⟩)] w fun e w' => e = .returned (.tuple #[]) ∧ Bld B b (Lib.byteCells (bs ++ rowB word.data.toList l ++ [10])) w w' := by
  have hw0 : bs.length + word.size ≤ 1000000 := by
    have := rowB_len word l
    omega
  go_enter Tryd.func49, Tryd.ntmps49
  go_wp2_with (go_at_call 50; refine (bStr B b _ word _ hI (by rw [Lib.byteCells_length]; exact hw0) hB).mono ?_)
  rintro e w1 ⟨rfl, h1⟩
  rw [Lib.strCells_eq, ← Lib.byteCells_append] at h1
  go_wp2
  go_loopw [11] (fun i wr => ∃ k : Nat, i = .int .i64 k ∧ k ≤ l.length ∧ Bld B b (Lib.byteCells (bs ++ rowB word.data.toList (l.take k))) w wr) (fun i _ => match i with | .int _ z => l.length - z.toNat | _ => 0)
  case atStart => exact ⟨0, rfl, Nat.zero_le _, by rw [rowB_nil]; exact h1⟩
  case round =>
    obtain ⟨k, rfl, hk, h2⟩ := hrel
    by_cases hlt : k < l.length
    · have hcell := (hl.kept h2.oth).at_ k l[k] (List.getElem?_eq_getElem hlt)
      have hnk := hn l[k] (List.getElem_mem hlt)
      go_wp2_with (go_at_call 51; refine (Tryd.strconv_Itoa _ hnk.1 hnk.2 _ (htab _ h2.low)).mono ?_)
      rintro e w3 ⟨rfl, kk, os, rfl⟩
      have h3 := h2.below hB (Lib.below_grow wr.heap.size wr (Nat.le_refl _) kk os)
      have hle := rowB_le word.data.toList l (k + 1)
      rw [rowB_take _ _ k _ (List.getElem?_eq_getElem hlt), List.length_append] at hle
      simp only [List.length_cons] at hle
      have hB3 : B ≤ (Go.Sort.grow (wr.drewN kk) os).heap.size := Nat.le_trans hB h3.low.size
      have hsz : (Lib.byteCells (bs ++ rowB word.data.toList (List.take k l))).length + (ByteArray.mk #[32] ++ ByteArray.mk (Lib.itoa l[k]).toArray).size ≤ 1000000 := by
        rw [Lib.byteCells_length, List.length_append, size_toL, ByteArray.data_append, Array.toList_append, List.length_append]
        simp only [List.length_cons, List.length_nil]
        omega
      have hbv := bStr B b _ (ByteArray.mk #[32] ++ ByteArray.mk (Lib.itoa l[k]).toArray) _ h3.at_ hsz hB3
      go_wp2_with (go_at_call 50; refine hbv.mono ?_)
      rintro e w4 ⟨rfl, h4⟩
      have h5 := h3.trans h4
      have e5 : Lib.byteCells (bs ++ rowB word.data.toList (List.take k l)) ++ Lib.strCells (ByteArray.mk #[32] ++ ByteArray.mk (Lib.itoa l[k]).toArray) = Lib.byteCells (bs ++ rowB word.data.toList (List.take (k + 1) l)) := by
        rw [Lib.strCells_eq, ← Lib.byteCells_append, rowB_take _ _ k _ (List.getElem?_eq_getElem hlt), ByteArray.data_append, Array.toList_append, List.append_assoc]
        rfl
      rw [e5] at h5
      clear hbv hsz h3 h4 e5 hle
      go_wp2
      go_roundw
      case rel => exact ⟨k + 1, rfl, hlt, h5⟩
      case measure =>
        show l.length - ((k : Int) + 1).toNat < l.length - (k : Int).toNat
        omega
    · have hkl : k = l.length := by omega
      subst hkl
      rw [List.take_length] at h2
      have hB2 : B ≤ wr.heap.size := Nat.le_trans hB h2.low.size
      have hsz : (Lib.byteCells (bs ++ rowB word.data.toList l)).length + 1 ≤ 1000000 := by
        rw [Lib.byteCells_length, List.length_append]; omega
      have hbv := bByte B b _ 10 _ h2.at_ hsz hB2
      go_wp2_with (go_at_call 52; refine hbv.mono ?_)
      rintro e w4 ⟨rfl, h4⟩
      go_wp2
      go_end0
      refine ⟨rfl, ?_⟩
      have h5 := h2.trans h4
      have e5 : Lib.byteCells (bs ++ rowB word.data.toList l) ++ [.int .u8 10] = Lib.byteCells (bs ++ rowB word.data.toList l ++ [10]) := by
        rw [Lib.byteCells_append (bs ++ rowB word.data.toList l)]
        rfl
      rw [e5] at h5
      exact h5
end Go.Sas
