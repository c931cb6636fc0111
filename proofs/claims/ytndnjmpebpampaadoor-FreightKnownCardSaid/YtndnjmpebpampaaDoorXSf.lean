/-
What strings.Builder's writers do in this program: contracts on worlds.
Contracts of the library at this program, written by a tool: only those that are used.
freight.Write: what it writes: contracts on worlds.
freight.Write: what it writes: contract on worlds.
Conditions: none.
-/
import Derived.Test.YtndnjmpebpampaaDoorProg
import Derived.Shelf.Strings.BuilderK
import Derived.Shelf.Strings.Builder1
import Derived.Shelf.Small.Wraps
import Derived.Shelf.Strings.BuilderF
import Derived.Shelf.Strconv.Itoa0
import Derived.Shelf.Strconv.Itoa1
import Derived.Shelf.LaysM
import Derived.Shelf.Strconv.Itoa2
import Derived.Shelf.Strconv.Itoa3
import Derived.Shelf.Bits.Mul64
import Derived.Shelf.Strings.BuilderCap
import Derived.Ground.Names2Prog
import Derived.Shelf.Slices.SearchI
import Derived.WalkKit
import Derived.BigCall
import Derived.Lib.BufferKept
import Derived.Lib.AppendIntMem
set_option linter.unusedVariables false
set_option linter.unusedSimpArgs false
namespace Go.Sas
open Go.Proofs Go.RowKit
theorem szB : (Tryd.prog.info? 93).map (·.size) = some 2 := by kernel_rfl
theorem lieB : liesAt Tryd.prog Tryd.prog.depth 93 (2 / Tryd.prog.cellsOf 93) 0 93 1 = true := by kernel_rfl
theorem infB : (Tryd.prog.info? 5).map (fun i => (i.zero, i.size, i.bytes)) = some (some (.int .u8 0), 1, 1) := by kernel_rfl
set_option maxHeartbeats 1000000 in
set_option maxRecDepth 100000 in
theorem bChk0 (b : Nat) (w : World) (h0 : w.cell? ⟨b, 0, none⟩ = some (.pointer none)) (hsh : w.shape? b = some (93, 2)) (hfz : w.frozen? ⟨b, 0, none⟩ = false) :
    Calls Tryd.prog 64 #[.pointer (some ⟨b, 0, none⟩)] w fun e w' => e = .returned (.tuple #[]) ∧ w' = w.setCell ⟨b, 0, none⟩ (.pointer (some ⟨b, 0, none⟩)) := by
  obtain ⟨j, hj, hjs⟩ := Option.map_eq_some_iff.1 szB
  go_enter Tryd.func64, Tryd.ntmps64
  go_wp2
  rw [Lib.run_to_unsafe w ⟨b, 0, none⟩ Tryd.underlying90 Tryd.underlying119 hj (by rw [hjs]; decide) hsh (Nat.zero_lt_succ 1)]
  simp only [Result.andThen]
  rw [Oper.upon_value]
  go_wp2
  rw [run_callFunc_extern Tryd.func71 (by kernel_rfl) (by kernel_rfl) (by kernel_rfl) (e := Extern.AbiNoEscape.same) (by kernel_rfl), Lib.run_noEscape]
  simp only [Result.andThen]
  rw [Oper.upon_value]
  go_wp2
  rw [Lib.run_from_unsafe w ⟨b, 0, none⟩ Tryd.underlying119 Tryd.underlying90 hj hsh lieB]
  simp only [Result.andThen]
  rw [Oper.upon_value]
  go_wp2
  go_end0
  exact ⟨rfl, rfl⟩
set_option maxHeartbeats 1000000 in
set_option maxRecDepth 100000 in
theorem bChk1 (b : Nat) (w : World) (h0 : w.cell? ⟨b, 0, none⟩ = some (.pointer (some ⟨b, 0, none⟩))) :
    Calls Tryd.prog 64 #[.pointer (some ⟨b, 0, none⟩)] w fun e w' => e = .returned (.tuple #[]) ∧ w' = w := by
  obtain ⟨j, hj, _⟩ := Option.map_eq_some_iff.1 szB
  go_enter Tryd.func64, Tryd.ntmps64
  go_wp2
  rw [Lib.run_neq_ptr_same w _ Tryd.underlying90 hj]
  go_wp2
  go_end0
  exact ⟨rfl, rfl⟩
/-- a builder that the call has made: its bytes, and what else stays -/
structure Bld (B b : Nat) (bs : List Value) (w0 w : World) : Prop where
  at_ : Lib.IsBuilderF 93 5 B b bs w
  low : Below B w0 w
  oth : Lib.OthersKept 5 (some b) w0 w
theorem bChk (B b : Nat) (bs : List Value) (w : World) (h : Lib.IsBuilderF 93 5 B b bs w) :
    Calls Tryd.prog 64 #[.pointer (some ⟨b, 0, none⟩)] w fun e w' => e = .returned (.tuple #[]) ∧ Lib.BuilderAtF 93 5 B b (.pointer (some ⟨b, 0, none⟩)) bs w' ∧ Bld B b bs w w' := by
  cases h with
  | inl h =>
    refine (bChk0 b w h.cell0 h.shape h.frozen0).mono fun e w' hx => ?_
    obtain ⟨rfl, rfl⟩ := hx
    have hu := h.used (.pointer (some ⟨b, 0, none⟩))
    exact ⟨rfl, hu, .inr hu, (Below.refl B w).setCell (p := ⟨b, 0, none⟩) h.1 _, (Lib.OthersKept.refl _ _ w).setCell ⟨b, 0, none⟩ rfl _⟩
  | inr h =>
    refine (bChk1 b w h.cell0).mono fun e w' hx => ?_
    obtain ⟨rfl, rfl⟩ := hx
    exact ⟨rfl, h, .inr h, Below.refl B _, Lib.OthersKept.refl _ _ _⟩
/-- what is known of a builder's block -/
theorem Bld.blk {B b : Nat} {p : Value} {bs : List Value} {w : World} (h : Lib.BuilderAtF 93 5 B b p bs w) : ∃ v, w.heap[b]? = some (.cells #[p, v] 93 (0, 0)) ∧ w.ownsRowF B 5 1 v bs.length bs ∧ v.ownBlock ≠ some b ∧ b < w.heap.size ∧ B ≤ b := by
  obtain ⟨hB, v, h1, h2, h3⟩ := h
  exact ⟨v, h1, h2, h3, (Array.getElem?_eq_some_iff.1 h1).1, hB⟩
set_option maxHeartbeats 2000000 in
set_option maxRecDepth 100000 in
theorem bStr (B b : Nat) (bs : List Value) (s : ByteArray) (w : World) (h : Lib.IsBuilderF 93 5 B b bs w) (hlen : bs.length + s.size ≤ 1000000) (hBw : B ≤ w.heap.size) :
    Calls Tryd.prog 47 #[.pointer (some ⟨b, 0, none⟩), .string s] w fun e w' => e = .returned (.tuple #[.int .i64 s.size, .nilIface]) ∧ Bld B b (bs ++ Lib.strCells s) w w' := by
  obtain ⟨i0, hi, hz0, hz1, hz2⟩ := info_parts infB
  go_enter Tryd.func47, Tryd.ntmps47
  go_wp2_with (go_at_call 64; refine (bChk B b bs _ h).mono ?_)
  rintro e w1 ⟨rfl, h1, hb1⟩
  obtain ⟨v, hbk, hown, hne, hlt, hB⟩ := Bld.blk h1
  have hsz := hb1.low.size
  have c0 : w1.cell? ⟨b, 0, none⟩ = some (.pointer (some ⟨b, 0, none⟩)) := by rw [Lib.cell_of_heap hbk]; rfl
  have c1 : w1.cell? ⟨b, 1, none⟩ = some v := by rw [Lib.cell_of_heap hbk]; rfl
  go_wp2_with (at_builtin; refine Lib.wpList_append_own_stringF _ rfl _ _ 91 9 rfl B 5 i0 Tryd.underlying91 Tryd.underlying9 hi hz0 hz1 hz2 _ _ _ rfl hown s rfl (by unfold maxLen; omega) (by omega) (by omega) ?_)
  intro v' w2 hown' hg _
  have hb2 : w2.heap[b]? = some (.cells #[.pointer (some ⟨b, 0, none⟩), v] 93 (0, 0)) := (hg.block b hlt (fun e => hne e.symm)).trans hbk
  have d0 : w2.cell? ⟨b, 0, none⟩ = some (.pointer (some ⟨b, 0, none⟩)) := by rw [Lib.cell_of_heap hb2]; rfl
  have d1 : w2.cell? ⟨b, 1, none⟩ = some v := by rw [Lib.cell_of_heap hb2]; rfl
  have f1 : w2.frozen? ⟨b, 1, none⟩ = false := Lib.frozen_of_heap hb2 1
  obtain ⟨ao, n', cap, rfl⟩ : ∃ ao n' cap, v' = .slice ao n' cap := by
    rcases hown'.2 with ⟨hv, _⟩ | ⟨g, cap, cur, fz, hv, _⟩
    · exact ⟨_, _, _, hv⟩
    · exact ⟨_, _, _, hv⟩
  go_wp2
  go_ret2
  refine ⟨rfl, .inr ?_, ?_, ?_⟩
  · exact Lib.BuilderAtF.put (T := 93) (e := 5) hB hb2 (bs' := bs ++ Lib.strCells s) (by simpa [Lib.strCells_length] using hown') (by decide)
  · exact (hb1.low.grown hg (by omega) (fun k hk => (hown.lt k hk).1)).setCell (p := ⟨b, 1, none⟩) hB _
  · exact (hb1.oth.grown hg (Lib.ownsRowF_kind hown)).setCell ⟨b, 1, none⟩ rfl _
set_option maxHeartbeats 2000000 in
set_option maxRecDepth 100000 in
theorem bByte (B b : Nat) (bs : List Value) (c : Int) (w : World) (h : Lib.IsBuilderF 93 5 B b bs w) (hlen : bs.length + 1 ≤ 1000000) (hBw : B ≤ w.heap.size) :
    Calls Tryd.prog 49 #[.pointer (some ⟨b, 0, none⟩), .int .u8 c] w fun e w' => e = .returned .nilIface ∧ Bld B b (bs ++ [.int .u8 c]) w w' := by
  obtain ⟨i0, hi, hz0, hz1, hz2⟩ := info_parts infB
  go_enter Tryd.func49, Tryd.ntmps49
  go_wp2_with (go_at_call 64; refine (bChk B b bs _ h).mono ?_)
  rintro e w1 ⟨rfl, h1, hb1⟩
  obtain ⟨v, hbk, hown, hne, hlt, hB⟩ := Bld.blk h1
  have hsz := hb1.low.size
  have c0 : w1.cell? ⟨b, 0, none⟩ = some (.pointer (some ⟨b, 0, none⟩)) := by rw [Lib.cell_of_heap hbk]; rfl
  have c1 : w1.cell? ⟨b, 1, none⟩ = some v := by rw [Lib.cell_of_heap hbk]; rfl
  go_wp2_with (at_builtin; refine wpList_append_ownF _ rfl _ _ 91 rfl B 5 i0 (.int .u8 0) 1 1 Tryd.underlying91 hi hz0 hz1 hz2 rfl (by decide) _ _ _ rfl (hown.alloc _) ⟨w1.heap.size, 0, none⟩ 1 1 [.int .u8 c] rfl rfl ?c1 ?c2 ?c3 ?c4 ?c5 ?_)
  case c1 =>
    intro j u hj
    match j, hj with
    | 0, hj => simp at hj; subst hj; simp [Addr.add]
  case c2 => intro u hu; simp at hu; subst hu; rfl
  case c3 => unfold maxLen; omega
  case c4 => omega
  case c5 => simp; omega
  intro v' w2 hown' hg _
  have hb2 : w2.heap[b]? = some (.cells #[.pointer (some ⟨b, 0, none⟩), v] 93 (0, 0)) := by
    rw [hg.block b (by simp; omega) (fun e => hne e.symm), Lib.alloc_old w1 _ b hlt]
    exact hbk
  have d0 : w2.cell? ⟨b, 0, none⟩ = some (.pointer (some ⟨b, 0, none⟩)) := by rw [Lib.cell_of_heap hb2]; rfl
  have d1 : w2.cell? ⟨b, 1, none⟩ = some v := by rw [Lib.cell_of_heap hb2]; rfl
  have f1 : w2.frozen? ⟨b, 1, none⟩ = false := Lib.frozen_of_heap hb2 1
  obtain ⟨g, cap, rfl⟩ : ∃ g cap, v' = .slice (some ⟨g, 0, none⟩) (bs.length + 1) cap := by
    rcases hown'.2 with ⟨_, h0⟩ | ⟨g, cap, cur, fz, hv, _⟩
    · omega
    · exact ⟨g, cap, hv⟩
  go_wp2
  go_ret
  refine ⟨rfl, .inr ?_, ?_, ?_⟩
  · exact Lib.BuilderAtF.put (T := 93) (e := 5) hB hb2 (bs' := bs ++ [.int .u8 c]) (by simpa using hown') (by decide)
  · exact ((hb1.low.alloc (by omega) _).grown hg (by simp; omega) (fun k hk => (hown.lt k hk).1)).setCell (p := ⟨b, 1, none⟩) hB _
  · exact ((hb1.oth.alloc _).grown hg (Lib.ownsRowF_kind (hown.alloc _))).setCell ⟨b, 1, none⟩ rfl _
end Go.Sas
namespace Go.Proofs
open Go.Shelf
def Tryd.lays169_ren : Go.Shelf.Ren := ⟨fun | 169 => 50 | n => n, fun | 70 => 90 | 9 => 9 | 0 => 0 | 72 => 93 | 37 => 91 | 127 => 112 | 3 => 3 | 5 => 5 | n => n, fun | n => n⟩
theorem Tryd.lays169 : Go.Proofs.Lays.n169 Tryd.prog Tryd.lays169_ren := {
  mixed := by kernel_rfl
  f169 := Tryd.func50.trans (congrArg some (by kernel_rfl))
  t0 := Tryd.underlying0
  a0 := Tryd.isAgg0
  z0 := Tryd.sizeOf0
  v0 := Tryd.zeroValue0
  t3 := Tryd.underlying3
  a3 := Tryd.isAgg3
  z3 := Tryd.sizeOf3
  v3 := Tryd.zeroValue3
  t9 := Tryd.underlying9
  a9 := Tryd.isAgg9
  z9 := Tryd.sizeOf9
  v9 := Tryd.zeroValue9
  t37 := Tryd.underlying91
  a37 := Tryd.isAgg91
  z37 := Tryd.sizeOf91
  v37 := Tryd.zeroValue91
  t70 := Tryd.underlying90
  a70 := Tryd.isAgg90
  z70 := Tryd.sizeOf90
  v70 := Tryd.zeroValue90
  t72 := Tryd.underlying93
  a72 := Tryd.isAgg93
  z72 := Tryd.sizeOf93
  v72 := Tryd.zeroValue93
  t127 := Tryd.underlying112
  a127 := Tryd.isAgg112
  z127 := Tryd.sizeOf112
  v127 := Tryd.zeroValue112 }
theorem Tryd.Builder_Extra_169 : Builder.Extra Tryd.prog Tryd.lays169_ren := {
  sizeBuilder := by kernel_rfl
  liesBuilder := by kernel_rfl
  t5 := Tryd.underlying5
  a5 := Tryd.isAgg5
  z5 := Tryd.sizeOf5
  v5 := Tryd.zeroValue5
  infoByte := by kernel_rfl
  cellsByte := by kernel_rfl
  sizeByte := by kernel_rfl
  neB5 := by decide }
open Go.RowKit in
theorem Tryd.Builder_String_any_f (B b : Nat) (l : List UInt8) (w : World) (h : Lib.IsBuilderF 93 5 B b (Lib.byteCells l) w) (hBw : B ≤ w.heap.size) :
    Calls Tryd.prog 50 #[.pointer (some ⟨b, 0, none⟩)] w fun e w' => e = .returned (.string ⟨l.toArray⟩) ∧ (Lib.IsBuilderF 93 5 B b (Lib.byteCells l) w' ∧ Below B w w') := Any.Builder_String_any_f Tryd.lays169 Tryd.Builder_Extra_169 B b l w h hBw
def Tryd.laysM171_ren : Go.Shelf.Ren := ⟨fun | 171 => 48 | 243 => 65 | 246 => 72 | 283 => 79 | 284 => 80 | 285 => 81 | 286 => 82 | 129 => 86 | 317 => 85 | 318 => 87 | 319 => 88 | 320 => 89 | 337 => 92 | 338 => 93 | n => n, fun | 3 => 3 | 9 => 9 | 2 => 2 | 4 => 4 | 171 => 132 | 0 => 0 | 53 => 127 | 37 => 91 | 5 => 5 | 173 => 135 | 212 => 138 | 51 => 124 | 20 => 20 | 213 => 139 | 46 => 115 | 232 => 142 | 233 => 143 | n => n, fun | 17 => 0 | 18 => 1 | 19 => 2 | n => n⟩
theorem Tryd.laysM171 : Go.Proofs.LaysM.n171 Tryd.prog Tryd.laysM171_ren := {
  mixed := by kernel_rfl
  f129 := Tryd.func86.trans (congrArg some (by kernel_rfl))
  f171 := Tryd.func48.trans (congrArg some (by kernel_rfl))
  f243 := Tryd.func65.trans (congrArg some (by kernel_rfl))
  f246 := Tryd.func72.trans (congrArg some (by kernel_rfl))
  f283 := Tryd.func79.trans (congrArg some (by kernel_rfl))
  f284 := Tryd.func80.trans (congrArg some (by kernel_rfl))
  f285 := Tryd.func81.trans (congrArg some (by kernel_rfl))
  f286 := Tryd.func82.trans (congrArg some (by kernel_rfl))
  f317 := Tryd.func85.trans (congrArg some (by kernel_rfl))
  f318 := Tryd.func87.trans (congrArg some (by kernel_rfl))
  f319 := Tryd.func88.trans (congrArg some (by kernel_rfl))
  f320 := Tryd.func89.trans (congrArg some (by kernel_rfl))
  f337 := Tryd.func92.trans (congrArg some (by kernel_rfl))
  f338 := Tryd.func93.trans (congrArg some (by kernel_rfl))
  t0 := Tryd.underlying0
  a0 := Tryd.isAgg0
  z0 := Tryd.sizeOf0
  v0 := Tryd.zeroValue0
  t2 := Tryd.underlying2
  a2 := Tryd.isAgg2
  z2 := Tryd.sizeOf2
  v2 := Tryd.zeroValue2
  t3 := Tryd.underlying3
  a3 := Tryd.isAgg3
  z3 := Tryd.sizeOf3
  v3 := Tryd.zeroValue3
  t4 := Tryd.underlying4
  a4 := Tryd.isAgg4
  z4 := Tryd.sizeOf4
  v4 := Tryd.zeroValue4
  t5 := Tryd.underlying5
  a5 := Tryd.isAgg5
  z5 := Tryd.sizeOf5
  v5 := Tryd.zeroValue5
  t9 := Tryd.underlying9
  a9 := Tryd.isAgg9
  z9 := Tryd.sizeOf9
  v9 := Tryd.zeroValue9
  t20 := Tryd.underlying20
  a20 := Tryd.isAgg20
  z20 := Tryd.sizeOf20
  v20 := Tryd.zeroValue20
  t37 := Tryd.underlying91
  a37 := Tryd.isAgg91
  z37 := Tryd.sizeOf91
  v37 := Tryd.zeroValue91
  t46 := Tryd.underlying115
  a46 := Tryd.isAgg115
  z46 := Tryd.sizeOf115
  v46 := Tryd.zeroValue115
  t51 := Tryd.underlying124
  a51 := Tryd.isAgg124
  z51 := Tryd.sizeOf124
  v51 := Tryd.zeroValue124
  t53 := Tryd.underlying127
  a53 := Tryd.isAgg127
  z53 := Tryd.sizeOf127
  v53 := Tryd.zeroValue127
  t171 := Tryd.underlying132
  a171 := Tryd.isAgg132
  z171 := Tryd.sizeOf132
  v171 := Tryd.zeroValue132
  t173 := Tryd.underlying135
  a173 := Tryd.isAgg135
  z173 := Tryd.sizeOf135
  v173 := Tryd.zeroValue135
  t212 := Tryd.underlying138
  a212 := Tryd.isAgg138
  z212 := Tryd.sizeOf138
  v212 := Tryd.zeroValue138
  t213 := Tryd.underlying139
  a213 := Tryd.isAgg139
  z213 := Tryd.sizeOf139
  t232 := Tryd.underlying142
  a232 := Tryd.isAgg142
  z232 := Tryd.sizeOf142
  v232 := Tryd.zeroValue142
  t233 := Tryd.underlying143
  a233 := Tryd.isAgg143
  z233 := Tryd.sizeOf143
  v233 := Tryd.zeroValue143
  g17 := by kernel_rfl
  g18 := by kernel_rfl
  g19 := by kernel_rfl
  i0 := by kernel_rfl
  i2 := by kernel_rfl
  i3 := by kernel_rfl
  i4 := by kernel_rfl
  i5 := by kernel_rfl
  i9 := by kernel_rfl
  i20 := by kernel_rfl
  i37 := by kernel_rfl
  i46 := by kernel_rfl
  i51 := by kernel_rfl
  i53 := by kernel_rfl
  i171 := by kernel_rfl
  i173 := by kernel_rfl
  i212 := by kernel_rfl
  i232 := by kernel_rfl
  i233 := by kernel_rfl
  m17 := by kernel_rfl
  m18 := by kernel_rfl
  m19 := by kernel_rfl }
open Go.RowKit Go.Sort Go.Lib in
theorem Tryd.strconv_Itoa (n : Int) (h0 : -9223372036854775808 ≤ n) (h1 : n ≤ 9223372036854775807) (w : World) (htab : Lib.TabIs Tryd.prog w "internal/strconv.uint64pow10" .u64 Lib.pow10Tab) :
    Calls Tryd.prog 48 #[.int .i64 n] w fun e w' => e = .returned (.string ⟨(Lib.itoa n).toArray⟩) ∧ ∃ k os, w' = grow (w.drewN k) os := Any.strconv_Itoa Tryd.laysM171 n h0 h1 w htab
end Go.Proofs
namespace Go.Sas
open Go.Proofs Go.RowKit
theorem Bld.trans {B b : Nat} {bs bs' : List Value} {w w1 w2 : World} (h : Bld B b bs w w1) (k : Bld B b bs' w1 w2) : Bld B b bs' w w2 := ⟨k.at_, h.low.trans k.low, h.oth.trans k.oth⟩
/-- other new blocks -/
theorem isb_below {T e B b : Nat} {bs : List Value} {w w' : World} (h : Lib.IsBuilderF T e B b bs w) (k : Below w.heap.size w w') : Lib.IsBuilderF T e B b bs w' := by
  have at1 : ∀ p, Lib.BuilderAtF T e B b p bs w → Lib.BuilderAtF T e B b p bs w' := by
    rintro p ⟨hB, v, h1, h2, h3⟩
    have hb := (Array.getElem?_eq_some_iff.1 h1).1
    refine ⟨hB, v, (k.block b hb).trans h1, ?_, h3⟩
    obtain ⟨h4, h5⟩ := h2
    refine ⟨h4, ?_⟩
    rcases h5 with h5 | ⟨g, cap, cur, fz, hv, hg, hr, hx⟩
    · exact .inl h5
    · exact .inr ⟨g, cap, cur, fz, hv, hg, (k.block g (Array.getElem?_eq_some_iff.1 hr).1).trans hr, hx⟩
  exact h.elim (fun x => .inl (at1 _ x)) (fun x => .inr (at1 _ x))
theorem Bld.below {B b : Nat} {bs : List Value} {w w1 w2 : World} (h : Bld B b bs w w1) (hB : B ≤ w.heap.size) (k : Below w1.heap.size w1 w2) : Bld B b bs w w2 :=
  ⟨isb_below h.at_ k, h.low.trans (k.mono (Nat.le_trans hB h.low.size)), h.oth.below k⟩
def rowBs (word : List UInt8) (l : List Int) : List UInt8 := word ++ l.flatMap (fun n => 32 :: Lib.itoa n)
theorem rowB_snoc (word : List UInt8) (l : List Int) (n : Int) : rowBs word (l ++ [n]) = rowBs word l ++ (32 :: Lib.itoa n) := by simp [rowBs]
theorem rowB_take (word : List UInt8) (l : List Int) (k : Nat) (n : Int) (h : l[k]? = some n) : rowBs word (l.take (k + 1)) = rowBs word (l.take k) ++ (32 :: Lib.itoa n) := by
  rw [List.take_add_one, h]; exact rowB_snoc _ _ _
theorem rowB_le (word : List UInt8) (l : List Int) (k : Nat) : (rowBs word (l.take k)).length ≤ (rowBs word l).length := by
  have : rowBs word l = rowBs word (l.take k) ++ (l.drop k).flatMap (fun n => 32 :: Lib.itoa n) := by
    unfold rowBs
    rw [List.append_assoc, ← List.flatMap_append, List.take_append_drop]
  rw [this, List.length_append]; omega
/-- the numbers of a row stand in a block that is no builder's -/
structure IntsAt (b : Nat) (g o : Nat) (l : List Int) (w : World) : Prop where
  blk : ∃ arr T fz, w.heap[g]? = some (.cells arr T fz) ∧ T ≠ 5
  ne : g ≠ b
  at_ : ∀ i n, l[i]? = some n → w.cell? ⟨g, o + i, none⟩ = some (.int .i64 n)
theorem IntsAt.kept {b g o : Nat} {l : List Int} {w w' : World} (h : IntsAt b g o l w) (k : Lib.OthersKept 5 (some b) w w') : IntsAt b g o l w' := by
  obtain ⟨arr, T, fz, h1, h2⟩ := h.blk
  have h3 := k g _ h1 (fun e => h.ne (Option.some.inj e)) (fun c fz e => h2 (by cases e; rfl))
  refine ⟨⟨arr, T, fz, h3, h2⟩, h.ne, fun i n hi => ?_⟩
  rw [← h.at_ i n hi]
  exact World.cell?_of_block (h3.trans h1.symm)
theorem rowB_nil (word : List UInt8) (l : List Int) : rowBs word (l.take 0) = word := by simp [rowBs]
theorem size_toL (s : ByteArray) : s.size = s.data.toList.length := by
  show s.data.size = _
  rw [Array.length_toList]
theorem rowBs_len (word : ByteArray) (l : List Int) : word.size ≤ (rowBs word.data.toList l).length := by
  rw [size_toL]
  unfold rowBs
  rw [List.length_append]
  exact Nat.le_add_right _ _
set_option maxHeartbeats 2000000 in
set_option maxRecDepth 100000 in
theorem wRow (B b g o c : Nat) (bs : List UInt8) (word : ByteArray) (l : List Int) (w : World) (hI : Lib.IsBuilderF 93 5 B b (Lib.byteCells bs) w) (hB : B ≤ w.heap.size)
    (hl : IntsAt b g o l w) (hn : ∀ n ∈ l, -9223372036854775808 ≤ n ∧ n ≤ 9223372036854775807) (htab : ∀ w', Below B w w' → Lib.TabIs Tryd.prog w' "internal/strconv.uint64pow10" .u64 Lib.pow10Tab)
    (hlen : bs.length + (rowBs word.data.toList l).length + 1 ≤ 1000000) (hll : l.length ≤ 1000) :
    Calls Tryd.prog 46 #[.string word, .slice (some ⟨g, o, none⟩) l.length c, .pointer (some ⟨b, 0, none⟩)] w fun e w' => e = .returned (.tuple #[]) ∧ Bld B b (Lib.byteCells (bs ++ rowBs word.data.toList l ++ [10])) w w' := by
  have hw0 : bs.length + word.size ≤ 1000000 := by
    have := rowBs_len word l
    omega
  go_enter Tryd.func46, Tryd.ntmps46
  go_wp2_with (go_at_call 47; refine (bStr B b _ word _ hI (by rw [Lib.byteCells_length]; exact hw0) hB).mono ?_)
  rintro e w1 ⟨rfl, h1⟩
  rw [Lib.strCells_eq, ← Lib.byteCells_append] at h1
  go_wp2
  go_loopw [11] (fun i wr => ∃ k : Nat, i = .int .i64 k ∧ k ≤ l.length ∧ Bld B b (Lib.byteCells (bs ++ rowBs word.data.toList (l.take k))) w wr) (fun i _ => match i with | .int _ z => l.length - z.toNat | _ => 0)
  case atStart => exact ⟨0, rfl, Nat.zero_le _, by rw [rowB_nil]; exact h1⟩
  case round =>
    obtain ⟨k, rfl, hk, h2⟩ := hrel
    by_cases hlt : k < l.length
    · have hcell := (hl.kept h2.oth).at_ k l[k] (List.getElem?_eq_getElem hlt)
      have hnk := hn l[k] (List.getElem_mem hlt)
      go_wp2_with (go_at_call 48; refine (Tryd.strconv_Itoa _ hnk.1 hnk.2 _ (htab _ h2.low)).mono ?_)
      rintro e w3 ⟨rfl, kk, os, rfl⟩
      have h3 := h2.below hB (Lib.below_grow wr.heap.size wr (Nat.le_refl _) kk os)
      have hle := rowB_le word.data.toList l (k + 1)
      rw [rowB_take _ _ k _ (List.getElem?_eq_getElem hlt), List.length_append] at hle
      simp only [List.length_cons] at hle
      have hB3 : B ≤ (Go.Sort.grow (wr.drewN kk) os).heap.size := Nat.le_trans hB h3.low.size
      have hsz : (Lib.byteCells (bs ++ rowBs word.data.toList (List.take k l))).length + (ByteArray.mk #[32] ++ ByteArray.mk (Lib.itoa l[k]).toArray).size ≤ 1000000 := by
        rw [Lib.byteCells_length, List.length_append, size_toL, ByteArray.data_append, Array.toList_append, List.length_append]
        simp only [List.length_cons, List.length_nil]
        omega
      have hbv := bStr B b _ (ByteArray.mk #[32] ++ ByteArray.mk (Lib.itoa l[k]).toArray) _ h3.at_ hsz hB3
      go_wp2_with (go_at_call 47; refine hbv.mono ?_)
      rintro e w4 ⟨rfl, h4⟩
      have h5 := h3.trans h4
      have e5 : Lib.byteCells (bs ++ rowBs word.data.toList (List.take k l)) ++ Lib.strCells (ByteArray.mk #[32] ++ ByteArray.mk (Lib.itoa l[k]).toArray) = Lib.byteCells (bs ++ rowBs word.data.toList (List.take (k + 1) l)) := by
        rw [Lib.strCells_eq, ← Lib.byteCells_append, rowB_take _ _ k _ (List.getElem?_eq_getElem hlt), ByteArray.data_append, Array.toList_append, List.append_assoc]
        rfl
      rw [e5] at h5
      clear hbv hsz h3 h4 e5 hle
      go_wp2
      go_roundw
      case rel => exact ⟨k + 1, rfl, hlt, h5⟩
      case measure =>
        show l.length - ((k : Int) + 1).toNat < l.length - (k : Int).toNat
        omega
    · have hkl : k = l.length := by omega
      subst hkl
      rw [List.take_length] at h2
      have hB2 : B ≤ wr.heap.size := Nat.le_trans hB h2.low.size
      have hsz : (Lib.byteCells (bs ++ rowBs word.data.toList l)).length + 1 ≤ 1000000 := by
        rw [Lib.byteCells_length, List.length_append]; omega
      have hbv := bByte B b _ 10 _ h2.at_ hsz hB2
      go_wp2_with (go_at_call 49; refine hbv.mono ?_)
      rintro e w4 ⟨rfl, h4⟩
      go_wp2
      go_end0
      refine ⟨rfl, ?_⟩
      have h5 := h2.trans h4
      have e5 : Lib.byteCells (bs ++ rowBs word.data.toList l) ++ [.int .u8 10] = Lib.byteCells (bs ++ rowBs word.data.toList l ++ [10]) := by
        rw [Lib.byteCells_append (bs ++ rowBs word.data.toList l)]
        rfl
      rw [e5] at h5
      exact h5
end Go.Sas
namespace Go.Sas
open Go.Proofs Go.RowKit
def capB (c : Int × Int) : List UInt8 := rowBs [99, 97, 112] [c.1, c.2] ++ [10]
def ordB (o : Int × Int × Int × Int) : List UInt8 := rowBs [111, 114, 100, 101, 114] [o.1, o.2.1, o.2.2.1, o.2.2.2] ++ [10]
def headB (a b c d : Int) : List UInt8 := rowBs [115, 101, 97, 115, 111, 110] [a, b, c, d] ++ [10]
def textB (a b c d : Int) (cs : List (Int × Int)) (os : List (Int × Int × Int × Int)) : List UInt8 := headB a b c d ++ cs.flatMap capB ++ os.flatMap ordB
/-- what was there stands, but for the tape -/
structure Low (B : Nat) (w w' : World) : Prop where
  os : w'.os = w.os
  output : w'.output = w.output
  size : w.heap.size ≤ w'.heap.size
  block : ∀ k, k < B → w'.heap[k]? = w.heap[k]?
theorem Low.of {B : Nat} {w w' : World} (h : Below B w w') : Low B w w' := ⟨h.os, h.output, h.size, h.block⟩
theorem Low.trans {B : Nat} {a b c : World} (h : Low B a b) (k : Low B b c) : Low B a c :=
  ⟨k.os.trans h.os, k.output.trans h.output, Nat.le_trans h.size k.size, fun i hi => (k.block i hi).trans (h.block i hi)⟩
theorem Low.mono {B B' : Nat} {w w' : World} (h : Low B w w') (hB : B' ≤ B) : Low B' w w' := ⟨h.os, h.output, h.size, fun k hk => h.block k (Nat.lt_of_lt_of_le hk hB)⟩
theorem cellB {w w' : World} (h : Low w.heap.size w w') {b o : Nat} {c : Value} (hc : w.cell? ⟨b, o, none⟩ = some c) : w'.cell? ⟨b, o, none⟩ = some c := by
  have hb : b < w.heap.size := by
    rcases Nat.lt_or_ge b w.heap.size with h1 | h1
    · exact h1
    · simp [World.cell?, Array.getElem?_eq_none h1] at hc
  unfold World.cell? at hc ⊢
  simp only at hc ⊢
  rw [h.block b hb]
  exact hc
theorem fm_take {α : Type} (f : α → List UInt8) {l : List α} {k : Nat} {x : α} (h : l[k]? = some x) : (l.take (k + 1)).flatMap f = (l.take k).flatMap f ++ f x := by
  rw [List.take_add_one, h, List.flatMap_append]; simp
theorem fm_le {α : Type} (f : α → List UInt8) (l : List α) (k : Nat) : ((l.take k).flatMap f).length ≤ (l.flatMap f).length := by
  have : l.flatMap f = (l.take k).flatMap f ++ (l.drop k).flatMap f := by rw [← List.flatMap_append, List.take_append_drop]
  rw [this, List.length_append]; omega
theorem mem_2 {p : Int → Prop} {a b : Int} (h1 : p a) (h2 : p b) : ∀ n ∈ [a, b], p n := by
  intro n hn
  simp at hn
  rcases hn with rfl | rfl <;> assumption
theorem mem_4 {p : Int → Prop} {a b c d : Int} (h1 : p a) (h2 : p b) (h3 : p c) (h4 : p d) : ∀ n ∈ [a, b, c, d], p n := by
  intro n hn
  simp at hn
  rcases hn with rfl | rfl | rfl | rfl <;> assumption
set_option maxRecDepth 100000 in
/-- a row of numbers that are laid for the call -/
theorem wRowNew (B : Nat) (bs : List UInt8) (word : ByteArray) (l : List Int) (arr : Array Value) (n g : Nat) (w2 wr : World) (hg : g = wr.heap.size) (h : Bld B B (Lib.byteCells bs) w2 wr) (hB : B < w2.heap.size)
    (harr : arr = (l.map fun n => Value.int .i64 n).toArray) (hnl : n = l.length)
    (hn : ∀ n ∈ l, -9223372036854775808 ≤ n ∧ n ≤ 9223372036854775807) (htab : ∀ w', Below B w2 w' → Lib.TabIs Tryd.prog w' "internal/strconv.uint64pow10" .u64 Lib.pow10Tab)
    (hlen : bs.length + (rowBs word.data.toList l).length + 1 ≤ 1000000) (hll : l.length ≤ 1000) :
    Calls Tryd.prog 46 #[.string word, .slice (some ⟨g, 0, none⟩) n n, .pointer (some ⟨B, 0, none⟩)] (wr.alloc (.cells arr 3)) fun e w' => e = .returned (.tuple #[]) ∧ Bld B B (Lib.byteCells (bs ++ rowBs word.data.toList l ++ [10])) w2 w' := by
  subst hnl
  subst hg
  have hsz := h.low.size
  have h2 : Bld B B (Lib.byteCells bs) w2 (wr.alloc (.cells arr 3)) := h.below (by omega) ((Below.refl _ _).alloc (Nat.le_refl _) _)
  have hblk : (wr.alloc (.cells arr 3)).heap[wr.heap.size]? = some (.cells arr 3 (0, 0)) := heap_alloc_new wr _
  have hat : IntsAt B wr.heap.size 0 l (wr.alloc (.cells arr 3)) := by
    refine ⟨⟨arr, 3, (0, 0), hblk, by decide⟩, by omega, fun i n hi => ?_⟩
    rw [Lib.cell_of_heap hblk, harr]
    simp [hi]
  refine (wRow B B wr.heap.size 0 l.length bs word l _ h2.at_ (by simp; omega) hat hn (fun w' hw' => htab w' (h2.low.trans hw')) hlen hll).mono ?_
  rintro e w' ⟨rfl, h3⟩
  exact ⟨rfl, h2.trans h3⟩
def I64 (n : Int) : Prop := -9223372036854775808 ≤ n ∧ n ≤ 9223372036854775807
abbrev frW (a b c d : Int) (sc so : Value) : Value := .agg #[.int .i64 a, .int .i64 b, .int .i64 c, .int .i64 d, sc, so]
set_option maxHeartbeats 1000000 in
set_option maxRecDepth 100000 in
theorem wWriteE (a b c d e : Int) (sc so : Value) (w : World) (he : e ≠ 0) (h : ∀ w1, Low w.heap.size w w1 → Calls Tryd.prog 6 #[frW a b c d sc so] w1 fun x w' => x = .returned (.int .i64 e) ∧ Low w1.heap.size w1 w') :
    Calls Tryd.prog 33 #[frW a b c d sc so] w fun x w' => x = .returned (.tuple #[.string ⟨#[]⟩, .int .i64 e]) ∧ Low w.heap.size w w' := by
  go_enter Tryd.func33, Tryd.ntmps33
  go_wp2_with (go_at_call 6; refine (h _ (.of ((Below.refl _ w).alloc (Nat.le_refl _) _))).mono ?_)
  rintro x w1 ⟨rfl, h1⟩
  go_wp2
  go_ret2
  exact ⟨rfl, (Low.of ((Below.refl _ w).alloc (Nat.le_refl _) _)).trans (h1.mono (by simp))⟩
set_option maxHeartbeats 2000000 in
set_option maxRecDepth 100000 in
theorem wWrite (a b c d : Int) (cs : List (Int × Int)) (os : List (Int × Int × Int × Int)) (gc oc cc go oo co : Nat) (w : World)
    (h : ∀ w1, Low w.heap.size w w1 → Calls Tryd.prog 6 #[frW a b c d (.slice (some ⟨gc, oc, none⟩) cs.length cc) (.slice (some ⟨go, oo, none⟩) os.length co)] w1 fun x w' => x = .returned (.int .i64 0) ∧ Low w1.heap.size w1 w')
    (htab : ∀ w', Low w.heap.size w w' → Lib.TabIs Tryd.prog w' "internal/strconv.uint64pow10" .u64 Lib.pow10Tab)
    (hlen : (textB a b c d cs os).length ≤ 1000000)
    (hh : ∀ n ∈ [a, b, c, d], I64 n) (hc : ∀ x ∈ cs, I64 x.1 ∧ I64 x.2) (ho : ∀ x ∈ os, I64 x.1 ∧ I64 x.2.1 ∧ I64 x.2.2.1 ∧ I64 x.2.2.2) (hcl : cs.length ≤ 1000) (hol : os.length ≤ 1000)
    (hcc : ∀ i x, cs[i]? = some x → w.cell? ⟨gc, oc + i * 2, none⟩ = some (.int .i64 x.1) ∧ w.cell? ⟨gc, oc + i * 2 + 1, none⟩ = some (.int .i64 x.2))
    (hoc : ∀ i x, os[i]? = some x → w.cell? ⟨go, oo + i * 4, none⟩ = some (.int .i64 x.1) ∧ w.cell? ⟨go, oo + i * 4 + 1, none⟩ = some (.int .i64 x.2.1) ∧ w.cell? ⟨go, oo + i * 4 + 2, none⟩ = some (.int .i64 x.2.2.1) ∧ w.cell? ⟨go, oo + i * 4 + 3, none⟩ = some (.int .i64 x.2.2.2)) :
    Calls Tryd.prog 33 #[frW a b c d (.slice (some ⟨gc, oc, none⟩) cs.length cc) (.slice (some ⟨go, oo, none⟩) os.length co)] w fun x w' => x = .returned (.tuple #[.string ⟨(textB a b c d cs os).toArray⟩, .int .i64 0]) ∧ Low w.heap.size w w' := by
  go_enter Tryd.func33, Tryd.ntmps33
  go_wp2_with (go_at_call 6; refine (h _ (.of ((Below.refl _ w).alloc (Nat.le_refl _) _))).mono ?_)
  rintro x w1 ⟨rfl, h1⟩
  have hbk : w1.heap[w.heap.size]? = some (.cells #[.int .i64 a, .int .i64 b, .int .i64 c, .int .i64 d, .slice (some ⟨gc, oc, none⟩) cs.length cc, .slice (some ⟨go, oo, none⟩) os.length co] 27 (0, 0)) := by
    rw [h1.block _ (by simp), heap_alloc_new]
  have hlt := (Array.getElem?_eq_some_iff.1 hbk).1
  have hbk2 := Below.heap_alloc w1 (.cells #[.pointer none, .slice none 0 0] 93) _ hlt
  rw [hbk] at hbk2
  have f0 : (w1.alloc (.cells #[.pointer none, .slice none 0 0] 93)).cell? ⟨w.heap.size, 0, none⟩ = some (.int .i64 a) := by rw [Lib.cell_of_heap hbk2]; rfl
  have f1 : (w1.alloc (.cells #[.pointer none, .slice none 0 0] 93)).cell? ⟨w.heap.size, 1, none⟩ = some (.int .i64 b) := by rw [Lib.cell_of_heap hbk2]; rfl
  have f2 : (w1.alloc (.cells #[.pointer none, .slice none 0 0] 93)).cell? ⟨w.heap.size, 2, none⟩ = some (.int .i64 c) := by rw [Lib.cell_of_heap hbk2]; rfl
  have f3 : (w1.alloc (.cells #[.pointer none, .slice none 0 0] 93)).cell? ⟨w.heap.size, 3, none⟩ = some (.int .i64 d) := by rw [Lib.cell_of_heap hbk2]; rfl
  have hlow : Low w.heap.size w (w1.alloc (.cells #[.pointer none, .slice none 0 0] 93)) := ((Low.of ((Below.refl _ w).alloc (Nat.le_refl _) _)).trans (h1.mono (by simp))).trans (.of ((Below.refl _ w1).alloc (by omega) _))
  have hB0 : w1.heap.size < (w1.alloc (.cells #[.pointer none, .slice none 0 0] 93)).heap.size := by simp
  have hbld : Bld w1.heap.size w1.heap.size (Lib.byteCells []) (w1.alloc (.cells #[.pointer none, .slice none 0 0] 93)) (w1.alloc (.cells #[.pointer none, .slice none 0 0] 93)) := ⟨Lib.IsBuilderF.of (Lib.fresh_isBuilder 93 5 w1), Below.refl _ _, Lib.OthersKept.refl _ _ _⟩
  have htab2 : ∀ w', Below w1.heap.size (w1.alloc (.cells #[.pointer none, .slice none 0 0] 93)) w' → Lib.TabIs Tryd.prog w' "internal/strconv.uint64pow10" .u64 Lib.pow10Tab := fun w' hw' => htab w' (hlow.trans (.of (hw'.mono (by omega))))
  have hl0 : ([] : List UInt8).length + (rowBs (ByteArray.mk #[115, 101, 97, 115, 111, 110]).data.toList [a, b, c, d]).length + 1 ≤ 1000000 := by
    unfold textB headB at hlen
    simp only [List.length_append, List.length_cons, List.length_nil] at hlen ⊢
    omega
  have hrow := wRowNew w1.heap.size [] ⟨#[115, 101, 97, 115, 111, 110]⟩ [a, b, c, d] #[.int .i64 a, .int .i64 b, .int .i64 c, .int .i64 d] 4 (w1.heap.size + 1) _ _ (by simp) hbld hB0 rfl rfl hh htab2 hl0 (by simp)
  go_wp2_with (go_at_call 46; refine hrow.mono ?_)
  rintro x w3 ⟨rfl, h3⟩
  have e3 : Lib.byteCells ([] ++ rowBs (ByteArray.mk #[115, 101, 97, 115, 111, 110]).data.toList [a, b, c, d] ++ [10]) = Lib.byteCells (headB a b c d) := by rw [List.nil_append]; rfl
  rw [e3] at h3
  have g4 : w3.cell? ⟨w.heap.size, 4, none⟩ = some (.slice (some ⟨gc, oc, none⟩) cs.length cc) := by
    rw [Lib.cell_of_heap ((h3.low.block _ hlt).trans hbk2)]; rfl
  clear f0 f1 f2 f3 hrow hl0 hbld e3
  go_wp2
  go_loopw [35] (fun i wr => ∃ k : Nat, i = .int .i64 k ∧ k ≤ cs.length ∧ Bld w1.heap.size w1.heap.size (Lib.byteCells (headB a b c d ++ (cs.take k).flatMap capB)) (w1.alloc (.cells #[.pointer none, .slice none 0 0] 93)) wr) (fun i _ => match i with | .int _ z => cs.length - z.toNat | _ => 0)
  case atStart => exact ⟨0, rfl, Nat.zero_le _, by rw [List.take_zero, List.flatMap_nil, List.append_nil]; exact h3⟩
  case round =>
    obtain ⟨k, rfl, hk, h4⟩ := hrel
    by_cases hkl : k < cs.length
    · have hx := List.getElem?_eq_getElem hkl
      generalize cs[k] = y at hx
      obtain ⟨y1, y2⟩ := y
      obtain ⟨z1, z2⟩ := hcc k _ hx
      have hI := hc _ (List.mem_of_getElem? hx)
      simp only at z1 z2 hI
      have z3 := cellB (hlow.trans (.of (h4.low.mono (by omega)))) z1
      have z4 := cellB (hlow.trans (.of (h4.low.mono (by omega)))) z2
      have hlc : (headB a b c d ++ (cs.take k).flatMap capB).length + (rowBs (ByteArray.mk #[99, 97, 112]).data.toList [y1, y2]).length + 1 ≤ 1000000 := by
        have e1 := fm_le capB cs (k + 1)
        rw [fm_take capB hx, List.length_append, capB, List.length_append] at e1
        unfold textB at hlen
        simp only [List.length_append, List.length_cons, List.length_nil] at hlen e1 ⊢
        omega
      have hrow := wRowNew w1.heap.size _ ⟨#[99, 97, 112]⟩ [y1, y2] #[.int .i64 y1, .int .i64 y2] 2 (wr.heap.size + 1) _ (wr.alloc (.cells #[.int .i64 y1, .int .i64 y2] 23)) (by simp) (h4.below (by omega) ((Below.refl _ wr).alloc (Nat.le_refl _) _)) hB0 rfl rfl (mem_2 hI.1 hI.2) htab2 hlc (by simp)
      go_wp2_with (go_at_call 46; refine hrow.mono ?_)
      rintro x w5 rfl h5
      have e5 : headB a b c d ++ ((cs.take k).flatMap capB ++ (rowBs [99, 97, 112] [y1, y2] ++ [10])) = headB a b c d ++ (cs.take (k + 1)).flatMap capB := by
        rw [fm_take capB hx]
        rfl
      rw [e5] at h5
      clear hrow hlc e5 z1 z2 z3 z4
      go_wp2
      go_roundw
      case rel => exact ⟨k + 1, rfl, hkl, h5⟩
      case measure =>
        show cs.length - ((k : Int) + 1).toNat < cs.length - (k : Int).toNat
        omega
    · have hkk : k = cs.length := by omega
      subst hkk
      rw [List.take_length] at h4
      have g5 : wr.cell? ⟨w.heap.size, 5, none⟩ = some (.slice (some ⟨go, oo, none⟩) os.length co) := by
        rw [Lib.cell_of_heap ((h4.low.block _ hlt).trans hbk2)]; rfl
      go_wp2
      go_loopw [50] (fun i ws => ∃ k : Nat, i = .int .i64 k ∧ k ≤ os.length ∧ Bld w1.heap.size w1.heap.size (Lib.byteCells (headB a b c d ++ cs.flatMap capB ++ (os.take k).flatMap ordB)) (w1.alloc (.cells #[.pointer none, .slice none 0 0] 93)) ws) (fun i _ => match i with | .int _ z => os.length - z.toNat | _ => 0)
      case atStart => exact ⟨0, rfl, Nat.zero_le _, by rw [List.take_zero, List.flatMap_nil, List.append_nil]; exact h4⟩
      case round =>
        obtain ⟨k, rfl, hk, h6⟩ := hrel
        by_cases hkl : k < os.length
        · have hx := List.getElem?_eq_getElem hkl
          generalize os[k] = y at hx
          obtain ⟨y1, y2, y3, y4⟩ := y
          obtain ⟨z1, z2, z3, z4⟩ := hoc k _ hx
          have hI := ho _ (List.mem_of_getElem? hx)
          simp only at z1 z2 z3 z4 hI
          have q1 := cellB (hlow.trans (.of (h6.low.mono (by omega)))) z1
          have q2 := cellB (hlow.trans (.of (h6.low.mono (by omega)))) z2
          have q3 := cellB (hlow.trans (.of (h6.low.mono (by omega)))) z3
          have q4 := cellB (hlow.trans (.of (h6.low.mono (by omega)))) z4
          have hlc : (headB a b c d ++ cs.flatMap capB ++ (os.take k).flatMap ordB).length + (rowBs (ByteArray.mk #[111, 114, 100, 101, 114]).data.toList [y1, y2, y3, y4]).length + 1 ≤ 1000000 := by
            have e1 := fm_le ordB os (k + 1)
            rw [fm_take ordB hx, List.length_append, ordB, List.length_append] at e1
            unfold textB at hlen
            simp only [List.length_append, List.length_cons, List.length_nil] at hlen e1 ⊢
            omega
          have hrow := wRowNew w1.heap.size _ ⟨#[111, 114, 100, 101, 114]⟩ [y1, y2, y3, y4] #[.int .i64 y1, .int .i64 y2, .int .i64 y3, .int .i64 y4] 4 (wr.heap.size + 1) _ (wr.alloc (.cells #[.int .i64 y1, .int .i64 y2, .int .i64 y3, .int .i64 y4] 30)) (by simp) (h6.below (by omega) ((Below.refl _ wr).alloc (Nat.le_refl _) _)) hB0 rfl rfl (mem_4 hI.1 hI.2.1 hI.2.2.1 hI.2.2.2) htab2 hlc (by simp)
          go_wp2_with (go_at_call 46; refine hrow.mono ?_)
          rintro x w5 rfl h5
          have e5 : headB a b c d ++ (cs.flatMap capB ++ ((os.take k).flatMap ordB ++ (rowBs [111, 114, 100, 101, 114] [y1, y2, y3, y4] ++ [10]))) = headB a b c d ++ cs.flatMap capB ++ (os.take (k + 1)).flatMap ordB := by
            rw [fm_take ordB hx, List.append_assoc]
            rfl
          rw [e5] at h5
          clear hrow hlc e5 z1 z2 z3 z4 q1 q2 q3 q4
          go_wp2
          go_roundw
          case rel => exact ⟨k + 1, rfl, hkl, h5⟩
          case measure =>
            show os.length - ((k : Int) + 1).toNat < os.length - (k : Int).toNat
            omega
        · have hkk : k = os.length := by omega
          subst hkk
          rw [List.take_length] at h6
          have hstr := Tryd.Builder_String_any_f w1.heap.size w1.heap.size _ _ h6.at_ (Nat.le_trans (by omega) h6.low.size)
          go_wp2_with (go_at_call 50; refine hstr.mono ?_)
          rintro x w5 ⟨rfl, _, h7⟩
          go_wp2
          go_ret2
          refine ⟨?_, hlow.trans (.of ((h6.low.trans h7).mono (by omega)))⟩
          show Ending.returned (.tuple #[.string ⟨(headB a b c d ++ (cs.flatMap capB ++ os.flatMap ordB)).toArray⟩, .int .i64 0]) = _
          rw [textB, List.append_assoc]
end Go.Sas
