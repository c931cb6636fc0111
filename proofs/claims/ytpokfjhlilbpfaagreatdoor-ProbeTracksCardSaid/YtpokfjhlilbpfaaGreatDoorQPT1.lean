/-
Radar files: entries of tables for the laws; what is written is read.
Conditions: none.
-/
import Derived.Test.YtpokfjhlilbpfaaGreatDoorQPD
import Derived.Test.YtpokfjhlilbpfaaGreatDoorQPW7
import Derived.Test.YtpokfjhlilbpfaaGreatDoorPKg
set_option linter.unusedVariables false
set_option linter.unusedSimpArgs false
namespace Go.Sas
open Go.Proofs
set_option maxRecDepth 100000
def eSeedF : List AV → AHeap → Option PT
  | [x], H => match asVs 1 x with
    | some xs => some fun K => ∃ l : List Int, (xs = l.map I ∧ l.length ≤ 9223372036854775807) ∧ ∀ w, K (.mp H.length 0 0) (H ++ [.own 0 [U w]])
    | none => none
  | _, _ => none
theorem eSeedF_ok : ∀ args H pt, eSeedF args H = some pt → ∀ (Kk : AV → AHeap → Prop), pt Kk → ACalls Tryz.prog 7 args H Kk := by
  intro args H pt h Kk hk
  unfold eSeedF at h
  split at h
  · split at h
    · rename_i xs hx
      cases h
      obtain ⟨l, ⟨rfl, b⟩, h1⟩ := hk
      exact (p7 l b H h1).wk ⟨asVs_wk hx, trivial⟩
    · cases h
  · cases h
structure WritePre (H : AHeap) (xs : List AV) (os : List Ech) : Prop where
  glob : Globs H
  xs : xs = os.map ecV
  ol : os.length ≤ 9223372036854775807
structure WriteIs (t : Trk) (s : ByteArray) (q : Int) : Prop where
  e : s = bA (writeK t)
  q : q = checkT t
def eWriteK : List AV → AHeap → Option PT
  | [.agg [.lit (.int .i64 a), .lit (.int .i64 b), .vs 4 xs]], H =>
    some fun K => ∃ os, WritePre H xs os ∧ ∀ t q, WriteIs ⟨(a, b), os⟩ t q → K (.tup [.lit (.string t), I q]) H
  | _, _ => none
theorem eWriteK_ok {f : Nat} (hf : ∀ (t : Trk) (_ : t.ec.length ≤ 9223372036854775807) (H : AHeap) (_ : Globs H) {Kk : AV → AHeap → Prop}, Kk (.tup [.lit (.string ⟨(writeK t).toArray⟩), I (checkT t)]) H → ACalls Tryz.prog f [tkV t.sp.1 t.sp.2 (.vs 4 (t.ec.map ecV))] H Kk) :
    ∀ args H pt, eWriteK args H = some pt → ∀ (Kk : AV → AHeap → Prop), pt Kk → ACalls Tryz.prog f args H Kk := by
  intro args H pt h Kk hk
  unfold eWriteK at h
  split at h
  · cases h
    obtain ⟨os, ⟨hG, rfl, ho⟩, hk⟩ := hk
    exact hf ⟨(_, _), os⟩ ho H hG (hk _ _ ⟨rfl, rfl⟩)
  · cases h
theorem p8 (t : Trk) (ho : t.ec.length ≤ 9223372036854775807) (H : AHeap) (hG : Globs H) {Kk : AV → AHeap → Prop} (h : Kk (.tup [.lit (.string ⟨(writeK t).toArray⟩), I (checkT t)]) H) : ACalls Tryz.prog 8 [tkV t.sp.1 t.sp.2 (.vs 4 (t.ec.map ecV))] H Kk := by
  obtain ⟨g, ob, h1, h2, h3⟩ := hG.pins
  exact w8 t ho H h2 h1 h3 h
structure ReadIs (t : ByteArray) (a b : Int) (os : List Ech) (xs : List AV) (row q : Int) : Prop where
  eq : readK t.data.toList = (⟨(a, b), os⟩, row, q)
  xs : xs = os.map ecV
def eReadK : List AV → AHeap → Option PT
  | [.lit (.string t)], H => some fun K => ∃ _u : Unit, Globs H ∧ ∀ a b os xs row q, ReadIs t a b os xs row q → K (.tup [tkV a b (.vs 4 xs), I row, I q]) H
  | _, _ => none
theorem eReadK_ok {f : Nat} (hf : ∀ (tb : ByteArray) (H : AHeap) (_ : Globs H) {Kk : AV → AHeap → Prop}, Kk (readA (readK tb.data.toList)) H → ACalls Tryz.prog f [.lit (.string tb)] H Kk) :
    ∀ args H pt, eReadK args H = some pt → ∀ (Kk : AV → AHeap → Prop), pt Kk → ACalls Tryz.prog f args H Kk := by
  intro args H pt h Kk hk
  unfold eReadK at h
  split at h
  · rename_i t
    cases h
    obtain ⟨_, hG, hk⟩ := hk
    exact hf t H hG (hk _ _ _ _ _ _ ⟨rfl, rfl⟩)
  · cases h
theorem textT_len {t : Trk} (hV : TrkV t) : (textT t).length ≤ 20000 := by
  have n2 := hV.s1
  have n3 := hV.s2
  have hh : ∀ n ∈ [t.sp.1, t.sp.2], I64 n := mem_2 ⟨by omega, by omega⟩ ⟨by omega, by omega⟩
  have ho : ∀ x ∈ t.ec.map o4, I64 x.1 ∧ I64 x.2.1 ∧ I64 x.2.2.1 ∧ I64 x.2.2.2 := fun x hx => by
    obtain ⟨o, ho, rfl⟩ := List.mem_map.1 hx
    have := hV.all o ho
    exact ⟨⟨by simp only [o4]; omega, by simp only [o4]; omega⟩, ⟨by simp only [o4]; omega, by simp only [o4]; omega⟩, ⟨by simp only [o4]; omega, by simp only [o4]; omega⟩, by simp only [o4]; omega, by simp only [o4]; omega⟩
  rw [← textK_textT]
  have h1 := len_nums hh
  have h3 : ((t.ec.map o4).flatMap echB).length ≤ 94 * (t.ec.map o4).length := lenF_le fun x hx => by
    have := len_nums (l := [x.1, x.2.1, x.2.2.1, x.2.2.2]) (mem_4 (ho x hx).1 (ho x hx).2.1 (ho x hx).2.2.1 (ho x hx).2.2.2)
    simp only [echB, rowB, List.length_append, List.length_cons, List.length_nil] at this ⊢
    omega
  have h5 := hV.len
  rw [List.length_map] at h3
  simp only [textK, trkB, radB, rowB, List.length_append, List.length_cons, List.length_nil] at h1 ⊢
  omega
end Go.Sas
