/-
Season files: entries of tables for the laws; what is written is read.
Conditions: none.
-/
import Derived.Test.YtaeaamhlejhgkaaGreatDoorXF
import Derived.Test.YtaeaamhlejhgkaaGreatDoorQG21
set_option linter.unusedVariables false
set_option linter.unusedSimpArgs false
namespace Go.Sas
open Go.Proofs
set_option maxRecDepth 100000
def eSeedF : List AV → AHeap → Option PT
  | [x], H => match asVs 1 x with
    | some xs => some fun K => ∃ l : List Int, (xs = l.map I ∧ l.length ≤ 9223372036854775807) ∧ ∀ w, K (.mp H.length 0 0) (H ++ [.own 0 [U w]])
    | none => none
  | _, _ => none
theorem eSeedF_ok : ∀ args H pt, eSeedF args H = some pt → ∀ (Kk : AV → AHeap → Prop), pt Kk → ACalls Tryz.prog 8 args H Kk := by
  intro args H pt h Kk hk
  unfold eSeedF at h
  split at h
  · split at h
    · rename_i xs hx
      cases h
      obtain ⟨l, ⟨rfl, b⟩, h1⟩ := hk
      exact (p8 l b H h1).wk ⟨asVs_wk hx, trivial⟩
    · cases h
  · cases h
def sFr : List AV → Option ((Unit → Prop) × (AV → Prop))
  | [.lit (.int .i64 days), .lit (.int .i64 orders)] => some (fun _ => (1 ≤ days ∧ days ≤ 200) ∧ (1 ≤ orders ∧ orders ≤ 6), FrQ days orders)
  | _ => none
theorem sFr_ok : ∀ rest pre Q, sFr rest = some (pre, Q) → pre () → Draws Tryz.prog 7 rest Q := by
  intro rest pre Q h hp
  unfold sFr at h
  split at h
  · cases h; exact d7 _ _ hp.1 hp.2
  · cases h
def eAwk : List AV → Option ((AV → Prop) → Prop)
  | [] => some fun K => K (B true)
  | _ => none
theorem eAwk_ok : ∀ args pt, eAwk args = some pt → ∀ (H : AHeap) (Kk : AV → AHeap → Prop), pt (fun r => Kk r H) → ACalls Tryz.prog 6 args H Kk := by
  intro args pt h H Kk hk
  unfold eAwk at h
  split at h
  · cases h; exact p6 H hk
  · cases h
structure WritePre (H : AHeap) (a b c d : Int) (xs ys : List AV) (cs : List (Int × Int)) (os : List Ord) : Prop where
  glob : Globs H
  xs : xs = cs.map sp
  ys : ys = os.map orV
  cl : cs.length ≤ 9223372036854775807
  ol : os.length ≤ 9223372036854775807
structure WriteIs (f : Frt) (t : ByteArray) (q : Int) : Prop where
  t : t = bA (if checkF f = 0 then textS f else [])
  q : q = checkF f
def eWriteF : List AV → AHeap → Option PT
  | [.agg [.lit (.int .i64 a), .lit (.int .i64 b), .lit (.int .i64 c), .lit (.int .i64 d), .vs 2 xs, .vs 4 ys]], H =>
    some fun K => ∃ cs os, WritePre H a b c d xs ys cs os ∧ ∀ t q, WriteIs ⟨(a, b), (c, d), cs, os⟩ t q → K (.tup [.lit (.string t), I q]) H
  | _, _ => none
theorem eWriteF_ok : ∀ args H pt, eWriteF args H = some pt → ∀ (Kk : AV → AHeap → Prop), pt Kk → ACalls Tryz.prog 9 args H Kk := by
  intro args H pt h Kk hk
  unfold eWriteF at h
  split at h
  · cases h
    obtain ⟨cs, os, ⟨hG, rfl, rfl, hc, ho⟩, hk⟩ := hk
    obtain ⟨g, ob, h1, h2, h3⟩ := hG.pins
    refine w9 ⟨(_, _), (_, _), cs, os⟩ hc ho H h2 h1 h3 (hk _ _ ⟨?_, rfl⟩)
    rw [writeF_eq]; rfl
  · cases h
structure ReadIs (t : ByteArray) (a b c d : Int) (cs : List (Int × Int)) (os : List Ord) (xs ys : List AV) (row q : Int) : Prop where
  eq : readF t.data.toList = (⟨(a, b), (c, d), cs, os⟩, row, q)
  xs : xs = cs.map sp
  ys : ys = os.map orV
def eReadF : List AV → AHeap → Option PT
  | [.lit (.string t)], H => some fun K => ∃ _u : Unit, Globs H ∧ ∀ a b c d cs os xs ys row q, ReadIs t a b c d cs os xs ys row q → K (.tup [frV a b c d (.vs 2 xs) (.vs 4 ys), I row, I q]) H
  | _, _ => none
theorem eReadF_ok {f : Nat} (hf : ∀ (tb : ByteArray) (H : AHeap) (_ : Globs H) {Kk : AV → AHeap → Prop}, Kk (readA (readF tb.data.toList)) H → ACalls Tryz.prog f [.lit (.string tb)] H Kk) :
    ∀ args H pt, eReadF args H = some pt → ∀ (Kk : AV → AHeap → Prop), pt Kk → ACalls Tryz.prog f args H Kk := by
  intro args H pt h Kk hk
  unfold eReadF at h
  split at h
  · rename_i t
    cases h
    obtain ⟨_, hG, hk⟩ := hk
    exact hf t H hG (hk _ _ _ _ _ _ _ _ _ _ ⟨rfl, rfl, rfl⟩)
  · cases h
theorem textS_len {f : Frt} (hV : FrtV f) : (textS f).length ≤ 20000 := by
  have n1 := hV.c2
  have n2 := hV.fi
  have n3 := hV.la
  have hh : ∀ n ∈ [f.fi.1, f.fi.2, f.la.1, f.la.2], I64 n := mem_4 ⟨by omega, by omega⟩ ⟨by omega, by omega⟩ ⟨by omega, by omega⟩ ⟨by omega, by omega⟩
  have hc : ∀ x ∈ f.caps, I64 x.1 ∧ I64 x.2 := fun x hx => by
    have := hV.cb x hx
    exact ⟨⟨by omega, by omega⟩, by omega, by omega⟩
  have ho : ∀ x ∈ f.ords.map o4, I64 x.1 ∧ I64 x.2.1 ∧ I64 x.2.2.1 ∧ I64 x.2.2.2 := fun x hx => by
    obtain ⟨o, ho, rfl⟩ := List.mem_map.1 hx
    have := hV.ob o ho
    exact ⟨⟨by simp only [o4]; omega, by simp only [o4]; omega⟩, ⟨by simp only [o4]; omega, by simp only [o4]; omega⟩, ⟨by simp only [o4]; omega, by simp only [o4]; omega⟩, by simp only [o4]; omega, by simp only [o4]; omega⟩
  rw [← textF_textS]
  have h1 := len_nums hh
  have h2 : (f.caps.flatMap capB).length ≤ 48 * f.caps.length := lenF_le fun x hx => by
    have := len_nums (l := [x.1, x.2]) (mem_2 (hc x hx).1 (hc x hx).2)
    simp only [capB, rowB, List.length_append, List.length_cons, List.length_nil] at this ⊢
    omega
  have h3 : ((f.ords.map o4).flatMap ordB).length ≤ 94 * (f.ords.map o4).length := lenF_le fun x hx => by
    have := len_nums (l := [x.1, x.2.1, x.2.2.1, x.2.2.2]) (mem_4 (ho x hx).1 (ho x hx).2.1 (ho x hx).2.2.1 (ho x hx).2.2.2)
    simp only [ordB, rowB, List.length_append, List.length_cons, List.length_nil] at this ⊢
    omega
  have h5 := hV.o2
  rw [List.length_map] at h3
  simp only [textF, textB, headB, rowB, List.length_append, List.length_cons, List.length_nil] at h1 ⊢
  omega
end Go.Sas
