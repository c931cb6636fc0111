/-
Contracts of the library for the walks over texts.
Conditions: none.
-/
import Derived.Test.YtpokfjhlilbpfaaGreatDoorXEg
import Derived.Test.YtpokfjhlilbpfaaGreatDoorQPW6
set_option linter.unusedVariables false
set_option linter.unusedSimpArgs false
namespace Go.Sas
open Go.Proofs Go.RowKit
/-- the table of powers, by its block; it knows of a number that stands elsewhere (the greatest length at which the library searches) -/
def rawT (id g : Nat) (m : Int) (ob : Obj) : AObj := .raw 0 ob [.mp id 0 0, .vp [.lit (.int .i64 m)]] [.pointer (some ⟨g, 0, none⟩), .pointer (some ⟨1, 0, none⟩)]
theorem rawT_heap {st : St} {w : World} {H : AHeap} {id g : Nat} {m : Int} {ob : Obj} (hH : RelH st w H) (hX : H[id]? = some (rawT id g m ob)) : w.heap[g]? = some ob ∧ w.cell? ⟨1, 0, none⟩ = some (.int .i64 m) := by
  have hlt : id < st.loc.length := by rw [hH.len]; exact (List.getElem?_eq_some_iff.1 hX).1
  obtain ⟨l, hl⟩ : ∃ l, st.loc[id]? = some l := ⟨_, List.getElem?_eq_getElem hlt⟩
  have h := hH.obj id l _ hl hX
  simp only [rawT, ObjOk] at h
  obtain ⟨hg, hes, b, o, r, hb, hw⟩ := h
  obtain ⟨u, us', he, hv, hes⟩ := hes.uncons
  cases he
  obtain ⟨u, us', he, hv2, _⟩ := hes.uncons
  cases he
  simp only [RelV] at hv
  obtain ⟨l', h1, _, _, h4⟩ := hv
  rw [hl] at h1; cases h1
  obtain ⟨b', o', r', h5, h6⟩ := h4 hg.symm
  rw [hb] at h5; cases h5
  cases h6
  refine ⟨hw, ?_⟩
  simp only [RelV] at hv2
  obtain ⟨b2, o2, us2, e1, e2, e3⟩ := hv2
  cases e1
  obtain ⟨u2, us3, rfl, e4, _⟩ := e2.uncons
  simp only [RelV] at e4
  subst e4
  have := e3 0 _ rfl
  exact (hH.rd _ _ _ this).2.1
/-- the library's variables, as the first objects -/
structure Globs (H : AHeap) : Prop where
  one : H[0]? = some (.own 0 [])
  tab : ∃ g m ob, Tryz.prog.globalNamed "internal/strconv.uint64pow10" = some g ∧ H[1]? = some (rawT 1 g m ob) ∧ TabOb ob
  syn : ∃ ob, H[2]? = some (rawG 2 (Tryz.laysC172_ren.g 15) ob) ∧ ErrOb ob
  rng : ∃ ob, H[3]? = some (rawG 3 (Tryz.laysC172_ren.g 16) ob) ∧ ErrOb ob
theorem Globs.app {H : AHeap} (h : Globs H) (R : AHeap) : Globs (H ++ R) := by
  have up : ∀ {i : Nat} {X : AObj}, H[i]? = some X → (H ++ R)[i]? = some X := fun hx => by
    rw [List.getElem?_append_left (List.getElem?_eq_some_iff.1 hx).1]; exact hx
  obtain ⟨h1, ⟨g, m, o2, h3, h4, h5⟩, ⟨o3, h6, h7⟩, o4, h8, h9⟩ := h
  exact ⟨up h1, ⟨g, m, o2, h3, up h4, h5⟩, ⟨o3, up h6, h7⟩, o4, up h8, h9⟩
theorem Globs.pins {H : AHeap} (h : Globs H) : ∃ g ob, Tryz.prog.globalNamed "internal/strconv.uint64pow10" = some g ∧ Pins H g ob ∧ TabOb ob := by
  obtain ⟨g, m, ob, h1, h2, h3⟩ := h.tab
  exact ⟨g, ob, h1, fun st w hH => (rawT_heap hH h2).1, h3⟩
theorem strA_eq (s : ByteArray) : AV.lit (.string s) = strA s.data.toList := by unfold strA; rw [toB]
/-! what is asked and what is given, as structures: cbv leaves them as they are -/
structure SplitPre (H : AHeap) (s c : ByteArray) : Prop where
  glob : Globs H
  len : s.data.toList.length ≤ 1000000
  one : ∃ b : UInt8, c = ⟨#[b]⟩
structure SplitIs (s c : ByteArray) (xs : List AV) : Prop where
  eq : ∀ b : UInt8, c = ⟨#[b]⟩ → xs = (splitL b s.data.toList).map strA
def eSplit : List AV → AHeap → Option PT
  | [.lit (.string s), .lit (.string c)], H => some fun K => SplitPre H s c ∧ ∀ xs, SplitIs s c xs → K (.vs 1 xs) H
  | _, _ => none
theorem eSplit_ok : ∀ args H pt, eSplit args H = some pt → ∀ (Kk : AV → AHeap → Prop), pt Kk → ACalls Tryz.prog 33 args H Kk := by
  intro args H pt h Kk hk
  unfold eSplit at h
  split at h
  · cases h
    obtain ⟨⟨hG, hs, b, rfl⟩, hk⟩ := hk
    obtain ⟨g, m, ob, _, h2, _⟩ := hG.tab
    rw [strA_eq]
    exact w36 _ b H (by omega) (fun st w hH => (rawT_heap hH h2).2) (hk _ ⟨fun b' hb => by cases hb; rfl⟩)
  · cases h
structure AtoiPre (H : AHeap) (s : ByteArray) : Prop where
  glob : Globs H
  len : s.data.toList.length ≤ 1000000
structure AtoiOk (s : ByteArray) (v : Int) : Prop where
  eq : Lib.atoiAll s.data.toList = .ok v
structure AtoiBad (s : ByteArray) : Prop where
  ne : ∀ v, Lib.atoiAll s.data.toList ≠ .ok v
def eAtoi : List AV → AHeap → Option PT
  | [.lit (.string s)], H => some fun K => AtoiPre H s ∧ (∀ v : Int, AtoiOk s v → K (.tup [.lit (.int .i64 v), .lit .nilIface]) H) ∧ ∀ n : Int, AtoiBad s → K (.tup [.lit (.int .i64 n), .nni]) H
  | _, _ => none
theorem eAtoi_ok : ∀ args H pt, eAtoi args H = some pt → ∀ (Kk : AV → AHeap → Prop), pt Kk → ACalls Tryz.prog 52 args H Kk := by
  intro args H pt h Kk hk
  unfold eAtoi at h
  split at h
  · cases h
    obtain ⟨⟨hG, hs⟩, hk, hk2⟩ := hk
    obtain ⟨o1, h1, h2⟩ := hG.syn
    obtain ⟨o2, h3, h4⟩ := hG.rng
    rw [strA_eq]
    refine w77 _ H hs h1 h2 h3 h4 fun r hr => ?_
    unfold AtoiQ at hr
    split at hr
    · rename_i v hv
      subst hr
      exact hk v ⟨hv⟩
    · rename_i hv
      obtain ⟨n, rfl⟩ := hr
      exact hk2 n ⟨hv⟩
  · cases h
structure ItoaPre (H : AHeap) (n : Int) : Prop where
  glob : Globs H
  num : I64 n
structure ItoaIs (n : Int) (t : ByteArray) : Prop where
  eq : t = ⟨(Lib.itoa n).toArray⟩
def eItoa : List AV → AHeap → Option PT
  | [.lit (.int .i64 n)], H => some fun K => ItoaPre H n ∧ ∀ t : ByteArray, ItoaIs n t → K (.lit (.string t)) H
  | _, _ => none
theorem eItoa_ok : ∀ args H pt, eItoa args H = some pt → ∀ (Kk : AV → AHeap → Prop), pt Kk → ACalls Tryz.prog 30 args H Kk := by
  intro args H pt h Kk hk
  unfold eItoa at h
  split at h
  · cases h
    obtain ⟨⟨hG, hn⟩, hk⟩ := hk
    obtain ⟨g, ob, h1, h2, h3⟩ := hG.pins
    exact w30 _ hn H h2 h1 h3 (hk _ ⟨rfl⟩)
  · cases h
end Go.Sas
