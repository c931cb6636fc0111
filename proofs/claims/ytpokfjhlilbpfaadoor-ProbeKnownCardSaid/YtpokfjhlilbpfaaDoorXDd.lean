/-
Radar files: which tracks are valid; their looks (plain).
probe.Write: what lies in a track, on worlds.
The file of a track is the one of the specification.
Conditions: none.
-/
import Derived.Test.YtpokfjhlilbpfaaDoorXAd
import Derived.Test.YtpokfjhlilbpfaaDoorPMd
import Derived.Test.YtpokfjhlilbpfaaDoorQPW2
import Derived.Test.YtpokfjhlilbpfaaDoorXBd
import Derived.Test.YtpokfjhlilbpfaaDoorP5d
import Derived.Lib.ItoaLen
set_option linter.unusedVariables false
set_option linter.unusedSimpArgs false
namespace Go.Sas
/-- the first error of an echo -/
def echE (e : Ech) : Int := if (0 ≤ e.p ∧ e.p ≤ 999) ∧ (0 ≤ e.h ∧ e.h ≤ 10000) ∧ (0 ≤ e.lo ∧ e.lo ≤ 1000000) ∧ (0 ≤ e.hi ∧ e.hi ≤ 1000000) then (if e.lo ≤ e.hi then 0 else 11) else 2
def checkT (t : Trk) : Int :=
  if ¬ ((1 ≤ t.sp.1 ∧ t.sp.1 ≤ 1000) ∧ (1 ≤ t.sp.2 ∧ t.sp.2 ≤ 1000)) then 2
  else if t.sp.2 < t.sp.1 then 11
  else if 200 < t.ec.length then 8
  else firstE echE t.ec
structure TrkV (t : Trk) : Prop where
  s1 : 1 ≤ t.sp.1 ∧ t.sp.1 ≤ 1000
  s2 : 1 ≤ t.sp.2 ∧ t.sp.2 ≤ 1000
  so : t.sp.1 ≤ t.sp.2
  len : t.ec.length ≤ 200
  all : ∀ e ∈ t.ec, (0 ≤ e.p ∧ e.p ≤ 999) ∧ (0 ≤ e.h ∧ e.h ≤ 10000) ∧ (0 ≤ e.lo ∧ e.lo ≤ 1000000) ∧ (0 ≤ e.hi ∧ e.hi ≤ 1000000) ∧ e.lo ≤ e.hi
theorem echE_ok {e : Ech} (h : echE e = 0) : (0 ≤ e.p ∧ e.p ≤ 999) ∧ (0 ≤ e.h ∧ e.h ≤ 10000) ∧ (0 ≤ e.lo ∧ e.lo ≤ 1000000) ∧ (0 ≤ e.hi ∧ e.hi ≤ 1000000) ∧ e.lo ≤ e.hi := by
  unfold echE at h
  split at h
  · split at h
    · rename_i h1 h2; exact ⟨h1.1, h1.2.1, h1.2.2.1, h1.2.2.2, h2⟩
    · exact absurd h (by decide)
  · exact absurd h (by decide)
theorem checkT_ok {t : Trk} (h : checkT t = 0) : TrkV t := by
  unfold checkT at h
  split at h
  · exact absurd h (by decide)
  rename_i h1
  split at h
  · exact absurd h (by decide)
  rename_i h2
  split at h
  · exact absurd h (by decide)
  rename_i h3
  have h1 := Decidable.not_not.1 h1
  exact ⟨h1.1, h1.2, by omega, by omega, fun e he => echE_ok (firstE_zero h e he)⟩
/-! ### Looks -/
def echL (sp : Int × Int) (e : Ech) : Lk := ⟨3, e.p, e.h, min (sp.1 * e.lo / 2000) 3000, min ((sp.2 * e.hi + 1999) / 2000) 3000⟩
def looksK (t : Trk) : List Lk := if checkT t = 0 then t.ec.map (echL t.sp) else []
end Go.Sas
namespace Go.Sas
open Go.Proofs Go.RowKit
theorem Ext.low {st : St} {w w' : World} (h : Low w.heap.size w w') : Ext st w st w' :=
  ⟨.refl _, h.size, fun b hb _ => h.block b hb, fun _ hb => .inl hb, h.os, h.output, fun _ _ _ hc => .inl hc⟩
theorem RelH.low {st : St} {w w' : World} {H : AHeap} (hH : RelH st w H) (h : Low w.heap.size w w') : RelH st w' H :=
  ⟨hH.len, fun b o c hc => ⟨(hH.rd b o c hc).1, cellB h (hH.rd b o c hc).2.1, (hH.rd b o c hc).2.2⟩,
    fun id l X hl hX => (hH.obj id l X hl hX).mono (.refl _) fun b o r hb => h.block b (owned_lt hH ⟨id, l, o, r, hl, hb⟩), hH.inj⟩
/-- a contract that lays new blocks at most -/
theorem ACalls.low {P : Program} {f : Nat} {args : List AV} {H : AHeap} {Kk : AV → AHeap → Prop} (hc : callable P f = true)
    (h : ∀ st w vals, RelH st w H → RelL st args vals → Calls P f vals.toArray w fun x w' => ∃ v r, x = .returned v ∧ Low w.heap.size w w' ∧ RelV st r v ∧ Kk r H) : ACalls P f args H Kk :=
  ⟨hc, fun st w vals hH hr => (h st w vals hH hr).mono fun x w' ⟨v, r, e1, e2, e3, e4⟩ => ⟨v, r, H, st, e1, .low e2, hH.low e2, e3, e4⟩⟩
theorem pure_own {st : St} {b : Nat} : ¬ Owned st.pure b := by
  rintro ⟨id, l, o, r, h, _⟩
  simp [St.pure] at h
theorem RelH.pure {st : St} {w : World} {H : AHeap} (hH : RelH st w H) : RelH st.pure w [] :=
  ⟨rfl, fun b o c hc => ⟨(hH.rd b o c hc).1, (hH.rd b o c hc).2.1, pure_own⟩, fun id l X hl hX => by simp at hX, fun id id' l l' b o r o' r' h => by simp [St.pure] at h⟩
/-- a contract that asks for nothing that is owned, at the world -/
theorem ACalls.world {P : Program} {f : Nat} {args : List AV} {Kk : AV → Prop} (h : ACalls P f args [] fun r _ => Kk r) {st : St} {w w1 : World} {H : AHeap} {vals : List Value} (hH : RelH st w H) (hl : Low w.heap.size w w1) (hr : RelL st.pure args vals) :
    Calls P f vals.toArray w1 fun x w' => ∃ v r st', x = .returned v ∧ RelV st' r v ∧ Kk r ∧ Low w1.heap.size w1 w' :=
  (h.2 st.pure w1 vals (hH.low hl).pure hr).mono fun x w' ⟨v, r, H', st', e1, e2, e3, e4, e5⟩ => ⟨v, r, st', e1, e4, e5, e2.os, e2.output, e2.size, fun b hb => e2.frame b hb pure_own⟩
/-! ### A track at the world -/
theorem relI {st : St} {n : Int} {v : Value} (h : RelV st (I n) v) : v = .int .i64 n := by simpa only [RelV] using h
def ecW (e : Ech) : Value := .agg #[.int .i64 e.p, .int .i64 e.h, .int .i64 e.lo, .int .i64 e.hi]
abbrev ecV (e : Ech) : AV := .agg [I e.p, I e.h, I e.lo, I e.hi]
theorem relV_ec {st : St} {x : Ech} {v : Value} (h : RelV st (ecV x) v) : v = ecW x := by
  simp only [ecV, RelV] at h
  obtain ⟨us, rfl, hu, _⟩ := h
  obtain ⟨u1, l1, e1, h1, hu⟩ := hu
  obtain ⟨u2, l2, e2, h2, hu⟩ := hu
  obtain ⟨u3, l3, e3, h3, hu⟩ := hu
  obtain ⟨u4, l4, e4, h4, hu⟩ := hu
  simp only [RelL] at hu
  subst hu; subst e4; subst e3; subst e2
  rw [relI h1, relI h2, relI h3, relI h4] at e1
  unfold ecW
  congr 1
  exact Array.toList_inj.1 e1
theorem relL_map {α : Type} {st : St} {f : α → AV} {g : α → Value} (h : ∀ x v, RelV st (f x) v → v = g x) : ∀ {l : List α} {us : List Value}, RelL st (l.map f) us → us = l.map g
  | [], us, hu => by simpa only [List.map_nil, RelL] using hu
  | x :: l, us, hu => by
    simp only [List.map_cons, RelL] at hu
    obtain ⟨u, us', rfl, h1, h2⟩ := hu
    rw [h x u h1, relL_map h h2]; rfl
theorem flat_ec : ∀ {l : List Ech} {i : Nat} {x : Ech}, l[i]? = some x → (flat (l.map ecW))[i * 4]? = some (.int .i64 x.p) ∧ (flat (l.map ecW))[i * 4 + 1]? = some (.int .i64 x.h) ∧ (flat (l.map ecW))[i * 4 + 2]? = some (.int .i64 x.lo) ∧ (flat (l.map ecW))[i * 4 + 3]? = some (.int .i64 x.hi)
  | [], i, x, h => by simp at h
  | y :: l, 0, x, h => by
    simp at h; subst h
    exact ⟨rfl, rfl, rfl, rfl⟩
  | y :: l, i + 1, x, h => by
    have := flat_ec (l := l) (i := i) (x := x) (by simpa using h)
    have e : flat ((y :: l).map ecW) = .int .i64 y.p :: .int .i64 y.h :: .int .i64 y.lo :: .int .i64 y.hi :: flat (l.map ecW) := rfl
    rw [e, show (i + 1) * 4 = i * 4 + 4 by omega]
    exact this
/-- the numbers of an echo in a row -/
def o4 (o : Ech) : Int × Int × Int × Int := (o.p, o.h, o.lo, o.hi)
def textK (t : Trk) : List UInt8 := trkB t.sp.1 t.sp.2 (t.ec.map o4)
theorem len_nums {l : List Int} (h : ∀ n ∈ l, I64 n) : (l.flatMap fun n => 32 :: Lib.itoa n).length ≤ 22 * l.length := by
  induction l with
  | nil => simp
  | cons n l ih =>
    have h1 := Lib.itoa_length_le n (h n (by simp)).1 (h n (by simp)).2
    have h2 := ih fun m hm => h m (by simp [hm])
    simp only [List.flatMap_cons, List.length_append, List.length_cons]
    omega
theorem lenF_le {α : Type} {f : α → List UInt8} {m : Nat} : ∀ {l : List α}, (∀ x ∈ l, (f x).length ≤ m) → (l.flatMap f).length ≤ m * l.length
  | [], _ => by simp
  | x :: l, h => by
    have h1 := h x (by simp)
    have h2 := lenF_le (l := l) fun y hy => h y (by simp [hy])
    simp only [List.flatMap_cons, List.length_append, List.length_cons, Nat.mul_add]
    omega
theorem textK_len {t : Trk} (hh : ∀ n ∈ [t.sp.1, t.sp.2], I64 n) (ho : ∀ x ∈ t.ec.map o4, I64 x.1 ∧ I64 x.2.1 ∧ I64 x.2.2.1 ∧ I64 x.2.2.2) (hl : t.ec.length ≤ 200) : (textK t).length ≤ 1000000 := by
  have h1 := len_nums hh
  have h3 : ((t.ec.map o4).flatMap echB).length ≤ 94 * (t.ec.map o4).length := lenF_le fun x hx => by
    have := len_nums (l := [x.1, x.2.1, x.2.2.1, x.2.2.2]) (mem_4 (ho x hx).1 (ho x hx).2.1 (ho x hx).2.2.1 (ho x hx).2.2.2)
    simp only [echB, rowB, List.length_append, List.length_cons, List.length_nil] at this ⊢
    omega
  rw [List.length_map] at h3
  simp only [textK, trkB, radB, rowB, List.length_append, List.length_cons, List.length_nil] at h1 ⊢
  omega
/-- the table of the library's Itoa, as an object -/
def TabOb (ob : Obj) : Prop := ∃ T fz, ob = .cells (Lib.pow10Tab.map fun z => Value.int .u64 z).toArray T fz
/-- wherever these objects are, this block holds this -/
def Pins (H : AHeap) (g : Nat) (ob : Obj) : Prop := ∀ st w, RelH st w H → w.heap[g]? = some ob
theorem tab_low {P : Program} {st : St} {w w' : World} {H : AHeap} {g : Nat} {ob : Obj} (hH : RelH st w H) (hX : Pins H g ob) (hg : P.globalNamed "internal/strconv.uint64pow10" = some g) (ho : TabOb ob) (h : Low w.heap.size w w') : Lib.TabIs P w' "internal/strconv.uint64pow10" .u64 Lib.pow10Tab := by
  have h1 := hX st w hH
  have h2 := (h.block g (Array.getElem?_eq_some_iff.1 h1).1).trans h1
  obtain ⟨T, fz, rfl⟩ := ho
  unfold Lib.TabIs World.var?
  rw [hg]
  simp [h2]
theorem vs_pure {st : St} {n : Nat} {es : List AV} {v : Value} (h : RelV st (.vs n es) v) : RelV st.pure (.vs n es) v := by
  simp only [RelV] at h ⊢
  exact h
abbrev tkV (a b : Int) (ev : AV) : AV := .agg [I a, I b, ev]
theorem tk_parts {st : St} {a b : Int} {m : Nat} {ys : List AV} {vals : List Value} (h : RelL st [tkV a b (.vs m ys)] vals) : ∃ so, vals = [tkW a b so] ∧ RelV st (.vs m ys) so ∧ RelL st.pure [tkV a b (.vs m ys)] vals := by
  obtain ⟨v, l, rfl, hv, hl⟩ := h
  simp only [RelL] at hl
  subst hl
  simp only [RelV] at hv
  obtain ⟨us, rfl, hu, hsc⟩ := hv
  obtain ⟨u1, l1, e1, h1, hu⟩ := hu
  obtain ⟨u2, l2, e2, h2, hu⟩ := hu
  obtain ⟨u6, l6, e6, h6, hu⟩ := hu
  simp only [RelL] at hu
  subst hu; subst e6; subst e2
  rw [relI h1, relI h2] at e1
  have eu : us = #[.int .i64 a, .int .i64 b, u6] := Array.toList_inj.1 e1
  refine ⟨u6, by rw [eu], h6, _, [], rfl, ?_, by simp only [RelL]⟩
  simp only [RelV]
  refine ⟨us, rfl, ?_, hsc⟩
  rw [e1]
  refine ⟨_, _, rfl, by simp only [RelV], _, _, rfl, by simp only [RelV], _, _, rfl, vs_pure h6, by simp only [RelL]⟩
end Go.Sas
namespace Go.Sas
open Go.Proofs Go.RowKit
theorem textK_textT (t : Trk) : textK t = textT t := by
  unfold textK textT rowsT trkB
  rw [List.flatMap_cons, List.flatMap_map, List.flatMap_map]
  rfl
end Go.Sas
