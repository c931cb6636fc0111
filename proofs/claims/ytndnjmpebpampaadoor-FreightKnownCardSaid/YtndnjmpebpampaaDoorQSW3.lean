/-
freight.Write as a contract of the machine.
Conditions: none.
-/
import Derived.Test.YtndnjmpebpampaaDoorXSf
import Derived.Test.YtndnjmpebpampaaDoorHEf
import Derived.Test.YtndnjmpebpampaaDoorXXf
import Derived.Lib.ItoaLen
set_option linter.unusedVariables false
set_option linter.unusedSimpArgs false
namespace Go.Sas
open Go.Proofs Go.RowKit
theorem Ext.low {st : St} {w w' : World} (h : Low w.heap.size w w') : Ext st w st w' :=
  ⟨.refl _, h.size, fun b hb _ => h.block b hb, fun _ hb => .inl hb, h.os, h.output, fun _ _ _ hc => .inl hc⟩
theorem RelH.low {st : St} {w w' : World} {H : AHeap} (hH : RelH st w H) (h : Low w.heap.size w w') : RelH st w' H :=
  ⟨hH.len, fun b o c hc => ⟨(hH.rd b o c hc).1, cellB h (hH.rd b o c hc).2.1, (hH.rd b o c hc).2.2⟩,
    fun id l X hl hX => (hH.obj id l X hl hX).mono (.refl _) fun b o r hb => h.block b (owned_lt hH ⟨id, l, o, r, hl, hb⟩), hH.inj⟩
/-- a contract that lays new blocks at most -/
theorem ACalls.low {P : Program} {f : Nat} {args : List AV} {H : AHeap} {Kk : AV → AHeap → Prop} (hc : callable P f = true)
    (h : ∀ st w vals, RelH st w H → RelL st args vals → Calls P f vals.toArray w fun x w' => ∃ v r, x = .returned v ∧ Low w.heap.size w w' ∧ RelV st r v ∧ Kk r H) : ACalls P f args H Kk :=
  ⟨hc, fun st w vals hH hr => (h st w vals hH hr).mono fun x w' ⟨v, r, e1, e2, e3, e4⟩ => ⟨v, r, H, st, e1, .low e2, hH.low e2, e3, e4⟩⟩
theorem pure_own {st : St} {b : Nat} : ¬ Owned st.pure b := by
  rintro ⟨id, l, o, r, h, _⟩
  simp [St.pure] at h
theorem RelH.pure {st : St} {w : World} {H : AHeap} (hH : RelH st w H) : RelH st.pure w [] :=
  ⟨rfl, fun b o c hc => ⟨(hH.rd b o c hc).1, (hH.rd b o c hc).2.1, pure_own⟩, fun id l X hl hX => by simp at hX, fun id id' l l' b o r o' r' h => by simp [St.pure] at h⟩
/-- a contract that asks for nothing that is owned, at the world -/
theorem ACalls.world {P : Program} {f : Nat} {args : List AV} {Kk : AV → Prop} (h : ACalls P f args [] fun r _ => Kk r) {st : St} {w w1 : World} {H : AHeap} {vals : List Value} (hH : RelH st w H) (hl : Low w.heap.size w w1) (hr : RelL st.pure args vals) :
    Calls P f vals.toArray w1 fun x w' => ∃ v r st', x = .returned v ∧ RelV st' r v ∧ Kk r ∧ Low w1.heap.size w1 w' :=
  (h.2 st.pure w1 vals (hH.low hl).pure hr).mono fun x w' ⟨v, r, H', st', e1, e2, e3, e4, e5⟩ => ⟨v, r, st', e1, e4, e5, e2.os, e2.output, e2.size, fun b hb => e2.frame b hb pure_own⟩
/-! ### A freight at the world -/
def spW (x : Int × Int) : Value := .agg #[.int .i64 x.1, .int .i64 x.2]
def orW (o : Ord) : Value := .agg #[.int .i64 o.u, .int .i64 o.d, .int .i64 o.l, .int .i64 o.s]
theorem relI {st : St} {n : Int} {v : Value} (h : RelV st (I n) v) : v = .int .i64 n := by simpa only [RelV] using h
theorem relV_sp {st : St} {x : Int × Int} {v : Value} (h : RelV st (sp x) v) : v = spW x := by
  simp only [sp, RelV] at h
  obtain ⟨us, rfl, hu, _⟩ := h
  obtain ⟨u1, l1, e1, h1, hu⟩ := hu
  obtain ⟨u2, l2, e2, h2, hu⟩ := hu
  simp only [RelL] at hu
  subst hu; subst e2
  rw [relI h1, relI h2] at e1
  unfold spW
  congr 1
  exact Array.toList_inj.1 e1
theorem relV_or {st : St} {x : Ord} {v : Value} (h : RelV st (orV x) v) : v = orW x := by
  simp only [orV, RelV] at h
  obtain ⟨us, rfl, hu, _⟩ := h
  obtain ⟨u1, l1, e1, h1, hu⟩ := hu
  obtain ⟨u2, l2, e2, h2, hu⟩ := hu
  obtain ⟨u3, l3, e3, h3, hu⟩ := hu
  obtain ⟨u4, l4, e4, h4, hu⟩ := hu
  simp only [RelL] at hu
  subst hu; subst e4; subst e3; subst e2
  rw [relI h1, relI h2, relI h3, relI h4] at e1
  unfold orW
  congr 1
  exact Array.toList_inj.1 e1
theorem relL_map {α : Type} {st : St} {f : α → AV} {g : α → Value} (h : ∀ x v, RelV st (f x) v → v = g x) : ∀ {l : List α} {us : List Value}, RelL st (l.map f) us → us = l.map g
  | [], us, hu => by simpa only [List.map_nil, RelL] using hu
  | x :: l, us, hu => by
    simp only [List.map_cons, RelL] at hu
    obtain ⟨u, us', rfl, h1, h2⟩ := hu
    rw [h x u h1, relL_map h h2]; rfl
theorem flat_sp : ∀ {l : List (Int × Int)} {i : Nat} {x : Int × Int}, l[i]? = some x → (flat (l.map spW))[i * 2]? = some (.int .i64 x.1) ∧ (flat (l.map spW))[i * 2 + 1]? = some (.int .i64 x.2)
  | [], i, x, h => by simp at h
  | y :: l, 0, x, h => by
    simp at h; subst h
    exact ⟨rfl, rfl⟩
  | y :: l, i + 1, x, h => by
    have := flat_sp (l := l) (i := i) (x := x) (by simpa using h)
    have e : flat ((y :: l).map spW) = .int .i64 y.1 :: .int .i64 y.2 :: flat (l.map spW) := rfl
    rw [e, show (i + 1) * 2 = i * 2 + 2 by omega]
    exact this
theorem flat_or : ∀ {l : List Ord} {i : Nat} {x : Ord}, l[i]? = some x → (flat (l.map orW))[i * 4]? = some (.int .i64 x.u) ∧ (flat (l.map orW))[i * 4 + 1]? = some (.int .i64 x.d) ∧ (flat (l.map orW))[i * 4 + 2]? = some (.int .i64 x.l) ∧ (flat (l.map orW))[i * 4 + 3]? = some (.int .i64 x.s)
  | [], i, x, h => by simp at h
  | y :: l, 0, x, h => by
    simp at h; subst h
    exact ⟨rfl, rfl, rfl, rfl⟩
  | y :: l, i + 1, x, h => by
    have := flat_or (l := l) (i := i) (x := x) (by simpa using h)
    have e : flat ((y :: l).map orW) = .int .i64 y.u :: .int .i64 y.d :: .int .i64 y.l :: .int .i64 y.s :: flat (l.map orW) := rfl
    rw [e, show (i + 1) * 4 = i * 4 + 4 by omega]
    exact this
/-- the numbers of an order in a row -/
def o4 (o : Ord) : Int × Int × Int × Int := (o.u, o.d, o.l, o.s)
def textF (f : Frt) : List UInt8 := textB f.fi.1 f.fi.2 f.la.1 f.la.2 f.caps (f.ords.map o4)
theorem len_nums {l : List Int} (h : ∀ n ∈ l, I64 n) : (l.flatMap fun n => 32 :: Lib.itoa n).length ≤ 22 * l.length := by
  induction l with
  | nil => simp
  | cons n l ih =>
    have h1 := Lib.itoa_length_le n (h n (by simp)).1 (h n (by simp)).2
    have h2 := ih fun m hm => h m (by simp [hm])
    simp only [List.flatMap_cons, List.length_append, List.length_cons]
    omega
theorem lenF_le {α : Type} {f : α → List UInt8} {m : Nat} : ∀ {l : List α}, (∀ x ∈ l, (f x).length ≤ m) → (l.flatMap f).length ≤ m * l.length
  | [], _ => by simp
  | x :: l, h => by
    have h1 := h x (by simp)
    have h2 := lenF_le (l := l) fun y hy => h y (by simp [hy])
    simp only [List.flatMap_cons, List.length_append, List.length_cons, Nat.mul_add]
    omega
theorem textF_len {f : Frt} (hV : FrtV f) (hh : ∀ n ∈ [f.fi.1, f.fi.2, f.la.1, f.la.2], I64 n) (hc : ∀ x ∈ f.caps, I64 x.1 ∧ I64 x.2) (ho : ∀ x ∈ f.ords.map o4, I64 x.1 ∧ I64 x.2.1 ∧ I64 x.2.2.1 ∧ I64 x.2.2.2) : (textF f).length ≤ 1000000 := by
  have h1 := len_nums hh
  have h2 : (f.caps.flatMap capB).length ≤ 48 * f.caps.length := lenF_le fun x hx => by
    have := len_nums (l := [x.1, x.2]) (mem_2 (hc x hx).1 (hc x hx).2)
    simp only [capB, rowBs, List.length_append, List.length_cons, List.length_nil] at this ⊢
    omega
  have h3 : ((f.ords.map o4).flatMap ordB).length ≤ 94 * (f.ords.map o4).length := lenF_le fun x hx => by
    have := len_nums (l := [x.1, x.2.1, x.2.2.1, x.2.2.2]) (mem_4 (ho x hx).1 (ho x hx).2.1 (ho x hx).2.2.1 (ho x hx).2.2.2)
    simp only [ordB, rowBs, List.length_append, List.length_cons, List.length_nil] at this ⊢
    omega
  have h4 := hV.c2
  have h5 := hV.o2
  rw [List.length_map] at h3
  simp only [textF, textB, headB, rowBs, List.length_append, List.length_cons, List.length_nil] at h1 ⊢
  omega
/-- the table of the library's Itoa, as an object -/
def TabOb (ob : Obj) : Prop := ∃ T fz, ob = .cells (Lib.pow10Tab.map fun z => Value.int .u64 z).toArray T fz
/-- wherever these objects are, this block holds this -/
def Pins (H : AHeap) (g : Nat) (ob : Obj) : Prop := ∀ st w, RelH st w H → w.heap[g]? = some ob
theorem tab_low {P : Program} {st : St} {w w' : World} {H : AHeap} {g : Nat} {ob : Obj} (hH : RelH st w H) (hX : Pins H g ob) (hg : P.globalNamed "internal/strconv.uint64pow10" = some g) (ho : TabOb ob) (h : Low w.heap.size w w') : Lib.TabIs P w' "internal/strconv.uint64pow10" .u64 Lib.pow10Tab := by
  have h1 := hX st w hH
  have h2 := (h.block g (Array.getElem?_eq_some_iff.1 h1).1).trans h1
  obtain ⟨T, fz, rfl⟩ := ho
  unfold Lib.TabIs World.var?
  rw [hg]
  simp [h2]
theorem vs_pure {st : St} {n : Nat} {es : List AV} {v : Value} (h : RelV st (.vs n es) v) : RelV st.pure (.vs n es) v := by
  simp only [RelV] at h ⊢
  exact h
theorem fr_parts {st : St} {a b c d : Int} {n m : Nat} {xs ys : List AV} {vals : List Value} (h : RelL st [frV a b c d (.vs n xs) (.vs m ys)] vals) : ∃ sc so, vals = [frW a b c d sc so] ∧ RelV st (.vs n xs) sc ∧ RelV st (.vs m ys) so ∧ RelL st.pure [frV a b c d (.vs n xs) (.vs m ys)] vals := by
  obtain ⟨v, l, rfl, hv, hl⟩ := h
  simp only [RelL] at hl
  subst hl
  simp only [RelV] at hv
  obtain ⟨us, rfl, hu, hsc⟩ := hv
  obtain ⟨u1, l1, e1, h1, hu⟩ := hu
  obtain ⟨u2, l2, e2, h2, hu⟩ := hu
  obtain ⟨u3, l3, e3, h3, hu⟩ := hu
  obtain ⟨u4, l4, e4, h4, hu⟩ := hu
  obtain ⟨u5, l5, e5, h5, hu⟩ := hu
  obtain ⟨u6, l6, e6, h6, hu⟩ := hu
  simp only [RelL] at hu
  subst hu; subst e6; subst e5; subst e4; subst e3; subst e2
  rw [relI h1, relI h2, relI h3, relI h4] at e1
  have eu : us = #[.int .i64 a, .int .i64 b, .int .i64 c, .int .i64 d, u5, u6] := Array.toList_inj.1 e1
  refine ⟨u5, u6, by rw [eu], h5, h6, _, [], rfl, ?_, by simp only [RelL]⟩
  simp only [RelV]
  refine ⟨us, rfl, ?_, hsc⟩
  rw [e1]
  refine ⟨_, _, rfl, by simp only [RelV], _, _, rfl, by simp only [RelV], _, _, rfl, by simp only [RelV], _, _, rfl, by simp only [RelV], _, _, rfl, vs_pure h5, _, _, rfl, vs_pure h6, by simp only [RelL]⟩
def writeF (f : Frt) : List UInt8 := if checkF f = 0 then textF f else []
set_option maxHeartbeats 1000000 in
set_option maxRecDepth 100000 in
theorem w9 (f : Frt) (hcl : f.caps.length ≤ 9223372036854775807) (hol : f.ords.length ≤ 9223372036854775807) (H : AHeap) {g : Nat} {ob : Obj} (hX : Pins H g ob) (hg : Tryd.prog.globalNamed "internal/strconv.uint64pow10" = some g) (hob : TabOb ob)
    {Kk : AV → AHeap → Prop} (h : Kk (.tup [.lit (.string ⟨(writeF f).toArray⟩), I (checkF f)]) H) : ACalls Tryd.prog 33 [frV f.fi.1 f.fi.2 f.la.1 f.la.2 (.vs 2 (f.caps.map sp)) (.vs 4 (f.ords.map orV))] H Kk := by
  refine ACalls.low (by rfl) fun st w vals hH hr => ?_
  obtain ⟨sc, so, rfl, h5, h6, hp⟩ := fr_parts hr
  have hchk : ∀ w1, Low w.heap.size w w1 → Calls Tryd.prog 6 #[frW f.fi.1 f.fi.2 f.la.1 f.la.2 sc so] w1 fun x w' => x = .returned (.int .i64 (checkF f)) ∧ Low w1.heap.size w1 w' := fun w1 hl => by
    refine (ACalls.world (Kk := fun r => r = I (checkF f)) (p6 f.fi.1 f.fi.2 f.la.1 f.la.2 f.caps f.ords hcl hol [] rfl) hH hl hp).mono ?_
    rintro x w' ⟨v, r, st', rfl, hv, rfl, hlw⟩
    exact ⟨by rw [relI hv], hlw⟩
  by_cases he : checkF f = 0
  · have hV := checkF_ok he
    rw [he] at hchk
    simp only [RelV] at h5 h6
    obtain ⟨a5, c5, us5, rfl, _, hu5, _, hd5⟩ := h5
    obtain ⟨a6, c6, us6, rfl, _, hu6, _, hd6⟩ := h6
    have hu5 := relL_map (fun x v hx => relV_sp hx) hu5
    have hu6 := relL_map (fun x v hx => relV_or hx) hu6
    subst hu5; subst hu6
    obtain ⟨b5, o5, rfl, hD5⟩ := hd5 (by intro e; have := hV.c1; rw [List.map_eq_nil_iff] at e; rw [e] at this; simp at this)
    obtain ⟨b6, o6, rfl, hD6⟩ := hd6 (by intro e; have := hV.o1; rw [List.map_eq_nil_iff] at e; rw [e] at this; simp at this)
    have n1 := hV.c2
    have n2 := hV.fi
    have n3 := hV.la
    have hh : ∀ n ∈ [f.fi.1, f.fi.2, f.la.1, f.la.2], I64 n := mem_4 ⟨by omega, by omega⟩ ⟨by omega, by omega⟩ ⟨by omega, by omega⟩ ⟨by omega, by omega⟩
    have hc : ∀ x ∈ f.caps, I64 x.1 ∧ I64 x.2 := fun x hx => by
      have := hV.cb x hx
      exact ⟨⟨by omega, by omega⟩, by omega, by omega⟩
    have ho : ∀ x ∈ f.ords.map o4, I64 x.1 ∧ I64 x.2.1 ∧ I64 x.2.2.1 ∧ I64 x.2.2.2 := fun x hx => by
      obtain ⟨o, ho, rfl⟩ := List.mem_map.1 hx
      have := hV.ob o ho
      exact ⟨⟨by simp only [o4]; omega, by simp only [o4]; omega⟩, ⟨by simp only [o4]; omega, by simp only [o4]; omega⟩, ⟨by simp only [o4]; omega, by simp only [o4]; omega⟩, by simp only [o4]; omega, by simp only [o4]; omega⟩
    simp only [List.length_map] at hchk ⊢
    have hW := wWrite f.fi.1 f.fi.2 f.la.1 f.la.2 f.caps (f.ords.map o4) b5 o5 c5 b6 o6 c6 w (by rw [List.length_map]; exact hchk) (fun w' hw' => tab_low hH hX hg hob hw') (textF_len hV hh hc ho) hh hc ho (by omega) (by rw [List.length_map]; have := hV.o2; omega)
      (fun i x hx => ⟨(hH.rd _ _ _ (hD5 _ _ (flat_sp hx).1)).2.1, (hH.rd _ _ _ (hD5 _ _ (flat_sp hx).2)).2.1⟩)
      (fun i x hx => by
        rw [List.getElem?_map, Option.map_eq_some_iff] at hx
        obtain ⟨o, hx, rfl⟩ := hx
        obtain ⟨q1, q2, q3, q4⟩ := flat_or hx
        exact ⟨(hH.rd _ _ _ (hD6 _ _ q1)).2.1, (hH.rd _ _ _ (hD6 _ _ q2)).2.1, (hH.rd _ _ _ (hD6 _ _ q3)).2.1, (hH.rd _ _ _ (hD6 _ _ q4)).2.1⟩)
    rw [List.length_map] at hW
    refine hW.mono ?_
    rintro x w' ⟨rfl, hlw⟩
    refine ⟨_, _, rfl, hlw, ?_, h⟩
    rw [he]
    simp only [RelV]
    refine ⟨_, rfl, _, _, rfl, ?_, _, _, rfl, by simp only [RelV], by simp only [RelL]⟩
    simp only [RelV, writeF, he, if_true]
    rfl
  · have hW := wWriteE f.fi.1 f.fi.2 f.la.1 f.la.2 (checkF f) sc so w he hchk
    refine hW.mono ?_
    rintro x w' ⟨rfl, hlw⟩
    refine ⟨_, _, rfl, hlw, ?_, h⟩
    simp only [RelV]
    refine ⟨_, rfl, _, _, rfl, ?_, _, _, rfl, by simp only [RelV], by simp only [RelL]⟩
    simp only [RelV, writeF, he, if_false]
end Go.Sas
