/-
No truck on the lane is above what the ice bears: the plain law.
Conditions: none.
-/
import Derived.Test.YtndnjmpebpampaaGreatDoorJC
import Derived.Test.YtndnjmpebpampaaGreatDoorWD
import Derived.Test.YtndnjmpebpampaaGreatDoorWE
import Derived.Test.YtndnjmpebpampaaGreatDoorWI
set_option linter.unusedVariables false
set_option linter.unusedSimpArgs false
namespace Go.Sas
open Go.Proofs
theorem stopP_cases {L way m : Int} : ∀ {l : List Hld}, stopP L way m l = L ∨ ∃ h ∈ l, stopP L way m l = aloC L way h.a ∧ m < h.u
  | [] => .inl rfl
  | h :: t => by
    simp only [stopP]
    split
    · rename_i hm
      exact .inr ⟨h, List.mem_cons_self .., rfl, hm⟩
    · rcases stopP_cases (L := L) (way := way) (m := m) (l := t) with h1 | ⟨x, hx, h1⟩
      · exact .inl h1
      · exact .inr ⟨x, List.mem_cons_of_mem _ hx, h1⟩
/-- who is on the lane has not come to where it stops -/
theorem on_of_lan {L : Int} {t : Tck} {b : Bool} {g : Int} {m : Nat} (hg : g ≤ (waysT L (freeT b t) m).2) (hs : (waysT L (freeT b t) m).2 ≤ stopT L (freeT b t) m) (h : lanB L t.way t.st g m (frH b t.hs) = true) : onT L (freeT b t) g m = true := by
  obtain ⟨h1, h2, h3⟩ := lanB_iff.1 h
  have e : freeT b t = ⟨t.way, t.st, t.lo, t.hi, frH b t.hs⟩ := freeT_eq
  rw [e] at hg hs ⊢
  unfold onT
  refine decide_eq_true ⟨h1, ?_⟩
  unfold stopT at hs ⊢
  dsimp only at hs ⊢
  rcases stopP_cases (L := L) (way := t.way) (m := (m : Int)) (l := frH b t.hs) with h4 | ⟨x, hx, h4, h5⟩
  · omega
  · rcases Int.lt_or_eq_of_le (Int.le_trans hg hs) with h6 | h6
    · exact h6
    · exact absurd ⟨by omega, h5⟩ (h3 x hx)
theorem countP_two {bs : List Bool} {i k : Nat} {a b : Bool} (hik : i < k) (ha : bs[i]? = some a) (hb : bs[k]? = some b) : (if a then 1 else 0) + (if b then 1 else 0) ≤ bs.countP id := by
  have e : bs.countP id = (bs.take k).countP id + (bs.drop k).countP id := by rw [← List.countP_append, List.take_append_drop]
  rw [e]
  have h1 : (if a then 1 else 0) ≤ (bs.take k).countP id := by
    cases a
    · simp
    · have hm : true ∈ bs.take k := List.mem_of_getElem? (i := i) (by rw [List.getElem?_take_of_lt hik]; exact ha)
      have := List.countP_pos_iff (p := id).2 ⟨true, hm, rfl⟩
      simpa using this
  have h2 : (if b then 1 else 0) ≤ (bs.drop k).countP id := by
    cases b
    · simp
    · have hm : true ∈ bs.drop k := List.mem_of_getElem? (i := 0) (by rw [List.getElem?_drop]; exact hb)
      have := List.countP_pos_iff (p := id).2 ⟨true, hm, rfl⟩
      simpa using this
  omega
/-- on the lane, and where -/
def onF (L : Int) (trs : List Tck) (bs : List Bool) (gss : List (List Int)) (m i : Nat) : Bool :=
  lanB L (trs.getD i ⟨0, 0, 0, 0, []⟩).way (trs.getD i ⟨0, 0, 0, 0, []⟩).st ((gss.getD i []).getD m 0) m (frH (bs.getD i false) (trs.getD i ⟨0, 0, 0, 0, []⟩).hs)
def posF (L : Int) (trs : List Tck) (gss : List (List Int)) (m i : Nat) : Int := aloC L (trs.getD i ⟨0, 0, 0, 0, []⟩).way ((gss.getD i []).getD m 0)
def posL (L : Int) (trs : List Tck) (bs : List Bool) (gss : List (List Int)) (m k : Nat) : List Int := ((List.range k).filter (onF L trs bs gss m)).map (posF L trs gss m)
theorem posL_succ {L : Int} {trs : List Tck} {bs : List Bool} {gss : List (List Int)} {m k : Nat} : posL L trs bs gss m (k + 1) = if onF L trs bs gss m k then posL L trs bs gss m k ++ [posF L trs gss m k] else posL L trs bs gss m k := by
  unfold posL
  rw [List.range_succ, List.filter_append, List.map_append]
  by_cases h : onF L trs bs gss m k = true
  · rw [if_pos h]; simp [h]
  · rw [if_neg h]; simp [h]
/-- a course of trucks -/
structure CrsQ (L f : Int) (trs : List Tck) (bs : List Bool) (gss : List (List Int)) (n : Nat) : Prop where
  lb : 60 ≤ L ∧ L ≤ 300
  acc : AccQ ⟨L, 70, f, trs⟩
  bl : bs.length = trs.length
  bc : iLen (bs.countP id) ≤ f
  gl : gss.length = trs.length
  go : ∀ (i : Nat) (t : Tck) (b : Bool) (gs : List Int), trs[i]? = some t → bs[i]? = some b → gss[i]? = some gs → gs.length = n + 1 ∧ ∀ m, m ≤ n → (waysT L (freeT b t) m).1 ≤ gs.getD m 0 ∧ gs.getD m 0 ≤ (waysT L (freeT b t) m).2
theorem CrsQ.at_ {L f : Int} {trs : List Tck} {bs : List Bool} {gss : List (List Int)} {n : Nat} (h : CrsQ L f trs bs gss n) {i : Nat} (hi : i < trs.length) :
    ∃ t b gs, trs[i]? = some t ∧ bs[i]? = some b ∧ gss[i]? = some gs ∧ gs.length = n + 1 ∧ TckV L 70 t ∧ ∀ m, m ≤ n → (waysT L (freeT b t) m).1 ≤ gs.getD m 0 ∧ gs.getD m 0 ≤ (waysT L (freeT b t) m).2 := by
  have h1 : trs[i]? = some trs[i] := List.getElem?_eq_getElem hi
  have h2 : bs[i]? = some (bs[i]'(by rw [h.bl]; exact hi)) := List.getElem?_eq_getElem _
  have h3 : gss[i]? = some (gss[i]'(by rw [h.gl]; exact hi)) := List.getElem?_eq_getElem _
  obtain ⟨h4, h5⟩ := h.go i _ _ _ h1 h2 h3
  exact ⟨_, _, _, h1, h2, h3, h4, h.acc.v.all _ (List.mem_of_getElem? h1), h5⟩
theorem CrsQ.apart {L f : Int} {trs : List Tck} {bs : List Bool} {gss : List (List Int)} {n : Nat} (h : CrsQ L f trs bs gss n) {m : Nat} (hm : m ≤ n) {i k : Nat} (hik : i < k) (hk : k < trs.length) (oi : onF L trs bs gss m i = true) (ok : onF L trs bs gss m k = true) :
    posF L trs gss m i + 70 ≤ posF L trs gss m k ∨ posF L trs gss m k + 70 ≤ posF L trs gss m i := by
  obtain ⟨t, a, gs, e1, e2, e3, _, hV, e5⟩ := h.at_ (show i < trs.length by omega)
  obtain ⟨u, b, hs, d1, d2, d3, _, hU, d5⟩ := h.at_ hk
  have hL := h.lb
  have hLL : 1 ≤ L := by omega
  obtain ⟨e0, _, hE, hA⟩ := h.acc.e
  have hA := Acc.all hA hE hLL h.acc.v.all m
  dsimp only at hA hE
  have hc := countP_two hik e2 d2
  have hbc := h.bc
  have hme := hA m (Nat.le_refl _) i k t u hik e1 d1 a b (by
    unfold iLen at hbc
    have : (((if a then 1 else 0) + (if b then 1 else 0) : Nat) : Int) ≤ f := by omega
    cases a <;> cases b <;> simpa using this)
  unfold onF at oi ok
  unfold posF
  have t1 : trs.getD i ⟨0, 0, 0, 0, []⟩ = t := by rw [List.getD_eq_getElem?_getD, e1]; rfl
  have t2 : trs.getD k ⟨0, 0, 0, 0, []⟩ = u := by rw [List.getD_eq_getElem?_getD, d1]; rfl
  have t3 : bs.getD i false = a := by rw [List.getD_eq_getElem?_getD, e2]; rfl
  have t4 : bs.getD k false = b := by rw [List.getD_eq_getElem?_getD, d2]; rfl
  have t5 : gss.getD i [] = gs := by rw [List.getD_eq_getElem?_getD, e3]; rfl
  have t6 : gss.getD k [] = hs := by rw [List.getD_eq_getElem?_getD, d3]; rfl
  rw [t1, t3, t5] at oi
  rw [t2, t4, t6] at ok
  rw [t1, t2, t5, t6]
  have b1 := waysT_bnd (hV.free a) hLL m
  have b2 := waysT_bnd (hU.free b) hLL m
  have o1 := on_of_lan (e5 m hm).2 b1.2.2 oi
  have o2 := on_of_lan (d5 m hm).2 b2.2.2 ok
  have hq := apartT (by omega) hme (e5 m hm) (d5 m hm) o1 o2
  rw [freeT_way, freeT_way] at hq
  omega
theorem CrsQ.pos {L f : Int} {trs : List Tck} {bs : List Bool} {gss : List (List Int)} {n : Nat} (h : CrsQ L f trs bs gss n) {m : Nat} (hm : m ≤ n) {i : Nat} (hi : i < trs.length) : 0 ≤ posF L trs gss m i ∧ posF L trs gss m i ≤ L := by
  obtain ⟨t, a, gs, e1, e2, e3, _, hV, e5⟩ := h.at_ hi
  have hL := h.lb
  unfold posF
  have t1 : trs.getD i ⟨0, 0, 0, 0, []⟩ = t := by rw [List.getD_eq_getElem?_getD, e1]; rfl
  have t5 : gss.getD i [] = gs := by rw [List.getD_eq_getElem?_getD, e3]; rfl
  rw [t1, t5]
  have b1 := waysT_bnd (hV.free a) (show 1 ≤ L by omega) m
  have b3 := stopT_bnd (hV.free a) (show 1 ≤ L by omega) m
  have b2 := e5 m hm
  unfold aloC
  split <;> omega
/-- the loads of a minute so far -/
structure LdsQ (W : Int) (ps : List Int) (l : List Load) : Prop where
  at_ : l.map (·.at_) = ps
  all : ∀ o ∈ l, (0 ≤ o.w.1 ∧ o.w.1 ≤ o.w.2 ∧ o.w.2 ≤ W) ∧ o.st = 0
theorem LdsQ.nil {W : Int} : LdsQ W [] [] := ⟨rfl, fun o ho => by cases ho⟩
theorem LdsQ.snoc {W : Int} {ps : List Int} {l : List Load} (h : LdsQ W ps l) {x r : Int} (hr : 0 ≤ r ∧ r ≤ W) : LdsQ W (ps ++ [x]) (l ++ [⟨x, (r, r), 0⟩]) :=
  ⟨by rw [List.map_append, h.at_]; rfl, fun o ho => by
    rcases List.mem_append.1 ho with ho | ho
    · exact h.all o ho
    · rw [List.mem_singleton.1 ho]; exact ⟨by dsimp only; omega, rfl⟩⟩
theorem posL_len {L : Int} {trs : List Tck} {bs : List Bool} {gss : List (List Int)} {m k : Nat} : (posL L trs bs gss m k).length ≤ k := by
  unfold posL
  rw [List.length_map]
  exact Nat.le_trans (List.length_filter_le ..) (by rw [List.length_range]; exact Nat.le_refl _)
/-- every load of a minute is surely borne -/
theorem lane_holds {p : Plate} (hc : checkS p = 0) {t W gv : Int} (ht : 0 ≤ t ∧ t ≤ 5000) (hW : 0 ≤ W ∧ W ≤ 12000) {L f : Int} {trs : List Tck} {bs : List Bool} {gss : List (List Int)} {n m : Nat} (hQ : CrsQ L f trs bs gss n) (hN : trs.length ≤ 5) (hm : m ≤ n)
    (hg : gapS p t (List.replicate trs.length (W, W)) = (gv, 0)) (hgv : 0 ≤ gv ∧ gv ≤ 70) {l : List Load} (hl : LdsQ W (posL L trs bs gss m trs.length) l) :
    holdsS p (List.replicate (L / 100 + 1).toNat (t, t)) [] l = (l.map fun _ => 1, 0) := by
  have hV := checkS_ok hc
  have hL := hQ.lb
  have hR : RowV (List.replicate trs.length (W, W)) := ⟨by rw [List.length_replicate]; omega, fun x hx => by rw [(List.mem_replicate.1 hx).2]; dsimp only; omega⟩
  have hfs : faultsS (List.replicate trs.length (W, W)) 30 200000 = 0 := faultsS_of (by rw [List.length_replicate]; omega) fun x hx => by rw [(List.mem_replicate.1 hx).2]; dsimp only; omega
  unfold gapS at hg
  rw [if_neg (by simp [hc]), if_neg (by omega), if_neg (by simp [hfs])] at hg
  obtain ⟨F, hF⟩ : ∃ F, F = firstN (rowQ p t (List.replicate trs.length (W, W))) 10001 := ⟨_, rfl⟩
  rw [← hF] at hg
  have hF1 : F < 10001 := by
    rcases Nat.lt_or_ge F 10001 with h | h
    · exact h
    · rw [if_neg (by omega)] at hg
      have := (Prod.mk.inj hg).1
      omega
  rw [if_pos hF1] at hg
  have hFg : iLen F = gv := (Prod.mk.inj hg).1
  have hFat : rowQ p t (List.replicate trs.length (W, W)) F = true := by rw [hF]; exact firstN_at (by omega)
  have hll : l.length ≤ trs.length := by
    have h1 := congrArg List.length hl.at_
    rw [List.length_map] at h1
    rw [h1]; exact posL_len
  have hpos : ∀ o ∈ l, 0 ≤ o.at_ ∧ o.at_ ≤ L := fun o ho => by
    have h1 : o.at_ ∈ l.map (·.at_) := List.mem_map_of_mem ho
    rw [hl.at_] at h1
    unfold posL at h1
    obtain ⟨i, hi, he⟩ := List.mem_map.1 h1
    rw [← he]
    exact hQ.pos hm (List.mem_range.1 (List.mem_filter.1 hi).1)
  have hd : (l.map (·.at_)).Pairwise fun x y => x + 70 ≤ y ∨ y + 70 ≤ x := by
    rw [hl.at_]
    unfold posL
    rw [List.pairwise_map]
    refine List.Pairwise.imp_of_mem ?_ (List.Pairwise.filter _ (List.pairwise_lt_range (n := trs.length)))
    intro a b ha hb hab
    obtain ⟨_, oa⟩ := List.mem_filter.1 ha
    obtain ⟨hb1, ob⟩ := List.mem_filter.1 hb
    exact hQ.apart hm hab (List.mem_range.1 hb1) oa ob
  have hroad : checkAllS p (List.replicate (L / 100 + 1).toNat (t, t)) [] = 0 := roadS_of hc (by rw [List.length_replicate]; omega) (fun x hx => by rw [(List.mem_replicate.1 hx).2]; dsimp only; omega) (by simp) (fun x hx => by simp at hx)
  have hld : loadsS (List.replicate (L / 100 + 1).toNat (t, t)).length l = 0 := by
    refine loadsS_of (by omega) fun x hx => ?_
    have h1 := hpos x hx
    obtain ⟨⟨h2, h3, h4⟩, h5⟩ := hl.all x hx
    rw [List.length_replicate]
    exact ⟨h1.1, by omega, h2, h3, by omega, by omega, by omega⟩
  unfold holdsS
  rw [if_neg (by simp [hroad]), if_neg (by simp only [ne_eq, Decidable.not_not]; exact hld)]
  refine Prod.ext ?_ rfl
  refine List.map_congr_left fun x hx => ?_
  exact lane_sure hV hR hW.1 hFat (gap := 70) (by omega) hll (fun o ho => (hl.all o ho).1) (fun o ho => (hl.all o ho).2) (fun o ho => by have := hpos o ho; omega) hd hx
end Go.Sas
