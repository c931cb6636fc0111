/-
Season files: the reference's row behind the first one: contract.
Season files: what is read of a text: contract of the reference's function.
Season files: the reference's rows and its file of a freight: contracts.
Conditions: none.
-/
import Derived.Test.YtaeaamhlejhgkaaGreatDoorXC
import Derived.Test.YtaeaamhlejhgkaaGreatDoorQST1
set_option linter.unusedVariables false
set_option linter.unusedSimpArgs false
namespace Go.Sas
open Go.Proofs
set_option maxRecDepth 100000
structure NumsPreR (r : ByteArray) (n : Int) : Prop where
  len : r.data.toList.length ≤ 1000000
  two : n = 2 ∨ n = 4
def eNumsR : List AV → Option ((AV → Prop) → Prop)
  | [.lit (.string r), .lit (.string w), .lit (.int .i64 n)] => some fun K => NumsPreR r n ∧ (NumsNo r w n → K (.tup [.lit (.slice none 0 0), B false])) ∧ ∀ ns : List Int, NumsOk r w n ns → K (.tup [.vs 1 (ns.map I), B true])
  | _ => none
theorem eNumsR_ok : ∀ args pt, eNumsR args = some pt → ∀ (H : AHeap) (Kk : AV → AHeap → Prop), pt (fun r => Kk r H) → ACalls Tryz.prog 40 args H Kk := by
  intro args pt h H Kk hk
  unfold eNumsR at h
  split at h
  · rename_i r w n
    cases h
    obtain ⟨⟨hs, ht⟩, h1, h2⟩ := hk
    obtain ⟨m, hm, rfl⟩ : ∃ m : Nat, (1 ≤ m ∧ m ≤ 10) ∧ n = iLen m := by
      rcases ht with rfl | rfl
      · exact ⟨2, by omega, rfl⟩
      · exact ⟨4, by omega, rfl⟩
    refine p40 r w m hm hs H ?_
    cases hn : numsL w.data.toList m r.data.toList with
    | none => exact h1 ⟨hn⟩
    | some ns => exact h2 ns ⟨hn⟩
  · cases h
def fcR (f : Frt) : List AV := [I f.fi.1, I f.fi.2, I f.la.1, I f.la.2, .ms 2 2 f.caps.length 0 f.caps.length, .ms 4 3 f.ords.length 0 f.ords.length]
def heapR (Y : AObj) (f : Frt) : AHeap := [Y, .own 0 (fcR f), .own f.caps.length (f.caps.flatMap spC), .own f.ords.length (f.ords.flatMap orC)]
set_option maxHeartbeats 2000000 in
theorem p39 (f : Frt) (q : Nat) (rb : ByteArray) {Y : AObj} (hrow : rb.data.toList.length ≤ 1000000)
    (hcl : f.caps.length ≤ 1000000) (hol : f.ords.length ≤ 1000000) {Kk : AV → AHeap → Prop} (h1 : ∀ g, stepS f (q + 1) rb.data.toList = some g → Kk (B true) (heapR Y g)) (h2 : stepS f (q + 1) rb.data.toList = none → Kk (B false) (heapR Y f)) :
    ACalls Tryz.prog 39 [.mp 1 0 0, .lit (.string rb)] (heapR Y f) Kk := by
  obtain ⟨⟨a, b⟩, ⟨c, d⟩, cs, os⟩ := f
  simp only at hcl hol
  unfold heapR fcR at h2 ⊢
  simp only at h2 ⊢
  obtain ⟨n1, hn1⟩ : ∃ n, n = cs.length := ⟨_, rfl⟩
  obtain ⟨n2, hn2⟩ : ∃ n, n = os.length := ⟨_, rfl⟩
  have hn2l := hn2
  obtain ⟨cc, hcc⟩ : ∃ n, n = cs.flatMap spC := ⟨_, rfl⟩
  obtain ⟨oc, hoc⟩ : ∃ n, n = os.flatMap orC := ⟨_, rfl⟩
  rw [← hn1, ← hn2, ← hcc, ← hoc] at h2 ⊢
  obtain ⟨A, hA⟩ : ∃ A, A = std := ⟨_, rfl⟩
  refine go39 rfl (AGo.weaken (SGo_run (R := RetS _ 4 Kk) hA ⟨[2, 3], [1002, 1003, 2000001], (40, eNumsR) :: [], []⟩ (.cons eNumsR_ok .nil) .nil 200 fun T TD hT hTD => ?_) (fun _ _ _ h => RetS.p h) (by simp))
  cbv
  have hmore : ∀ L, numsL capW 2 rb.data.toList = L → (L = none ∨ os ≠ []) → moreS ⟨(a, b), (c, d), cs, os⟩ rb.data.toList = match numsL orderW 4 rb.data.toList with
      | some [x, y, z, w] => some ⟨(a, b), (c, d), cs, os ++ [⟨x, y, z, w⟩]⟩
      | _ => none := by
    intro L hL hor
    unfold moreS
    rw [hL]
    rcases hor with rfl | hor
    · rfl
    · simp only
      split
      · exact absurd rfl hor
      · rfl
  refine And.intro ⟨hrow, .inl rfl⟩ (And.intro (fun hn => ?_) fun ns hns => ?_)
  · cbv
    have hmo := hmore _ hn.eq (.inl rfl)
    refine And.intro ⟨hrow, .inr rfl⟩ (And.intro (fun hn2 => ?_) fun ns hns2 => ?_)
    · cbv
      have hn2 : numsL orderW 4 rb.data.toList = none := hn2.eq
      refine h2 ?_
      simp only [stepS]
      rw [hmo, hn2]
    · obtain ⟨x4, y4, z4, w4, rfl⟩ := hns2.four
      have hn2 : numsL orderW 4 rb.data.toList = some [x4, y4, z4, w4] := hns2.eq
      have hj0 : A.ix 1 1 [I x4, I y4, I z4, I w4] 0 [I x4] := by subst hA; exact ⟨rfl, by decide, _, rfl, rfl⟩
      have hj1 : A.ix 1 1 [I x4, I y4, I z4, I w4] 1 [I y4] := by subst hA; exact ⟨rfl, by decide, _, rfl, rfl⟩
      have hj2 : A.ix 1 1 [I x4, I y4, I z4, I w4] 2 [I z4] := by subst hA; exact ⟨rfl, by decide, _, rfl, rfl⟩
      have hj3 : A.ix 1 1 [I x4, I y4, I z4, I w4] 3 [I w4] := by subst hA; exact ⟨rfl, by decide, _, rfl, rfl⟩
      cbv
      refine Exists.intro _ (And.intro hj0 ?_); cbv
      refine Exists.intro _ (And.intro hj1 ?_); cbv
      refine Exists.intro _ (And.intro hj2 ?_); cbv
      refine Exists.intro _ (And.intro hj3 ?_); cbv
      obtain ⟨o2, ho2⟩ : ∃ c2, c2 = oc ++ [I x4, I y4, I z4, I w4] := ⟨_, rfl⟩
      have happ : A.app 4 4 32 oc 0 n2 [.agg [I x4, I y4, I z4, I w4]] o2 (n2 + 1) := by subst hA; rw [ho2]; exact app_one (by rw [hoc, hn2l]; exact flen (f := orC) (k := 4) (fun _ => rfl) _) rfl (by omega)
      refine And.intro (by subst hA; rfl) (Exists.intro _ (Exists.intro _ (And.intro happ (And.intro rfl ?_)))); cbv
      refine And.intro (by subst hA; exact .inr ⟨SubH.cs (by simp [SubH]), trivial, by first | exact .inl rfl | exact .inr fun _ => SubH.cs (by simp [SubH])⟩) ?_; cbv
      have hst := h1 ⟨(a, b), (c, d), cs, os ++ [⟨x4, y4, z4, w4⟩]⟩ (by simp only [stepS]; rw [hmo, hn2])
      unfold heapR fcR at hst
      simp only [List.length_append, List.length_cons, List.length_nil, ← hn1, ← hn2l, List.flatMap_append, ← hcc, ← hoc] at hst
      rw [show oc ++ [(⟨x4, y4, z4, w4⟩ : Ord)].flatMap orC = o2 by rw [ho2]; rfl] at hst
      exact hst
  · obtain ⟨x, y, rfl⟩ := hns.two
    have hn : numsL capW 2 rb.data.toList = some [x, y] := hns.eq
    have hi0 : A.ix 1 1 [I x, I y] 0 [I x] := by subst hA; exact ⟨rfl, by decide, _, rfl, rfl⟩
    have hi1 : A.ix 1 1 [I x, I y] 1 [I y] := by subst hA; exact ⟨rfl, by decide, _, rfl, rfl⟩
    have hz2 : A.eq (A.len n2) 0 = decide (os = []) := by
      subst hA hn2; simp only [std, iEq, iLen]; rw [Bool.eq_iff_iff]; simp
    cbv
    refine And.intro (by subst hA; rfl) ?_; cbv
    split <;> cbv
    · rename_i hq2
      have hq2 : os = [] := by have := hz2.symm.trans hq2; simpa using this
      refine Exists.intro _ (And.intro hi0 ?_); cbv
      refine Exists.intro _ (And.intro hi1 ?_); cbv
      obtain ⟨c2, hc2⟩ : ∃ c2, c2 = cc ++ [I x, I y] := ⟨_, rfl⟩
      have happ : A.app 2 2 16 cc 0 n1 [.agg [I x, I y]] c2 (n1 + 1) := by subst hA; rw [hc2]; exact app_one (by rw [hcc, hn1]; exact flen (f := spC) (k := 2) (fun _ => rfl) _) rfl (by omega)
      refine And.intro (by subst hA; rfl) (Exists.intro _ (Exists.intro _ (And.intro happ (And.intro rfl ?_)))); cbv
      refine And.intro (by subst hA; exact .inr ⟨SubH.cs (by simp [SubH]), trivial, by first | exact .inl rfl | exact .inr fun _ => SubH.cs (by simp [SubH])⟩) ?_; cbv
      have hst := h1 ⟨(a, b), (c, d), cs ++ [(x, y)], os⟩ (by simp only [stepS, moreS]; rw [hn]; subst hq2; rfl)
      unfold heapR fcR at hst
      simp only [List.length_append, List.length_cons, List.length_nil, ← hn1, ← hn2, List.flatMap_append, ← hcc, ← hoc] at hst
      rw [show cc ++ [(x, y)].flatMap spC = c2 by rw [hc2]; rfl] at hst
      exact hst
    · rename_i hq2
      have hq2 : os ≠ [] := by have := hz2.symm.trans hq2; simpa using this
      have hmo := hmore _ hn (.inr hq2)
      refine And.intro ⟨hrow, .inr rfl⟩ (And.intro (fun hn2 => ?_) fun ns hns2 => ?_)
      · cbv
        have hn2 : numsL orderW 4 rb.data.toList = none := hn2.eq
        refine h2 ?_
        simp only [stepS]
        rw [hmo, hn2]
      · obtain ⟨x4, y4, z4, w4, rfl⟩ := hns2.four
        have hn2 : numsL orderW 4 rb.data.toList = some [x4, y4, z4, w4] := hns2.eq
        have hj0 : A.ix 1 1 [I x4, I y4, I z4, I w4] 0 [I x4] := by subst hA; exact ⟨rfl, by decide, _, rfl, rfl⟩
        have hj1 : A.ix 1 1 [I x4, I y4, I z4, I w4] 1 [I y4] := by subst hA; exact ⟨rfl, by decide, _, rfl, rfl⟩
        have hj2 : A.ix 1 1 [I x4, I y4, I z4, I w4] 2 [I z4] := by subst hA; exact ⟨rfl, by decide, _, rfl, rfl⟩
        have hj3 : A.ix 1 1 [I x4, I y4, I z4, I w4] 3 [I w4] := by subst hA; exact ⟨rfl, by decide, _, rfl, rfl⟩
        cbv
        refine Exists.intro _ (And.intro hj0 ?_); cbv
        refine Exists.intro _ (And.intro hj1 ?_); cbv
        refine Exists.intro _ (And.intro hj2 ?_); cbv
        refine Exists.intro _ (And.intro hj3 ?_); cbv
        obtain ⟨o2, ho2⟩ : ∃ c2, c2 = oc ++ [I x4, I y4, I z4, I w4] := ⟨_, rfl⟩
        have happ : A.app 4 4 32 oc 0 n2 [.agg [I x4, I y4, I z4, I w4]] o2 (n2 + 1) := by subst hA; rw [ho2]; exact app_one (by rw [hoc, hn2l]; exact flen (f := orC) (k := 4) (fun _ => rfl) _) rfl (by omega)
        refine And.intro (by subst hA; rfl) (Exists.intro _ (Exists.intro _ (And.intro happ (And.intro rfl ?_)))); cbv
        refine And.intro (by subst hA; exact .inr ⟨SubH.cs (by simp [SubH]), trivial, by first | exact .inl rfl | exact .inr fun _ => SubH.cs (by simp [SubH])⟩) ?_; cbv
        have hst := h1 ⟨(a, b), (c, d), cs, os ++ [⟨x4, y4, z4, w4⟩]⟩ (by simp only [stepS]; rw [hmo, hn2])
        unfold heapR fcR at hst
        simp only [List.length_append, List.length_cons, List.length_nil, ← hn1, ← hn2l, List.flatMap_append, ← hcc, ← hoc] at hst
        rw [show oc ++ [(⟨x4, y4, z4, w4⟩ : Ord)].flatMap orC = o2 by rw [ho2]; rfl] at hst
        exact hst
end Go.Sas
namespace Go.Sas
open Go.Proofs
set_option maxRecDepth 100000
structure RPre (Y : AObj) (f : Frt) (H : AHeap) (r : ByteArray) : Prop where
  heap : H = heapR Y f
  len : r.data.toList.length ≤ 1000000
  cl : f.caps.length ≤ 1000000
  ol : f.ords.length ≤ 1000000
structure RStep (f : Frt) (r : ByteArray) (g : Frt) (fc cc oc : List AV) (n1 n2 : Nat) : Prop where
  eq : moreS f r.data.toList = some g
  fc : fc = fcR g
  cc : cc = g.caps.flatMap spC
  oc : oc = g.ords.flatMap orC
  n1 : n1 = g.caps.length
  n2 : n2 = g.ords.length
structure RNo (f : Frt) (r : ByteArray) : Prop where
  eq : moreS f r.data.toList = none
def eStepR : List AV → AHeap → Option PT
  | [.mp 1 0 0, .lit (.string r)], H => some fun K => ∃ Y f, RPre Y f H r ∧ (RNo f r → K (B false) H) ∧ ∀ g fc cc oc n1 n2, RStep f r g fc cc oc n1 n2 → K (B true) [Y, .own 0 fc, .own n1 cc, .own n2 oc]
  | _, _ => none
theorem eStepR_ok : ∀ args H pt, eStepR args H = some pt → ∀ (Kk : AV → AHeap → Prop), pt Kk → ACalls Tryz.prog 39 args H Kk := by
  intro args H pt h Kk hk
  unfold eStepR at h
  split at h
  · cases h
    obtain ⟨Y, f, ⟨rfl, hl, hc, ho⟩, h1, h2⟩ := hk
    exact p39 f 0 _ hl hc ho (fun g hg => h2 g _ _ _ _ _ ⟨hg, rfl, rfl, rfl, rfl, rfl⟩) fun hn => h1 ⟨hn⟩
  · cases h
theorem frR_frees {a b c d u v : Int} {cs : List (Int × Int)} {os : List Ord} {n1 n2 g0 g : Nat} {cc oc fc rc : List AV} (h1 : n1 = cs.length) (h2 : n2 = os.length) (h3 : cc = cs.flatMap spC) (h4 : oc = os.flatMap orC)
    {Kk : AV → AHeap → Prop} (h : Kk (readA (⟨(a, b), (c, d), cs, os⟩, u, v)) []) :
    Frees 0 Kk (.tup [.agg [I a, I b, I c, I d, .ms 2 2 n1 0 n1, .ms 4 3 n2 0 n2], I u, I v]) [.own g0 rc, .own g fc, .own n1 cc, .own n2 oc] := by
  have hE1 : Elems 2 (cs.map sp) cc := by rw [h3]; exact Elems_map (f := sp) (g := spC) (sz := 2) (fun _ => rfl) (fun _ => rfl) (fun _ => rfl) cs
  have hE2 : Elems 4 (os.map orV) oc := by rw [h4]; exact Elems_map (f := orV) (g := orC) (sz := 4) (fun _ => rfl) (fun _ => rfl) (fun _ => rfl) os
  have hx2 : AV.nidL oc = true := by rw [h4]; exact nidL_flat (fun _ => rfl) _
  have l1 : (cs.map sp).take n1 = cs.map sp := List.take_of_length_le (by simp [h1])
  have l2 : (os.map orV).take n2 = os.map orV := List.take_of_length_le (by simp [h2])
  clear h3 h4
  obtain ⟨xs, hxs⟩ : ∃ z, z = cs.map sp := ⟨_, rfl⟩
  obtain ⟨ys, hys⟩ : ∃ z, z = os.map orV := ⟨_, rfl⟩
  have k1 : n1 ≤ xs.length := by rw [hxs]; simp [h1]
  have k2 : n2 ≤ ys.length := by rw [hys]; simp [h2]
  unfold readA frA at h
  simp only at h
  rw [← hxs] at hE1 l1 h
  rw [← hys] at hE2 l2 h
  refine Frees.weak 0 rfl (Frees.weak 1 rfl (Frees.frz 2 n1 2 xs rfl hE1 ?_))
  have e1 : frzH 2 n1 2 xs (([.own g0 [], .own g [], .own n1 cc, .own n2 oc] : AHeap).set 2 .gone) = [.own g0 [], .own g [], .gone, .own n2 oc] := by
    simp [frzH, AObj.frz, AV.frzL, AV.frzL_nid hx2]
  have e2 : AV.frz 2 n1 2 xs (.tup [.agg [I a, I b, I c, I d, .ms 2 2 n1 0 n1, .ms 4 3 n2 0 n2], I u, I v]) = .tup [.agg [I a, I b, I c, I d, .vs 2 xs, .ms 4 3 n2 0 n2], I u, I v] := by
    simp [AV.frzL, AV.frz, l1, k1]
  show Frees 0 Kk (AV.frz 2 n1 2 xs _) (frzH 2 n1 2 xs (([.own g0 [], .own g [], .own n1 cc, .own n2 oc] : AHeap).set 2 .gone))
  rw [e1, e2]
  refine Frees.frz 3 n2 4 ys rfl hE2 ?_
  have e4 : AV.frz 3 n2 4 ys (.tup [.agg [I a, I b, I c, I d, .vs 2 xs, .ms 4 3 n2 0 n2], I u, I v]) = .tup [.agg [I a, I b, I c, I d, .vs 2 xs, .vs 4 ys], I u, I v] := by
    simp [AV.frzL, AV.frz, l2, k2]
  rw [e4]
  exact Frees.drop0 h rfl
set_option maxHeartbeats 4000000 in
theorem p13 (tb : ByteArray) (H : AHeap) {Kk : AV → AHeap → Prop} (h : Kk (readA (readF tb.data.toList)) H) : ACalls Tryz.prog 13 [.lit (.string tb)] H Kk := by
  refine (fun q => pureF (by rfl) (by simp [readA, frA, AV.nid, AV.nidL]) q H h) ?_
  clear h
  intro Kk h
  obtain ⟨W, hW⟩ : ∃ W, W = readF tb.data.toList := ⟨_, rfl⟩
  rw [← hW] at h
  obtain ⟨A, hA⟩ : ∃ A, A = std := ⟨_, rfl⟩
  obtain ⟨F, hF⟩ : ∃ F, F = Frees 0 Kk := ⟨_, rfl⟩
  rw [← hF]
  have hzero : ∀ (b c : Int) (H : AHeap), W = (frt0, b, c) → F (.tup [.agg [I 0, I 0, I 0, I 0, .lit (.slice none 0 0), .lit (.slice none 0 0)], I b, I c]) H := fun b c H hw => by
    rw [hw] at h; rw [hF]; exact Frees.wk wk_zero (Frees.drop0 h rfl)
  have hlt : ∀ x y, A.lt x y = decide (x < y) := by subst hA; intro x y; rfl
  have hll : ∀ n : Nat, A.len n = (n : Int) := by subst hA; intro n; rfl
  refine go13 rfl (SGo_run hA ⟨[2, 3], [1002, 1003, 2000001], (38, eSplitR) :: (40, eNumsR) :: [], (39, eStepR) :: (33, eMut eCheckFr) :: []⟩ (.cons eSplitR_ok (.cons eNumsR_ok .nil)) (.cons eStepR_ok (.cons (eMut_ok (eCheckFr_ok p33)) .nil)) 200 fun T TD hT hTD => ?_)
  cbv
  split <;> cbv
  · rename_i hq
    have hq : 20000 < tb.data.toList.length := by
      have hq9 := (hlt _ _).symm.trans hq
      rw [hll, ← List.length.eq_def] at hq9
      exact Int.ofNat_lt.1 (of_decide_eq_true hq9)
    exact hzero 0 5 _ (by rw [hW]; unfold readF readS; rw [if_pos hq])
  rename_i hq
  have hq : ¬ 20000 < tb.data.toList.length := by
    have hq9 := (hlt _ _).symm.trans hq
    rw [hll, ← List.length.eq_def] at hq9
    exact fun h9 => of_decide_eq_false hq9 (Int.ofNat_lt.2 h9)
  refine Exists.intro 10 (And.intro ⟨rfl, by omega⟩ fun xs hxs => ?_)
  have hxs : xs = (splitL 10 tb.data.toList).map strA := hxs.eq
  obtain ⟨rs, lst, hsp⟩ : ∃ rs lst, splitL 10 tb.data.toList = rs ++ [lst] := ⟨_, _, (List.dropLast_concat_getLast (splitL_ne _)).symm⟩
  have hlens : rs.length ≤ 20000 := by
    have := splitL_len (c := 10) tb.data.toList
    rw [hsp] at this
    have h2 := List.count_le_length (a := (10 : UInt8)) (l := tb.data.toList)
    rw [List.length_append, List.length_singleton] at this
    generalize List.count 10 tb.data.toList = q at this h2
    omega
  have hparts : ∀ x ∈ rs, x.length ≤ 1000000 := fun x hx => by
    have := splitL_part (c := 10) (l := tb.data.toList) (x := x) (by rw [hsp]; exact List.mem_append_left _ hx)
    omega
  rw [hsp] at hxs
  have hvl : A.vlen xs = iLen (rs.length + 1) := by subst hA; simp [std, hxs]
  have hsub : A.sub .i64 (A.vlen xs) 1 = iLen rs.length := by
    rw [hvl]; subst hA
    show iSub .i64 (iLen _) 1 = _
    unfold iLen
    rw [iSub_id] <;> simp <;> omega
  have hWt : W = if (takeS frt0 0 rs).2 ≠ 0 then (frt0, ((takeS frt0 0 rs).2 : Int), 3) else if rs.length = 0 ∨ lst ≠ [] then (frt0, ((rs.length + 1 : Nat) : Int), 3) else if checkF (takeS frt0 0 rs).1 ≠ 0 then (frt0, 0, checkF (takeS frt0 0 rs).1) else ((takeS frt0 0 rs).1, 0, 0) := by
    rw [hW]; unfold readF readS
    rw [if_neg hq]
    simp only [hsp, List.dropLast_concat, List.length_append, List.length_singleton, List.getLast?_concat]
    simp
  cbv
  rw [hT]
  refine AGo_nilcell 1 4 2 rfl rfl ?_
  refine AGo_nilcell 1 5 4 rfl rfl ?_
  obtain ⟨Y, hY⟩ : ∃ Y : AObj, Y = .own 0 [I 0, I 0, I 0, I 0, .lit (.slice none 0 0), .lit (.slice none 0 0)] := ⟨_, rfl⟩
  refine AGo_upE [2, 5, 6] rs.length (fun j (f : Frt) => takeS frt0 0 rs = takeS f j (rs.drop j) ∧ f.caps.length ≤ j ∧ f.ords.length ≤ j) (fun _ _ i => [(7, I i)]) (fun _ f => heapR (.own 0 [I 0, I 0, I 0, I 0, .lit (.slice none 0 0), .lit (.slice none 0 0)]) f) frt0 ⟨rfl, Nat.le_refl _, Nat.le_refl _⟩ ⟨rfl, trivial⟩ (.inl rfl) fun j f i hi hj hP Bk hB => ?_
  obtain ⟨hT0, hcl, hol⟩ := hP
  have hltj : A.lt i (A.sub .i64 (A.vlen xs) 1) = decide (j < rs.length) := by
    rw [hsub, hi]; subst hA; simp only [std, iLt, iLen]; rw [Bool.eq_iff_iff]; simp
  have hadd : ∀ N, j < N → N ≤ 9223372036854775807 → A.add .i64 i 1 = iLen (j + 1) := fun N hj hN => by subst hA; exact add_one hi hj hN
  have hpos : A.lt 0 i = decide (0 < j) := by rw [hi]; subst hA; simp only [std, iLt, iLen]; rw [Bool.eq_iff_iff]; simp
  obtain ⟨⟨a, b⟩, ⟨c, d⟩, cs, os⟩ := f
  simp only at hcl hol
  obtain ⟨Hf, hHf⟩ : ∃ Hf, Hf = heapR (.own 0 [I 0, I 0, I 0, I 0, .lit (.slice none 0 0), .lit (.slice none 0 0)]) ⟨(a, b), (c, d), cs, os⟩ := ⟨_, rfl⟩
  rw [← hHf]
  have hHf0 := hHf
  unfold heapR fcR at hHf
  simp only at hHf
  obtain ⟨n1, hn1⟩ : ∃ n, n = cs.length := ⟨_, rfl⟩
  obtain ⟨n2, hn2⟩ : ∃ n, n = os.length := ⟨_, rfl⟩
  obtain ⟨cc, hcc⟩ : ∃ n, n = cs.flatMap spC := ⟨_, rfl⟩
  obtain ⟨oc, hoc⟩ : ∃ n, n = os.flatMap orC := ⟨_, rfl⟩
  rw [← hn1, ← hn2, ← hcc, ← hoc] at hHf
  rw [hHf] at hHf0 ⊢
  clear hHf
  refine SGo_run hA ⟨[2, 3], [1002, 1003, 2000001], (38, eSplitR) :: (40, eNumsR) :: [], (39, eStepR) :: (33, eMut eCheckFr) :: []⟩ (.cons eSplitR_ok (.cons eNumsR_ok .nil)) (.cons eStepR_ok (.cons (eMut_ok (eCheckFr_ok p33)) .nil)) 200 fun T TD hT hTD => ?_
  cbv
  split <;> cbv
  · rename_i hk1
    have hlt1 : j < rs.length := by have := hltj.symm.trans hk1; simpa using this
    obtain ⟨x, hx⟩ : ∃ x, rs[j]? = some x := ⟨_, List.getElem?_eq_getElem hlt1⟩
    obtain ⟨t, ht⟩ : ∃ t, t = bA x := ⟨_, rfl⟩
    have htd : t.data.toList = x := by rw [ht, bA_data]
    have hxl := hparts x (List.mem_of_getElem? hx)
    have hadd := hadd rs.length hlt1 (by omega)
    have hbn0 : A.bnot false = true := by subst hA; rfl
    have hbn1 : A.bnot true = false := by subst hA; rfl
    have hdr := drop_cons hx
    rw [hdr, takeS_step] at hT0
    split <;> cbv
    · rename_i hk2
      have hk2 : 0 < j := by have := hpos.symm.trans hk2; simpa using this
      obtain ⟨q, rfl⟩ : ∃ q, j = q + 1 := ⟨j - 1, by omega⟩
      have hix2 : A.ix 1 1 xs i [.lit (.string t)] := by
        subst hA; exact ix_map (l := rs ++ [lst]) hxs hi (by rw [List.getElem?_append_left hlt1]; exact hx) (by rw [ht]; rfl)
      refine Exists.intro _ (And.intro hix2 ?_); cbv
      refine Exists.intro _ (Exists.intro ⟨(a, b), (c, d), cs, os⟩ (And.intro ⟨hHf0, by rw [htd]; exact hxl, ?_, ?_⟩ (And.intro (fun hno => ?_) fun g fc cc' oc' m1 m2 hg => ?_)))
      · show cs.length ≤ 1000000
        omega
      · show os.length ≤ 1000000
        omega
      · have hno : stepS ⟨(a, b), (c, d), cs, os⟩ (q + 1) x = none := by rw [← htd]; exact hno.eq
        rw [hno] at hT0
        cbv
        split <;> cbv
        · have := fun H => hzero (A.add .i64 i 1) 3 H (by rw [hadd, hWt, hT0]; simp [iLen])
          exact this _
        · rename_i hq2
          exact absurd (hbn0.symm.trans hq2) (by decide)
      · have hst : stepS ⟨(a, b), (c, d), cs, os⟩ (q + 1) x = some g := by rw [← htd]; exact hg.eq
        rw [hst] at hT0
        cbv
        split
        · rename_i hq2
          exact absurd (hbn1.symm.trans hq2) (by decide)
        · cbv
          have hl : g.caps.length ≤ cs.length + 1 ∧ g.ords.length ≤ os.length + 1 := step_len hst
          refine hB g _ _ hlt1 ⟨hT0, by omega, by omega⟩ ⟨congrArg I hadd, trivial⟩ ⟨rfl, rfl, rfl, trivial⟩ (.inl ?_)
          rw [hg.fc, hg.cc, hg.oc, hg.n1, hg.n2]; rfl
    · rename_i hk2
      have hk2 : ¬ 0 < j := by have := hpos.symm.trans hk2; simpa using this
      obtain rfl : j = 0 := by omega
      have hix2 : A.ix 1 1 xs 0 [.lit (.string t)] := by
        subst hA; exact ix_map (l := rs ++ [lst]) (j := 0) hxs rfl (by rw [List.getElem?_append_left hlt1]; exact hx) (by rw [ht]; rfl)
      refine Exists.intro _ (And.intro hix2 ?_); cbv
      refine And.intro ⟨by rw [htd]; exact hxl, .inr rfl⟩ (And.intro (fun hno => ?_) fun ns hns => ?_)
      · have hno : numsL seasonW 4 x = none := by rw [← htd]; exact hno.eq
        have hst : stepS ⟨(a, b), (c, d), cs, os⟩ 0 x = none := by simp only [stepS, firstS]; rw [hno]
        rw [hst] at hT0
        cbv
        split <;> cbv
        · have := fun H => hzero 1 3 H (by rw [hWt, hT0]; simp)
          exact this _
        · rename_i hq2
          exact absurd (hbn0.symm.trans hq2) (by decide)
      · obtain ⟨x1, y1, z1, w1, rfl⟩ := hns.four
        have hns : numsL seasonW 4 x = some [x1, y1, z1, w1] := by rw [← htd]; exact hns.eq
        have hst : stepS ⟨(a, b), (c, d), cs, os⟩ 0 x = some ⟨(x1, y1), (z1, w1), [], []⟩ := by simp only [stepS, firstS]; rw [hns]
        rw [hst] at hT0
        have hi0 : A.ix 1 1 [I x1, I y1, I z1, I w1] 0 [I x1] := by subst hA; exact ⟨rfl, by decide, _, rfl, rfl⟩
        have hi1 : A.ix 1 1 [I x1, I y1, I z1, I w1] 1 [I y1] := by subst hA; exact ⟨rfl, by decide, _, rfl, rfl⟩
        have hi2 : A.ix 1 1 [I x1, I y1, I z1, I w1] 2 [I z1] := by subst hA; exact ⟨rfl, by decide, _, rfl, rfl⟩
        have hi3 : A.ix 1 1 [I x1, I y1, I z1, I w1] 3 [I w1] := by subst hA; exact ⟨rfl, by decide, _, rfl, rfl⟩
        have hc0 : cs = [] := List.length_eq_zero_iff.1 (Nat.le_zero.1 hcl)
        have ho0 : os = [] := List.length_eq_zero_iff.1 (Nat.le_zero.1 hol)
        cbv
        split
        · rename_i hq2
          exact absurd (hbn1.symm.trans hq2) (by decide)
        cbv
        refine Exists.intro _ (And.intro hi0 ?_); cbv
        refine Exists.intro _ (And.intro hi1 ?_); cbv
        refine Exists.intro _ (And.intro hi2 ?_); cbv
        refine Exists.intro _ (And.intro hi3 ?_); cbv
        refine And.intro (by subst hA; exact .inr ⟨SubH.cs (by simp [SubH]), trivial, by first | exact .inl rfl | exact .inr fun _ => SubH.cs (by simp [SubH])⟩) ?_; cbv
        refine hB ⟨(x1, y1), (z1, w1), [], []⟩ _ _ hlt1 ⟨hT0, Nat.zero_le _, Nat.zero_le _⟩ ⟨congrArg I hadd, trivial⟩ ⟨rfl, rfl, rfl, trivial⟩ (.inl ?_)
        subst hc0 ho0
        simp at hn1 hn2 hcc hoc
        subst hn1 hn2 hcc hoc
        rfl
  · rename_i hk1
    have hk1 : ¬ j < rs.length := by have := hltj.symm.trans hk1; simpa using this
    rw [List.drop_eq_nil_of_le (by omega)] at hT0
    have hz0 : A.eq (A.vlen xs) 1 = decide (rs.length = 0) := by
      rw [hvl]; subst hA; simp only [std, iEq, iLen]; rw [Bool.eq_iff_iff, beq_iff_eq, decide_eq_true_eq]; omega
    have hix3 : A.ix 1 1 xs (A.sub .i64 (A.vlen xs) 1) [.lit (.string (bA lst))] := by
      rw [hsub]; subst hA; rw [hxs]
      exact ⟨rfl, Int.natCast_nonneg _, strA lst, by simp [iLen], rfl⟩
    obtain ⟨tl, htl⟩ : ∃ t, t = bA lst := ⟨_, rfl⟩
    rw [← htl] at hix3
    have hsq : A.bnot (A.seq tl ⟨[].toArray⟩) = decide (lst ≠ []) := by
      subst hA htl; simp only [std]
      rw [Bool.eq_iff_iff]
      simp only [Bool.not_eq_true', decide_eq_true_eq, ne_eq]
      rw [← Bool.not_eq_true, seq_iff, bA_data]
    have hT1 : takeS frt0 0 rs = (⟨(a, b), (c, d), cs, os⟩, 0) := by rw [hT0]; cases j <;> rfl
    rw [hT1] at hWt
    simp only [ne_eq, not_true_eq_false, if_false] at hWt
    split <;> cbv
    · rename_i hq1
      have hq1 : rs.length = 0 := by have := hz0.symm.trans hq1; simpa using this
      have := fun H => hzero (A.vlen xs) 3 H (by rw [hvl, hWt, if_pos (.inl hq1)]; rfl)
      exact this _
    rename_i hq1
    have hq1 : ¬ rs.length = 0 := by have := hz0.symm.trans hq1; simpa using this
    refine Exists.intro _ (And.intro hix3 ?_); cbv
    split <;> cbv
    · rename_i hq2
      have hq2 : lst ≠ [] := by have := hsq.symm.trans hq2; simpa using this
      have := fun H => hzero (A.vlen xs) 3 H (by rw [hvl, hWt, if_pos (.inr hq2)]; rfl)
      exact this _
    rename_i hq2
    have hq2 : lst = [] := by have := hsq.symm.trans hq2; simpa using this
    rw [if_neg (by rintro (h | h); exact hq1 h; exact h hq2)] at hWt
    have hE1 : Elems 2 (cs.map sp) cc := by rw [hcc]; exact Elems_map (f := sp) (g := spC) (sz := 2) (fun _ => rfl) (fun _ => rfl) (fun _ => rfl) cs
    have hE2 : Elems 4 (os.map orV) oc := by rw [hoc]; exact Elems_map (f := orV) (g := orC) (sz := 4) (fun _ => rfl) (fun _ => rfl) (fun _ => rfl) os
    obtain ⟨zs, hzs⟩ : ∃ z, z = cs.map sp := ⟨_, rfl⟩
    obtain ⟨zo, hzo⟩ : ∃ z, z = os.map orV := ⟨_, rfl⟩
    rw [← hzs] at hE1
    rw [← hzo] at hE2
    refine Exists.intro zs (And.intro ⟨rfl, hE1, by rw [hzs, hn1]; simp⟩ ?_); cbv
    refine Exists.intro zo (And.intro ⟨rfl, hE2, by rw [hzo, hn2]; simp⟩ ?_); cbv
    refine Exists.intro cs (Exists.intro os (And.intro hzs (And.intro hzo (And.intro (by omega) (And.intro (by omega) ?_)))))
    intro q hqe; cbv
    have hne : A.ne q 0 = decide (q ≠ 0) := by subst hA; simp only [std, iNe]; rw [Bool.eq_iff_iff]; simp
    split <;> cbv
    · rename_i hq3
      have hq3 : q ≠ 0 := by have := hne.symm.trans hq3; simpa using this
      exact hzero 0 q _ (by rw [hWt, ← hqe, if_pos hq3])
    rename_i hq3
    have hq3 : ¬ q ≠ 0 := by have := hne.symm.trans hq3; simpa using this
    rw [← hqe, if_neg hq3] at hWt
    rw [hWt] at h
    rw [hF]
    exact frR_frees hn1 hn2 hcc hoc h
end Go.Sas
namespace Go.Sas
open Go.Proofs
set_option maxRecDepth 100000
theorem scat_ok {x y : List UInt8} (h : x.length + y.length ≤ 1000000000) : scatS (bA x) (bA y) (bA (x ++ y)) := by
  refine ⟨?_, ?_⟩
  · rw [bA_size, bA_size]; omega
  · apply ByteArray.ext
    rw [ByteArray.data_append]
    apply Array.ext'
    simp [bA]
theorem num_len {n : Int} (h : I64 n) : (Lib.itoa n).length ≤ 21 := by
  have := Lib.itoa_length_le n h.1 h.2
  omega
set_option maxHeartbeats 4000000 in
theorem p34 (wl : List UInt8) (l : List Int) (hw : wl.length ≤ 100) (hl : l.length ≤ 10) (hn : ∀ n ∈ l, I64 n) (H : AHeap) (hGH : Globs H) {Kk : AV → AHeap → Prop} (h : Kk (.lit (.string (bA (rowL wl l ++ [10])))) H) :
    ACalls Tryz.prog 34 [.lit (.string (bA wl)), .vs 1 (l.map I)] H Kk := by
  refine liftG hGH (by simp [AV.nid, AV.nidL]) (by rfl) ?_ h
  clear h hGH
  intro X1 X2 X3 X4 hG Kk h
  obtain ⟨xs, hxs⟩ : ∃ xs, xs = l.map I := ⟨_, rfl⟩
  obtain ⟨w0, hw0⟩ : ∃ w, w = bA wl := ⟨_, rfl⟩
  rw [← hxs, ← hw0]
  obtain ⟨A, hA⟩ : ∃ A, A = std := ⟨_, rfl⟩
  refine go34 rfl (AGo.weaken (SGo_run (R := RetH _ [X1, X2, X3, X4] Kk) hA ⟨[], [], [], (30, eItoa) :: []⟩ .nil (.cons eItoa_ok .nil) 200 fun T TD hT hTD => ?_) (fun _ _ _ h => RetH.p hG.ltH h) (by simp))
  cbv
  rw [hT]
  refine AGo_upE [1] l.length (fun j (s : List UInt8) => rowL wl l = s ++ (l.drop j).flatMap (fun n => 32 :: Lib.itoa n) ∧ s.length ≤ 100 + 22 * j) (fun _ s i => [(5, I i), (0, .lit (.string (bA s)))]) (fun _ _ => [X1, X2, X3, X4]) wl ⟨rfl, by omega⟩ ⟨rfl, congrArg (fun x => AV.lit (.string x)) hw0, trivial⟩ (.inl rfl) fun j s i hi hj hP Bk hB => ?_
  obtain ⟨hP1, hP2⟩ := hP
  have hlt : A.lt i (A.vlen xs) = decide (j < l.length) := by subst hA; exact lt_len (by simp [hxs]) hi
  have hadd : ∀ N, j < N → N ≤ 9223372036854775807 → A.add .i64 i 1 = iLen (j + 1) := fun N hj hN => by subst hA; exact add_one hi hj hN
  obtain ⟨sj, hsj⟩ : ∃ w, w = bA s := ⟨_, rfl⟩
  rw [← hsj]
  have hs1 : A.scat sj ⟨[32].toArray⟩ (bA (s ++ [32])) := by subst hA; rw [hsj]; exact scat_ok (y := [32]) (by simp; omega)
  obtain ⟨s1, hs1e⟩ : ∃ w, w = bA (s ++ [32]) := ⟨_, rfl⟩
  rw [← hs1e] at hs1
  have hs3 : A.scat sj ⟨[10].toArray⟩ (bA (s ++ [10])) := by subst hA; rw [hsj]; exact scat_ok (y := [10]) (by simp; omega)
  obtain ⟨s3, hs3e⟩ : ∃ w, w = bA (s ++ [10]) := ⟨_, rfl⟩
  rw [← hs3e] at hs3
  refine SGo_run hA ⟨[], [], [], (30, eItoa) :: []⟩ .nil (.cons eItoa_ok .nil) 200 fun T TD hT hTD => ?_
  cbv
  split <;> cbv
  · rename_i hk1
    have hlt1 : j < l.length := by have := hlt.symm.trans hk1; simpa using this
    obtain ⟨n, hx⟩ : ∃ x, l[j]? = some x := ⟨_, List.getElem?_eq_getElem hlt1⟩
    have hix : A.ix 1 1 xs i [I n] := by subst hA; exact ix_map hxs hi hx rfl
    have hadd := hadd l.length hlt1 (by omega)
    have hI := hn n (List.mem_of_getElem? hx)
    have hnl := num_len hI
    refine Exists.intro _ (And.intro hs1 ?_); cbv
    refine Exists.intro _ (And.intro hix ?_); cbv
    refine And.intro ⟨hG, hI⟩ fun tt htt => ?_
    have htt : tt = bA (Lib.itoa n) := htt.eq
    have hs2 : A.scat s1 tt (bA (s ++ [32] ++ Lib.itoa n)) := by subst hA; rw [hs1e, htt]; exact scat_ok (by simp; omega)
    obtain ⟨s2, hs2e⟩ : ∃ w, w = bA (s ++ [32] ++ Lib.itoa n) := ⟨_, rfl⟩
    rw [← hs2e] at hs2
    cbv
    refine Exists.intro _ (And.intro hs2 ?_); cbv
    refine hB (s ++ [32] ++ Lib.itoa n) _ _ hlt1 ⟨?_, by simp; omega⟩ ⟨congrArg I hadd, congrArg (fun x => AV.lit (.string x)) hs2e, trivial⟩ ⟨rfl, trivial⟩ (.inl rfl)
    rw [hP1, drop_cons hx]
    simp
  · rename_i hk1
    have hk1 : ¬ j < l.length := by have := hlt.symm.trans hk1; simpa using this
    rw [List.drop_eq_nil_of_le (by omega)] at hP1
    refine Exists.intro _ (And.intro hs3 ?_); cbv
    rw [hs3e]
    rw [hP1] at h
    have h : Kk (.lit (.string (bA (s ++ [10])))) [X1, X2, X3, X4] := by simpa using h
    exact h
structure RowPre (H : AHeap) (w : ByteArray) (xs : List AV) (l : List Int) : Prop where
  glob : Globs H
  xs : xs = l.map I
  wl : w.data.toList.length ≤ 100
  ll : l.length ≤ 10
  nl : ∀ n ∈ l, I64 n
structure RowIs (w : ByteArray) (l : List Int) (t : ByteArray) : Prop where
  eq : t = bA (rowL w.data.toList l ++ [10])
def eRowR : List AV → AHeap → Option PT
  | [.lit (.string w), .vs 1 xs], H => some fun K => ∃ l, RowPre H w xs l ∧ ∀ t, RowIs w l t → K (.lit (.string t)) H
  | _, _ => none
theorem eRowR_ok : ∀ args H pt, eRowR args H = some pt → ∀ (Kk : AV → AHeap → Prop), pt Kk → ACalls Tryz.prog 34 args H Kk := by
  intro args H pt h Kk hk
  unfold eRowR at h
  split at h
  · rename_i w xs
    cases h
    obtain ⟨l, ⟨hG, rfl, h1, h2, h3⟩, hk⟩ := hk
    have := p34 w.data.toList l h1 h2 h3 H hG (hk _ ⟨rfl⟩)
    rw [bA_of] at this
    exact this
  · cases h
theorem row_len {w : List UInt8} {l : List Int} (h : ∀ n ∈ l, I64 n) : (rowL w l ++ [10]).length ≤ w.length + 22 * l.length + 1 := by
  have := len_nums h
  simp only [rowL, List.length_append, List.length_cons, List.length_nil]
  omega
theorem glob_lt5 {X1 X2 X3 X4 : AObj} (hG : Globs [X1, X2, X3, X4]) {g : Nat} {cs : List AV} (hn : AV.nidL cs = true) : ltH 5 [X1, X2, X3, X4, .own g cs] := by
  obtain ⟨_, _, _, _, _, e, _, g2, m2, o2, g3, o3, g4, o4, e1, e2, e3, e4⟩ := hG.split
  cases e
  subst e1 e2 e3 e4
  simp [ltH, AObj.lt, rawG, rawT, AV.ltL, AV.lt, AV.ltL_nid hn]
set_option maxHeartbeats 4000000 in
theorem p10 (a b c d : Int) (cs : List (Int × Int)) (os : List Ord) (hcl : cs.length ≤ 9223372036854775807) (hol : os.length ≤ 9223372036854775807) (H : AHeap) (hGH : Globs H) {Kk : AV → AHeap → Prop}
    (h : Kk (.tup [.lit (.string (bA (if checkF ⟨(a, b), (c, d), cs, os⟩ = 0 then textS ⟨(a, b), (c, d), cs, os⟩ else []))), I (checkF ⟨(a, b), (c, d), cs, os⟩)]) H) :
    ACalls Tryz.prog 10 [frV a b c d (.vs 2 (cs.map sp)) (.vs 4 (os.map orV))] H Kk := by
  refine liftG hGH (by simp [AV.nid, AV.nidL]) (by rfl) ?_ h
  clear h hGH
  intro X1 X2 X3 X4 hG Kk h
  obtain ⟨xs, hxs⟩ : ∃ xs, xs = cs.map sp := ⟨_, rfl⟩
  obtain ⟨ys, hys⟩ : ∃ ys, ys = os.map orV := ⟨_, rfl⟩
  obtain ⟨f, hf⟩ : ∃ f : Frt, f = ⟨(a, b), (c, d), cs, os⟩ := ⟨_, rfl⟩
  rw [← hf] at h
  rw [← hxs, ← hys]
  obtain ⟨A, hA⟩ : ∃ A, A = std := ⟨_, rfl⟩
  have hne : ∀ q, A.ne q 0 = decide (q ≠ 0) := by subst hA; intro q; simp only [std, iNe]; rw [Bool.eq_iff_iff]; simp
  refine go10 rfl (AGo.weaken (SGo_run (R := RetH _ [X1, X2, X3, X4] Kk) hA ⟨[], [], (33, eCheckFr) :: [], (34, eRowR) :: []⟩ (.cons (eCheckFr_ok p33) .nil) (.cons eRowR_ok .nil) 200 fun T TD hT hTD => ?_) (fun _ _ _ h => RetH.p hG.ltH h) (by simp))
  cbv
  refine Exists.intro cs (Exists.intro os (And.intro hxs (And.intro hys (And.intro hcl (And.intro hol ?_)))))
  intro q hq; cbv
  rw [← hf] at hq
  split <;> cbv
  · rename_i hz
    have hz : q ≠ 0 := by have := (hne q).symm.trans hz; simpa using this
    rw [← hq, if_neg hz] at h
    exact h
  rename_i hz
  have hz : q = 0 := by have := (hne q).symm.trans hz; simpa using this
  subst hz
  have hV := checkF_ok hq.symm
  rw [if_pos hq.symm, ← hq] at h
  have hV2 := hV
  rw [hf] at hV2
  have n1 := hV2.c2
  have n2 := hV2.fi
  have n3 := hV2.la
  have n4 := hV2.o2
  dsimp only at n1 n2 n3 n4
  have hI4 : ∀ n ∈ [a, b, c, d], I64 n := mem_4 ⟨by omega, by omega⟩ ⟨by omega, by omega⟩ ⟨by omega, by omega⟩ ⟨by omega, by omega⟩
  have htx : textS f = (headR f ++ [10]) ++ (cs.flatMap (fun x => capR x ++ [10]) ++ os.flatMap (fun o => ordR o ++ [10])) := by
    rw [hf]
    simp [textS, rowsS, List.flatMap_append, List.flatMap_map]
  refine Exists.intro [a, b, c, d] (And.intro ⟨hG.app [_], rfl, by decide, by simp, hI4⟩ fun t0 ht0 => ?_)
  have ht0 : t0 = bA (headR f ++ [10]) := by rw [hf]; exact ht0.eq
  have hl0 : (headR f ++ [10]).length ≤ 200 := by
    have := row_len (w := seasonW) hI4
    rw [hf]
    simp only [headR, seasonW, List.length_cons, List.length_nil] at this ⊢
    omega
  cbv
  rw [hT]
  refine AGo_upE [1] cs.length (fun j (s : List UInt8) => textS f = s ++ ((cs.drop j).flatMap (fun x => capR x ++ [10]) ++ os.flatMap (fun o => ordR o ++ [10])) ∧ s.length ≤ 200 + 100 * j) (fun _ s i => [(6, I i), (5, .lit (.string (bA s)))])
    (fun _ _ => [X1, X2, X3, X4, .own 0 [I a, I b, I c, I d, .vs 2 xs, .vs 4 ys]]) (headR f ++ [10]) ⟨htx, hl0⟩ ⟨rfl, congrArg (fun x => AV.lit (.string x)) ht0, trivial⟩ (.inl rfl) fun j s i hi hj hP Bk hB => ?_
  obtain ⟨hP1, hP2⟩ := hP
  have hlt : A.lt i (A.vlen xs) = decide (j < cs.length) := by subst hA; exact lt_len (by simp [hxs]) hi
  have hadd : ∀ N, j < N → N ≤ 9223372036854775807 → A.add .i64 i 1 = iLen (j + 1) := fun N hj hN => by subst hA; exact add_one hi hj hN
  obtain ⟨sj, hsj⟩ : ∃ w, w = bA s := ⟨_, rfl⟩
  rw [← hsj]
  refine SGo_run hA ⟨[], [], (33, eCheckFr) :: [], (34, eRowR) :: []⟩ (.cons (eCheckFr_ok p33) .nil) (.cons eRowR_ok .nil) 200 fun T TD hT hTD => ?_
  cbv
  split <;> cbv
  · rename_i hk1
    have hlt1 : j < cs.length := by have := hlt.symm.trans hk1; simpa using this
    obtain ⟨⟨u, v⟩, hx⟩ : ∃ x, cs[j]? = some x := ⟨_, List.getElem?_eq_getElem hlt1⟩
    have hix : A.ix 2 2 xs i [I u, I v] := by subst hA; exact ix_map hxs hi hx rfl
    have hadd := hadd cs.length hlt1 (by omega)
    have hb := hV2.cb _ (List.mem_of_getElem? hx)
    dsimp only at hb
    have hI2 : ∀ n ∈ [u, v], I64 n := mem_2 ⟨by omega, by omega⟩ ⟨by omega, by omega⟩
    refine Exists.intro _ (And.intro hix ?_); cbv
    refine Exists.intro _ (And.intro hix ?_); cbv
    refine Exists.intro [u, v] (And.intro ⟨hG.app [_], rfl, by decide, by simp, hI2⟩ fun t1 ht1 => ?_)
    have ht1 : t1 = bA (capR (u, v) ++ [10]) := ht1.eq
    have hl1 := row_len (w := capW) hI2
    have hl1 : (capR (u, v) ++ [10]).length ≤ 100 := by
      simp only [capR, capW, List.length_cons, List.length_nil] at hl1 ⊢
      omega
    have hs2 : A.scat sj t1 (bA (s ++ (capR (u, v) ++ [10]))) := by subst hA; rw [hsj, ht1]; exact scat_ok (by omega)
    obtain ⟨s2, hs2e⟩ : ∃ w, w = bA (s ++ (capR (u, v) ++ [10])) := ⟨_, rfl⟩
    rw [← hs2e] at hs2
    cbv
    refine And.intro (by subst hA; exact .inr ⟨SubH.self _, trivial, .inr fun _ => SubH.self _⟩) ?_; cbv
    refine Exists.intro _ (And.intro hs2 ?_); cbv
    refine hB (s ++ (capR (u, v) ++ [10])) _ _ hlt1 ⟨?_, by rw [List.length_append]; omega⟩ ⟨congrArg I hadd, congrArg (fun x => AV.lit (.string x)) hs2e, trivial⟩ ⟨rfl, trivial⟩ (.inl rfl)
    rw [hP1, drop_cons hx]
    simp
  rename_i hk1
  have hk1 : ¬ j < cs.length := by have := hlt.symm.trans hk1; simpa using this
  rw [List.drop_eq_nil_of_le (by omega)] at hP1
  clear hlt hadd hB
  rw [hT]
  refine AGo_upE [1] os.length (fun j (s : List UInt8) => textS f = s ++ (os.drop j).flatMap (fun o => ordR o ++ [10]) ∧ s.length ≤ 20200 + 100 * j) (fun _ s i => [(7, I i), (5, .lit (.string (bA s)))])
    (fun _ _ => [X1, X2, X3, X4, .own 0 [I a, I b, I c, I d, .vs 2 xs, .vs 4 ys]]) s ⟨by simpa using hP1, by omega⟩ ⟨rfl, congrArg (fun x => AV.lit (.string x)) hsj, trivial⟩ (.inl rfl) fun j s i hi hj hP Bk hB => ?_
  obtain ⟨hP1, hP2⟩ := hP
  have hlt : A.lt i (A.vlen ys) = decide (j < os.length) := by subst hA; exact lt_len (by simp [hys]) hi
  have hadd : ∀ N, j < N → N ≤ 9223372036854775807 → A.add .i64 i 1 = iLen (j + 1) := fun N hj hN => by subst hA; exact add_one hi hj hN
  obtain ⟨sj, hsj⟩ : ∃ w, w = bA s := ⟨_, rfl⟩
  rw [← hsj]
  refine SGo_run hA ⟨[], [], (33, eCheckFr) :: [], (34, eRowR) :: []⟩ (.cons (eCheckFr_ok p33) .nil) (.cons eRowR_ok .nil) 200 fun T TD hT hTD => ?_
  cbv
  split <;> cbv
  · rename_i hk1
    have hlt1 : j < os.length := by have := hlt.symm.trans hk1; simpa using this
    obtain ⟨⟨ou, od, ol, ol2⟩, hx⟩ : ∃ x, os[j]? = some x := ⟨_, List.getElem?_eq_getElem hlt1⟩
    have hix : A.ix 4 4 ys i [I ou, I od, I ol, I ol2] := by subst hA; exact ix_map hys hi hx rfl
    have hadd := hadd os.length hlt1 (by omega)
    have hb := hV2.ob _ (List.mem_of_getElem? hx)
    dsimp only at hb
    have hI4 : ∀ n ∈ [ou, od, ol, ol2], I64 n := mem_4 ⟨by omega, by omega⟩ ⟨by omega, by omega⟩ ⟨by omega, by omega⟩ ⟨by omega, by omega⟩
    refine Exists.intro _ (And.intro hix ?_); cbv
    refine Exists.intro [ou, od, ol, ol2] (And.intro ⟨hG.app [_, _], rfl, by decide, by simp, hI4⟩ fun t1 ht1 => ?_)
    have ht1 : t1 = bA (ordR ⟨ou, od, ol, ol2⟩ ++ [10]) := ht1.eq
    have hl1 := row_len (w := orderW) hI4
    have hl1 : (ordR ⟨ou, od, ol, ol2⟩ ++ [10]).length ≤ 100 := by
      simp only [ordR, orderW, List.length_cons, List.length_nil] at hl1 ⊢
      omega
    have hs2 : A.scat sj t1 (bA (s ++ (ordR ⟨ou, od, ol, ol2⟩ ++ [10]))) := by subst hA; rw [hsj, ht1]; exact scat_ok (by omega)
    obtain ⟨s2, hs2e⟩ : ∃ w, w = bA (s ++ (ordR ⟨ou, od, ol, ol2⟩ ++ [10])) := ⟨_, rfl⟩
    rw [← hs2e] at hs2
    cbv
    refine Exists.intro _ (And.intro hs2 ?_); cbv
    refine hB (s ++ (ordR ⟨ou, od, ol, ol2⟩ ++ [10])) _ _ hlt1 ⟨?_, by rw [List.length_append]; omega⟩ ⟨congrArg I hadd, congrArg (fun x => AV.lit (.string x)) hs2e, trivial⟩ ⟨rfl, trivial⟩ (.inr ⟨⟨_, rfl⟩, by simp, by simp [ltG, keepS, look, gset, AV.lt, AV.ltL], glob_lt5 hG (by simp [AV.nidL, AV.nid])⟩)
    rw [hP1, drop_cons hx]
    simp
  · rename_i hk1
    have hk1 : ¬ j < os.length := by have := hlt.symm.trans hk1; simpa using this
    rw [List.drop_eq_nil_of_le (by omega)] at hP1
    have hP1 : textS f = s := by simpa using hP1
    rw [hP1, ← hsj] at h
    exact h
theorem eWriteR_ok : ∀ args H pt, eWriteF args H = some pt → ∀ (Kk : AV → AHeap → Prop), pt Kk → ACalls Tryz.prog 10 args H Kk := by
  intro args H pt h Kk hk
  unfold eWriteF at h
  split at h
  · cases h
    obtain ⟨cs, os, ⟨hG, rfl, rfl, hc, ho⟩, hk⟩ := hk
    exact p10 _ _ _ _ cs os hc ho H hG (hk _ _ ⟨rfl, rfl⟩)
  · cases h
end Go.Sas
