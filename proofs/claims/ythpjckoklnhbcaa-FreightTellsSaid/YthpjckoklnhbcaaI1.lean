/-
Freight: the reference's check of a way: contract.
Freight: the reference's Tell and Bills, a copy of a way, deliveries compared: contracts.
Freight: the reference's bills: contract.
Conditions: none.
-/
import Derived.Test.YthpjckoklnhbcaaHT
import Derived.Test.YthpjckoklnhbcaaHD
import Derived.Test.YthpjckoklnhbcaaHO
import Derived.Test.YthpjckoklnhbcaaQG67
set_option linter.unusedVariables false
set_option linter.unusedSimpArgs false
namespace Go.Sas
open Go.Proofs
set_option maxRecDepth 100000
/-- what is wrong with a way in a winter that is valid -/
def wayE (f : Frt) (w : Win) (way : List (List Int)) : Int :=
  if way.length ≠ f.ords.length ∨ (way.any fun r => decide (r.length ≠ f.caps.length)) = true then 3 else
  if (way.all fun r => r.all okE) = false then 2 else
  if ((List.range f.caps.length).all fun d => decide (colS way d ≤ roomW w d)) = false then 12 else
  if ((way.zip f.ords).all fun p => decide (sumI p.1 ≤ p.2.u)) = false then 14 else 0
theorem wayE_eq {f : Frt} {w : Win} {way : List (List Int)} (h : checkWinterS f w = 0) : checkWayS f w way = wayE f w way := by
  unfold checkWayS wayE; rw [if_neg (by simp [h])]
theorem any_take {α : Type} {p : α → Bool} {l : List α} {j : Nat} {x : α} (hx : l[j]? = some x) : (l.take (j + 1)).any p = ((l.take j).any p || p x) := by
  obtain ⟨h, rfl⟩ := List.getElem?_eq_some_iff.1 hx
  rw [List.take_succ_eq_append_getElem h, List.any_append]; simp
theorem all_take {α : Type} {p : α → Bool} {l : List α} {j : Nat} {x : α} (hx : l[j]? = some x) : (l.take (j + 1)).all p = ((l.take j).all p && p x) := by
  obtain ⟨h, rfl⟩ := List.getElem?_eq_some_iff.1 hx
  rw [List.take_succ_eq_append_getElem h, List.all_append]; simp
set_option maxHeartbeats 4000000 in
theorem p100 (a b c d u v : Int) (cs : List (Int × Int)) (os : List Ord) (ws : List Int) (way : List (List Int)) (hD : ws.length = cs.length) (hD2 : cs.length ≤ 200) (hn6 : os.length ≤ 6) (hy : way.length ≤ 9223372036854775807) (hr : ∀ r ∈ way, r.length ≤ 9223372036854775807) (H : AHeap) {Kk : AV → AHeap → Prop} (h : Kk (I (wayE ⟨(a, b), (c, d), cs, os⟩ ⟨u, v, ws⟩ way)) H) :
    ACalls Try.prog 100 [frV a b c d (.vs 2 (cs.map sp)) (.vs 4 (os.map orV)), winV u v (.vs 1 (ws.map I)), .vs 1 (way.map fun r => .vs 1 (r.map I))] H Kk := by
  refine (fun q => pureC (by rfl) (by rfl) q H h) ?_
  clear h
  intro Kk h
  obtain ⟨xs, hxs⟩ : ∃ xs, xs = cs.map sp := ⟨_, rfl⟩
  obtain ⟨ys, hys⟩ : ∃ ys, ys = os.map orV := ⟨_, rfl⟩
  obtain ⟨zs, hzs⟩ : ∃ ys, ys = ws.map I := ⟨_, rfl⟩
  obtain ⟨rs, hrs⟩ : ∃ rs : List AV, rs = way.map fun r => .vs 1 (r.map I) := ⟨_, rfl⟩
  rw [← hxs, ← hys, ← hzs, ← hrs]
  obtain ⟨W, hW⟩ : ∃ W, W = wayE ⟨(a, b), (c, d), cs, os⟩ ⟨u, v, ws⟩ way := ⟨_, rfl⟩
  rw [← hW] at h
  obtain ⟨D, hDD⟩ : ∃ D, D = cs.length := ⟨_, rfl⟩
  obtain ⟨N, hN⟩ : ∃ N, N = os.length := ⟨_, rfl⟩
  obtain ⟨M, hM⟩ : ∃ M, M = way.length := ⟨_, rfl⟩
  unfold wayE at hW
  dsimp only at hW
  rw [← hDD, ← hN, ← hM] at hW
  rw [← hDD] at hD hD2
  rw [← hN] at hn6
  rw [← hM] at hy
  obtain ⟨A, hA⟩ : ∃ A, A = std := ⟨_, rfl⟩
  have hne : ∀ x y, A.ne x y = decide (x ≠ y) := by subst hA; intro x y; simp only [std, iNe]; rw [Bool.eq_iff_iff]; simp
  have hee : ∀ x y, A.eq x y = decide (x = y) := by subst hA; intro x y; exact iEq_dec _ _
  have hll : ∀ x y, A.lt x y = decide (x < y) := by subst hA; intro x y; rfl
  have hle : ∀ x y, A.le x y = decide (x ≤ y) := by subst hA; intro x y; rfl
  have hnb : ∀ b, A.bnot b = !b := by subst hA; intro b; rfl
  have hbd : ∀ x y, A.band x y = (x && y) := by subst hA; intro x y; rfl
  have hsg : ∀ g, A.sg g g := by subst hA; exact fun _ => rfl
  have hvr : A.vlen rs = iLen M := by subst hA; simp [std, hrs, hM]
  have hvo : A.vlen ys = iLen N := by subst hA; simp [std, hys, hN]
  have hvz : A.vlen zs = iLen D := by subst hA; simp [std, hzs, hD]
  refine go100 rfl (SGo_run hA ⟨[], [], [], []⟩ .nil .nil 200 fun T TD hT hTD => ?_)
  cbv
  have z1 : A.ne (A.vlen rs) (A.vlen ys) = decide (M ≠ N) := by rw [hvr, hvo, hne, decide_eq_decide]; unfold iLen; omega
  split <;> cbv
  · rename_i hz
    have hz := of_decide_eq_true (z1.symm.trans hz)
    rw [if_pos (.inl hz)] at hW
    exact leaf h (congrArg I hW) rfl
  rename_i hz
  have hz := of_decide_eq_false (z1.symm.trans hz)
  have hMN : M = N := Decidable.of_not_not hz
  subst hMN
  have hW : W = if (way.any fun r => decide (r.length ≠ D)) = true then 3 else if (way.all fun r => r.all okE) = false then 2 else
      if ((List.range D).all fun d => decide (colS way d ≤ roomW ⟨u, v, ws⟩ d)) = false then 12 else if ((way.zip os).all fun p => decide (sumI p.1 ≤ p.2.u)) = false then 14 else 0 := by
    rw [hW]
    by_cases h9 : (way.any fun r => decide (r.length ≠ D)) = true
    · rw [if_pos (.inr h9), if_pos h9]
    · rw [if_neg (by rw [not_or]; exact ⟨fun h8 => h8 rfl, h9⟩), if_neg h9]
  clear hz z1
  have hpos : ∀ (j : Nat) (i : Int), i = iLen j → A.lt i (A.vlen rs) = decide (j < M) := fun j i hi => by rw [hvr, hll, hi, decide_eq_decide]; unfold iLen; omega
  rw [hT]
  refine AGo_upE [2, 3, 4] M (fun j (_ : Unit) => ((way.take j).any fun r => decide (r.length ≠ D)) = false) (fun j _ i => [(7, I i)]) (fun _ _ => [.own 0 [I a, I b, I c, I d, .vs 2 xs, .vs 4 ys], .own 0 [I u, I v, .vs 1 zs]]) () (by simp) ⟨rfl, trivial⟩ (.inl rfl) fun j _ i hi hj hP Bk hB => ?_
  have hlt := hpos j i hi
  have hadd : ∀ N, j < N → N ≤ 9223372036854775807 → A.add .i64 i 1 = iLen (j + 1) := fun N hj hN => by subst hA; exact add_one hi hj hN
  clear hT hTD T TD
  refine SGo_run hA ⟨[], [], [], []⟩ .nil .nil 200 fun T TD hT hTD => ?_
  cbv
  split <;> cbv
  · rename_i hk0
    have hk1 : j < M := by have hz := hlt.symm.trans hk0; simpa using hz
    clear hk0
    obtain ⟨r, hx⟩ : ∃ x, way[j]? = some x := ⟨_, List.getElem?_eq_getElem (by omega)⟩
    obtain ⟨rv, hrv⟩ : ∃ x, x = r.map I := ⟨_, rfl⟩
    have hix : A.ix 1 1 rs i [.vs 1 rv] := by subst hA; rw [hrv]; exact ix_map (f := fun r : List Int => AV.vs 1 (r.map I)) hrs hi hx rfl
    have hrl := hr r (List.mem_of_getElem? hx)
    have hvv : A.vlen rv = iLen r.length := by subst hA; simp [std, hrv]
    have z2 : A.ne (A.vlen rv) (A.vlen zs) = decide (r.length ≠ D) := by rw [hvv, hvz, hne, decide_eq_decide]; unfold iLen; omega
    refine Exists.intro _ (And.intro hix ?_); cbv
    split <;> cbv
    · rename_i hz
      have hz := of_decide_eq_true (z2.symm.trans hz)
      have hbad : (way.any fun r => decide (r.length ≠ D)) = true := by rw [List.any_eq_true]; exact ⟨r, List.mem_of_getElem? hx, decide_eq_true hz⟩
      rw [if_pos hbad] at hW
      exact leaf h (congrArg I hW) rfl
    · rename_i hz
      have hz := of_decide_eq_false (z2.symm.trans hz)
      exact hB () _ _ hk1 (by rw [any_take hx, hP]; simpa using hz) ⟨congrArg I (hadd _ hk1 (by omega)), trivial⟩ ⟨rfl, rfl, rfl, trivial⟩ (.inl rfl)
  rename_i hk0
  have hk1 : ¬ j < M := by have hz := hlt.symm.trans hk0; simpa using hz
  clear hk0
  rw [List.take_of_length_le (by omega)] at hP
  rw [if_neg (by rw [hP]; simp)] at hW
  have hlen : ∀ r ∈ way, r.length = D := fun r hr => by
    rw [List.any_eq_false] at hP
    have := hP r hr
    simpa using this
  clear hB hadd hlt hP hr
  rw [hT]
  refine AGo_upE [2, 3, 4] M (fun j (_ : Unit) => ((way.take j).all fun r => r.all okE) = true) (fun j _ i => [(8, I i)]) (fun _ _ => [.own 0 [I a, I b, I c, I d, .vs 2 xs, .vs 4 ys], .own 0 [I u, I v, .vs 1 zs]]) () (by simp) ⟨rfl, trivial⟩ (.inl rfl) fun j1 _ i1 hi1 hj1 hP Bk hB => ?_
  have hlt := hpos j1 i1 hi1
  have hadd : ∀ N, j1 < N → N ≤ 9223372036854775807 → A.add .i64 i1 1 = iLen (j1 + 1) := fun N hj hN => by subst hA; exact add_one hi1 hj hN
  clear hT hTD T TD
  refine SGo_run hA ⟨[], [], [], []⟩ .nil .nil 200 fun T TD hT hTD => ?_
  cbv
  split <;> cbv
  · rename_i hz
    have hk1 : j1 < M := of_decide_eq_true (hlt.symm.trans hz)
    obtain ⟨r, hx⟩ : ∃ x, way[j1]? = some x := ⟨_, List.getElem?_eq_getElem (by omega)⟩
    obtain ⟨rv, hrv⟩ : ∃ x, x = r.map I := ⟨_, rfl⟩
    have hix : A.ix 1 1 rs i1 [.vs 1 rv] := by subst hA; rw [hrv]; exact ix_map (f := fun r : List Int => AV.vs 1 (r.map I)) hrs hi1 hx rfl
    have hrl := hlen r (List.mem_of_getElem? hx)
    have hvv : A.vlen rv = iLen D := by subst hA; simp [std, hrv, hrl]
    rw [hT]
    refine AGo_upE [2, 3, 4, 8] D (fun y (_ : Unit) => ((r.take y).all okE) = true) (fun y _ i => [(9, I i)]) (fun _ _ => [.own 0 [I a, I b, I c, I d, .vs 2 xs, .vs 4 ys], .own 0 [I u, I v, .vs 1 zs]]) () (by simp) ⟨rfl, trivial⟩ (.inl rfl) fun y _ i2 hi2 hy2 hP2 Bk2 hB2 => ?_
    have hlt2 : A.lt i2 (A.vlen rv) = decide (y < D) := by rw [hvv, hll, hi2, decide_eq_decide]; unfold iLen; omega
    have hadd2 : ∀ N, y < N → N ≤ 9223372036854775807 → A.add .i64 i2 1 = iLen (y + 1) := fun N hj hN => by subst hA; exact add_one hi2 hj hN
    clear hT hTD T TD
    refine SGo_run hA ⟨[], [], (67, eIn) :: [], []⟩ (.cons (eIn_ok p67) .nil) .nil 200 fun T TD hT hTD => ?_
    cbv
    refine Exists.intro _ (And.intro hix ?_); cbv
    split <;> cbv
    · rename_i hz2
      have hk2 : y < D := of_decide_eq_true (hlt2.symm.trans hz2)
      obtain ⟨x, hxy⟩ : ∃ x, r[y]? = some x := ⟨_, List.getElem?_eq_getElem (by omega)⟩
      have hiy : A.ix 1 1 rv i2 [I x] := by subst hA; exact ix_map hrv hi2 hxy rfl
      refine Exists.intro _ (And.intro hix ?_); cbv
      refine Exists.intro _ (And.intro hiy ?_); cbv
      intro q hq; cbv
      have hq : q = okE x := hq
      have z3 : A.bnot q = !q := hnb q
      cases q with
      | false =>
        have z4 : A.bnot false = true := z3
        split <;> first | (rename_i hz; exact Bool.noConfusion (hz.symm.trans z4)) | cbv
        have hbad : (way.all fun r => r.all okE) = false := by
          rw [List.all_eq_false]
          refine ⟨r, List.mem_of_getElem? hx, ?_⟩
          rw [Bool.not_eq_true, List.all_eq_false]
          exact ⟨x, List.mem_of_getElem? hxy, by rw [← hq]; simp⟩
        rw [if_pos hbad] at hW
        exact leaf h (congrArg I hW) rfl
      | true =>
        have z4 : A.bnot true = false := z3
        split <;> first | (rename_i hz; exact Bool.noConfusion (hz.symm.trans z4)) | cbv
        exact hB2 () _ _ hk2 (by rw [all_take hxy, hP2, ← hq]; rfl) ⟨congrArg I (hadd2 _ hk2 (by omega)), trivial⟩ ⟨rfl, rfl, rfl, rfl, trivial⟩ (.inl rfl)
    · rename_i hz2
      have hk2 : ¬ y < D := of_decide_eq_false (hlt2.symm.trans hz2)
      rw [List.take_of_length_le (by omega)] at hP2
      exact hB () _ _ hk1 (by rw [all_take hx, hP]; simpa using hP2) ⟨congrArg I (hadd _ hk1 (by omega)), trivial⟩ ⟨rfl, rfl, rfl, trivial⟩ (.inl rfl)
  rename_i hz
  have hk1 : ¬ j1 < M := of_decide_eq_false (hlt.symm.trans hz)
  rw [List.take_of_length_le (by omega)] at hP
  rw [if_neg (by rw [hP]; simp)] at hW
  have hok : ∀ r ∈ way, ∀ x ∈ r, 0 ≤ x ∧ x ≤ 1000000 := fun r hr x hx => by
    rw [List.all_eq_true] at hP
    have h1 := hP r hr
    rw [List.all_eq_true] at h1
    exact okE_bnd (h1 x hx)
  clear hB hadd hlt hP
  rw [hT]
  refine AGo_upE [2, 3, 4] D (fun y (_ : Unit) => ((List.range y).all fun d => decide (colS way d ≤ roomW ⟨u, v, ws⟩ d)) = true) (fun j _ i => [(10, I i)]) (fun _ _ => [.own 0 [I a, I b, I c, I d, .vs 2 xs, .vs 4 ys], .own 0 [I u, I v, .vs 1 zs]]) () (by simp) ⟨rfl, trivial⟩ (.inl rfl) fun y _ i1 hi1 hy1 hP Bk hB => ?_
  have hlt : A.lt i1 (A.vlen zs) = decide (y < D) := by rw [hvz, hll, hi1, decide_eq_decide]; unfold iLen; omega
  have hadd : ∀ N, y < N → N ≤ 9223372036854775807 → A.add .i64 i1 1 = iLen (y + 1) := fun N hj hN => by subst hA; exact add_one hi1 hj hN
  clear hT hTD T TD
  refine SGo_run hA ⟨[], [], [], []⟩ .nil .nil 200 fun T TD hT hTD => ?_
  cbv
  split <;> cbv
  · rename_i hz
    have hk1 : y < D := of_decide_eq_true (hlt.symm.trans hz)
    rw [hT]
    have hcb : ∀ j, 0 ≤ colS (way.take j) y ∧ colS (way.take j) y ≤ 6000000 := fun j => by
      have := sumI_bnd (lo := 0) (hi := 1000000) (l := (way.take j).map fun r => r.getD y 0) fun x hx => by
        obtain ⟨r, hr, rfl⟩ := List.mem_map.1 hx
        have hrm := List.mem_of_mem_take hr
        exact hok r hrm _ (by rw [List.getD_eq_getElem?_getD, List.getElem?_eq_getElem (by rw [hlen r hrm]; exact hk1)]; exact List.getElem_mem _)
      rw [List.length_map, List.length_take] at this
      unfold colS; omega
    refine AGo_upE [2, 3, 4, 10] M (fun _ (_ : Unit) => True) (fun j _ i => [(11, I (colS (way.take j) y)), (12, I i)]) (fun _ _ => [.own 0 [I a, I b, I c, I d, .vs 2 xs, .vs 4 ys], .own 0 [I u, I v, .vs 1 zs]]) () trivial ⟨congrArg I (by simp [colS, sumI]), rfl, trivial⟩ (.inl rfl) fun j2 _ i2 hi2 hj2 _ Bk2 hB2 => ?_
    have hlt2 := hpos j2 i2 hi2
    have hadd2 : ∀ N, j2 < N → N ≤ 9223372036854775807 → A.add .i64 i2 1 = iLen (j2 + 1) := fun N hj hN => by subst hA; exact add_one hi2 hj hN
    obtain ⟨cj, hcj⟩ : ∃ x, x = colS (way.take j2) y := ⟨_, rfl⟩
    have hcb2 := hcb j2
    rw [← hcj] at hcb2 ⊢
    clear hT hTD T TD
    refine SGo_run hA ⟨[], [], (111, eMay) :: [], []⟩ (.cons eMay_ok .nil) .nil 200 fun T TD hT hTD => ?_
    cbv
    split <;> cbv
    · rename_i hz2
      have hk2 : j2 < M := of_decide_eq_true (hlt2.symm.trans hz2)
      obtain ⟨r, hx⟩ : ∃ x, way[j2]? = some x := ⟨_, List.getElem?_eq_getElem (by omega)⟩
      obtain ⟨rv, hrv⟩ : ∃ x, x = r.map I := ⟨_, rfl⟩
      have hix : A.ix 1 1 rs i2 [.vs 1 rv] := by subst hA; rw [hrv]; exact ix_map (f := fun r : List Int => AV.vs 1 (r.map I)) hrs hi2 hx rfl
      have hrm := List.mem_of_getElem? hx
      obtain ⟨x, hxy⟩ : ∃ x, r[y]? = some x := ⟨_, List.getElem?_eq_getElem (by rw [hlen r hrm]; exact hk1)⟩
      have hxb := hok r hrm x (List.mem_of_getElem? hxy)
      have hiy : A.ix 1 1 rv i1 [I x] := by subst hA; exact ix_map hrv hi1 hxy rfl
      have hnew : A.add .i64 cj x = colS (way.take (j2 + 1)) y := by
        have e : way.take (j2 + 1) = way.take j2 ++ [r] := by
          obtain ⟨h8, rfl⟩ := List.getElem?_eq_some_iff.1 hx
          exact List.take_succ_eq_append_getElem h8
        rw [e, colS_app, ← hcj]
        have : colS [r] y = x := by simp [colS, sumI, List.getD_eq_getElem?_getD, hxy]
        rw [this]; subst hA; exact iAdd_id (by omega) (by omega)
      refine Exists.intro _ (And.intro hix ?_); cbv
      refine Exists.intro _ (And.intro hiy ?_); cbv
      exact hB2 () _ _ hk2 trivial ⟨congrArg I hnew, congrArg I (hadd2 _ hk2 (by omega)), trivial⟩ ⟨rfl, rfl, rfl, rfl, trivial⟩ (.inl rfl)
    · rename_i hz2
      have hk2 : ¬ j2 < M := of_decide_eq_false (hlt2.symm.trans hz2)
      rw [List.take_of_length_le (by omega)] at hcj
      refine Exists.intro ws (Exists.intro y (And.intro ⟨hzs, hi1, by omega⟩ ?_))
      intro rm hrm; cbv
      have z5 : A.lt rm cj = decide (rm < cj) := hll _ _
      split <;> cbv
      · rename_i hz3
        have hz3 := of_decide_eq_true (z5.symm.trans hz3)
        have hbad : ((List.range D).all fun d => decide (colS way d ≤ roomW ⟨u, v, ws⟩ d)) = false := by
          rw [List.all_eq_false]
          exact ⟨y, List.mem_range.2 hk1, by rw [← hrm, ← hcj]; simp; omega⟩
        rw [if_pos hbad] at hW
        exact leaf h (congrArg I hW) rfl
      · rename_i hz3
        have hz3 := of_decide_eq_false (z5.symm.trans hz3)
        refine hB () _ _ hk1 ?_ ⟨congrArg I (hadd _ hk1 (by omega)), trivial⟩ ⟨rfl, rfl, rfl, trivial⟩ (.inl rfl)
        rw [List.range_succ, List.all_append, hP]
        simp only [List.all_cons, List.all_nil, Bool.and_true, Bool.true_and, decide_eq_true_eq]
        rw [← hrm, ← hcj]; omega
  rename_i hz
  have hk1 : ¬ y < D := of_decide_eq_false (hlt.symm.trans hz)
  have hyD : y = D := by omega
  rw [hyD] at hP
  rw [if_neg (by rw [hP]; simp)] at hW
  clear hB hadd hlt
  rw [hT]
  obtain ⟨Z, hZ⟩ : ∃ Z, Z = way.zip os := ⟨_, rfl⟩
  have hZl : Z.length = M := by rw [hZ]; simp; omega
  rw [← hZ] at hW
  refine AGo_upE [2, 3] M (fun j (_ : Unit) => ((Z.take j).all fun p => decide (sumI p.1 ≤ p.2.u)) = true) (fun j _ i => [(13, I i)]) (fun _ _ => [.own 0 [I a, I b, I c, I d, .vs 2 xs, .vs 4 ys], .own 0 [I u, I v, .vs 1 zs]]) () (by simp) ⟨rfl, trivial⟩ (.inl rfl) fun j2 _ i2 hi2 hj2 hP2 Bk hB => ?_
  have hlt2 := hpos j2 i2 hi2
  have hadd2 : ∀ N, j2 < N → N ≤ 9223372036854775807 → A.add .i64 i2 1 = iLen (j2 + 1) := fun N hj hN => by subst hA; exact add_one hi2 hj hN
  clear hT hTD T TD
  refine SGo_run hA ⟨[], [], (102, eTotalB) :: [], []⟩ (.cons (eTotalB_ok p102) .nil) .nil 200 fun T TD hT hTD => ?_
  cbv
  split <;> cbv
  · rename_i hz2
    have hk2 : j2 < M := of_decide_eq_true (hlt2.symm.trans hz2)
    obtain ⟨r, hx⟩ : ∃ x, way[j2]? = some x := ⟨_, List.getElem?_eq_getElem (by omega)⟩
    obtain ⟨⟨ou, od, ol, ol2⟩, ho⟩ : ∃ x, os[j2]? = some x := ⟨_, List.getElem?_eq_getElem (by omega)⟩
    have hzp : Z[j2]? = some (r, ⟨ou, od, ol, ol2⟩) := by rw [hZ]; exact List.getElem?_zip_eq_some.2 ⟨hx, ho⟩
    obtain ⟨rv, hrv⟩ : ∃ x, x = r.map I := ⟨_, rfl⟩
    have hix : A.ix 1 1 rs i2 [.vs 1 rv] := by subst hA; rw [hrv]; exact ix_map (f := fun r : List Int => AV.vs 1 (r.map I)) hrs hi2 hx rfl
    have hio : A.ix 4 4 ys i2 [I ou, I od, I ol, I ol2] := by subst hA; exact ix_map hys hi2 ho rfl
    have hrm := List.mem_of_getElem? hx
    refine Exists.intro _ (And.intro hix ?_); cbv
    refine Exists.intro _ (And.intro hio ?_); cbv
    refine Exists.intro r (And.intro hrv (And.intro (by rw [hlen r hrm]; omega) (And.intro (fun x hx => by have := hok r hrm x hx; omega) ?_)))
    intro q hq; cbv
    have z6 : A.lt ou q = decide (ou < q) := hll _ _
    split <;> cbv
    · rename_i hz3
      have hz3 := of_decide_eq_true (z6.symm.trans hz3)
      have hbad : (Z.all fun p => decide (sumI p.1 ≤ p.2.u)) = false := by
        rw [List.all_eq_false]
        exact ⟨_, List.mem_of_getElem? hzp, by dsimp only; rw [← hq]; simp; omega⟩
      rw [if_pos hbad] at hW
      exact leaf h (congrArg I hW) rfl
    · rename_i hz3
      have hz3 := of_decide_eq_false (z6.symm.trans hz3)
      refine hB () _ _ hk2 ?_ ⟨congrArg I (hadd2 _ hk2 (by omega)), trivial⟩ ⟨rfl, rfl, trivial⟩ (.inl rfl)
      rw [all_take hzp, hP2]
      simp only [Bool.true_and, decide_eq_true_eq]
      rw [← hq]; omega
  · rename_i hz2
    have hk2 : ¬ j2 < M := of_decide_eq_false (hlt2.symm.trans hz2)
    rw [List.take_of_length_le (by omega)] at hP2
    rw [if_neg (by rw [hP2]; simp)] at hW
    exact leaf h (congrArg I hW) rfl
def eCheckWayR : List AV → Option ((AV → Prop) → Prop)
  | [.agg [.lit (.int .i64 a), .lit (.int .i64 b), .lit (.int .i64 c), .lit (.int .i64 d), .vs 2 xs, .vs 4 ys], .agg [.lit (.int .i64 u), .lit (.int .i64 v), .vs 1 zs], .vs 1 rs] =>
    some fun K => ∃ (cs : List (Int × Int)) (os : List Ord) (ws : List Int) (way : List (List Int)), (xs = cs.map sp ∧ ys = os.map orV ∧ zs = ws.map I ∧ (rs = way.map fun r => .vs 1 (r.map I)) ∧ ws.length = cs.length ∧ cs.length ≤ 200 ∧ os.length ≤ 6 ∧ way.length ≤ 9223372036854775807 ∧ ∀ r ∈ way, r.length ≤ 9223372036854775807) ∧ ∀ q, q = wayE ⟨(a, b), (c, d), cs, os⟩ ⟨u, v, ws⟩ way → K (I q)
  | _ => none
theorem eCheckWayR_ok : ∀ args pt, eCheckWayR args = some pt → ∀ (H : AHeap) (Kk : AV → AHeap → Prop), pt (fun r => Kk r H) → ACalls Try.prog 100 args H Kk := by
  intro args pt h H Kk hk
  unfold eCheckWayR at h
  split at h
  · cases h
    obtain ⟨cs, os, ws, way, ⟨rfl, rfl, rfl, rfl, h1, h2, h3, h4, h5⟩, h6⟩ := hk
    exact p100 _ _ _ _ _ _ cs os ws way h1 h2 h3 h4 h5 H (h6 _ rfl)
  · cases h
end Go.Sas
namespace Go.Sas
open Go.Proofs
set_option maxRecDepth 100000
deriving instance DecidableEq for Dlv
theorem p61 (l l' : List Dlv) (hl : l.length ≤ 9223372036854775807) (hl' : l'.length ≤ 9223372036854775807) (H : AHeap) {Kk : AV → AHeap → Prop} (h : Kk (B (decide (l = l'))) H) : ACalls Try.prog 61 [.vs 4 (l.map dlV), .vs 4 (l'.map dlV)] H Kk := by
  refine (fun q => pureC (by rfl) (by rfl) q H h) ?_
  clear h
  intro Kk h
  obtain ⟨A, hA⟩ : ∃ A, A = std := ⟨_, rfl⟩
  obtain ⟨xs, hxs⟩ : ∃ xs, xs = l.map dlV := ⟨_, rfl⟩
  obtain ⟨ys, hys⟩ : ∃ xs, xs = l'.map dlV := ⟨_, rfl⟩
  rw [← hxs, ← hys]
  obtain ⟨W, hW⟩ : ∃ W, W = decide (l = l') := ⟨_, rfl⟩
  rw [← hW] at h
  have hn : A.ne (A.vlen xs) (A.vlen ys) = decide (l.length ≠ l'.length) := by
    subst hA hxs hys
    show (((l.map dlV).length : Int) != ((l'.map dlV).length : Int)) = _
    rw [Bool.eq_iff_iff]; simp only [List.length_map, bne_iff_ne, ne_eq, decide_eq_true_eq]; omega
  refine go61 rfl (SGo_run hA ⟨[], [], [], []⟩ .nil .nil 200 fun T TD hT hTD => ?_)
  cbv
  split <;> cbv
  · rename_i hq
    have hq := hn.symm.trans hq
    simp only [ne_eq, decide_eq_true_eq] at hq
    refine leaf h (congrArg B ?_) rfl
    rw [hW, decide_eq_false_iff_not]
    rintro rfl; exact hq rfl
  rename_i hq
  have hq := hn.symm.trans hq
  simp only [ne_eq, decide_eq_false_iff_not, Decidable.not_not] at hq
  rw [hT]
  refine AGo_up l.length (fun j => W = decide (l.drop j = l'.drop j)) (fun _ i => [(0, .vs 4 xs), (1, .vs 4 ys), (4, B false), (5, I i)]) (fun _ => []) hW ⟨rfl, rfl, rfl, rfl, trivial⟩ (.inl rfl) fun j i hi hj hP Bk hB => ?_
  have hlt : A.lt i (A.vlen xs) = decide (j < l.length) := by subst hA; exact lt_len (by simp [hxs]) hi
  have hadd : ∀ N, j < N → N ≤ 9223372036854775807 → A.add .i64 i 1 = iLen (j + 1) := fun N hj hN => by subst hA; exact add_one hi hj hN
  refine SGo_run hA ⟨[], [], [], []⟩ .nil .nil 200 fun T TD hT hTD => ?_
  cbv
  split <;> cbv
  · rename_i hk1
    have hk1 : j < l.length := by have := hlt.symm.trans hk1; simpa using this
    obtain ⟨⟨x, x', x'', x3⟩, hx⟩ : ∃ x, l[j]? = some x := ⟨_, List.getElem?_eq_getElem hk1⟩
    obtain ⟨⟨y, y', y'', y3⟩, hy⟩ : ∃ y, l'[j]? = some y := ⟨_, List.getElem?_eq_getElem (by omega)⟩
    have hix : A.ix 4 4 xs i [I x, I x', I x'', I x3] := by subst hA; exact ix_map hxs hi hx rfl
    have hiy : A.ix 4 4 ys i [I y, I y', I y'', I y3] := by subst hA; exact ix_map hys hi hy rfl
    rw [drop_cons hx, drop_cons hy] at hP
    refine Exists.intro _ (And.intro hix ?_)
    cbv
    refine Exists.intro _ (And.intro hiy ?_)
    cbv
    split <;> cbv
    · rename_i hz
      refine leaf h (congrArg B ?_) rfl
      rw [hP, decide_eq_false_iff_not]
      intro he
      injection he with he _
      clear hP hadd hlt hix hiy hB
      subst hA
      simp [std, iNe, iEq] at hz
      try simp at he
      first | exact hz he | exact hz.elim (fun h => h he.1) (fun h => h he.2) | omega
    · rename_i hz
      refine hB _ _ hk1 ?_ ⟨rfl, rfl, rfl, congrArg I (hadd _ hk1 (by omega)), trivial⟩ (.inl rfl)
      clear hadd hlt hix hiy hB
      subst hA
      simp [std, iNe, iEq] at hz
      rw [hP]
      simp [hz]
  · rename_i hk1
    have hk1 : ¬ j < l.length := by have := hlt.symm.trans hk1; simpa using this
    refine leaf h (congrArg B ?_) rfl
    rw [hP, List.drop_eq_nil_of_le (by omega), List.drop_eq_nil_of_le (by omega)]; rfl
theorem p58 (a b c d u v : Int) (cs : List (Int × Int)) (os : List Ord) (ws : List Int) (way : List (List Int)) (hc : cs.length ≤ 9223372036854775807) (ho : os.length ≤ 9223372036854775807) (hw : ws.length ≤ 9223372036854775807) (hy : way.length ≤ 9223372036854775807) (hr : ∀ r ∈ way, r.length ≤ 9223372036854775807) (H : AHeap) {Kk : AV → AHeap → Prop}
    (h : Kk (.tup [.vs 4 ((tellL ⟨(a, b), (c, d), cs, os⟩ ⟨u, v, ws⟩ way).map dlV), I (tellP ⟨(a, b), (c, d), cs, os⟩ ⟨u, v, ws⟩ way), I (checkWayS ⟨(a, b), (c, d), cs, os⟩ ⟨u, v, ws⟩ way)]) H) :
    ACalls Try.prog 58 [frV a b c d (.vs 2 (cs.map sp)) (.vs 4 (os.map orV)), winV u v (.vs 1 (ws.map I)), .vs 1 (way.map fun r => .vs 1 (r.map I))] H Kk := by
  refine (fun q => pureF (by rfl) (by rfl) q H h) ?_
  clear h
  intro Kk h
  obtain ⟨xs, hxs⟩ : ∃ xs, xs = cs.map sp := ⟨_, rfl⟩
  obtain ⟨ys, hys⟩ : ∃ ys, ys = os.map orV := ⟨_, rfl⟩
  obtain ⟨zs, hzs⟩ : ∃ ys, ys = ws.map I := ⟨_, rfl⟩
  obtain ⟨rs, hrs⟩ : ∃ rs : List AV, rs = way.map fun r => .vs 1 (r.map I) := ⟨_, rfl⟩
  rw [← hxs, ← hys, ← hzs, ← hrs]
  obtain ⟨W, hW⟩ : ∃ W, W = checkWayS ⟨(a, b), (c, d), cs, os⟩ ⟨u, v, ws⟩ way := ⟨_, rfl⟩
  unfold tellL tellP at h
  rw [← hW] at h
  obtain ⟨cw, hcw⟩ : ∃ z, z = checkWinterS ⟨(a, b), (c, d), cs, os⟩ ⟨u, v, ws⟩ := ⟨_, rfl⟩
  have hW1 : cw ≠ 0 → W = cw := fun h9 => by rw [hW]; unfold checkWayS; rw [← hcw, if_pos h9]
  have hW2 : cw = 0 → W = wayE ⟨(a, b), (c, d), cs, os⟩ ⟨u, v, ws⟩ way := fun h9 => by rw [hW, wayE_eq (by rw [← hcw, h9])]
  rw [winS_eq] at hcw
  obtain ⟨A, hA⟩ : ∃ A, A = std := ⟨_, rfl⟩
  have hne : ∀ x y, A.ne x y = decide (x ≠ y) := by subst hA; intro x y; simp only [std, iNe]; rw [Bool.eq_iff_iff]; simp
  have hee : ∀ x y, A.eq x y = decide (x = y) := by subst hA; intro x y; exact iEq_dec _ _
  have hll : ∀ x y, A.lt x y = decide (x < y) := by subst hA; intro x y; rfl
  have hle : ∀ x y, A.le x y = decide (x ≤ y) := by subst hA; intro x y; rfl
  have hnb : ∀ b, A.bnot b = !b := by subst hA; intro b; rfl
  have hbd : ∀ x y, A.band x y = (x && y) := by subst hA; intro x y; rfl
  have hsg : ∀ g, A.sg g g := by subst hA; exact fun _ => rfl
  obtain ⟨F, hF⟩ : ∃ F, F = Frees 0 Kk := ⟨_, rfl⟩
  rw [← hF]
  have herr : ∀ (q : Int) (T : AHeap), q ≠ 0 → W = q → F (.tup [.lit (.slice none 0 0), I 0, I q]) T := fun q T h1 h2 => by
    rw [if_pos (by rw [h2]; exact h1), if_pos (by rw [h2]; exact h1), h2] at h
    rw [hF]
    exact Frees.wk (r' := .tup [.vs 4 [], I 0, I q]) (Wk.tup ⟨Wk.nil, Wk.rfl, Wk.rfl, trivial⟩) (Frees.drop0 h rfl)
  refine go58 rfl (SGo_run hA ⟨[], [], (20, eCheckFr) :: (94, eCheckWinR) :: (100, eCheckWayR) :: (89, eTellRf) :: [], []⟩ (.cons (eCheckFr_ok p20) (.cons eCheckWinR_ok (.cons eCheckWayR_ok (.cons eTellRf_ok .nil)))) .nil 200 fun T TD hT hTD => ?_)
  cbv
  refine Exists.intro cs (Exists.intro os (And.intro hxs (And.intro hys (And.intro hc (And.intro ho ?_)))))
  intro q hq; cbv
  rw [← hq] at hcw
  have zq : A.ne q 0 = decide (q ≠ 0) := hne _ _
  split <;> cbv
  · rename_i hz
    have hz := of_decide_eq_true (zq.symm.trans hz)
    rw [if_pos hz] at hcw
    exact herr q _ hz ((hW1 (by rw [hcw]; exact hz)).trans hcw)
  rename_i hz
  have hz : q = 0 := by have hz := of_decide_eq_false (zq.symm.trans hz); simpa using hz
  rw [if_neg (by simp [hz])] at hcw
  rw [hz] at hq
  have hV := checkF_ok hq.symm
  refine Exists.intro cs (Exists.intro os (Exists.intro ws (And.intro ⟨hxs, hys, hzs, hc, hw⟩ ?_)))
  intro q1 hq1; cbv
  rw [← hq1] at hcw
  have zq1 : A.ne q1 0 = decide (q1 ≠ 0) := hne _ _
  split <;> cbv
  · rename_i hz2
    have hz2 := of_decide_eq_true (zq1.symm.trans hz2)
    exact herr q1 _ hz2 ((hW1 (by rw [hcw]; exact hz2)).trans hcw)
  rename_i hz2
  have hz2 : q1 = 0 := by have hz2 := of_decide_eq_false (zq1.symm.trans hz2); simpa using hz2
  have hW2 := hW2 (hcw.trans hz2)
  have hwv := (checkWinterS_ok (f := ⟨(a, b), (c, d), cs, os⟩) (w := ⟨u, v, ws⟩) (by rw [winS_eq, if_neg (by rw [← hq]; simp)]; exact (hq1.symm.trans hz2))).2
  have hwl := hwv.len
  have hc2 := hV.c2
  have ho2 := hV.o2
  dsimp only at hwl hc2 ho2
  refine Exists.intro cs (Exists.intro os (Exists.intro ws (Exists.intro way (And.intro ⟨hxs, hys, hzs, hrs, hwl, hc2, ho2, hy, hr⟩ ?_))))
  intro q2 hq2; cbv
  rw [← hq2] at hW2
  have zq2 : A.ne q2 0 = decide (q2 ≠ 0) := hne _ _
  split <;> cbv
  · rename_i hz3
    have hz3 := of_decide_eq_true (zq2.symm.trans hz3)
    exact herr q2 _ hz3 hW2
  rename_i hz3
  have hz3 : q2 = 0 := by have hz3 := of_decide_eq_false (zq2.symm.trans hz3); simpa using hz3
  have hW0 : W = 0 := hW2.trans hz3
  have hck : checkWayS ⟨(a, b), (c, d), cs, os⟩ ⟨u, v, ws⟩ way = 0 := hW.symm.trans hW0
  have hWV := checkWay_way hck
  obtain ⟨_, hrv⟩ := checkWayS_ok hck
  have hwn := hWV.n
  dsimp only at hwn
  refine Exists.intro cs.length (Exists.intro os (Exists.intro way (And.intro ⟨hys, hrs⟩ (And.intro ⟨hc2, ho2, hV.ords, hrv, fun k o r h1 h2 => hWV.u (r, o) (List.mem_iff_getElem?.2 ⟨k, List.getElem?_zip_eq_some.2 ⟨h2, h1⟩⟩)⟩ ?_))))
  intro ds pn hds hpn; cbv
  rw [if_neg (by simp [hW0]), if_neg (by simp [hW0]), hW0] at h
  rw [hF, hds, hpn]
  exact Frees.drop0 h rfl
def eTellR : List AV → Option ((AV → Prop) → Prop)
  | [.agg [.lit (.int .i64 a), .lit (.int .i64 b), .lit (.int .i64 c), .lit (.int .i64 d), .vs 2 xs, .vs 4 ys], .agg [.lit (.int .i64 u), .lit (.int .i64 v), .vs 1 zs], .vs 1 rs] =>
    some fun K => ∃ (cs : List (Int × Int)) (os : List Ord) (ws : List Int) (way : List (List Int)), (xs = cs.map sp ∧ ys = os.map orV ∧ zs = ws.map I ∧ (rs = way.map fun r => .vs 1 (r.map I)) ∧ cs.length ≤ 9223372036854775807 ∧ os.length ≤ 9223372036854775807 ∧ ws.length ≤ 9223372036854775807 ∧ way.length ≤ 9223372036854775807 ∧ ∀ r ∈ way, r.length ≤ 9223372036854775807) ∧
      ∀ ds pn q, ds = (tellL ⟨(a, b), (c, d), cs, os⟩ ⟨u, v, ws⟩ way).map dlV → pn = tellP ⟨(a, b), (c, d), cs, os⟩ ⟨u, v, ws⟩ way → q = checkWayS ⟨(a, b), (c, d), cs, os⟩ ⟨u, v, ws⟩ way → K (.tup [.vs 4 ds, I pn, I q])
  | _ => none
theorem eTellR_ok : ∀ args pt, eTellR args = some pt → ∀ (H : AHeap) (Kk : AV → AHeap → Prop), pt (fun r => Kk r H) → ACalls Try.prog 58 args H Kk := by
  intro args pt h H Kk hk
  unfold eTellR at h
  split at h
  · cases h
    obtain ⟨cs, os, ws, way, ⟨rfl, rfl, rfl, rfl, h1, h2, h3, h4, h5⟩, h6⟩ := hk
    exact p58 _ _ _ _ _ _ cs os ws way h1 h2 h3 h4 h5 H (h6 _ _ _ rfl rfl rfl)
  · cases h
theorem p57 (way : List (List Int)) (hl : way.length ≤ 1000000) (hr : ∀ r ∈ way, r.length ≤ 1000000) (H : AHeap) {Kk : AV → AHeap → Prop} (h : Kk (.vs 1 (way.map fun r => .vs 1 (r.map I))) H) : ACalls Try.prog 57 [.vs 1 (way.map fun r => .vs 1 (r.map I))] H Kk := by
  refine (fun q => pureF (by rfl) (by rfl) q H h) ?_
  clear h
  intro Kk h
  obtain ⟨rs, hrs⟩ : ∃ rs : List AV, rs = way.map fun r => .vs 1 (r.map I) := ⟨_, rfl⟩
  rw [← hrs] at h ⊢
  obtain ⟨n, hn⟩ : ∃ n, n = way.length := ⟨_, rfl⟩
  have hrl : rs.length = n := by rw [hrs, List.length_map, hn]
  obtain ⟨A, hA⟩ : ∃ A, A = std := ⟨_, rfl⟩
  have hne : ∀ x y, A.ne x y = decide (x ≠ y) := by subst hA; intro x y; simp only [std, iNe]; rw [Bool.eq_iff_iff]; simp
  have hee : ∀ x y, A.eq x y = decide (x = y) := by subst hA; intro x y; exact iEq_dec _ _
  have hll : ∀ x y, A.lt x y = decide (x < y) := by subst hA; intro x y; rfl
  have hle : ∀ x y, A.le x y = decide (x ≤ y) := by subst hA; intro x y; rfl
  have hnb : ∀ b, A.bnot b = !b := by subst hA; intro b; rfl
  have hbd : ∀ x y, A.band x y = (x && y) := by subst hA; intro x y; rfl
  have hsg : ∀ g, A.sg g g := by subst hA; exact fun _ => rfl
  obtain ⟨F, hF⟩ : ∃ F, F = Frees 0 Kk := ⟨_, rfl⟩
  rw [← hF]
  have hvr : A.vlen rs = iLen n := by subst hA; simp [std, hrl]
  refine go57 rfl (SGo_run hA ⟨[], [], [], []⟩ .nil .nil 200 fun T TD hT hTD => ?_)
  cbv
  rw [hT]
  refine AGo_nilms 3 1 rfl ?_
  refine AGo_upE [0] n (fun _ (_ : Unit) => True) (fun j _ i => [(3, .ms 1 0 j 0 j), (4, I i)]) (fun j _ => [.own j (rs.take j)]) () trivial ⟨rfl, rfl, trivial⟩ (.inl rfl) fun j _ i hi hj _ Bk hB => ?_
  have hlt : A.lt i (A.vlen rs) = decide (j < n) := by rw [hvr, hll, hi, decide_eq_decide]; unfold iLen; omega
  have hadd : ∀ N, j < N → N ≤ 9223372036854775807 → A.add .i64 i 1 = iLen (j + 1) := fun N hj hN => by subst hA; exact add_one hi hj hN
  obtain ⟨c1, hc1⟩ : ∃ r, r = rs.take j := ⟨_, rfl⟩
  rw [← hc1]
  clear hT hTD T TD
  refine SGo_run hA ⟨[0], [], (37, eOwnI) :: [], []⟩ (.cons eOwnI_ok .nil) .nil 200 fun T TD hT hTD => ?_
  cbv
  split <;> cbv
  · rename_i hk0
    have hk1 : j < n := by have hz := hlt.symm.trans hk0; simpa using hz
    clear hk0
    obtain ⟨r, hx⟩ : ∃ x, way[j]? = some x := ⟨_, List.getElem?_eq_getElem (by omega)⟩
    obtain ⟨rv, hrv⟩ : ∃ x, x = r.map I := ⟨_, rfl⟩
    have hix : A.ix 1 1 rs i [.vs 1 rv] := by subst hA; rw [hrv]; exact ix_map (f := fun r : List Int => AV.vs 1 (r.map I)) hrs hi hx rfl
    refine Exists.intro _ (And.intro hix ?_); cbv
    refine Exists.intro r (And.intro ⟨hrv, hr r (List.mem_of_getElem? hx)⟩ ?_); cbv
    obtain ⟨c2, hc2⟩ : ∃ r, r = rs.take (j + 1) := ⟨_, rfl⟩
    have happ : A.app 1 1 24 c1 0 j [.vs 1 rv] c2 (j + 1) := by
      have e : c2 = c1 ++ [.vs 1 rv] := by
        rw [hc2, hc1, List.take_succ_eq_append_getElem (by omega)]
        congr 2
        have : rs[j]? = some (.vs 1 rv) := by rw [hrs, List.getElem?_map, hx, hrv]; rfl
        exact (List.getElem?_eq_some_iff.1 this).2
      rw [e]; subst hA; exact app_one (by rw [hc1, List.length_take]; omega) rfl (by omega)
    refine And.intro (hsg _) (Exists.intro c2 (Exists.intro (j + 1) (And.intro happ (And.intro rfl ?_)))); cbv
    exact hB () _ _ hk1 trivial ⟨rfl, congrArg I (hadd _ hk1 (by omega)), trivial⟩ ⟨rfl, trivial⟩ (.inl (by rw [hc2]))
  · rename_i hk0
    have hk1 : ¬ j < n := by have hz := hlt.symm.trans hk0; simpa using hz
    clear hk0
    have hjn : j = n := by omega
    rw [hF]
    have hE : Elems 1 rs c1 := by
      rw [hc1, List.take_of_length_le (by omega), hrs]
      have := Elems_map (f := fun r : List Int => AV.vs 1 (r.map I)) (g := fun r => [AV.vs 1 (r.map I)]) (sz := 1) (fun _ => rfl) (fun _ => rfl) (fun _ => rfl) way
      rw [flat_one] at this
      exact this
    refine Frees.frz 0 j 1 rs rfl hE ?_
    have e : AV.frz 0 j 1 rs (aTup [.ms 1 0 j 0 j]) = .vs 1 rs := frz_self (by omega)
    rw [e]
    exact Frees.drop0 h rfl
def eOwnWay : List AV → Option ((AV → Prop) → Prop)
  | [.vs 1 rs] => some fun K => ∃ way : List (List Int), (rs = way.map fun r => .vs 1 (r.map I)) ∧ way.length ≤ 1000000 ∧ (∀ r ∈ way, r.length ≤ 1000000) ∧ K (.vs 1 rs)
  | _ => none
theorem eOwnWay_ok : ∀ args pt, eOwnWay args = some pt → ∀ (H : AHeap) (Kk : AV → AHeap → Prop), pt (fun r => Kk r H) → ACalls Try.prog 57 args H Kk := by
  intro args pt h H Kk hk
  unfold eOwnWay at h
  split at h
  · cases h
    obtain ⟨way, rfl, h1, h2, h3⟩ := hk
    exact p57 way h1 h2 H h3
  · cases h
end Go.Sas
namespace Go.Sas
open Go.Proofs
set_option maxRecDepth 100000
set_option maxHeartbeats 4000000 in
theorem p60 (a b c d u v rate road : Int) (cs : List (Int × Int)) (os : List Ord) (ws : List Int) (way : List (List Int)) (hc : cs.length ≤ 9223372036854775807) (ho : os.length ≤ 9223372036854775807) (hw : ws.length ≤ 9223372036854775807) (hy : way.length ≤ 9223372036854775807) (hr : ∀ r ∈ way, r.length ≤ 9223372036854775807) (H : AHeap) {Kk : AV → AHeap → Prop}
    (h : Kk (.tup [.vs 1 ((billR ⟨(a, b), (c, d), cs, os⟩ ⟨u, v, ws⟩ way rate road).map I), I (billE ⟨(a, b), (c, d), cs, os⟩ ⟨u, v, ws⟩ way rate road)]) H) :
    ACalls Try.prog 60 [frV a b c d (.vs 2 (cs.map sp)) (.vs 4 (os.map orV)), winV u v (.vs 1 (ws.map I)), .vs 1 (way.map fun r => .vs 1 (r.map I)), I rate, I road] H Kk := by
  refine (fun q => pureF (by rfl) (by rfl) q H h) ?_
  clear h
  intro Kk h
  obtain ⟨xs, hxs⟩ : ∃ xs, xs = cs.map sp := ⟨_, rfl⟩
  obtain ⟨ys, hys⟩ : ∃ ys, ys = os.map orV := ⟨_, rfl⟩
  obtain ⟨zs, hzs⟩ : ∃ ys, ys = ws.map I := ⟨_, rfl⟩
  obtain ⟨rs, hrs⟩ : ∃ rs : List AV, rs = way.map fun r => .vs 1 (r.map I) := ⟨_, rfl⟩
  rw [← hxs, ← hys, ← hzs, ← hrs]
  obtain ⟨f, hf⟩ : ∃ f : Frt, f = ⟨(a, b), (c, d), cs, os⟩ := ⟨_, rfl⟩
  obtain ⟨wn, hwn⟩ : ∃ w : Win, w = ⟨u, v, ws⟩ := ⟨_, rfl⟩
  rw [← hf, ← hwn] at h
  obtain ⟨A, hA⟩ : ∃ A, A = std := ⟨_, rfl⟩
  have hne : ∀ x y, A.ne x y = decide (x ≠ y) := by subst hA; intro x y; simp only [std, iNe]; rw [Bool.eq_iff_iff]; simp
  have hee : ∀ x y, A.eq x y = decide (x = y) := by subst hA; intro x y; exact iEq_dec _ _
  have hll : ∀ x y, A.lt x y = decide (x < y) := by subst hA; intro x y; rfl
  have hle : ∀ x y, A.le x y = decide (x ≤ y) := by subst hA; intro x y; rfl
  have hnb : ∀ b, A.bnot b = !b := by subst hA; intro b; rfl
  have hbd : ∀ x y, A.band x y = (x && y) := by subst hA; intro x y; rfl
  have hsg : ∀ g, A.sg g g := by subst hA; exact fun _ => rfl
  obtain ⟨F, hF⟩ : ∃ F, F = Frees 0 Kk := ⟨_, rfl⟩
  rw [← hF]
  have hwr : ∀ e H, billE f wn way rate road = e → e ≠ 0 → F (aTup [.lit (.slice none 0 0), I e]) H := fun e H h1 h2 => by
    rw [hF]
    refine Frees.wk (r' := .tup [.vs 1 [], I e]) (Wk.tup ⟨Wk.nil, Wk.rfl, trivial⟩) (Frees.drop0 ?_ rfl)
    have h3 : billR f wn way rate road = [] := by unfold billR; rw [if_neg (by rw [h1]; exact h2)]
    rw [h3, h1] at h; exact h
  refine go60 rfl (SGo_run hA ⟨[], [], (58, eTellR) :: (67, eIn) :: [], []⟩ (.cons eTellR_ok (.cons (eIn_ok p67) .nil)) .nil 200 fun T TD hT hTD => ?_)
  cbv
  refine Exists.intro cs (Exists.intro os (Exists.intro ws (Exists.intro way (And.intro ⟨hxs, hys, hzs, hrs, hc, ho, hw, hy, hr⟩ ?_))))
  intro ds pn q _ _ hq; cbv
  rw [← hf, ← hwn] at hq
  have hzq : A.ne q 0 = decide (q ≠ 0) := hne _ _
  split <;> cbv
  · rename_i hz
    have hz := of_decide_eq_true (hzq.symm.trans hz)
    exact hwr q _ (by unfold billE; rw [if_pos (by rw [← hq]; exact hz), hq]) hz
  rename_i hz
  have hz : q = 0 := by have hz := of_decide_eq_false (hzq.symm.trans hz); simpa using hz
  rw [hz] at hq
  intro q1 hq1; cbv
  have hE : ∀ e, (if ¬ (0 ≤ rate ∧ rate ≤ 1000000) ∨ ¬ (0 ≤ road ∧ road ≤ 1000000000000) then 2 else 0) = e → billE f wn way rate road = e := fun e he => by
    unfold billE; rw [if_neg (by rw [← hq]; simp)]; exact he
  have z1 : A.bnot q1 = decide (¬ (0 ≤ rate ∧ rate ≤ 1000000)) := by rw [hnb, hq1]; exact (decide_not ..).symm
  by_cases hrt : 0 ≤ rate ∧ rate ≤ 1000000
  rotate_left
  · have z2 : A.bnot q1 = true := by rw [z1, decide_eq_true_eq]; exact hrt
    split <;> first | (rename_i hz; exact Bool.noConfusion (hz.symm.trans z2)) | cbv
    exact hwr 2 _ (hE 2 (if_pos (.inl hrt))) (by decide)
  have z2 : A.bnot q1 = false := by rw [z1, decide_eq_false_iff_not]; exact fun h => h hrt
  split <;> first | (rename_i hz; exact Bool.noConfusion (hz.symm.trans z2)) | cbv
  intro q2 hq2; cbv
  have z3 : A.bnot q2 = decide (¬ (0 ≤ road ∧ road ≤ 1000000000000)) := by rw [hnb, hq2]; exact (decide_not ..).symm
  split <;> cbv
  · rename_i hz4
    have hz4 := of_decide_eq_true (z3.symm.trans hz4)
    exact hwr 2 _ (hE 2 (if_pos (.inr hz4))) (by decide)
  rename_i hz4
  have hz4 := of_decide_eq_false (z3.symm.trans hz4)
  have hrd : 0 ≤ road ∧ road ≤ 1000000000000 := Decidable.of_not_not hz4
  have hE0 : billE f wn way rate road = 0 := hE 0 (if_neg (by rw [not_or]; exact ⟨fun h => h hrt, hz4⟩))
  clear hwr hE z1 z2 z3
  obtain ⟨hcw, _⟩ := checkWayS_ok hq.symm
  obtain ⟨hV, _⟩ := checkWinterS_ok hcw
  have hWV := checkWay_way hq.symm
  obtain ⟨hwts, hw6⟩ := way_wts hV hWV
  obtain ⟨us, hus⟩ : ∃ us, us = way.map sumI := ⟨_, rfl⟩
  rw [← hus] at hwts hw6
  obtain ⟨n, hn⟩ : ∃ n, n = way.length := ⟨_, rfl⟩
  have hul : us.length = n := by rw [hus, List.length_map, hn]
  have hD := hV.c2
  rw [hT]
  refine AGo_nilms 15 1 rfl ?_
  refine AGo_upE [2, 3, 4] n (fun _ (_ : Unit) => True) (fun j _ i => [(15, .ms 1 2 j 0 j), (16, I i)]) (fun j _ => [.own 0 [I a, I b, I c, I d, .vs 2 xs, .vs 4 ys], .own 0 [I u, I v, .vs 1 zs], .own j ((us.take j).map I)]) () trivial ⟨rfl, rfl, trivial⟩ (.inl rfl) fun j _ i hi hj _ Bk hB => ?_
  have hvl : A.vlen rs = iLen n := by subst hA; simp [std, hrs, hn]
  have hlt : A.lt i (A.vlen rs) = decide (j < n) := by rw [hvl, hll, hi, decide_eq_decide]; unfold iLen; omega
  have hadd : ∀ N, j < N → N ≤ 9223372036854775807 → A.add .i64 i 1 = iLen (j + 1) := fun N hj hN => by subst hA; exact add_one hi hj hN
  obtain ⟨c1, hc1⟩ : ∃ r, r = (us.take j).map I := ⟨_, rfl⟩
  rw [← hc1]
  clear hT hTD T TD
  refine SGo_run hA ⟨[2], [1000052], (102, eTotalB) :: [], []⟩ (.cons (eTotalB_ok p102) .nil) .nil 200 fun T TD hT hTD => ?_
  cbv
  split <;> cbv
  · rename_i hk0
    have hk1 : j < n := by have hz := hlt.symm.trans hk0; simpa using hz
    clear hk0
    obtain ⟨r, hx⟩ : ∃ x, way[j]? = some x := ⟨_, List.getElem?_eq_getElem (by omega)⟩
    have hrm := List.mem_of_getElem? hx
    obtain ⟨rv, hrv⟩ : ∃ x, x = r.map I := ⟨_, rfl⟩
    have hix : A.ix 1 1 rs i [.vs 1 rv] := by subst hA; rw [hrv]; exact ix_map (f := fun r : List Int => AV.vs 1 (r.map I)) hrs hi hx rfl
    refine Exists.intro _ (And.intro hix ?_); cbv
    refine Exists.intro r (And.intro hrv (And.intro (by have := hWV.d r hrm; omega) (And.intro (fun x hx => by have := hWV.b r hrm x hx; omega) ?_)))
    intro q3 hq3; cbv
    have hut : us.take (j + 1) = us.take j ++ [q3] := by
      rw [List.take_succ_eq_append_getElem (by omega)]
      congr 2
      have : us[j]? = some q3 := by rw [hus, List.getElem?_map, hx, hq3]; rfl
      exact (List.getElem?_eq_some_iff.1 this).2
    obtain ⟨d1, hd1⟩ : ∃ r, r = (us.take (j + 1)).map I := ⟨_, rfl⟩
    have ha1 : A.app 1 1 8 c1 0 j [I q3] d1 (j + 1) := by
      rw [hd1, hut, List.map_append, ← hc1]; subst hA; exact app_one (by rw [hc1, List.length_map, List.length_take]; omega) rfl (by omega)
    refine And.intro (hsg _) (Exists.intro d1 (Exists.intro (j + 1) (And.intro ha1 (And.intro rfl ?_)))); cbv
    exact hB () _ _ hk1 trivial ⟨rfl, congrArg I (hadd _ hk1 (by omega)), trivial⟩ ⟨rfl, rfl, rfl, trivial⟩ (.inl (by rw [hd1]))
  rename_i hk0
  have hk1 : ¬ j < n := by have hz := hlt.symm.trans hk0; simpa using hz
  clear hk0
  have hjn : j = n := by omega
  subst hjn
  rw [List.take_of_length_le (by omega)] at hc1
  clear hB hadd hlt
  rw [hT]
  obtain ⟨xu, hxu⟩ : ∃ x, x = us.map I := ⟨_, rfl⟩
  refine AGo_frzS 15 (id := 2) (g := j) (sz := 1) (n := j) (xs := xu) (cs := c1) rfl rfl (by rw [hxu, List.length_map, hul]) (by rw [hc1, hxu]; exact Elems_I _) ?_
  clear hT hTD T TD
  refine SGo_run hA ⟨[3], [], [], (99, eShareRM) :: []⟩ .nil (.cons eShareRM_ok .nil) 200 fun T TD hT hTD => ?_
  cbv
  refine Exists.intro us (Exists.intro j (And.intro ⟨hxu, hul.symm, hwts, hrd⟩ ?_))
  intro c2 hc2; cbv
  rw [hT]
  obtain ⟨sh, hsh⟩ : ∃ l, l = shareV road us := ⟨_, rfl⟩
  have hshl : sh.length = j := by rw [hsh, shareV_len, hul]
  have hshb : ∀ k, k < j → 0 ≤ sh.getD k 0 ∧ sh.getD k 0 ≤ 1000000000001 := fun k hk => by
    rw [hsh, share_get (by omega)]
    have := shB_bnd hwts hrd.1 ((shB road us).getD k 0) (by rw [List.getD_eq_getElem?_getD, List.getElem?_eq_getElem (by rw [shB_len]; omega)]; exact List.getElem_mem _)
    split <;> omega
  have hvl2 : A.vlen xu = iLen j := by subst hA; simp [std, hxu, hul]
  refine AGo_upE [3, 15, 17] j (fun _ (_ : Unit) => True) (fun t _ i => [(18, I i)]) (fun t _ => [.own 0 [I a, I b, I c, I d, .vs 2 xs, .vs 4 ys], .own 0 [I u, I v, .vs 1 zs], .gone, .own j ((billT rate us sh t).map I), .gone]) () trivial ⟨rfl, trivial⟩ (.inl (by rw [hc2, ← hsh, billT_zero])) fun t _ i2 hi2 ht _ Bk hB => ?_
  have hlj : A.len j = iLen j := by subst hA; rfl
  have hlt2 : A.lt i2 (A.len j) = decide (t < j) := by rw [hlj, hll, hi2, decide_eq_decide]; unfold iLen; omega
  have hadd2 : ∀ N, t < N → N ≤ 9223372036854775807 → A.add .i64 i2 1 = iLen (t + 1) := fun N hj hN => by subst hA; exact add_one hi2 hj hN
  obtain ⟨o1, ho1⟩ : ∃ r, r = (billT rate us sh t).map I := ⟨_, rfl⟩
  rw [← ho1]
  clear hT hTD T TD
  refine SGo_run hA ⟨[3], [], [], []⟩ .nil .nil 200 fun T TD hT hTD => ?_
  cbv
  refine And.intro (hsg _) ?_
  split <;> cbv
  · rename_i hz5
    have htj : t < j := of_decide_eq_true (hlt2.symm.trans hz5)
    obtain ⟨un, hun⟩ : ∃ x, us[t]? = some x := ⟨_, List.getElem?_eq_getElem (by omega)⟩
    have hub := hwts.2.2 un (List.mem_of_getElem? hun)
    have hix : A.ix 1 1 xu i2 [I un] := by subst hA; exact ix_map hxu hi2 hun rfl
    have hgd : us.getD t 0 = un := by rw [List.getD_eq_getElem?_getD, hun]; rfl
    obtain ⟨sv, hsv⟩ : ∃ x, x = sh.getD t 0 := ⟨_, rfl⟩
    have hsb := hshb t htj
    rw [← hsv] at hsb
    have hp0 : 0 ≤ rate * un := Int.mul_nonneg hrt.1 hub.1
    have hp1 : rate * un ≤ 1000000 * 1000000 := Int.mul_le_mul hrt.2 hub.2 hub.1 (by omega)
    have hmul : A.mul .i64 rate un = rate * un := by subst hA; exact iMul_id (by omega) (by omega)
    have hx2 : A.ixm 1 1 0 j i2 t := by subst hA; exact ixm1 hi2 htj
    have hg2 : A.get none o1 t (I sv) := by subst hA; rw [ho1, hsv]; exact getS_I (billT_get (by omega))
    obtain ⟨o2, ho2⟩ : ∃ r, r = (billT rate us sh (t + 1)).map I := ⟨_, rfl⟩
    have hav : A.add .i64 sv (A.mul .i64 rate un) = sv + rate * un := by rw [hmul]; subst hA; exact iAdd_id (by omega) (by omega)
    have hup : A.upd 1 o1 t [I (A.add .i64 sv (A.mul .i64 rate un))] o2 := by
      rw [hav, ho2, ho1, ← billT_set (by omega), hgd, hsv]; subst hA; exact updS_I (by rw [billT_len]; omega)
    refine And.intro (hsg _) (Exists.intro t (And.intro hx2 ?_)); cbv
    refine And.intro (hsg _) (Exists.intro _ (And.intro hg2 ?_)); cbv
    refine Exists.intro _ (And.intro hix ?_); cbv
    refine And.intro (hsg _) (Exists.intro t (And.intro hx2 ?_)); cbv
    refine And.intro (hsg _) (Exists.intro o2 (And.intro hup ?_)); cbv
    exact hB () _ _ htj trivial ⟨congrArg I (hadd2 _ htj (by omega)), trivial⟩ ⟨rfl, rfl, rfl, trivial⟩ (.inl (by rw [ho2]))
  · rename_i hz5
    have htj : ¬ t < j := of_decide_eq_false (hlt2.symm.trans hz5)
    have htj : t = j := by omega
    have hfin : billT rate us sh t = billR f wn way rate road := by
      unfold billR; rw [if_pos hE0, htj]; unfold billV; rw [← hus, ← hsh, ← hn]
    rw [hF]
    refine Frees.frz 3 j 1 ((billR f wn way rate road).map I) rfl (by rw [ho1, hfin]; exact Elems_I _) ?_
    have e : AV.frz 3 j 1 ((billR f wn way rate road).map I) (aTup [.ms 1 3 j 0 j, I 0]) = .tup [.vs 1 ((billR f wn way rate road).map I), I 0] := by
      have := frz_self (id := 3) (g := j) (sz := 1) (len := j) (xs := (billR f wn way rate road).map I) (by rw [List.length_map, ← hfin, billT_len, hshl])
      simp only [aTup, AV.frz, AV.frzL] at this ⊢
      rw [this]
    rw [e]
    rw [hE0] at h
    exact Frees.drop0 h rfl
end Go.Sas
