/-
Freight: the reference's bound: contract.
Conditions: none.
-/
import Derived.Test.YthpjckoklnhbcaaYB1
import Derived.Test.YthpjckoklnhbcaaYA
set_option linter.unusedVariables false
set_option linter.unusedSimpArgs false
namespace Go.Sas
open Go.Proofs
set_option maxRecDepth 100000
def eDearest : List AV → Option ((AV → Prop) → Prop)
  | [.vs 1 xs] => some fun K => ∃ vals : List Int, (xs = vals.map I ∧ vals.length ≤ 1000) ∧ ∀ rs, rs = (sortV (fun k => vals.getD k 0) (List.range vals.length)).map natI → K (.vs 1 rs)
  | _ => none
theorem eDearest_ok : ∀ args pt, eDearest args = some pt → ∀ (H : AHeap) (Kk : AV → AHeap → Prop), pt (fun r => Kk r H) → ACalls Try.prog 82 args H Kk := by
  intro args pt h H Kk hk
  unfold eDearest at h
  split at h
  · cases h
    obtain ⟨vals, ⟨rfl, h1⟩, h2⟩ := hk
    exact p82 _ h1 H (h2 _ rfl)
  · cases h
/-- the orders, and their places -/
theorem sort_ords {os : List Ord} {key : Ord → Int} {d : Ord} : (sortV (fun k => (os.map key).getD k 0) (List.range os.length)).map (fun k => os.getD k d) = sortV key os := by
  have h1 : sortV (fun k => (os.map key).getD k 0) (List.range os.length) = sortV (fun k => key (os.getD k d)) (List.range os.length) := by
    have key2 : ∀ (l s : List Nat), (∀ k ∈ l, k < os.length) → (∀ k ∈ s, k < os.length) →
        l.foldl (fun s x => insV (fun y => decide ((os.map key).getD y 0 < (os.map key).getD x 0)) x s) s = l.foldl (fun s x => insV (fun y => decide (key (os.getD y d) < key (os.getD x d))) x s) s := by
      intro l
      induction l with
      | nil => intro s _ _; rfl
      | cons x l ih =>
        intro s hl hs
        have hv : ∀ k, k < os.length → (os.map key).getD k 0 = key (os.getD k d) := fun k hk => by
          rw [List.getD_eq_getElem?_getD, List.getD_eq_getElem?_getD, List.getElem?_map, List.getElem?_eq_getElem hk]; rfl
        have hi : ∀ s : List Nat, (∀ k ∈ s, k < os.length) → insV (fun y => decide ((os.map key).getD y 0 < (os.map key).getD x 0)) x s = insV (fun y => decide (key (os.getD y d) < key (os.getD x d))) x s := by
          intro s
          induction s with
          | nil => intro _; rfl
          | cons y s ihs =>
            intro hs
            have e1 := hv y (hs y (by simp))
            have e2 := hv x (hl x (by simp))
            have e3 := ihs fun k hk => hs k (by simp [hk])
            simp only [insV, e3]
            simp only [e1, e2]
        rw [List.foldl_cons, List.foldl_cons, hi s hs]
        refine ih _ (fun k hk => hl k (by simp [hk])) fun k hk => ?_
        rcases insV_mem.1 hk with rfl | hk
        · exact hl k (by simp)
        · exact hs k hk
    unfold sortV
    rw [key2 _ _ (fun k hk => List.mem_range.1 hk) (fun k hk => by simp at hk)]
  rw [h1, sortV_map (f := fun k => os.getD k d) (key := fun k => key (os.getD k d)) (key' := key) (fun _ => rfl)]
  congr 1
  apply List.ext_getElem?
  intro i
  rw [List.getElem?_map]
  by_cases hi : i < os.length
  · rw [List.getElem?_range hi, List.getElem?_eq_getElem hi]; simp [List.getD_eq_getElem?_getD, List.getElem?_eq_getElem hi]
  · rw [List.getElem?_eq_none (by simp; omega), List.getElem?_eq_none (by omega)]; rfl
theorem minF_le {l : List Int} : ∀ {n : Int}, minF n l ≤ n ∧ ∀ x ∈ l, minF n l ≤ x := by
  induction l with
  | nil => intro n; simp [minF]
  | cons y l ih =>
    intro n
    have h := ih (n := min n y)
    simp only [minF, List.foldl_cons] at h ⊢
    refine ⟨by have := h.1; omega, fun x hx => ?_⟩
    rcases List.mem_cons.1 hx with rfl | hx
    · have := h.1; omega
    · exact h.2 x hx
theorem minF_ge {l : List Int} : ∀ {n : Int}, 0 ≤ n → (∀ x ∈ l, 0 ≤ x) → 0 ≤ minF n l := by
  induction l with
  | nil => intro n h _; simpa [minF] using h
  | cons y l ih =>
    intro n h hl
    simp only [minF, List.foldl_cons]
    exact ih (by have := hl y (by simp); omega) fun x hx => hl x (by simp [hx])
/-- what is left of the room, and the cost, are bounded -/
def OkA (j : Nat) (s : Int × Int) : Prop := -2000000000000 * iLen j ≤ s.1 ∧ s.1 ≤ 6000000000000 ∧ 0 ≤ s.2 ∧ s.2 ≤ 200000000
def OkL (D : Nat) (l : List Int) : Prop := l.length = D ∧ ∀ x ∈ l, 0 ≤ x ∧ x ≤ 200000000
def OrdK (o : Ord) : Prop := (0 ≤ o.u ∧ o.u ≤ 1000000) ∧ (0 ≤ o.d ∧ o.d ≤ 200) ∧ (0 ≤ o.l ∧ o.l ≤ o.s ∧ o.s ≤ 1000000)
theorem bndA_ok {j : Nat} {s : Int × Int} {o : Ord} {key : Ord → Int} (hk : key o = o.s - o.l) (ho : OrdK o) (h : OkA j s) : OkA (j + 1) (bndA key s o) := by
  obtain ⟨h1, h2, h3, h4⟩ := h
  obtain ⟨⟨g1, g2⟩, _, g3, g4, g5⟩ := ho
  have h5 := mul_bnd (a := min o.u s.2) (b := o.s - o.l) (A := 1000000) (B := 1000000) (by omega) (by omega) (by omega) (by omega)
  unfold OkA bndA
  rw [hk]
  dsimp only
  unfold iLen at *
  refine ⟨?_, ?_, by omega, by omega⟩
  · omega
  · have : 0 ≤ min o.u s.2 * (o.s - o.l) := Int.mul_nonneg (by omega) (by omega)
    omega
theorem bndB_ok {j D : Nat} {s : Int × List Int} {o : Ord} (ho : OrdK o) (h1 : -26000000000000 - 2000000000000 * iLen j ≤ s.1 ∧ s.1 ≤ 6000000000000) (h2 : OkL D s.2) : (-26000000000000 - 2000000000000 * iLen (j + 1) ≤ (bndB D s o).1 ∧ (bndB D s o).1 ≤ 6000000000000) ∧ OkL D (bndB D s o).2 := by
  obtain ⟨⟨g1, g2⟩, _, g3, g4, g5⟩ := ho
  obtain ⟨h3, h4⟩ := h2
  unfold bndB
  dsimp only
  obtain ⟨q, hq⟩ : ∃ q, q = min o.d.toNat (D - 1) := ⟨_, rfl⟩
  rw [← hq]
  obtain ⟨n, hn⟩ : ∃ n, n = minF o.u (s.2.drop q) := ⟨_, rfl⟩
  rw [← hn]
  have h5 := minF_le (n := o.u) (l := s.2.drop q)
  have h6 := minF_ge (n := o.u) (l := s.2.drop q) g1 fun x hx => (h4 x (List.mem_of_mem_drop hx)).1
  rw [← hn] at h5 h6
  have h7 := mul_bnd (a := n) (b := o.l) (A := 1000000) (B := 1000000) (by omega) (by omega) g3 (by omega)
  have h8 : 0 ≤ n * o.l := Int.mul_nonneg h6 g3
  refine ⟨⟨by unfold iLen at *; omega, by omega⟩, by simp [h3]; omega, fun x hx => ?_⟩
  rcases List.mem_append.1 hx with h9 | h9
  · exact h4 x (List.mem_of_mem_take h9)
  · obtain ⟨y, hy, rfl⟩ := List.mem_map.1 h9
    have h10 := h4 y (List.mem_of_mem_drop hy)
    have h11 := h5.2 y hy
    omega
def wlF (l : List Int) (q z : Nat) (n : Int) : List Int := l.take q ++ ((l.drop q).take z).map (· - n) ++ (l.drop q).drop z
theorem wlF_get {l : List Int} {q z : Nat} {n : Int} (h : q + z < l.length) : (wlF l q z n)[q + z]? = some (l.getD (q + z) 0) := by
  unfold wlF
  have hl : (l.take q ++ ((l.drop q).take z).map (· - n)).length = q + z := by simp; omega
  rw [List.getElem?_append_right (by omega), hl, Nat.sub_self, List.getElem?_drop, List.getElem?_drop, Nat.add_zero, List.getD_eq_getElem?_getD, List.getElem?_eq_getElem h]; rfl
theorem wlF_set {l : List Int} {q z : Nat} {n : Int} (h : q + z < l.length) : (wlF l q z n).set (q + z) (l.getD (q + z) 0 - n) = wlF l q (z + 1) n := by
  unfold wlF
  have hl : (l.take q ++ ((l.drop q).take z).map (· - n)).length = q + z := by simp; omega
  have hx : (l.drop q)[z]? = some (l.getD (q + z) 0) := by rw [List.getElem?_drop, List.getD_eq_getElem?_getD, List.getElem?_eq_getElem h]; rfl
  rw [List.set_append_right _ _ (by omega), hl, Nat.sub_self, drop_cons hx, List.set_cons_zero, take_succ_mem hx]
  simp
theorem wlF_zero {l : List Int} {q : Nat} {n : Int} : wlF l q 0 n = l := by unfold wlF; simp
theorem wlF_all {l : List Int} {q z : Nat} {n : Int} (h : l.length ≤ q + z) : wlF l q z n = l.take q ++ (l.drop q).map (· - n) := by
  unfold wlF
  have e : (l.drop q).drop z = [] := List.drop_eq_nil_of_le (by simp; omega)
  rw [List.take_of_length_le (l := l.drop q) (i := z) (by simp; omega), e, List.append_nil]
theorem wlF_len {l : List Int} {q z : Nat} {n : Int} (h : q + z ≤ l.length) : (wlF l q z n).length = l.length := by unfold wlF; simp; omega
theorem getS_I {l : List Int} {i : Nat} {x : Int} (h : l[i]? = some x) : getS none (l.map I) i (I x) := by simp [getS, getN, h]
theorem updS_I {l : List Int} {i : Nat} {x : Int} (h : i < l.length) : updS 1 (l.map I) i [I x] ((l.set i x).map I) := by
  refine ⟨rfl, by simp; omega, ?_⟩
  rw [List.set_eq_take_append_cons_drop, if_pos h]
  simp [List.map_append, List.map_take, List.map_drop]
set_option maxHeartbeats 8000000 in
theorem p27 (a b c d : Int) (cs : List (Int × Int)) (os : List Ord) (hc : cs.length ≤ 9223372036854775807) (ho : os.length ≤ 9223372036854775807) (H : AHeap) {Kk : AV → AHeap → Prop}
    (h : Kk (.tup [I (boundS ⟨(a, b), (c, d), cs, os⟩).1, I (boundS ⟨(a, b), (c, d), cs, os⟩).2]) H) :
    ACalls Try.prog 27 [frV a b c d (.vs 2 (cs.map sp)) (.vs 4 (os.map orV))] H Kk := by
  refine (fun q => pureC (by rfl) (by rfl) q H h) ?_
  clear h
  intro Kk h
  obtain ⟨xs, hxs⟩ : ∃ xs, xs = cs.map sp := ⟨_, rfl⟩
  obtain ⟨ys, hys⟩ : ∃ ys, ys = os.map orV := ⟨_, rfl⟩
  rw [← hxs, ← hys]
  obtain ⟨W, hW⟩ : ∃ W, W = boundS ⟨(a, b), (c, d), cs, os⟩ := ⟨_, rfl⟩
  rw [← hW] at h
  unfold boundS at hW
  obtain ⟨N, hN⟩ : ∃ n, n = os.length := ⟨_, rfl⟩
  obtain ⟨A, hA⟩ : ∃ A, A = std := ⟨_, rfl⟩
  have hsg : ∀ g, A.sg g g := by subst hA; exact fun _ => rfl
  have hll : ∀ x y, A.lt x y = decide (x < y) := by subst hA; intro x y; rfl
  have hvl : A.vlen ys = iLen N := by subst hA; simp [std, hys, hN]
  have hne : ∀ x, A.ne x 0 = decide (x ≠ 0) := by subst hA; intro x; simp only [std, iNe]; rw [Bool.eq_iff_iff]; simp
  refine go27 rfl (SGo_run hA ⟨[2], [], (20, eCheckFr) :: (74, eWinR (fun _ b _ _ => b) (fun _ _ c _ => c) (·.1)) :: [], (81, eUpTo) :: []⟩ (.cons (eCheckFr_ok p20) (.cons eWorstR_ok .nil)) (.cons eUpTo_ok .nil) 200 fun T TD hT hTD => ?_)
  cbv
  refine Exists.intro cs (Exists.intro os (And.intro hxs (And.intro hys (And.intro hc (And.intro ho ?_)))))
  intro q hq; cbv
  rw [← hq] at hW
  split <;> cbv
  · rename_i hz
    have hz : q ≠ 0 := by have hz := (hne q).symm.trans hz; simpa using hz
    rw [if_pos hz] at hW
    rw [hW] at h
    exact h
  rename_i hz
  have hz : q = 0 := by have hz := (hne q).symm.trans hz; simpa using hz
  rw [if_neg (by simp [hz])] at hW
  rw [hz] at hq
  have hV := checkF_ok hq.symm
  have hn1 := hV.o1
  have hn2 := hV.o2
  have hc1 := hV.c1
  have hc2 := hV.c2
  have hlo := hV.lo
  have hob := hV.ob
  dsimp only at hn1 hn2 hc1 hc2 hlo hob
  obtain ⟨D, hD⟩ : ∃ D, D = cs.length := ⟨_, rfl⟩
  obtain ⟨R, hR⟩ : ∃ R, R = roomW (worstW ⟨(a, b), (c, d), cs, os⟩) := ⟨_, rfl⟩
  have hRb : ∀ d, 0 ≤ R d ∧ R d ≤ 1000000 := by rw [hR]; exact roomW_bnd hlo
  unfold boundV at hW
  dsimp only at hW
  rw [← hR, ← hD] at hW
  rw [← hD] at hc1 hc2
  rw [← hN] at hn1 hn2
  refine Exists.intro cs (And.intro ⟨hxs, by omega⟩ ?_)
  intro zs hzs; cbv
  refine Exists.intro (cs.map (·.1)) (And.intro ⟨hzs, by simp; omega, hlo⟩ ?_)
  intro D' rc hD' hrc
  have hD' : D' = D := by rw [hD', hD]; simp
  subst hD'
  have hrc : rc = (upS R D').map I := by rw [hrc, hR, hD]; simp [worstW]
  cbv
  refine And.intro (hsg _) ?_
  rw [hT]
  refine AGo_nilms 8 1 rfl (AGo_nilms 9 1 rfl ?_)
  have hsb : ∀ j, 0 ≤ sumC (os.take j) ∧ sumC (os.take j) ≤ 6000000000000 := fun j => by
    have hb : ∀ x ∈ (os.take j).map fun o => o.u * o.s, 0 ≤ x ∧ x ≤ 1000000000000 := fun x hx => by
      obtain ⟨o, ho, rfl⟩ := List.mem_map.1 hx
      have h7 := hob o (List.mem_of_mem_take ho)
      have h8 := mul_bnd (a := o.u) (b := o.s) (A := 1000000) (B := 1000000) (by omega) (by omega) (by omega) (by omega)
      have h9 : 0 ≤ o.u * o.s := Int.mul_nonneg (by omega) (by omega)
      omega
    have := sumI_bnd hb
    have hl : ((os.take j).map fun o => o.u * o.s).length ≤ 6 := by simp; omega
    unfold sumC; omega
  refine AGo_upE [1, 5, 7] N (fun _ (_ : Unit) => True) (fun j _ i => [(6, I (sumC (os.take j))), (8, .ms 1 3 j 0 j), (9, .ms 1 4 j 0 j), (10, I i)])
    (fun j _ => [.own 0 [I a, I b, I c, I d, .vs 2 xs, .vs 4 ys], .own 0 [], .own D' rc, .own j (((os.take j).map fun o => o.s - o.l).map I), .own j (((os.take j).map fun o => o.l).map I)]) () trivial ⟨rfl, rfl, rfl, rfl, trivial⟩ (.inl rfl) fun j _ i hi hj _ Bk hB => ?_
  clear hT hTD T TD
  have hlt : A.lt i (A.vlen ys) = decide (j < N) := by subst hA; exact lt_len (by simp [hys, hN]) hi
  have hadd : ∀ N, j < N → N ≤ 9223372036854775807 → A.add .i64 i 1 = iLen (j + 1) := fun N hj hN => by subst hA; exact add_one hi hj hN
  obtain ⟨c1, hc1e⟩ : ∃ r, r = ((os.take j).map fun o => o.s - o.l).map I := ⟨_, rfl⟩
  obtain ⟨c2, hc2e⟩ : ∃ r, r = ((os.take j).map fun o => o.l).map I := ⟨_, rfl⟩
  have hsj := hsb j
  obtain ⟨sj, hsje⟩ : ∃ q, q = sumC (os.take j) := ⟨_, rfl⟩
  rw [← hc1e, ← hc2e, ← hsje]
  rw [← hsje] at hsj
  refine SGo_run hA ⟨[3, 4], [1003, 1004, 1000063], [], []⟩ .nil .nil 200 fun T TD hT hTD => ?_
  cbv
  split <;> cbv
  · rename_i hk0
    have hk1 : j < N := by have hz := hlt.symm.trans hk0; simpa using hz
    clear hk0
    obtain ⟨⟨ou, od, ol, ol2⟩, hx⟩ : ∃ x, os[j]? = some x := ⟨_, List.getElem?_eq_getElem (hN ▸ hk1)⟩
    have hix : A.ix 4 4 ys i [I ou, I od, I ol, I ol2] := by subst hA; exact ix_map hys hi hx rfl
    refine Exists.intro _ (And.intro hix ?_); cbv
    have hbo := hob _ (List.mem_of_getElem? hx)
    dsimp only at hbo
    have hm1 := mul_bnd (a := ou) (b := ol2) (A := 1000000) (B := 1000000) (by omega) (by omega) (by omega) (by omega)
    have e1 : A.mul .i64 ou ol2 = ou * ol2 := by subst hA; exact iMul_id (by omega) (by omega)
    have e2 : A.add .i64 sj (A.mul .i64 ou ol2) = sumC (os.take (j + 1)) := by
      rw [e1]; subst hA; show iAdd .i64 sj (ou * ol2) = _
      rw [iAdd_id (by omega) (by omega), take_succ_mem hx]
      unfold sumC at hsje ⊢
      rw [List.map_append, sumI_append, ← hsje]; simp [sumI]
    have e3 : A.sub .i64 ol2 ol = ol2 - ol := by subst hA; exact iSub_id (by omega) (by omega)
    have hi1 := hadd _ hk1 (by omega)
    refine And.intro (hsg _) (Exists.intro (c1 ++ [I (A.sub .i64 ol2 ol)]) (Exists.intro (j + 1) (And.intro ?_ (And.intro rfl ?_))))
    · subst hA; exact app_one (by rw [hc1e]; simp; omega) rfl (by omega)
    generalize hc9 : c1 ++ _ = c9
    cbv
    refine And.intro (by subst hA; exact .inr ⟨SubH.same (SubH.same (SubH.same (SubH.gone (SubH.gone (SubH.same trivial))))), by simp [ResK], .inr fun _ => SubH.same (SubH.same (SubH.same (SubH.gone (SubH.gone (SubH.same trivial)))))⟩) ?_
    cbv
    refine And.intro (hsg _) (Exists.intro (c2 ++ [I ol]) (Exists.intro (j + 1) (And.intro ?_ (And.intro rfl ?_))))
    · subst hA; exact app_one (by rw [hc2e]; simp; omega) rfl (by omega)
    generalize hc8 : c2 ++ _ = c8
    cbv
    refine And.intro (by subst hA; exact .inr ⟨SubH.same (SubH.same (SubH.same (SubH.gone (SubH.gone (SubH.same trivial))))), by simp [ResK], .inr fun _ => SubH.same (SubH.same (SubH.same (SubH.gone (SubH.gone (SubH.same trivial)))))⟩) ?_
    cbv
    refine hB () _ _ hk1 trivial ⟨congrArg I e2, rfl, rfl, congrArg I hi1, trivial⟩ ⟨rfl, rfl, rfl, trivial⟩ (.inr ⟨⟨[.own 0 [I ou, I od, I ol, I ol2]], ?_⟩, Nat.zero_le _, by simp [ltG, AV.lt, AV.ltL, keepS, look, gset], ?_⟩)
    · rw [← hc9, ← hc8, hc1e, hc2e, e3, take_succ_mem hx]; simp
    · have hni : ∀ l : List Int, AV.nidL (l.map I) = true := fun l => by
        induction l with
        | nil => rfl
        | cons x l ih => simpa [AV.nidL, AV.nid] using ih
      have hnr : AV.nidL rc = true := by rw [hrc]; exact hni _
      exact ⟨by simp [AObj.lt, AV.ltL, AV.lt], by simp [AObj.lt, AV.ltL], AV.ltL_nid hnr, AV.ltL_nid (hni _), AV.ltL_nid (hni _), trivial⟩
  · rename_i hk0
    have hk1 : ¬ j < N := by have hz := hlt.symm.trans hk0; simpa using hz
    clear hk0
    have hjN : j = N := by omega
    subst hjN
    have htk : os.take j = os := List.take_of_length_le (by omega)
    rw [htk] at hc1e hc2e hsje
    rw [hT]
    refine AGo_frzS 8 (xs := c1) rfl rfl (by rw [hc1e]; simp [hN]) (by rw [hc1e]; exact Elems_I _) ?_
    refine AGo_frzS 9 (xs := c2) rfl rfl (by rw [hc2e]; simp [hN]) (by rw [hc2e]; exact Elems_I _) ?_
    clear hT hTD T TD hB
    refine SGo_run hA ⟨[2], [], (82, eDearest) :: [], []⟩ (.cons eDearest_ok .nil) .nil 200 fun T TD hT hTD => ?_
    cbv
    obtain ⟨d0, hd0⟩ : ∃ d : Ord, d = ⟨0, 0, 0, 0⟩ := ⟨_, rfl⟩
    have hlD : A.sub .i64 (A.len D') 1 = iLen (D' - 1) := by subst hA; show iSub .i64 (iLen D') 1 = _; unfold iLen; rw [iSub_id (by omega) (by omega)]; omega
    have hx0 : A.ixm 1 1 0 D' (A.sub .i64 (A.len D') 1) (D' - 1) := by rw [hlD]; subst hA; exact ixm1 rfl (by omega)
    have hg0 : A.get none rc (D' - 1) (I (sumR R D')) := by
      subst hA; rw [hrc]
      have h9 := upS_get (R := R) (D := D') (d := D' - 1) (by omega)
      rw [show D' - 1 + 1 = D' by omega] at h9
      show getS none ((upS R D').map I) (D' - 1) _
      simp [getS, getN, h9]
    have hsD := sumR_bnd2 hRb D' (by omega)
    obtain ⟨sD, hsDe⟩ : ∃ q, q = sumR R D' := ⟨_, rfl⟩
    rw [← hsDe] at hg0 hsD hW
    refine And.intro (hsg _) (Exists.intro _ (And.intro hx0 ?_)); cbv
    refine And.intro (hsg _) (Exists.intro _ (And.intro hg0 ?_)); cbv
    refine Exists.intro (os.map fun o => o.s - o.l) (And.intro ⟨hc1e, by simp; omega⟩ ?_)
    intro rs hrs
    rw [List.length_map] at hrs
    obtain ⟨ks, hks⟩ : ∃ ks, ks = sortV (fun k => (os.map fun o => o.s - o.l).getD k 0) (List.range os.length) := ⟨_, rfl⟩
    rw [← hks] at hrs
    have hso := sort_ords (os := os) (key := fun o => o.s - o.l) (d := d0)
    rw [← hks] at hso
    rw [← hso] at hW
    have hkl : ks.length = j := by rw [hks, sortV_len]; simp [hN]
    have hkm : ∀ k ∈ ks, k < j := fun k hk => by rw [hks, sortV_mem] at hk; rw [hN]; exact List.mem_range.1 hk
    cbv
    rw [hT]
    refine AGo_upE [1, 5, 7, 8, 9, 13] j (fun m (s : Int × Int) => s = (ks.take m).foldl (fun s k => bndA (fun o => o.s - o.l) s (os.getD k d0)) (sumC os, sD) ∧ OkA m s) (fun m s i => [(6, I s.1), (12, I s.2), (14, I i)])
      (fun _ _ => [.own 0 [I a, I b, I c, I d, .vs 2 xs, .vs 4 ys], .own 0 [], .own D' rc, .gone, .gone]) (sumC os, sD) ⟨rfl, by rw [← hsje]; unfold OkA; dsimp only; unfold iLen; omega⟩ ⟨by rw [hsje]; rfl, rfl, rfl, trivial⟩ (.inl rfl) fun m s im him hm hP Bk2 hB2 => ?_
    clear hT hTD T TD
    have hlt2 : A.lt im (A.vlen rs) = decide (m < j) := by subst hA; exact lt_len (by simp [hrs, hkl]) him
    have hadd2 : ∀ N, m < N → N ≤ 9223372036854775807 → A.add .i64 im 1 = iLen (m + 1) := fun N hj hN => by subst hA; exact add_one him hj hN
    obtain ⟨st, sl⟩ := s
    obtain ⟨hP1, hP2⟩ := hP
    dsimp only
    refine SGo_run hA ⟨[2], [], (82, eDearest) :: [], []⟩ (.cons eDearest_ok .nil) .nil 200 fun T TD hT hTD => ?_
    cbv
    split <;> cbv
    · rename_i hk0
      have hmj : m < j := by have hz := hlt2.symm.trans hk0; simpa using hz
      obtain ⟨kk, hkk⟩ : ∃ x, ks[m]? = some x := ⟨_, List.getElem?_eq_getElem (by omega)⟩
      have hkj := hkm kk (List.mem_of_getElem? hkk)
      obtain ⟨ik, hik⟩ : ∃ q, q = iLen kk := ⟨_, rfl⟩
      have hxr : A.ix 1 1 rs im [I ik] := by subst hA; rw [hik]; exact ix_map hrs him hkk rfl
      obtain ⟨⟨ou, od, ol, ol2⟩, hx⟩ : ∃ x, os[kk]? = some x := ⟨_, List.getElem?_eq_getElem (by omega)⟩
      have hgk : os.getD kk d0 = ⟨ou, od, ol, ol2⟩ := by rw [List.getD_eq_getElem?_getD, hx]; rfl
      have hbo := hob _ (List.mem_of_getElem? hx)
      dsimp only at hbo
      have hxo : A.ix 4 4 ys ik [I ou, I od, I ol, I ol2] := by subst hA; exact ix_map hys hik hx rfl
      have hxm : A.ix 1 1 c1 ik [I (ol2 - ol)] := by subst hA; exact ix_map hc1e hik (x := ol2 - ol) (by rw [List.getElem?_map, hx]; rfl) rfl
      obtain ⟨hq1, hq2, hq3, hq4⟩ := hP2
      dsimp only at hq1 hq2 hq3 hq4
      have hok := bndA_ok (j := m) (s := (st, sl)) (o := ⟨ou, od, ol, ol2⟩) (key := fun o => o.s - o.l) rfl ⟨by dsimp only; omega, by dsimp only; omega, by dsimp only; omega⟩ ⟨hq1, hq2, hq3, hq4⟩
      have hmn : A.min sl ou = min ou sl := by subst hA; show iMin sl ou = _; rw [iMin_eq]; omega
      obtain ⟨mn, hmne⟩ : ∃ q, q = A.min sl ou := ⟨_, rfl⟩
      have hmn2 : mn = min ou sl := hmne.trans hmn
      have hm1 := mul_bnd (a := mn) (b := ol2 - ol) (A := 1000000) (B := 1000000) (by omega) (by omega) (by omega) (by omega)
      have hq5 : -12000000000000 ≤ st := by unfold iLen at hq1; omega
      have e1 : A.mul .i64 mn (ol2 - ol) = mn * (ol2 - ol) := by subst hA; exact iMul_id (by omega) (by omega)
      have e2 : A.sub .i64 st (A.mul .i64 (A.min sl ou) (ol2 - ol)) = st - mn * (ol2 - ol) := by rw [← hmne, e1]; subst hA; exact iSub_id (by omega) (by omega)
      have e3 : A.sub .i64 sl (A.min sl ou) = sl - mn := by rw [← hmne]; subst hA; exact iSub_id (by omega) (by omega)
      have hi1 := hadd2 _ hmj (by omega)
      refine Exists.intro _ (And.intro hxr ?_); cbv
      refine Exists.intro _ (And.intro hxo ?_); cbv
      refine Exists.intro _ (And.intro hxr ?_); cbv
      refine Exists.intro _ (And.intro hxm ?_); cbv
      refine hB2 (st - mn * (ol2 - ol), sl - mn) _ _ hmj ⟨?_, ?_⟩ ⟨congrArg I e2, congrArg I e3, congrArg I hi1, trivial⟩ ⟨rfl, rfl, rfl, rfl, rfl, rfl, trivial⟩ (.inl rfl)
      · rw [foldl_take_succ hkk, ← hP1, hgk, hmn2]; rfl
      · have : bndA (fun o => o.s - o.l) (st, sl) ⟨ou, od, ol, ol2⟩ = (st - mn * (ol2 - ol), sl - mn) := by rw [hmn2]; rfl
        rw [← this]; exact hok
    · rename_i hk0
      have hmj : ¬ m < j := by have hz := hlt2.symm.trans hk0; simpa using hz
      have hmj : m = j := by omega
      subst hmj
      rw [List.take_of_length_le (by omega)] at hP1
      rw [List.foldl_map, ← hP1] at hW
      dsimp only at hW
      obtain ⟨hq1, hq2, _, _⟩ := hP2
      dsimp only at hq1 hq2
      refine Exists.intro (os.map fun o => o.l) (And.intro ⟨hc2e, by simp; omega⟩ ?_)
      intro rs2 hrs2
      rw [List.length_map] at hrs2
      obtain ⟨ks2, hks2⟩ : ∃ ks, ks = sortV (fun k => (os.map fun o => o.l).getD k 0) (List.range os.length) := ⟨_, rfl⟩
      rw [← hks2] at hrs2
      have hso2 := sort_ords (os := os) (key := fun o => o.l) (d := d0)
      rw [← hks2] at hso2
      rw [← hso2] at hW
      rw [List.foldl_map] at hW
      have hkl2 : ks2.length = m := by rw [hks2, sortV_len]; simp [hN]
      have hkm2 : ∀ k ∈ ks2, k < m := fun k hk => by rw [hks2, sortV_mem] at hk; rw [hN]; exact List.mem_range.1 hk
      have hst6 : -12000000000000 ≤ st := by unfold iLen at hq1; omega
      have hup : OkL D' (upS R D') := ⟨by simp [upS], fun x hx => by
        obtain ⟨d, hd, rfl⟩ := List.mem_map.1 hx
        exact sumR_bnd2 hRb _ (by have := List.mem_range.1 hd; omega)⟩
      cbv
      rw [hT]
      refine AGo_upE [1, 5, 7, 13] m (fun y (s : Int × List Int) => s = (ks2.take y).foldl (fun s k => bndB D' s (os.getD k d0)) (st, upS R D') ∧ (-26000000000000 - 2000000000000 * iLen y ≤ s.1 ∧ s.1 ≤ 6000000000000) ∧ OkL D' s.2) (fun y s i => [(6, I s.1), (16, I i)])
        (fun _ s => [.own 0 [I a, I b, I c, I d, .vs 2 xs, .vs 4 ys], .own 0 [], .own D' (s.2.map I), .gone, .gone]) (st, upS R D') ⟨rfl, ⟨by dsimp only; unfold iLen; omega, hq2⟩, hup⟩ ⟨rfl, rfl, trivial⟩ (.inl (by rw [hrc])) fun y s iy hiy hy hP Bk2 hB2 => ?_
      clear hT hTD T TD
      have hlt2 : A.lt iy (A.vlen rs2) = decide (y < m) := by subst hA; exact lt_len (by simp [hrs2, hkl2]) hiy
      have hadd2 : ∀ N, y < N → N ≤ 9223372036854775807 → A.add .i64 iy 1 = iLen (y + 1) := fun N hj hN => by subst hA; exact add_one hiy hj hN
      obtain ⟨ct, rm⟩ := s
      obtain ⟨hP1, hP2, hP3⟩ := hP
      dsimp only at hP2 hP3 ⊢
      obtain ⟨rmc, hrmc⟩ : ∃ r, r = rm.map I := ⟨_, rfl⟩
      rw [← hrmc]
      refine SGo_run hA ⟨[2], [], [], []⟩ .nil .nil 200 fun T TD hT hTD => ?_
      cbv
      split <;> cbv
      · rename_i hk0
        have hmj : y < m := by have hz := hlt2.symm.trans hk0; simpa using hz
        obtain ⟨kk, hkk⟩ : ∃ x, ks2[y]? = some x := ⟨_, List.getElem?_eq_getElem (by omega)⟩
        have hkj := hkm2 kk (List.mem_of_getElem? hkk)
        obtain ⟨ik, hik⟩ : ∃ q, q = iLen kk := ⟨_, rfl⟩
        have hxr : A.ix 1 1 rs2 iy [I ik] := by subst hA; rw [hik]; exact ix_map hrs2 hiy hkk rfl
        obtain ⟨⟨ou, od, ol, ol2⟩, hx⟩ : ∃ x, os[kk]? = some x := ⟨_, List.getElem?_eq_getElem (by omega)⟩
        have hgk : os.getD kk d0 = ⟨ou, od, ol, ol2⟩ := by rw [List.getD_eq_getElem?_getD, hx]; rfl
        have hbo := hob _ (List.mem_of_getElem? hx)
        dsimp only at hbo
        have hxo : A.ix 4 4 ys ik [I ou, I od, I ol, I ol2] := by subst hA; exact ix_map hys hik hx rfl
        have hi1 := hadd2 _ hmj (by omega)
        refine Exists.intro _ (And.intro hxr ?_); cbv
        refine Exists.intro _ (And.intro hxo ?_); cbv
        rw [hT]
        obtain ⟨hr1, hr2⟩ := hP3
        obtain ⟨q, hq⟩ : ∃ q, q = min od.toNat (D' - 1) := ⟨_, rfl⟩
        have hqD : q < D' := by omega
        have hqe : A.min od (A.sub .i64 (A.len D') 1) = iLen (q + 0) := by rw [hlD]; subst hA; show iMin od (iLen (D' - 1)) = _; rw [iMin_eq, hq]; unfold iLen; omega
        have hrg : ∀ d, d < D' → ∀ v, v = rm.getD d 0 → A.get none rmc d (I v) := fun d hd v hv => by
          subst hA; rw [hrmc, hv]
          show getS none (rm.map I) d _
          simp [getS, getN, List.getD_eq_getElem?_getD, show d < rm.length by omega]
        have hdr : ∀ z, q + z < D' → (rm.drop q)[z]? = some (rm.getD (q + z) 0) := fun z hz => by
          rw [List.getElem?_drop, List.getD_eq_getElem?_getD, List.getElem?_eq_getElem (by omega)]; rfl
        have hrb : ∀ d, d < D' → 0 ≤ rm.getD d 0 ∧ rm.getD d 0 ≤ 200000000 := fun d hd => by
          rw [List.getD_eq_getElem?_getD, List.getElem?_eq_getElem (by omega)]; exact hr2 _ (List.getElem_mem _)
        have hok := bndB_ok (j := y) (D := D') (s := (ct, rm)) (o := ⟨ou, od, ol, ol2⟩) ⟨by dsimp only; omega, by dsimp only; omega, by dsimp only; omega⟩ hP2 ⟨hr1, hr2⟩
        refine AGo_upE [1, 5, 6, 7, 13, 16, 17] (D' - q) (fun _ (_ : Unit) => True) (fun z _ _ => [(18, I (minF ou ((rm.drop q).take z))), (19, I (iLen (q + z)))])
          (fun _ _ => [.own 0 [I a, I b, I c, I d, .vs 2 xs, .vs 4 ys], .own 0 [], .own D' rmc, .gone, .gone, .own 0 [I ou, I od, I ol, I ol2]]) () trivial ⟨by simp [minF, look], congrArg I hqe, trivial⟩ (.inl rfl) fun z _ _ _ hz _ Bk3 hB3 => ?_
        clear hT hTD T TD
        obtain ⟨qz, hqz⟩ : ∃ r, r = q + z := ⟨_, rfl⟩
        obtain ⟨iz, hiz⟩ : ∃ r, r = iLen qz := ⟨_, rfl⟩
        obtain ⟨mz, hmz⟩ : ∃ r, r = minF ou ((rm.drop q).take z) := ⟨_, rfl⟩
        rw [← hqz, ← hiz, ← hmz]
        obtain ⟨vz, hvz⟩ : ∃ v, v = rm.getD qz 0 := ⟨_, rfl⟩
        have hltz : A.lt iz (A.len D') = decide (z < D' - q) := by rw [hll, hiz, hqz]; subst hA; show decide (iLen (q + z) < iLen D') = _; unfold iLen; apply decide_eq_decide.2; omega
        have hfac : z < D' - q → A.ixm 1 1 0 D' iz qz ∧ A.get none rmc qz (I vz) ∧ A.min mz vz = minF ou ((rm.drop q).take (z + 1)) ∧ A.add .i64 iz 1 = iLen (q + (z + 1)) := fun hzD => by
          refine ⟨by subst hA; exact ixm1 hiz (by omega), hrg qz (by omega) vz hvz, ?_, by subst hA; rw [show q + (z + 1) = qz + 1 by omega]; exact add_one hiz (N := D') (by omega) (by omega)⟩
          subst hA; show iMin mz vz = _
          rw [iMin_eq, take_succ_mem (hdr z (by omega)), hmz, hvz, hqz]
          unfold minF
          rw [List.foldl_append]; rfl
        have hmzf : ¬ z < D' - q → mz = minF ou (rm.drop q) := fun hzD => by rw [hmz, List.take_of_length_le (by simp; omega)]
        have hml := minF_le (n := ou) (l := rm.drop q)
        have hmg := minF_ge (n := ou) (l := rm.drop q) (by omega) fun x hx => (hr2 x (List.mem_of_mem_drop hx)).1
        obtain ⟨mf, hmf⟩ : ∃ r, r = minF ou (rm.drop q) := ⟨_, rfl⟩
        rw [← hmf] at hml hmg hmzf
        have hm1 := mul_bnd (a := mf) (b := ol) (A := 1000000) (B := 1000000) (by omega) (by omega) (by omega) (by omega)
        have hctb : -38000000000000 ≤ ct := by have := hP2.1; unfold iLen at this; omega
        have e1 : A.mul .i64 mf ol = mf * ol := by subst hA; exact iMul_id (by omega) (by omega)
        have e2 : A.sub .i64 ct (A.mul .i64 mf ol) = ct - mf * ol := by rw [e1]; subst hA; exact iSub_id (by omega) (by omega)
        have hbnd : bndB D' (ct, rm) ⟨ou, od, ol, ol2⟩ = (ct - mf * ol, rm.take q ++ (rm.drop q).map (· - mf)) := by
          unfold bndB; dsimp only; rw [← hq, ← hmf]
        refine SGo_run hA ⟨[2], [], [], []⟩ .nil .nil 200 fun T TD hT hTD => ?_
        cbv
        split <;> cbv
        · rename_i hk0
          have hzD : z < D' - q := by have hz := hltz.symm.trans hk0; simpa using hz
          obtain ⟨hxz, hgz, hmn, hiz1⟩ := hfac hzD
          refine And.intro (hsg _) (Exists.intro _ (And.intro hxz ?_)); cbv
          refine And.intro (hsg _) (Exists.intro _ (And.intro hgz ?_)); cbv
          exact hB3 () _ _ hzD trivial ⟨congrArg I hmn, congrArg I hiz1, trivial⟩ ⟨rfl, rfl, rfl, rfl, rfl, rfl, rfl, trivial⟩ (.inl rfl)
        · rename_i hk0
          have hzD : ¬ z < D' - q := by have hz := hltz.symm.trans hk0; simpa using hz
          have hmz2 := hmzf hzD
          subst hmz2
          clear hB3 hfac hmzf
          rw [hT]
          refine AGo_upE [1, 5, 6, 7, 13, 16, 17, 18] (D' - q) (fun _ (_ : Unit) => True) (fun z _ _ => [(20, I (iLen (q + z)))])
            (fun z _ => [.own 0 [I a, I b, I c, I d, .vs 2 xs, .vs 4 ys], .own 0 [], .own D' ((wlF rm q z mz).map I), .gone, .gone, .own 0 [I ou, I od, I ol, I ol2]]) () trivial ⟨congrArg I hqe, trivial⟩ (.inl (by rw [wlF_zero, hrmc])) fun z2 _ _ _ hz2 _ Bk3 hB3 => ?_
          clear hT hTD T TD
          obtain ⟨qw, hqw⟩ : ∃ r, r = q + z2 := ⟨_, rfl⟩
          obtain ⟨iw, hiw⟩ : ∃ r, r = iLen qw := ⟨_, rfl⟩
          obtain ⟨wc, hwc⟩ : ∃ r, r = (wlF rm q z2 mz).map I := ⟨_, rfl⟩
          obtain ⟨wn, hwn⟩ : ∃ r, r = (wlF rm q (z2 + 1) mz).map I := ⟨_, rfl⟩
          obtain ⟨vw, hvw⟩ : ∃ v, v = rm.getD qw 0 := ⟨_, rfl⟩
          rw [← hqw, ← hiw, ← hwc]
          have hltw : A.lt iw (A.len D') = decide (z2 < D' - q) := by rw [hll, hiw, hqw]; subst hA; show decide (iLen (q + z2) < iLen D') = _; unfold iLen; apply decide_eq_decide.2; omega
          have hfac : z2 < D' - q → A.ixm 1 1 0 D' iw qw ∧ A.get none wc qw (I vw) ∧ A.upd 1 wc qw [I (A.sub .i64 vw mz)] wn ∧ A.add .i64 iw 1 = iLen (q + (z2 + 1)) := fun hzD => by
            have hvb := hrb qw (by omega)
            have hsb : A.sub .i64 vw mz = vw - mz := by subst hA; exact iSub_id (by omega) (by omega)
            refine ⟨by subst hA; exact ixm1 hiw (by omega), ?_, ?_, by subst hA; rw [show q + (z2 + 1) = qw + 1 by omega]; exact add_one hiw (N := D') (by omega) (by omega)⟩
            · subst hA; rw [hwc, hvw, hqw]; exact getS_I (wlF_get (by omega))
            · rw [hsb]; subst hA; rw [hwc, hwn, hvw, hqw, ← wlF_set (by omega)]; exact updS_I (by rw [wlF_len (by omega)]; omega)
          have hfin : ¬ z2 < D' - q → wlF rm q z2 mz = rm.take q ++ (rm.drop q).map (· - mz) := fun hzD => wlF_all (by omega)
          refine SGo_run hA ⟨[2], [], [], []⟩ .nil .nil 200 fun T TD hT hTD => ?_
          cbv
          split <;> cbv
          · rename_i hk0
            have hzD2 : z2 < D' - q := by have hz := hltw.symm.trans hk0; simpa using hz
            obtain ⟨hxw, hgw, huw, hiw1⟩ := hfac hzD2
            refine And.intro (hsg _) (Exists.intro _ (And.intro hxw ?_)); cbv
            refine And.intro (hsg _) (Exists.intro _ (And.intro hgw ?_)); cbv
            refine And.intro (hsg _) (Exists.intro _ (And.intro hxw ?_)); cbv
            refine And.intro (hsg _) (Exists.intro _ (And.intro huw ?_)); cbv
            exact hB3 () _ _ hzD2 trivial ⟨congrArg I hiw1, trivial⟩ ⟨rfl, rfl, rfl, rfl, rfl, rfl, rfl, rfl, trivial⟩ (.inl (by rw [hwn]))
          · rename_i hk0
            have hzD2 : ¬ z2 < D' - q := by have hz := hltw.symm.trans hk0; simpa using hz
            have hw9 := hfin hzD2
            have hok2 := hok
            rw [hbnd] at hok2
            refine hB2 (ct - mz * ol, rm.take q ++ (rm.drop q).map (· - mz)) _ _ hmj ⟨?_, hok2.1, hok2.2⟩ ⟨congrArg I e2, congrArg I hi1, trivial⟩ ⟨rfl, rfl, rfl, rfl, trivial⟩ (.inr ⟨⟨[.own 0 [I ou, I od, I ol, I ol2]], by rw [hwc, hw9]; rfl⟩, Nat.zero_le _, by simp [ltG, AV.lt, AV.ltL, keepS, look], ?_⟩)
            · rw [foldl_take_succ hkk, ← hP1, hgk, hbnd]
            · exact ⟨by simp [AObj.lt, AV.ltL, AV.lt], by simp [AObj.lt, AV.ltL], AV.ltL_nid (nidL_map (fun _ => rfl) _), trivial, trivial, trivial⟩
      · rename_i hk0
        have hmj : ¬ y < m := by have hz := hlt2.symm.trans hk0; simpa using hz
        rw [List.take_of_length_le (by omega)] at hP1
        have e9 : W = (ct, 0) := by rw [hW, ← hP1]
        rw [e9] at h
        exact h
end Go.Sas
