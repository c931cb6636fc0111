/-
Convoys: the reference's Meets: contract.
Conditions: none.
-/
import Derived.Test.YtndnjmpebpampaaGreatDoorWC
set_option linter.unusedVariables false
set_option linter.unusedSimpArgs false
namespace Go.Sas
open Go.Proofs
set_option maxRecDepth 100000
theorem lanB_iff {L w s g m : Int} {hs : List Hld} : lanB L w s g m hs = true ↔ s ≤ m ∧ g < L ∧ ∀ h ∈ hs, ¬ (aloC L w h.a = g ∧ m < h.u) := by
  unfold lanB
  rw [Bool.and_eq_true, List.all_eq_true, Bool.not_eq_true', Bool.or_eq_false_iff, decide_eq_false_iff_not, decide_eq_false_iff_not]
  constructor
  · rintro ⟨⟨h1, h2⟩, h3⟩
    refine ⟨by omega, by omega, fun h hh => ?_⟩
    have := h3 h hh
    rw [Bool.not_eq_true', Bool.and_eq_false_iff, decide_eq_false_iff_not, decide_eq_false_iff_not] at this
    rintro ⟨c1, c2⟩
    rcases this with c | c
    · exact c c1
    · exact c c2
  · rintro ⟨h1, h2, h3⟩
    refine ⟨⟨by omega, by omega⟩, fun h hh => ?_⟩
    have := h3 h hh
    rw [Bool.not_eq_true', Bool.and_eq_false_iff, decide_eq_false_iff_not, decide_eq_false_iff_not]
    by_cases c : aloC L w h.a = g
    · exact .inr fun d => this ⟨c, d⟩
    · exact .inl c
theorem lane_cut {L gap : Int} {v : Tck} (hV : TckV L gap v) (hL : 1 ≤ L) (m : Nat) : (decide (v.st ≤ (m : Int) ∧ (waysT L v m).1 ≤ cutL L v.way v.st m v.hs (waysT L v m).2) = isT L v m) ∧ (isT L v m = true → cutL L v.way v.st m v.hs (waysT L v m).2 = (laneT L v m).2) := by
  have hb := waysT_bnd hV hL m
  have hs := stopT_bnd hV hL m
  have hy := bay_iff (m := (m : Int)) (g := (waysT L v m).2) (by omega) hV.hs.all hV.hs.ord (by unfold stopT at hb; omega)
  have key : v.st ≤ (m : Int) → cutL L v.way v.st m v.hs (waysT L v m).2 = (laneT L v m).2 := fun hm => by
    unfold cutL laneT
    dsimp only
    split
    · rename_i hc
      have h1 := hy.1 (lanB_iff.1 hc).2
      unfold stopT at hb ⊢
      omega
    · rename_i hc
      have h1 : ¬ (waysT L v m).2 < stopP L v.way m v.hs := fun h => hc (lanB_iff.2 ⟨hm, (hy.2 h).1, (hy.2 h).2⟩)
      unfold stopT at hb ⊢
      omega
  refine ⟨?_, fun h => ?_⟩
  · unfold isT
    rw [decide_eq_decide]
    constructor
    · rintro ⟨h1, h2⟩; rw [key h1] at h2; exact ⟨h1, h2⟩
    · rintro ⟨h1, h2⟩; refine ⟨h1, ?_⟩; rw [key h1]; exact h2
  · unfold isT at h
    simp only [decide_eq_true_eq] at h
    exact key h.1
theorem laneT_bnd {L gap : Int} {v : Tck} (hV : TckV L gap v) (hL : 1 ≤ L) (m : Nat) : -1 ≤ (laneT L v m).2 ∧ (laneT L v m).2 ≤ L := by
  have hb := waysT_bnd hV hL m
  have hs := stopT_bnd hV hL m
  unfold laneT
  dsimp only
  omega
theorem roadC_bnd {L w x y : Int} (hL : 1 ≤ L ∧ L ≤ 100000) (hx : 0 ≤ x ∧ x ≤ L) (hy : -1 ≤ y ∧ y ≤ L) : -1000000000 ≤ (roadC L w (x, y)).1 ∧ (roadC L w (x, y)).1 ≤ 1000000000 := by
  unfold roadC; split <;> dsimp only <;> omega
def allA (L : Int) (e : Nat) (t : Tck) : AV := .agg [.vs 2 ((waysL L t (e + 1)).map sp2), .vs 2 ((waysL L (freeT true t) (e + 1)).map sp2)]
def allC (L : Int) (e : Nat) (t : Tck) : List AV := [.vs 2 ((waysL L t (e + 1)).map sp2), .vs 2 ((waysL L (freeT true t) (e + 1)).map sp2)]
theorem Elems_all (L : Int) (e : Nat) (l : List Tck) : Elems 2 (l.map (allA L e)) (l.flatMap (allC L e)) := Elems_map (f := allA L e) (g := allC L e) (sz := 2) (fun _ => rfl) (fun _ => rfl) (fun _ => rfl) l
theorem allC_len (L : Int) (e : Nat) : ∀ l : List Tck, (l.flatMap (allC L e)).length = l.length * 2
  | [] => rfl
  | x :: l => by rw [List.flatMap_cons, List.length_append, allC_len L e l, List.length_cons]; simp [allC]; omega
theorem allC_nid (L : Int) (e : Nat) : ∀ l : List Tck, AV.nidL (l.flatMap (allC L e)) = true
  | [] => rfl
  | x :: l => by simpa [AV.nidL, AV.nid, List.flatMap_cons, allC] using allC_nid L e l
set_option maxHeartbeats 8000000 in
theorem p21 (c : Cvy) (hb : (-1000000000 ≤ c.len ∧ c.len ≤ 1000000000) ∧ -1000000000 ≤ c.gap ∧ c.gap ≤ 1000000000) (hS : TrsS c.trs) (hl : c.trs.length ≤ 1000) (H : AHeap) {Kk : AV → AHeap → Prop}
    (h : ∀ (a1 a2 a3 a6 a7 : Int) (a4 a5 : Bool) (e : Int), (e = 7 → AccQ c) → Kk (.tup [.agg [I a1, I a2, I a3, B a4, B a5, I a6, I a7], I e]) H) :
    ACalls Tryz.prog 21 [cvyV c.len c.gap c.fails (.vs 5 (c.trs.map tkA))] H Kk := by
  have h2 : ACalls Tryz.prog 21 [cvyV c.len c.gap c.fails (.vs 5 (c.trs.map tkA))] [] fun r H' => ∃ (a1 a2 a3 a6 a7 : Int) (a4 a5 : Bool) (e : Int), (e = 7 → AccQ c) ∧ r = .tup [.agg [I a1, I a2, I a3, B a4, B a5, I a6, I a7], I e] ∧ H' = [] := by
    clear h Kk
    obtain ⟨Kk, hKk⟩ : ∃ Kk : AV → AHeap → Prop, Kk = fun r H' => ∃ (a1 a2 a3 a6 a7 : Int) (a4 a5 : Bool) (e : Int), (e = 7 → AccQ c) ∧ r = .tup [.agg [I a1, I a2, I a3, B a4, B a5, I a6, I a7], I e] ∧ H' = [] := ⟨_, rfl⟩
    rw [← hKk]
    have h : ∀ (a1 a2 a3 a6 a7 : Int) (a4 a5 : Bool) (e : Int), (e = 7 → AccQ c) → Kk (.tup [.agg [I a1, I a2, I a3, B a4, B a5, I a6, I a7], I e]) [] := fun a1 a2 a3 a6 a7 a4 a5 e he => by rw [hKk]; exact ⟨_, _, _, _, _, _, _, _, he, rfl, rfl⟩
    clear hKk
    obtain ⟨L, gp, f, trs⟩ := c
    dsimp only at hb hS hl ⊢
    obtain ⟨ys, hys⟩ : ∃ ys, ys = trs.map tkA := ⟨_, rfl⟩
    rw [← hys]
    obtain ⟨A, hA⟩ : ∃ A, A = std := ⟨_, rfl⟩
    have hll : ∀ x y, A.lt x y = decide (x < y) := by subst hA; intro x y; rfl
    have hle : ∀ x y, A.le x y = decide (x ≤ y) := by subst hA; intro x y; rfl
    have hee : ∀ x y, A.eq x y = decide (x = y) := by subst hA; intro x y; exact iEqd _ _
    have hne : ∀ x y, A.ne x y = decide (x ≠ y) := by subst hA; intro x y; simp only [std, iNe]; rw [Bool.eq_iff_iff]; simp
    have hnb : ∀ b, A.bnot b = !b := by subst hA; intro b; rfl
    have hsg : ∀ g, A.sg g g := by subst hA; exact fun _ => rfl
    refine go21 rfl (SGo_run hA ⟨[], [], (41, eCkR) :: (42, eLastR) :: [], []⟩ (.cons (eCkR_ok p41) (.cons eLastR_ok .nil)) .nil 200 fun T TD hT hTD => ?_)
    cbv
    refine Exists.intro trs (And.intro ⟨hys, hb, hS, hl⟩ ?_)
    intro q hq; cbv
    split <;> cbv
    · rename_i hz
      have hz : q ≠ 0 := by simpa using (hne _ _).symm.trans hz
      exact h 0 0 0 0 0 false false q (fun hh => absurd (hq.symm.trans hh) (cvyE_ne7 _))
    rename_i hz
    have hz : q = 0 := by simpa using (hne _ _).symm.trans hz
    have hV : CvyV ⟨L, gp, f, trs⟩ := cvyE_ok.1 (hq.symm.trans hz)
    clear hz hq
    refine Exists.intro trs (And.intro ⟨hys, hV⟩ ?_)
    intro E e hE
    obtain ⟨he1, he2, hE⟩ := hE
    cbv
    have hL := hV.len
    have hgp := hV.gap
    have hfl := hV.fails
    have hn20 := hV.n
    have hall := hV.all
    dsimp only at hL hgp hfl hn20 hall
    rw [hT]
    refine AGo_nilms 6 2 rfl ?_
    refine AGo_upE [0, 1, 2, 3, 5] trs.length (fun _ (_ : Unit) => True) (fun j _ i => [(7, I i), (6, .ms 2 2 j 0 j)]) (fun j _ => [.own 0 [I L, I gp, I f, .vs 5 ys], .own 0 [I 0, I 0, I 0, B false, B false, I 0, I 0], .own j ((trs.take j).flatMap (allC L e))]) () trivial ⟨rfl, rfl, trivial⟩ (.inl rfl) fun j _ i hi2 hj _ Bk hB => ?_
    have hlt : A.lt i (A.vlen ys) = decide (j < trs.length) := by subst hA; exact lt_len (by simp [hys]) hi2
    have hadd : ∀ N, j < N → N ≤ 9223372036854775807 → A.add .i64 i 1 = iLen (j + 1) := fun N hj hN => by subst hA; exact add_one hi2 hj hN
    obtain ⟨cc, hcc⟩ : ∃ c, c = (trs.take j).flatMap (allC L e) := ⟨_, rfl⟩
    rw [← hcc]
    refine SGo_run hA ⟨[2], [1002], (43, eWaysR) :: (44, eFreeR) :: [], []⟩ (.cons eWaysR_ok (.cons eFreeR_ok .nil)) .nil 200 fun T TD hT hTD => ?_
    cbv
    split <;> cbv
    · rename_i hk0
      have hk1 : j < trs.length := by have hz := hlt.symm.trans hk0; simpa using hz
      clear hk0
      obtain ⟨t, hx⟩ : ∃ x, trs[j]? = some x := ⟨_, List.getElem?_eq_getElem hk1⟩
      have ht := hall _ (List.mem_of_getElem? hx)
      have htk : trs.take (j + 1) = trs.take j ++ [t] := by rw [List.take_succ_eq_append_getElem hk1]; simp [(List.getElem?_eq_some_iff.1 hx).2]
      have hcl : cc.length = j * 2 := by rw [hcc, allC_len, List.length_take]; omega
      have hnew0 : (trs.take (j + 1)).flatMap (allC L e) = cc ++ allC L e t := by rw [htk, hcc]; simp
      obtain ⟨c9, hc9⟩ : ∃ c, c = (trs.take (j + 1)).flatMap (allC L e) := ⟨_, rfl⟩
      have hn9 : AV.nidL c9 = true := by rw [hc9]; exact allC_nid _ _ _
      have hnew : c9 = cc ++ [.vs 2 ((waysL L t (e + 1)).map sp2), .vs 2 ((waysL L (freeT true t) (e + 1)).map sp2)] := hc9.trans hnew0
      clear hnew0
      have htf := ht.free true
      obtain ⟨w, s, lo, hi, hs⟩ := t
      have hfr : freeT true ⟨w, s, lo, hi, hs⟩ = ⟨w, s, lo, hi, []⟩ := rfl
      rw [hfr] at htf
      rw [hfr] at hnew
      obtain ⟨zs, hzs⟩ : ∃ z, z = hs.map hdV := ⟨_, rfl⟩
      have hix : A.ix 5 5 ys i [I w, I s, I lo, I hi, .vs 2 zs] := by subst hA; rw [hzs]; exact ix_map hys hi2 hx rfl
      refine Exists.intro _ (And.intro hix ?_); cbv
      refine Exists.intro hs (Exists.intro e (And.intro ⟨hzs, hE, ht, hL, by omega⟩ ?_))
      intro z1 hz1; cbv
      intro z2 hz2; cbv
      have hz2 : z2 = ([] : List Hld).map hdV := hz2
      refine Exists.intro [] (Exists.intro e (And.intro ⟨hz2, hE, htf, hL, by omega⟩ ?_))
      intro z3 hz3; cbv
      have hz1 : z1 = (waysL L ⟨w, s, lo, hi, hs⟩ (e + 1)).map sp2 := hz1
      have hz3 : z3 = (waysL L ⟨w, s, lo, hi, []⟩ (e + 1)).map sp2 := hz3
      rw [← hz1, ← hz3] at hnew
      clear hz1 hz3
      refine And.intro (hsg _) (Exists.intro (cc ++ [.vs 2 z1, .vs 2 z3]) (Exists.intro (j + 1) (And.intro ?_ (And.intro rfl ?_))))
      · subst hA; exact app_one hcl rfl (by omega)
      generalize hc2 : cc ++ _ = cc2
      refine And.intro (by subst hA; simp [std, Keep, SubH, ResK]) ?_; cbv
      refine hB () _ _ hk1 trivial ⟨congrArg I (hadd _ hk1 (by omega)), rfl, trivial⟩ ⟨rfl, rfl, rfl, rfl, rfl, trivial⟩ (.inr ⟨⟨_, by rw [← hc9, hnew, hc2]; rfl⟩, Nat.zero_le _, by simp [ltG, AV.lt, AV.ltL, keepS, look, gset], ⟨by simp [AObj.lt, AV.ltL, AV.lt], by simp [AObj.lt, AV.ltL, AV.lt], by rw [← hc9]; exact AV.ltL_nid hn9, trivial⟩⟩)
    · rename_i hk0
      have hk1 : ¬ j < trs.length := by have hz := hlt.symm.trans hk0; simpa using hz
      clear hk0
      have hjn : j = trs.length := by omega
      subst hjn
      rw [List.take_length] at hcc
      rw [hT]
      obtain ⟨R, hR⟩ : ∃ R, R = trs.map (allA L e) := ⟨_, rfl⟩
      have hRl : R.length = trs.length := by rw [hR, List.length_map]
      refine AGo_frzS 6 (id := 2) (g := trs.length) (sz := 2) (n := trs.length) (xs := R) rfl rfl hRl (by rw [hR, hcc]; exact Elems_all _ _ _) ?_
      clear hlt hadd hB
      have hRg : ∀ (k : Nat) (q : Int) (t : Tck), q = iLen k → trs[k]? = some t → A.ix 2 2 R q [.vs 2 ((waysL L t (e + 1)).map sp2), .vs 2 ((waysL L (freeT true t) (e + 1)).map sp2)] := fun k q t hq ht => by subst hA; exact ix_map (f := allA L e) hR hq ht rfl
      have hYg : ∀ (k : Nat) (q : Int) (w s lo hi : Int) (hs : List Hld) (zs : List AV), q = iLen k → trs[k]? = some ⟨w, s, lo, hi, hs⟩ → zs = hs.map hdV → A.ix 5 5 ys q [I w, I s, I lo, I hi, .vs 2 zs] := fun k q w s lo hi hs zs hq ht hzz => by subst hA; rw [hzz]; exact ix_map hys hq ht rfl
      have hvl : ∀ q : Int, A.lt q (A.vlen ys) = decide (q < iLen trs.length) := fun q => by rw [hll]; subst hA; show decide (q < iLen ys.length) = _; rw [hys, List.length_map]
      have hadd1 : ∀ (k : Nat) (q : Int), q = iLen k → k ≤ 100000 → A.add .i64 q 1 = iLen (k + 1) := fun k q hq hk => by subst hA; exact add_one hq (N := 200000) (by omega) (by omega)
      obtain ⟨Fine, hFine⟩ : ∃ F : Nat → Nat → Nat → Prop, F = fun m i k => ∀ t u : Tck, trs[i]? = some t → trs[k]? = some u → ∀ f' g' : Bool, (if f' then 1 else 0) + (if g' then 1 else 0) ≤ f → meetT L gp (freeT f' t) (freeT g' u) m = false := ⟨_, rfl⟩
      refine AGo_upE [1, 2, 5, 6, 9] (e + 1) (fun m (_ : Unit) => ∀ m', m' < m → ∀ i k, i < k → Fine m' i k) (fun _ _ i => [(10, I i)]) (fun _ _ => [.own 0 [I L, I gp, I f, .vs 5 ys], .own 0 [I 0, I 0, I 0, B false, B false, I 0, I 0], .gone, .own 0 [I 0, I 0, I 1, I 0, I 0, I 1, I 1, I 1]]) () (fun m' hm => by omega) ⟨rfl, trivial⟩ (.inl rfl) fun m _ im him hm hPm Bm hBm => ?_
      have hcm : A.le im E = decide (m < e + 1) := by rw [hle, him, hE, Bool.eq_iff_iff]; unfold iLen; simp only [decide_eq_true_eq]; omega
      refine SGo_run hA ⟨[], [], [], []⟩ .nil .nil 200 fun T TD hT hTD => ?_
      cbv
      split <;> cbv
      · rename_i hz
        have hm1 : m < e + 1 := by simpa using hcm.symm.trans hz
        clear hz
        rw [hT]
        refine AGo_upE [1, 2, 5, 6, 9, 10] trs.length (fun i (_ : Unit) => ∀ i', i' < i → ∀ k, i' < k → Fine m i' k) (fun _ _ i => [(11, I i)]) (fun _ _ => [.own 0 [I L, I gp, I f, .vs 5 ys], .own 0 [I 0, I 0, I 0, B false, B false, I 0, I 0], .gone, .own 0 [I 0, I 0, I 1, I 0, I 0, I 1, I 1, I 1]]) () (fun i' hi => by omega) ⟨rfl, trivial⟩ (.inl rfl) fun i _ ii hii hi hPi Bi hBi => ?_
        have hci : A.lt ii (A.vlen ys) = decide (i < trs.length) := by rw [hvl, hii, decide_eq_decide]; unfold iLen; omega
        refine SGo_run hA ⟨[], [], [], []⟩ .nil .nil 200 fun T TD hT hTD => ?_
        cbv
        split <;> cbv
        · rename_i hz
          have hi1 : i < trs.length := by simpa using hci.symm.trans hz
          clear hz
          rw [hT]
          obtain ⟨t, hxt⟩ : ∃ x, trs[i]? = some x := ⟨_, List.getElem?_eq_getElem hi1⟩
          have htt := hall _ (List.mem_of_getElem? hxt)
          obtain ⟨w1, s1, lo1, hi1', hs1⟩ := t
          obtain ⟨zt, hzt⟩ : ∃ z, z = hs1.map hdV := ⟨_, rfl⟩
          refine AGo_upE [1, 2, 5, 6, 9, 10, 11] (trs.length - (i + 1)) (fun j (_ : Unit) => ∀ k, i < k → k < i + 1 + j → Fine m i k) (fun j _ _ => [(12, I (iLen (i + 1 + j)))]) (fun _ _ => [.own 0 [I L, I gp, I f, .vs 5 ys], .own 0 [I 0, I 0, I 0, B false, B false, I 0, I 0], .gone, .own 0 [I 0, I 0, I 1, I 0, I 0, I 1, I 1, I 1]]) () (fun k h1 h2 => by omega) ⟨congrArg I (hadd1 i ii hii (by omega)), trivial⟩ (.inl rfl) fun j _ _ij _hij hj hPj Bj hBj => ?_
          obtain ⟨k, hk⟩ : ∃ k, k = i + 1 + j := ⟨_, rfl⟩
          obtain ⟨ik, hik⟩ : ∃ q, q = iLen (i + 1 + j) := ⟨_, rfl⟩
          rw [← hik]
          rw [← hk] at hik
          have hck : A.lt ik (A.vlen ys) = decide (k < trs.length) := by rw [hvl, hik, decide_eq_decide]; unfold iLen; omega
          refine SGo_run hA ⟨[], [], [], []⟩ .nil .nil 200 fun T TD hT hTD => ?_
          cbv
          split <;> cbv
          · rename_i hz
            have hk1 : k < trs.length := by simpa using hck.symm.trans hz
            clear hz
            rw [hT]
            obtain ⟨u, hxu⟩ : ∃ x, trs[k]? = some x := ⟨_, List.getElem?_eq_getElem hk1⟩
            have hut := hall _ (List.mem_of_getElem? hxu)
            obtain ⟨w2, s2, lo2, hi2, hs2⟩ := u
            obtain ⟨zu, hzu⟩ : ∃ z, z = hs2.map hdV := ⟨_, rfl⟩
            obtain ⟨Wt0, hWt0⟩ : ∃ W, W = (waysL L ⟨w1, s1, lo1, hi1', hs1⟩ (e + 1)).map sp2 := ⟨_, rfl⟩
            obtain ⟨Wt1, hWt1⟩ : ∃ W, W = (waysL L (freeT true ⟨w1, s1, lo1, hi1', hs1⟩) (e + 1)).map sp2 := ⟨_, rfl⟩
            obtain ⟨Wu0, hWu0⟩ : ∃ W, W = (waysL L ⟨w2, s2, lo2, hi2, hs2⟩ (e + 1)).map sp2 := ⟨_, rfl⟩
            obtain ⟨Wu1, hWu1⟩ : ∃ W, W = (waysL L (freeT true ⟨w2, s2, lo2, hi2, hs2⟩) (e + 1)).map sp2 := ⟨_, rfl⟩
            have hRt : A.ix 2 2 R ii [.vs 2 Wt0, .vs 2 Wt1] := by rw [hWt0, hWt1]; exact hRg i ii _ hii hxt
            have hRu : A.ix 2 2 R ik [.vs 2 Wu0, .vs 2 Wu1] := by rw [hWu0, hWu1]; exact hRg k ik _ hik hxu
            have hwx : ∀ v : Tck, A.ix 2 2 ((waysL L v (e + 1)).map sp2) im [I (waysT L v m).1, I (waysT L v m).2] := fun v => by subst hA; exact ix_map (f := sp2) rfl him (by simp [waysL, hm1]) rfl
            refine AGo_upE [1, 2, 5, 6, 9, 10, 11, 12] 4 (fun n (_ : Unit) => ∀ f' g' : Bool, ((f' = false ∧ g' = false ∧ 0 < n) ∨ (f' = true ∧ g' = false ∧ 1 < n) ∨ (f' = false ∧ g' = true ∧ 2 < n) ∨ (f' = true ∧ g' = true ∧ 3 < n)) → (if f' then 1 else 0) + (if g' then 1 else 0) ≤ f → meetT L gp (freeT f' ⟨w1, s1, lo1, hi1', hs1⟩) (freeT g' ⟨w2, s2, lo2, hi2, hs2⟩) m = false) (fun _ _ i => [(13, I i)]) (fun _ _ => [.own 0 [I L, I gp, I f, .vs 5 ys], .own 0 [I 0, I 0, I 0, B false, B false, I 0, I 0], .gone, .own 0 [I 0, I 0, I 1, I 0, I 0, I 1, I 1, I 1]]) () (fun f' g' hh => by omega) ⟨rfl, trivial⟩ (.inl rfl) fun n _ iN hiN hn hPn Bn hBn => ?_
            rcases (show n = 0 ∨ n = 1 ∨ n = 2 ∨ n = 3 ∨ n = 4 by omega) with rfl | rfl | rfl | rfl | rfl
            · have hiN : iN = 0 := hiN
              subst hiN
              have hcn : A.lt 0 4 = true := by rw [hll]; rfl
              refine SGo_run hA ⟨[], [], [], []⟩ .nil .nil 25 fun T TD hT hTD => ?_
              cbv
              split <;> cbv
              · rename_i hz
                clear hz
                have hsum : A.add .i64 0 0 = 0 := by subst hA; rfl
                have hcf : A.lt f (A.add .i64 0 0) = decide (f < 0) := by rw [hsum, hll]
                have hn1 : A.add .i64 0 1 = 1 := by subst hA; rfl
                split <;> cbv
                · rename_i hz
                  have hff : f < 0 := by simpa using hcf.symm.trans hz
                  rw [hT]
                  refine SGo_run hA ⟨[], [], [], []⟩ .nil .nil 200 fun T TD hT hTD => ?_
                  cbv
                  refine hBn () _ _ (by omega) (fun f' g' hh hfg => ?_) ⟨congrArg I hn1, trivial⟩ ⟨rfl, rfl, rfl, rfl, rfl, rfl, rfl, rfl, trivial⟩ (.inl rfl)
                  rcases (show ((f' = false ∧ g' = false ∧ 0 < 0) ∨ (f' = true ∧ g' = false ∧ 1 < 0) ∨ (f' = false ∧ g' = true ∧ 2 < 0) ∨ (f' = true ∧ g' = true ∧ 3 < 0)) ∨ (f' = false ∧ g' = false) by cases f' <;> cases g' <;> simp at hh ⊢) with h3 | ⟨rfl, rfl⟩
                  · exact hPn f' g' h3 hfg
                  · exfalso; simp at hfg; omega
                rename_i hz
                have hff : ¬ f < 0 := by simpa using hcf.symm.trans hz
                clear hz
                rw [hT]
                refine SGo_run hA ⟨[], [], (44, eFreeR) :: [], []⟩ (.cons eFreeR_ok .nil) .nil 2 fun T TD hT hTD => ?_
                cbv
                refine Exists.intro _ (And.intro (hYg i ii w1 s1 lo1 hi1' hs1 zt hii hxt hzt) ?_); cbv
                refine Exists.intro _ (And.intro (hYg k ik w2 s2 lo2 hi2 hs2 zu hik hxu hzu) ?_); cbv
                intro z1 hz1; cbv
                have hz1 : z1 = (freeT false ⟨w1, s1, lo1, hi1', hs1⟩).hs.map hdV := by rw [hz1]; show freeL (A.eq 0 1) zt = _; rw [hee]; first | exact hzt | rfl
                intro z2 hz2; cbv
                have hz2 : z2 = (freeT false ⟨w2, s2, lo2, hi2, hs2⟩).hs.map hdV := by rw [hz2]; show freeL (A.eq 0 1) zu = _; rw [hee]; first | exact hzu | rfl
                have htf := htt.free false
                have huf := hut.free false
                have hxb := waysT_bnd htf hL.1 m
                have hxs := stopT_bnd htf hL.1 m
                have hyb := waysT_bnd huf hL.1 m
                have hys2 := stopT_bnd huf hL.1 m
                obtain ⟨⟨x1, x2⟩, hxx⟩ : ∃ x, x = waysT L (freeT false ⟨w1, s1, lo1, hi1', hs1⟩) m := ⟨_, rfl⟩
                obtain ⟨⟨y1, y2⟩, hyy⟩ : ∃ x, x = waysT L (freeT false ⟨w2, s2, lo2, hi2, hs2⟩) m := ⟨_, rfl⟩
                have hxa : A.ix 2 2 Wt0 im [I x1, I x2] := by rw [hWt0]; have := hwx (freeT false ⟨w1, s1, lo1, hi1', hs1⟩); rw [← hxx] at this; exact this
                have hya : A.ix 2 2 Wu0 im [I y1, I y2] := by rw [hWu0]; have := hwx (freeT false ⟨w2, s2, lo2, hi2, hs2⟩); rw [← hyy] at this; exact this
                rw [← hxx] at hxb
                rw [← hyy] at hyb
                dsimp only at hxb hyb
                have hS1 := htf.hldS hL.2
                have hS2 := huf.hldS hL.2
                have hN1 := htf.hs.n
                have hN2 := huf.hs.n
                (refine And.intro (by subst hA; simp [std, Keep, SubH, ResK]) ?_; cbv)
                rw [hT]
                refine SGo_run hA ⟨[], [], (45, eOnR) :: [], []⟩ (.cons eOnR_ok .nil) .nil 2 fun T TD hT hTD => ?_
                cbv
                refine Exists.intro _ (And.intro hRt ?_); cbv
                refine Exists.intro _ (And.intro hxa ?_); cbv
                refine Exists.intro (freeT false ⟨w1, s1, lo1, hi1', hs1⟩).hs (And.intro ⟨hz1, ⟨by omega, hS1, by omega⟩, by omega, by omega⟩ ?_)
                intro a2 b1 hab
                obtain ⟨ha2, hb1⟩ := hab
                cbv
                (refine And.intro (by subst hA; simp [std, Keep, SubH, ResK]) ?_; cbv)
                rw [hT]
                refine SGo_run hA ⟨[], [], (45, eOnR) :: [], []⟩ (.cons eOnR_ok .nil) .nil 2 fun T TD hT hTD => ?_
                cbv
                refine Exists.intro _ (And.intro hRu ?_); cbv
                refine Exists.intro _ (And.intro hya ?_); cbv
                refine Exists.intro (freeT false ⟨w2, s2, lo2, hi2, hs2⟩).hs (And.intro ⟨hz2, ⟨by omega, hS2, by omega⟩, by omega, by omega⟩ ?_)
                intro c2 b2 hcb
                obtain ⟨hc2, hb2⟩ := hcb
                cbv
                (refine And.intro (by subst hA; simp [std, Keep, SubH, ResK]) ?_; cbv)
                rw [hT]
                refine SGo_run hA ⟨[], [], [], []⟩ .nil .nil 11 fun T TD hT hTD => ?_
                cbv
                have hlc := lane_cut htf hL.1 m
                have hld := lane_cut huf hL.1 m
                rw [← hxx] at hlc
                rw [← hyy] at hld
                have hb1 : b1 = isT L (freeT false ⟨w1, s1, lo1, hi1', hs1⟩) m := by rw [hb1, him]; exact hlc.1
                have ha2 : isT L (freeT false ⟨w1, s1, lo1, hi1', hs1⟩) m = true → a2 = (laneT L (freeT false ⟨w1, s1, lo1, hi1', hs1⟩) m).2 := fun hh => by rw [ha2, him]; exact hlc.2 hh
                have hb2 : b2 = isT L (freeT false ⟨w2, s2, lo2, hi2, hs2⟩) m := by rw [hb2, him]; exact hld.1
                have hc2 : isT L (freeT false ⟨w2, s2, lo2, hi2, hs2⟩) m = true → c2 = (laneT L (freeT false ⟨w2, s2, lo2, hi2, hs2⟩) m).2 := fun hh => by rw [hc2, him]; exact hld.2 hh
                clear hlc hld
                have hgo : meetT L gp (freeT false ⟨w1, s1, lo1, hi1', hs1⟩) (freeT false ⟨w2, s2, lo2, hi2, hs2⟩) m = false → ∀ f' g' : Bool, ((f' = false ∧ g' = false ∧ 0 < 1) ∨ (f' = true ∧ g' = false ∧ 1 < 1) ∨ (f' = false ∧ g' = true ∧ 2 < 1) ∨ (f' = true ∧ g' = true ∧ 3 < 1)) → (if f' then 1 else 0) + (if g' then 1 else 0) ≤ f → meetT L gp (freeT f' ⟨w1, s1, lo1, hi1', hs1⟩) (freeT g' ⟨w2, s2, lo2, hi2, hs2⟩) m = false := fun hmt f' g' hh hfg => by
                  rcases (show ((f' = false ∧ g' = false ∧ 0 < 0) ∨ (f' = true ∧ g' = false ∧ 1 < 0) ∨ (f' = false ∧ g' = true ∧ 2 < 0) ∨ (f' = true ∧ g' = true ∧ 3 < 0)) ∨ (f' = false ∧ g' = false) by cases f' <;> cases g' <;> simp at hh ⊢) with h3 | ⟨rfl, rfl⟩
                  · exact hPn f' g' h3 hfg
                  · exact hmt
                split <;> cbv
                · rename_i hz
                  have hz : b1 = false := by simpa using (hnb _).symm.trans hz
                  have hmt : meetT L gp (freeT false ⟨w1, s1, lo1, hi1', hs1⟩) (freeT false ⟨w2, s2, lo2, hi2, hs2⟩) m = false := by unfold meetT; rw [← hb1, hz]; rfl
                  rw [hT]
                  refine SGo_run hA ⟨[], [], [], []⟩ .nil .nil 200 fun T TD hT hTD => ?_
                  cbv
                  refine hBn () _ _ (by omega) (hgo hmt) ⟨congrArg I hn1, trivial⟩ ⟨rfl, rfl, rfl, rfl, rfl, rfl, rfl, rfl, trivial⟩ (.inr ⟨⟨_, rfl⟩, Nat.zero_le _, by simp [ltG, AV.lt, AV.ltL, keepS, look, gset], ⟨by simp [AObj.lt, AV.ltL, AV.lt], by simp [AObj.lt, AV.ltL, AV.lt], by simp [AObj.lt], by simp [AObj.lt, AV.ltL, AV.lt], trivial⟩⟩)
                rename_i hz
                have hz1b : b1 = true := by simpa using (hnb _).symm.trans hz
                clear hz
                split <;> cbv
                · rename_i hz
                  have hz : b2 = false := by simpa using (hnb _).symm.trans hz
                  have hmt : meetT L gp (freeT false ⟨w1, s1, lo1, hi1', hs1⟩) (freeT false ⟨w2, s2, lo2, hi2, hs2⟩) m = false := by unfold meetT; rw [← hb2, hz, Bool.and_false]; rfl
                  rw [hT]
                  refine SGo_run hA ⟨[], [], [], []⟩ .nil .nil 200 fun T TD hT hTD => ?_
                  cbv
                  refine hBn () _ _ (by omega) (hgo hmt) ⟨congrArg I hn1, trivial⟩ ⟨rfl, rfl, rfl, rfl, rfl, rfl, rfl, rfl, trivial⟩ (.inr ⟨⟨_, rfl⟩, Nat.zero_le _, by simp [ltG, AV.lt, AV.ltL, keepS, look, gset], ⟨by simp [AObj.lt, AV.ltL, AV.lt], by simp [AObj.lt, AV.ltL, AV.lt], by simp [AObj.lt], by simp [AObj.lt, AV.ltL, AV.lt], trivial⟩⟩)
                rename_i hz
                have hz2b : b2 = true := by simpa using (hnb _).symm.trans hz
                clear hz
                have ha2 := ha2 (hb1.symm.trans hz1b)
                have hc2 := hc2 (hb2.symm.trans hz2b)
                have hla : (x1, a2) = laneT L (freeT false ⟨w1, s1, lo1, hi1', hs1⟩) m := by rw [ha2]; unfold laneT; rw [← hxx]
                have hlb : (y1, c2) = laneT L (freeT false ⟨w2, s2, lo2, hi2, hs2⟩) m := by rw [hc2]; unfold laneT; rw [← hyy]
                have ha2b : -1 ≤ a2 ∧ a2 ≤ L := by rw [ha2]; exact laneT_bnd htf hL.1 m
                have hc2b : -1 ≤ c2 ∧ c2 ≤ L := by rw [hc2]; exact laneT_bnd huf hL.1 m
                rw [hT]
                refine SGo_run hA ⟨[], [], (47, eRoadR) :: (46, eNearR) :: [], []⟩ (.cons eRoadR_ok (.cons eNearR_ok .nil)) .nil 200 fun T TD hT hTD => ?_
                cbv
                refine Exists.intro () (And.intro ⟨⟨by omega, by omega⟩, ⟨by omega, by omega⟩, by omega, by omega⟩ ?_)
                intro r1 r2 hr
                cbv
                refine Exists.intro () (And.intro ⟨⟨by omega, by omega⟩, ⟨by omega, by omega⟩, by omega, by omega⟩ ?_)
                intro r3 r4 hr2
                cbv
                have hr1b : -1000000000 ≤ r1 ∧ r1 ≤ 1000000000 := by have := roadC_bnd (w := w1) hL (x := x1) (y := a2) (by omega) ha2b; rw [← hr] at this; exact this
                have hr3b : -1000000000 ≤ r3 ∧ r3 ≤ 1000000000 := by have := roadC_bnd (w := w2) hL (x := y1) (y := c2) (by omega) hc2b; rw [← hr2] at this; exact this
                refine Exists.intro () (And.intro ⟨hr1b, hr3b, by omega, by omega⟩ ?_)
                intro p9 q9 z hzn
                cbv
                split <;> cbv
                · exact h _ _ _ _ _ _ _ 0 (fun hh => absurd hh (by omega))
                · have hmt : meetT L gp (freeT false ⟨w1, s1, lo1, hi1', hs1⟩) (freeT false ⟨w2, s2, lo2, hi2, hs2⟩) m = false := by
                    unfold meetT
                    rw [← hla, ← hlb, ← hb1, ← hb2, hz1b, hz2b, Bool.true_and, Bool.true_and]
                    show nearC (roadC L w1 (x1, a2)) (roadC L w2 (y1, c2)) gp = false
                    rw [← hr, ← hr2, ← hzn]
                  refine hBn () _ _ (by omega) (hgo hmt) ⟨congrArg I hn1, trivial⟩ ⟨rfl, rfl, rfl, rfl, rfl, rfl, rfl, rfl, trivial⟩ (.inr ⟨⟨_, rfl⟩, Nat.zero_le _, by simp [ltG, AV.lt, AV.ltL, keepS, look, gset], ⟨by simp [AObj.lt, AV.ltL, AV.lt], by simp [AObj.lt, AV.ltL, AV.lt], by simp [AObj.lt], by simp [AObj.lt, AV.ltL, AV.lt], trivial⟩⟩)
              · rename_i hz
                exact Bool.noConfusion (hz.symm.trans hcn)
            · have hiN : iN = 1 := hiN
              subst hiN
              have hcn : A.lt 1 4 = true := by rw [hll]; rfl
              refine SGo_run hA ⟨[], [], [], []⟩ .nil .nil 25 fun T TD hT hTD => ?_
              cbv
              split <;> cbv
              · rename_i hz
                clear hz
                have hsum : A.add .i64 1 0 = 1 := by subst hA; rfl
                have hcf : A.lt f (A.add .i64 1 0) = decide (f < 1) := by rw [hsum, hll]
                have hn1 : A.add .i64 1 1 = 2 := by subst hA; rfl
                split <;> cbv
                · rename_i hz
                  have hff : f < 1 := by simpa using hcf.symm.trans hz
                  rw [hT]
                  refine SGo_run hA ⟨[], [], [], []⟩ .nil .nil 200 fun T TD hT hTD => ?_
                  cbv
                  refine hBn () _ _ (by omega) (fun f' g' hh hfg => ?_) ⟨congrArg I hn1, trivial⟩ ⟨rfl, rfl, rfl, rfl, rfl, rfl, rfl, rfl, trivial⟩ (.inl rfl)
                  rcases (show ((f' = false ∧ g' = false ∧ 0 < 1) ∨ (f' = true ∧ g' = false ∧ 1 < 1) ∨ (f' = false ∧ g' = true ∧ 2 < 1) ∨ (f' = true ∧ g' = true ∧ 3 < 1)) ∨ (f' = true ∧ g' = false) by cases f' <;> cases g' <;> simp at hh ⊢) with h3 | ⟨rfl, rfl⟩
                  · exact hPn f' g' h3 hfg
                  · exfalso; simp at hfg; omega
                rename_i hz
                have hff : ¬ f < 1 := by simpa using hcf.symm.trans hz
                clear hz
                rw [hT]
                refine SGo_run hA ⟨[], [], (44, eFreeR) :: [], []⟩ (.cons eFreeR_ok .nil) .nil 2 fun T TD hT hTD => ?_
                cbv
                refine Exists.intro _ (And.intro (hYg i ii w1 s1 lo1 hi1' hs1 zt hii hxt hzt) ?_); cbv
                refine Exists.intro _ (And.intro (hYg k ik w2 s2 lo2 hi2 hs2 zu hik hxu hzu) ?_); cbv
                intro z1 hz1; cbv
                have hz1 : z1 = (freeT true ⟨w1, s1, lo1, hi1', hs1⟩).hs.map hdV := by rw [hz1]; show freeL (A.eq 1 1) zt = _; rw [hee]; first | exact hzt | rfl
                intro z2 hz2; cbv
                have hz2 : z2 = (freeT false ⟨w2, s2, lo2, hi2, hs2⟩).hs.map hdV := by rw [hz2]; show freeL (A.eq 0 1) zu = _; rw [hee]; first | exact hzu | rfl
                have htf := htt.free true
                have huf := hut.free false
                have hxb := waysT_bnd htf hL.1 m
                have hxs := stopT_bnd htf hL.1 m
                have hyb := waysT_bnd huf hL.1 m
                have hys2 := stopT_bnd huf hL.1 m
                obtain ⟨⟨x1, x2⟩, hxx⟩ : ∃ x, x = waysT L (freeT true ⟨w1, s1, lo1, hi1', hs1⟩) m := ⟨_, rfl⟩
                obtain ⟨⟨y1, y2⟩, hyy⟩ : ∃ x, x = waysT L (freeT false ⟨w2, s2, lo2, hi2, hs2⟩) m := ⟨_, rfl⟩
                have hxa : A.ix 2 2 Wt1 im [I x1, I x2] := by rw [hWt1]; have := hwx (freeT true ⟨w1, s1, lo1, hi1', hs1⟩); rw [← hxx] at this; exact this
                have hya : A.ix 2 2 Wu0 im [I y1, I y2] := by rw [hWu0]; have := hwx (freeT false ⟨w2, s2, lo2, hi2, hs2⟩); rw [← hyy] at this; exact this
                rw [← hxx] at hxb
                rw [← hyy] at hyb
                dsimp only at hxb hyb
                have hS1 := htf.hldS hL.2
                have hS2 := huf.hldS hL.2
                have hN1 := htf.hs.n
                have hN2 := huf.hs.n
                (refine And.intro (by subst hA; simp [std, Keep, SubH, ResK]) ?_; cbv)
                rw [hT]
                refine SGo_run hA ⟨[], [], (45, eOnR) :: [], []⟩ (.cons eOnR_ok .nil) .nil 2 fun T TD hT hTD => ?_
                cbv
                refine Exists.intro _ (And.intro hRt ?_); cbv
                refine Exists.intro _ (And.intro hxa ?_); cbv
                refine Exists.intro (freeT true ⟨w1, s1, lo1, hi1', hs1⟩).hs (And.intro ⟨hz1, ⟨by omega, hS1, by omega⟩, by omega, by omega⟩ ?_)
                intro a2 b1 hab
                obtain ⟨ha2, hb1⟩ := hab
                cbv
                (refine And.intro (by subst hA; simp [std, Keep, SubH, ResK]) ?_; cbv)
                rw [hT]
                refine SGo_run hA ⟨[], [], (45, eOnR) :: [], []⟩ (.cons eOnR_ok .nil) .nil 2 fun T TD hT hTD => ?_
                cbv
                refine Exists.intro _ (And.intro hRu ?_); cbv
                refine Exists.intro _ (And.intro hya ?_); cbv
                refine Exists.intro (freeT false ⟨w2, s2, lo2, hi2, hs2⟩).hs (And.intro ⟨hz2, ⟨by omega, hS2, by omega⟩, by omega, by omega⟩ ?_)
                intro c2 b2 hcb
                obtain ⟨hc2, hb2⟩ := hcb
                cbv
                (refine And.intro (by subst hA; simp [std, Keep, SubH, ResK]) ?_; cbv)
                rw [hT]
                refine SGo_run hA ⟨[], [], [], []⟩ .nil .nil 11 fun T TD hT hTD => ?_
                cbv
                have hlc := lane_cut htf hL.1 m
                have hld := lane_cut huf hL.1 m
                rw [← hxx] at hlc
                rw [← hyy] at hld
                have hb1 : b1 = isT L (freeT true ⟨w1, s1, lo1, hi1', hs1⟩) m := by rw [hb1, him]; exact hlc.1
                have ha2 : isT L (freeT true ⟨w1, s1, lo1, hi1', hs1⟩) m = true → a2 = (laneT L (freeT true ⟨w1, s1, lo1, hi1', hs1⟩) m).2 := fun hh => by rw [ha2, him]; exact hlc.2 hh
                have hb2 : b2 = isT L (freeT false ⟨w2, s2, lo2, hi2, hs2⟩) m := by rw [hb2, him]; exact hld.1
                have hc2 : isT L (freeT false ⟨w2, s2, lo2, hi2, hs2⟩) m = true → c2 = (laneT L (freeT false ⟨w2, s2, lo2, hi2, hs2⟩) m).2 := fun hh => by rw [hc2, him]; exact hld.2 hh
                clear hlc hld
                have hgo : meetT L gp (freeT true ⟨w1, s1, lo1, hi1', hs1⟩) (freeT false ⟨w2, s2, lo2, hi2, hs2⟩) m = false → ∀ f' g' : Bool, ((f' = false ∧ g' = false ∧ 0 < 2) ∨ (f' = true ∧ g' = false ∧ 1 < 2) ∨ (f' = false ∧ g' = true ∧ 2 < 2) ∨ (f' = true ∧ g' = true ∧ 3 < 2)) → (if f' then 1 else 0) + (if g' then 1 else 0) ≤ f → meetT L gp (freeT f' ⟨w1, s1, lo1, hi1', hs1⟩) (freeT g' ⟨w2, s2, lo2, hi2, hs2⟩) m = false := fun hmt f' g' hh hfg => by
                  rcases (show ((f' = false ∧ g' = false ∧ 0 < 1) ∨ (f' = true ∧ g' = false ∧ 1 < 1) ∨ (f' = false ∧ g' = true ∧ 2 < 1) ∨ (f' = true ∧ g' = true ∧ 3 < 1)) ∨ (f' = true ∧ g' = false) by cases f' <;> cases g' <;> simp at hh ⊢) with h3 | ⟨rfl, rfl⟩
                  · exact hPn f' g' h3 hfg
                  · exact hmt
                split <;> cbv
                · rename_i hz
                  have hz : b1 = false := by simpa using (hnb _).symm.trans hz
                  have hmt : meetT L gp (freeT true ⟨w1, s1, lo1, hi1', hs1⟩) (freeT false ⟨w2, s2, lo2, hi2, hs2⟩) m = false := by unfold meetT; rw [← hb1, hz]; rfl
                  rw [hT]
                  refine SGo_run hA ⟨[], [], [], []⟩ .nil .nil 200 fun T TD hT hTD => ?_
                  cbv
                  refine hBn () _ _ (by omega) (hgo hmt) ⟨congrArg I hn1, trivial⟩ ⟨rfl, rfl, rfl, rfl, rfl, rfl, rfl, rfl, trivial⟩ (.inr ⟨⟨_, rfl⟩, Nat.zero_le _, by simp [ltG, AV.lt, AV.ltL, keepS, look, gset], ⟨by simp [AObj.lt, AV.ltL, AV.lt], by simp [AObj.lt, AV.ltL, AV.lt], by simp [AObj.lt], by simp [AObj.lt, AV.ltL, AV.lt], trivial⟩⟩)
                rename_i hz
                have hz1b : b1 = true := by simpa using (hnb _).symm.trans hz
                clear hz
                split <;> cbv
                · rename_i hz
                  have hz : b2 = false := by simpa using (hnb _).symm.trans hz
                  have hmt : meetT L gp (freeT true ⟨w1, s1, lo1, hi1', hs1⟩) (freeT false ⟨w2, s2, lo2, hi2, hs2⟩) m = false := by unfold meetT; rw [← hb2, hz, Bool.and_false]; rfl
                  rw [hT]
                  refine SGo_run hA ⟨[], [], [], []⟩ .nil .nil 200 fun T TD hT hTD => ?_
                  cbv
                  refine hBn () _ _ (by omega) (hgo hmt) ⟨congrArg I hn1, trivial⟩ ⟨rfl, rfl, rfl, rfl, rfl, rfl, rfl, rfl, trivial⟩ (.inr ⟨⟨_, rfl⟩, Nat.zero_le _, by simp [ltG, AV.lt, AV.ltL, keepS, look, gset], ⟨by simp [AObj.lt, AV.ltL, AV.lt], by simp [AObj.lt, AV.ltL, AV.lt], by simp [AObj.lt], by simp [AObj.lt, AV.ltL, AV.lt], trivial⟩⟩)
                rename_i hz
                have hz2b : b2 = true := by simpa using (hnb _).symm.trans hz
                clear hz
                have ha2 := ha2 (hb1.symm.trans hz1b)
                have hc2 := hc2 (hb2.symm.trans hz2b)
                have hla : (x1, a2) = laneT L (freeT true ⟨w1, s1, lo1, hi1', hs1⟩) m := by rw [ha2]; unfold laneT; rw [← hxx]
                have hlb : (y1, c2) = laneT L (freeT false ⟨w2, s2, lo2, hi2, hs2⟩) m := by rw [hc2]; unfold laneT; rw [← hyy]
                have ha2b : -1 ≤ a2 ∧ a2 ≤ L := by rw [ha2]; exact laneT_bnd htf hL.1 m
                have hc2b : -1 ≤ c2 ∧ c2 ≤ L := by rw [hc2]; exact laneT_bnd huf hL.1 m
                rw [hT]
                refine SGo_run hA ⟨[], [], (47, eRoadR) :: (46, eNearR) :: [], []⟩ (.cons eRoadR_ok (.cons eNearR_ok .nil)) .nil 200 fun T TD hT hTD => ?_
                cbv
                refine Exists.intro () (And.intro ⟨⟨by omega, by omega⟩, ⟨by omega, by omega⟩, by omega, by omega⟩ ?_)
                intro r1 r2 hr
                cbv
                refine Exists.intro () (And.intro ⟨⟨by omega, by omega⟩, ⟨by omega, by omega⟩, by omega, by omega⟩ ?_)
                intro r3 r4 hr2
                cbv
                have hr1b : -1000000000 ≤ r1 ∧ r1 ≤ 1000000000 := by have := roadC_bnd (w := w1) hL (x := x1) (y := a2) (by omega) ha2b; rw [← hr] at this; exact this
                have hr3b : -1000000000 ≤ r3 ∧ r3 ≤ 1000000000 := by have := roadC_bnd (w := w2) hL (x := y1) (y := c2) (by omega) hc2b; rw [← hr2] at this; exact this
                refine Exists.intro () (And.intro ⟨hr1b, hr3b, by omega, by omega⟩ ?_)
                intro p9 q9 z hzn
                cbv
                split <;> cbv
                · exact h _ _ _ _ _ _ _ 0 (fun hh => absurd hh (by omega))
                · have hmt : meetT L gp (freeT true ⟨w1, s1, lo1, hi1', hs1⟩) (freeT false ⟨w2, s2, lo2, hi2, hs2⟩) m = false := by
                    unfold meetT
                    rw [← hla, ← hlb, ← hb1, ← hb2, hz1b, hz2b, Bool.true_and, Bool.true_and]
                    show nearC (roadC L w1 (x1, a2)) (roadC L w2 (y1, c2)) gp = false
                    rw [← hr, ← hr2, ← hzn]
                  refine hBn () _ _ (by omega) (hgo hmt) ⟨congrArg I hn1, trivial⟩ ⟨rfl, rfl, rfl, rfl, rfl, rfl, rfl, rfl, trivial⟩ (.inr ⟨⟨_, rfl⟩, Nat.zero_le _, by simp [ltG, AV.lt, AV.ltL, keepS, look, gset], ⟨by simp [AObj.lt, AV.ltL, AV.lt], by simp [AObj.lt, AV.ltL, AV.lt], by simp [AObj.lt], by simp [AObj.lt, AV.ltL, AV.lt], trivial⟩⟩)
              · rename_i hz
                exact Bool.noConfusion (hz.symm.trans hcn)
            · have hiN : iN = 2 := hiN
              subst hiN
              have hcn : A.lt 2 4 = true := by rw [hll]; rfl
              refine SGo_run hA ⟨[], [], [], []⟩ .nil .nil 25 fun T TD hT hTD => ?_
              cbv
              split <;> cbv
              · rename_i hz
                clear hz
                have hsum : A.add .i64 0 1 = 1 := by subst hA; rfl
                have hcf : A.lt f (A.add .i64 0 1) = decide (f < 1) := by rw [hsum, hll]
                have hn1 : A.add .i64 2 1 = 3 := by subst hA; rfl
                split <;> cbv
                · rename_i hz
                  have hff : f < 1 := by simpa using hcf.symm.trans hz
                  rw [hT]
                  refine SGo_run hA ⟨[], [], [], []⟩ .nil .nil 200 fun T TD hT hTD => ?_
                  cbv
                  refine hBn () _ _ (by omega) (fun f' g' hh hfg => ?_) ⟨congrArg I hn1, trivial⟩ ⟨rfl, rfl, rfl, rfl, rfl, rfl, rfl, rfl, trivial⟩ (.inl rfl)
                  rcases (show ((f' = false ∧ g' = false ∧ 0 < 2) ∨ (f' = true ∧ g' = false ∧ 1 < 2) ∨ (f' = false ∧ g' = true ∧ 2 < 2) ∨ (f' = true ∧ g' = true ∧ 3 < 2)) ∨ (f' = false ∧ g' = true) by cases f' <;> cases g' <;> simp at hh ⊢) with h3 | ⟨rfl, rfl⟩
                  · exact hPn f' g' h3 hfg
                  · exfalso; simp at hfg; omega
                rename_i hz
                have hff : ¬ f < 1 := by simpa using hcf.symm.trans hz
                clear hz
                rw [hT]
                refine SGo_run hA ⟨[], [], (44, eFreeR) :: [], []⟩ (.cons eFreeR_ok .nil) .nil 2 fun T TD hT hTD => ?_
                cbv
                refine Exists.intro _ (And.intro (hYg i ii w1 s1 lo1 hi1' hs1 zt hii hxt hzt) ?_); cbv
                refine Exists.intro _ (And.intro (hYg k ik w2 s2 lo2 hi2 hs2 zu hik hxu hzu) ?_); cbv
                intro z1 hz1; cbv
                have hz1 : z1 = (freeT false ⟨w1, s1, lo1, hi1', hs1⟩).hs.map hdV := by rw [hz1]; show freeL (A.eq 0 1) zt = _; rw [hee]; first | exact hzt | rfl
                intro z2 hz2; cbv
                have hz2 : z2 = (freeT true ⟨w2, s2, lo2, hi2, hs2⟩).hs.map hdV := by rw [hz2]; show freeL (A.eq 1 1) zu = _; rw [hee]; first | exact hzu | rfl
                have htf := htt.free false
                have huf := hut.free true
                have hxb := waysT_bnd htf hL.1 m
                have hxs := stopT_bnd htf hL.1 m
                have hyb := waysT_bnd huf hL.1 m
                have hys2 := stopT_bnd huf hL.1 m
                obtain ⟨⟨x1, x2⟩, hxx⟩ : ∃ x, x = waysT L (freeT false ⟨w1, s1, lo1, hi1', hs1⟩) m := ⟨_, rfl⟩
                obtain ⟨⟨y1, y2⟩, hyy⟩ : ∃ x, x = waysT L (freeT true ⟨w2, s2, lo2, hi2, hs2⟩) m := ⟨_, rfl⟩
                have hxa : A.ix 2 2 Wt0 im [I x1, I x2] := by rw [hWt0]; have := hwx (freeT false ⟨w1, s1, lo1, hi1', hs1⟩); rw [← hxx] at this; exact this
                have hya : A.ix 2 2 Wu1 im [I y1, I y2] := by rw [hWu1]; have := hwx (freeT true ⟨w2, s2, lo2, hi2, hs2⟩); rw [← hyy] at this; exact this
                rw [← hxx] at hxb
                rw [← hyy] at hyb
                dsimp only at hxb hyb
                have hS1 := htf.hldS hL.2
                have hS2 := huf.hldS hL.2
                have hN1 := htf.hs.n
                have hN2 := huf.hs.n
                (refine And.intro (by subst hA; simp [std, Keep, SubH, ResK]) ?_; cbv)
                rw [hT]
                refine SGo_run hA ⟨[], [], (45, eOnR) :: [], []⟩ (.cons eOnR_ok .nil) .nil 2 fun T TD hT hTD => ?_
                cbv
                refine Exists.intro _ (And.intro hRt ?_); cbv
                refine Exists.intro _ (And.intro hxa ?_); cbv
                refine Exists.intro (freeT false ⟨w1, s1, lo1, hi1', hs1⟩).hs (And.intro ⟨hz1, ⟨by omega, hS1, by omega⟩, by omega, by omega⟩ ?_)
                intro a2 b1 hab
                obtain ⟨ha2, hb1⟩ := hab
                cbv
                (refine And.intro (by subst hA; simp [std, Keep, SubH, ResK]) ?_; cbv)
                rw [hT]
                refine SGo_run hA ⟨[], [], (45, eOnR) :: [], []⟩ (.cons eOnR_ok .nil) .nil 2 fun T TD hT hTD => ?_
                cbv
                refine Exists.intro _ (And.intro hRu ?_); cbv
                refine Exists.intro _ (And.intro hya ?_); cbv
                refine Exists.intro (freeT true ⟨w2, s2, lo2, hi2, hs2⟩).hs (And.intro ⟨hz2, ⟨by omega, hS2, by omega⟩, by omega, by omega⟩ ?_)
                intro c2 b2 hcb
                obtain ⟨hc2, hb2⟩ := hcb
                cbv
                (refine And.intro (by subst hA; simp [std, Keep, SubH, ResK]) ?_; cbv)
                rw [hT]
                refine SGo_run hA ⟨[], [], [], []⟩ .nil .nil 11 fun T TD hT hTD => ?_
                cbv
                have hlc := lane_cut htf hL.1 m
                have hld := lane_cut huf hL.1 m
                rw [← hxx] at hlc
                rw [← hyy] at hld
                have hb1 : b1 = isT L (freeT false ⟨w1, s1, lo1, hi1', hs1⟩) m := by rw [hb1, him]; exact hlc.1
                have ha2 : isT L (freeT false ⟨w1, s1, lo1, hi1', hs1⟩) m = true → a2 = (laneT L (freeT false ⟨w1, s1, lo1, hi1', hs1⟩) m).2 := fun hh => by rw [ha2, him]; exact hlc.2 hh
                have hb2 : b2 = isT L (freeT true ⟨w2, s2, lo2, hi2, hs2⟩) m := by rw [hb2, him]; exact hld.1
                have hc2 : isT L (freeT true ⟨w2, s2, lo2, hi2, hs2⟩) m = true → c2 = (laneT L (freeT true ⟨w2, s2, lo2, hi2, hs2⟩) m).2 := fun hh => by rw [hc2, him]; exact hld.2 hh
                clear hlc hld
                have hgo : meetT L gp (freeT false ⟨w1, s1, lo1, hi1', hs1⟩) (freeT true ⟨w2, s2, lo2, hi2, hs2⟩) m = false → ∀ f' g' : Bool, ((f' = false ∧ g' = false ∧ 0 < 3) ∨ (f' = true ∧ g' = false ∧ 1 < 3) ∨ (f' = false ∧ g' = true ∧ 2 < 3) ∨ (f' = true ∧ g' = true ∧ 3 < 3)) → (if f' then 1 else 0) + (if g' then 1 else 0) ≤ f → meetT L gp (freeT f' ⟨w1, s1, lo1, hi1', hs1⟩) (freeT g' ⟨w2, s2, lo2, hi2, hs2⟩) m = false := fun hmt f' g' hh hfg => by
                  rcases (show ((f' = false ∧ g' = false ∧ 0 < 2) ∨ (f' = true ∧ g' = false ∧ 1 < 2) ∨ (f' = false ∧ g' = true ∧ 2 < 2) ∨ (f' = true ∧ g' = true ∧ 3 < 2)) ∨ (f' = false ∧ g' = true) by cases f' <;> cases g' <;> simp at hh ⊢) with h3 | ⟨rfl, rfl⟩
                  · exact hPn f' g' h3 hfg
                  · exact hmt
                split <;> cbv
                · rename_i hz
                  have hz : b1 = false := by simpa using (hnb _).symm.trans hz
                  have hmt : meetT L gp (freeT false ⟨w1, s1, lo1, hi1', hs1⟩) (freeT true ⟨w2, s2, lo2, hi2, hs2⟩) m = false := by unfold meetT; rw [← hb1, hz]; rfl
                  rw [hT]
                  refine SGo_run hA ⟨[], [], [], []⟩ .nil .nil 200 fun T TD hT hTD => ?_
                  cbv
                  refine hBn () _ _ (by omega) (hgo hmt) ⟨congrArg I hn1, trivial⟩ ⟨rfl, rfl, rfl, rfl, rfl, rfl, rfl, rfl, trivial⟩ (.inr ⟨⟨_, rfl⟩, Nat.zero_le _, by simp [ltG, AV.lt, AV.ltL, keepS, look, gset], ⟨by simp [AObj.lt, AV.ltL, AV.lt], by simp [AObj.lt, AV.ltL, AV.lt], by simp [AObj.lt], by simp [AObj.lt, AV.ltL, AV.lt], trivial⟩⟩)
                rename_i hz
                have hz1b : b1 = true := by simpa using (hnb _).symm.trans hz
                clear hz
                split <;> cbv
                · rename_i hz
                  have hz : b2 = false := by simpa using (hnb _).symm.trans hz
                  have hmt : meetT L gp (freeT false ⟨w1, s1, lo1, hi1', hs1⟩) (freeT true ⟨w2, s2, lo2, hi2, hs2⟩) m = false := by unfold meetT; rw [← hb2, hz, Bool.and_false]; rfl
                  rw [hT]
                  refine SGo_run hA ⟨[], [], [], []⟩ .nil .nil 200 fun T TD hT hTD => ?_
                  cbv
                  refine hBn () _ _ (by omega) (hgo hmt) ⟨congrArg I hn1, trivial⟩ ⟨rfl, rfl, rfl, rfl, rfl, rfl, rfl, rfl, trivial⟩ (.inr ⟨⟨_, rfl⟩, Nat.zero_le _, by simp [ltG, AV.lt, AV.ltL, keepS, look, gset], ⟨by simp [AObj.lt, AV.ltL, AV.lt], by simp [AObj.lt, AV.ltL, AV.lt], by simp [AObj.lt], by simp [AObj.lt, AV.ltL, AV.lt], trivial⟩⟩)
                rename_i hz
                have hz2b : b2 = true := by simpa using (hnb _).symm.trans hz
                clear hz
                have ha2 := ha2 (hb1.symm.trans hz1b)
                have hc2 := hc2 (hb2.symm.trans hz2b)
                have hla : (x1, a2) = laneT L (freeT false ⟨w1, s1, lo1, hi1', hs1⟩) m := by rw [ha2]; unfold laneT; rw [← hxx]
                have hlb : (y1, c2) = laneT L (freeT true ⟨w2, s2, lo2, hi2, hs2⟩) m := by rw [hc2]; unfold laneT; rw [← hyy]
                have ha2b : -1 ≤ a2 ∧ a2 ≤ L := by rw [ha2]; exact laneT_bnd htf hL.1 m
                have hc2b : -1 ≤ c2 ∧ c2 ≤ L := by rw [hc2]; exact laneT_bnd huf hL.1 m
                rw [hT]
                refine SGo_run hA ⟨[], [], (47, eRoadR) :: (46, eNearR) :: [], []⟩ (.cons eRoadR_ok (.cons eNearR_ok .nil)) .nil 200 fun T TD hT hTD => ?_
                cbv
                refine Exists.intro () (And.intro ⟨⟨by omega, by omega⟩, ⟨by omega, by omega⟩, by omega, by omega⟩ ?_)
                intro r1 r2 hr
                cbv
                refine Exists.intro () (And.intro ⟨⟨by omega, by omega⟩, ⟨by omega, by omega⟩, by omega, by omega⟩ ?_)
                intro r3 r4 hr2
                cbv
                have hr1b : -1000000000 ≤ r1 ∧ r1 ≤ 1000000000 := by have := roadC_bnd (w := w1) hL (x := x1) (y := a2) (by omega) ha2b; rw [← hr] at this; exact this
                have hr3b : -1000000000 ≤ r3 ∧ r3 ≤ 1000000000 := by have := roadC_bnd (w := w2) hL (x := y1) (y := c2) (by omega) hc2b; rw [← hr2] at this; exact this
                refine Exists.intro () (And.intro ⟨hr1b, hr3b, by omega, by omega⟩ ?_)
                intro p9 q9 z hzn
                cbv
                split <;> cbv
                · exact h _ _ _ _ _ _ _ 0 (fun hh => absurd hh (by omega))
                · have hmt : meetT L gp (freeT false ⟨w1, s1, lo1, hi1', hs1⟩) (freeT true ⟨w2, s2, lo2, hi2, hs2⟩) m = false := by
                    unfold meetT
                    rw [← hla, ← hlb, ← hb1, ← hb2, hz1b, hz2b, Bool.true_and, Bool.true_and]
                    show nearC (roadC L w1 (x1, a2)) (roadC L w2 (y1, c2)) gp = false
                    rw [← hr, ← hr2, ← hzn]
                  refine hBn () _ _ (by omega) (hgo hmt) ⟨congrArg I hn1, trivial⟩ ⟨rfl, rfl, rfl, rfl, rfl, rfl, rfl, rfl, trivial⟩ (.inr ⟨⟨_, rfl⟩, Nat.zero_le _, by simp [ltG, AV.lt, AV.ltL, keepS, look, gset], ⟨by simp [AObj.lt, AV.ltL, AV.lt], by simp [AObj.lt, AV.ltL, AV.lt], by simp [AObj.lt], by simp [AObj.lt, AV.ltL, AV.lt], trivial⟩⟩)
              · rename_i hz
                exact Bool.noConfusion (hz.symm.trans hcn)
            · have hiN : iN = 3 := hiN
              subst hiN
              have hcn : A.lt 3 4 = true := by rw [hll]; rfl
              refine SGo_run hA ⟨[], [], [], []⟩ .nil .nil 25 fun T TD hT hTD => ?_
              cbv
              split <;> cbv
              · rename_i hz
                clear hz
                have hsum : A.add .i64 1 1 = 2 := by subst hA; rfl
                have hcf : A.lt f (A.add .i64 1 1) = decide (f < 2) := by rw [hsum, hll]
                have hn1 : A.add .i64 3 1 = 4 := by subst hA; rfl
                split <;> cbv
                · rename_i hz
                  have hff : f < 2 := by simpa using hcf.symm.trans hz
                  rw [hT]
                  refine SGo_run hA ⟨[], [], [], []⟩ .nil .nil 200 fun T TD hT hTD => ?_
                  cbv
                  refine hBn () _ _ (by omega) (fun f' g' hh hfg => ?_) ⟨congrArg I hn1, trivial⟩ ⟨rfl, rfl, rfl, rfl, rfl, rfl, rfl, rfl, trivial⟩ (.inl rfl)
                  rcases (show ((f' = false ∧ g' = false ∧ 0 < 3) ∨ (f' = true ∧ g' = false ∧ 1 < 3) ∨ (f' = false ∧ g' = true ∧ 2 < 3) ∨ (f' = true ∧ g' = true ∧ 3 < 3)) ∨ (f' = true ∧ g' = true) by cases f' <;> cases g' <;> simp at hh ⊢) with h3 | ⟨rfl, rfl⟩
                  · exact hPn f' g' h3 hfg
                  · exfalso; simp at hfg; omega
                rename_i hz
                have hff : ¬ f < 2 := by simpa using hcf.symm.trans hz
                clear hz
                rw [hT]
                refine SGo_run hA ⟨[], [], (44, eFreeR) :: [], []⟩ (.cons eFreeR_ok .nil) .nil 2 fun T TD hT hTD => ?_
                cbv
                refine Exists.intro _ (And.intro (hYg i ii w1 s1 lo1 hi1' hs1 zt hii hxt hzt) ?_); cbv
                refine Exists.intro _ (And.intro (hYg k ik w2 s2 lo2 hi2 hs2 zu hik hxu hzu) ?_); cbv
                intro z1 hz1; cbv
                have hz1 : z1 = (freeT true ⟨w1, s1, lo1, hi1', hs1⟩).hs.map hdV := by rw [hz1]; show freeL (A.eq 1 1) zt = _; rw [hee]; first | exact hzt | rfl
                intro z2 hz2; cbv
                have hz2 : z2 = (freeT true ⟨w2, s2, lo2, hi2, hs2⟩).hs.map hdV := by rw [hz2]; show freeL (A.eq 1 1) zu = _; rw [hee]; first | exact hzu | rfl
                have htf := htt.free true
                have huf := hut.free true
                have hxb := waysT_bnd htf hL.1 m
                have hxs := stopT_bnd htf hL.1 m
                have hyb := waysT_bnd huf hL.1 m
                have hys2 := stopT_bnd huf hL.1 m
                obtain ⟨⟨x1, x2⟩, hxx⟩ : ∃ x, x = waysT L (freeT true ⟨w1, s1, lo1, hi1', hs1⟩) m := ⟨_, rfl⟩
                obtain ⟨⟨y1, y2⟩, hyy⟩ : ∃ x, x = waysT L (freeT true ⟨w2, s2, lo2, hi2, hs2⟩) m := ⟨_, rfl⟩
                have hxa : A.ix 2 2 Wt1 im [I x1, I x2] := by rw [hWt1]; have := hwx (freeT true ⟨w1, s1, lo1, hi1', hs1⟩); rw [← hxx] at this; exact this
                have hya : A.ix 2 2 Wu1 im [I y1, I y2] := by rw [hWu1]; have := hwx (freeT true ⟨w2, s2, lo2, hi2, hs2⟩); rw [← hyy] at this; exact this
                rw [← hxx] at hxb
                rw [← hyy] at hyb
                dsimp only at hxb hyb
                have hS1 := htf.hldS hL.2
                have hS2 := huf.hldS hL.2
                have hN1 := htf.hs.n
                have hN2 := huf.hs.n
                (refine And.intro (by subst hA; simp [std, Keep, SubH, ResK]) ?_; cbv)
                rw [hT]
                refine SGo_run hA ⟨[], [], (45, eOnR) :: [], []⟩ (.cons eOnR_ok .nil) .nil 2 fun T TD hT hTD => ?_
                cbv
                refine Exists.intro _ (And.intro hRt ?_); cbv
                refine Exists.intro _ (And.intro hxa ?_); cbv
                refine Exists.intro (freeT true ⟨w1, s1, lo1, hi1', hs1⟩).hs (And.intro ⟨hz1, ⟨by omega, hS1, by omega⟩, by omega, by omega⟩ ?_)
                intro a2 b1 hab
                obtain ⟨ha2, hb1⟩ := hab
                cbv
                (refine And.intro (by subst hA; simp [std, Keep, SubH, ResK]) ?_; cbv)
                rw [hT]
                refine SGo_run hA ⟨[], [], (45, eOnR) :: [], []⟩ (.cons eOnR_ok .nil) .nil 2 fun T TD hT hTD => ?_
                cbv
                refine Exists.intro _ (And.intro hRu ?_); cbv
                refine Exists.intro _ (And.intro hya ?_); cbv
                refine Exists.intro (freeT true ⟨w2, s2, lo2, hi2, hs2⟩).hs (And.intro ⟨hz2, ⟨by omega, hS2, by omega⟩, by omega, by omega⟩ ?_)
                intro c2 b2 hcb
                obtain ⟨hc2, hb2⟩ := hcb
                cbv
                (refine And.intro (by subst hA; simp [std, Keep, SubH, ResK]) ?_; cbv)
                rw [hT]
                refine SGo_run hA ⟨[], [], [], []⟩ .nil .nil 11 fun T TD hT hTD => ?_
                cbv
                have hlc := lane_cut htf hL.1 m
                have hld := lane_cut huf hL.1 m
                rw [← hxx] at hlc
                rw [← hyy] at hld
                have hb1 : b1 = isT L (freeT true ⟨w1, s1, lo1, hi1', hs1⟩) m := by rw [hb1, him]; exact hlc.1
                have ha2 : isT L (freeT true ⟨w1, s1, lo1, hi1', hs1⟩) m = true → a2 = (laneT L (freeT true ⟨w1, s1, lo1, hi1', hs1⟩) m).2 := fun hh => by rw [ha2, him]; exact hlc.2 hh
                have hb2 : b2 = isT L (freeT true ⟨w2, s2, lo2, hi2, hs2⟩) m := by rw [hb2, him]; exact hld.1
                have hc2 : isT L (freeT true ⟨w2, s2, lo2, hi2, hs2⟩) m = true → c2 = (laneT L (freeT true ⟨w2, s2, lo2, hi2, hs2⟩) m).2 := fun hh => by rw [hc2, him]; exact hld.2 hh
                clear hlc hld
                have hgo : meetT L gp (freeT true ⟨w1, s1, lo1, hi1', hs1⟩) (freeT true ⟨w2, s2, lo2, hi2, hs2⟩) m = false → ∀ f' g' : Bool, ((f' = false ∧ g' = false ∧ 0 < 4) ∨ (f' = true ∧ g' = false ∧ 1 < 4) ∨ (f' = false ∧ g' = true ∧ 2 < 4) ∨ (f' = true ∧ g' = true ∧ 3 < 4)) → (if f' then 1 else 0) + (if g' then 1 else 0) ≤ f → meetT L gp (freeT f' ⟨w1, s1, lo1, hi1', hs1⟩) (freeT g' ⟨w2, s2, lo2, hi2, hs2⟩) m = false := fun hmt f' g' hh hfg => by
                  rcases (show ((f' = false ∧ g' = false ∧ 0 < 3) ∨ (f' = true ∧ g' = false ∧ 1 < 3) ∨ (f' = false ∧ g' = true ∧ 2 < 3) ∨ (f' = true ∧ g' = true ∧ 3 < 3)) ∨ (f' = true ∧ g' = true) by cases f' <;> cases g' <;> simp at hh ⊢) with h3 | ⟨rfl, rfl⟩
                  · exact hPn f' g' h3 hfg
                  · exact hmt
                split <;> cbv
                · rename_i hz
                  have hz : b1 = false := by simpa using (hnb _).symm.trans hz
                  have hmt : meetT L gp (freeT true ⟨w1, s1, lo1, hi1', hs1⟩) (freeT true ⟨w2, s2, lo2, hi2, hs2⟩) m = false := by unfold meetT; rw [← hb1, hz]; rfl
                  rw [hT]
                  refine SGo_run hA ⟨[], [], [], []⟩ .nil .nil 200 fun T TD hT hTD => ?_
                  cbv
                  refine hBn () _ _ (by omega) (hgo hmt) ⟨congrArg I hn1, trivial⟩ ⟨rfl, rfl, rfl, rfl, rfl, rfl, rfl, rfl, trivial⟩ (.inr ⟨⟨_, rfl⟩, Nat.zero_le _, by simp [ltG, AV.lt, AV.ltL, keepS, look, gset], ⟨by simp [AObj.lt, AV.ltL, AV.lt], by simp [AObj.lt, AV.ltL, AV.lt], by simp [AObj.lt], by simp [AObj.lt, AV.ltL, AV.lt], trivial⟩⟩)
                rename_i hz
                have hz1b : b1 = true := by simpa using (hnb _).symm.trans hz
                clear hz
                split <;> cbv
                · rename_i hz
                  have hz : b2 = false := by simpa using (hnb _).symm.trans hz
                  have hmt : meetT L gp (freeT true ⟨w1, s1, lo1, hi1', hs1⟩) (freeT true ⟨w2, s2, lo2, hi2, hs2⟩) m = false := by unfold meetT; rw [← hb2, hz, Bool.and_false]; rfl
                  rw [hT]
                  refine SGo_run hA ⟨[], [], [], []⟩ .nil .nil 200 fun T TD hT hTD => ?_
                  cbv
                  refine hBn () _ _ (by omega) (hgo hmt) ⟨congrArg I hn1, trivial⟩ ⟨rfl, rfl, rfl, rfl, rfl, rfl, rfl, rfl, trivial⟩ (.inr ⟨⟨_, rfl⟩, Nat.zero_le _, by simp [ltG, AV.lt, AV.ltL, keepS, look, gset], ⟨by simp [AObj.lt, AV.ltL, AV.lt], by simp [AObj.lt, AV.ltL, AV.lt], by simp [AObj.lt], by simp [AObj.lt, AV.ltL, AV.lt], trivial⟩⟩)
                rename_i hz
                have hz2b : b2 = true := by simpa using (hnb _).symm.trans hz
                clear hz
                have ha2 := ha2 (hb1.symm.trans hz1b)
                have hc2 := hc2 (hb2.symm.trans hz2b)
                have hla : (x1, a2) = laneT L (freeT true ⟨w1, s1, lo1, hi1', hs1⟩) m := by rw [ha2]; unfold laneT; rw [← hxx]
                have hlb : (y1, c2) = laneT L (freeT true ⟨w2, s2, lo2, hi2, hs2⟩) m := by rw [hc2]; unfold laneT; rw [← hyy]
                have ha2b : -1 ≤ a2 ∧ a2 ≤ L := by rw [ha2]; exact laneT_bnd htf hL.1 m
                have hc2b : -1 ≤ c2 ∧ c2 ≤ L := by rw [hc2]; exact laneT_bnd huf hL.1 m
                rw [hT]
                refine SGo_run hA ⟨[], [], (47, eRoadR) :: (46, eNearR) :: [], []⟩ (.cons eRoadR_ok (.cons eNearR_ok .nil)) .nil 200 fun T TD hT hTD => ?_
                cbv
                refine Exists.intro () (And.intro ⟨⟨by omega, by omega⟩, ⟨by omega, by omega⟩, by omega, by omega⟩ ?_)
                intro r1 r2 hr
                cbv
                refine Exists.intro () (And.intro ⟨⟨by omega, by omega⟩, ⟨by omega, by omega⟩, by omega, by omega⟩ ?_)
                intro r3 r4 hr2
                cbv
                have hr1b : -1000000000 ≤ r1 ∧ r1 ≤ 1000000000 := by have := roadC_bnd (w := w1) hL (x := x1) (y := a2) (by omega) ha2b; rw [← hr] at this; exact this
                have hr3b : -1000000000 ≤ r3 ∧ r3 ≤ 1000000000 := by have := roadC_bnd (w := w2) hL (x := y1) (y := c2) (by omega) hc2b; rw [← hr2] at this; exact this
                refine Exists.intro () (And.intro ⟨hr1b, hr3b, by omega, by omega⟩ ?_)
                intro p9 q9 z hzn
                cbv
                split <;> cbv
                · exact h _ _ _ _ _ _ _ 0 (fun hh => absurd hh (by omega))
                · have hmt : meetT L gp (freeT true ⟨w1, s1, lo1, hi1', hs1⟩) (freeT true ⟨w2, s2, lo2, hi2, hs2⟩) m = false := by
                    unfold meetT
                    rw [← hla, ← hlb, ← hb1, ← hb2, hz1b, hz2b, Bool.true_and, Bool.true_and]
                    show nearC (roadC L w1 (x1, a2)) (roadC L w2 (y1, c2)) gp = false
                    rw [← hr, ← hr2, ← hzn]
                  refine hBn () _ _ (by omega) (hgo hmt) ⟨congrArg I hn1, trivial⟩ ⟨rfl, rfl, rfl, rfl, rfl, rfl, rfl, rfl, trivial⟩ (.inr ⟨⟨_, rfl⟩, Nat.zero_le _, by simp [ltG, AV.lt, AV.ltL, keepS, look, gset], ⟨by simp [AObj.lt, AV.ltL, AV.lt], by simp [AObj.lt, AV.ltL, AV.lt], by simp [AObj.lt], by simp [AObj.lt, AV.ltL, AV.lt], trivial⟩⟩)
              · rename_i hz
                exact Bool.noConfusion (hz.symm.trans hcn)
            · have hiN : iN = 4 := hiN
              subst hiN
              have hcn : A.lt 4 4 = false := by rw [hll]; rfl
              refine SGo_run hA ⟨[], [1000088], [], []⟩ .nil .nil 200 fun T TD hT hTD => ?_
              cbv
              split <;> cbv
              · rename_i hz
                exact Bool.noConfusion (hcn.symm.trans hz)
              · refine hBj () _ _ (by omega) (fun k' h1 h2 => ?_) ⟨congrArg I ((hadd1 k ik hik (by omega)).trans (by rw [hk]; rfl)), trivial⟩ ⟨rfl, rfl, rfl, rfl, rfl, rfl, rfl, trivial⟩ (.inl rfl)
                rcases Nat.lt_or_ge k' k with h3 | h3
                · exact hPj k' h1 (by omega)
                · rw [show k' = k by omega, hFine]
                  intro t' u' ht' hu' f' g' hfg
                  rw [hxt] at ht'; cases ht'
                  rw [hxu] at hu'; cases hu'
                  exact hPn f' g' (by cases f' <;> cases g' <;> simp) hfg
          · rename_i hz
            have hk1 : ¬ k < trs.length := by simpa using hck.symm.trans hz
            refine hBi () _ _ hi1 (fun i' h1 k' h2 => ?_) ⟨congrArg I (hadd1 i ii hii (by omega)), trivial⟩ ⟨rfl, rfl, rfl, rfl, rfl, rfl, trivial⟩ (.inl rfl)
            rcases Nat.lt_or_ge i' i with h3 | h3
            · exact hPi i' h3 k' h2
            · rw [show i' = i by omega]
              rcases Nat.lt_or_ge k' k with h4 | h4
              · exact hPj k' (by omega) (by omega)
              · rw [hFine]
                intro t' u' ht' hu'
                rw [List.getElem?_eq_none (by omega)] at hu'; cases hu'
        · rename_i hz
          have hi1 : ¬ i < trs.length := by simpa using hci.symm.trans hz
          refine hBm () _ _ hm1 (fun m' h1 i' k' h2 => ?_) ⟨congrArg I (hadd1 m im him (by omega)), trivial⟩ ⟨rfl, rfl, rfl, rfl, rfl, trivial⟩ (.inl rfl)
          rcases Nat.lt_or_ge m' m with h3 | h3
          · exact hPm m' h3 i' k' h2
          · rw [show m' = m by omega]
            rcases Nat.lt_or_ge i' i with h4 | h4
            · exact hPi i' h4 k' h2
            · rw [hFine]
              intro t' u' ht'
              rw [List.getElem?_eq_none (by omega)] at ht'; cases ht'
      · rename_i hz
        have hm1 : ¬ m < e + 1 := by simpa using hcm.symm.trans hz
        refine h 0 0 0 0 0 false false 7 fun _ => ⟨hV, e, he1, he2, ?_⟩
        intro m' hm' i' k' t' u' hik ht' hu' f' g' hfg
        have := hPm m' (by omega) i' k' hik
        rw [hFine] at this
        exact this t' u' ht' hu' f' g' hfg
  have h3 : PCalls Tryz.prog 21 [cvyV c.len c.gap c.fails (.vs 5 (c.trs.map tkA))] (fun r => ∃ (a1 a2 a3 a6 a7 : Int) (a4 a5 : Bool) (e : Int), (e = 7 → AccQ c) ∧ r = .tup [.agg [I a1, I a2, I a3, B a4, B a5, I a6, I a7], I e]) :=
    h2.mono fun r H' hh => by obtain ⟨a1, a2, a3, a6, a7, a4, a5, e, h1, h3, rfl⟩ := hh; exact ⟨rfl, by rw [h3]; rfl, _, _, _, _, _, _, _, _, h1, h3⟩
  exact (h3.calls rfl H).mono fun r H' hh => by obtain ⟨rfl, _, a1, a2, a3, a6, a7, a4, a5, e, h1, rfl⟩ := hh; exact h _ _ _ _ _ _ _ _ h1
end Go.Sas
