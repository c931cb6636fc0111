/-
What is to be known of each truck's ways: contract of the program's function.
Trucks that never meet: contract of the program's function.
Conditions: none.
-/
import Derived.Test.YtndnjmpebpampaaGreatDoorWG
import Derived.Test.YtndnjmpebpampaaGreatDoorWC
import Derived.Test.YtndnjmpebpampaaGreatDoorWE
set_option linter.unusedVariables false
set_option linter.unusedSimpArgs false
namespace Go.Sas
open Go.Proofs
set_option maxRecDepth 100000
def eTrk : List AV → Option ((AV → Prop) → Prop)
  | [.agg [.lit (.int .i64 w), .lit (.int .i64 s), .lit (.int .i64 lo), .lit (.int .i64 hi), .vs 2 ys, .lit (.int .i64 L)]] =>
    some fun K => ∃ (hs : List Hld) (gp : Int), (ys = hs.map hdV ∧ TckV L gp ⟨w, s, lo, hi, hs⟩ ∧ 1 ≤ L ∧ L ≤ 100000) ∧ ∀ zs, zs = (gonL L ⟨w, s, lo, hi, hs⟩).map sp2 → K (.agg [I w, I s, I lo, I hi, .vs 2 ys, I L, .vs 2 zs])
  | _ => none
theorem eTrk_ok : ∀ args pt, eTrk args = some pt → ∀ (H : AHeap) (Kk : AV → AHeap → Prop), pt (fun r => Kk r H) → ACalls Tryz.prog 68 args H Kk := by
  intro args pt h H Kk hk
  unfold eTrk at h
  split at h
  · cases h
    obtain ⟨hs, gp, ⟨rfl, h1, h2⟩, h3⟩ := hk
    exact p68 _ gp ⟨_, _, _, _, hs⟩ h1 h2 H (h3 _ rfl)
  · cases h
noncomputable abbrev lnC (L : Int) (t : Tck) : List AV := tkC L t ++ tkC L (freeT true t)
noncomputable abbrev lnV (L : Int) (t : Tck) : AV := .agg (lnC L t)
theorem tkC_nid {L : Int} {t : Tck} : AV.nidL (tkC L t) = true := by
  simp [AV.nidL, AV.nid, nidL_hd t.hs, nidL_map (g := sp2) (fun _ => rfl) (gonL L t)]
theorem lnC_nid {L : Int} : ∀ l : List Tck, AV.nidL (l.flatMap (lnC L)) = true := fun l => nidL_flat (fun t => nidL_app tkC_nid tkC_nid) l
theorem lnC_len {L : Int} : ∀ l : List Tck, (l.flatMap (lnC L)).length = l.length * 14
  | [] => rfl
  | x :: l => by rw [List.flatMap_cons, List.length_append, lnC_len l, List.length_cons]; simp; omega
theorem p50 (c : Cvy) (hV : CvyV c) (H : AHeap) {Kk : AV → AHeap → Prop} (h : Kk (.vs 14 (c.trs.map (lnV c.len))) H) : ACalls Tryz.prog 50 [cvyV c.len c.gap c.fails (.vs 5 (c.trs.map tkA))] H Kk := by
  refine (fun q => pureF (by rfl) (by rfl) q H h) ?_
  clear h
  intro Kk h
  have v1 := hV.len
  have v4 := hV.n
  have v5 := hV.all
  obtain ⟨L, gp, f, trs⟩ := c
  dsimp only at v1 v4 v5 h ⊢
  obtain ⟨ys, hys⟩ : ∃ ys, ys = trs.map tkA := ⟨_, rfl⟩
  rw [← hys]
  obtain ⟨CS, hCS⟩ : ∃ f : Nat → List AV, f = fun j => (trs.take j).flatMap (lnC L) := ⟨_, rfl⟩
  have hC0 : CS 0 = [] := by rw [hCS]; rfl
  have hCl : ∀ j, j ≤ trs.length → (CS j).length = j * 14 := fun j hj => by rw [hCS]; dsimp only; rw [lnC_len, List.length_take, Nat.min_eq_left hj]
  have hCs : ∀ j t, trs[j]? = some t → CS (j + 1) = CS j ++ lnC L t := fun j t hx => by
    obtain ⟨h1, h2⟩ := List.getElem?_eq_some_iff.1 hx
    rw [hCS]; dsimp only; rw [List.take_succ_eq_append_getElem h1, List.flatMap_append, h2]; simp
  have hCn : ∀ j, AV.nidL (CS j) = true := fun j => by rw [hCS]; exact lnC_nid _
  have hCe : Elems 14 (trs.map (lnV L)) (CS trs.length) := by
    rw [hCS]; dsimp only; rw [List.take_length]
    exact Elems_map (f := lnV L) (g := lnC L) (sz := 14) (fun _ => rfl) (fun _ => rfl) (fun _ => rfl) trs
  obtain ⟨XS, hXS⟩ : ∃ X, X = trs.map (lnV L) := ⟨_, rfl⟩
  have hXl : XS.length = trs.length := by rw [hXS, List.length_map]
  rw [← hXS] at h hCe
  clear hCS hXS
  obtain ⟨F, hF⟩ : ∃ F, F = Frees 0 Kk := ⟨_, rfl⟩
  rw [← hF]
  obtain ⟨A, hA⟩ : ∃ A, A = std := ⟨_, rfl⟩
  have hsg : ∀ g, A.sg g g := by subst hA; exact fun _ => rfl
  refine go50 rfl (SGo_run hA ⟨[], [], [], []⟩ .nil .nil 200 fun T TD hT hTD => ?_)
  cbv
  rw [hT]
  refine AGo_nilms 3 14 rfl ?_
  refine AGo_upE [1, 2, 7] trs.length (fun _ (_ : Unit) => True) (fun j _ i => [(8, I i), (3, .ms 14 1 j 0 j)]) (fun j _ => [.own 0 [I L, I gp, I f, .vs 5 ys], .own j (CS j)]) () trivial ⟨rfl, rfl, trivial⟩ (.inl (by rw [hC0]; rfl)) fun j _ i hi2 hj hP Bk hB => ?_
  have hlt : A.lt i (A.vlen ys) = decide (j < trs.length) := by subst hA; exact lt_len (by simp [hys]) hi2
  have hadd : ∀ N, j < N → N ≤ 9223372036854775807 → A.add .i64 i 1 = iLen (j + 1) := fun N hj hN => by subst hA; exact add_one hi2 hj hN
  obtain ⟨cc, hcc⟩ : ∃ c, c = CS j := ⟨_, rfl⟩
  rw [← hcc]
  refine SGo_run hA ⟨[1], [1001], (69, eRideO) :: (68, eTrk) :: [], []⟩ (.cons eRideO_ok (.cons eTrk_ok .nil)) .nil 200 fun T TD hT hTD => ?_
  cbv
  split <;> cbv
  · rename_i hk0
    have hk1 : j < trs.length := by have hz := hlt.symm.trans hk0; simpa using hz
    clear hk0
    obtain ⟨t, hx⟩ : ∃ x, trs[j]? = some x := ⟨_, List.getElem?_eq_getElem hk1⟩
    have hb := v5 _ (List.mem_of_getElem? hx)
    have hc2 := hCs j t hx
    rw [← hcc] at hc2
    have hlC := hCl j (by omega)
    rw [← hcc] at hlC
    obtain ⟨w, s, lo, hi, hs⟩ := t
    have hbf : TckV L gp ⟨w, s, lo, hi, []⟩ := hb.free true
    refine Exists.intro trs (Exists.intro j (Exists.intro ⟨w, s, lo, hi, hs⟩ (And.intro ⟨hys, hi2, hx, by omega⟩ ?_)))
    intro z1 hz1; cbv
    refine Exists.intro hs (Exists.intro gp (And.intro ⟨hz1, hb, v1⟩ ?_))
    intro g1 hg1; cbv
    refine Exists.intro trs (Exists.intro j (Exists.intro ⟨w, s, lo, hi, hs⟩ (And.intro ⟨hys, hi2, hx, by omega⟩ ?_)))
    intro z2 hz2; cbv
    refine Exists.intro [] (Exists.intro gp (And.intro ⟨hz2, hbf, v1⟩ ?_))
    intro g2 hg2; cbv
    have hc3 : CS (j + 1) = cc ++ [I w, I s, I lo, I hi, .vs 2 z1, I L, .vs 2 g1, I w, I s, I lo, I hi, .vs 2 z2, I L, .vs 2 g2] := by
      rw [hc2, hg1, hg2, hz1, hz2]; rfl
    obtain ⟨c1, hc1⟩ : ∃ c, c = CS (j + 1) := ⟨_, rfl⟩
    have happ : A.app 14 14 176 cc 0 j [.agg [I w, I s, I lo, I hi, .vs 2 z1, I L, .vs 2 g1, I w, I s, I lo, I hi, .vs 2 z2, I L, .vs 2 g2]] c1 (j + 1) := by rw [hc1, hc3]; subst hA; exact app_one hlC rfl (by omega)
    refine And.intro (hsg _) (Exists.intro c1 (Exists.intro (j + 1) (And.intro happ (And.intro rfl ?_)))); cbv
    refine And.intro (by subst hA; simp [std, Keep, SubH, ResK]) ?_; cbv
    refine hB () _ _ hk1 trivial ⟨congrArg I (hadd _ hk1 (by omega)), rfl, trivial⟩ ⟨rfl, rfl, rfl, trivial⟩ (.inl (by rw [hc1]))
  · rename_i hk0
    have hk1 : ¬ j < trs.length := by have hz := hlt.symm.trans hk0; simpa using hz
    clear hk0
    have hjn : j = trs.length := by omega
    rw [hF, hcc, hjn]
    refine Frees.frz 1 trs.length 14 XS rfl hCe ?_
    have e1 : AV.frz 1 trs.length 14 XS (.ms 14 1 trs.length 0 trs.length) = .vs 14 XS := frz_self hXl
    show Frees 0 Kk (AV.frz 1 trs.length 14 XS (.ms 14 1 trs.length 0 trs.length)) _
    rw [e1]
    exact Frees.drop0 h rfl
end Go.Sas
namespace Go.Sas
open Go.Proofs
set_option maxRecDepth 100000
theorem trkV_of {L gp : Int} {t : Tck} (hV : TckV L gp t) (hL : 1 ≤ L ∧ L ≤ 100000) : TrkV L t t.way t.st t.lo t.hi (t.hs.map hdV) ((gonL L t).map sp2) := ⟨rfl, rfl, rfl, rfl, ⟨gp, hV⟩, hL⟩
def eMt : List AV → AHeap → Option PT
  | [.agg [.lit (.int .i64 gap), .lit (.int .i64 f)], .agg c1, .agg c2, .lit (.int .i64 M)], H => some fun K => ∃ (L : Int) (t u : Tck) (m : Nat), ((c1 = lnC L t ∧ c2 = lnC L u ∧ TckV L gap t ∧ TckV L gap u ∧ 1 ≤ L ∧ L ≤ 100000) ∧ (1 ≤ gap ∧ gap ≤ 100000) ∧ (0 ≤ f ∧ f ≤ 20) ∧ m ≤ 100000 ∧ M = iLen m ∧ CasH H ∧
      ∀ a b : Bool, (if a then 1 else 0) + (if b then 1 else 0) ≤ f → meetT L gap (freeT a t) (freeT b u) m = false) ∧ K (.tup [mtV 0 0 0 false false 0 0, B false]) H
  | _, _ => none
theorem eMt_ok : ∀ args H pt, eMt args H = some pt → ∀ (Kk : AV → AHeap → Prop), pt Kk → ACalls Tryz.prog 51 args H Kk := by
  intro args H pt h Kk hk
  unfold eMt at h
  split at h
  · cases h
    obtain ⟨L, t, u, m, ⟨⟨rfl, rfl, h1, h2, h3⟩, h4, h5, h6, h7, h8, h9⟩, hk⟩ := hk
    have ht := h1.free true
    have hu := h2.free true
    obtain ⟨w, s, lo, hi, hs⟩ := t
    obtain ⟨w', s', lo', hi', hs'⟩ := u
    exact p51 L _ _ ⟨w, s, lo, hi, hs⟩ ⟨w', s', lo', hi', hs'⟩ w s lo hi w' s' lo' hi' _ _ _ _ _ _ _ _ m (trkV_of h1 h3) (trkV_of ht h3) (trkV_of h2 h3) (trkV_of hu h3) h4 h5 h6 _ h7 h9 h8 hk
  · cases h
def eEnd : List AV → Option ((AV → Prop) → Prop)
  | [.agg [.lit (.int .i64 w), .lit (.int .i64 s), .lit (.int .i64 lo), .lit (.int .i64 hi), .vs 2 ys, .lit (.int .i64 L), .vs 2 xs]] => some fun K => ∃ t : Tck, TrkV L t w s lo hi ys xs ∧ ∀ q, q = iLen (arrN L t) → K (I q)
  | _ => none
theorem eEnd_ok : ∀ args pt, eEnd args = some pt → ∀ (H : AHeap) (Kk : AV → AHeap → Prop), pt (fun r => Kk r H) → ACalls Tryz.prog 52 args H Kk := by
  intro args pt h H Kk hk
  unfold eEnd at h
  split at h
  · cases h
    obtain ⟨t, h1, h3⟩ := hk
    exact p52 _ t _ _ _ _ _ _ h1 H (h3 _ rfl)
  · cases h
def eLns : List AV → Option ((AV → Prop) → Prop)
  | [.agg [.lit (.int .i64 L), .lit (.int .i64 gp), .lit (.int .i64 f), .vs 5 ys]] =>
    some fun K => ∃ (trs : List Tck), (ys = trs.map tkA ∧ CvyV ⟨L, gp, f, trs⟩) ∧ ∀ zs, zs = trs.map (lnV L) → K (.vs 14 zs)
  | _ => none
theorem eLns_ok : ∀ args pt, eLns args = some pt → ∀ (H : AHeap) (Kk : AV → AHeap → Prop), pt (fun r => Kk r H) → ACalls Tryz.prog 50 args H Kk := by
  intro args pt h H Kk hk
  unfold eLns at h
  split at h
  · cases h
    obtain ⟨trs, ⟨rfl, h1⟩, h3⟩ := hk
    exact p50 ⟨_, _, _, trs⟩ h1 H (h3 _ rfl)
  · cases h
set_option maxHeartbeats 4000000 in
theorem p26X {X : AObj} (hX : X = rawP) (c : Cvy) (hQ : AccQ c) {Kk : AV → AHeap → Prop} (h : Kk (.tup [mtV 0 0 0 false false 0 0, B false]) [X]) : ACalls Tryz.prog 26 [cvyV c.len c.gap c.fails (.vs 5 (c.trs.map tkA))] [X] Kk := by
  have hlt0 : ltHB 1 [X] = true := by subst hX; rfl
  have hlX : ∀ n, X.lt (n + 1) := fun n => by subst hX; simp [AObj.lt, rawP, rawC, AV.ltL, AV.lt]
  have hCh : ∀ T, CasH (X :: T) := fun T => ⟨T, .inl (by rw [hX])⟩
  clear hX
  have hVc := hQ.v
  obtain ⟨e0, he1, he2, he3⟩ := hQ.e
  have v1 := hVc.len
  have v2 := hVc.gap
  have v3 := hVc.fails
  have v4 := hVc.n
  have v5 := hVc.all
  have hAcc := fun m => he3.all he2 v1.1 v5 m
  clear hQ he3 he2
  obtain ⟨L, gp, f, trs⟩ := c
  dsimp only at v1 v2 v3 v4 v5 hAcc ⊢
  obtain ⟨ys, hys⟩ : ∃ ys, ys = trs.map tkA := ⟨_, rfl⟩
  rw [← hys]
  obtain ⟨A, hA⟩ : ∃ A, A = std := ⟨_, rfl⟩
  have hll : ∀ x y, A.lt x y = decide (x < y) := by subst hA; intro x y; rfl
  have hle : ∀ x y, A.le x y = decide (x ≤ y) := by subst hA; intro x y; rfl
  have hmx : ∀ x y, A.max x y = max x y := by subst hA; intro x y; exact iMaxE _ _
  refine go26 rfl (AGo.weaken (SGo_run (R := RetH _ [X] Kk) hA ⟨[], [], (50, eLns) :: [], []⟩ (.cons eLns_ok .nil) .nil 200 fun T TD hT hTD => ?_) (fun _ _ _ h => RetH.p hlt0 h) (by simp))
  cbv
  refine Exists.intro trs (And.intro ⟨hys, hVc⟩ ?_)
  intro zs hzs; cbv
  have hyl : ∀ n, AV.ltL n ys := fun n => AV.ltL_nid (by rw [hys]; exact nidL_map (g := tkA) (fun _ => rfl) _)
  have hlv : A.vlen zs = iLen trs.length := by subst hA; show iLen zs.length = _; rw [hzs, List.length_map]
  have hel : ∀ (j : Nat) (i : Int), i = iLen j → j < trs.length → ∃ w s lo hi hs ys xs ws vs, trs[j]? = some ⟨w, s, lo, hi, hs⟩ ∧ TckV L gp ⟨w, s, lo, hi, hs⟩ ∧ A.ix 14 14 zs i [I w, I s, I lo, I hi, .vs 2 ys, I L, .vs 2 xs, I w, I s, I lo, I hi, .vs 2 ws, I L, .vs 2 vs] ∧ [I w, I s, I lo, I hi, .vs 2 ys, I L, .vs 2 xs, I w, I s, I lo, I hi, .vs 2 ws, I L, .vs 2 vs] = lnC L ⟨w, s, lo, hi, hs⟩ ∧ TrkV L ⟨w, s, lo, hi, hs⟩ w s lo hi ys xs := by
    intro j i hi hj
    obtain ⟨⟨w, s, lo, hi', hs⟩, hx⟩ : ∃ x, trs[j]? = some x := ⟨_, List.getElem?_eq_getElem hj⟩
    have hb := v5 _ (List.mem_of_getElem? hx)
    exact ⟨w, s, lo, hi', hs, _, _, _, _, hx, hb, by subst hA; exact ix_map (f := lnV L) hzs hi hx rfl, rfl, trkV_of hb v1⟩
  rw [hT]
  refine AGo_upE [2, 4, 6, 24, 25] trs.length (fun j (e : Nat) => e ≤ 11001) (fun j e i => [(7, I (iLen e)), (26, I i)]) (fun _ _ => [X, .own 0 [I L, I gp, I f, .vs 5 ys], .own 0 [I 0, I 0, I 0, B false, B false, I 0, I 0], .own 0 [I gp, I f]]) 0 (by omega) ⟨rfl, rfl, trivial⟩ (.inl rfl) fun j e i hi2 hj hP Bk hB => ?_
  · have hlt : A.lt i (A.vlen zs) = decide (j < trs.length) := by subst hA; exact lt_len (by simp [hzs]) hi2
    have hadd : ∀ N, j < N → N ≤ 9223372036854775807 → A.add .i64 i 1 = iLen (j + 1) := fun N hj hN => by subst hA; exact add_one hi2 hj hN
    refine SGo_run hA ⟨[], [], (52, eEnd) :: [], []⟩ (.cons eEnd_ok .nil) .nil 200 fun T TD hT hTD => ?_
    cbv
    split <;> cbv
    · rename_i hk0
      have hk1 : j < trs.length := by have hz := hlt.symm.trans hk0; simpa using hz
      clear hk0
      obtain ⟨w, s, lo, hi, hs, y1, y2, y3, y4, hx, hb, hix, hln, htv⟩ := hel j i hi2 hk1
      refine Exists.intro _ (And.intro hix ?_); cbv
      refine Exists.intro _ (And.intro htv ?_)
      intro q hq; cbv
      have hmm : A.max (iLen e) q = iLen (max e (arrN L ⟨w, s, lo, hi, hs⟩)) := by rw [hmx, hq]; unfold iLen; omega
      have ha := arrN_le hb v1.1
      refine hB (max e (arrN L ⟨w, s, lo, hi, hs⟩)) _ _ hk1 (by omega) ⟨congrArg I hmm, congrArg I (hadd _ hk1 (by omega)), trivial⟩ ⟨rfl, rfl, rfl, rfl, rfl, trivial⟩ (.inr ⟨⟨_, rfl⟩, by simp, by simp [ltG, AV.lt, AV.ltL, keepS, look, gset], ⟨hlX 3, by simp [ltH, AObj.lt, AV.ltL, AV.lt, hyl]⟩⟩)
    · rename_i hk0
      have hk1 : ¬ j < trs.length := by have hz := hlt.symm.trans hk0; simpa using hz
      clear hk0
      rw [hT]
      refine AGo_upE [2, 4, 6, 7] (e + 1) (fun _ (_ : Unit) => True) (fun _ _ i => [(10, I i)]) (fun _ _ => [X, .own 0 [I L, I gp, I f, .vs 5 ys], .own 0 [I 0, I 0, I 0, B false, B false, I 0, I 0], .own 0 [I gp, I f]]) () trivial ⟨rfl, trivial⟩ (.inl rfl) fun m _ M hM hm1 _ Bk1 hB1 => ?_
      have hltm : A.le M (iLen e) = decide (m < e + 1) := by rw [hle, hM, Bool.eq_iff_iff]; unfold iLen; simp only [decide_eq_true_eq]; omega
      have haddm : ∀ N, m < N → N ≤ 9223372036854775807 → A.add .i64 M 1 = iLen (m + 1) := fun N hj hN => by subst hA; exact add_one hM hj hN
      refine SGo_run hA ⟨[], [], [], []⟩ .nil .nil 200 fun T TD hT hTD => ?_
      cbv
      split <;> cbv
      · rename_i hz
        have hkm : m < e + 1 := by have hz := hltm.symm.trans hz; simpa using hz
        rw [hT]
        refine AGo_upE [2, 4, 6, 7, 10, 42] trs.length (fun _ (_ : Unit) => True) (fun _ _ i => [(43, I i)]) (fun _ _ => [X, .own 0 [I L, I gp, I f, .vs 5 ys], .own 0 [I 0, I 0, I 0, B false, B false, I 0, I 0], .own 0 [I gp, I f]]) () trivial ⟨rfl, trivial⟩ (.inl rfl) fun a _ ia hia ha1 _ Bk2 hB2 => ?_
        have hlta : A.lt ia (A.vlen zs) = decide (a < trs.length) := by subst hA; exact lt_len (by simp [hzs]) hia
        have hadda : ∀ N, a < N → N ≤ 9223372036854775807 → A.add .i64 ia 1 = iLen (a + 1) := fun N hj hN => by subst hA; exact add_one hia hj hN
        refine SGo_run hA ⟨[], [], [], []⟩ .nil .nil 200 fun T TD hT hTD => ?_
        cbv
        split <;> cbv
        · rename_i hz
          have hka : a < trs.length := by have hz := hlta.symm.trans hz; simpa using hz
          have hia1 := hadda _ hka (by omega)
          obtain ⟨w, s, lo, hi, hs, y1, y2, y3, y4, hx, hb, hix, hln, htv⟩ := hel a ia hia hka
          rw [hT]
          refine AGo_upE [2, 4, 6, 7, 10, 11, 42, 43] (trs.length - (a + 1)) (fun _ (_ : Unit) => True) (fun d _ _ => [(12, I (iLen (a + 1 + d)))]) (fun _ _ => [X, .own 0 [I L, I gp, I f, .vs 5 ys], .own 0 [I 0, I 0, I 0, B false, B false, I 0, I 0], .own 0 [I gp, I f]]) () trivial ⟨congrArg I hia1, trivial⟩ (.inl rfl) fun d _ _ _ hd1 _ Bk3 hB3 => ?_
          obtain ⟨ib, hib⟩ : ∃ i, i = iLen (a + 1 + d) := ⟨_, rfl⟩
          rw [← hib]
          have hltb : A.lt ib (A.vlen zs) = decide (a + 1 + d < trs.length) := by subst hA; exact lt_len (by simp [hzs]) hib
          have haddb : ∀ N, a + 1 + d < N → N ≤ 9223372036854775807 → A.add .i64 ib 1 = iLen (a + 1 + (d + 1)) := fun N hj hN => by subst hA; exact add_one hib hj hN
          refine SGo_run hA ⟨[], [], [], (51, eMt) :: []⟩ .nil (.cons eMt_ok .nil) 200 fun T TD hT hTD => ?_
          cbv
          split <;> cbv
          · rename_i hz
            have hkb : a + 1 + d < trs.length := by have hz := hltb.symm.trans hz; simpa using hz
            obtain ⟨w', s', lo', hi', hs', z1, z2, z3, z4, hx', hb', hix', hln', htv'⟩ := hel _ ib hib hkb
            refine Exists.intro _ (And.intro hix ?_); cbv
            refine Exists.intro _ (And.intro hix' ?_); cbv
            refine Exists.intro L (Exists.intro ⟨w, s, lo, hi, hs⟩ (Exists.intro ⟨w', s', lo', hi', hs'⟩ (Exists.intro m (And.intro ⟨⟨hln, hln', hb, hb', v1⟩, v2, v3, by omega, hM, hCh _, fun f1 g1 hfg => hAcc m m (Nat.le_refl _) a (a + 1 + d) _ _ (by omega) hx hx' f1 g1 hfg⟩ ?_)))); cbv
            refine And.intro (by subst hA; exact .inr ⟨by rcases X with _ | ⟨g, _ | ⟨c, cs⟩⟩ | _ <;> simp [SubH], by simp [ResK]⟩) ?_; cbv
            refine And.intro (by subst hA; exact .inr ⟨by rcases X with _ | ⟨g, _ | ⟨c, cs⟩⟩ | _ <;> simp [SubH], by simp [ResK]⟩) ?_; cbv
            refine hB3 () _ _ (by omega) trivial ⟨congrArg I (haddb _ hkb (by omega)), trivial⟩ ⟨rfl, rfl, rfl, rfl, rfl, rfl, rfl, rfl, trivial⟩ (.inr ⟨⟨_, rfl⟩, by simp, by simp [ltG, AV.lt, AV.ltL, keepS, look, gset], ⟨hlX 3, by simp [ltH, AObj.lt, AV.ltL, AV.lt, hyl]⟩⟩)
          · rename_i hz
            have hkb : ¬ a + 1 + d < trs.length := by have hz := hltb.symm.trans hz; simpa using hz
            refine hB2 () _ _ hka trivial ⟨congrArg I hia1, trivial⟩ ⟨rfl, rfl, rfl, rfl, rfl, rfl, trivial⟩ (.inl rfl)
        · rename_i hz
          refine hB1 () _ _ hkm trivial ⟨congrArg I (haddm _ hkm (by omega)), trivial⟩ ⟨rfl, rfl, rfl, rfl, trivial⟩ (.inl rfl)
      · exact h
theorem p26 (c : Cvy) (hQ : AccQ c) {H : AHeap} (hC : CasH H) {Kk : AV → AHeap → Prop} (h : Kk (.tup [mtV 0 0 0 false false 0 0, B false]) H) : ACalls Tryz.prog 26 [cvyV c.len c.gap c.fails (.vs 5 (c.trs.map tkA))] H Kk := by
  refine frame1 hC ?_ ?_ (p26X rfl c hQ ⟨rfl, rfl⟩) h
  · simp [AV.nidL, AV.nid]
  · simp [AV.nidL, AV.nid]
def eMtg : List AV → AHeap → Option PT
  | [.agg [.lit (.int .i64 L), .lit (.int .i64 gp), .lit (.int .i64 f), .vs 5 ys]], H => some fun K => ∃ trs : List Tck, (ys = trs.map tkA ∧ AccQ ⟨L, gp, f, trs⟩ ∧ CasH H) ∧ K (.tup [mtV 0 0 0 false false 0 0, B false]) H
  | _, _ => none
theorem eMtg_ok : ∀ args H pt, eMtg args H = some pt → ∀ (Kk : AV → AHeap → Prop), pt Kk → ACalls Tryz.prog 26 args H Kk := by
  intro args H pt h Kk hk
  unfold eMtg at h
  split at h
  · cases h
    obtain ⟨trs, ⟨rfl, h1, h2⟩, hk⟩ := hk
    exact p26 ⟨_, _, _, trs⟩ h1 h2 hk
  · cases h
theorem p9X {X : AObj} (hX : X = rawP) (c : Cvy) (hQ : AccQ c) {Kk : AV → AHeap → Prop} (h : Kk (.tup [mtV 0 0 0 false false 0 0, I 7]) [X]) : ACalls Tryz.prog 9 [cvyV c.len c.gap c.fails (.vs 5 (c.trs.map tkA))] [X] Kk := by
  have hlt0 : ltHB 1 [X] = true := by subst hX; rfl
  have hCh : ∀ T, CasH (X :: T) := fun T => ⟨T, .inl (by rw [hX])⟩
  clear hX
  have hVc := hQ.v
  obtain ⟨L, gp, f, trs⟩ := c
  dsimp only at hQ ⊢
  obtain ⟨ys, hys⟩ : ∃ ys, ys = trs.map tkA := ⟨_, rfl⟩
  rw [← hys]
  have hA : std = std := rfl
  refine go9 rfl (AGo.weaken (SGo_run (R := RetH _ [X] Kk) hA ⟨[], [], (25, eCk) :: [], (26, eMtg) :: []⟩ (.cons eCk_ok .nil) (.cons eMtg_ok .nil) 200 fun T TD hT hTD => ?_) (fun _ _ _ h => RetH.p hlt0 h) (by simp))
  cbv
  refine Exists.intro trs (And.intro ⟨hys, hVc⟩ ?_); cbv
  refine Exists.intro trs (And.intro ⟨hys, hQ, hCh _⟩ ?_); cbv
  exact h
theorem p9 (c : Cvy) (hQ : AccQ c) {H : AHeap} (hC : CasH H) {Kk : AV → AHeap → Prop} (h : Kk (.tup [mtV 0 0 0 false false 0 0, I 7]) H) : ACalls Tryz.prog 9 [cvyV c.len c.gap c.fails (.vs 5 (c.trs.map tkA))] H Kk := by
  refine frame1 hC ?_ ?_ (p9X rfl c hQ ⟨rfl, rfl⟩) h
  · simp [AV.nidL, AV.nid]
  · simp [AV.nidL, AV.nid]
def eMeets : List AV → AHeap → Option PT
  | [.agg [.lit (.int .i64 L), .lit (.int .i64 gp), .lit (.int .i64 f), .vs 5 ys]], H => some fun K => ∃ trs : List Tck, (ys = trs.map tkA ∧ AccQ ⟨L, gp, f, trs⟩ ∧ CasH H) ∧ K (.tup [mtV 0 0 0 false false 0 0, I 7]) H
  | _, _ => none
theorem eMeets_ok : ∀ args H pt, eMeets args H = some pt → ∀ (Kk : AV → AHeap → Prop), pt Kk → ACalls Tryz.prog 9 args H Kk := by
  intro args H pt h Kk hk
  unfold eMeets at h
  split at h
  · cases h
    obtain ⟨trs, ⟨rfl, h1, h2⟩, hk⟩ := hk
    exact p9 ⟨_, _, _, trs⟩ h1 h2 hk
  · cases h
end Go.Sas
