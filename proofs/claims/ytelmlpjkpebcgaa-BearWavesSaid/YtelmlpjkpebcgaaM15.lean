/-
Other loads: one more, one that is far, another order.
The law of loads more, and far away, answers true.
Conditions: none.
-/
import Derived.Test.YtelmlpjkpebcgaaM14
set_option linter.unusedVariables false
set_option linter.unusedSimpArgs false
namespace Go.Sas
theorem sum_app : ∀ (a b : List Int), (a ++ b).sum = a.sum + b.sum
  | [], b => by simp
  | x :: a, b => by simp only [List.cons_append, List.sum_cons]; rw [sum_app a b]; omega
theorem sum_rev : ∀ (a : List Int), a.reverse.sum = a.sum
  | [] => rfl
  | x :: a => by rw [List.reverse_cons, sum_app, sum_rev a]; simp; omega
theorem burd_rev {w : Bool} {p : Plate} {l : List Load} {m : Int} : burdS w p l.reverse m = burdS w p l m := by
  unfold burdS; rw [List.map_reverse, sum_rev]
theorem burd_app {w : Bool} {p : Plate} {l : List Load} {y : Load} {m : Int} : burdS w p (l ++ [y]) m = burdS w p l m + burdF w p m y := by
  unfold burdS; rw [List.map_append, sum_app]; simp
theorem ve_rev {p : Plate} {ice cr : List (Int × Int)} {l : List Load} {x : Load} : veS p ice cr l.reverse x = veS p ice cr l x := by
  unfold veS beS; rw [burd_rev, burd_rev]
theorem burdF_nn {w : Bool} {p : Plate} {m : Int} {y : Load} (hp : PlateV p) (hy : 0 ≤ y.w.1 ∧ y.w.1 ≤ y.w.2) : 0 ≤ burdF w p m y := by
  unfold burdF
  refine Int.mul_nonneg ?_ (hp.sh.part _).1
  cases w <;> simp [hevS] <;> omega
theorem be_app {w : Bool} {p : Plate} {ice cr : List (Int × Int)} {l : List Load} {x y : Load} (hp : PlateV p) (hy : 0 ≤ y.w.1 ∧ y.w.1 ≤ y.w.2) : beS w p ice cr (l ++ [y]) x = true → beS w p ice cr l x = true := by
  unfold beS enS
  rw [burd_app]
  have := burdF_nn (w := w) (m := x.at_) hp hy
  simp only [decide_eq_true_eq]
  intro h
  omega
theorem ve_app {p : Plate} {ice cr : List (Int × Int)} {l : List Load} (hV : RoadV p ice cr) (hl : ∀ x ∈ l, LoadV ice.length x) {x y : Load} (hx : LoadV ice.length x) (hy : 0 ≤ y.w.1 ∧ y.w.1 ≤ y.w.2) :
    (veS p ice cr (l ++ [y]) x = 1 → veS p ice cr l x = 1) ∧ (veS p ice cr l x = 2 → veS p ice cr (l ++ [y]) x = 2) := by
  have h1 := be_app (w := true) (ice := ice) (cr := cr) (l := l) (x := x) hV.p hy
  have h2 := be_app (w := false) (ice := ice) (cr := cr) (l := l) (x := x) hV.p hy
  have h3 := be_imp hV hl hx
  unfold veS
  cases g1 : beS true p ice cr (l ++ [y]) x <;> cases g2 : beS false p ice cr (l ++ [y]) x <;> cases g3 : beS true p ice cr l x <;> cases g4 : beS false p ice cr l x <;> simp_all
theorem far_comm (a b : Int) : farS a b = farS b a := by simp only [farS, iMax_eq]; omega
theorem ve_apart {p : Plate} {ice cr : List (Int × Int)} {l : List Load} (hp : PlateV p) {x y : Load} (h : tab0 p.shares (farS y.at_ x.at_) = 0) : veS p ice cr (l ++ [y]) x = veS p ice cr l x := by
  have hF : ∀ w, burdF w p x.at_ y = 0 := fun w => by
    unfold burdF
    rw [far_comm, ← tab0_part hp.sh (farS_nn _ _), h]; simp
  unfold veS beS
  rw [burd_app, burd_app, hF, hF]; simp
theorem holds_of {p : Plate} {ice cr : List (Int × Int)} {l l2 : List Load} (hM : MadeV p ice cr l) (hl : l2.length ≤ 30) (h : ∀ x ∈ l2, LoadV ice.length x) : holdsS p ice cr l2 = (l2.map (veS p ice cr l2), 0) := by
  unfold holdsS
  rw [if_neg (by simp [hM.all]), if_neg (by simp [loadsS_of hl h])]
end Go.Sas
namespace Go.Sas
open Go.Proofs
set_option maxRecDepth 100000
theorem upd_back {a b : List AV} {c0 c1 c2 c3 d0 d1 d2 d3 : AV} {o : Nat} (h : a.length = o) : updS 4 (a ++ (c0 :: c1 :: c2 :: c3 :: b)) o [d0, d1, d2, d3] (a ++ (d0 :: d1 :: d2 :: d3 :: b)) := by
  subst h
  refine ⟨rfl, by simp, ?_⟩
  have h1 : (a ++ (c0 :: c1 :: c2 :: c3 :: b)).drop (a.length + 4) = b := by
    rw [List.drop_append, List.drop_of_length_le (by omega), show a.length + 4 - a.length = 4 by omega]; rfl
  have h2 : (a ++ (c0 :: c1 :: c2 :: c3 :: b)).take a.length = a := by
    rw [List.take_append, List.take_of_length_le (by omega), show a.length - a.length = 0 by omega]; simp
  rw [h1, h2]; simp
theorem back_idx {N j : Nat} (h : j < N) : 0 ≤ iLen N - 1 - iLen j ∧ iLen N - 1 - iLen j < (N : Int) ∧ 0 + (iLen N - 1 - iLen j).toNat * 4 = (N - j - 1) * 4 := by unfold iLen; omega
theorem back_sub {N j : Nat} (h : j < N) (hN : N ≤ 1000) : iSub .i64 (iSub .i64 (iLen N) 1) (iLen j) = iLen N - 1 - iLen j := by
  rw [show iSub .i64 (iLen N) 1 = iLen N - 1 from iSub_id (by unfold iLen; omega) (by unfold iLen; omega)]
  exact iSub_id (by unfold iLen; omega) (by unfold iLen; omega)
set_option maxHeartbeats 4000000 in
theorem core7 (nums : List Int) (hn1 : BigL nums) : ACalls Try.prog 7 [.vs 1 (nums.map I)] [] fun r _ => r = B true := by
  obtain ⟨Kk, hKk⟩ : ∃ K : AV → AHeap → Prop, K = fun r _ => r = B true := ⟨_, rfl⟩
  rw [← hKk]
  have hk : ∀ H, Kk (B true) H := fun H => by rw [hKk]
  clear hKk
  obtain ⟨xn, hxn⟩ : ∃ ys, ys = nums.map I := ⟨_, rfl⟩
  rw [← hxn]
  obtain ⟨A, hA⟩ : ∃ A, A = std := ⟨_, rfl⟩
  have hne0 : A.ne 0 0 = false := by subst hA; rfl
  have hsg : ∀ g, A.sg g g := by subst hA; exact fun _ => rfl
  refine go7 rfl (SGo_run hA ⟨[2, 3], [0], [], (20, eSeed) :: (28, eDraw sMade) :: (37, eDraw sBelow) :: (38, eDraw sSpan) :: []⟩ .nil (.cons eSeed_ok (.cons (eDraw_ok sMade_ok) (.cons (eDraw_ok sBelow_ok) (.cons (eDraw_ok sSpan_ok) .nil)))) 200 fun T TD hT hTD => ?_)
  cbv
  refine Exists.intro nums (And.intro ⟨hxn, hn1⟩ ?_)
  intro w1
  cbv
  refine Exists.intro () (And.intro trivial ?_)
  rintro w2 _ ⟨p, a, b, xs, ec, ne, ed, gr, lo, hi, sh, wi, ice, cr, l, xi, xc, xl, rfl, hp, hxi, hxc, hxl, hM⟩
  have hV := hM.road
  have hil := hM.il
  have hcl := hM.cl
  have hll := hM.ll
  have hib := hM.ib
  have hlb := hM.lb
  have hcb := hV.cb
  have hb1 : Big p.shares := by have := hV.p.sh.len; unfold Big; omega
  have hb2 : Big p.creep := by have := hV.p.cr.len; unfold Big; omega
  have hb3 : BigL ice := by unfold BigL; omega
  have hb4 : BigL cr := by unfold BigL; omega
  have hb5 : BigL l := by unfold BigL; omega
  have hH := hM.holds
  have hat : ∀ x ∈ l, 0 ≤ x.at_ ∧ x.at_ ≤ 1000 := fun x hx => by have := (hlb x hx).at1; have := (hlb x hx).at2; omega
  have hxe : cellsL xl = some (l.flatMap ldC) := by rw [hxl]; exact (Elems_ldC l).1
  have hxll : xl.length = l.length := by rw [hxl]; simp
  obtain ⟨cs0, hcs0⟩ : ∃ cs, cs = l.flatMap ldC := ⟨_, rfl⟩
  obtain ⟨N, hN⟩ : ∃ N, N = l.length := ⟨_, rfl⟩
  have happ : A.app 4 4 32 [] 0 0 xl cs0 N := by
    subst hA
    have := app_all (sz := 4) (by_ := 32) (n := 0) (cs := []) rfl hxe (by omega)
    rw [hxll, ← hN, ← hcs0] at this
    have h2 : appS 4 4 32 [] 0 0 xl cs0 N := by simpa using this
    exact h2
  obtain ⟨M, hM0⟩ : ∃ M, M = A.mul .i64 100 (A.vlen xi) := ⟨_, rfl⟩
  have hM1 : M = 100 * iLen ice.length := by
    subst hA; rw [hM0]; simp only [std]; rw [show iLen xi.length = iLen ice.length by rw [hxi]; simp]
    exact iMul_id (by unfold iLen; omega) (by unfold iLen; omega)
  have hM2 : M ≤ 9223372036854775807 := by rw [hM1]; unfold iLen; omega
  obtain ⟨Z, hZ⟩ : ∃ Z : Nat → List AV, Z = fun n => List.flatten (List.replicate n [I 0, I 0, I 0, I 0]) := ⟨_, rfl⟩
  have hZl : ∀ n, (Z n).length = n * 4 := fun n => by rw [hZ]; simp
  have hmk : A.mkz 4 32 [.int .i64 0, .int .i64 0, .int .i64 0, .int .i64 0] (A.vlen xl) (A.vlen xl) (Z N) N := by
    subst hA
    show mkS _ _ _ (iLen xl.length) (iLen xl.length) _ _
    unfold mkS iLen
    rw [hxll, hZ]
    exact ⟨by omega, by omega, by omega, by omega, rfl, by simp [hN], by simp [hN]⟩
  obtain ⟨N1, hN1⟩ : ∃ N1, N1 = N + 1 := ⟨_, rfl⟩
  obtain ⟨FM, hFM⟩ : ∃ FM : Load → List AV, FM = fun y => cs0 ++ ldC y := ⟨_, rfl⟩
  have happ2 : ∀ k u v t, A.app 4 4 32 cs0 0 N [.agg [I k, I u, I v, I t]] (FM (Load.mk k (u, v) t)) N1 := fun k u v t => by
    subst hA; rw [hFM, hN1]
    exact app_one (by rw [hcs0, len_flat (k := 4) (fun _ => rfl) l]; omega) rfl (by omega)
  cbv
  refine Exists.intro cs0 (Exists.intro N (And.intro happ (And.intro rfl ?_)))
  cbv
  refine Exists.intro () (And.intro (by have := hM2; rw [hM0] at this; exact this) ?_)
  rintro w3 _ ⟨k, rfl, hka, hkb⟩
  have hkM : k < M ∨ k = 0 := by rw [hM0]; exact hkb
  clear hkb
  cbv
  refine Exists.intro () (And.intro (by exact ⟨by omega, by omega, by omega⟩) ?_)
  rintro w4 _ ⟨u, v, rfl, hu1, hu2, hu3⟩
  cbv
  refine Exists.intro () (And.intro (by show (100 : Int) ≤ 9223372036854775807; omega) ?_)
  rintro w5 _ ⟨t, rfl, hta, htb⟩
  cbv
  obtain ⟨csM, hcsM⟩ : ∃ c, c = FM (Load.mk k (u, v) t) := ⟨_, rfl⟩
  have happ3 := happ2 k u v t
  rw [← hcsM] at happ3
  refine And.intro (hsg _) (Exists.intro csM (Exists.intro N1 (And.intro happ3 (And.intro rfl ?_))))
  cbv
  refine Exists.intro (Z N) (Exists.intro N (And.intro hmk ?_))
  cbv
  rw [hT]
  obtain ⟨xm, hxm⟩ : ∃ ys, ys = (l ++ [Load.mk k (u, v) t]).map ldV := ⟨_, rfl⟩
  have hcsE : csM = (l ++ [Load.mk k (u, v) t]).flatMap ldC := by rw [hcsM, hFM, hcs0]; simp
  have hlenM : csM.length = N1 * 4 := by rw [hcsE, len_flat (k := 4) (fun _ => rfl), hN1]; simp; omega
  refine AGo_freeze 5 (id := 2) (g := 1) (sz := 4) (off := 0) (len := N1) (xs := xm) (cs := csM) ?_ ?_ (by rw [cellsL_eq, hxm, (Elems_ldC _).1, List.drop_zero, List.take_of_length_le (by omega), hcsE]) (by omega) (by rw [hxm]; simp; omega) (by rw [hxm]; exact (Elems_ldC _).2) ?_
  · rfl
  · rfl
  obtain ⟨y, hy⟩ : ∃ y, y = Load.mk k (u, v) t := ⟨_, rfl⟩
  rw [← hy] at hxm
  have hyV : LoadV ice.length y := by
    subst hy
    have h1 : k < 100 * iLen ice.length := by rw [← hM1]; rcases hkM with h | h; exact h; rw [h, hM1]; unfold iLen; omega
    unfold iLen at h1
    exact ⟨hka, by simp only; omega, hu1, hu2, by simp only; omega, hta, by simp only; omega⟩
  have hyb : 0 ≤ y.at_ ∧ y.at_ ≤ 1000 := by have := hyV.at1; have := hyV.at2; omega
  clear happ happ2 happ3 hmk
  refine AGo_up N (fun _ => True) (fun _ i => [(2, B false), (4, .mp 1 0 0), (5, .vs 4 xm), (6, .ms 4 3 0 0 N), (7, I i)])
    (fun j => [.own 0 [U w5], .own 0 [I a, I b, .vs 2 xs, .vs 2 ec, I ne, I ed, I gr, I lo, I hi, I sh, I wi, .vs 2 xi, .vs 2 xc, .vs 4 xl], .gone, .own 0 (Z (N - j) ++ (l.take j).reverse.flatMap ldC)]) trivial ⟨rfl, rfl, rfl, rfl, rfl, trivial⟩ (.inl (by simp)) fun j i hij hj _ Bk hB => ?_
  have hlt : A.lt i (A.vlen xl) = decide (j < N) := by subst hA; exact lt_len (by omega) hij
  have hadd : j < N → A.add .i64 i 1 = iLen (j + 1) := fun hj => by subst hA; exact add_one hij hj (by omega)
  obtain ⟨cs, hcs⟩ : ∃ cs, cs = Z (N - j) ++ (l.take j).reverse.flatMap ldC := ⟨_, rfl⟩
  rw [← hcs]
  refine SGo_run hA ⟨[3], [], [], []⟩ .nil .nil 200 fun T TD hT hTD => ?_
  cbv
  split <;> cbv
  · rename_i hk1
    have hk1 : j < N := by have := hlt.symm.trans hk1; simpa using this
    have hjN : j < N := hk1
    obtain ⟨x0, hx⟩ : ∃ x, l[j]? = some x := ⟨_, List.getElem?_eq_getElem (by omega : j < l.length)⟩
    have hixl : A.ix 4 4 xl i (ldC x0) := by subst hA; exact ix_map hxl hij hx rfl
    obtain ⟨o, ho⟩ : ∃ o, o = (N - j - 1) * 4 := ⟨_, rfl⟩
    obtain ⟨F, hF⟩ : ∃ F, F = Z (N - (j + 1)) ++ (l.take (j + 1)).reverse.flatMap ldC := ⟨_, rfl⟩
    have hixm : A.ixm 4 4 0 N (A.sub .i64 (A.sub .i64 (A.len N) 1) i) o := by
      subst hA
      obtain ⟨e1, e2, e3⟩ := back_idx hjN
      simp only [std, hij, ho, back_sub hjN (show N ≤ 1000 by omega)]
      exact ⟨rfl, e1, e2, e3.symm⟩
    have hupd : A.upd 4 cs o (ldC x0) F := by
      subst hA
      have hz : Z (N - j) = Z (N - j - 1) ++ [I 0, I 0, I 0, I 0] := by
        rw [show N - j = N - j - 1 + 1 by omega, hZ]
        simp only [Nat.add_sub_cancel]
        rw [List.replicate_succ', List.flatten_append]; simp
      have h0 := hZl (N - j - 1)
      rw [← ho] at h0
      have hF2 : F = Z (N - j - 1) ++ ldC x0 ++ (l.take j).reverse.flatMap ldC := by
        rw [hF, List.take_add_one, hx, show N - (j + 1) = N - j - 1 by omega]; simp
      rw [hcs, hz, hF2, List.append_assoc, List.append_assoc]
      exact upd_back h0
    refine And.intro (hsg _) (Exists.intro _ (And.intro hixl ?_)); cbv
    refine And.intro (hsg _) (Exists.intro o (And.intro hixm ?_)); cbv
    refine And.intro (hsg _) (Exists.intro F (And.intro hupd ?_)); cbv
    exact hB _ _ hjN trivial ⟨rfl, rfl, rfl, rfl, congrArg I (hadd hjN), trivial⟩ (.inl (by rw [hF]))
  · rename_i hk1
    have hk1 : ¬ j < N := by have := hlt.symm.trans hk1; simpa using this
    have hj2 : j = N := by omega
    have hcs2 : cs = l.reverse.flatMap ldC := by
      rw [hcs, hj2, Nat.sub_self, List.take_of_length_le (by omega), hZ]; rfl
    rw [hT]
    obtain ⟨xr, hxr⟩ : ∃ ys, ys = l.reverse.map ldV := ⟨_, rfl⟩
    have hlen2 : cs.length = N * 4 := by rw [hcs2, len_flat (k := 4) (fun _ => rfl)]; simp; omega
    refine AGo_freeze 6 (id := 3) (g := 0) (sz := 4) (off := 0) (len := N) (xs := xr) (cs := cs) ?_ ?_ (by rw [cellsL_eq, hxr, (Elems_ldC _).1, List.drop_zero, List.take_of_length_le (by omega), hcs2]) (by omega) (by rw [hxr]; simp; omega) (by rw [hxr]; exact (Elems_ldC _).2) ?_
    · rfl
    · rfl
    have hbm : BigL (l ++ [y]) := by unfold BigL; simp; omega
    have hbr : BigL l.reverse := by unfold BigL; simp; omega
    have hHm := holds_of (l2 := l ++ [y]) hM (by simp; omega) (fun x hx => by rcases List.mem_append.1 hx with h | h; exact hlb x h; simp at h; subst h; exact hyV)
    have hHr := holds_of (l2 := l.reverse) hM (by simp; omega) (fun x hx => hlb x (by simpa using hx))
    have hixy : A.ix 4 4 xm (A.sub .i64 (A.vlen xm) 1) (ldC y) := by
      subst hA
      have e1 : iLen xm.length = iLen (l.length + 1) := by rw [hxm]; simp
      have e2 : iSub .i64 (iLen xm.length) 1 = iLen l.length := by rw [e1]; exact (iSub_id (by unfold iLen; omega) (by unfold iLen; omega)).trans (by unfold iLen; omega)
      show ixS _ _ _ (iSub .i64 (iLen xm.length) 1) _
      exact ix_map hxm e2 (by simp) rfl
    clear hB hlt hadd hk1
    refine SGo_run hA ⟨[], [], (19, eTrue) :: (25, eHolds) :: [], []⟩ (.cons eTrue_ok (.cons (eHolds_ok p25) .nil)) .nil 200 fun T TD hT hTD => ?_
    cbv
    refine Exists.intro p (Exists.intro ice (Exists.intro cr (Exists.intro l (And.intro hp (And.intro hb1 (And.intro hb2 (And.intro ⟨hxi, hb3⟩ (And.intro ⟨hxc, hb4⟩ (And.intro ⟨hxl, hb5⟩ ?_)))))))))
    rintro r e zs hre hzs
    rw [hH] at hre
    obtain ⟨rfl, rfl⟩ := Prod.mk.inj hre
    cbv
    refine Exists.intro p (Exists.intro ice (Exists.intro cr (Exists.intro (l ++ [y]) (And.intro hp (And.intro hb1 (And.intro hb2 (And.intro ⟨hxi, hb3⟩ (And.intro ⟨hxc, hb4⟩ (And.intro ⟨hxm, hbm⟩ ?_)))))))))
    rintro r e zm hre hzm
    rw [hHm] at hre
    obtain ⟨rfl, rfl⟩ := Prod.mk.inj hre
    cbv
    refine Exists.intro p (Exists.intro ice (Exists.intro cr (Exists.intro l.reverse (And.intro hp (And.intro hb1 (And.intro hb2 (And.intro ⟨hxi, hb3⟩ (And.intro ⟨hxc, hb4⟩ (And.intro ⟨hxr, hbr⟩ ?_)))))))))
    rintro r e zr hre hzr
    rw [hHr] at hre
    obtain ⟨rfl, rfl⟩ := Prod.mk.inj hre
    have hzl : A.ne (A.vlen zs) (A.vlen xl) = false := by subst hA hzs hxl; simp [std, iNe]
    have hzml : A.ne (A.vlen zm) (A.vlen xm) = false := by subst hA hzm hxm; simp [std, iNe]
    have hzrl : A.ne (A.vlen zr) (A.vlen zs) = false := by subst hA hzr hzs; simp [std, iNe]
    cbv
    split <;> cbv
    · rename_i hq; exact Bool.noConfusion (hq.symm.trans hne0)
    split <;> cbv
    · rename_i hq; exact Bool.noConfusion (hq.symm.trans hne0)
    split <;> cbv
    · rename_i hq; exact Bool.noConfusion (hq.symm.trans hne0)
    split <;> cbv
    · rename_i hq; exact Bool.noConfusion (hq.symm.trans hzl)
    split <;> cbv
    · rename_i hq; exact Bool.noConfusion (hq.symm.trans hzml)
    split <;> cbv
    · rename_i hq; exact Bool.noConfusion (hq.symm.trans hzrl)
    refine Exists.intro _ (And.intro hixy ?_); cbv
    rw [hT]
    have hSm : ∀ x ∈ l, Sm y.at_ ∧ Sm x.at_ := fun x hx => by
      have h1 := hat x hx
      unfold Sm; omega
    refine AGo_upS l.length (fun j (s : Bool) => s = true → ∀ x ∈ l.take j, tab0 p.shares (farS y.at_ x.at_) = 0) (fun _ s i => [(2, B false), (4, .mp 1 0 0), (8, .vs 1 zs), (10, .vs 1 zm), (12, .vs 1 zr), (14, .mp 4 0 0), (15, B s), (16, I i)])
      (fun _ _ => [.own 0 [U w5], .own 0 [I a, I b, .vs 2 xs, .vs 2 ec, I ne, I ed, I gr, I lo, I hi, I sh, I wi, .vs 2 xi, .vs 2 xc, .vs 4 xl], .gone, .gone, .own 0 (ldC y)]) true (fun _ x hx => by simp at hx) ⟨rfl, rfl, rfl, rfl, rfl, rfl, rfl, rfl, trivial⟩ (.inl rfl) fun q ap i2 hiq hq hap Bk2 hB => ?_
    have hlt : A.lt i2 (A.vlen zs) = decide (q < l.length) := by subst hA; exact lt_len (by simp [hzs]) hiq
    have hadd : q < l.length → A.add .i64 i2 1 = iLen (q + 1) := fun hj => by subst hA; exact add_one hiq hj (by omega)
    cases ap
    all_goals
      refine SGo_run hA ⟨[], [], (19, eTrue) :: (27, eSame) :: (39, eTab0) :: (40, eFarL) :: [], []⟩ (.cons eTrue_ok (.cons eSame_ok (.cons eTab0_ok (.cons eFarL_ok .nil)))) .nil 200 fun T TD hT hTD => ?_
      cbv
      split <;> cbv
    · rename_i hk1
      have hqN : q < l.length := by have := hlt.symm.trans hk1; simpa using this
      obtain ⟨x0, hx⟩ : ∃ x, l[q]? = some x := ⟨_, List.getElem?_eq_getElem hqN⟩
      have hxm0 := List.mem_of_getElem? hx
      have hsm := hSm x0 hxm0
      obtain ⟨hc1, hc2⟩ := ve_app hV hlb (hlb x0 hxm0) (y := y) ⟨hyV.w1, hyV.w2⟩
      obtain ⟨vx, hvx⟩ : ∃ v, v = veS p ice cr l x0 := ⟨_, rfl⟩
      obtain ⟨vm, hvm⟩ : ∃ v, v = veS p ice cr (l ++ [y]) x0 := ⟨_, rfl⟩
      rw [← hvx, ← hvm] at hc1 hc2
      have hi1 : A.ix 1 1 zs i2 [I vx] := by subst hA; exact ix_map hzs hiq (by rw [List.getElem?_map, hx]; rfl) (by rw [hvx]; rfl)
      have hi2 : A.ix 1 1 zm i2 [I vm] := by subst hA; exact ix_map hzm hiq (by rw [List.getElem?_map, List.getElem?_append_left hqN, hx]; rfl) (by rw [hvm]; rfl)
      have hi3 : A.ix 1 1 zr (A.sub .i64 (A.sub .i64 (A.vlen zr) 1) i2) [I vx] := by
        subst hA
        have e0 : iLen zr.length = iLen l.length := by rw [hzr]; simp
        have e1 := back_sub hqN (show l.length ≤ 1000 by omega)
        have e2 : iLen l.length - 1 - iLen q = iLen (l.length - 1 - q) := by unfold iLen; omega
        show ixS _ _ _ (iSub .i64 (iSub .i64 (iLen zr.length) 1) i2) _
        rw [e0, hiq, e1, e2]
        refine ix_map hzr rfl (x := vx) ?_ rfl
        rw [List.getElem?_map, List.getElem?_reverse (by omega), show l.length - 1 - (l.length - 1 - q) = q by omega, hx]
        simp [ve_rev, hvx]
      have hi4 : A.ix 4 4 xl i2 (ldC x0) := by subst hA; exact ix_map hxl hiq hx rfl
      have hn1 : A.ne vx vx = false := by subst hA; simp [std, iNe]
      have hn2 : A.eq vm 1 = true → A.ne vx 1 = false := fun h => by subst hA; simp [std, iNe, iEq] at h ⊢; exact hc1 h
      have hn3 : A.eq vx 2 = true → A.ne vm 2 = false := fun h => by subst hA; simp [std, iNe, iEq] at h ⊢; exact hc2 h
      have hap2 : ∀ f f2, f = farS y.at_ x0.at_ → f2 = tab0 p.shares f → false = true → A.eq f2 0 = true → ∀ x ∈ l.take (q + 1), tab0 p.shares (farS y.at_ x.at_) = 0 := fun f f2 hf hf2 h0 h x hx' => by
        rw [List.take_add_one, hx] at hx'
        rcases List.mem_append.1 hx' with h1 | h1
        · exact hap h0 x h1
        · simp at h1; subst h1
          rw [← hf, ← hf2]; subst hA; simpa [std, iEq] using h
      repeat' (first
        | (refine Exists.intro _ (And.intro hi1 ?_); cbv)
        | (refine Exists.intro _ (And.intro hi2 ?_); cbv)
        | (refine Exists.intro _ (And.intro hi3 ?_); cbv)
        | (refine Exists.intro _ (And.intro hi4 ?_); cbv)
        | (refine Exists.intro () (And.intro hsm ?_); intro f hf; cbv)
        | (refine Exists.intro p.shares (And.intro hp.hs (And.intro hb1 ?_)); intro f2 hf2; cbv)
        | (split <;> cbv))
      all_goals first
        | exact hB false _ _ hqN (fun h => Bool.noConfusion h) ⟨rfl, rfl, rfl, rfl, rfl, rfl, rfl, congrArg I (hadd hqN), trivial⟩ (.inl rfl)
        | exact hB (A.eq f2 0) _ _ hqN (hap2 _ _ hf hf2 rfl) ⟨rfl, rfl, rfl, rfl, rfl, rfl, rfl, congrArg I (hadd hqN), trivial⟩ (.inl rfl)
        | (exfalso; rename_i g; exact Bool.noConfusion (hn1.symm.trans g))
        | (exfalso; rename_i g1 g2; exact Bool.noConfusion ((hn2 g1).symm.trans g2))
        | (exfalso; rename_i g1 _ g2; exact Bool.noConfusion ((hn2 g1).symm.trans g2))
        | (exfalso; rename_i g1 g2; exact Bool.noConfusion ((hn3 g1).symm.trans g2))
        | (exfalso; rename_i g1 _ g2; exact Bool.noConfusion ((hn3 g1).symm.trans g2))
        | trace_state
    · have hnot : A.bnot false = true := by subst hA; rfl
      split <;> cbv
      · exact hk _
      · rename_i hq; exact Bool.noConfusion (hq.symm.trans hnot)
    · rename_i hk1
      have hqN : q < l.length := by have := hlt.symm.trans hk1; simpa using this
      obtain ⟨x0, hx⟩ : ∃ x, l[q]? = some x := ⟨_, List.getElem?_eq_getElem hqN⟩
      have hxm0 := List.mem_of_getElem? hx
      have hsm := hSm x0 hxm0
      obtain ⟨hc1, hc2⟩ := ve_app hV hlb (hlb x0 hxm0) (y := y) ⟨hyV.w1, hyV.w2⟩
      obtain ⟨vx, hvx⟩ : ∃ v, v = veS p ice cr l x0 := ⟨_, rfl⟩
      obtain ⟨vm, hvm⟩ : ∃ v, v = veS p ice cr (l ++ [y]) x0 := ⟨_, rfl⟩
      rw [← hvx, ← hvm] at hc1 hc2
      have hi1 : A.ix 1 1 zs i2 [I vx] := by subst hA; exact ix_map hzs hiq (by rw [List.getElem?_map, hx]; rfl) (by rw [hvx]; rfl)
      have hi2 : A.ix 1 1 zm i2 [I vm] := by subst hA; exact ix_map hzm hiq (by rw [List.getElem?_map, List.getElem?_append_left hqN, hx]; rfl) (by rw [hvm]; rfl)
      have hi3 : A.ix 1 1 zr (A.sub .i64 (A.sub .i64 (A.vlen zr) 1) i2) [I vx] := by
        subst hA
        have e0 : iLen zr.length = iLen l.length := by rw [hzr]; simp
        have e1 := back_sub hqN (show l.length ≤ 1000 by omega)
        have e2 : iLen l.length - 1 - iLen q = iLen (l.length - 1 - q) := by unfold iLen; omega
        show ixS _ _ _ (iSub .i64 (iSub .i64 (iLen zr.length) 1) i2) _
        rw [e0, hiq, e1, e2]
        refine ix_map hzr rfl (x := vx) ?_ rfl
        rw [List.getElem?_map, List.getElem?_reverse (by omega), show l.length - 1 - (l.length - 1 - q) = q by omega, hx]
        simp [ve_rev, hvx]
      have hi4 : A.ix 4 4 xl i2 (ldC x0) := by subst hA; exact ix_map hxl hiq hx rfl
      have hn1 : A.ne vx vx = false := by subst hA; simp [std, iNe]
      have hn2 : A.eq vm 1 = true → A.ne vx 1 = false := fun h => by subst hA; simp [std, iNe, iEq] at h ⊢; exact hc1 h
      have hn3 : A.eq vx 2 = true → A.ne vm 2 = false := fun h => by subst hA; simp [std, iNe, iEq] at h ⊢; exact hc2 h
      have hap2 : ∀ f f2, f = farS y.at_ x0.at_ → f2 = tab0 p.shares f → true = true → A.eq f2 0 = true → ∀ x ∈ l.take (q + 1), tab0 p.shares (farS y.at_ x.at_) = 0 := fun f f2 hf hf2 h0 h x hx' => by
        rw [List.take_add_one, hx] at hx'
        rcases List.mem_append.1 hx' with h1 | h1
        · exact hap h0 x h1
        · simp at h1; subst h1
          rw [← hf, ← hf2]; subst hA; simpa [std, iEq] using h
      repeat' (first
        | (refine Exists.intro _ (And.intro hi1 ?_); cbv)
        | (refine Exists.intro _ (And.intro hi2 ?_); cbv)
        | (refine Exists.intro _ (And.intro hi3 ?_); cbv)
        | (refine Exists.intro _ (And.intro hi4 ?_); cbv)
        | (refine Exists.intro () (And.intro hsm ?_); intro f hf; cbv)
        | (refine Exists.intro p.shares (And.intro hp.hs (And.intro hb1 ?_)); intro f2 hf2; cbv)
        | (split <;> cbv))
      all_goals first
        | exact hB false _ _ hqN (fun h => Bool.noConfusion h) ⟨rfl, rfl, rfl, rfl, rfl, rfl, rfl, congrArg I (hadd hqN), trivial⟩ (.inl rfl)
        | exact hB (A.eq f2 0) _ _ hqN (hap2 _ _ hf hf2 rfl) ⟨rfl, rfl, rfl, rfl, rfl, rfl, rfl, congrArg I (hadd hqN), trivial⟩ (.inl rfl)
        | (exfalso; rename_i g; exact Bool.noConfusion (hn1.symm.trans g))
        | (exfalso; rename_i g1 g2; exact Bool.noConfusion ((hn2 g1).symm.trans g2))
        | (exfalso; rename_i g1 _ g2; exact Bool.noConfusion ((hn2 g1).symm.trans g2))
        | (exfalso; rename_i g1 g2; exact Bool.noConfusion ((hn3 g1).symm.trans g2))
        | (exfalso; rename_i g1 _ g2; exact Bool.noConfusion ((hn3 g1).symm.trans g2))
        | trace_state
    · rename_i hk1
      have hqN : ¬ q < l.length := by have := hlt.symm.trans hk1; simpa using this
      have hnot : A.bnot true = false := by subst hA; rfl
      have hall := hap rfl
      rw [List.take_of_length_le (by omega)] at hall
      have hsl : A.slv 1 1 zm none (some (A.vlen zs)) (zm.take l.length) := by
        subst hA
        have e0 : iLen zs.length = iLen l.length := by rw [hzs]; simp
        have e1 : zm.length = l.length + 1 := by rw [hzm]; simp
        show slvS 1 1 zm none (some (iLen zs.length)) _
        rw [e0]
        refine ⟨rfl, 0, l.length, rfl, ?_, Nat.zero_le _, by omega, by simp⟩
        unfold bdI iLen
        simp
      have heq : zm.take l.length = (l.map (veS p ice cr (l ++ [y]))).map I := by
        rw [hzm, List.map_append, List.map_append, List.take_append_of_le_length (by simp)]
        exact List.take_of_length_le (by simp)
      have heq2 : l.map (veS p ice cr l) = l.map (veS p ice cr (l ++ [y])) := List.map_congr_left fun x hx => (ve_apart hV.p (hall x hx)).symm
      have hbl1 : BigL (l.map (veS p ice cr l)) := by unfold BigL; simp; omega
      have hbl2 : BigL (l.map (veS p ice cr (l ++ [y]))) := by unfold BigL; simp; omega
      generalize hzt : zm.take l.length = zt at hsl heq
      split <;> cbv
      · rename_i hq; exact Bool.noConfusion (hq.symm.trans hnot)
      refine Exists.intro zt (And.intro hsl ?_)
      cbv
      refine Exists.intro _ (Exists.intro _ (And.intro ⟨hzs, hbl1⟩ (And.intro ⟨heq, hbl2⟩ ?_)))
      intro bb hbb
      rw [decide_eq_true heq2] at hbb
      subst hbb
      cbv
      exact hk _
end Go.Sas
