/-
Freight: ways of delivering that may be written to; a family of rows is frozen.
Freight: the law FreightTells: its core.
Conditions: none.
-/
import Derived.Test.YthpjckoklnhbcaaHU
import Derived.Test.YthpjckoklnhbcaaI1
import Derived.Test.YthpjckoklnhbcaaQFL14
set_option linter.unusedVariables false
set_option linter.unusedSimpArgs false
namespace Go.Sas
open Go.Proofs
set_option maxRecDepth 100000
theorem d42b (a b c d u v : Int) (cs : List (Int × Int)) (os : List Ord) (ws : List Int) (xs ys zs : List AV) (hxs : xs = cs.map sp) (hys : ys = os.map orV) (hzs : zs = ws.map I) (hV : FrtV ⟨(a, b), (c, d), cs, os⟩) (hwl : ws.length = cs.length) (hwb : ∀ x ∈ ws, 0 ≤ x ∧ x ≤ 1000000) (w : Int) {Kk : AV → AHeap → Prop}
    (h : ∀ w' (sw : Nat → Nat → Int), WayV ⟨(a, b), (c, d), cs, os⟩ ⟨u, v, ws⟩ (rowsF os.length cs.length sw) → (∀ k e, 0 ≤ sw k e ∧ sw k e ≤ 1000000) → Kk (.ms 1 3 0 0 os.length) (.own 0 [U w'] :: .own 0 [] :: .own 0 [] :: .own 0 (outC 5 os.length os.length cs.length) :: .own 0 [] :: wayH os.length cs.length sw)) :
    ACalls Try.prog 42 [.mp 0 0 0, frV a b c d (.vs 2 xs) (.vs 4 ys), winV u v (.vs 1 zs)] [.own 0 [U w]] Kk := by
  refine ACalls.frees ?_
  have hc1 := hV.c1
  have hc2 := hV.c2
  have ho1 := hV.o1
  have ho2 := hV.o2
  dsimp only at hc1 hc2 ho1 ho2
  have hub := hV.ords.u
  obtain ⟨N, hN⟩ : ∃ N, N = os.length := ⟨_, rfl⟩
  obtain ⟨D, hDD⟩ : ∃ D, D = cs.length := ⟨_, rfl⟩
  rw [← hDD] at hc1 hc2 hwl
  rw [← hN] at ho1 ho2
  obtain ⟨A, hA⟩ : ∃ A, A = std := ⟨_, rfl⟩
  have hne : ∀ x y, A.ne x y = decide (x ≠ y) := by subst hA; intro x y; simp only [std, iNe]; rw [Bool.eq_iff_iff]; simp
  have hee : ∀ x y, A.eq x y = decide (x = y) := by subst hA; intro x y; exact iEq_dec _ _
  have hll : ∀ x y, A.lt x y = decide (x < y) := by subst hA; intro x y; rfl
  have hle : ∀ x y, A.le x y = decide (x ≤ y) := by subst hA; intro x y; rfl
  have hnb : ∀ b, A.bnot b = !b := by subst hA; intro b; rfl
  have hbd : ∀ x y, A.band x y = (x && y) := by subst hA; intro x y; rfl
  have hsg : ∀ g, A.sg g g := by subst hA; exact fun _ => rfl
  obtain ⟨F, hF⟩ : ∃ F, F = Frees 1 Kk := ⟨_, rfl⟩
  rw [show Frees [AObj.own 0 [U w]].length Kk = F from hF.symm]
  have hv1 : A.vlen zs = iLen D := by subst hA; simp [std, hzs, hwl]
  have hv2 : A.vlen ys = iLen N := by subst hA; simp [std, hys, hN]
  have hmk3 : A.mkz 1 24 [.slice none 0 0] (A.vlen ys) (A.vlen ys) (outC 5 0 N D) N := by
    rw [hv2]; subst hA; exact ⟨by unfold iLen; omega, Int.le_refl _, by unfold iLen; omega, by unfold iLen; omega, rfl, by unfold iLen; omega, by rw [← outC_zero]; rfl⟩
  have hmk4 : A.mkz 1 8 [.int .i64 0] (A.vlen ys) (A.vlen ys) (rowF N fun _ => 0) N := by
    rw [hv2]; subst hA; exact ⟨by unfold iLen; omega, Int.le_refl _, by unfold iLen; omega, by unfold iLen; omega, rfl, by unfold iLen; omega, by rw [← zeros_row]; rfl⟩
  obtain ⟨oc, hoc⟩ : ∃ oc, oc = outC 5 0 N D := ⟨_, rfl⟩
  obtain ⟨lc, hlc⟩ : ∃ oc, oc = rowF N fun _ => 0 := ⟨_, rfl⟩
  rw [← hoc] at hmk3
  rw [← hlc] at hmk4
  refine go42 rfl (SGo_run hA ⟨[3, 4], [], [], []⟩ .nil .nil 200 fun T TD hT hTD => ?_)
  cbv
  refine Exists.intro oc (Exists.intro N (And.intro hmk3 ?_)); cbv
  refine Exists.intro lc (Exists.intro N (And.intro hmk4 ?_)); cbv
  rw [hT]
  refine AGo_upE [0, 4, 5, 7, 8] N (fun _ (_ : Unit) => True) (fun j _ i => [(9, I i)])
    (fun j _ => .own 0 [U w] :: .own 0 [I a, I b, I c, I d, .vs 2 xs, .vs 4 ys] :: .own 0 [I u, I v, .vs 1 zs] :: .own 0 (outC 5 j N D) :: .own 0 (rowF N fun k => if k < j then unitS os k else 0) :: wayH j D fun _ _ => 0) () trivial ⟨rfl, trivial⟩ (.inl (by rw [hoc, hlc]; rfl)) fun j _ i hi hj _ Bk hB => ?_
  have hlt : A.lt i (A.vlen ys) = decide (j < N) := by subst hA; exact lt_len (by simp [hys, hN]) hi
  have hadd : ∀ N, j < N → N ≤ 9223372036854775807 → A.add .i64 i 1 = iLen (j + 1) := fun N hj hN => by subst hA; exact add_one hi hj hN
  obtain ⟨lr, hlr⟩ : ∃ r, r = rowF N fun k => if k < j then unitS os k else 0 := ⟨_, rfl⟩
  obtain ⟨oc2, hoc2⟩ : ∃ r, r = outC 5 j N D := ⟨_, rfl⟩
  rw [← hlr, ← hoc2]
  obtain ⟨WH, hWH⟩ : ∃ r, r = wayH j D fun _ _ => 0 := ⟨_, rfl⟩
  have hWl : LenIs WH j := by unfold LenIs; rw [hWH]; exact wayH_len
  rw [← hWH]
  refine SGo_run hA ⟨[3, 4], [], [], ed2⟩ .nil ed2_ok 200 fun T TD hT hTD => ?_
  cbv
  split <;> cbv
  · rename_i hk0
    have hk1 : j < N := by have hz := hlt.symm.trans hk0; simpa using hz
    clear hk0
    obtain ⟨⟨ou, od, ol, ol2⟩, hx⟩ : ∃ x, os[j]? = some x := ⟨_, List.getElem?_eq_getElem (hN ▸ hk1)⟩
    have hix : A.ix 4 4 ys i [I ou, I od, I ol, I ol2] := by subst hA; exact ix_map hys hi hx rfl
    have hix1 : A.ixm 1 1 0 N i j := by subst hA; exact ixm1 hi hk1
    have hup : A.upd 1 lr j [I ou] (rowF N fun k => if k < j + 1 then unitS os k else 0) := by
      subst hA; rw [hlr]
      have := updS_row (D := N) (d := j) (f := fun k => if k < j then unitS os k else 0) (v := ou) hk1
      rw [show rowF N (updF (fun k => if k < j then unitS os k else 0) j ou) = rowF N fun k => if k < j + 1 then unitS os k else 0 from rowF_congr fun k _ => by
        unfold updF; dsimp only
        by_cases h1 : k = j
        · subst h1; rw [if_pos rfl, if_pos (by omega), unitS_get hx]
        · rw [if_neg h1]
          by_cases h2 : k < j
          · rw [if_pos h2, if_pos (by omega)]
          · rw [if_neg h2, if_neg (by omega)]] at this
      exact this
    obtain ⟨lr2, hlr2⟩ : ∃ r, r = rowF N fun k => if k < j + 1 then unitS os k else 0 := ⟨_, rfl⟩
    rw [← hlr2] at hup
    have hmk2 : A.mkz 1 8 [.int .i64 0] (A.vlen zs) (A.vlen zs) (rowF D fun _ => 0) D := by
      rw [hv1]; subst hA; exact ⟨by unfold iLen; omega, Int.le_refl _, by unfold iLen; omega, by unfold iLen; omega, rfl, by unfold iLen; omega, by rw [← zeros_row]; rfl⟩
    obtain ⟨z, hz⟩ : ∃ z, z = rowF D fun _ => 0 := ⟨_, rfl⟩
    rw [← hz] at hmk2
    have hup2 : A.upd 1 oc2 j [.ms 1 (5 + j) 0 0 D] (outC 5 (j + 1) N D) := by subst hA; rw [hoc2]; exact outC_set hk1
    obtain ⟨oc3, hoc3⟩ : ∃ r, r = outC 5 (j + 1) N D := ⟨_, rfl⟩
    rw [← hoc3] at hup2
    obtain ⟨rid, hrid⟩ : ∃ r, r = 5 + j := ⟨_, rfl⟩
    rw [← hrid] at hup2
    rw [hT]
    obtain ⟨WH2, hWH2⟩ : ∃ r, r = WH ++ [.own 0 z] := ⟨_, rfl⟩
    refine AGo_drwQ [.own 0 [U w], .own 0 [I a, I b, I c, I d, .vs 2 xs, .vs 4 ys], .own 0 [I u, I v, .vs 1 zs], .own 0 [], .own 0 []] (.own 0 [U w] :: .own 0 [I a, I b, I c, I d, .vs 2 xs, .vs 4 ys] :: .own 0 [I u, I v, .vs 1 zs] :: .own 0 oc2 :: .own 0 lr :: WH2) z D rid (by unfold LenIs at hWl; simp [hWl]; omega) (by rw [hWH2]; rfl) (by simp [SubH]) ?_
    refine SD_run hA ⟨[3, 4], [], [], []⟩ .nil .nil 200 200 (fun D' hD => by cases hD; simp [SubH]) fun T TD hT hTD => ?_
    cbv
    refine Exists.intro _ (And.intro hix ?_); cbv
    refine And.intro hmk2 ?_; cbv
    refine And.intro (hsg _) (Exists.intro j (And.intro hix1 ?_)); cbv
    refine And.intro (hsg _) (Exists.intro lr2 (And.intro hup ?_)); cbv
    refine And.intro (by subst hA; exact .inr ⟨by simp [SubH], ⟨.inr (by show (_ :: _ :: _ :: _ :: _ :: WH2 : AHeap)[rid]? = (_ :: _ :: _ :: _ :: _ :: WH2 : AHeap)[rid]?; rw [hrid, Nat.add_comm]; rfl), trivial⟩, .inl rfl⟩) ?_; cbv
    refine And.intro (hsg _) (Exists.intro j (And.intro hix1 ?_)); cbv
    refine And.intro (hsg _) (Exists.intro oc3 (And.intro hup2 ?_)); cbv
    refine hB () _ _ hk1 trivial ⟨congrArg I (hadd _ hk1 (by omega)), trivial⟩ ⟨rfl, rfl, rfl, rfl, rfl, trivial⟩ (.inl ?_)
    rw [hlr2, hoc3, hWH2, hWH, hz, wayH_succ]
  · rename_i hk0
    have hk1 : ¬ j < N := by have hz := hlt.symm.trans hk0; simpa using hz
    clear hk0
    have hjn : j = N := by omega
    have hlrN : lr = rowF N (unitS os) := by
      rw [hlr, hjn]
      exact rowF_congr fun k hk => by rw [if_pos (by omega)]
    have hocN : oc2 = outC 5 N N D := by rw [hoc2, hjn]
    subst hjn
    clear hB hlt hadd
    refine Exists.intro () (And.intro (by omega) ?_)
    rintro w2 _ ⟨lz, rfl⟩
    cbv
    rw [hT]
    obtain ⟨R, hR⟩ : ∃ R, R = roomW ⟨u, v, ws⟩ := ⟨_, rfl⟩
    have hRb : ∀ d, 0 ≤ R d ∧ R d ≤ 1000000 := by rw [hR]; exact roomW_bnd hwb
    have hu := unitS_bnd hub
    dsimp only at hu
    refine AGo_upE [0, 4, 5, 7, 8, 10] D (fun q (s : Int × (Nat → Int) × (Nat → Nat → Int)) => WIn R (unitS os) j q s.2.1 s.2.2) (fun q _ i => [(11, I i)])
      (fun q s => .own 0 [U s.1] :: .own 0 [I a, I b, I c, I d, .vs 2 xs, .vs 4 ys] :: .own 0 [I u, I v, .vs 1 zs] :: .own 0 (outC 5 j j D) :: .own 0 (rowF j s.2.1) :: wayH j D s.2.2) (w2, unitS os, fun _ _ => 0)
      ⟨hu, fun _ _ => by dsimp only; omega, fun k _ => by dsimp only [sumR]; omega, fun e he => absurd he (Nat.not_lt_zero _), fun _ _ _ => rfl⟩ ⟨rfl, trivial⟩ (.inl (by rw [hlrN, hocN, hWH])) fun q s i hi hq hP Bk hB => ?_
    have hlt : A.lt i (A.vlen zs) = decide (q < D) := by rw [hv1, hll, hi, decide_eq_decide]; unfold iLen; omega
    have hadd : ∀ N, q < N → N ≤ 9223372036854775807 → A.add .i64 i 1 = iLen (q + 1) := fun N hj hN => by subst hA; exact add_one hi hj hN
    obtain ⟨w3, sl, sw⟩ := s
    obtain ⟨lf, hlf⟩ : ∃ r, r = rowF j sl := ⟨_, rfl⟩
    obtain ⟨ot, hot⟩ : ∃ r, r = outC 5 j j D := ⟨_, rfl⟩
    obtain ⟨W2, hW2⟩ : ∃ r, r = wayH j D sw := ⟨_, rfl⟩
    dsimp only
    rw [← hlf, ← hot, ← hW2]
    clear hT hTD T TD
    refine SGo_run hA ⟨[3, 4], [], (44, eRoomK) :: [], (31, ePlanOf) :: ed2⟩ (.cons eRoomK_ok .nil) (.cons ePlanOf_ok ed2_ok) 200 fun T TD hT hTD => ?_
    cbv
    split <;> cbv
    · rename_i hk0
      have hk1 : q < D := of_decide_eq_true (hlt.symm.trans hk0)
      clear hk0
      refine Exists.intro ws (Exists.intro q (And.intro ⟨hzs, hi, by omega, by omega⟩ ?_))
      intro rm hrm; cbv
      rw [← hR] at hrm
      refine Exists.intro j (And.intro ⟨hv2, by omega⟩ ?_)
      rintro w4 _ ⟨ps, p, rfl, hps, hpp⟩
      cbv
      have hpl : p.length = j := by rw [hpp.length_eq]; simp
      have hpn : p.Nodup := hpp.nodup_iff.2 List.nodup_range
      have hplt : ∀ k ∈ p, k < j := fun k hk => List.mem_range.1 (hpp.mem_iff.1 hk)
      rw [hT]
      refine AGo_upE [0, 4, 5, 7, 8, 10, 11, 13] j (fun y (t : Int × Int × (Nat → Int) × (Nat → Nat → Int)) => WMid R (unitS os) j q (p.take y) t.2.1 t.2.2.1 t.2.2.2) (fun y t i => [(12, I t.2.1), (14, I i)])
        (fun y t => .own 0 [U t.1] :: .own 0 [I a, I b, I c, I d, .vs 2 xs, .vs 4 ys] :: .own 0 [I u, I v, .vs 1 zs] :: .own 0 (outC 5 j j D) :: .own 0 (rowF j t.2.2.1) :: wayH j D t.2.2.2) (w4, R q, sl, sw)
        (hP.mid (hRb q)) ⟨congrArg I hrm, rfl, trivial⟩ (.inl (by rw [hlf, hot, hW2])) fun y t i2 hi2 hy hPt Bk2 hB2 => ?_
      have hlt2 : A.lt i2 (A.vlen ps) = decide (y < j) := by subst hA; exact lt_len (by simp [hps, hpl]) hi2
      have hadd2 : ∀ N, y < N → N ≤ 9223372036854775807 → A.add .i64 i2 1 = iLen (y + 1) := fun N hj hN => by subst hA; exact add_one hi2 hj hN
      obtain ⟨w5, tr, tl, tw⟩ := t
      dsimp only at hPt
      dsimp only
      obtain ⟨lg, hlg⟩ : ∃ r, r = rowF j tl := ⟨_, rfl⟩
      obtain ⟨W3, hW3⟩ : ∃ r, r = wayH j D tw := ⟨_, rfl⟩
      rw [← hlg, ← hW3, ← hot]
      clear hT hTD T TD
      refine SGo_run hA ⟨[3, 4], [1000079], [], []⟩ .nil .nil 200 fun T TD hT hTD => ?_
      cbv
      split <;> cbv
      · rename_i hk0
        have hk2 : y < j := of_decide_eq_true (hlt2.symm.trans hk0)
        clear hk0
        obtain ⟨k, hx⟩ : ∃ x, p[y]? = some x := ⟨_, List.getElem?_eq_getElem (by omega)⟩
        have hkn := hplt k (List.mem_of_getElem? hx)
        have hix : A.ix 1 1 ps i2 [I (iLen k)] := by subst hA; exact ix_map hps hi2 hx rfl
        obtain ⟨ik, hik⟩ : ∃ i, i = iLen k := ⟨_, rfl⟩
        rw [← hik] at hix
        have hx2 : A.ixm 1 1 0 j ik k := by subst hA; exact ixm1 hik hkn
        have hg1 : A.get none lg k (I (tl k)) := by subst hA; rw [hlg]; exact getS_row hkn
        obtain ⟨rid, hrid⟩ : ∃ r, r = 5 + k := ⟨_, rfl⟩
        have hg2 : A.get none ot k (.ms 1 rid 0 0 D) := by subst hA; rw [hot, hrid]; exact outC_get hkn
        have hlb := hPt.a k
        have hrb := hPt.r
        refine Exists.intro _ (And.intro hix ?_); cbv
        refine And.intro (hsg _) (Exists.intro k (And.intro hx2 ?_)); cbv
        refine And.intro (hsg _) (Exists.intro _ (And.intro hg1 ?_)); cbv
        obtain ⟨mn, hmn⟩ : ∃ r, r = A.min tr (tl k) := ⟨_, rfl⟩
        have hmn2 : mn = min tr (tl k) := by rw [hmn]; subst hA; exact iMin_eq _ _
        have hmnb : 0 ≤ mn ∧ mn ≤ 1000000 := by rw [hmn2]; omega
        have hadm : A.add .i64 mn 1 = mn + 1 := by subst hA; exact iAdd_id (by omega) (by omega)
        rw [hT]
        refine AGo_cut (k1 := [_, _]) (fun e H => ∃ (w' n : Int), (0 ≤ n ∧ n ≤ mn) ∧ Fits e [(0, .mp 0 0 0), (4, .mp 1 0 0), (5, .mp 2 0 0), (7, .ms 1 3 0 0 j), (8, .ms 1 4 0 0 j), (10, B lz), (11, I i), (12, I tr), (13, .vs 1 ps), (14, I i2), (15, I n)] ∧ H = .own 0 [U w'] :: .own 0 [I a, I b, I c, I d, .vs 2 xs, .vs 4 ys] :: .own 0 [I u, I v, .vs 1 zs] :: .own 0 ot :: .own 0 lg :: W3) ?_ (fun e1 H1 hP1 => ?_)
        · clear hT hTD T TD
          refine SGo_run hA ⟨[3, 4], [], [], ed2⟩ .nil ed2_ok 200 fun T TD hT hTD => ?_
          cases lz with
          | true =>
            cbv
            refine Exists.intro () (And.intro (by show A.add .i64 (A.min tr (tl k)) 1 ≤ _; rw [← hmn, hadm]; omega) ?_)
            rintro w6 _ ⟨n, rfl, hn0, hn1⟩
            have hn1 : n < A.add .i64 (A.min tr (tl k)) 1 ∨ n = 0 := hn1
            rw [← hmn, hadm] at hn1
            cbv
            exact ⟨w6, n, ⟨hn0, by omega⟩, ⟨rfl, rfl, rfl, rfl, rfl, rfl, rfl, rfl, rfl, rfl, rfl, trivial⟩, rfl⟩
          | false =>
            cbv
            refine Exists.intro () (And.intro (by omega) ?_)
            rintro w6 _ ⟨yy, rfl⟩
            cases yy with
            | true =>
              cbv
              refine Exists.intro () (And.intro (by show A.add .i64 (A.min tr (tl k)) 1 ≤ _; rw [← hmn, hadm]; omega) ?_)
              rintro w7 _ ⟨n, rfl, hn0, hn1⟩
              have hn1 : n < A.add .i64 (A.min tr (tl k)) 1 ∨ n = 0 := hn1
              rw [← hmn, hadm] at hn1
              cbv
              exact ⟨w7, n, ⟨hn0, by omega⟩, ⟨rfl, rfl, rfl, rfl, rfl, rfl, rfl, rfl, rfl, rfl, rfl, trivial⟩, rfl⟩
            | false =>
              cbv
              exact ⟨w6, mn, ⟨hmnb.1, Int.le_refl _⟩, ⟨rfl, rfl, rfl, rfl, rfl, rfl, rfl, rfl, rfl, rfl, congrArg I hmn.symm, trivial⟩, rfl⟩
        obtain ⟨w8, n, ⟨hn0, hn1⟩, hf1, hH1⟩ := hP1
        subst hH1
        refine AGo_forget _ _ hf1 (.inl rfl) ?_ (by simp)
        clear hf1 hT hTD T TD
        have hx3 : A.ixm 1 1 0 j ik k := hx2
        refine SGo_run hA ⟨[3, 4], [1000097], [], []⟩ .nil .nil 200 fun T TD hT hTD => ?_
        cbv
        refine Exists.intro _ (And.intro hix ?_); cbv
        refine And.intro (hsg _) (Exists.intro k (And.intro hx2 ?_)); cbv
        refine And.intro (hsg _) (Exists.intro _ (And.intro hg2 ?_)); cbv
        rw [hT]
        have hjq : ixmS 1 1 0 D i q := ixm1 hi hk1
        have hXr : ∀ (o0 o1 o2 o3 o4 : AObj), (o0 :: o1 :: o2 :: o3 :: o4 :: W3)[rid]? = some (.own 0 (rowF D (tw k))) := fun o0 o1 o2 o3 o4 => by
          rw [hrid, hW3, Nat.add_comm]; exact wayH_get hkn
        refine AGo_iaN rfl rfl rfl (hXr _ _ _ _ _) hjq ?_
        obtain ⟨W4, hW4⟩ : ∃ r, r = wayH j D (updF tw k (updF (tw k) q n)) := ⟨_, rfl⟩
        have hXs : ∀ (o0 o1 o2 o3 o4 : AObj), (o0 :: o1 :: o2 :: o3 :: o4 :: W3).set rid (.own 0 (rowF D (updF (tw k) q n))) = o0 :: o1 :: o2 :: o3 :: o4 :: W4 := fun o0 o1 o2 o3 o4 => by
          rw [hrid, hW3, hW4, Nat.add_comm, ← wayH_set]; rfl
        refine AGo_stN (xs := [I n]) rfl rfl rfl (hXr _ _ _ _ _) (updS_row (v := n) hk1) (hXs _ _ _ _ _) ?_
        refine AGo_ops_nil ?_
        refine AGo_drwM [.own 0 [U w8], .own 0 [I a, I b, I c, I d, .vs 2 xs, .vs 4 ys], .own 0 [I u, I v, .vs 1 zs], .own 0 ot, .own 0 []] [.own 0 [U w8], .own 0 [I a, I b, I c, I d, .vs 2 xs, .vs 4 ys], .own 0 [I u, I v, .vs 1 zs], .own 0 ot, .own 0 lg]
          (.own 0 [U w8] :: .own 0 [I a, I b, I c, I d, .vs 2 xs, .vs 4 ys] :: .own 0 [I u, I v, .vs 1 zs] :: .own 0 ot :: .own 0 lg :: W4) [] 0 _ rfl (by simp [keptN, newsOf]) (by simp [SubH, SubH_own]) (by simp [SubH, SubH_own]) ?_
        have hg3 : A.upd 1 lg k [I (A.sub .i64 (tl k) n)] (rowF j (updF tl k (A.sub .i64 (tl k) n))) := by subst hA; rw [hlg]; exact updS_row hkn
        obtain ⟨lh, hlh⟩ : ∃ r, r = rowF j (updF tl k (A.sub .i64 (tl k) n)) := ⟨_, rfl⟩
        rw [← hlh] at hg3
        refine SD_run hA ⟨[3, 4], [], [], []⟩ .nil .nil 200 200 (fun D' hD => by cases hD; simp [SubH, SubH_own]) fun T TD hT hTD => ?_
        cbv
        refine Exists.intro _ (And.intro hix ?_); cbv
        refine Exists.intro _ (And.intro hix ?_); cbv
        refine And.intro (hsg _) (Exists.intro k (And.intro hx2 ?_)); cbv
        refine And.intro (hsg _) (Exists.intro _ (And.intro hg1 ?_)); cbv
        refine And.intro (hsg _) (Exists.intro k (And.intro hx2 ?_)); cbv
        refine And.intro (hsg _) (Exists.intro lh (And.intro hg3 ?_)); cbv
        refine And.intro (by subst hA; exact .inr ⟨by simp [SubH, SubH_own], trivial, .inl rfl⟩) ?_; cbv
        have hs1 : A.sub .i64 (tl k) n = tl k - n := by subst hA; exact iSub_id (by omega) (by omega)
        have hs2 : A.sub .i64 tr n = tr - n := by subst hA; exact iSub_id (by omega) (by omega)
        have hkt : k ∉ p.take y := by
          intro hm
          obtain ⟨i', hi'⟩ := List.mem_iff_getElem?.1 hm
          rw [List.getElem?_take] at hi'
          split at hi'
          · rename_i h9
            have := (List.getElem?_inj (by omega : i' < p.length) hpn).1 (hi'.trans hx.symm)
            omega
          · cases hi'
        have hpt : p.take (y + 1) = p.take y ++ [k] := by
          obtain ⟨h8, he⟩ := List.getElem?_eq_some_iff.1 hx
          rw [List.take_succ_eq_append_getElem h8, he]
        refine hB2 (w8, tr - n, updF tl k (tl k - n), updF tw k (updF (tw k) q n)) _ _ hk2 ?_ ⟨congrArg I hs2, congrArg I (hadd2 _ hk2 (by omega)), trivial⟩ ⟨rfl, rfl, rfl, rfl, rfl, rfl, rfl, rfl, trivial⟩ (.inl (by dsimp only; rw [hlh, hs1, hot, hW4]))
        show WMid R (unitS os) j q (p.take (y + 1)) (tr - n) _ _
        rw [hpt]
        exact hPt.give hkt hkn hn0 (by omega) (by omega)
      · rename_i hk0
        have hk2 : ¬ y < j := of_decide_eq_false (hlt2.symm.trans hk0)
        clear hk0
        exact hB (w5, tl, tw) _ _ hk1 hPt.done ⟨congrArg I (hadd _ hk1 (by omega)), trivial⟩ ⟨rfl, rfl, rfl, rfl, rfl, rfl, trivial⟩ (.inl (by rw [hlg, hot, hW3]))
    · rename_i hk0
      have hk1 : ¬ q < D := of_decide_eq_false (hlt.symm.trans hk0)
      clear hk0
      have hqD : q = D := by omega
      rw [hF]
      have hb9 := hP.b
      have hw9 : WayV ⟨(a, b), (c, d), cs, os⟩ ⟨u, v, ws⟩ (rowsF os.length cs.length sw) := by
        rw [hqD, hR] at hP
        rw [hN, hDD] at *
        exact WIn.way (f := ⟨(a, b), (c, d), cs, os⟩) (w := ⟨u, v, ws⟩) hP
      have h9 := h w3 sw hw9 hb9
      rw [← hN, ← hDD] at h9
      rw [hW2, hot]
      exact Frees.weak 1 rfl (Frees.weak 2 rfl (Frees.weak 4 rfl (Frees.now h9)))
theorem AV.renL_map {ι : List Nat} : ∀ {bs : List AV}, AV.renL ι bs = bs.map (AV.ren ι)
  | [] => rfl
  | a :: bs => by simp only [AV.renL, List.map_cons, AV.renL_map]
theorem at_more {id n c k : Nat} (h : k + 1 < c) : at_ (more [id] n c) (k + 1) = n + k := by
  simp only [at_, more, List.singleton_append, List.getElem?_cons_succ]
  rw [List.getElem?_range' (by simp only [List.length_cons, List.length_nil]; omega)]
  simp
theorem outC_ren {id n N D c : Nat} (hc : N + 5 ≤ c) : AV.renL (more [id] n c) (outC 5 N N D) = outC (n + 4) N N D := by
  rw [AV.renL_map, outC, outC, List.map_map]
  apply List.map_congr_left
  intro k hk
  have hk := List.mem_range.1 hk
  simp only [Function.comp]
  rw [if_pos hk, if_pos hk]
  simp only [AV.ren]
  rw [show 5 + k = (4 + k) + 1 by omega, at_more (by omega), show n + (4 + k) = n + 4 + k by omega]
theorem wayH_ren {ι : List Nat} {N D : Nat} {w : Nat → Nat → Int} : (wayH N D w).map (AObj.ren ι) = wayH N D w := by
  rw [wayH, List.map_map]
  apply List.map_congr_left
  intro k _
  simp only [Function.comp, AObj.ren]
  rw [AV.renL_nid nidL_rowF]
theorem d42m (a b c d u v : Int) (cs : List (Int × Int)) (os : List Ord) (ws : List Int) (xs ys zs : List AV) (hxs : xs = cs.map sp) (hys : ys = os.map orV) (hzs : zs = ws.map I) (hV : FrtV ⟨(a, b), (c, d), cs, os⟩) (hwl : ws.length = cs.length) (hwb : ∀ x ∈ ws, 0 ≤ x ∧ x ≤ 1000000) (w : Int) (id : Nat) (H : AHeap) (hH : H[id]? = some (.own 0 [U w])) {Kk : AV → AHeap → Prop}
    (h : ∀ w' (sw : Nat → Nat → Int), WayV ⟨(a, b), (c, d), cs, os⟩ ⟨u, v, ws⟩ (rowsF os.length cs.length sw) → (∀ k e, 0 ≤ sw k e ∧ sw k e ≤ 1000000) → Kk (.ms 1 (H.length + 2) 0 0 os.length) (H.set id (.own 0 [U w']) ++ (.own 0 [] :: .own 0 [] :: .own 0 (outC (H.length + 4) os.length os.length cs.length) :: .own 0 [] :: wayH os.length cs.length sw))) :
    ACalls Try.prog 42 [.mp id 0 0, frV a b c d (.vs 2 xs) (.vs 4 ys), winV u v (.vs 1 zs)] H Kk := by
  have h1 := d42b a b c d u v cs os ws xs ys zs hxs hys hzs hV hwl hwb w (Kk := fun r H' => ∃ w' sw, (WayV ⟨(a, b), (c, d), cs, os⟩ ⟨u, v, ws⟩ (rowsF os.length cs.length sw) ∧ ∀ k e, 0 ≤ sw k e ∧ sw k e ≤ 1000000) ∧ r = .ms 1 3 0 0 os.length ∧ H' = .own 0 [U w'] :: .own 0 [] :: .own 0 [] :: .own 0 (outC 5 os.length os.length cs.length) :: .own 0 [] :: wayH os.length cs.length sw) fun w' sw e1 e2 => ⟨w', sw, ⟨e1, e2⟩, rfl, rfl⟩
  have h2 := ACalls.frame (H := H) [id] h1 (by simp) rfl (by simp [AV.ltL, AV.lt]) (by simp [ltH, AObj.lt, AV.ltL, AV.lt])
    (fun k X hX => by
      cases k with
      | zero => simp at hX; subst hX; simpa [at_, AObj.ren, AV.renL, AV.ren] using hH
      | succ k => simp at hX)
  rw [show AV.renL [id] [.mp 0 0 0, frV a b c d (.vs 2 xs) (.vs 4 ys), winV u v (.vs 1 zs)] = [.mp id 0 0, frV a b c d (.vs 2 xs) (.vs 4 ys), winV u v (.vs 1 zs)] by simp [AV.renL, AV.ren, at_]] at h2
  refine h2.mono fun r H' hx => ?_
  obtain ⟨r0, H1, ⟨w', sw, ⟨e1, e2⟩, rfl, rfl⟩, _, rfl, rfl⟩ := hx
  have h3 := h w' sw e1 e2
  obtain ⟨N, hN⟩ : ∃ N, N = os.length := ⟨_, rfl⟩
  obtain ⟨D, hD⟩ : ∃ D, D = cs.length := ⟨_, rfl⟩
  rw [← hN, ← hD] at h3 ⊢
  simp only [AV.ren, List.map_cons, AObj.ren, AV.renL, wayH_ren, merge, updL, List.length_cons, List.length_nil, List.drop_succ_cons, List.drop_zero]
  rw [show at_ (more [id] H.length ((wayH N D sw).length + 1 + 1 + 1 + 1 + 1)) 3 = H.length + 2 from at_more (by omega), outC_ren (by rw [wayH_len]; omega)]
  exact h3
/-- ways whose rows may be written to -/
def eWayM : List AV → AHeap → Option PT
  | [.mp id 0 0, .agg [.lit (.int .i64 a), .lit (.int .i64 b), .lit (.int .i64 c), .lit (.int .i64 d), .vs 2 xs, .vs 4 ys], .agg [.lit (.int .i64 u), .lit (.int .i64 v), .vs 1 zs]], H => match H[id]? with
    | some (.own 0 [.lit (.int .u64 _)]) => some fun K => ∃ (cs : List (Int × Int)) (os : List Ord) (ws : List Int), (xs = cs.map sp ∧ ys = os.map orV ∧ zs = ws.map I ∧ FrtV ⟨(a, b), (c, d), cs, os⟩ ∧ ws.length = cs.length ∧ ∀ x ∈ ws, 0 ≤ x ∧ x ≤ 1000000) ∧
        ∀ w' (sw : Nat → Nat → Int) N D oc W, WayV ⟨(a, b), (c, d), cs, os⟩ ⟨u, v, ws⟩ (rowsF os.length cs.length sw) → (∀ k e, 0 ≤ sw k e ∧ sw k e ≤ 1000000) → N = os.length → D = cs.length → oc = outC (H.length + 4) N N D → W = wayH N D sw → K (.ms 1 (H.length + 2) 0 0 N) (H.set id (.own 0 [U w']) ++ (.own 0 [] :: .own 0 [] :: .own 0 oc :: .own 0 [] :: W))
    | _ => none
  | _, _ => none
theorem eWayM_ok : ∀ args H pt, eWayM args H = some pt → ∀ (Kk : AV → AHeap → Prop), pt Kk → ACalls Try.prog 42 args H Kk := by
  intro args H pt h Kk hk
  unfold eWayM at h
  split at h
  · split at h
    · rename_i hH
      cases h
      obtain ⟨cs, os, ws, ⟨rfl, rfl, rfl, h1, h2, h3⟩, h4⟩ := hk
      exact d42m _ _ _ _ _ _ cs os ws _ _ _ rfl rfl rfl h1 h2 h3 _ _ H hH fun w' sw e1 e2 => h4 w' sw _ _ _ _ e1 e2 rfl rfl rfl rfl
    · cases h
  · cases h
theorem ltH_nid {n : Nat} : ∀ {H : AHeap}, (∀ X ∈ H, X.nid) → ltH n H
  | [], _ => trivial
  | X :: H, h => by
    refine ⟨?_, ltH_nid fun Y hY => h Y (List.mem_cons_of_mem _ hY)⟩
    have hx := h X (List.mem_cons_self ..)
    cases X with
    | own g cs => exact AV.ltL_nid hx
    | gone => trivial
    | raw _ _ _ _ => exact hx.elim
/-- a family of rows is frozen, then the row of rows -/
theorem AGo_fam {cx : Cx} {m : Nat} {k : List AItm} {R : Env → AHeap → Prop} {S S' : List (Nat × AV)} {b n D q g0 : Nat} {w : Nat → Nat → Int} (pre : AHeap) (hb : pre.length = b) (hq : q < b) (hpre : ∀ i X, pre[i]? = some X → i ≠ q → X.nid) (hX : pre[q]? = some (.own g0 (outC b n n D)))
    (hS : ∀ i, b ≤ i → frzG i 0 1 (rowF D (w (i - b))) S = S) (hS' : frzG q g0 1 ((List.range n).map fun k => .vs 1 (rowF D (w k))) S = S') (hm : m ≤ b) (hg : ltG b S') (hfit : Fits ⟨[], S'⟩ S') (hk : ∀ l r, k ≠ .ops l :: r) (h : AGo cx m k R ⟨[], S'⟩ (pre.set q .gone)) : AGo cx m k R ⟨[], S⟩ (pre ++ wayH n D w) := by
  have key : ∀ i T, i ≤ n → (∀ X ∈ T, X = AObj.gone) → AGo cx m k R ⟨[], S⟩ ((pre.set q (.own g0 (outM b i n D w)) ++ wayH i D w) ++ T) := by
    intro i
    induction i with
    | zero =>
      intro T _ hT
      have hE : Elems 1 ((List.range n).map fun k => .vs 1 (rowF D (w k))) (outM b 0 n D w) := by
        have := Elems_map (f := fun k => AV.vs 1 (rowF D (w k))) (g := fun k => [AV.vs 1 (rowF D (w k))]) (sz := 1) (fun _ => rfl) (fun _ => rfl) (fun _ => rfl) (List.range n)
        rw [show outM b 0 n D w = (List.range n).flatMap fun k => [AV.vs 1 (rowF D (w k))] from by
          have : ∀ l : List Nat, (l.map fun k => if k < 0 then AV.ms 1 (b + k) 0 0 D else .vs 1 (rowF D (w k))) = l.flatMap fun k => [AV.vs 1 (rowF D (w k))] := by
            intro l; induction l with
            | nil => rfl
            | cons a l ih => rw [List.map_cons, List.flatMap_cons, ih]; simp
          exact this _]
        exact this
      refine AGo_frz q g0 1 _ (by simp [List.getElem?_append_left, hb, hq]) hE ?_
      have e1 : frzH q g0 1 ((List.range n).map fun k => .vs 1 (rowF D (w k))) ((pre.set q (.own g0 (outM b 0 n D w)) ++ wayH 0 D w ++ T).set q .gone) = pre.set q .gone ++ T := by
        rw [List.append_assoc, List.set_append_left _ _ (by rw [List.length_set, hb]; exact hq), List.set_set, frzH_map, List.map_append]
        refine congr (congrArg _ ?_) ?_
        · apply List.ext_getElem?; intro i
          rw [List.getElem?_map, List.getElem?_set]
          split
          · rename_i h1; subst h1; rw [if_pos (by omega)]; rfl
          · rename_i h1
            rcases hpk : pre[i]? with _ | X
            · rfl
            · simp only [Option.map_some]
              rw [AObj.frz_nid (hpre i X hpk (fun h => h1 h.symm))]
        · show List.map _ (wayH 0 D w ++ T) = T
          simp only [wayH, List.range_zero, List.map_nil, List.nil_append]
          rw [List.map_congr_left (g := fun x => x) (fun X hX => by rw [hT X hX]; rfl), List.map_id']
      rw [e1]
      show AGo cx m k R ⟨[], frzG q g0 1 _ S⟩ _
      rw [hS']
      refine AGo_forget S' (pre.set q .gone) hfit (.inr ⟨⟨T, rfl⟩, by rw [List.length_set, hb]; exact hm, by rw [List.length_set, hb]; exact hg, ?_⟩) h hk
      refine ltH_nid fun X hX => ?_
      obtain ⟨i, hi⟩ := List.mem_iff_getElem?.1 hX
      rw [List.getElem?_set] at hi
      split at hi
      · split at hi <;> cases hi; trivial
      · rename_i h1; exact hpre i X hi fun h9 => h1 h9.symm
    | succ i ih =>
      intro T hi hT
      have h1 := ih (.gone :: T) (by omega) (by intro X hX; rcases List.mem_cons.1 hX with rfl | hX; rfl; exact hT X hX)
      refine AGo_frz (b + i) 0 1 (rowF D (w i)) (cs := rowF D (w i)) ?_ ?_ ?_
      · rw [List.getElem?_append_left (by simp [wayH_len, hb]), List.getElem?_append_right (by simp [hb])]
        simp only [List.length_set, hb, Nat.add_sub_cancel_left]
        exact wayH_get (by omega)
      · have := Elems_I ((List.range D).map (w i))
        rw [List.map_map] at this; exact this
      · have h2 := hS (b + i) (by omega)
        rw [Nat.add_sub_cancel_left] at h2
        show AGo cx m k R ⟨[], frzG (b + i) 0 1 (rowF D (w i)) S⟩ _
        rw [h2, frzH_map]
        have h3 : List.map (AObj.frz (b + i) 0 1 (rowF D (w i))) ((pre.set q (.own g0 (outM b (i + 1) n D w)) ++ wayH (i + 1) D w ++ T).set (b + i) .gone) = (pre.set q (.own g0 (outM b i n D w)) ++ wayH i D w) ++ .gone :: T := by
          rw [wayH_succ, ← List.append_assoc, List.append_assoc _ [_] T, List.set_append_right _ _ (by simp [wayH_len, hb])]
          simp only [List.length_append, List.length_set, hb, wayH_len, Nat.sub_self, List.singleton_append, List.set_cons_zero, List.map_append, List.map_cons]
          refine congr (congrArg _ (congr (congrArg _ ?_) ?_)) (congr (congrArg _ rfl) ?_)
          · rw [List.map_set]
            simp only [AObj.frz, outM_frz]
            apply List.ext_getElem?; intro k
            rw [List.getElem?_set, List.getElem?_set]
            split
            · simp
            · rename_i hk
              rw [List.getElem?_map]
              rcases hpk : pre[k]? with _ | X
              · rfl
              · simp only [Option.map_some]
                rw [AObj.frz_nid (hpre k X hpk (fun h => hk h.symm))]
          · rw [wayH, List.map_map]
            apply List.map_congr_left; intro k _
            simp only [Function.comp, AObj.frz, AV.frzL_nid nidL_rowF]
          · have : T.map (AObj.frz (b + i) 0 1 (rowF D (w i))) = T.map id := by
              apply List.map_congr_left; intro X hX; rw [hT X hX]; rfl
            simpa using this
        rw [h3]; exact h1
  have h4 := key n [] (Nat.le_refl _) (by simp)
  rw [List.append_nil] at h4
  have h5 : outM b n n D w = outC b n n D := by
    apply List.map_congr_left; intro k hk; rw [if_pos (List.mem_range.1 hk), if_pos (List.mem_range.1 hk)]
  rw [h5] at h4
  rwa [show pre.set q (.own g0 (outC b n n D)) = pre from by
    apply List.ext_getElem?; intro k; rw [List.getElem?_set]; split
    · rename_i hk; subst hk; rw [if_pos (by omega), hX]
    · rfl] at h4
end Go.Sas
namespace Go.Sas
open Go.Proofs
set_option maxRecDepth 100000
def wiA (w : Win) : AV := winV w.fi w.la (.vs 1 (w.caps.map I))
def eSameD : List AV → Option ((AV → Prop) → Prop)
  | [.vs 4 xs, .vs 4 ys] => some fun K => ∃ l : List Dlv, (xs = l.map dlV ∧ ys = l.map dlV ∧ l.length ≤ 9223372036854775807) ∧ K (B true)
  | _ => none
theorem eSameD_ok : ∀ args pt, eSameD args = some pt → ∀ (H : AHeap) (Kk : AV → AHeap → Prop), pt (fun r => Kk r H) → ACalls Try.prog 61 args H Kk := by
  intro args pt h H Kk hk
  unfold eSameD at h
  split at h
  · cases h
    obtain ⟨l, ⟨rfl, rfl, h1⟩, h3⟩ := hk
    exact p61 _ _ h1 h1 H (by simpa using h3)
  · cases h
def eBillsR : List AV → Option ((AV → Prop) → Prop)
  | [.agg [.lit (.int .i64 a), .lit (.int .i64 b), .lit (.int .i64 c), .lit (.int .i64 d), .vs 2 xs, .vs 4 ys], .agg [.lit (.int .i64 u), .lit (.int .i64 v), .vs 1 zs], .vs 1 rs, .lit (.int .i64 rate), .lit (.int .i64 road)] =>
    some fun K => ∃ (cs : List (Int × Int)) (os : List Ord) (ws : List Int) (way : List (List Int)), (xs = cs.map sp ∧ ys = os.map orV ∧ zs = ws.map I ∧ (rs = way.map fun r => .vs 1 (r.map I)) ∧ cs.length ≤ 9223372036854775807 ∧ os.length ≤ 9223372036854775807 ∧ ws.length ≤ 9223372036854775807 ∧ way.length ≤ 9223372036854775807 ∧ ∀ r ∈ way, r.length ≤ 9223372036854775807) ∧
      ∀ bs e, bs = (billR ⟨(a, b), (c, d), cs, os⟩ ⟨u, v, ws⟩ way rate road).map I → e = billE ⟨(a, b), (c, d), cs, os⟩ ⟨u, v, ws⟩ way rate road → K (.tup [.vs 1 bs, I e])
  | _ => none
theorem eBillsR_ok : ∀ args pt, eBillsR args = some pt → ∀ (H : AHeap) (Kk : AV → AHeap → Prop), pt (fun r => Kk r H) → ACalls Try.prog 60 args H Kk := by
  intro args pt h H Kk hk
  unfold eBillsR at h
  split at h
  · cases h
    obtain ⟨cs, os, ws, way, ⟨rfl, rfl, rfl, rfl, h1, h2, h3, h4, h5⟩, h6⟩ := hk
    exact p60 _ _ _ _ _ _ _ _ cs os ws way h1 h2 h3 h4 h5 H (h6 _ _ rfl rfl)
  · cases h
theorem tellL_len {f : Frt} {w : Win} {way : List (List Int)} (h : f.ords.length ≤ 1000000) : (tellL f w way).length ≤ 9223372036854775807 := by
  unfold tellL
  split
  · simp
  · simp only [tellS, List.length_map, List.length_zip]; omega
theorem billR_len {f : Frt} {w : Win} {way : List (List Int)} {rate road : Int} (h : way.length ≤ 1000000) : (billR f w way rate road).length ≤ 9223372036854775807 := by
  unfold billR
  split
  · unfold billV; rw [billT_len, shareV_len, List.length_map]; omega
  · simp
theorem upd2_bnd {sw : Nat → Nat → Int} {k q : Nat} {v : Int} (h : ∀ k e, 0 ≤ sw k e ∧ sw k e ≤ 1000000) (hv : -1 ≤ v ∧ v ≤ 1000002) : ∀ i e, -1 ≤ updF sw k (updF (sw k) q v) i e ∧ updF sw k (updF (sw k) q v) i e ≤ 1000002 := by
  intro i e
  have h1 := h i e
  have h2 := h k e
  by_cases hi : i = k
  · have e1 : updF sw k (updF (sw k) q v) i = updF (sw k) q v := by unfold updF; rw [if_pos hi]
    rw [e1]
    unfold updF
    split <;> omega
  · have e1 : updF sw k (updF (sw k) q v) i = sw i := by unfold updF; rw [if_neg hi]
    rw [e1]; omega
set_option maxHeartbeats 8000000 in
theorem core14 (a b c d : Int) (cs : List (Int × Int)) (os : List Ord) (u v : Int) (ws : List Int) (way : List (List Int)) (rate road : Int) (nums : List Int) (hc : cs.length ≤ 9223372036854775807) (ho : os.length ≤ 9223372036854775807) (hw : ws.length ≤ 9223372036854775807) (hwy : way.length ≤ 9223372036854775807) (_ : -9223372036854775808 ≤ rate ∧ rate ≤ 9223372036854775807) (_ : -9223372036854775808 ≤ road ∧ road ≤ 9223372036854775807) (hn1 : nums.length ≤ 9223372036854775807) :
    ACalls Try.prog 14 [frV a b c d (.vs 2 (cs.map sp)) (.vs 4 (os.map orV)), winV u v (.vs 1 (ws.map I)), .vs 1 (way.map fun r => .vs 1 (r.map I)), I rate, I road, .vs 1 (nums.map I)] [] fun r _ => r = .lit (.bool true) := by
  obtain ⟨Kk, hKk⟩ : ∃ K : AV → AHeap → Prop, K = fun r _ => r = .lit (.bool true) := ⟨_, rfl⟩
  rw [← hKk]
  have h : ∀ H, Kk (B true) H := fun H => by rw [hKk]
  clear hKk
  obtain ⟨xs, hxs⟩ : ∃ xs, xs = cs.map sp := ⟨_, rfl⟩
  obtain ⟨ys, hys⟩ : ∃ ys, ys = os.map orV := ⟨_, rfl⟩
  obtain ⟨zs, hzs⟩ : ∃ ys, ys = ws.map I := ⟨_, rfl⟩
  obtain ⟨rs, hrs⟩ : ∃ rs : List AV, rs = way.map fun r => .vs 1 (r.map I) := ⟨_, rfl⟩
  obtain ⟨xn, hxn⟩ : ∃ ys, ys = nums.map I := ⟨_, rfl⟩
  rw [← hxs, ← hys, ← hzs, ← hrs, ← hxn]
  obtain ⟨A, hA⟩ : ∃ A, A = std := ⟨_, rfl⟩
  have hne : ∀ x y, A.ne x y = decide (x ≠ y) := by subst hA; intro x y; simp only [std, iNe]; rw [Bool.eq_iff_iff]; simp
  have hee : ∀ x y, A.eq x y = decide (x = y) := by subst hA; intro x y; exact iEq_dec _ _
  have hll : ∀ x y, A.lt x y = decide (x < y) := by subst hA; intro x y; rfl
  have hle : ∀ x y, A.le x y = decide (x ≤ y) := by subst hA; intro x y; rfl
  have hnb : ∀ b, A.bnot b = !b := by subst hA; intro b; rfl
  have hbd : ∀ x y, A.band x y = (x && y) := by subst hA; intro x y; rfl
  have hsg : ∀ g, A.sg g g := by subst hA; exact fun _ => rfl
  have hv1 : A.vlen zs = iLen ws.length := by subst hA; simp [std, hzs]
  have hv2 : A.vlen rs = iLen way.length := by subst hA; simp [std, hrs]
  have hl1 : A.lt 250 (A.vlen zs) = decide (250 < iLen ws.length) := by rw [hv1]; exact hll _ _
  have hl2 : A.lt 15 (A.vlen rs) = decide (15 < iLen way.length) := by rw [hv2]; exact hll _ _
  refine go14 rfl (SGo_run hA ⟨[], [2], (16, eBigF) :: (17, eAwake) :: [], edS⟩ (.cons eBigF_ok (.cons eAwake_ok .nil)) edS_ok 200 fun T TD hT hTD => ?_)
  cbv
  refine Exists.intro cs (Exists.intro os (And.intro hxs (And.intro hys ?_)))
  intro q hq; cbv
  split <;> cbv
  · exact h _
  obtain ⟨hb1, hb2⟩ := bigF_no hq.symm
  split <;> cbv
  · exact h _
  rename_i hz
  have hwl : ws.length ≤ 250 := by have hz := hl1.symm.trans hz; rw [decide_eq_false_iff_not] at hz; unfold iLen at hz; omega
  split <;> cbv
  · exact h _
  rename_i hz
  have hyl : way.length ≤ 15 := by have hz := hl2.symm.trans hz; rw [decide_eq_false_iff_not] at hz; unfold iLen at hz; omega
  rw [hT]
  obtain ⟨n0, hn0⟩ : ∃ n, n = way.length := ⟨_, rfl⟩
  refine AGo_upE [2, 3, 4, 5, 6, 7, 12] n0 (fun j (_ : Unit) => ∀ k r, k < j → way[k]? = some r → r.length ≤ 250) (fun _ _ i => [(13, I i)]) (fun _ _ => [.own 0 [I a, I b, I c, I d, .vs 2 xs, .vs 4 ys], .own 0 [I u, I v, .vs 1 zs]]) () (fun k _ hk => absurd hk (Nat.not_lt_zero _)) ⟨rfl, trivial⟩ (.inl rfl) fun j _ i hi hj hP Bk hB => ?_
  have hlt : A.lt i (A.vlen rs) = decide (j < n0) := by rw [hv2, hll, hi, decide_eq_decide]; unfold iLen; omega
  have hadd : ∀ N, j < N → N ≤ 9223372036854775807 → A.add .i64 i 1 = iLen (j + 1) := fun N hj hN => by subst hA; exact add_one hi hj hN
  clear hT hTD T TD
  refine SGo_run hA ⟨[], [2, 1000075], (17, eAwake) :: [], (42, eWayM) :: edS⟩ (.cons eAwake_ok .nil) (.cons eWayM_ok edS_ok) 200 fun T TD hT hTD => ?_
  cbv
  split <;> cbv
  · rename_i hk0
    have hk1 : j < n0 := by have hz := hlt.symm.trans hk0; simpa using hz
    clear hk0
    obtain ⟨r, hx⟩ : ∃ x, way[j]? = some x := ⟨_, List.getElem?_eq_getElem (by omega)⟩
    obtain ⟨rv, hrv⟩ : ∃ x, x = r.map I := ⟨_, rfl⟩
    have hix : A.ix 1 1 rs i [.vs 1 rv] := by subst hA; rw [hrv]; exact ix_map (f := fun r : List Int => AV.vs 1 (r.map I)) hrs hi hx rfl
    have hvv : A.vlen rv = iLen r.length := by subst hA; simp [std, hrv]
    have hl3 : A.lt 250 (A.vlen rv) = decide (250 < iLen r.length) := by rw [hvv]; exact hll _ _
    refine Exists.intro _ (And.intro hix ?_); cbv
    split <;> cbv
    · exact h _
    rename_i hz
    have hrl : r.length ≤ 250 := by have hz := hl3.symm.trans hz; rw [decide_eq_false_iff_not] at hz; unfold iLen at hz; omega
    refine hB () _ _ hk1 (fun k r' hk hr' => ?_) ⟨congrArg I (hadd _ hk1 (by omega)), trivial⟩ ⟨rfl, rfl, rfl, rfl, rfl, rfl, rfl, trivial⟩ (.inl rfl)
    by_cases h9 : k = j
    · subst h9; rw [hx] at hr'; cases hr'; exact hrl
    · exact hP k r' (by omega) hr'
  rename_i hz
  have hjn : ¬ j < n0 := of_decide_eq_false (hlt.symm.trans hz)
  have hway : ∀ r ∈ way, r.length ≤ 250 := fun r hr => by
    obtain ⟨k, hk⟩ := List.mem_iff_getElem?.1 hr
    have := (List.getElem?_eq_some_iff.1 hk).1
    exact hP k r (by omega) hk
  clear hP hB hadd hlt
  refine Exists.intro nums (And.intro ⟨hxn, hn1⟩ ?_)
  intro w1
  cbv
  refine Exists.intro () (And.intro (by omega) ?_)
  rintro w2 _ ⟨a2, b2, c2, d2, xs2, ys2, cs2, os2, rfl, hxs2, hys2, hf2, _, hos5⟩
  have hV := checkF_ok hf2
  have ho1 := hV.o1
  have ho2 := hV.o2
  have hc1 := hV.c1
  have hc2 := hV.c2
  dsimp only at ho1 ho2 hc1 hc2
  cbv
  refine Exists.intro cs2 (Exists.intro os2 (And.intro ⟨hxs2, hys2, hf2⟩ ?_))
  rintro w4 _ ⟨u2, v2, zs2, ws2, rfl, hzs2, hwv⟩
  have hwl2 : ws2.length = cs2.length := hwv.len
  cbv
  refine Exists.intro cs2 (Exists.intro os2 (Exists.intro ws2 (And.intro ⟨hxs2, hys2, hzs2, hV, hwl2, hwv.bnd hV⟩ ?_)))
  intro w5 sw N D oc W hWV hsw hN hD hoc hW
  cbv
  --CUT
  have hN5 : 1 ≤ N ∧ N ≤ 5 := by unfold iLen at hos5; omega
  have hD5 : 1 ≤ D ∧ D ≤ 200 := by omega
  rw [← hN, ← hD] at hWV
  clear hV hwv
  have hoc2 : oc = outC 9 N N D := hoc
  clear hoc
  rw [hT]
  refine AGo_cut (k1 := [_, _]) (fun e H => ∃ (w' : Int) (sw' : Nat → Nat → Int), (∀ k e, -1 ≤ sw' k e ∧ sw' k e ≤ 1000002) ∧ Fits e [(2, .vs 1 rs), (3, I rate), (4, I road), (6, .mp 0 0 0), (7, .mp 1 0 0), (12, B false), (14, .mp 2 0 0), (15, .mp 3 0 0), (16, .mp 4 0 0), (17, .ms 1 7 0 0 N)] ∧ H = .own 0 [I a, I b, I c, I d, .vs 2 xs, .vs 4 ys] :: .own 0 [I u, I v, .vs 1 zs] :: .own 0 [U w'] :: .own 0 [I a2, I b2, I c2, I d2, .vs 2 xs2, .vs 4 ys2] :: .own 0 [I u2, I v2, .vs 1 zs2] :: .own 0 [] :: .own 0 [] :: .own 0 oc :: .own 0 [] :: wayH N D sw') ?_ (fun e1 H1 hP1 => ?_)
  · clear hT hTD T TD
    refine SGo_run hA ⟨[], [1000082], [], ed2⟩ .nil ed2_ok 200 fun T TD hT hTD => ?_
    cbv
    refine Exists.intro () (And.intro (by omega) ?_)
    rintro w6 _ ⟨yb, rfl⟩
    cases yb with
    | false =>
      cbv
      exact ⟨w6, sw, fun k e => by have := hsw k e; omega, ⟨rfl, rfl, rfl, rfl, rfl, rfl, rfl, rfl, rfl, rfl, trivial⟩, by rw [← hW]⟩
    | true =>
      cbv
      refine Exists.intro () (And.intro (by show A.len N ≤ 9223372036854775807; subst hA; show iLen N ≤ _; unfold iLen; omega) ?_)
      rintro w7 _ ⟨ik, rfl, hik0, hik1⟩
      have hik1 : ik < A.len N ∨ ik = 0 := hik1
      cbv
      obtain ⟨k, hk⟩ : ∃ k : Nat, ik = iLen k := ⟨ik.toNat, by unfold iLen; omega⟩
      have hlN : A.len N = iLen N := by subst hA; rfl
      have hlD : A.len D = iLen D := by subst hA; rfl
      rw [hlN, hk] at hik1
      have hkN : k < N := by unfold iLen at hik1; omega
      have hxk : A.ixm 1 1 0 N ik k := by subst hA; exact ixm1 hk hkN
      have hgk : A.get none oc k (.ms 1 (9 + k) 0 0 D) := by subst hA; rw [hoc2]; exact outC_get hkN
      have hcN : N = 1 ∨ N = 2 ∨ N = 3 ∨ N = 4 ∨ N = 5 := by omega
      clear hlN
      obtain ⟨r0, hr0⟩ : ∃ r, r = rowF D (sw 0) := ⟨_, rfl⟩
      obtain ⟨r1, hr1⟩ : ∃ r, r = rowF D (sw 1) := ⟨_, rfl⟩
      obtain ⟨r2, hr2⟩ : ∃ r, r = rowF D (sw 2) := ⟨_, rfl⟩
      obtain ⟨r3, hr3⟩ : ∃ r, r = rowF D (sw 3) := ⟨_, rfl⟩
      obtain ⟨r4, hr4⟩ : ∃ r, r = rowF D (sw 4) := ⟨_, rfl⟩
      rw [hT]
      have hgG : ∀ r, r = rowF D (sw k) → ∀ q, q < D → A.get none r q (I (sw k q)) := fun r hr q hq => by subst hA; rw [hr]; exact getS_row hq
      have huG : ∀ r, r = rowF D (sw k) → ∀ q v, q < D → A.upd 1 r q [I v] (rowF D (updF (sw k) q v)) := fun r hr q v hq => by subst hA; rw [hr]; exact updS_row hq
      rcases hcN with h1 | h1 | h1 | h1 | h1
      all_goals have hck : k = 0 ∨ k = 1 ∨ k = 2 ∨ k = 3 ∨ k = 4 := by omega
      all_goals rcases hck with h2 | h2 | h2 | h2 | h2
      all_goals try (exfalso; omega)
      all_goals
        clear hT hTD T TD
        rw [h2] at hgk hxk
        first
        | (have hN9 : N = 1 := h1
           have hk9 : k = 0 := h2
           have hW1 : W = [.own 0 r0] := by rw [hW, h1, hr0]; rfl
           have hrk := hr0
           rw [hW1]
           refine SGo_run hA ⟨[7, 9], [2, 2000009], [], ed2⟩ .nil ed2_ok 200 fun T TD hT hTD => ?_)
        | (have hN9 : N = 2 := h1
           have hk9 : k = 0 := h2
           have hW1 : W = [.own 0 r0, .own 0 r1] := by rw [hW, h1, hr0, hr1]; rfl
           have hrk := hr0
           rw [hW1]
           refine SGo_run hA ⟨[7, 9], [2, 2000009], [], ed2⟩ .nil ed2_ok 200 fun T TD hT hTD => ?_)
        | (have hN9 : N = 2 := h1
           have hk9 : k = 1 := h2
           have hW1 : W = [.own 0 r0, .own 0 r1] := by rw [hW, h1, hr0, hr1]; rfl
           have hrk := hr1
           rw [hW1]
           refine SGo_run hA ⟨[7, 10], [2, 2000010], [], ed2⟩ .nil ed2_ok 200 fun T TD hT hTD => ?_)
        | (have hN9 : N = 3 := h1
           have hk9 : k = 0 := h2
           have hW1 : W = [.own 0 r0, .own 0 r1, .own 0 r2] := by rw [hW, h1, hr0, hr1, hr2]; rfl
           have hrk := hr0
           rw [hW1]
           refine SGo_run hA ⟨[7, 9], [2, 2000009], [], ed2⟩ .nil ed2_ok 200 fun T TD hT hTD => ?_)
        | (have hN9 : N = 3 := h1
           have hk9 : k = 1 := h2
           have hW1 : W = [.own 0 r0, .own 0 r1, .own 0 r2] := by rw [hW, h1, hr0, hr1, hr2]; rfl
           have hrk := hr1
           rw [hW1]
           refine SGo_run hA ⟨[7, 10], [2, 2000010], [], ed2⟩ .nil ed2_ok 200 fun T TD hT hTD => ?_)
        | (have hN9 : N = 3 := h1
           have hk9 : k = 2 := h2
           have hW1 : W = [.own 0 r0, .own 0 r1, .own 0 r2] := by rw [hW, h1, hr0, hr1, hr2]; rfl
           have hrk := hr2
           rw [hW1]
           refine SGo_run hA ⟨[7, 11], [2, 2000011], [], ed2⟩ .nil ed2_ok 200 fun T TD hT hTD => ?_)
        | (have hN9 : N = 4 := h1
           have hk9 : k = 0 := h2
           have hW1 : W = [.own 0 r0, .own 0 r1, .own 0 r2, .own 0 r3] := by rw [hW, h1, hr0, hr1, hr2, hr3]; rfl
           have hrk := hr0
           rw [hW1]
           refine SGo_run hA ⟨[7, 9], [2, 2000009], [], ed2⟩ .nil ed2_ok 200 fun T TD hT hTD => ?_)
        | (have hN9 : N = 4 := h1
           have hk9 : k = 1 := h2
           have hW1 : W = [.own 0 r0, .own 0 r1, .own 0 r2, .own 0 r3] := by rw [hW, h1, hr0, hr1, hr2, hr3]; rfl
           have hrk := hr1
           rw [hW1]
           refine SGo_run hA ⟨[7, 10], [2, 2000010], [], ed2⟩ .nil ed2_ok 200 fun T TD hT hTD => ?_)
        | (have hN9 : N = 4 := h1
           have hk9 : k = 2 := h2
           have hW1 : W = [.own 0 r0, .own 0 r1, .own 0 r2, .own 0 r3] := by rw [hW, h1, hr0, hr1, hr2, hr3]; rfl
           have hrk := hr2
           rw [hW1]
           refine SGo_run hA ⟨[7, 11], [2, 2000011], [], ed2⟩ .nil ed2_ok 200 fun T TD hT hTD => ?_)
        | (have hN9 : N = 4 := h1
           have hk9 : k = 3 := h2
           have hW1 : W = [.own 0 r0, .own 0 r1, .own 0 r2, .own 0 r3] := by rw [hW, h1, hr0, hr1, hr2, hr3]; rfl
           have hrk := hr3
           rw [hW1]
           refine SGo_run hA ⟨[7, 12], [2, 2000012], [], ed2⟩ .nil ed2_ok 200 fun T TD hT hTD => ?_)
        | (have hN9 : N = 5 := h1
           have hk9 : k = 0 := h2
           have hW1 : W = [.own 0 r0, .own 0 r1, .own 0 r2, .own 0 r3, .own 0 r4] := by rw [hW, h1, hr0, hr1, hr2, hr3, hr4]; rfl
           have hrk := hr0
           rw [hW1]
           refine SGo_run hA ⟨[7, 9], [2, 2000009], [], ed2⟩ .nil ed2_ok 200 fun T TD hT hTD => ?_)
        | (have hN9 : N = 5 := h1
           have hk9 : k = 1 := h2
           have hW1 : W = [.own 0 r0, .own 0 r1, .own 0 r2, .own 0 r3, .own 0 r4] := by rw [hW, h1, hr0, hr1, hr2, hr3, hr4]; rfl
           have hrk := hr1
           rw [hW1]
           refine SGo_run hA ⟨[7, 10], [2, 2000010], [], ed2⟩ .nil ed2_ok 200 fun T TD hT hTD => ?_)
        | (have hN9 : N = 5 := h1
           have hk9 : k = 2 := h2
           have hW1 : W = [.own 0 r0, .own 0 r1, .own 0 r2, .own 0 r3, .own 0 r4] := by rw [hW, h1, hr0, hr1, hr2, hr3, hr4]; rfl
           have hrk := hr2
           rw [hW1]
           refine SGo_run hA ⟨[7, 11], [2, 2000011], [], ed2⟩ .nil ed2_ok 200 fun T TD hT hTD => ?_)
        | (have hN9 : N = 5 := h1
           have hk9 : k = 3 := h2
           have hW1 : W = [.own 0 r0, .own 0 r1, .own 0 r2, .own 0 r3, .own 0 r4] := by rw [hW, h1, hr0, hr1, hr2, hr3, hr4]; rfl
           have hrk := hr3
           rw [hW1]
           refine SGo_run hA ⟨[7, 12], [2, 2000012], [], ed2⟩ .nil ed2_ok 200 fun T TD hT hTD => ?_)
        | (have hN9 : N = 5 := h1
           have hk9 : k = 4 := h2
           have hW1 : W = [.own 0 r0, .own 0 r1, .own 0 r2, .own 0 r3, .own 0 r4] := by rw [hW, h1, hr0, hr1, hr2, hr3, hr4]; rfl
           have hrk := hr4
           rw [hW1]
           refine SGo_run hA ⟨[7, 13], [2, 2000013], [], ed2⟩ .nil ed2_ok 200 fun T TD hT hTD => ?_)
        have hrk2 := hrk
        rw [← h2] at hrk2
        cbv
        refine And.intro (hsg _) (Exists.intro _ (And.intro hxk ?_)); cbv
        refine And.intro (hsg _) (Exists.intro _ (And.intro hgk ?_)); cbv
        refine And.intro (hsg _) ?_
        refine Exists.intro () (And.intro (by show A.len D ≤ 9223372036854775807; rw [hlD]; unfold iLen; omega) ?_)
        rintro w8 _ ⟨iq, rfl, hiq0, hiq1⟩
        have hiq1 : iq < A.len D ∨ iq = 0 := hiq1
        cbv
        obtain ⟨qq, hqq⟩ : ∃ q : Nat, iq = iLen q := ⟨iq.toNat, by unfold iLen; omega⟩
        rw [hlD] at hiq1
        have hqD : qq < D := by unfold iLen at hiq1 hqq; omega
        have hxq : A.ixm 1 1 0 D iq qq := by subst hA; exact ixm1 hqq hqD
        obtain ⟨vq, hvq⟩ : ∃ z, z = sw k qq := ⟨_, rfl⟩
        have hvb := hsw k qq
        rw [← hvq] at hvb
        have hgq := hgG _ hrk2 _ hqD
        rw [← hvq] at hgq
        refine And.intro (hsg _) (Exists.intro qq (And.intro hxq ?_)); cbv
        refine And.intro (hsg _) (Exists.intro _ (And.intro hgq ?_)); cbv
        refine Exists.intro () (And.intro ⟨by simp, by simp, by exact AllI_lits (l := [1, -1, 2])⟩ ?_)
        rintro w9 _ ⟨dv, rfl, hdv⟩
        simp at hdv
        have hdvb : -1 ≤ dv ∧ dv ≤ 2 := by omega
        cbv
        refine And.intro (by subst hA; first | exact .inr ⟨by simp [SubH, SubH_own], trivial, .inl rfl⟩ | exact .inr ⟨by simp [SubH, SubH_own], trivial, .inr fun _ => by simp [SubH, SubH_own]⟩ | exact .inr ⟨⟨rfl, by simp [SubH, SubH_own]⟩, trivial, .inr fun _ => ⟨rfl, by simp [SubH, SubH_own]⟩⟩) ?_
        cbv
        refine And.intro (hsg _) (Exists.intro qq (And.intro hxq ?_)); cbv
        have hav : A.add .i64 vq dv = vq + dv := by subst hA; exact iAdd_id (by omega) (by omega)
        obtain ⟨ru, hru⟩ : ∃ r, r = rowF D (updF (sw k) qq (A.add .i64 vq dv)) := ⟨_, rfl⟩
        have hup := huG _ hrk2 qq (A.add .i64 vq dv) hqD
        rw [← hru] at hup
        refine And.intro (hsg _) (Exists.intro ru (And.intro hup ?_)); cbv
        rw [hav] at hru
        refine ⟨w9, updF sw k (updF (sw k) qq (vq + dv)), upd2_bnd hsw (by omega), ⟨rfl, rfl, rfl, rfl, rfl, rfl, rfl, rfl, rfl, rfl, trivial⟩, by rw [← wayH_set, ← hW, hW1, ← hru, h2]; rfl⟩
  obtain ⟨w8, s9, hsb, hf1, hH1⟩ := hP1
  subst hH1
  refine AGo_forget _ _ hf1 (.inl rfl) ?_ (by simp)
  clear hf1 hT hTD T TD
  obtain ⟨wayX, hwX⟩ : ∃ w, w = rowsF N D s9 := ⟨_, rfl⟩
  obtain ⟨rs2, hrs2⟩ : ∃ rs : List AV, rs = wayX.map fun r => .vs 1 (r.map I) := ⟨_, rfl⟩
  have hwv9 : AV.vs 1 ((List.range N).map fun k => .vs 1 (rowF D (s9 k))) = .vs 1 rs2 := by rw [hrs2, hwX]; exact wayV_rows
  refine AGo_fam (b := 9) (q := 7) (g0 := 0) (S' := [(2, .vs 1 rs), (3, I rate), (4, I road), (6, .mp 0 0 0), (7, .mp 1 0 0), (12, B false), (14, .mp 2 0 0), (15, .mp 3 0 0), (16, .mp 4 0 0), (17, .vs 1 rs2)]) [.own 0 [I a, I b, I c, I d, .vs 2 xs, .vs 4 ys], .own 0 [I u, I v, .vs 1 zs], .own 0 [U w8], .own 0 [I a2, I b2, I c2, I d2, .vs 2 xs2, .vs 4 ys2], .own 0 [I u2, I v2, .vs 1 zs2], .own 0 [], .own 0 [], .own 0 oc, .own 0 []] rfl (by decide) ?_ (by rw [hoc2]; rfl) ?_ ?_ (Nat.zero_le _) ?_ ?_ ?_ ?_
  · intro i X hX _
    match i, hX with
    | 0, hX => cases hX; rfl
    | 1, hX => cases hX; rfl
    | 2, hX => cases hX; rfl
    | 3, hX => cases hX; rfl
    | 4, hX => cases hX; rfl
    | 5, hX => cases hX; rfl
    | 6, hX => cases hX; rfl
    | 7, hX => exact absurd rfl (by assumption)
    | 8, hX => cases hX; rfl
  · intro i hi
    simp only [frzG, AV.frz]
    rw [if_neg (by omega)]
  · simp only [frzG, AV.frz]
    rw [if_pos trivial, if_pos ⟨trivial, trivial, trivial, by simp⟩, List.take_of_length_le (by simp)]
    simp only [Nat.zero_div, List.drop_zero]
    rw [hwv9]
  · simp [ltG, AV.lt, AV.ltL]
  · exact ⟨rfl, rfl, rfl, rfl, rfl, rfl, rfl, rfl, rfl, rfl, trivial⟩
  · simp
  refine SGo_run hA ⟨[], [2], [], ed2⟩ .nil ed2_ok 200 fun T TD hT hTD => ?_
  cbv
  refine Exists.intro () (And.intro (by omega) ?_)
  rintro w9 _ ⟨q1, rfl, hq1, hq1'⟩
  cbv
  refine And.intro (by subst hA; first | (simp [std, Keep, SubH, ResK]; done) | exact .inr ⟨⟨rfl, SubH.self _⟩, trivial, .inr fun _ => ⟨rfl, SubH.self _⟩⟩ | exact .inr ⟨SubH.self _, trivial, .inr fun _ => SubH.self _⟩ | exact .inr ⟨by simp [SubH], trivial, .inl rfl⟩ | exact .inr ⟨by simp [SubH], trivial, .inr fun _ => by simp [SubH]⟩) ?_
  cbv
  refine Exists.intro () (And.intro (by omega) ?_)
  rintro w10 _ ⟨q2, rfl, hq2, hq2'⟩
  cbv
  refine And.intro (by subst hA; first | (simp [std, Keep, SubH, ResK]; done) | exact .inr ⟨⟨rfl, SubH.self _⟩, trivial, .inr fun _ => ⟨rfl, SubH.self _⟩⟩ | exact .inr ⟨SubH.self _, trivial, .inr fun _ => SubH.self _⟩ | exact .inr ⟨by simp [SubH], trivial, .inl rfl⟩ | exact .inr ⟨by simp [SubH], trivial, .inr fun _ => by simp [SubH]⟩) ?_
  cbv
  rw [hT]
  obtain ⟨L, hL⟩ : ∃ L : List Frt, L = [⟨(a, b), (c, d), cs, os⟩, ⟨(a2, b2), (c2, d2), cs2, os2⟩, ⟨(a2, b2), (c2, d2), cs2, os2⟩] := ⟨_, rfl⟩
  obtain ⟨M, hM⟩ : ∃ M : List Win, M = [⟨u, v, ws⟩, ⟨u2, v2, ws2⟩, ⟨u2, v2, ws2⟩] := ⟨_, rfl⟩
  obtain ⟨P, hPP⟩ : ∃ P : List (List (List Int)), P = [way, wayX, wayX] := ⟨_, rfl⟩
  obtain ⟨RT, hRT⟩ : ∃ P : List Int, P = [rate, q1, rate] := ⟨_, rfl⟩
  obtain ⟨RD, hRD⟩ : ∃ P : List Int, P = [road, q2, road] := ⟨_, rfl⟩
  have hXl : wayX.length ≤ 5 ∧ ∀ r ∈ wayX, r.length ≤ 200 := by
    rw [hwX]
    refine ⟨by simp [rowsF]; omega, fun r hr => ?_⟩
    obtain ⟨k, _, rfl⟩ := List.mem_map.1 hr
    simp; omega
  have hLb : ∀ f ∈ L, f.caps.length ≤ 1000000 ∧ f.ords.length ≤ 1000000 := by
    intro f hf; rw [hL] at hf; simp only [List.mem_cons, List.not_mem_nil, or_false] at hf
    rcases hf with hf | hf | hf
    · rw [hf]; exact ⟨hb1, hb2⟩
    · rw [hf]; exact ⟨by dsimp only; omega, by dsimp only; omega⟩
    · rw [hf]; exact ⟨by dsimp only; omega, by dsimp only; omega⟩
  have hMb : ∀ f ∈ M, f.caps.length ≤ 1000000 := by
    intro f hf; rw [hM] at hf; simp only [List.mem_cons, List.not_mem_nil, or_false] at hf
    rcases hf with hf | hf | hf
    · rw [hf]; dsimp only; omega
    · rw [hf]; dsimp only; omega
    · rw [hf]; dsimp only; omega
  have hPb : ∀ p ∈ P, p.length ≤ 1000000 ∧ ∀ r ∈ p, r.length ≤ 1000000 := by
    intro p hp; rw [hPP] at hp; simp only [List.mem_cons, List.not_mem_nil, or_false] at hp
    rcases hp with hp | hp | hp
    · rw [hp]; exact ⟨by omega, fun r hr => by have := hway r hr; omega⟩
    · rw [hp]; exact ⟨by omega, fun r hr => by have := hXl.2 r hr; omega⟩
    · rw [hp]; exact ⟨by omega, fun r hr => by have := hXl.2 r hr; omega⟩
  obtain ⟨fvs, hfvs⟩ : ∃ l : List AV, l = [.agg [I a, I b, I c, I d, .vs 2 xs, .vs 4 ys], .agg [I a2, I b2, I c2, I d2, .vs 2 xs2, .vs 4 ys2], .agg [I a2, I b2, I c2, I d2, .vs 2 xs2, .vs 4 ys2]] := ⟨_, rfl⟩
  obtain ⟨wvs, hwvs⟩ : ∃ l : List AV, l = [.agg [I u, I v, .vs 1 zs], .agg [I u2, I v2, .vs 1 zs2], .agg [I u2, I v2, .vs 1 zs2]] := ⟨_, rfl⟩
  obtain ⟨pvs, hpvs⟩ : ∃ l : List AV, l = [.vs 1 rs, .vs 1 rs2, .vs 1 rs2] := ⟨_, rfl⟩
  obtain ⟨tvs, htvs⟩ : ∃ l : List AV, l = [I rate, I q1, I rate] := ⟨_, rfl⟩
  obtain ⟨dvs, hdvs⟩ : ∃ l : List AV, l = [I road, I q2, I road] := ⟨_, rfl⟩
  rw [← hfvs, ← hpvs, ← hwvs, ← htvs, ← hdvs]
  have hfm : fvs = L.map frA := by rw [hfvs, hL, hxs, hys, hxs2, hys2]; rfl
  have hwm : wvs = M.map wiA := by rw [hwvs, hM, hzs, hzs2]; rfl
  have hpm2 : pvs = P.map fun w => .vs 1 (w.map fun r => .vs 1 (r.map I)) := by rw [hpvs, hPP, hrs, hrs2]; rfl
  have htm : tvs = RT.map I := by rw [htvs, hRT]; rfl
  have hdm : dvs = RD.map I := by rw [hdvs, hRD]; rfl
  have hLl : L.length = 3 := by rw [hL]; rfl
  have hMl : M.length = 3 := by rw [hM]; rfl
  have hPl : P.length = 3 := by rw [hPP]; rfl
  have hTl : RT.length = 3 := by rw [hRT]; rfl
  have hDl : RD.length = 3 := by rw [hRD]; rfl
  refine AGo_upE [20, 21, 22, 23, 24] 3 (fun _ (_ : Unit) => True) (fun _ _ i => [(25, I i)]) (fun _ _ => []) () trivial ⟨rfl, trivial⟩ (.inr ⟨⟨_, rfl⟩, Nat.zero_le _, by simp [ltG, AV.lt, AV.ltL, keepS, look], trivial⟩) fun j _ i hi hj _ Bk hB => ?_
  clear hT hTD T TD hfvs hpvs hwvs htvs hdvs hL hPP hM hRT hRD
  have hlt : A.lt i (A.vlen fvs) = decide (j < 3) := by subst hA; exact lt_len (by simp [hfm, hLl]) hi
  have hadd : ∀ N, j < N → N ≤ 9223372036854775807 → A.add .i64 i 1 = iLen (j + 1) := fun N hj hN => by subst hA; exact add_one hi hj hN
  refine SGo_run hA ⟨[], [], (17, eAwake) :: (57, eOwnWay) :: (43, eTell) :: (58, eTellR) :: (59, eBills 59) :: (60, eBillsR) :: (61, eSameD) :: (28, eSameI2) :: (40, eSameW) :: [], []⟩ (.cons eAwake_ok (.cons eOwnWay_ok (.cons eTell_ok (.cons eTellR_ok (.cons (eBills_ok p59) (.cons eBillsR_ok (.cons eSameD_ok (.cons eSameI2_ok (.cons eSameW_ok .nil))))))))) .nil 200 fun T TD hT hTD => ?_
  cbv
  split <;> cbv
  · rename_i hk0
    have hk1 : j < 3 := by have hz := hlt.symm.trans hk0; simpa using hz
    clear hk0
    obtain ⟨⟨⟨fa, fb⟩, ⟨fc, fd⟩, fcs, fos⟩, hf⟩ : ∃ f, L[j]? = some f := ⟨_, List.getElem?_eq_getElem (by omega)⟩
    obtain ⟨⟨wu, wv, wws⟩, hmw⟩ : ∃ f, M[j]? = some f := ⟨_, List.getElem?_eq_getElem (by omega)⟩
    obtain ⟨p, hp⟩ : ∃ p, P[j]? = some p := ⟨_, List.getElem?_eq_getElem (by omega)⟩
    obtain ⟨rt, hrt⟩ : ∃ p, RT[j]? = some p := ⟨_, List.getElem?_eq_getElem (by omega)⟩
    obtain ⟨rd, hrd⟩ : ∃ p, RD[j]? = some p := ⟨_, List.getElem?_eq_getElem (by omega)⟩
    obtain ⟨hb3, hb4⟩ := hLb _ (List.mem_of_getElem? hf)
    obtain ⟨hb5, hb7⟩ := hPb _ (List.mem_of_getElem? hp)
    have hb6 := hMb _ (List.mem_of_getElem? hmw)
    dsimp only at hb3 hb4 hb6
    obtain ⟨xf, hxf⟩ : ∃ x, x = fcs.map sp := ⟨_, rfl⟩
    obtain ⟨yf, hyf⟩ : ∃ x, x = fos.map orV := ⟨_, rfl⟩
    obtain ⟨zf, hzf⟩ : ∃ x, x = wws.map I := ⟨_, rfl⟩
    obtain ⟨pf, hpf⟩ : ∃ x : List AV, x = p.map fun r => .vs 1 (r.map I) := ⟨_, rfl⟩
    have hix : A.ix 6 6 fvs i [I fa, I fb, I fc, I fd, .vs 2 xf, .vs 4 yf] := by subst hA; rw [hxf, hyf]; exact ix_map hfm hi hf rfl
    have hiw : A.ix 3 3 wvs i [I wu, I wv, .vs 1 zf] := by subst hA; rw [hzf]; exact ix_map hwm hi hmw rfl
    have hip : A.ix 1 1 pvs i [.vs 1 pf] := by subst hA; rw [hpf]; exact ix_map (f := fun w : List (List Int) => AV.vs 1 (w.map fun r => .vs 1 (r.map I))) hpm2 hi hp rfl
    have hit : A.ix 1 1 tvs i [I rt] := by subst hA; exact ix_map htm hi hrt rfl
    have hid : A.ix 1 1 dvs i [I rd] := by subst hA; exact ix_map hdm hi hrd rfl
    have hb8 : ∀ r ∈ p, r.length ≤ 9223372036854775807 := fun r hr => by have := hb7 r hr; omega
    refine Exists.intro _ (And.intro hip ?_); cbv
    refine Exists.intro p (And.intro hpf (And.intro hb5 (And.intro hb7 ?_))); cbv
    refine Exists.intro _ (And.intro hix ?_); cbv
    refine Exists.intro _ (And.intro hiw ?_); cbv
    refine Exists.intro fcs (Exists.intro fos (Exists.intro wws (Exists.intro p (And.intro hxf (And.intro hyf (And.intro hzf (And.intro hpf (And.intro (by omega) (And.intro (by omega) (And.intro (by omega) (And.intro (by omega) ?_)))))))))))
    intro ds pn e hds hpn he; cbv
    refine Exists.intro _ (And.intro hix ?_); cbv
    refine Exists.intro _ (And.intro hiw ?_); cbv
    refine Exists.intro _ (And.intro hip ?_); cbv
    refine Exists.intro fcs (Exists.intro fos (Exists.intro wws (Exists.intro p (And.intro ⟨hxf, hyf, hzf, hpf, by omega, by omega, by omega, by omega, hb8⟩ ?_))))
    intro ds' pn' e' hds' hpn' he'; cbv
    rw [← hds] at hds'; rw [← hpn] at hpn'; rw [← he] at he'
    subst hds' hpn' he'
    refine Exists.intro _ (And.intro hix ?_); cbv
    refine Exists.intro _ (And.intro hiw ?_); cbv
    refine Exists.intro _ (And.intro hit ?_); cbv
    refine Exists.intro _ (And.intro hid ?_); cbv
    refine Exists.intro fcs (Exists.intro fos (Exists.intro wws (Exists.intro p (And.intro ⟨hxf, hyf, hzf, hpf, by omega, by omega, by omega, by omega⟩ ?_))))
    intro bs e2 hbs he2; cbv
    refine Exists.intro _ (And.intro hix ?_); cbv
    refine Exists.intro _ (And.intro hiw ?_); cbv
    refine Exists.intro _ (And.intro hip ?_); cbv
    refine Exists.intro _ (And.intro hit ?_); cbv
    refine Exists.intro _ (And.intro hid ?_); cbv
    refine Exists.intro fcs (Exists.intro fos (Exists.intro wws (Exists.intro p (And.intro ⟨hxf, hyf, hzf, hpf, by omega, by omega, by omega, by omega, hb8⟩ ?_))))
    intro bs' e2' hbs' he2'; cbv
    rw [← hbs] at hbs'; rw [← he2] at he2'
    subst hbs' he2'
    have hnx : ∀ x, A.ne x x = false := by subst hA; intro x; simp [std, iNe]
    have hbt : A.bnot true = false := by subst hA; rfl
    split <;> cbv
    · rename_i hz; exact Bool.noConfusion (hz.symm.trans (hnx _))
    split <;> cbv
    · rename_i hz; exact Bool.noConfusion (hz.symm.trans (hnx _))
    split <;> cbv
    · rename_i hz; exact Bool.noConfusion (hz.symm.trans (hnx _))
    refine Exists.intro _ (And.intro ⟨hds, hds, tellL_len hb4⟩ ?_); cbv
    split <;> cbv
    · rename_i hz; exact Bool.noConfusion (hz.symm.trans hbt)
    refine Exists.intro _ (And.intro ⟨hbs, hbs, billR_len hb5⟩ ?_); cbv
    split <;> cbv
    · rename_i hz; exact Bool.noConfusion (hz.symm.trans hbt)
    refine Exists.intro _ (And.intro hip ?_); cbv
    refine Exists.intro p (And.intro ⟨hpf, rfl, hb5, hb7⟩ ?_); cbv
    split <;> cbv
    · rename_i hz; exact Bool.noConfusion (hz.symm.trans hbt)
    exact hB () _ _ hk1 trivial ⟨congrArg I (hadd _ hk1 (by omega)), trivial⟩ ⟨rfl, rfl, rfl, rfl, rfl, trivial⟩ (.inr ⟨⟨_, rfl⟩, Nat.zero_le _, by simp [ltG, AV.lt, AV.ltL, keepS, look], trivial⟩)
  · exact h _
end Go.Sas
