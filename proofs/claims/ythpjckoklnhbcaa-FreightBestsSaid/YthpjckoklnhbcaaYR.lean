/-
Freight: the reference's way of delivering: contract.
Freight: the reference's checks of plans, and what a way delivers: contracts.
Freight: the reference's ranges and promises: contracts.
Conditions: none.
-/
import Derived.Test.YthpjckoklnhbcaaY9
import Derived.Test.YthpjckoklnhbcaaY7
import Derived.Test.YthpjckoklnhbcaaY15
import Derived.Test.YthpjckoklnhbcaaY18
import Derived.Test.YthpjckoklnhbcaaY10
set_option linter.unusedVariables false
set_option linter.unusedSimpArgs false
namespace Go.Sas
open Go.Proofs
set_option maxRecDepth 100000
theorem SubH.same {x : AObj} {M H : AHeap} (h : SubH M H) : SubH (x :: M) (x :: H) := by
  rcases x with _ | ⟨g, _ | ⟨c, cs⟩⟩ | ⟨g, o⟩ <;> simp only [SubH] <;> first | exact h | exact ⟨rfl, h⟩ | exact ⟨trivial, h⟩
theorem p111 (u v : Int) (ws : List Int) (n : Nat) (hn : n < ws.length) (H : AHeap) {Kk : AV → AHeap → Prop} (h : Kk (I (roomW ⟨u, v, ws⟩ n)) H) :
    ACalls Try.prog 111 [winV u v (.vs 1 (ws.map I)), I (iLen n)] H Kk := by
  refine (fun q => pureC (by rfl) (by rfl) q H h) ?_
  clear h
  intro Kk h
  obtain ⟨ys, hys⟩ : ∃ xs, xs = ws.map I := ⟨_, rfl⟩
  obtain ⟨i, hi⟩ : ∃ i : Int, i = iLen n := ⟨_, rfl⟩
  rw [← hys, ← hi]
  obtain ⟨W, hW⟩ : ∃ W, W = roomW ⟨u, v, ws⟩ n := ⟨_, rfl⟩
  rw [← hW] at h
  obtain ⟨x, hx⟩ : ∃ x, ws[n]? = some x := ⟨_, List.getElem?_eq_getElem hn⟩
  have hWx : W = if u ≤ i ∧ i ≤ v then x else 0 := by rw [hW, hi]; simp only [roomW, List.getD_eq_getElem?_getD, hx]; rfl
  clear hW
  obtain ⟨A, hA⟩ : ∃ A, A = std := ⟨_, rfl⟩
  have hix : A.ix 1 1 ys i [I x] := by subst hA; exact ix_map hys hi hx rfl
  have hll : ∀ x y, A.lt x y = decide (x < y) := by subst hA; intro x y; rfl
  have hl1 := hll i u
  have hl2 := hll v i
  refine go111 rfl (SGo_run hA ⟨[], [], [], []⟩ .nil .nil 200 fun T TD hT hTD => ?_)
  cbv
  split <;> cbv
  · rename_i hz
    have hz : i < u := by have hz := hl1.symm.trans hz; simpa using hz
    exact leaf h (congrArg I (by rw [hWx, if_neg (by omega)])) rfl
  rename_i hz
  have hz : ¬ i < u := by have hz := hl1.symm.trans hz; simpa using hz
  split <;> cbv
  · rename_i hz3
    have hz3 : v < i := by have hz3 := hl2.symm.trans hz3; simpa using hz3
    exact leaf h (congrArg I (by rw [hWx, if_neg (by omega)])) rfl
  rename_i hz3
  have hz3 : ¬ v < i := by have hz3 := hl2.symm.trans hz3; simpa using hz3
  refine Exists.intro _ (And.intro hix ?_); cbv
  exact leaf h (congrArg I (by rw [hWx, if_pos (by omega)])) rfl
def eMay : List AV → Option ((AV → Prop) → Prop)
  | [.agg [.lit (.int .i64 u), .lit (.int .i64 v), .vs 1 zs], .lit (.int .i64 i)] =>
    some fun K => ∃ (ws : List Int) (n : Nat), (zs = ws.map I ∧ i = iLen n ∧ n < ws.length) ∧ ∀ q, q = roomW ⟨u, v, ws⟩ n → K (I q)
  | _ => none
theorem eMay_ok : ∀ args pt, eMay args = some pt → ∀ (H : AHeap) (Kk : AV → AHeap → Prop), pt (fun r => Kk r H) → ACalls Try.prog 111 args H Kk := by
  intro args pt h H Kk hk
  unfold eMay at h
  split at h
  · cases h
    obtain ⟨ws, n, ⟨rfl, rfl, h1⟩, h3⟩ := hk
    exact p111 _ _ _ _ h1 H (h3 _ rfl)
  · cases h
set_option maxHeartbeats 4000000 in
theorem p90 (a b c d u v : Int) (cs : List (Int × Int)) (os : List Ord) (ws : List Int) (plan : List Nat) (hD : ws.length = cs.length) (hD2 : cs.length ≤ 200) (hn : os.length ≤ 6) (hw : ∀ x ∈ ws, 0 ≤ x ∧ x ≤ 1000000) (hu : ∀ o ∈ os, 0 ≤ o.u ∧ o.u ≤ 1000000) (hp : ∀ k ∈ plan, k < os.length) (hpl : plan.length ≤ 1000) (H : AHeap) {Kk : AV → AHeap → Prop}
    (h : Kk (wayV os.length cs.length (spreadG (roomW ⟨u, v, ws⟩) plan (unitS os) cs.length)) H) :
    ACalls Try.prog 90 [frV a b c d (.vs 2 (cs.map sp)) (.vs 4 (os.map orV)), winV u v (.vs 1 (ws.map I)), .vs 1 (plan.map fun k => I (iLen k))] H Kk := by
  refine (fun q => pureF (by rfl) (by rfl) q H h) ?_
  clear h
  intro Kk h
  obtain ⟨xs, hxs⟩ : ∃ xs, xs = cs.map sp := ⟨_, rfl⟩
  obtain ⟨ys, hys⟩ : ∃ ys, ys = os.map orV := ⟨_, rfl⟩
  obtain ⟨zs, hzs⟩ : ∃ zs, zs = ws.map I := ⟨_, rfl⟩
  obtain ⟨ps, hps⟩ : ∃ ps, ps = plan.map fun k => I (iLen k) := ⟨_, rfl⟩
  rw [← hxs, ← hys, ← hzs, ← hps]
  obtain ⟨N, hN⟩ : ∃ N, N = os.length := ⟨_, rfl⟩
  obtain ⟨D, hDD⟩ : ∃ D, D = cs.length := ⟨_, rfl⟩
  rw [← hDD] at hD hD2
  rw [← hN] at hn hp
  rw [← hDD, ← hN] at h
  obtain ⟨A, hA⟩ : ∃ A, A = std := ⟨_, rfl⟩
  obtain ⟨F, hF⟩ : ∃ F, F = Frees 0 Kk := ⟨_, rfl⟩
  rw [← hF]
  have hv1 : A.vlen zs = iLen D := by subst hA; simp [std, hzs, hD]
  have hv2 : A.vlen ys = iLen N := by subst hA; simp [std, hys, hN]
  have hsg : ∀ g, A.sg g g := by subst hA; exact fun _ => rfl
  have hmk : A.mkz 1 24 [.slice none 0 0] (A.vlen ys) (A.vlen ys) (outC 4 0 N D) N := by
    rw [hv2]; subst hA; exact ⟨by unfold iLen; omega, Int.le_refl _, by unfold iLen; omega, by unfold iLen; omega, rfl, by unfold iLen; omega, by rw [← outC_zero]; rfl⟩
  have hmkl : A.mkz 1 8 [.int .i64 0] (A.vlen ys) (A.vlen ys) (rowF N fun _ => 0) N := by
    rw [hv2]; subst hA; exact ⟨by unfold iLen; omega, Int.le_refl _, by unfold iLen; omega, by unfold iLen; omega, rfl, by unfold iLen; omega, by rw [← zeros_row]; rfl⟩
  obtain ⟨z0, hz0⟩ : ∃ z, z = rowF N fun _ => 0 := ⟨_, rfl⟩
  rw [← hz0] at hmkl
  refine go90 rfl (SGo_run hA ⟨[2, 3], [], [], []⟩ .nil .nil 200 fun T TD hT hTD => ?_)
  cbv
  refine Exists.intro (outC 4 0 N D) (Exists.intro N (And.intro hmk ?_))
  obtain ⟨oc, hoc⟩ : ∃ oc, oc = outC 4 0 N D := ⟨_, rfl⟩
  rw [← hoc]
  cbv
  refine Exists.intro _ (Exists.intro N (And.intro hmkl ?_))
  cbv
  rw [hT]
  refine AGo_upE [2, 3, 4, 7, 8] N (fun _ (_ : Unit) => True) (fun j _ i => [(9, I i)])
    (fun j _ => .own 0 [I a, I b, I c, I d, .vs 2 xs, .vs 4 ys] :: .own 0 [I u, I v, .vs 1 zs] :: .own 0 (outC 4 j N D) :: .own 0 (rowF N fun k => if k < j then unitS os k else 0) :: wayH j D fun _ _ => 0) () trivial ⟨rfl, trivial⟩ (.inl (by rw [hoc, hz0]; rfl)) fun j _ i hi hj _ Bk hB => ?_
  clear hT hTD T TD
  have hlt : A.lt i (A.vlen ys) = decide (j < N) := by subst hA; exact lt_len (by simp [hys, hN]) hi
  have hadd : ∀ N, j < N → N ≤ 9223372036854775807 → A.add .i64 i 1 = iLen (j + 1) := fun N hj hN => by subst hA; exact add_one hi hj hN
  obtain ⟨lr, hlr⟩ : ∃ r, r = rowF N fun k => if k < j then unitS os k else 0 := ⟨_, rfl⟩
  obtain ⟨oc2, hoc2⟩ : ∃ r, r = outC 4 j N D := ⟨_, rfl⟩
  rw [← hlr, ← hoc2]
  obtain ⟨WH, hWH⟩ : ∃ r, r = wayH j D fun _ _ => 0 := ⟨_, rfl⟩
  have hWl : LenIs WH j := by unfold LenIs; rw [hWH]; exact wayH_len
  rw [← hWH]
  refine SGo_run hA ⟨[2, 3], [1000043], [], []⟩ .nil .nil 200 fun T TD hT hTD => ?_
  cbv
  split <;> cbv
  · rename_i hk0
    have hk1 : j < N := by have hz := hlt.symm.trans hk0; simpa using hz
    clear hk0
    obtain ⟨⟨ou, od, ol, ol2⟩, hx⟩ : ∃ x, os[j]? = some x := ⟨_, List.getElem?_eq_getElem (hN ▸ hk1)⟩
    have hix : A.ix 4 4 ys i [I ou, I od, I ol, I ol2] := by subst hA; exact ix_map hys hi hx rfl
    have hix2 : A.ixm 1 1 0 N i j := by subst hA; exact ixm1 hi hk1
    have hup : A.upd 1 lr j [I ou] (rowF N fun k => if k < j + 1 then unitS os k else 0) := by
      subst hA; rw [hlr]
      have := updS_row (D := N) (d := j) (f := fun k => if k < j then unitS os k else 0) (v := ou) (by omega)
      rw [show rowF N (updF (fun k => if k < j then unitS os k else 0) j ou) = rowF N fun k => if k < j + 1 then unitS os k else 0 from rowF_congr fun k _ => by
        unfold updF; dsimp only
        by_cases h1 : k = j
        · subst h1; rw [if_pos rfl, if_pos (by omega), unitS_get hx]
        · rw [if_neg h1]
          by_cases h2 : k < j
          · rw [if_pos h2, if_pos (by omega)]
          · rw [if_neg h2, if_neg (by omega)]] at this
      exact this
    obtain ⟨lr2, hlr2⟩ : ∃ r, r = rowF N fun k => if k < j + 1 then unitS os k else 0 := ⟨_, rfl⟩
    rw [← hlr2] at hup
    refine Exists.intro _ (And.intro hix ?_); cbv
    refine And.intro (hsg _) (Exists.intro j (And.intro hix2 ?_)); cbv
    refine And.intro (hsg _) (Exists.intro lr2 (And.intro hup ?_)); cbv
    rw [hT]
    have hmk2 : mkS 1 8 [.int .i64 0] (A.vlen zs) (A.vlen zs) (rowF D fun _ => 0) D := by
      rw [hv1]; exact ⟨by unfold iLen; omega, Int.le_refl _, by unfold iLen; omega, by unfold iLen; omega, rfl, by unfold iLen; omega, by rw [← zeros_row]; rfl⟩
    obtain ⟨z, hz⟩ : ∃ z, z = rowF D fun _ => 0 := ⟨_, rfl⟩
    rw [← hz] at hmk2
    obtain ⟨WH2, hWH2⟩ : ∃ r, r = WH ++ [.own 0 z] := ⟨_, rfl⟩
    refine AGo_mkslN (q := 4 + j) rfl rfl rfl hmk2 (by unfold LenIs at hWl; simp [hWl]; omega) (by simp only [List.cons_append]; rw [← hWH2]) ?_
    have hup2 : A.upd 1 oc2 j [.ms 1 (4 + j) 0 0 D] (outC 4 (j + 1) N D) := by subst hA; rw [hoc2]; exact outC_set hk1
    obtain ⟨oc3, hoc3⟩ : ∃ r, r = outC 4 (j + 1) N D := ⟨_, rfl⟩
    rw [← hoc3] at hup2
    obtain ⟨rid, hrid⟩ : ∃ r, r = 4 + j := ⟨_, rfl⟩
    rw [← hrid] at hup2 ⊢
    clear hT hTD T TD
    refine SGo_run hA ⟨[2, 3], [], [], []⟩ .nil .nil 200 fun T TD hT hTD => ?_
    cbv
    refine And.intro (hsg _) (Exists.intro j (And.intro hix2 ?_)); cbv
    refine And.intro (hsg _) (Exists.intro oc3 (And.intro hup2 ?_)); cbv
    refine hB () _ _ hk1 trivial ⟨congrArg I (hadd _ hk1 (by omega)), trivial⟩ ⟨rfl, rfl, rfl, rfl, rfl, trivial⟩ (.inl ?_)
    rw [hlr2, hoc3, hWH2, hWH, hz, wayH_succ]
  · rename_i hk0
    have hk1 : ¬ j < N := by have hz := hlt.symm.trans hk0; simpa using hz
    clear hk0
    have hjn : j = N := by omega
    have hlr6 : lr = rowF N (unitS os) := by
      rw [hlr, hjn]
      exact rowF_congr fun k hk => by rw [if_pos hk]
    have hoc6 : oc2 = outC 4 N N D := by rw [hoc2, hjn]
    subst hjn
    clear hB hlt hadd
    rw [hT]
    obtain ⟨R, hR⟩ : ∃ R, R = roomW ⟨u, v, ws⟩ := ⟨_, rfl⟩
    have hRb : ∀ d, 0 ≤ R d ∧ R d ≤ 1000000 := by rw [hR]; exact roomW_bnd hw
    refine AGo_upE [2, 4, 7, 8] D (fun q (s : (Nat → Int) × (Nat → Nat → Int)) => s = daysG R plan (unitS os) q ∧ ∀ k, 0 ≤ s.1 k ∧ s.1 k ≤ 1000000) (fun q _ i => [(10, I i)])
      (fun q s => .own 0 [I a, I b, I c, I d, .vs 2 xs, .vs 4 ys] :: .own 0 [I u, I v, .vs 1 zs] :: .own 0 (outC 4 j j D) :: .own 0 (rowF j s.1) :: wayH j D s.2) (unitS os, fun _ _ => 0) ⟨rfl, unitS_bnd hu⟩ ⟨rfl, trivial⟩ (.inl (by rw [hlr6, hoc6, hWH])) fun q s i hi hq hP Bk hB => ?_
    clear hT hTD T TD
    have hlt : A.lt i (A.vlen zs) = decide (q < D) := by subst hA; exact lt_len (by simp [hzs, hD]) hi
    have hadd : ∀ N, q < N → N ≤ 9223372036854775807 → A.add .i64 i 1 = iLen (q + 1) := fun N hj hN => by subst hA; exact add_one hi hj hN
    obtain ⟨sl, sw⟩ := s
    obtain ⟨hP1, hP2⟩ := hP
    obtain ⟨lf, hlf⟩ : ∃ r, r = rowF j sl := ⟨_, rfl⟩
    obtain ⟨ot, hot⟩ : ∃ r, r = outC 4 j j D := ⟨_, rfl⟩
    obtain ⟨W2, hW2⟩ : ∃ r, r = wayH j D sw := ⟨_, rfl⟩
    dsimp only
    rw [← hlf, ← hot, ← hW2]
    refine SGo_run hA ⟨[2, 3], [], (111, eMay) :: [], []⟩ (.cons eMay_ok .nil) .nil 200 fun T TD hT hTD => ?_
    cbv
    split <;> cbv
    · rename_i hk0
      have hk1 : q < D := by have hz := hlt.symm.trans hk0; simpa using hz
      clear hk0
      refine Exists.intro ws (Exists.intro q (And.intro ⟨hzs, hi, by omega⟩ ?_))
      intro rm hrm
      rw [← hR] at hrm
      cbv
      rw [hT]
      have hrm0 := hRb q
      refine AGo_upE [2, 4, 7, 8, 10] plan.length (fun y (t : Int × (Nat → Int) × (Nat → Nat → Int)) => t = (plan.take y).foldl (give q) (R q, sl, sw) ∧ GiveOk t) (fun y t i => [(11, I t.1), (12, I i)])
        (fun y t => .own 0 [I a, I b, I c, I d, .vs 2 xs, .vs 4 ys] :: .own 0 [I u, I v, .vs 1 zs] :: .own 0 (outC 4 j j D) :: .own 0 (rowF j t.2.1) :: wayH j D t.2.2) (R q, sl, sw) ⟨rfl, ⟨hRb q, hP2⟩⟩ ⟨congrArg I hrm, rfl, trivial⟩ (.inl (by rw [hlf, hot, hW2])) fun y t i2 hi2 hy hPt Bk2 hB2 => ?_
      clear hT hTD T TD
      have hlt2 : A.lt i2 (A.vlen ps) = decide (y < plan.length) := by subst hA; exact lt_len (by simp [hps]) hi2
      have hadd2 : ∀ N, y < N → N ≤ 9223372036854775807 → A.add .i64 i2 1 = iLen (y + 1) := fun N hj hN => by subst hA; exact add_one hi2 hj hN
      obtain ⟨tr, tl, tw⟩ := t
      obtain ⟨hPt1, hPt2⟩ := hPt
      dsimp only
      obtain ⟨lg, hlg⟩ : ∃ r, r = rowF j tl := ⟨_, rfl⟩
      obtain ⟨W3, hW3⟩ : ∃ r, r = wayH j D tw := ⟨_, rfl⟩
      rw [← hlg, ← hW3, ← hot]
      refine SGo_run hA ⟨[2, 3], [1000079], [], []⟩ .nil .nil 200 fun T TD hT hTD => ?_
      cbv
      split <;> cbv
      · rename_i hk0
        have hk2 : y < plan.length := by have hz := hlt2.symm.trans hk0; simpa using hz
        clear hk0
        obtain ⟨k, hx⟩ : ∃ x, plan[y]? = some x := ⟨_, List.getElem?_eq_getElem hk2⟩
        have hkn := hp k (List.mem_of_getElem? hx)
        have hix : A.ix 1 1 ps i2 [I (iLen k)] := by subst hA; exact ix_map hps hi2 hx rfl
        obtain ⟨ik, hik⟩ : ∃ i, i = iLen k := ⟨_, rfl⟩
        rw [← hik] at hix
        have hx2 : A.ixm 1 1 0 j ik k := by subst hA; exact ixm1 hik (by omega)
        have hg1 : A.get none lg k (I (tl k)) := by subst hA; rw [hlg]; exact getS_row (by omega)
        obtain ⟨rid, hrid⟩ : ∃ r, r = 4 + k := ⟨_, rfl⟩
        have hg2 : A.get none ot k (.ms 1 rid 0 0 D) := by subst hA; rw [hot, hrid]; exact outC_get (by omega)
        refine Exists.intro _ (And.intro hix ?_); cbv
        refine And.intro (hsg _) (Exists.intro k (And.intro hx2 ?_)); cbv
        refine And.intro (hsg _) (Exists.intro _ (And.intro hg1 ?_)); cbv
        refine Exists.intro _ (And.intro hix ?_); cbv
        refine And.intro (hsg _) (Exists.intro k (And.intro hx2 ?_)); cbv
        refine And.intro (hsg _) (Exists.intro _ (And.intro hg2 ?_)); cbv
        rw [hT]
        clear hT hTD T TD
        have hjq : ixmS 1 1 0 D i q := ixm1 hi hk1
        have hXr : ∀ (o0 o1 o2 o3 : AObj), (o0 :: o1 :: o2 :: o3 :: W3)[rid]? = some (.own 0 (rowF D (tw k))) := fun o0 o1 o2 o3 => by
          rw [hrid, hW3, Nat.add_comm]; exact wayH_get hkn
        refine AGo_iaN rfl rfl rfl (hXr _ _ _ _) hjq ?_
        obtain ⟨mn, hmn⟩ : ∃ r, r = A.min tr (tl k) := ⟨_, rfl⟩
        have hmn2 : mn = min tr (tl k) := by rw [hmn]; subst hA; exact iMin_eq _ _
        obtain ⟨W4, hW4⟩ : ∃ r, r = wayH j D (updF tw k (updF (tw k) q mn)) := ⟨_, rfl⟩
        have hXs : ∀ (o0 o1 o2 o3 : AObj), (o0 :: o1 :: o2 :: o3 :: W3).set rid (.own 0 (rowF D (updF (tw k) q mn))) = o0 :: o1 :: o2 :: o3 :: W4 := fun o0 o1 o2 o3 => by
          rw [hrid, hW3, hW4, Nat.add_comm, ← wayH_set]; rfl
        refine AGo_stN (xs := [I mn]) rfl rfl (by rw [hmn]; rfl) (hXr _ _ _ _) (updS_row (v := mn) hk1) (hXs _ _ _ _) ?_
        have hg3 : A.upd 1 lg k [I (A.sub .i64 (tl k) (A.min tr (tl k)))] (rowF j (updF tl k (A.sub .i64 (tl k) (A.min tr (tl k))))) := by subst hA; rw [hlg]; exact updS_row (by omega)
        obtain ⟨lh, hlh⟩ : ∃ r, r = rowF j (updF tl k (A.sub .i64 (tl k) (A.min tr (tl k)))) := ⟨_, rfl⟩
        rw [← hlh] at hg3
        refine SGo_run hA ⟨[2, 3], [2000003], [], []⟩ .nil .nil 200 fun T TD hT hTD => ?_
        cbv
        refine Exists.intro _ (And.intro hix ?_); cbv
        refine Exists.intro _ (And.intro hix ?_); cbv
        refine And.intro (hsg _) (Exists.intro k (And.intro hx2 ?_)); cbv
        refine And.intro (hsg _) (Exists.intro _ (And.intro hg1 ?_)); cbv
        refine And.intro (hsg _) (Exists.intro k (And.intro hx2 ?_)); cbv
        refine And.intro (hsg _) (Exists.intro lh (And.intro hg3 ?_)); cbv
        refine And.intro (by
          clear hB2 hB hT hTD hXs hXr hW4 h hF
          subst hA
          rcases W4 with _ | ⟨o4, T4⟩
          · exact .inr ⟨SubH.same (SubH.same (SubH.same ⟨rfl, trivial⟩)), trivial, .inl rfl⟩
          · exact .inr ⟨SubH.same (SubH.same (SubH.same ⟨rfl, maskGo_sub (us := [3]) (i := 4) (H := o4 :: T4) (T := [])⟩)), trivial, .inl rfl⟩) ?_
        cbv
        have hs1 : A.sub .i64 (tl k) (A.min tr (tl k)) = tl k - mn := by
          rw [← hmn]; have := hPt2.2 k; have := hPt2.1; dsimp only at *; subst hA; exact iSub_id (by omega) (by omega)
        have hs2 : A.sub .i64 tr (A.min tr (tl k)) = tr - mn := by
          rw [← hmn]; have := hPt2.2 k; have := hPt2.1; dsimp only at *; subst hA; exact iSub_id (by omega) (by omega)
        have hgl : .own 0 [I a, I b, I c, I d, .vs 2 xs, .vs 4 ys] :: .own 0 [I u, I v, .vs 1 zs] :: .own 0 ot :: .own 0 lh :: W4 = (.own 0 [I a, I b, I c, I d, .vs 2 xs, .vs 4 ys] :: .own 0 [I u, I v, .vs 1 zs] :: .own 0 (outC 4 j j D) :: .own 0 (rowF j (updF tl k (tl k - mn))) :: wayH j D (updF tw k (updF (tw k) q mn)) : AHeap) := by rw [hlh, hs1, hot, hW4]
        refine hB2 (tr - mn, updF tl k (tl k - mn), updF tw k (updF (tw k) q mn)) _ _ hk2 ⟨?_, ?_⟩ ⟨congrArg I hs2, congrArg I (hadd2 _ hk2 (by omega)), trivial⟩ ⟨rfl, rfl, rfl, rfl, rfl, trivial⟩ (.inl (Eq.trans ?_ hgl))
        · rw [foldl_take_succ hx, ← hPt1, hmn2]; rfl
        · rw [hmn2]; exact hPt2.give q k
        · clear hB2 hB hT hTD hXs hXr hW4 h hF hgl
          rcases W4 with _ | ⟨o4, T4⟩
          · rfl
          · show _ :: _ :: _ :: _ :: o4 :: (T4 ++ []) = _
            rw [List.append_nil]
      · rename_i hk0
        have hk2 : ¬ y < plan.length := by have hz := hlt2.symm.trans hk0; simpa using hz
        clear hk0
        refine hB (tl, tw) _ _ hk1 ⟨?_, hPt2.2⟩ ⟨congrArg I (hadd _ hk1 (by omega)), trivial⟩ ⟨rfl, rfl, rfl, rfl, trivial⟩ (.inl (by rw [hlg, hot, hW3]))
        rw [daysG_succ, ← hP1, dayG]
        rw [List.take_of_length_le (by omega)] at hPt1
        rw [← hPt1]
    · rename_i hk0
      have hk1 : ¬ q < D := by have hz := hlt.symm.trans hk0; simpa using hz
      clear hk0
      rw [hF]
      have hend := Frees.fam (Kk := Kk) (b := 4) (n := j) (D := D) (q := 2) (g0 := 0) (w := sw) [.own 0 [I a, I b, I c, I d, .vs 2 xs, .vs 4 ys], .own 0 [I u, I v, .vs 1 zs], .own 0 ot, .own 0 lf] rfl (by omega) (fun i X hX hi => by
        match i, hX, hi with
        | 0, hX, _ => cases hX; rfl
        | 1, hX, _ => cases hX; rfl
        | 2, _, hi => exact absurd rfl hi
        | 3, hX, _ => cases hX; rw [hlf]; exact nidL_rowF) (by rw [hot]; rfl) (by
        have : sw = spreadG R plan (unitS os) D := by rw [spreadG, ← show q = D by omega, ← hP1]
        rw [this, hR]; exact h)
      rw [← hW2] at hend
      exact hend
end Go.Sas
namespace Go.Sas
open Go.Proofs
set_option maxRecDepth 100000
theorem p85 (a b c d : Int) (xs : List AV) (os : List Ord) (plan : List Int) (hn : os.length ≤ 9223372036854775807) (hp : plan.length ≤ 9223372036854775807) (H : AHeap) {Kk : AV → AHeap → Prop} (h : Kk (I (if PlanP os.length plan then 0 else 3)) H) :
    ACalls Try.prog 85 [frV a b c d (.vs 2 xs) (.vs 4 (os.map orV)), .vs 1 (plan.map I)] H Kk := by
  refine (fun q => pureC (by rfl) (by rfl) q H h) ?_
  clear h
  intro Kk h
  obtain ⟨ys, hys⟩ : ∃ ys, ys = os.map orV := ⟨_, rfl⟩
  obtain ⟨ps, hps⟩ : ∃ ys, ys = plan.map I := ⟨_, rfl⟩
  rw [← hys, ← hps]
  obtain ⟨N, hN⟩ : ∃ N, N = os.length := ⟨_, rfl⟩
  rw [← hN] at h hn
  obtain ⟨W, hW⟩ : ∃ W : Int, W = if PlanP N plan then 0 else 3 := ⟨_, rfl⟩
  rw [← hW] at h
  obtain ⟨A, hA⟩ : ∃ A, A = std := ⟨_, rfl⟩
  have hv2 : A.vlen ys = iLen N := by subst hA; simp [std, hys, hN]
  have hv1 : A.vlen ps = iLen plan.length := by subst hA; simp [std, hps]
  have hnb : ∀ b, A.bnot b = !b := by subst hA; intro b; rfl
  have hnn : ∀ x y, A.ne x y = decide (x ≠ y) := by subst hA; intro x y; simp only [std, iNe]; rw [Bool.eq_iff_iff]; simp
  have hee : ∀ x y, A.eq x y = decide (x = y) := by subst hA; intro x y; simp only [std, iEq]; rw [Bool.eq_iff_iff]; simp
  have hll : ∀ x y, A.lt x y = decide (x < y) := by subst hA; intro x y; rfl
  have hn0 := hnn (A.vlen ps) (A.vlen ys)
  refine go85 rfl (SGo_run hA ⟨[], [], [], []⟩ .nil .nil 200 fun T TD hT hTD => ?_)
  cbv
  split <;> cbv
  · rename_i hz
    have hz := hn0.symm.trans hz
    rw [decide_eq_true_eq, hv1, hv2] at hz
    exact leaf h (congrArg I (by rw [hW, if_neg]; intro h9; exact hz (by rw [h9.1]))) rfl
  rename_i hz
  have hz := hn0.symm.trans hz
  rw [decide_eq_false_iff_not, hv1, hv2] at hz
  have hlen : plan.length = N := by unfold iLen at hz; omega
  clear hz hn0
  rw [hT]
  refine AGo_upE [1, 2] plan.length (fun j (_ : Unit) => (∀ k ∈ plan.take j, 0 ≤ k ∧ k ≤ iLen N - 1) ∧ (plan.take j).Nodup) (fun j _ i => [(5, I i)]) (fun _ _ => [.own 0 [I a, I b, I c, I d, .vs 2 xs, .vs 4 ys]]) () ⟨by simp, by simp⟩ ⟨rfl, trivial⟩ (.inl rfl) fun j _ i hi hj hP Bk hB => ?_
  clear hT hTD T TD
  have hlt : A.lt i (A.vlen ps) = decide (j < plan.length) := by subst hA; exact lt_len (by simp [hps]) hi
  have hadd : ∀ N, j < N → N ≤ 9223372036854775807 → A.add .i64 i 1 = iLen (j + 1) := fun N hj hN => by subst hA; exact add_one hi hj hN
  obtain ⟨hP1, hP2⟩ := hP
  have hsub : A.sub .i64 (A.vlen ys) 1 = iLen N - 1 := by rw [hv2]; subst hA; exact iSub_id (by unfold iLen; omega) (by unfold iLen; omega)
  refine SGo_run hA ⟨[], [], (67, eIn) :: [], []⟩ (.cons (eIn_ok p67) .nil) .nil 200 fun T TD hT hTD => ?_
  cbv
  split <;> cbv
  · rename_i hk0
    have hk1 : j < plan.length := by have hz := hlt.symm.trans hk0; simpa using hz
    clear hk0
    obtain ⟨x, hx⟩ : ∃ x, plan[j]? = some x := ⟨_, List.getElem?_eq_getElem hk1⟩
    have hix : A.ix 1 1 ps i [I x] := by subst hA; exact ix_map hps hi hx rfl
    have htk := take_succ_mem hx
    have hxm : x ∈ plan := List.mem_of_getElem? hx
    refine Exists.intro _ (And.intro hix ?_); cbv
    intro q hq
    have hq : q = decide (0 ≤ x ∧ x ≤ A.sub .i64 (A.vlen ys) 1) := hq
    rw [hsub] at hq
    cbv
    split <;> cbv
    · rename_i hz
      have hz : q = false := by have hz := (hnb q).symm.trans hz; simpa using hz
      rw [hz] at hq
      have hz2 := of_decide_eq_false hq.symm
      exact leaf h (congrArg I (by rw [hW, if_neg]; intro h9; exact hz2 (by have := h9.2.1 x hxm; unfold iLen; omega))) rfl
    rename_i hz
    have hz : q = true := by have hz := (hnb q).symm.trans hz; simpa using hz
    rw [hz] at hq
    have hxb := of_decide_eq_true hq.symm
    rw [hT]
    refine AGo_upE [1, 2, 5] j (fun k (_ : Unit) => x ∉ plan.take k) (fun k _ i => [(6, I i)]) (fun _ _ => [.own 0 [I a, I b, I c, I d, .vs 2 xs, .vs 4 ys]]) () (by simp) ⟨rfl, trivial⟩ (.inl rfl) fun k _ ik hik hjk hPk Bk2 hB2 => ?_
    clear hT hTD T TD
    have hltk : A.lt ik i = decide (k < j) := by rw [hll, hi, hik]; simp [iLen]
    have haddk : ∀ N, k < N → N ≤ 9223372036854775807 → A.add .i64 ik 1 = iLen (k + 1) := fun N hj hN => by subst hA; exact add_one hik hj hN
    refine SGo_run hA ⟨[], [], [], []⟩ .nil .nil 200 fun T TD hT hTD => ?_
    cbv
    split <;> cbv
    · rename_i hk0
      have hkj : k < j := by have hz := hltk.symm.trans hk0; simpa using hz
      obtain ⟨y, hy⟩ : ∃ y, plan[k]? = some y := ⟨_, List.getElem?_eq_getElem (by omega)⟩
      have hiy : A.ix 1 1 ps ik [I y] := by subst hA; exact ix_map hps hik hy rfl
      refine Exists.intro _ (And.intro hiy ?_); cbv
      refine Exists.intro _ (And.intro hix ?_); cbv
      have hyx := hee y x
      split <;> cbv
      · rename_i hz9
        have hz9 : y = x := by have hz9 := hyx.symm.trans hz9; simpa using hz9
        refine leaf h (congrArg I ?_) rfl
        rw [hW, if_neg]
        intro h9
        subst hz9
        have := h9.2.2
        rw [← List.take_append_drop j plan, drop_cons hx] at this
        have h8 := (List.nodup_append.1 this).2.2 y (by
          have : (plan.take j)[k]? = some y := by rw [List.getElem?_take, if_pos hkj]; exact hy
          exact List.mem_of_getElem? this) y (by simp)
        exact h8 rfl
      · rename_i hz9
        have hz9 : ¬ y = x := by have hz9 := hyx.symm.trans hz9; simpa using hz9
        refine hB2 () _ _ hkj ?_ ⟨congrArg I (haddk _ hkj (by omega)), trivial⟩ ⟨rfl, rfl, rfl, trivial⟩ (.inl rfl)
        rw [take_succ_mem hy]
        simp only [List.mem_append, List.mem_singleton, not_or]
        exact ⟨hPk, fun e => hz9 e.symm⟩
    · rename_i hk0
      have hkj : ¬ k < j := by have hz := hltk.symm.trans hk0; simpa using hz
      have hkj : k = j := by omega
      subst hkj
      refine hB () _ _ hk1 ⟨?_, ?_⟩ ⟨congrArg I (hadd _ hk1 (by omega)), trivial⟩ ⟨rfl, rfl, trivial⟩ (.inl rfl)
      · rw [htk]
        intro y hy
        rcases List.mem_append.1 hy with h1 | h1
        · exact hP1 y h1
        · simp at h1; subst h1; exact hxb
      · rw [htk, List.nodup_append]
        refine ⟨hP2, by simp, ?_⟩
        intro y hy z hz e
        simp at hz
        subst hz
        subst e
        exact hPk hy
  · rename_i hk0
    have hk1 : ¬ j < plan.length := by have hz := hlt.symm.trans hk0; simpa using hz
    clear hk0
    have htk : plan.take j = plan := List.take_of_length_le (by omega)
    rw [htk] at hP1 hP2
    exact leaf h (congrArg I (by rw [hW, if_pos]; exact ⟨hlen, fun k hk => by have := hP1 k hk; unfold iLen at this; omega, hP2⟩)) rfl
set_option maxHeartbeats 4000000 in
theorem p89 (a b c d : Int) (xs : List AV) (D : Nat) (os : List Ord) (rows : List (List Int)) (hD2 : D ≤ 200) (hn : os.length ≤ 6) (ho : OrdsV os) (hr : RowsV os.length D rows) (hle0 : ∀ (k : Nat) o r, os[k]? = some o → rows[k]? = some r → sumI r ≤ o.u) (H : AHeap) {Kk : AV → AHeap → Prop}
    (h : Kk (.tup [.vs 4 ((tellS os rows).map dlV), I (penS os rows)]) H) :
    ACalls Try.prog 89 [frV a b c d (.vs 2 xs) (.vs 4 (os.map orV)), .vs 1 (rows.map fun r => .vs 1 (r.map I))] H Kk := by
  refine (fun q => pureF (by rfl) (by rfl) q H h) ?_
  clear h
  intro Kk h
  obtain ⟨ys, hys⟩ : ∃ ys, ys = os.map orV := ⟨_, rfl⟩
  obtain ⟨zs, hzs⟩ : ∃ zs : List AV, zs = rows.map fun r => .vs 1 (r.map I) := ⟨_, rfl⟩
  rw [← hys, ← hzs]
  obtain ⟨N, hN⟩ : ∃ N, N = os.length := ⟨_, rfl⟩
  rw [← hN] at hn hr
  obtain ⟨hr1, hr2⟩ := hr
  have hzl : (os.zip rows).length = N := by rw [List.length_zip, hr1, ← hN, Nat.min_self]
  obtain ⟨A, hA⟩ : ∃ A, A = std := ⟨_, rfl⟩
  obtain ⟨F, hF⟩ : ∃ F, F = Frees 0 Kk := ⟨_, rfl⟩
  rw [← hF]
  have hsg : ∀ g, A.sg g g := by subst hA; exact fun _ => rfl
  have hll : ∀ x y, A.lt x y = decide (x < y) := by subst hA; intro x y; rfl
  have hle : ∀ x y, A.le x y = decide (x ≤ y) := by subst hA; intro x y; rfl
  refine go89 rfl (SGo_run hA ⟨[1], [], [], []⟩ .nil .nil 200 fun T TD hT hTD => ?_)
  cbv
  rw [hT]
  refine AGo_nilms 6 4 rfl ?_
  refine AGo_upE [1, 2] N (fun j (s : List Dlv × Int) => s.1 = ((os.zip rows).take j).map (fun p => tellO p.1 p.2) ∧ s.2 = sumI (((os.zip rows).take j).map fun p => fineO p.1 (tellO p.1 p.2)) ∧ -400000000000000 * iLen j ≤ s.2 ∧ s.2 ≤ 400000000000000 * iLen j)
    (fun j s i => [(6, .ms 4 1 j 0 j), (7, I s.2), (8, I i)])
    (fun j s => [.own 0 [I a, I b, I c, I d, .vs 2 xs, .vs 4 ys], .own j (s.1.flatMap dlC)]) ([], 0) ⟨rfl, rfl, by simp [iLen], by simp [iLen]⟩ ⟨rfl, rfl, rfl, trivial⟩ (.inl rfl) fun j s i hi hj hP Bk hB => ?_
  clear hT hTD T TD
  have hlt : A.lt i (A.vlen zs) = decide (j < N) := by subst hA; exact lt_len (by simp [hzs, hr1]) hi
  have hadd : ∀ N, j < N → N ≤ 9223372036854775807 → A.add .i64 i 1 = iLen (j + 1) := fun N hj hN => by subst hA; exact add_one hi hj hN
  obtain ⟨dl, pen⟩ := s
  obtain ⟨hP1, hP2, hP3, hP4⟩ := hP
  dsimp only at hP1 hP2 hP3 hP4 ⊢
  have hdl : dl.length = j := by rw [hP1]; simp [hzl]; omega
  obtain ⟨dc, hdc⟩ : ∃ c, c = dl.flatMap dlC := ⟨_, rfl⟩
  rw [← hdc]
  refine SGo_run hA ⟨[1], [], [], []⟩ .nil .nil 200 fun T TD hT hTD => ?_
  cbv
  split <;> cbv
  · rename_i hk0
    have hk1 : j < N := by have hz := hlt.symm.trans hk0; simpa using hz
    clear hk0
    obtain ⟨⟨ou, od, ol, ol2⟩, hx⟩ : ∃ x, os[j]? = some x := ⟨_, List.getElem?_eq_getElem (hN ▸ hk1)⟩
    obtain ⟨row, hy⟩ : ∃ x, rows[j]? = some x := ⟨_, List.getElem?_eq_getElem (by omega)⟩
    have hix : A.ix 4 4 ys i [I ou, I od, I ol, I ol2] := by subst hA; exact ix_map hys hi hx rfl
    have hiy : A.ix 1 1 zs i [.vs 1 (row.map I)] := by subst hA; exact ix_map hzs hi hy rfl
    obtain ⟨hb1, hb2, hb3, hb4⟩ := ho _ (List.mem_of_getElem? hx)
    obtain ⟨hrl, hrb⟩ := hr2 _ (List.mem_of_getElem? hy)
    have hru := hle0 j _ _ hx hy
    dsimp only at hb1 hb2 hb3 hb4 hru
    obtain ⟨rs, hrs⟩ : ∃ r, r = row.map I := ⟨_, rfl⟩
    rw [← hrs] at hiy
    have hib : ∀ y, 0 ≤ sumI (row.take y) ∧ sumI (row.take y) ≤ 200000000 := fun y => by
      have := sumI_bnd (lo := 0) (hi := 1000000) (l := row.take y) fun x hx => hrb x (List.mem_of_mem_take hx)
      have h9 : (row.take y).length ≤ 200 := by simp; omega
      omega
    refine Exists.intro _ (And.intro hix ?_); cbv
    rw [hT]
    obtain ⟨q, hq⟩ : ∃ q, q = od.toNat + 1 := ⟨_, rfl⟩
    refine AGo_upE [1, 2, 6, 7, 8, 9, 10] row.length (fun y (dy : Int) => lastP (iLen y) (row.drop y) dy = lastP 0 row (-1)) (fun y dy i => [(11, I i)])
      (fun y dy => [.own 0 [I a, I b, I c, I d, .vs 2 xs, .vs 4 ys], .own j dc, .own 0 [I ou, I od, I ol, I ol2], .own 0 [I (sumI (row.take (min y q))), I (sumI (row.take y) - sumI (row.take (min y q))), I (ou - sumI (row.take y)), I dy]]) (-1) rfl ⟨rfl, trivial⟩ (.inl (by simp [sumI])) fun y dy i2 hi2 hy2 hPt Bk2 hB2 => ?_
    clear hT hTD T TD
    have hlt2 : A.lt i2 (A.vlen rs) = decide (y < row.length) := by subst hA; exact lt_len (by simp [hrs]) hi2
    have hadd2 : ∀ N, y < N → N ≤ 9223372036854775807 → A.add .i64 i2 1 = iLen (y + 1) := fun N hj hN => by subst hA; exact add_one hi2 hj hN
    have hb5 := hib y
    have hb6 := hib (min y q)
    obtain ⟨so, hso⟩ : ∃ r, r = sumI (row.take (min y q)) := ⟨_, rfl⟩
    obtain ⟨st, hst⟩ : ∃ r, r = sumI (row.take y) := ⟨_, rfl⟩
    rw [← hso] at hb6 ⊢
    rw [← hst] at hb5 ⊢
    obtain ⟨sl, hsl⟩ : ∃ r, r = st - so := ⟨_, rfl⟩
    obtain ⟨sx, hsx⟩ : ∃ r, r = ou - st := ⟨_, rfl⟩
    rw [← hsl, ← hsx]
    have hc0 := hll 0 sx
    refine SGo_run hA ⟨[1], [1001], [], []⟩ .nil .nil 200 fun T TD hT hTD => ?_
    cbv
    refine Exists.intro _ (And.intro hiy ?_); cbv
    split <;> cbv
    · rename_i hk0
      have hk2 : y < row.length := by have hz := hlt2.symm.trans hk0; simpa using hz
      clear hk0
      obtain ⟨x, hx2⟩ : ∃ x, row[y]? = some x := ⟨_, List.getElem?_eq_getElem hk2⟩
      have hix2 : A.ix 1 1 rs i2 [I x] := by subst hA; exact ix_map hrs hi2 hx2 rfl
      have hxb := hrb x (List.mem_of_getElem? hx2)
      have hgt := hll 0 x
      have hdu := hle i2 od
      rw [drop_cons hx2] at hPt
      simp only [lastP] at hPt
      have hi3 : iLen y + 1 = iLen (y + 1) := rfl
      have hst2 : sumI (row.take (y + 1)) = st + x := by rw [take_succ_mem hx2, sumI_append, ← hst]; simp [sumI]
      have hs1 : A.sub .i64 sx x = ou - sumI (row.take (y + 1)) := by rw [hst2]; subst hA; show iSub .i64 sx x = _; rw [iSub_id (by omega) (by omega)]; omega
      have hso2 : so = sumI (row.take (min y q)) := hso
      have hend : ∀ (dz : Int) (v1 v2 v3 : Int) e', lastP (iLen (y + 1)) (row.drop (y + 1)) dz = lastP 0 row (-1) → v1 = sumI (row.take (min (y + 1) q)) → v2 = sumI (row.take (y + 1)) - sumI (row.take (min (y + 1) q)) → v3 = ou - sumI (row.take (y + 1)) →
          Fits e' [(11, I (A.add .i64 i2 1))] → Fits e' [(1, .vs 1 zs), (2, .mp 0 0 0), (6, .ms 4 1 j 0 j), (7, I pen), (8, I i), (9, .mp 2 0 0), (10, .mp 3 0 0)] →
          Bk2 e' [.own 0 [I a, I b, I c, I d, .vs 2 xs, .vs 4 ys], .own j dc, .own 0 [I ou, I od, I ol, I ol2], .own 0 [I v1, I v2, I v3, I dz]] := fun dz v1 v2 v3 e' g1 g2 g3 g4 g5 g6 => by
        rw [hadd2 _ hk2 (by omega)] at g5
        exact hB2 dz e' _ hk2 g1 g5 g6 (.inl (by rw [g2, g3, g4]))
      clear hB2
      refine Exists.intro _ (And.intro hiy ?_); cbv
      refine Exists.intro _ (And.intro hix2 ?_); cbv
      split <;> cbv
      · rename_i hg
        have hg1 : 0 < x := by have hg := hgt.symm.trans hg; simpa using hg
        rw [if_pos hg1] at hPt
        split <;> cbv
        · rename_i hd
          have hd := hdu.symm.trans hd
          have hd : y ≤ od.toNat := by rw [decide_eq_true_eq, hi2] at hd; unfold iLen at hd; omega
          exact hend i2 _ _ _ _ (by rw [hi2]; exact hPt) (by rw [show min (y + 1) q = y + 1 by omega, hst2]; rw [show min y q = y by omega, ← hst] at hso2; subst hA; show iAdd .i64 so x = _; rw [iAdd_id (by omega) (by omega)]; omega)
            (by rw [show min (y + 1) q = y + 1 by omega]; rw [show min y q = y by omega, ← hst] at hso2; omega) hs1 ⟨rfl, trivial⟩ ⟨rfl, rfl, rfl, rfl, rfl, rfl, rfl, trivial⟩
        · rename_i hd
          have hd := hdu.symm.trans hd
          have hd : ¬ y ≤ od.toNat := by rw [decide_eq_false_iff_not, hi2] at hd; unfold iLen at hd; omega
          exact hend i2 _ _ _ _ (by rw [hi2]; exact hPt) (by rw [show min (y + 1) q = min y q by omega, ← hso]) (by rw [show min (y + 1) q = min y q by omega, ← hso, hst2]; subst hA; show iAdd .i64 sl x = _; rw [iAdd_id (by omega) (by omega)]; omega) hs1 ⟨rfl, trivial⟩ ⟨rfl, rfl, rfl, rfl, rfl, rfl, rfl, trivial⟩
      · rename_i hg
        have hg1 : ¬ 0 < x := by have hg := hgt.symm.trans hg; simpa using hg
        rw [if_neg hg1] at hPt
        split <;> cbv
        · rename_i hd
          have hd := hdu.symm.trans hd
          have hd : y ≤ od.toNat := by rw [decide_eq_true_eq, hi2] at hd; unfold iLen at hd; omega
          exact hend dy _ _ _ _ hPt (by rw [show min (y + 1) q = y + 1 by omega, hst2]; rw [show min y q = y by omega, ← hst] at hso2; subst hA; show iAdd .i64 so x = _; rw [iAdd_id (by omega) (by omega)]; omega)
            (by rw [show min (y + 1) q = y + 1 by omega]; rw [show min y q = y by omega, ← hst] at hso2; omega) hs1 ⟨rfl, trivial⟩ ⟨rfl, rfl, rfl, rfl, rfl, rfl, rfl, trivial⟩
        · rename_i hd
          have hd := hdu.symm.trans hd
          have hd : ¬ y ≤ od.toNat := by rw [decide_eq_false_iff_not, hi2] at hd; unfold iLen at hd; omega
          exact hend dy _ _ _ _ hPt (by rw [show min (y + 1) q = min y q by omega, ← hso]) (by rw [show min (y + 1) q = min y q by omega, ← hso, hst2]; subst hA; show iAdd .i64 sl x = _; rw [iAdd_id (by omega) (by omega)]; omega) hs1 ⟨rfl, trivial⟩ ⟨rfl, rfl, rfl, rfl, rfl, rfl, rfl, trivial⟩
    · rename_i hk0
      have hk2 : ¬ y < row.length := by have hz := hlt2.symm.trans hk0; simpa using hz
      clear hk0 hB2
      rw [List.drop_eq_nil_of_le (by omega)] at hPt
      simp only [lastP] at hPt
      have hst2 : st = sumI row := by rw [hst, List.take_of_length_le (by omega)]
      have hso2 : so = sumI (row.take q) := by
        rw [hso]
        rcases Nat.le_total y q with h1 | h1
        · rw [Nat.min_eq_left h1, List.take_of_length_le (by omega), List.take_of_length_le (by omega)]
        · rw [Nat.min_eq_right h1]
      have hm1 := mul_bnd (a := sl) (b := ol) (A := 200000000) (B := 1000000) (by omega) (by omega) hb3.1 hb3.2
      have hm2 := mul_bnd (a := sx) (b := ol2) (A := 200000000) (B := 1000000) (by omega) (by omega) hb4.1 hb4.2
      have hpn : A.add .i64 (A.add .i64 pen (A.mul .i64 sl ol)) (A.mul .i64 sx ol2) = pen + (sl * ol + sx * ol2) := by
        unfold iLen at hP3 hP4
        subst hA
        simp only [std]
        rw [iMul_id (by omega) (by omega), iMul_id (by omega) (by omega), iAdd_id (a := pen) (by omega) (by omega), iAdd_id (by omega) (by omega)]
        omega
      have hfi : fineO ⟨ou, od, ol, ol2⟩ (tellO ⟨ou, od, ol, ol2⟩ row) = sl * ol + sx * ol2 := by rw [hsl, hsx, hst2, hso2, hq]; rfl
      have hzx : (os.zip rows)[j]? = some (⟨ou, od, ol, ol2⟩, row) := by rw [List.getElem?_zip_eq_some]; exact ⟨hx, hy⟩
      have htk : (os.zip rows).take (j + 1) = (os.zip rows).take j ++ [(⟨ou, od, ol, ol2⟩, row)] := by
        obtain ⟨h, he⟩ := List.getElem?_eq_some_iff.1 hzx
        rw [List.take_succ_eq_append_getElem h, he]
      have hend : ∀ (dz : Int) (dc2 : List AV) (e' : Env), dz = (if ou - sumI row = 0 then lastP 0 row (-1) else -1) → dc2 = dc ++ [I so, I sl, I sx, I dz] →
          Fits e' [(6, .ms 4 1 (j + 1) 0 (j + 1)), (7, I (A.add .i64 (A.add .i64 pen (A.mul .i64 sl ol)) (A.mul .i64 sx ol2))), (8, I (A.add .i64 i 1))] →
          Fits e' [(1, .vs 1 zs), (2, .mp 0 0 0)] → ∀ H', (∃ T, H' = [.own 0 [I a, I b, I c, I d, .vs 2 xs, .vs 4 ys], .own (j + 1) dc2] ++ T) → Bk e' H' := by
        intro dz dc2 e' hdy hdc2 hf1 hf2 H' hH
        rw [hpn, hadd _ hk1 (by omega)] at hf1
        have hd1 : dl ++ [⟨so, sl, sx, dz⟩] = ((os.zip rows).take (j + 1)).map fun p => tellO p.1 p.2 := by
          rw [htk, List.map_append, ← hP1]
          simp only [List.map_cons, List.map_nil, tellO, ← hdy, ← hq, ← hso2, hsl, hsx, hst2]
        refine hB (dl ++ [⟨so, sl, sx, dz⟩], pen + (sl * ol + sx * ol2)) e' H' hk1 ⟨hd1, ?_, ?_, ?_⟩ hf1 hf2 (.inr ⟨?_, Nat.zero_le _, ?_, ?_⟩)
        · rw [htk, List.map_append, sumI_append, ← hP2]; simp only [List.map_cons, List.map_nil, sumI]; rw [hfi]; omega
        · unfold iLen at hP3 ⊢; dsimp only; omega
        · unfold iLen at hP4 ⊢; dsimp only; omega
        · obtain ⟨T, rfl⟩ := hH
          exact ⟨T, by rw [hdc2, hdc]; simp [List.flatMap_append]⟩
        · simp [ltG, keepS, look, gset, AV.lt, AV.ltL]
        · exact ⟨by simp [AObj.lt, AV.ltL, AV.lt], AV.ltL_nid (nidL_flat (fun _ => rfl) _), trivial⟩
      clear hB
      split <;> cbv
      · rename_i hz
        have hz : 0 < sx := by have hz := hc0.symm.trans hz; simpa using hz
        refine And.intro (hsg _) (Exists.intro (dc ++ [I so, I sl, I sx, I (-1)]) (Exists.intro (j + 1) (And.intro ?_ (And.intro rfl ?_))))
        · subst hA; exact app_one (by rw [hdc, len_flat (k := 4) (fun _ => rfl), hdl]) rfl (by omega)
        generalize hdc2 : dc ++ _ = dc2
        cbv
        refine And.intro (by subst hA; first | (simp [std, Keep, SubH, ResK]; done) | exact .inr ⟨⟨rfl, SubH.self _⟩, trivial, .inr fun _ => ⟨rfl, SubH.self _⟩⟩ | exact .inr ⟨SubH.self _, trivial, .inr fun _ => SubH.self _⟩ | exact .inr ⟨by simp [SubH], trivial, .inl rfl⟩ | exact .inr ⟨by simp [SubH], trivial, .inr fun _ => by simp [SubH]⟩) ?_
        cbv
        refine hend _ dc2 _ (by rw [if_neg (by omega)]) hdc2.symm ⟨rfl, rfl, rfl, trivial⟩ ⟨rfl, rfl, trivial⟩ _ ⟨_, rfl⟩
      · rename_i hz
        have hz : ¬ 0 < sx := by have hz := hc0.symm.trans hz; simpa using hz
        refine And.intro (hsg _) (Exists.intro (dc ++ [I so, I sl, I sx, I dy]) (Exists.intro (j + 1) (And.intro ?_ (And.intro rfl ?_))))
        · subst hA; exact app_one (by rw [hdc, len_flat (k := 4) (fun _ => rfl), hdl]) rfl (by omega)
        generalize hdc2 : dc ++ _ = dc2
        cbv
        refine And.intro (by subst hA; first | (simp [std, Keep, SubH, ResK]; done) | exact .inr ⟨⟨rfl, SubH.self _⟩, trivial, .inr fun _ => ⟨rfl, SubH.self _⟩⟩ | exact .inr ⟨SubH.self _, trivial, .inr fun _ => SubH.self _⟩ | exact .inr ⟨by simp [SubH], trivial, .inl rfl⟩ | exact .inr ⟨by simp [SubH], trivial, .inr fun _ => by simp [SubH]⟩) ?_
        cbv
        refine hend _ dc2 _ (by rw [if_pos (by omega)]; exact hPt) hdc2.symm ⟨rfl, rfl, rfl, trivial⟩ ⟨rfl, rfl, trivial⟩ _ ⟨_, rfl⟩
  · rename_i hk0
    have hk1 : ¬ j < N := by have hz := hlt.symm.trans hk0; simpa using hz
    clear hk0
    rw [hF]
    have hzt : (os.zip rows).take j = os.zip rows := List.take_of_length_le (by omega)
    rw [hzt] at hP1 hP2
    refine Frees.frz 1 j 4 (dl.map dlV) rfl (by rw [hdc]; exact Elems_map (f := dlV) (g := dlC) (sz := 4) (fun _ => rfl) (fun _ => rfl) (fun _ => rfl) dl) (Frees.drop0 ?_ ?_)
    · have : AV.frz 1 j 4 (dl.map dlV) (.ms 4 1 j 0 j) = .vs 4 (dl.map dlV) := frz_self (by simp [hdl])
      simp only [aTup, AV.frz, AV.frzL] at this ⊢
      rw [this, hP1, hP2]; exact h
    · simp only [aTup, AV.frz, AV.frzL, AV.nid, AV.nidL, if_true]
      split <;> rfl
def eCheckPlanR : List AV → Option ((AV → Prop) → Prop)
  | [.agg [.lit (.int .i64 _), .lit (.int .i64 _), .lit (.int .i64 _), .lit (.int .i64 _), .vs 2 _, .vs 4 ys], .vs 1 ps] =>
    some fun K => ∃ (os : List Ord) (plan : List Int), (ys = os.map orV ∧ ps = plan.map I ∧ os.length ≤ 9223372036854775807 ∧ plan.length ≤ 9223372036854775807) ∧ ∀ q, (q = if PlanP os.length plan then 0 else 3) → K (I q)
  | _ => none
theorem eCheckPlanR_ok : ∀ args pt, eCheckPlanR args = some pt → ∀ (H : AHeap) (Kk : AV → AHeap → Prop), pt (fun r => Kk r H) → ACalls Try.prog 85 args H Kk := by
  intro args pt h H Kk hk
  unfold eCheckPlanR at h
  split at h
  · cases h
    obtain ⟨os, plan, ⟨rfl, rfl, h1, h2⟩, h3⟩ := hk
    exact p85 _ _ _ _ _ _ _ h1 h2 H (h3 _ rfl)
  · cases h
def eSpreadRf : List AV → Option ((AV → Prop) → Prop)
  | [.agg [.lit (.int .i64 _), .lit (.int .i64 _), .lit (.int .i64 _), .lit (.int .i64 _), .vs 2 xs, .vs 4 ys], .agg [.lit (.int .i64 u), .lit (.int .i64 v), .vs 1 zs], .vs 1 ps] =>
    some fun K => ∃ (cs : List (Int × Int)) (os : List Ord) (ws : List Int) (plan : List Nat), (xs = cs.map sp ∧ ys = os.map orV ∧ zs = ws.map I ∧ ps = plan.map natI) ∧ (ws.length = cs.length ∧ cs.length ≤ 200 ∧ os.length ≤ 6 ∧ (∀ x ∈ ws, 0 ≤ x ∧ x ≤ 1000000) ∧ (∀ o ∈ os, 0 ≤ o.u ∧ o.u ≤ 1000000) ∧ (∀ k ∈ plan, k < os.length) ∧ plan.length ≤ 1000) ∧
      ∀ zs2 : List AV, (zs2 = (rowsF os.length cs.length (spreadG (roomW ⟨u, v, ws⟩) plan (unitS os) cs.length)).map fun r => .vs 1 (r.map I)) → K (.vs 1 zs2)
  | _ => none
theorem eSpreadRf_ok : ∀ args pt, eSpreadRf args = some pt → ∀ (H : AHeap) (Kk : AV → AHeap → Prop), pt (fun r => Kk r H) → ACalls Try.prog 90 args H Kk := by
  intro args pt h H Kk hk
  unfold eSpreadRf at h
  split at h
  · cases h
    obtain ⟨cs, os, ws, plan, ⟨rfl, rfl, rfl, rfl⟩, ⟨h1, h2, h3, h4, h5, h6, h7⟩, h8⟩ := hk
    exact p90 _ _ _ _ _ _ _ _ _ _ h1 h2 h3 h4 h5 h6 h7 H (by rw [wayV_rows]; exact h8 _ rfl)
  · cases h
def eTellRf : List AV → Option ((AV → Prop) → Prop)
  | [.agg [.lit (.int .i64 _), .lit (.int .i64 _), .lit (.int .i64 _), .lit (.int .i64 _), .vs 2 _, .vs 4 ys], .vs 1 zs] =>
    some fun K => ∃ (D : Nat) (os : List Ord) (rows : List (List Int)), (ys = os.map orV ∧ zs = rows.map fun r => .vs 1 (r.map I)) ∧ (D ≤ 200 ∧ os.length ≤ 6 ∧ OrdsV os ∧ RowsV os.length D rows ∧ ∀ (k : Nat) o r, os[k]? = some o → rows[k]? = some r → sumI r ≤ o.u) ∧
      ∀ ds q, ds = (tellS os rows).map dlV → q = penS os rows → K (.tup [.vs 4 ds, I q])
  | _ => none
theorem eTellRf_ok : ∀ args pt, eTellRf args = some pt → ∀ (H : AHeap) (Kk : AV → AHeap → Prop), pt (fun r => Kk r H) → ACalls Try.prog 89 args H Kk := by
  intro args pt h H Kk hk
  unfold eTellRf at h
  split at h
  · cases h
    obtain ⟨D, os, rows, ⟨rfl, rfl⟩, ⟨h1, h2, h3, h4, h5⟩, h6⟩ := hk
    exact p89 _ _ _ _ _ D _ _ h1 h2 h3 h4 h5 H (h6 _ _ rfl rfl)
  · cases h
end Go.Sas
namespace Go.Sas
open Go.Proofs
set_option maxRecDepth 100000
def eWinR (u v : Int → Int → Int → Int → Int) (w : Int × Int → Int) : List AV → Option ((AV → Prop) → Prop)
  | [.agg [.lit (.int .i64 a), .lit (.int .i64 b), .lit (.int .i64 c), .lit (.int .i64 d), .vs 2 xs, .vs 4 _]] =>
    some fun K => ∃ (cs : List (Int × Int)), (xs = cs.map sp ∧ cs.length ≤ 1000000) ∧ ∀ zs : List AV, zs = (cs.map w).map I → K (winV (u a b c d) (v a b c d) (.vs 1 zs))
  | _ => none
theorem eFair_ok : ∀ args pt, eWinR (fun a _ _ _ => a) (fun _ _ _ d => d) (·.2) args = some pt → ∀ (H : AHeap) (Kk : AV → AHeap → Prop), pt (fun r => Kk r H) → ACalls Try.prog 86 args H Kk := by
  intro args pt h H Kk hk
  unfold eWinR at h
  split at h
  · cases h
    obtain ⟨cs, ⟨rfl, h1⟩, h2⟩ := hk
    exact p86 _ _ _ _ _ _ h1 H (h2 _ (by rw [List.map_map]; rfl))
  · cases h
theorem eWorstR_ok : ∀ args pt, eWinR (fun _ b _ _ => b) (fun _ _ c _ => c) (·.1) args = some pt → ∀ (H : AHeap) (Kk : AV → AHeap → Prop), pt (fun r => Kk r H) → ACalls Try.prog 74 args H Kk := by
  intro args pt h H Kk hk
  unfold eWinR at h
  split at h
  · cases h
    obtain ⟨cs, ⟨rfl, h1⟩, h2⟩ := hk
    exact p74 _ _ _ _ _ _ h1 H (h2 _ (by rw [List.map_map]; rfl))
  · cases h
theorem rows_le {os : List Ord} {D : Nat} {R : Nat → Int} {p : List Nat} (hu : ∀ k, 0 ≤ unitS os k) (hR : ∀ d, 0 ≤ R d) (hp : p.Nodup) : ∀ (k : Nat) o r, os[k]? = some o → (rowsF os.length D (spreadG R p (unitS os) D))[k]? = some r → sumI r ≤ o.u := by
  intro k o r ho hr
  have hk := (List.getElem?_eq_some_iff.1 ho).1
  have : r = (List.range D).map (spreadG R p (unitS os) D k) := by simp [rowsF, hk] at hr; exact hr.symm
  rw [this, sum_upto hu hR hp k D (Nat.le_refl _), ← unitS_get ho]
  exact (cumP_bnd hu k).2
theorem p75 (a b c d u v : Int) (cs : List (Int × Int)) (os : List Ord) (ws : List Int) (plan : List Nat) (hV : FrtV ⟨(a, b), (c, d), cs, os⟩) (hwl : ws.length = cs.length) (hw : ∀ x ∈ ws, 0 ≤ x ∧ x ≤ 1000000) (hp : plan.Nodup) (hpk : ∀ k ∈ plan, k < os.length) (hpl : plan.length ≤ 1000) (H : AHeap) {Kk : AV → AHeap → Prop}
    (h : Kk (I (costS os cs.length ⟨u, v, ws⟩ plan)) H) : ACalls Try.prog 75 [frV a b c d (.vs 2 (cs.map sp)) (.vs 4 (os.map orV)), winV u v (.vs 1 (ws.map I)), .vs 1 (plan.map natI)] H Kk := by
  refine (fun q => pureC (by rfl) (by rfl) q H h) ?_
  clear h
  intro Kk h
  obtain ⟨xs, hxs⟩ : ∃ xs, xs = cs.map sp := ⟨_, rfl⟩
  obtain ⟨ys, hys⟩ : ∃ ys, ys = os.map orV := ⟨_, rfl⟩
  obtain ⟨zs, hzs⟩ : ∃ ys, ys = ws.map I := ⟨_, rfl⟩
  obtain ⟨ps, hps⟩ : ∃ ys, ys = plan.map natI := ⟨_, rfl⟩
  rw [← hxs, ← hys, ← hzs, ← hps]
  have hc2 := hV.c2
  have ho2 := hV.o2
  have hor := hV.ords
  have hu0 : ∀ k, 0 ≤ unitS os k := hV.u0
  dsimp only at hc2 ho2 hor
  have hvw := rowsF_v (n := os.length) (D := cs.length) (daysG_ok (roomW_bnd (w := ⟨u, v, ws⟩) hw) (unitS_bnd hor.u) (plan := plan) cs.length).2
  have hrl := rows_le (os := os) (D := cs.length) (R := roomW ⟨u, v, ws⟩) (p := plan) hu0 (roomW_nonneg (w := ⟨u, v, ws⟩) hw) hp
  obtain ⟨W, hW⟩ : ∃ W, W = costS os cs.length ⟨u, v, ws⟩ plan := ⟨_, rfl⟩
  rw [← hW] at h
  obtain ⟨A, hA⟩ : ∃ A, A = std := ⟨_, rfl⟩
  refine go75 rfl (SGo_run hA ⟨[], [], (90, eSpreadRf) :: (89, eTellRf) :: [], []⟩ (.cons eSpreadRf_ok (.cons eTellRf_ok .nil)) .nil 200 fun T TD hT hTD => ?_)
  cbv
  refine Exists.intro cs (Exists.intro os (Exists.intro ws (Exists.intro plan (And.intro ⟨hxs, hys, hzs, hps⟩ (And.intro ⟨hwl, hc2, ho2, hw, hor.u, hpk, hpl⟩ ?_)))))
  intro z2 hz2; cbv
  refine Exists.intro cs.length (Exists.intro os (Exists.intro _ (And.intro ⟨hys, hz2⟩ (And.intro ⟨hc2, ho2, hor, hvw, hrl⟩ ?_))))
  intro ds q _ hq; cbv
  exact leaf h (congrArg I (hW.trans hq.symm)) rfl
def eCostR : List AV → Option ((AV → Prop) → Prop)
  | [.agg [.lit (.int .i64 a), .lit (.int .i64 b), .lit (.int .i64 c), .lit (.int .i64 d), .vs 2 xs, .vs 4 ys], .agg [.lit (.int .i64 u), .lit (.int .i64 v), .vs 1 zs], .vs 1 ps] =>
    some fun K => ∃ (cs : List (Int × Int)) (os : List Ord) (ws : List Int) (plan : List Nat), (xs = cs.map sp ∧ ys = os.map orV ∧ zs = ws.map I ∧ ps = plan.map natI) ∧ (FrtV ⟨(a, b), (c, d), cs, os⟩ ∧ ws.length = cs.length ∧ (∀ x ∈ ws, 0 ≤ x ∧ x ≤ 1000000) ∧ plan.Nodup ∧ (∀ k ∈ plan, k < os.length) ∧ plan.length ≤ 1000) ∧
      ∀ q, q = costS os cs.length ⟨u, v, ws⟩ plan → K (I q)
  | _ => none
theorem eCostR_ok : ∀ args pt, eCostR args = some pt → ∀ (H : AHeap) (Kk : AV → AHeap → Prop), pt (fun r => Kk r H) → ACalls Try.prog 75 args H Kk := by
  intro args pt h H Kk hk
  unfold eCostR at h
  split at h
  · cases h
    obtain ⟨cs, os, ws, plan, ⟨rfl, rfl, rfl, rfl⟩, ⟨h1, h2, h3, h4, h5, h6⟩, h7⟩ := hk
    exact p75 _ _ _ _ _ _ _ _ _ _ h1 h2 h3 h4 h5 h6 H (h7 _ rfl)
  · cases h
theorem p32 (a b c d : Int) (cs : List (Int × Int)) (os : List Ord) (plan : List Int) (hc : cs.length ≤ 9223372036854775807) (ho : os.length ≤ 9223372036854775807) (hp : plan.length ≤ 9223372036854775807) (H : AHeap) {Kk : AV → AHeap → Prop}
    (h : Kk (.tup [.agg [I (rangeS ⟨(a, b), (c, d), cs, os⟩ plan).1.1, I (rangeS ⟨(a, b), (c, d), cs, os⟩ plan).1.2], I (rangeS ⟨(a, b), (c, d), cs, os⟩ plan).2]) H) :
    ACalls Try.prog 32 [frV a b c d (.vs 2 (cs.map sp)) (.vs 4 (os.map orV)), .vs 1 (plan.map I)] H Kk := by
  refine (fun q => pureC (by rfl) (by rfl) q H h) ?_
  clear h
  intro Kk h
  obtain ⟨xs, hxs⟩ : ∃ xs, xs = cs.map sp := ⟨_, rfl⟩
  obtain ⟨ys, hys⟩ : ∃ ys, ys = os.map orV := ⟨_, rfl⟩
  obtain ⟨ps, hps⟩ : ∃ ys, ys = plan.map I := ⟨_, rfl⟩
  rw [← hxs, ← hys, ← hps]
  obtain ⟨W, hW⟩ : ∃ W, W = rangeS ⟨(a, b), (c, d), cs, os⟩ plan := ⟨_, rfl⟩
  rw [← hW] at h
  obtain ⟨A, hA⟩ : ∃ A, A = std := ⟨_, rfl⟩
  have hne : ∀ x, A.ne x 0 = decide (x ≠ 0) := by subst hA; intro x; simp only [std, iNe]; rw [Bool.eq_iff_iff]; simp
  refine go32 rfl (SGo_run hA ⟨[], [1], (20, eCheckFr) :: (85, eCheckPlanR) :: (86, eWinR (fun a _ _ _ => a) (fun _ _ _ d => d) (·.2)) :: (74, eWinR (fun _ b _ _ => b) (fun _ _ c _ => c) (·.1)) :: (75, eCostR) :: [], []⟩ (.cons (eCheckFr_ok p20) (.cons eCheckPlanR_ok (.cons eFair_ok (.cons eWorstR_ok (.cons eCostR_ok .nil))))) .nil 200 fun T TD hT hTD => ?_)
  cbv
  refine Exists.intro cs (Exists.intro os (And.intro hxs (And.intro hys (And.intro hc (And.intro ho ?_)))))
  intro q hq; cbv
  unfold rangeS at hW
  split <;> cbv
  · rename_i hz
    have hz : q ≠ 0 := by have hz := (hne q).symm.trans hz; simpa using hz
    have hcp : checkPlanS ⟨(a, b), (c, d), cs, os⟩ plan = q := by unfold checkPlanS; rw [if_pos (by rw [← hq]; exact hz), hq]
    rw [hcp, if_pos hz] at hW
    rw [hW] at h
    exact h
  rename_i hz
  have hz : q = 0 := by have hz := (hne q).symm.trans hz; simpa using hz
  rw [hz] at hq
  have hV := checkF_ok hq.symm
  refine Exists.intro os (Exists.intro plan (And.intro ⟨hys, hps, ho, hp⟩ ?_))
  intro q2 hq2
  cbv
  split <;> cbv
  · rename_i hz2
    have hz2 : q2 ≠ 0 := by have hz2 := (hne q2).symm.trans hz2; simpa using hz2
    have hnp : ¬ PlanP os.length plan := fun h9 => by rw [if_pos h9] at hq2; exact hz2 hq2
    have hcp : checkPlanS ⟨(a, b), (c, d), cs, os⟩ plan = 3 := by unfold checkPlanS; rw [if_neg (by rw [← hq]; simp), if_neg hnp]
    rw [if_neg hnp] at hq2
    rw [hcp, if_pos (by decide)] at hW
    rw [hW] at h
    rw [hq2]
    exact h
  rename_i hz2
  have hz2 : q2 = 0 := by have hz2 := (hne q2).symm.trans hz2; simpa using hz2
  have hP : PlanP os.length plan := by
    by_cases h9 : PlanP os.length plan
    · exact h9
    · rw [if_neg h9] at hq2; omega
  have hcp : checkPlanS ⟨(a, b), (c, d), cs, os⟩ plan = 0 := planS_of hq.symm hP
  rw [hcp, if_neg (by simp)] at hW
  obtain ⟨hn1, hn2⟩ := hP.nat
  have hnd := hP.nodup
  have hc2 := hV.c2
  have hlo := hV.lo
  have hhi := hV.hi
  have hpl := hP.1
  have ho2 := hV.o2
  dsimp only at hc2 hlo hhi hpl ho2
  have hplen : (planN plan).length ≤ 1000 := by rw [planN_len]; omega
  rw [hn1] at hps
  refine Exists.intro cs (And.intro ⟨hxs, by omega⟩ ?_)
  intro zs hzs; cbv
  refine Exists.intro cs (Exists.intro os (Exists.intro (cs.map (·.2)) (Exists.intro (planN plan) (And.intro ⟨hxs, hys, hzs, hps⟩ (And.intro ⟨hV, by simp, hhi, hnd, hn2, hplen⟩ ?_)))))
  intro q3 hq3; cbv
  refine Exists.intro cs (And.intro ⟨hxs, by omega⟩ ?_)
  intro zs2 hzs2; cbv
  refine Exists.intro cs (Exists.intro os (Exists.intro (cs.map (·.1)) (Exists.intro (planN plan) (And.intro ⟨hxs, hys, hzs2, hps⟩ (And.intro ⟨hV, by simp, hlo, hnd, hn2, hplen⟩ ?_)))))
  intro q4 hq4; cbv
  refine And.intro (by subst hA; exact .inr ⟨by simp [SubH], trivial, .inl rfl⟩) ?_
  cbv
  rw [hW] at h
  have e1 : q3 = costS os cs.length (bestW ⟨(a, b), (c, d), cs, os⟩) (planN plan) := hq3
  have e2 : q4 = costS os cs.length (worstW ⟨(a, b), (c, d), cs, os⟩) (planN plan) := hq4
  rw [e1, e2]
  exact h
set_option maxHeartbeats 4000000 in
theorem p34 (a b c d : Int) (cs : List (Int × Int)) (os : List Ord) (plan : List Int) (hc : cs.length ≤ 9223372036854775807) (ho : os.length ≤ 9223372036854775807) (hp : plan.length ≤ 9223372036854775807) (H : AHeap) {Kk : AV → AHeap → Prop}
    (h : Kk (.tup [.vs 1 ((promiseS ⟨(a, b), (c, d), cs, os⟩ plan).1.map I), I (promiseS ⟨(a, b), (c, d), cs, os⟩ plan).2]) H) :
    ACalls Try.prog 34 [frV a b c d (.vs 2 (cs.map sp)) (.vs 4 (os.map orV)), .vs 1 (plan.map I)] H Kk := by
  refine (fun q => pureF (by rfl) (by rfl) q H h) ?_
  clear h
  intro Kk h
  obtain ⟨xs, hxs⟩ : ∃ xs, xs = cs.map sp := ⟨_, rfl⟩
  obtain ⟨ys, hys⟩ : ∃ ys, ys = os.map orV := ⟨_, rfl⟩
  obtain ⟨ps, hps⟩ : ∃ ys, ys = plan.map I := ⟨_, rfl⟩
  rw [← hxs, ← hys, ← hps]
  obtain ⟨W, hW⟩ : ∃ W, W = promiseS ⟨(a, b), (c, d), cs, os⟩ plan := ⟨_, rfl⟩
  rw [← hW] at h
  obtain ⟨A, hA⟩ : ∃ A, A = std := ⟨_, rfl⟩
  obtain ⟨F, hF⟩ : ∃ F, F = Frees 0 Kk := ⟨_, rfl⟩
  rw [← hF]
  have hsg : ∀ g, A.sg g g := by subst hA; exact fun _ => rfl
  have hne : ∀ x, A.ne x 0 = decide (x ≠ 0) := by subst hA; intro x; simp only [std, iNe]; rw [Bool.eq_iff_iff]; simp
  refine go34 rfl (SGo_run hA ⟨[], [], (20, eCheckFr) :: (85, eCheckPlanR) :: (86, eWinR (fun a _ _ _ => a) (fun _ _ _ d => d) (·.2)) :: (74, eWinR (fun _ b _ _ => b) (fun _ _ c _ => c) (·.1)) :: (90, eSpreadRf) :: (89, eTellRf) :: [], []⟩ (.cons (eCheckFr_ok p20) (.cons eCheckPlanR_ok (.cons eFair_ok (.cons eWorstR_ok (.cons eSpreadRf_ok (.cons eTellRf_ok .nil)))))) .nil 200 fun T TD hT hTD => ?_)
  cbv
  refine Exists.intro cs (Exists.intro os (And.intro hxs (And.intro hys (And.intro hc (And.intro ho ?_)))))
  intro q hq; cbv
  unfold promiseS at hW
  split <;> cbv
  · rename_i hz
    have hz : q ≠ 0 := by have hz := (hne q).symm.trans hz; simpa using hz
    have hcp : checkPlanS ⟨(a, b), (c, d), cs, os⟩ plan = q := by unfold checkPlanS; rw [if_pos (by rw [← hq]; exact hz), hq]
    rw [hcp, if_pos hz] at hW
    rw [hW] at h
    rw [hF]
    exact Frees.wk (r' := .tup [.vs 1 [], I q]) (Wk.tup ⟨Wk.nil, Wk.rfl, trivial⟩) (Frees.drop0 h rfl)
  rename_i hz
  have hz : q = 0 := by have hz := (hne q).symm.trans hz; simpa using hz
  rw [hz] at hq
  have hV := checkF_ok hq.symm
  refine Exists.intro os (Exists.intro plan (And.intro ⟨hys, hps, ho, hp⟩ ?_))
  intro q2 hq2
  cbv
  split <;> cbv
  · rename_i hz2
    have hz2 : q2 ≠ 0 := by have hz2 := (hne q2).symm.trans hz2; simpa using hz2
    have hnp : ¬ PlanP os.length plan := fun h9 => by rw [if_pos h9] at hq2; exact hz2 hq2
    have hcp : checkPlanS ⟨(a, b), (c, d), cs, os⟩ plan = 3 := by unfold checkPlanS; rw [if_neg (by rw [← hq]; simp), if_neg hnp]
    rw [if_neg hnp] at hq2
    rw [hcp, if_pos (by decide)] at hW
    rw [hW] at h
    rw [hq2, hF]
    exact Frees.wk (r' := .tup [.vs 1 [], I 3]) (Wk.tup ⟨Wk.nil, Wk.rfl, trivial⟩) (Frees.drop0 h rfl)
  rename_i hz2
  have hz2 : q2 = 0 := by have hz2 := (hne q2).symm.trans hz2; simpa using hz2
  have hP : PlanP os.length plan := by
    by_cases h9 : PlanP os.length plan
    · exact h9
    · rw [if_neg h9] at hq2; omega
  have hcp : checkPlanS ⟨(a, b), (c, d), cs, os⟩ plan = 0 := planS_of hq.symm hP
  rw [hcp, if_neg (by simp)] at hW
  obtain ⟨hn1, hn2⟩ := hP.nat
  have hnd := hP.nodup
  have hc2 := hV.c2
  have ho2 := hV.o2
  have hlo := hV.lo
  have hhi := hV.hi
  have hor := hV.ords
  have hpl := hP.1
  have hu0 : ∀ k, 0 ≤ unitS os k := hV.u0
  dsimp only at hc2 ho2 hlo hhi hor hpl
  have hplen : (planN plan).length ≤ 1000 := by rw [planN_len]; omega
  rw [hn1] at hps
  have hvw := rowsF_v (n := os.length) (D := cs.length) (daysG_ok (roomW_bnd (w := ⟨b, c, cs.map (·.1)⟩) hlo) (unitS_bnd hor.u) (plan := planN plan) cs.length).2
  have hvb := rowsF_v (n := os.length) (D := cs.length) (daysG_ok (roomW_bnd (w := ⟨a, d, cs.map (·.2)⟩) hhi) (unitS_bnd hor.u) (plan := planN plan) cs.length).2
  have hrw := rows_le (os := os) (D := cs.length) (R := roomW ⟨b, c, cs.map (·.1)⟩) (p := planN plan) hu0 (roomW_nonneg (w := ⟨b, c, cs.map (·.1)⟩) hlo) hnd
  have hrb := rows_le (os := os) (D := cs.length) (R := roomW ⟨a, d, cs.map (·.2)⟩) (p := planN plan) hu0 (roomW_nonneg (w := ⟨a, d, cs.map (·.2)⟩) hhi) hnd
  refine Exists.intro cs (And.intro ⟨hxs, by omega⟩ ?_)
  intro zs hzs; cbv
  refine Exists.intro cs (Exists.intro os (Exists.intro (cs.map (·.1)) (Exists.intro (planN plan) (And.intro ⟨hxs, hys, hzs, hps⟩ (And.intro ⟨by simp, hc2, ho2, hlo, hor.u, hn2, hplen⟩ ?_)))))
  intro zs3 hz3; cbv
  refine Exists.intro cs.length (Exists.intro os (Exists.intro _ (And.intro ⟨hys, hz3⟩ (And.intro ⟨hc2, ho2, hor, hvw, hrw⟩ ?_))))
  intro ds1 q1 hds1 _; cbv
  refine Exists.intro cs (And.intro ⟨hxs, by omega⟩ ?_)
  intro zs2 hzs2; cbv
  refine Exists.intro cs (Exists.intro os (Exists.intro (cs.map (·.2)) (Exists.intro (planN plan) (And.intro ⟨hxs, hys, hzs2, hps⟩ (And.intro ⟨by simp, hc2, ho2, hhi, hor.u, hn2, hplen⟩ ?_)))))
  intro zs4 hz4; cbv
  refine Exists.intro cs.length (Exists.intro os (Exists.intro _ (And.intro ⟨hys, hz4⟩ (And.intro ⟨hc2, ho2, hor, hvb, hrb⟩ ?_))))
  intro ds2 q3 hds2 _; cbv
  rw [hT]
  obtain ⟨N, hN⟩ : ∃ N, N = os.length := ⟨_, rfl⟩
  obtain ⟨t1, ht1⟩ : ∃ t, t = tellW ⟨(a, b), (c, d), cs, os⟩ (worstW ⟨(a, b), (c, d), cs, os⟩) (planN plan) := ⟨_, rfl⟩
  obtain ⟨t2, ht2⟩ : ∃ t, t = tellW ⟨(a, b), (c, d), cs, os⟩ (bestW ⟨(a, b), (c, d), cs, os⟩) (planN plan) := ⟨_, rfl⟩
  have hds1 : ds1 = t1.map dlV := by rw [hds1, ht1]; rfl
  have hds2 : ds2 = t2.map dlV := by rw [hds2, ht2]; rfl
  have hl1 : t1.length = N := by rw [ht1, hN]; exact tellW_len
  have hl2 : t2.length = N := by rw [ht2, hN]; exact tellW_len
  obtain ⟨Z, hZ⟩ : ∃ Z, Z = os.zip (t1.zip t2) := ⟨_, rfl⟩
  have hZl : Z.length = N := by rw [hZ]; simp [hl1, hl2, hN]
  have hWZ : W = (Z.map (fun x => if x.2.1.on = x.1.u then 1 else if x.2.2.on < x.1.u then 2 else 3), 0) := by rw [hW, promS, ← ht1, ← ht2, hZ]
  have hv2 : A.vlen ys = iLen N := by subst hA; simp [std, hys, hN]
  clear hW
  refine AGo_nilms 12 1 rfl ?_
  refine AGo_upE [2, 8, 10] N (fun j (l : List Int) => l = (Z.take j).map (fun x => if x.2.1.on = x.1.u then 1 else if x.2.2.on < x.1.u then 2 else 3)) (fun j l i => [(12, .ms 1 1 j 0 j), (13, I i)])
    (fun j l => [.own 0 [I a, I b, I c, I d, .vs 2 xs, .vs 4 ys], .own j (l.map I)]) [] rfl ⟨rfl, rfl, trivial⟩ (.inl rfl) fun j l i hi hj hP Bk hB => ?_
  have hlt : A.lt i (A.vlen ys) = decide (j < N) := by subst hA; exact lt_len (by simp [hys, hN]) hi
  have hadd : ∀ N, j < N → N ≤ 9223372036854775807 → A.add .i64 i 1 = iLen (j + 1) := fun N hj hN => by subst hA; exact add_one hi hj hN
  have hll : l.length = j := by rw [hP]; simp [hZl]; omega
  obtain ⟨cc, hcc⟩ : ∃ r, r = l.map I := ⟨_, rfl⟩
  rw [← hcc]
  refine SGo_run hA ⟨[1], [], [], []⟩ .nil .nil 200 fun T TD hT hTD => ?_
  cbv
  split <;> cbv
  · rename_i hk0
    have hk1 : j < N := by have hz := hlt.symm.trans hk0; simpa using hz
    clear hk0
    obtain ⟨⟨ou, od, ol, ol2⟩, hx⟩ : ∃ x, os[j]? = some x := ⟨_, List.getElem?_eq_getElem (hN ▸ hk1)⟩
    obtain ⟨⟨n1, n2, n3, n4⟩, hx1⟩ : ∃ x, t1[j]? = some x := ⟨_, List.getElem?_eq_getElem (by omega)⟩
    obtain ⟨⟨m1, m2, m3, m4⟩, hx2⟩ : ∃ x, t2[j]? = some x := ⟨_, List.getElem?_eq_getElem (by omega)⟩
    have hix : A.ix 4 4 ys i [I ou, I od, I ol, I ol2] := by subst hA; exact ix_map hys hi hx rfl
    have hi1 : A.ix 4 4 ds1 i [I n1, I n2, I n3, I n4] := by subst hA; exact ix_map hds1 hi hx1 rfl
    have hi2 : A.ix 4 4 ds2 i [I m1, I m2, I m3, I m4] := by subst hA; exact ix_map hds2 hi hx2 rfl
    have hzx : Z[j]? = some (⟨ou, od, ol, ol2⟩, ⟨n1, n2, n3, n4⟩, ⟨m1, m2, m3, m4⟩) := by rw [hZ, List.getElem?_zip_eq_some]; exact ⟨hx, by rw [List.getElem?_zip_eq_some]; exact ⟨hx1, hx2⟩⟩
    have htk := take_succ_mem hzx
    have hee : A.eq n1 ou = decide (n1 = ou) := by subst hA; simp only [std, iEq]; rw [Bool.eq_iff_iff]; simp
    have hll2 : A.lt m1 ou = decide (m1 < ou) := by subst hA; rfl
    have hend : ∀ (v : Int) (c2 : List AV) (e' : Env), v = (if n1 = ou then 1 else if m1 < ou then 2 else 3) → c2 = cc ++ [I v] → Fits e' [(12, .ms 1 1 (j + 1) 0 (j + 1)), (13, I (A.add .i64 i 1))] →
        Fits e' [(2, .mp 0 0 0), (8, .vs 4 ds1), (10, .vs 4 ds2)] → ∀ H', (∃ T, H' = [.own 0 [I a, I b, I c, I d, .vs 2 xs, .vs 4 ys], .own (j + 1) c2] ++ T) → Bk e' H' := by
      intro v c2 e' hv hc9 hf1 hf2 H' hH
      rw [hadd _ hk1 (by omega)] at hf1
      refine hB (l ++ [v]) e' H' hk1 (by rw [htk, List.map_append, ← hP]; simp [hv]) hf1 hf2 (.inr ⟨?_, Nat.zero_le _, ?_, ?_⟩)
      · obtain ⟨T, rfl⟩ := hH
        exact ⟨T, by rw [hc9, hcc]; simp⟩
      · simp [ltG, keepS, look, gset, AV.lt, AV.ltL]
      · exact ⟨by simp [AObj.lt, AV.ltL, AV.lt], AV.ltL_nid (nidL_map (fun _ => rfl) _), trivial⟩
    refine Exists.intro _ (And.intro hi1 ?_); cbv
    refine Exists.intro _ (And.intro hix ?_); cbv
    split <;> cbv
    · rename_i hz
      have hz := hee.symm.trans hz
      simp only [decide_eq_true_eq] at hz
      refine And.intro (hsg _) (Exists.intro (cc ++ [I 1]) (Exists.intro (j + 1) (And.intro ?_ (And.intro rfl ?_))))
      · subst hA; exact app_one (by rw [hcc]; simp [hll]) rfl (by omega)
      generalize hc9 : cc ++ _ = c9
      cbv
      exact hend 1 c9 _ (by rw [if_pos hz]) hc9.symm ⟨rfl, rfl, trivial⟩ ⟨rfl, rfl, rfl, trivial⟩ _ ⟨_, rfl⟩
    rename_i hz
    have hz := hee.symm.trans hz
    simp only [decide_eq_false_iff_not] at hz
    refine Exists.intro _ (And.intro hi2 ?_); cbv
    refine Exists.intro _ (And.intro hix ?_); cbv
    split <;> cbv
    · rename_i hz2
      have hz2 := hll2.symm.trans hz2
      simp only [decide_eq_true_eq] at hz2
      refine And.intro (hsg _) (Exists.intro (cc ++ [I 2]) (Exists.intro (j + 1) (And.intro ?_ (And.intro rfl ?_))))
      · subst hA; exact app_one (by rw [hcc]; simp [hll]) rfl (by omega)
      generalize hc9 : cc ++ _ = c9
      cbv
      exact hend 2 c9 _ (by rw [if_neg hz, if_pos hz2]) hc9.symm ⟨rfl, rfl, trivial⟩ ⟨rfl, rfl, rfl, trivial⟩ _ ⟨_, rfl⟩
    · rename_i hz2
      have hz2 := hll2.symm.trans hz2
      simp only [decide_eq_false_iff_not] at hz2
      refine And.intro (hsg _) (Exists.intro (cc ++ [I 3]) (Exists.intro (j + 1) (And.intro ?_ (And.intro rfl ?_))))
      · subst hA; exact app_one (by rw [hcc]; simp [hll]) rfl (by omega)
      generalize hc9 : cc ++ _ = c9
      cbv
      exact hend 3 c9 _ (by rw [if_neg hz, if_neg hz2]) hc9.symm ⟨rfl, rfl, trivial⟩ ⟨rfl, rfl, rfl, trivial⟩ _ ⟨_, rfl⟩
  · rename_i hk0
    have hk1 : ¬ j < N := by have hz := hlt.symm.trans hk0; simpa using hz
    clear hk0
    rw [hF]
    rw [List.take_of_length_le (by omega)] at hP
    refine Frees.frz 1 j 1 (l.map I) rfl (by rw [hcc]; exact Elems_I l) (Frees.drop0 ?_ ?_)
    · have : AV.frz 1 j 1 (l.map I) (.ms 1 1 j 0 j) = .vs 1 (l.map I) := frz_self (by simp [hll])
      simp only [aTup, AV.frz, AV.frzL] at this ⊢
      rw [hWZ, ← hP] at h
      rw [this]; exact h
    · simp only [aTup, AV.frz, AV.frzL, AV.nid, AV.nidL, if_true]
      split <;> rfl
end Go.Sas
