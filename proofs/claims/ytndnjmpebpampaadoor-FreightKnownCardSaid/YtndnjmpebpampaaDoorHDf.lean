/-
Freight: the reference's way of delivering: contract.
Freight: what a way delivers, and what it costs: contract.
Freight: worst and best seasons and winters: contracts.
Freight: what a plan costs: contract.
Conditions: none.
-/
import Derived.Test.YtndnjmpebpampaaDoorHCf
import Derived.Test.YtndnjmpebpampaaDoorHAf
import Derived.Test.YtndnjmpebpampaaDoorXFf
set_option linter.unusedVariables false
set_option linter.unusedSimpArgs false
namespace Go.Sas
open Go.Proofs
set_option maxRecDepth 100000
theorem SubH.same {x : AObj} {M H : AHeap} (h : SubH M H) : SubH (x :: M) (x :: H) := by
  rcases x with _ | ⟨g, _ | ⟨c, cs⟩⟩ | ⟨g, o⟩ <;> simp only [SubH] <;> first | exact h | exact ⟨rfl, h⟩ | exact ⟨trivial, h⟩
end Go.Sas
namespace Go.Sas
open Go.Proofs
set_option maxRecDepth 100000
theorem p26 (a b c d u v : Int) (cs : List (Int × Int)) (os : List Ord) (ws : List AV) (rows : List (List Int)) (hD2 : cs.length ≤ 200) (hn : os.length ≤ 6) (ho : OrdsV os) (hr : RowsV os.length cs.length rows) (H : AHeap) {Kk : AV → AHeap → Prop}
    (h : Kk (.tup [.vs 4 ((tellS os rows).map dlV), I (penS os rows)]) H) :
    ACalls Tryd.prog 26 [seaV a b c d (.vs 2 (cs.map sp)) (.vs 4 (os.map orV)) u v (.vs 1 ws), .vs 1 (rows.map fun r => .vs 1 (r.map I))] H Kk := by
  refine (fun q => pureF (by rfl) (by rfl) q H h) ?_
  clear h
  intro Kk h
  obtain ⟨xs, hxs⟩ : ∃ xs, xs = cs.map sp := ⟨_, rfl⟩
  obtain ⟨ys, hys⟩ : ∃ ys, ys = os.map orV := ⟨_, rfl⟩
  obtain ⟨zs, hzs⟩ : ∃ zs : List AV, zs = rows.map fun r => .vs 1 (r.map I) := ⟨_, rfl⟩
  rw [← hxs, ← hys, ← hzs]
  obtain ⟨N, hN⟩ : ∃ N, N = os.length := ⟨_, rfl⟩
  obtain ⟨D, hDD⟩ : ∃ D, D = cs.length := ⟨_, rfl⟩
  rw [← hDD] at hD2 hr
  rw [← hN] at hn hr
  obtain ⟨hr1, hr2⟩ := hr
  have hzl : (os.zip rows).length = N := by rw [List.length_zip, hr1, ← hN, Nat.min_self]
  obtain ⟨A, hA⟩ : ∃ A, A = std := ⟨_, rfl⟩
  obtain ⟨F, hF⟩ : ∃ F, F = Frees 0 Kk := ⟨_, rfl⟩
  rw [← hF]
  have hv1 : A.vlen xs = iLen D := by subst hA; simp [std, hxs, hDD]
  have hv2 : A.vlen ys = iLen N := by subst hA; simp [std, hys, hN]
  have hsg : ∀ g, A.sg g g := by subst hA; exact fun _ => rfl
  refine go26 rfl (SGo_run hA ⟨[1], [], [], []⟩ .nil .nil 200 fun T TD hT hTD => ?_)
  cbv
  rw [hT]
  refine AGo_nilms 4 4 rfl ?_
  refine AGo_upE [1, 2, 15, 16] N (fun j (s : List Dlv × Int) => s.1 = ((os.zip rows).take j).map (fun p => tellO p.1 p.2) ∧ s.2 = sumI (((os.zip rows).take j).map fun p => fineO p.1 (tellO p.1 p.2)) ∧ -400000000000000 * iLen j ≤ s.2 ∧ s.2 ≤ 400000000000000 * iLen j)
    (fun j s i => [(4, .ms 4 1 j 0 j), (5, I s.2), (17, I i)])
    (fun j s => [.own 0 [I a, I b, I c, I d, .vs 2 xs, .vs 4 ys, I u, I v, .vs 1 ws], .own j (s.1.flatMap dlC)]) ([], 0) ⟨rfl, rfl, by simp [iLen], by simp [iLen]⟩ ⟨rfl, rfl, rfl, trivial⟩ (.inl rfl) fun j s i hi hj hP Bk hB => ?_
  have hlt : A.lt i (A.vlen ys) = decide (j < N) := by subst hA; exact lt_len (by simp [hys, hN]) hi
  have hadd : ∀ N, j < N → N ≤ 9223372036854775807 → A.add .i64 i 1 = iLen (j + 1) := fun N hj hN => by subst hA; exact add_one hi hj hN
  obtain ⟨dl, pen⟩ := s
  obtain ⟨hP1, hP2, hP3, hP4⟩ := hP
  dsimp only at hP1 hP2 hP3 hP4 ⊢
  have hdl : dl.length = j := by rw [hP1]; simp [hzl]; omega
  obtain ⟨dc, hdc⟩ : ∃ c, c = dl.flatMap dlC := ⟨_, rfl⟩
  rw [← hdc]
  refine SGo_run hA ⟨[1], [], (42, eTotal) :: [], []⟩ (.cons (eTotal_ok p42) .nil) .nil 200 fun T TD hT hTD => ?_
  cbv
  split <;> cbv
  · rename_i hk0
    have hk1 : j < N := by have hz := hlt.symm.trans hk0; simpa using hz
    clear hk0
    obtain ⟨⟨ou, od, ol, ol2⟩, hx⟩ : ∃ x, os[j]? = some x := ⟨_, List.getElem?_eq_getElem (hN ▸ hk1)⟩
    obtain ⟨row, hy⟩ : ∃ x, rows[j]? = some x := ⟨_, List.getElem?_eq_getElem (by omega)⟩
    have hix : A.ix 4 4 ys i [I ou, I od, I ol, I ol2] := by subst hA; exact ix_map hys hi hx rfl
    have hiy : A.ix 1 1 zs i [.vs 1 (row.map I)] := by subst hA; exact ix_map hzs hi hy rfl
    obtain ⟨hb1, hb2, hb3, hb4⟩ := ho _ (List.mem_of_getElem? hx)
    obtain ⟨hrl, hrb⟩ := hr2 _ (List.mem_of_getElem? hy)
    dsimp only at hb1 hb2 hb3 hb4
    obtain ⟨rs, hrs⟩ : ∃ r, r = row.map I := ⟨_, rfl⟩
    rw [← hrs] at hiy
    obtain ⟨rt, hrt⟩ : ∃ r, r = (row.take (od.toNat + 1)).map I := ⟨_, rfl⟩
    have hsl : A.slv 1 1 rs none (some (A.min (A.add .i64 od 1) (A.vlen xs))) rt := by
      rw [hv1]; subst hA
      refine ⟨rfl, 0, (min (od + 1) (D : Int)).toNat, rfl, ?_, Nat.zero_le _, by rw [hrs]; simp [hrl]; omega, ?_⟩
      · simp only [std, bdI, iMin_eq]; rw [iAdd_id (by omega) (by omega)]; unfold iLen; rw [if_pos (by omega)]
      · rw [hrt, hrs]; simp only [List.drop_zero, Nat.sub_zero, ← List.map_take]
        congr 1
        by_cases h1 : od + 1 ≤ D
        · rw [show (min (od + 1) (D : Int)).toNat = od.toNat + 1 by omega]
        · rw [List.take_of_length_le (by omega), List.take_of_length_le (by omega)]
    have hbt : ∀ x ∈ row.take (od.toNat + 1), 0 ≤ x ∧ x ≤ 1000000000 := fun x hx => by have := hrb x (List.mem_of_mem_take hx); omega
    have hba : ∀ x ∈ row, 0 ≤ x ∧ x ≤ 1000000000 := fun x hx => by have := hrb x hx; omega
    have hs1 := sumI_bnd (lo := 0) (hi := 1000000) (l := row) hrb
    have hs2 := sumI_bnd (lo := 0) (hi := 1000000) (l := row.take (od.toNat + 1)) fun x hx => hrb x (List.mem_of_mem_take hx)
    have hs3 := sumI_bnd (lo := 0) (hi := 1000000) (l := row.drop (od.toNat + 1)) fun x hx => hrb x (List.mem_of_mem_drop hx)
    have hs4 : sumI row = sumI (row.take (od.toNat + 1)) + sumI (row.drop (od.toNat + 1)) := by rw [← sumI_append, List.take_append_drop]
    have hlt1 : (row.take (od.toNat + 1)).length ≤ 1000 := by simp; omega
    have hlt2 : row.length ≤ 1000 := by omega
    have hson : 0 ≤ sumI (row.take (od.toNat + 1)) ∧ sumI (row.take (od.toNat + 1)) ≤ sumI row ∧ sumI row ≤ 200000000 := by omega
    clear hs1 hs2 hs3 hs4
    refine Exists.intro _ (And.intro hix ?_); cbv
    refine Exists.intro _ (And.intro hiy ?_); cbv
    refine Exists.intro rt (And.intro hsl ?_); cbv
    refine Exists.intro _ (And.intro hrt (And.intro hlt1 (And.intro hbt ?_))); cbv
    intro q1 hq1; cbv
    refine Exists.intro _ (And.intro hiy ?_); cbv
    refine Exists.intro _ (And.intro hrs (And.intro hlt2 (And.intro hba ?_))); cbv
    intro q2 hq2; cbv
    have hq12 : 0 ≤ q1 ∧ q1 ≤ q2 ∧ q2 ≤ 200000000 := by rw [hq1, hq2]; exact hson
    have hl1 : A.sub .i64 q2 q1 = q2 - q1 := by subst hA; exact iSub_id (by omega) (by omega)
    have hl2 : A.sub .i64 ou q2 = ou - q2 := by subst hA; exact iSub_id (by omega) (by omega)
    have hm1 := mul_bnd (a := q2 - q1) (b := ol) (A := 200000000) (B := 1000000) (by omega) (by omega) hb3.1 hb3.2
    have hm2 := mul_bnd (a := ou - q2) (b := ol2) (A := 200000000) (B := 1000000) (by omega) (by omega) hb4.1 hb4.2
    have hpn : A.add .i64 pen (A.add .i64 (A.mul .i64 (A.sub .i64 q2 q1) ol) (A.mul .i64 (A.sub .i64 ou q2) ol2)) = pen + ((q2 - q1) * ol + (ou - q2) * ol2) := by
      rw [hl1, hl2]
      unfold iLen at hP3 hP4
      subst hA
      simp only [std]
      rw [iMul_id (by omega) (by omega), iMul_id (by omega) (by omega), iAdd_id (a := (q2 - q1) * ol) (by omega) (by omega), iAdd_id (by omega) (by omega)]
    have hfi : fineO ⟨ou, od, ol, ol2⟩ (tellO ⟨ou, od, ol, ol2⟩ row) = (q2 - q1) * ol + (ou - q2) * ol2 := by rw [hq1, hq2]; rfl
    have hzx : (os.zip rows)[j]? = some (⟨ou, od, ol, ol2⟩, row) := by rw [List.getElem?_zip_eq_some]; exact ⟨hx, hy⟩
    have htk : (os.zip rows).take (j + 1) = (os.zip rows).take j ++ [(⟨ou, od, ol, ol2⟩, row)] := by
      obtain ⟨h, he⟩ := List.getElem?_eq_some_iff.1 hzx
      rw [List.take_succ_eq_append_getElem h, he]
    have hend : ∀ (dy : Int) (dc2 : List AV) (e' : Env), dy = (if ou - q2 = 0 then lastP 0 row (-1) else -1) → dc2 = dc ++ [I q1, I (A.sub .i64 q2 q1), I (A.sub .i64 ou q2), I dy] →
        Fits e' [(4, .ms 4 1 (j + 1) 0 (j + 1)), (5, I (A.add .i64 pen (A.add .i64 (A.mul .i64 (A.sub .i64 q2 q1) ol) (A.mul .i64 (A.sub .i64 ou q2) ol2)))), (17, I (A.add .i64 i 1))] →
        Fits e' [(1, .vs 1 zs), (2, .mp 0 0 0), (15, .vs 4 ys), (16, I (A.vlen ys))] → ∀ H', (∃ T, H' = [.own 0 [I a, I b, I c, I d, .vs 2 xs, .vs 4 ys, I u, I v, .vs 1 ws], .own (j + 1) dc2] ++ T) → Bk e' H' := by
      intro dy dc2 e' hdy hdc2 hf1 hf2 H' hH
      rw [hpn, hadd _ hk1 (by omega)] at hf1
      have hd1 : dl ++ [⟨q1, q2 - q1, ou - q2, dy⟩] = ((os.zip rows).take (j + 1)).map fun p => tellO p.1 p.2 := by
        rw [htk, List.map_append, ← hP1]
        simp only [List.map_cons, List.map_nil, tellO, ← hq1, ← hq2, ← hdy]
      refine hB (dl ++ [⟨q1, q2 - q1, ou - q2, dy⟩], pen + ((q2 - q1) * ol + (ou - q2) * ol2)) e' H' hk1 ⟨hd1, ?_, ?_, ?_⟩ hf1 hf2 (.inr ⟨?_, Nat.zero_le _, ?_, ?_⟩)
      · rw [htk, List.map_append, sumI_append, ← hP2]; simp only [List.map_cons, List.map_nil, sumI]; rw [hfi]; omega
      · unfold iLen at hP3 ⊢; dsimp only; omega
      · unfold iLen at hP4 ⊢; dsimp only; omega
      · obtain ⟨T, rfl⟩ := hH
        exact ⟨T, by rw [hdc2, hdc, hl1, hl2]; simp [List.flatMap_append]⟩
      · simp [ltG, keepS, look, gset, AV.lt, AV.ltL]
      · exact ⟨by simp [AObj.lt, AV.ltL, AV.lt], AV.ltL_nid (nidL_flat (fun _ => rfl) _), trivial⟩
    split <;> cbv
    · rename_i hz
      have hz0 : ou - q2 = 0 := by have hz : A.eq (A.sub .i64 ou q2) 0 = true := hz; rw [hl2] at hz; subst hA; simpa [std, iEq] using hz
      refine Exists.intro _ (And.intro hiy ?_); cbv
      rw [hT]
      refine AGo_upE [1, 2, 4, 5, 7, 8, 9, 10, 15, 16, 17, 56, 57] row.length (fun y (dy : Int) => lastP (iLen y) (row.drop y) dy = lastP 0 row (-1)) (fun y dy i => [(58, I i)])
        (fun y dy => [.own 0 [I a, I b, I c, I d, .vs 2 xs, .vs 4 ys, I u, I v, .vs 1 ws], .own j dc, .own 0 [I ou, I od, I ol, I ol2], .own 0 [I q1, I (A.sub .i64 q2 q1), I (A.sub .i64 ou q2), I dy]]) (-1) rfl ⟨rfl, trivial⟩ (.inl rfl) fun y dy i2 hi2 hy hPt Bk2 hB2 => ?_
      have hlt2 : A.lt i2 (A.vlen rs) = decide (y < row.length) := by subst hA; exact lt_len (by simp [hrs]) hi2
      have hadd2 : ∀ N, y < N → N ≤ 9223372036854775807 → A.add .i64 i2 1 = iLen (y + 1) := fun N hj hN => by subst hA; exact add_one hi2 hj hN
      refine SGo_run hA ⟨[1], [], [], []⟩ .nil .nil 200 fun T TD hT hTD => ?_
      cbv
      split <;> cbv
      · rename_i hk0
        have hk2 : y < row.length := by have hz := hlt2.symm.trans hk0; simpa using hz
        clear hk0
        obtain ⟨x, hx2⟩ : ∃ x, row[y]? = some x := ⟨_, List.getElem?_eq_getElem hk2⟩
        have hix2 : A.ix 1 1 rs i2 [I x] := by subst hA; exact ix_map hrs hi2 hx2 rfl
        have hgt : A.lt 0 x = decide (0 < x) := by subst hA; rfl
        rw [drop_cons hx2] at hPt
        simp only [lastP] at hPt
        have hi3 : iLen y + 1 = iLen (y + 1) := rfl
        refine Exists.intro _ (And.intro hix2 ?_); cbv
        split <;> cbv
        · rename_i hg
          have hg1 : 0 < x := by have hg := hgt.symm.trans hg; simpa using hg
          rw [if_pos hg1] at hPt
          refine hB2 (iLen y) _ _ hk2 hPt ⟨congrArg I (hadd2 _ hk2 (by omega)), trivial⟩ ⟨rfl, rfl, rfl, rfl, rfl, rfl, rfl, rfl, rfl, rfl, rfl, rfl, rfl, trivial⟩ (.inl (by rw [hi2]))
        · rename_i hg
          have hg1 : ¬ 0 < x := by have hg := hgt.symm.trans hg; simpa using hg
          rw [if_neg hg1] at hPt
          refine hB2 dy _ _ hk2 hPt ⟨congrArg I (hadd2 _ hk2 (by omega)), trivial⟩ ⟨rfl, rfl, rfl, rfl, rfl, rfl, rfl, rfl, rfl, rfl, rfl, rfl, rfl, trivial⟩ (.inl rfl)
      · rename_i hk0
        have hk2 : ¬ y < row.length := by have hz := hlt2.symm.trans hk0; simpa using hz
        clear hk0
        rw [List.drop_eq_nil_of_le (by omega)] at hPt
        simp only [lastP] at hPt
        refine And.intro (hsg _) (Exists.intro (dc ++ [I q1, I (A.sub .i64 q2 q1), I (A.sub .i64 ou q2), I dy]) (Exists.intro (j + 1) (And.intro ?_ (And.intro rfl ?_))))
        · subst hA; exact app_one (by rw [hdc, len_flat (k := 4) (fun _ => rfl), hdl]) rfl (by omega)
        generalize hdc2 : dc ++ _ = dc2
        cbv
        refine hend dy dc2 _ ?_ hdc2.symm ⟨rfl, rfl, rfl, trivial⟩ ⟨rfl, rfl, rfl, rfl, trivial⟩ _ ⟨_, rfl⟩
        rw [if_pos hz0]; exact hPt
    · rename_i hz
      have hz0 : ¬ ou - q2 = 0 := by have hz : A.eq (A.sub .i64 ou q2) 0 = false := hz; rw [hl2] at hz; subst hA; simpa [std, iEq] using hz
      refine And.intro (hsg _) (Exists.intro (dc ++ [I q1, I (A.sub .i64 q2 q1), I (A.sub .i64 ou q2), I (-1)]) (Exists.intro (j + 1) (And.intro ?_ (And.intro rfl ?_))))
      · subst hA; exact app_one (by rw [hdc, len_flat (k := 4) (fun _ => rfl), hdl]) rfl (by omega)
      generalize hdc2 : dc ++ _ = dc2
      cbv
      refine hend (-1) dc2 _ ?_ hdc2.symm ⟨rfl, rfl, rfl, trivial⟩ ⟨rfl, rfl, rfl, rfl, trivial⟩ _ ⟨_, rfl⟩
      rw [if_neg hz0]
  · rename_i hk0
    have hk1 : ¬ j < N := by have hz := hlt.symm.trans hk0; simpa using hz
    clear hk0
    rw [hF]
    have hzt : (os.zip rows).take j = os.zip rows := List.take_of_length_le (by omega)
    rw [hzt] at hP1 hP2
    refine Frees.frz 1 j 4 (dl.map dlV) rfl (by rw [hdc]; exact Elems_map (f := dlV) (g := dlC) (sz := 4) (fun _ => rfl) (fun _ => rfl) (fun _ => rfl) dl) (Frees.drop0 ?_ ?_)
    · have : AV.frz 1 j 4 (dl.map dlV) (.ms 4 1 j 0 j) = .vs 4 (dl.map dlV) := frz_self (by simp [hdl])
      simp only [aTup, AV.frz, AV.frzL] at this ⊢
      rw [this, hP1, hP2]; exact h
    · simp only [aTup, AV.frz, AV.frzL, AV.nid, AV.nidL, if_true]
      split <;> rfl
def eTellF : List AV → Option ((AV → Prop) → Prop)
  | [.agg [.lit (.int .i64 _), .lit (.int .i64 _), .lit (.int .i64 _), .lit (.int .i64 _), .vs 2 xs, .vs 4 ys, .lit (.int .i64 _), .lit (.int .i64 _), .vs 1 _], .vs 1 zs] =>
    some fun K => ∃ (cs : List (Int × Int)) (os : List Ord) (rows : List (List Int)), xs = cs.map sp ∧ ys = os.map orV ∧ (zs = rows.map fun r => .vs 1 (r.map I)) ∧ cs.length ≤ 200 ∧ os.length ≤ 6 ∧ OrdsV os ∧ RowsV os.length cs.length rows ∧
      ∀ ds q, ds = (tellS os rows).map dlV → q = penS os rows → K (.tup [.vs 4 ds, I q])
  | _ => none
theorem eTellF_ok : ∀ args pt, eTellF args = some pt → ∀ (H : AHeap) (Kk : AV → AHeap → Prop), pt (fun r => Kk r H) → ACalls Tryd.prog 26 args H Kk := by
  intro args pt h H Kk hk
  unfold eTellF at h
  split at h
  · cases h
    obtain ⟨cs, os, rows, rfl, rfl, rfl, h1, h2, h3, h4, h5⟩ := hk
    exact p26 _ _ _ _ _ _ _ _ _ _ h1 h2 h3 h4 H (h5 _ _ rfl rfl)
  · cases h
end Go.Sas
namespace Go.Sas
open Go.Proofs
set_option maxRecDepth 100000
theorem p30 (a b c d : Int) (cs : List (Int × Int)) (ys : List AV) (hc : cs.length ≤ 1000000) (H : AHeap) {Kk : AV → AHeap → Prop} (h : Kk (seaV a b c d (.vs 2 (cs.map sp)) (.vs 4 ys) b c (.vs 1 (cs.map fun x => I (x.1)))) H) :
    ACalls Tryd.prog 30 [frV a b c d (.vs 2 (cs.map sp)) (.vs 4 ys)] H Kk := by
  refine (fun q => pureF (by rfl) (by rfl) q H h) ?_
  clear h
  intro Kk h
  obtain ⟨xs, hxs⟩ : ∃ xs, xs = cs.map sp := ⟨_, rfl⟩
  rw [← hxs]
  obtain ⟨D, hDD⟩ : ∃ D, D = cs.length := ⟨_, rfl⟩
  rw [← hDD] at hc
  obtain ⟨A, hA⟩ : ∃ A, A = std := ⟨_, rfl⟩
  obtain ⟨F, hF⟩ : ∃ F, F = Frees 0 Kk := ⟨_, rfl⟩
  rw [← hF]
  have hv1 : A.vlen xs = iLen D := by subst hA; simp [std, hxs, hDD]
  have hsg : ∀ g, A.sg g g := by subst hA; exact fun _ => rfl
  refine go30 rfl (SGo_run hA ⟨[], [], [], []⟩ .nil .nil 200 fun T TD hT hTD => ?_)
  cbv
  rw [hT]
  refine AGo_nilcell 2 2 1 rfl rfl ?_
  refine AGo_upE [1, 2, 3, 14, 15] D (fun j (_ : Unit) => True) (fun j _ i => [(16, I i)])
    (fun j _ => [.own 0 [I a, I b, I c, I d, .vs 2 xs, .vs 4 ys], .own 0 [I 0, I 0, I 0, I 0, .lit (.slice none 0 0), .lit (.slice none 0 0), I 0, I 0, .lit (.slice none 0 0)], .own 0 [I b, I c, .ms 1 3 j 0 j], .own j ((cs.take j).map fun x => I (x.1))]) () trivial ⟨rfl, trivial⟩ (.inl rfl) fun j _ i hi hj hP Bk hB => ?_
  have hlt : A.lt i (A.vlen xs) = decide (j < D) := by subst hA; exact lt_len (by simp [hxs, hDD]) hi
  have hadd : ∀ N, j < N → N ≤ 9223372036854775807 → A.add .i64 i 1 = iLen (j + 1) := fun N hj hN => by subst hA; exact add_one hi hj hN
  obtain ⟨cc, hcc⟩ : ∃ r, r = (cs.take j).map fun x => I (x.1) := ⟨_, rfl⟩
  have hcl : LenIs cc j := by unfold LenIs; rw [hcc]; simp; omega
  rw [← hcc]
  refine SGo_run hA ⟨[3], [], [], []⟩ .nil .nil 200 fun T TD hT hTD => ?_
  cbv
  split <;> cbv
  · rename_i hk0
    have hk1 : j < D := by have hz := hlt.symm.trans hk0; simpa using hz
    clear hk0
    obtain ⟨⟨x, y⟩, hx⟩ : ∃ x, cs[j]? = some x := ⟨_, List.getElem?_eq_getElem (hDD ▸ hk1)⟩
    have hix : A.ix 2 2 xs i [I x, I y] := by subst hA; exact ix_map hxs hi hx rfl
    refine Exists.intro _ (And.intro hix ?_); cbv
    refine And.intro (hsg _) (Exists.intro (cc ++ [I x]) (Exists.intro (j + 1) (And.intro ?_ (And.intro rfl ?_))))
    · subst hA; exact app_one (by unfold LenIs at hcl; omega) rfl (by omega)
    generalize hc2 : cc ++ _ = cc2
    cbv
    have htk : (cs.take (j + 1)).map (fun x => I (x.1)) = cc2 := by
      obtain ⟨h9, he⟩ := List.getElem?_eq_some_iff.1 hx
      rw [← hc2, hcc, List.take_succ_eq_append_getElem h9, he]; simp
    refine hB () _ _ hk1 trivial ⟨congrArg I (hadd _ hk1 (by omega)), trivial⟩ ⟨rfl, rfl, rfl, rfl, rfl, trivial⟩ (.inr ⟨⟨[.own 0 [I x, I y]], by rw [htk]; rfl⟩, Nat.zero_le _, by simp [ltG, keepS, look, gset, AV.lt, AV.ltL], ⟨by simp [AObj.lt, AV.ltL, AV.lt], by simp [AObj.lt, AV.ltL, AV.lt], by simp [AObj.lt, AV.ltL, AV.lt], AV.ltL_nid (nidL_map (fun _ => rfl) _), trivial⟩⟩)
  · rename_i hk0
    have hk1 : ¬ j < D := by have hz := hlt.symm.trans hk0; simpa using hz
    clear hk0
    rw [hF]
    have hts : cs.take j = cs := List.take_of_length_le (by omega)
    rw [hts] at hcc
    refine Frees.frz 3 j 1 (cs.map fun x => I (x.1)) rfl (by rw [hcc, ← show ((cs.map fun x => (x.1)).map I) = (cs.map fun x => I (x.1)) from by rw [List.map_map]; rfl]; exact Elems_I _) (Frees.drop0 ?_ ?_)
    · have : AV.frz 3 j 1 (cs.map fun x => I (x.1)) (.ms 1 3 j 0 j) = .vs 1 (cs.map fun x => I (x.1)) := frz_self (by simp; omega)
      simp only [aTup, AV.frz, AV.frzL] at this ⊢
      first | rw [this, hxs] | rw [this]
      exact h
    · simp only [aTup, AV.frz, AV.frzL, AV.nid, AV.nidL, if_true]
      split <;> rfl
theorem p28 (a b c d : Int) (cs : List (Int × Int)) (ys : List AV) (hc : cs.length ≤ 1000000) (H : AHeap) {Kk : AV → AHeap → Prop} (h : Kk (seaV a b c d (.vs 2 (cs.map sp)) (.vs 4 ys) a d (.vs 1 (cs.map fun x => I (x.2)))) H) :
    ACalls Tryd.prog 28 [frV a b c d (.vs 2 (cs.map sp)) (.vs 4 ys)] H Kk := by
  refine (fun q => pureF (by rfl) (by rfl) q H h) ?_
  clear h
  intro Kk h
  obtain ⟨xs, hxs⟩ : ∃ xs, xs = cs.map sp := ⟨_, rfl⟩
  rw [← hxs]
  obtain ⟨D, hDD⟩ : ∃ D, D = cs.length := ⟨_, rfl⟩
  rw [← hDD] at hc
  obtain ⟨A, hA⟩ : ∃ A, A = std := ⟨_, rfl⟩
  obtain ⟨F, hF⟩ : ∃ F, F = Frees 0 Kk := ⟨_, rfl⟩
  rw [← hF]
  have hv1 : A.vlen xs = iLen D := by subst hA; simp [std, hxs, hDD]
  have hsg : ∀ g, A.sg g g := by subst hA; exact fun _ => rfl
  refine go28 rfl (SGo_run hA ⟨[], [], [], []⟩ .nil .nil 200 fun T TD hT hTD => ?_)
  cbv
  rw [hT]
  refine AGo_nilcell 2 2 1 rfl rfl ?_
  refine AGo_upE [1, 2, 3, 14, 15] D (fun j (_ : Unit) => True) (fun j _ i => [(16, I i)])
    (fun j _ => [.own 0 [I a, I b, I c, I d, .vs 2 xs, .vs 4 ys], .own 0 [I 0, I 0, I 0, I 0, .lit (.slice none 0 0), .lit (.slice none 0 0), I 0, I 0, .lit (.slice none 0 0)], .own 0 [I a, I d, .ms 1 3 j 0 j], .own j ((cs.take j).map fun x => I (x.2))]) () trivial ⟨rfl, trivial⟩ (.inl rfl) fun j _ i hi hj hP Bk hB => ?_
  have hlt : A.lt i (A.vlen xs) = decide (j < D) := by subst hA; exact lt_len (by simp [hxs, hDD]) hi
  have hadd : ∀ N, j < N → N ≤ 9223372036854775807 → A.add .i64 i 1 = iLen (j + 1) := fun N hj hN => by subst hA; exact add_one hi hj hN
  obtain ⟨cc, hcc⟩ : ∃ r, r = (cs.take j).map fun x => I (x.2) := ⟨_, rfl⟩
  have hcl : LenIs cc j := by unfold LenIs; rw [hcc]; simp; omega
  rw [← hcc]
  refine SGo_run hA ⟨[3], [], [], []⟩ .nil .nil 200 fun T TD hT hTD => ?_
  cbv
  split <;> cbv
  · rename_i hk0
    have hk1 : j < D := by have hz := hlt.symm.trans hk0; simpa using hz
    clear hk0
    obtain ⟨⟨x, y⟩, hx⟩ : ∃ x, cs[j]? = some x := ⟨_, List.getElem?_eq_getElem (hDD ▸ hk1)⟩
    have hix : A.ix 2 2 xs i [I x, I y] := by subst hA; exact ix_map hxs hi hx rfl
    refine Exists.intro _ (And.intro hix ?_); cbv
    refine And.intro (hsg _) (Exists.intro (cc ++ [I y]) (Exists.intro (j + 1) (And.intro ?_ (And.intro rfl ?_))))
    · subst hA; exact app_one (by unfold LenIs at hcl; omega) rfl (by omega)
    generalize hc2 : cc ++ _ = cc2
    cbv
    have htk : (cs.take (j + 1)).map (fun x => I (x.2)) = cc2 := by
      obtain ⟨h9, he⟩ := List.getElem?_eq_some_iff.1 hx
      rw [← hc2, hcc, List.take_succ_eq_append_getElem h9, he]; simp
    refine hB () _ _ hk1 trivial ⟨congrArg I (hadd _ hk1 (by omega)), trivial⟩ ⟨rfl, rfl, rfl, rfl, rfl, trivial⟩ (.inr ⟨⟨[.own 0 [I x, I y]], by rw [htk]; rfl⟩, Nat.zero_le _, by simp [ltG, keepS, look, gset, AV.lt, AV.ltL], ⟨by simp [AObj.lt, AV.ltL, AV.lt], by simp [AObj.lt, AV.ltL, AV.lt], by simp [AObj.lt, AV.ltL, AV.lt], AV.ltL_nid (nidL_map (fun _ => rfl) _), trivial⟩⟩)
  · rename_i hk0
    have hk1 : ¬ j < D := by have hz := hlt.symm.trans hk0; simpa using hz
    clear hk0
    rw [hF]
    have hts : cs.take j = cs := List.take_of_length_le (by omega)
    rw [hts] at hcc
    refine Frees.frz 3 j 1 (cs.map fun x => I (x.2)) rfl (by rw [hcc, ← show ((cs.map fun x => (x.2)).map I) = (cs.map fun x => I (x.2)) from by rw [List.map_map]; rfl]; exact Elems_I _) (Frees.drop0 ?_ ?_)
    · have : AV.frz 3 j 1 (cs.map fun x => I (x.2)) (.ms 1 3 j 0 j) = .vs 1 (cs.map fun x => I (x.2)) := frz_self (by simp; omega)
      simp only [aTup, AV.frz, AV.frzL] at this ⊢
      first | rw [this, hxs] | rw [this]
      exact h
    · simp only [aTup, AV.frz, AV.frzL, AV.nid, AV.nidL, if_true]
      split <;> rfl
end Go.Sas
namespace Go.Sas
open Go.Proofs
set_option maxRecDepth 100000
/-- what a plan costs in a winter -/
def costS (os : List Ord) (D : Nat) (w : Win) (plan : List Nat) : Int := penS os (rowsF os.length D (spreadG (roomW w) plan (unitS os) D))
theorem OrdsV.u {os : List Ord} (h : OrdsV os) : ∀ o ∈ os, 0 ≤ o.u ∧ o.u ≤ 1000000 := fun o ho => (h o ho).1
theorem p29 (a b c d u v : Int) (cs : List (Int × Int)) (os : List Ord) (ws : List Int) (plan : List Nat) (hD : ws.length = cs.length) (hD2 : cs.length ≤ 200) (hn : os.length ≤ 6) (hw : ∀ x ∈ ws, 0 ≤ x ∧ x ≤ 1000000) (ho : OrdsV os) (hp : ∀ k ∈ plan, k < os.length) (hpl : plan.length ≤ 1000) (H : AHeap) {Kk : AV → AHeap → Prop}
    (h : Kk (I (costS os cs.length ⟨u, v, ws⟩ plan)) H) :
    ACalls Tryd.prog 29 [seaV a b c d (.vs 2 (cs.map sp)) (.vs 4 (os.map orV)) u v (.vs 1 (ws.map I)), .vs 1 (plan.map fun k => I (iLen k))] H Kk := by
  refine (fun q => pureC (by rfl) (by rfl) q H h) ?_
  clear h
  intro Kk h
  obtain ⟨xs, hxs⟩ : ∃ xs, xs = cs.map sp := ⟨_, rfl⟩
  obtain ⟨ys, hys⟩ : ∃ ys, ys = os.map orV := ⟨_, rfl⟩
  obtain ⟨zs, hzs⟩ : ∃ zs, zs = ws.map I := ⟨_, rfl⟩
  obtain ⟨ps, hps⟩ : ∃ ps, ps = plan.map fun k => I (iLen k) := ⟨_, rfl⟩
  rw [← hxs, ← hys, ← hzs, ← hps]
  obtain ⟨W, hW⟩ : ∃ W, W = costS os cs.length ⟨u, v, ws⟩ plan := ⟨_, rfl⟩
  rw [← hW] at h
  obtain ⟨A, hA⟩ : ∃ A, A = std := ⟨_, rfl⟩
  refine go29 rfl (SGo_run hA ⟨[], [], (24, eSpreadF) :: (26, eTellF) :: [], []⟩ (.cons eSpreadF_ok (.cons eTellF_ok .nil)) .nil 200 fun T TD hT hTD => ?_)
  cbv
  refine Exists.intro cs (Exists.intro os (Exists.intro ws (Exists.intro plan (And.intro hxs (And.intro hys (And.intro hzs (And.intro hps (And.intro hD (And.intro hD2 (And.intro hn (And.intro hw (And.intro ho.u (And.intro hp (And.intro hpl ?_))))))))))))))
  intro zs2 hz2; cbv
  have hv := rowsF_v (n := os.length) (D := cs.length) (daysG_ok (roomW_bnd (w := ⟨u, v, ws⟩) hw) (unitS_bnd ho.u) (plan := plan) cs.length).2
  refine Exists.intro cs (Exists.intro os (Exists.intro _ (And.intro hxs (And.intro hys (And.intro hz2 (And.intro hD2 (And.intro hn (And.intro ho (And.intro hv ?_)))))))))
  intro ds q _ hq; cbv
  refine leaf h (congrArg I ?_) rfl
  rw [hq, hW]; rfl
def eCostF : List AV → Option ((AV → Prop) → Prop)
  | [.agg [.lit (.int .i64 _), .lit (.int .i64 _), .lit (.int .i64 _), .lit (.int .i64 _), .vs 2 xs, .vs 4 ys, .lit (.int .i64 u), .lit (.int .i64 v), .vs 1 zs], .vs 1 ps] =>
    some fun K => ∃ (cs : List (Int × Int)) (os : List Ord) (ws : List Int) (plan : List Nat), xs = cs.map sp ∧ ys = os.map orV ∧ zs = ws.map I ∧ (ps = plan.map fun k => I (iLen k)) ∧ ws.length = cs.length ∧ cs.length ≤ 200 ∧ os.length ≤ 6 ∧ (∀ x ∈ ws, 0 ≤ x ∧ x ≤ 1000000) ∧ OrdsV os ∧ (∀ k ∈ plan, k < os.length) ∧ plan.length ≤ 1000 ∧
      ∀ q, q = costS os cs.length ⟨u, v, ws⟩ plan → K (I q)
  | _ => none
theorem eCostF_ok : ∀ args pt, eCostF args = some pt → ∀ (H : AHeap) (Kk : AV → AHeap → Prop), pt (fun r => Kk r H) → ACalls Tryd.prog 29 args H Kk := by
  intro args pt h H Kk hk
  unfold eCostF at h
  split at h
  · cases h
    obtain ⟨cs, os, ws, plan, rfl, rfl, rfl, rfl, h1, h2, h3, h4, h5, h6, h7, h8⟩ := hk
    exact p29 _ _ _ _ _ _ _ _ _ _ h1 h2 h3 h4 h5 h6 h7 H (h8 _ rfl)
  · cases h
end Go.Sas
