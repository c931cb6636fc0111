/-
Freight: the reference's checks of plans, and what a way delivers: contracts.
Freight: the reference's ranges and promises: contracts.
Conditions: none.
-/
import Derived.Test.YthpjckoklnhbcaaHD
import Derived.Test.YthpjckoklnhbcaaHF
import Derived.Test.YthpjckoklnhbcaaHK
set_option linter.unusedVariables false
set_option linter.unusedSimpArgs false
namespace Go.Sas
open Go.Proofs
set_option maxRecDepth 100000
set_option maxHeartbeats 4000000 in
theorem p89 (a b c d : Int) (xs : List AV) (D : Nat) (os : List Ord) (rows : List (List Int)) (hD2 : D ≤ 200) (hn : os.length ≤ 6) (ho : OrdsV os) (hr : RowsV os.length D rows) (hle0 : ∀ (k : Nat) o r, os[k]? = some o → rows[k]? = some r → sumI r ≤ o.u) (H : AHeap) {Kk : AV → AHeap → Prop}
    (h : Kk (.tup [.vs 4 ((tellS os rows).map dlV), I (penS os rows)]) H) :
    ACalls Try.prog 89 [frV a b c d (.vs 2 xs) (.vs 4 (os.map orV)), .vs 1 (rows.map fun r => .vs 1 (r.map I))] H Kk := by
  refine (fun q => pureF (by rfl) (by rfl) q H h) ?_
  clear h
  intro Kk h
  obtain ⟨ys, hys⟩ : ∃ ys, ys = os.map orV := ⟨_, rfl⟩
  obtain ⟨zs, hzs⟩ : ∃ zs : List AV, zs = rows.map fun r => .vs 1 (r.map I) := ⟨_, rfl⟩
  rw [← hys, ← hzs]
  obtain ⟨N, hN⟩ : ∃ N, N = os.length := ⟨_, rfl⟩
  rw [← hN] at hn hr
  obtain ⟨hr1, hr2⟩ := hr
  have hzl : (os.zip rows).length = N := by rw [List.length_zip, hr1, ← hN, Nat.min_self]
  obtain ⟨A, hA⟩ : ∃ A, A = std := ⟨_, rfl⟩
  obtain ⟨F, hF⟩ : ∃ F, F = Frees 0 Kk := ⟨_, rfl⟩
  rw [← hF]
  have hsg : ∀ g, A.sg g g := by subst hA; exact fun _ => rfl
  have hll : ∀ x y, A.lt x y = decide (x < y) := by subst hA; intro x y; rfl
  have hle : ∀ x y, A.le x y = decide (x ≤ y) := by subst hA; intro x y; rfl
  refine go89 rfl (SGo_run hA ⟨[1], [], [], []⟩ .nil .nil 200 fun T TD hT hTD => ?_)
  cbv
  rw [hT]
  refine AGo_nilms 6 4 rfl ?_
  refine AGo_upE [1, 2] N (fun j (s : List Dlv × Int) => s.1 = ((os.zip rows).take j).map (fun p => tellO p.1 p.2) ∧ s.2 = sumI (((os.zip rows).take j).map fun p => fineO p.1 (tellO p.1 p.2)) ∧ -400000000000000 * iLen j ≤ s.2 ∧ s.2 ≤ 400000000000000 * iLen j)
    (fun j s i => [(6, .ms 4 1 j 0 j), (7, I s.2), (8, I i)])
    (fun j s => [.own 0 [I a, I b, I c, I d, .vs 2 xs, .vs 4 ys], .own j (s.1.flatMap dlC)]) ([], 0) ⟨rfl, rfl, by simp [iLen], by simp [iLen]⟩ ⟨rfl, rfl, rfl, trivial⟩ (.inl rfl) fun j s i hi hj hP Bk hB => ?_
  clear hT hTD T TD
  have hlt : A.lt i (A.vlen zs) = decide (j < N) := by subst hA; exact lt_len (by simp [hzs, hr1]) hi
  have hadd : ∀ N, j < N → N ≤ 9223372036854775807 → A.add .i64 i 1 = iLen (j + 1) := fun N hj hN => by subst hA; exact add_one hi hj hN
  obtain ⟨dl, pen⟩ := s
  obtain ⟨hP1, hP2, hP3, hP4⟩ := hP
  dsimp only at hP1 hP2 hP3 hP4 ⊢
  have hdl : dl.length = j := by rw [hP1]; simp [hzl]; omega
  obtain ⟨dc, hdc⟩ : ∃ c, c = dl.flatMap dlC := ⟨_, rfl⟩
  rw [← hdc]
  refine SGo_run hA ⟨[1], [], [], []⟩ .nil .nil 200 fun T TD hT hTD => ?_
  cbv
  split <;> cbv
  · rename_i hk0
    have hk1 : j < N := by have hz := hlt.symm.trans hk0; simpa using hz
    clear hk0
    obtain ⟨⟨ou, od, ol, ol2⟩, hx⟩ : ∃ x, os[j]? = some x := ⟨_, List.getElem?_eq_getElem (hN ▸ hk1)⟩
    obtain ⟨row, hy⟩ : ∃ x, rows[j]? = some x := ⟨_, List.getElem?_eq_getElem (by omega)⟩
    have hix : A.ix 4 4 ys i [I ou, I od, I ol, I ol2] := by subst hA; exact ix_map hys hi hx rfl
    have hiy : A.ix 1 1 zs i [.vs 1 (row.map I)] := by subst hA; exact ix_map hzs hi hy rfl
    obtain ⟨hb1, hb2, hb3, hb4⟩ := ho _ (List.mem_of_getElem? hx)
    obtain ⟨hrl, hrb⟩ := hr2 _ (List.mem_of_getElem? hy)
    have hru := hle0 j _ _ hx hy
    dsimp only at hb1 hb2 hb3 hb4 hru
    obtain ⟨rs, hrs⟩ : ∃ r, r = row.map I := ⟨_, rfl⟩
    rw [← hrs] at hiy
    have hib : ∀ y, 0 ≤ sumI (row.take y) ∧ sumI (row.take y) ≤ 200000000 := fun y => by
      have := sumI_bnd (lo := 0) (hi := 1000000) (l := row.take y) fun x hx => hrb x (List.mem_of_mem_take hx)
      have h9 : (row.take y).length ≤ 200 := by simp; omega
      omega
    refine Exists.intro _ (And.intro hix ?_); cbv
    rw [hT]
    obtain ⟨q, hq⟩ : ∃ q, q = od.toNat + 1 := ⟨_, rfl⟩
    refine AGo_upE [1, 2, 6, 7, 8, 9, 10] row.length (fun y (dy : Int) => lastP (iLen y) (row.drop y) dy = lastP 0 row (-1)) (fun y dy i => [(11, I i)])
      (fun y dy => [.own 0 [I a, I b, I c, I d, .vs 2 xs, .vs 4 ys], .own j dc, .own 0 [I ou, I od, I ol, I ol2], .own 0 [I (sumI (row.take (min y q))), I (sumI (row.take y) - sumI (row.take (min y q))), I (ou - sumI (row.take y)), I dy]]) (-1) rfl ⟨rfl, trivial⟩ (.inl (by simp [sumI])) fun y dy i2 hi2 hy2 hPt Bk2 hB2 => ?_
    clear hT hTD T TD
    have hlt2 : A.lt i2 (A.vlen rs) = decide (y < row.length) := by subst hA; exact lt_len (by simp [hrs]) hi2
    have hadd2 : ∀ N, y < N → N ≤ 9223372036854775807 → A.add .i64 i2 1 = iLen (y + 1) := fun N hj hN => by subst hA; exact add_one hi2 hj hN
    have hb5 := hib y
    have hb6 := hib (min y q)
    obtain ⟨so, hso⟩ : ∃ r, r = sumI (row.take (min y q)) := ⟨_, rfl⟩
    obtain ⟨st, hst⟩ : ∃ r, r = sumI (row.take y) := ⟨_, rfl⟩
    rw [← hso] at hb6 ⊢
    rw [← hst] at hb5 ⊢
    obtain ⟨sl, hsl⟩ : ∃ r, r = st - so := ⟨_, rfl⟩
    obtain ⟨sx, hsx⟩ : ∃ r, r = ou - st := ⟨_, rfl⟩
    rw [← hsl, ← hsx]
    have hc0 := hll 0 sx
    refine SGo_run hA ⟨[1], [1001], [], []⟩ .nil .nil 200 fun T TD hT hTD => ?_
    cbv
    refine Exists.intro _ (And.intro hiy ?_); cbv
    split <;> cbv
    · rename_i hk0
      have hk2 : y < row.length := by have hz := hlt2.symm.trans hk0; simpa using hz
      clear hk0
      obtain ⟨x, hx2⟩ : ∃ x, row[y]? = some x := ⟨_, List.getElem?_eq_getElem hk2⟩
      have hix2 : A.ix 1 1 rs i2 [I x] := by subst hA; exact ix_map hrs hi2 hx2 rfl
      have hxb := hrb x (List.mem_of_getElem? hx2)
      have hgt := hll 0 x
      have hdu := hle i2 od
      rw [drop_cons hx2] at hPt
      simp only [lastP] at hPt
      have hi3 : iLen y + 1 = iLen (y + 1) := rfl
      have hst2 : sumI (row.take (y + 1)) = st + x := by rw [take_succ_mem hx2, sumI_append, ← hst]; simp [sumI]
      have hs1 : A.sub .i64 sx x = ou - sumI (row.take (y + 1)) := by rw [hst2]; subst hA; show iSub .i64 sx x = _; rw [iSub_id (by omega) (by omega)]; omega
      have hso2 : so = sumI (row.take (min y q)) := hso
      have hend : ∀ (dz : Int) (v1 v2 v3 : Int) e', lastP (iLen (y + 1)) (row.drop (y + 1)) dz = lastP 0 row (-1) → v1 = sumI (row.take (min (y + 1) q)) → v2 = sumI (row.take (y + 1)) - sumI (row.take (min (y + 1) q)) → v3 = ou - sumI (row.take (y + 1)) →
          Fits e' [(11, I (A.add .i64 i2 1))] → Fits e' [(1, .vs 1 zs), (2, .mp 0 0 0), (6, .ms 4 1 j 0 j), (7, I pen), (8, I i), (9, .mp 2 0 0), (10, .mp 3 0 0)] →
          Bk2 e' [.own 0 [I a, I b, I c, I d, .vs 2 xs, .vs 4 ys], .own j dc, .own 0 [I ou, I od, I ol, I ol2], .own 0 [I v1, I v2, I v3, I dz]] := fun dz v1 v2 v3 e' g1 g2 g3 g4 g5 g6 => by
        rw [hadd2 _ hk2 (by omega)] at g5
        exact hB2 dz e' _ hk2 g1 g5 g6 (.inl (by rw [g2, g3, g4]))
      clear hB2
      refine Exists.intro _ (And.intro hiy ?_); cbv
      refine Exists.intro _ (And.intro hix2 ?_); cbv
      split <;> cbv
      · rename_i hg
        have hg1 : 0 < x := by have hg := hgt.symm.trans hg; simpa using hg
        rw [if_pos hg1] at hPt
        split <;> cbv
        · rename_i hd
          have hd := hdu.symm.trans hd
          have hd : y ≤ od.toNat := by rw [decide_eq_true_eq, hi2] at hd; unfold iLen at hd; omega
          exact hend i2 _ _ _ _ (by rw [hi2]; exact hPt) (by rw [show min (y + 1) q = y + 1 by omega, hst2]; rw [show min y q = y by omega, ← hst] at hso2; subst hA; show iAdd .i64 so x = _; rw [iAdd_id (by omega) (by omega)]; omega)
            (by rw [show min (y + 1) q = y + 1 by omega]; rw [show min y q = y by omega, ← hst] at hso2; omega) hs1 ⟨rfl, trivial⟩ ⟨rfl, rfl, rfl, rfl, rfl, rfl, rfl, trivial⟩
        · rename_i hd
          have hd := hdu.symm.trans hd
          have hd : ¬ y ≤ od.toNat := by rw [decide_eq_false_iff_not, hi2] at hd; unfold iLen at hd; omega
          exact hend i2 _ _ _ _ (by rw [hi2]; exact hPt) (by rw [show min (y + 1) q = min y q by omega, ← hso]) (by rw [show min (y + 1) q = min y q by omega, ← hso, hst2]; subst hA; show iAdd .i64 sl x = _; rw [iAdd_id (by omega) (by omega)]; omega) hs1 ⟨rfl, trivial⟩ ⟨rfl, rfl, rfl, rfl, rfl, rfl, rfl, trivial⟩
      · rename_i hg
        have hg1 : ¬ 0 < x := by have hg := hgt.symm.trans hg; simpa using hg
        rw [if_neg hg1] at hPt
        split <;> cbv
        · rename_i hd
          have hd := hdu.symm.trans hd
          have hd : y ≤ od.toNat := by rw [decide_eq_true_eq, hi2] at hd; unfold iLen at hd; omega
          exact hend dy _ _ _ _ hPt (by rw [show min (y + 1) q = y + 1 by omega, hst2]; rw [show min y q = y by omega, ← hst] at hso2; subst hA; show iAdd .i64 so x = _; rw [iAdd_id (by omega) (by omega)]; omega)
            (by rw [show min (y + 1) q = y + 1 by omega]; rw [show min y q = y by omega, ← hst] at hso2; omega) hs1 ⟨rfl, trivial⟩ ⟨rfl, rfl, rfl, rfl, rfl, rfl, rfl, trivial⟩
        · rename_i hd
          have hd := hdu.symm.trans hd
          have hd : ¬ y ≤ od.toNat := by rw [decide_eq_false_iff_not, hi2] at hd; unfold iLen at hd; omega
          exact hend dy _ _ _ _ hPt (by rw [show min (y + 1) q = min y q by omega, ← hso]) (by rw [show min (y + 1) q = min y q by omega, ← hso, hst2]; subst hA; show iAdd .i64 sl x = _; rw [iAdd_id (by omega) (by omega)]; omega) hs1 ⟨rfl, trivial⟩ ⟨rfl, rfl, rfl, rfl, rfl, rfl, rfl, trivial⟩
    · rename_i hk0
      have hk2 : ¬ y < row.length := by have hz := hlt2.symm.trans hk0; simpa using hz
      clear hk0 hB2
      rw [List.drop_eq_nil_of_le (by omega)] at hPt
      simp only [lastP] at hPt
      have hst2 : st = sumI row := by rw [hst, List.take_of_length_le (by omega)]
      have hso2 : so = sumI (row.take q) := by
        rw [hso]
        rcases Nat.le_total y q with h1 | h1
        · rw [Nat.min_eq_left h1, List.take_of_length_le (by omega), List.take_of_length_le (by omega)]
        · rw [Nat.min_eq_right h1]
      have hm1 := mul_bnd (a := sl) (b := ol) (A := 200000000) (B := 1000000) (by omega) (by omega) hb3.1 hb3.2
      have hm2 := mul_bnd (a := sx) (b := ol2) (A := 200000000) (B := 1000000) (by omega) (by omega) hb4.1 hb4.2
      have hpn : A.add .i64 (A.add .i64 pen (A.mul .i64 sl ol)) (A.mul .i64 sx ol2) = pen + (sl * ol + sx * ol2) := by
        unfold iLen at hP3 hP4
        subst hA
        simp only [std]
        rw [iMul_id (by omega) (by omega), iMul_id (by omega) (by omega), iAdd_id (a := pen) (by omega) (by omega), iAdd_id (by omega) (by omega)]
        omega
      have hfi : fineO ⟨ou, od, ol, ol2⟩ (tellO ⟨ou, od, ol, ol2⟩ row) = sl * ol + sx * ol2 := by rw [hsl, hsx, hst2, hso2, hq]; rfl
      have hzx : (os.zip rows)[j]? = some (⟨ou, od, ol, ol2⟩, row) := by rw [List.getElem?_zip_eq_some]; exact ⟨hx, hy⟩
      have htk : (os.zip rows).take (j + 1) = (os.zip rows).take j ++ [(⟨ou, od, ol, ol2⟩, row)] := by
        obtain ⟨h, he⟩ := List.getElem?_eq_some_iff.1 hzx
        rw [List.take_succ_eq_append_getElem h, he]
      have hend : ∀ (dz : Int) (dc2 : List AV) (e' : Env), dz = (if ou - sumI row = 0 then lastP 0 row (-1) else -1) → dc2 = dc ++ [I so, I sl, I sx, I dz] →
          Fits e' [(6, .ms 4 1 (j + 1) 0 (j + 1)), (7, I (A.add .i64 (A.add .i64 pen (A.mul .i64 sl ol)) (A.mul .i64 sx ol2))), (8, I (A.add .i64 i 1))] →
          Fits e' [(1, .vs 1 zs), (2, .mp 0 0 0)] → ∀ H', (∃ T, H' = [.own 0 [I a, I b, I c, I d, .vs 2 xs, .vs 4 ys], .own (j + 1) dc2] ++ T) → Bk e' H' := by
        intro dz dc2 e' hdy hdc2 hf1 hf2 H' hH
        rw [hpn, hadd _ hk1 (by omega)] at hf1
        have hd1 : dl ++ [⟨so, sl, sx, dz⟩] = ((os.zip rows).take (j + 1)).map fun p => tellO p.1 p.2 := by
          rw [htk, List.map_append, ← hP1]
          simp only [List.map_cons, List.map_nil, tellO, ← hdy, ← hq, ← hso2, hsl, hsx, hst2]
        refine hB (dl ++ [⟨so, sl, sx, dz⟩], pen + (sl * ol + sx * ol2)) e' H' hk1 ⟨hd1, ?_, ?_, ?_⟩ hf1 hf2 (.inr ⟨?_, Nat.zero_le _, ?_, ?_⟩)
        · rw [htk, List.map_append, sumI_append, ← hP2]; simp only [List.map_cons, List.map_nil, sumI]; rw [hfi]; omega
        · unfold iLen at hP3 ⊢; dsimp only; omega
        · unfold iLen at hP4 ⊢; dsimp only; omega
        · obtain ⟨T, rfl⟩ := hH
          exact ⟨T, by rw [hdc2, hdc]; simp [List.flatMap_append]⟩
        · simp [ltG, keepS, look, gset, AV.lt, AV.ltL]
        · exact ⟨by simp [AObj.lt, AV.ltL, AV.lt], AV.ltL_nid (nidL_flat (fun _ => rfl) _), trivial⟩
      clear hB
      split <;> cbv
      · rename_i hz
        have hz : 0 < sx := by have hz := hc0.symm.trans hz; simpa using hz
        refine And.intro (hsg _) (Exists.intro (dc ++ [I so, I sl, I sx, I (-1)]) (Exists.intro (j + 1) (And.intro ?_ (And.intro rfl ?_))))
        · subst hA; exact app_one (by rw [hdc, len_flat (k := 4) (fun _ => rfl), hdl]) rfl (by omega)
        generalize hdc2 : dc ++ _ = dc2
        cbv
        refine And.intro (by subst hA; first | (simp [std, Keep, SubH, ResK]; done) | exact .inr ⟨⟨rfl, SubH.self _⟩, trivial, .inr fun _ => ⟨rfl, SubH.self _⟩⟩ | exact .inr ⟨SubH.self _, trivial, .inr fun _ => SubH.self _⟩ | exact .inr ⟨by simp [SubH], trivial, .inl rfl⟩ | exact .inr ⟨by simp [SubH], trivial, .inr fun _ => by simp [SubH]⟩) ?_
        cbv
        refine hend _ dc2 _ (by rw [if_neg (by omega)]) hdc2.symm ⟨rfl, rfl, rfl, trivial⟩ ⟨rfl, rfl, trivial⟩ _ ⟨_, rfl⟩
      · rename_i hz
        have hz : ¬ 0 < sx := by have hz := hc0.symm.trans hz; simpa using hz
        refine And.intro (hsg _) (Exists.intro (dc ++ [I so, I sl, I sx, I dy]) (Exists.intro (j + 1) (And.intro ?_ (And.intro rfl ?_))))
        · subst hA; exact app_one (by rw [hdc, len_flat (k := 4) (fun _ => rfl), hdl]) rfl (by omega)
        generalize hdc2 : dc ++ _ = dc2
        cbv
        refine And.intro (by subst hA; first | (simp [std, Keep, SubH, ResK]; done) | exact .inr ⟨⟨rfl, SubH.self _⟩, trivial, .inr fun _ => ⟨rfl, SubH.self _⟩⟩ | exact .inr ⟨SubH.self _, trivial, .inr fun _ => SubH.self _⟩ | exact .inr ⟨by simp [SubH], trivial, .inl rfl⟩ | exact .inr ⟨by simp [SubH], trivial, .inr fun _ => by simp [SubH]⟩) ?_
        cbv
        refine hend _ dc2 _ (by rw [if_pos (by omega)]; exact hPt) hdc2.symm ⟨rfl, rfl, rfl, trivial⟩ ⟨rfl, rfl, trivial⟩ _ ⟨_, rfl⟩
  · rename_i hk0
    have hk1 : ¬ j < N := by have hz := hlt.symm.trans hk0; simpa using hz
    clear hk0
    rw [hF]
    have hzt : (os.zip rows).take j = os.zip rows := List.take_of_length_le (by omega)
    rw [hzt] at hP1 hP2
    refine Frees.frz 1 j 4 (dl.map dlV) rfl (by rw [hdc]; exact Elems_map (f := dlV) (g := dlC) (sz := 4) (fun _ => rfl) (fun _ => rfl) (fun _ => rfl) dl) (Frees.drop0 ?_ ?_)
    · have : AV.frz 1 j 4 (dl.map dlV) (.ms 4 1 j 0 j) = .vs 4 (dl.map dlV) := frz_self (by simp [hdl])
      simp only [aTup, AV.frz, AV.frzL] at this ⊢
      rw [this, hP1, hP2]; exact h
    · simp only [aTup, AV.frz, AV.frzL, AV.nid, AV.nidL, if_true]
      split <;> rfl
def eTellRf : List AV → Option ((AV → Prop) → Prop)
  | [.agg [.lit (.int .i64 _), .lit (.int .i64 _), .lit (.int .i64 _), .lit (.int .i64 _), .vs 2 _, .vs 4 ys], .vs 1 zs] =>
    some fun K => ∃ (D : Nat) (os : List Ord) (rows : List (List Int)), (ys = os.map orV ∧ zs = rows.map fun r => .vs 1 (r.map I)) ∧ (D ≤ 200 ∧ os.length ≤ 6 ∧ OrdsV os ∧ RowsV os.length D rows ∧ ∀ (k : Nat) o r, os[k]? = some o → rows[k]? = some r → sumI r ≤ o.u) ∧
      ∀ ds q, ds = (tellS os rows).map dlV → q = penS os rows → K (.tup [.vs 4 ds, I q])
  | _ => none
theorem eTellRf_ok : ∀ args pt, eTellRf args = some pt → ∀ (H : AHeap) (Kk : AV → AHeap → Prop), pt (fun r => Kk r H) → ACalls Try.prog 89 args H Kk := by
  intro args pt h H Kk hk
  unfold eTellRf at h
  split at h
  · cases h
    obtain ⟨D, os, rows, ⟨rfl, rfl⟩, ⟨h1, h2, h3, h4, h5⟩, h6⟩ := hk
    exact p89 _ _ _ _ _ D _ _ h1 h2 h3 h4 h5 H (h6 _ _ rfl rfl)
  · cases h
end Go.Sas
namespace Go.Sas
open Go.Proofs
set_option maxRecDepth 100000
end Go.Sas
