/-
Probe: Breaks: contract.
Conditions: none.
-/
import Derived.Test.YtpokfjhlilbpfaaDoorPPd
import Derived.Test.YtpokfjhlilbpfaaDoorPQd
import Derived.Test.YtpokfjhlilbpfaaDoorP8d
set_option linter.unusedVariables false
set_option linter.unusedSimpArgs false
namespace Go.Sas
open Go.Proofs
set_option maxRecDepth 100000
theorem cs_get {cs : List (List Int)} {i : Nat} (h : i < cs.length) : cs[i]? = some (cs.getD i []) := by rw [List.getD_eq_getElem?_getD, List.getElem?_eq_getElem h]; rfl
theorem row_get {r : List Int} {p : Nat} (h : p < r.length) : r[p]? = some (r.getD p 0) := by rw [List.getD_eq_getElem?_getD, List.getElem?_eq_getElem h]; rfl
theorem R_get {R : List Rch} {p : Nat} (h : p < R.length) : R[p]? = some (R.getD p rc0) := by rw [List.getD_eq_getElem?_getD, List.getElem?_eq_getElem h]; rfl
theorem wrongS_rng {R : List Rch} {l : List Lk} {f : Int} {cs : List (List Int)} {i p : Nat} (h : wrongS R l f cs i p = false) : 0 ≤ cellS cs i p ∧ cellS cs i p ≤ 3000 := by
  unfold wrongS at h
  simp only [Bool.or_eq_false_iff] at h
  have h1 := h.1.1.1
  unfold outB at h1
  simpa using h1
set_option maxHeartbeats 4000000 in
theorem p11 (rs : List Rch) (a b c f : Int) (l : List Lk) (cs : List (List Int)) (h1 : rs.length ≤ 9223372036854775807) (h2 : l.length ≤ 9223372036854775807) (h3 : cs.length ≤ 1000000) (h4 : ∀ r ∈ cs, r.length ≤ 9223372036854775807) (H : AHeap) {Kk : AV → AHeap → Prop}
    (h : Kk (.tup [I (breaksR rs a b c l f cs).1.1, I (breaksR rs a b c l f cs).1.2, I (breaksR rs a b c l f cs).2]) H) : ACalls Tryd.prog 11 [svV (.vs 5 (rs.map rcV)) a b c, .vs 5 (l.map lkV), I f, .vs 1 (csV cs)] H Kk := by
  have hnr := nidL_rc rs
  have hncs : AV.nidL (csV cs) = true := nidL_map (fun _ => by simp [AV.nid]) _
  refine (fun q => pureC (by simp [AV.nidL, AV.nid, hnr, hncs]) (by rfl) q H h) ?_
  clear h
  intro Kk h
  obtain ⟨xs, hxs⟩ : ∃ xs, xs = rs.map rcV := ⟨_, rfl⟩
  rw [← hxs]
  obtain ⟨ls, hls⟩ : ∃ ys, ys = l.map lkV := ⟨_, rfl⟩
  rw [← hls]
  obtain ⟨vs, hvs⟩ : ∃ ys, ys = csV cs := ⟨_, rfl⟩
  rw [← hvs]
  obtain ⟨E, hE⟩ : ∃ E, E = surE rs a b c l := ⟨_, rfl⟩
  obtain ⟨R, hR⟩ : ∃ R, R = plc rs := ⟨_, rfl⟩
  obtain ⟨N, hN⟩ : ∃ N, N = R.length := ⟨_, rfl⟩
  obtain ⟨M, hM⟩ : ∃ M, M = cs.length := ⟨_, rfl⟩
  obtain ⟨W, hW⟩ : ∃ W, W = wrongS R l f cs := ⟨_, rfl⟩
  have hw : ∀ e, breaksE rs a b c l f cs = e → e ≠ 0 → Kk (.tup [I 0, I 0, I e]) [] := fun e h1 h2 => by
    unfold breaksR at h; rw [h1, if_neg h2] at h; exact h
  have hg1 : breaksE rs a b c l f cs = 0 → ∀ i p, i < M → p < N → W i p = true → (∀ j q, Bef j q i p → q < N → W j q = false) → Kk (.tup [I (iLen i), I (iLen p), I 0]) [] := fun h1 i p hi hp hw hb => by
    unfold breaksR at h; rw [if_pos h1, ← hR, ← hM, ← hN, ← hW, firstW_some hi hp hw hb] at h; exact h
  have hg2 : breaksE rs a b c l f cs = 0 → (∀ i p, i < M → p < N → W i p = false) → Kk (.tup [I (-1), I (-1), I 0]) [] := fun h1 hb => by
    unfold breaksR at h; rw [if_pos h1, ← hR, ← hM, ← hN, ← hW, firstW_none hb] at h; exact h
  clear h
  have hK : breaksE rs a b c l f cs = orElse E (if ¬(0 ≤ f ∧ f ≤ 10000) then 2 else if M = 0 then 6 else if 10001 < f + iLen M then 8 else if cs.any (fun r => decide (iLen r.length ≠ sumLg rs)) then 3 else 0) := by rw [hE, hM]; rfl
  obtain ⟨A, hA⟩ : ∃ A, A = std := ⟨_, rfl⟩
  have hne : ∀ x y, A.ne x y = decide (x ≠ y) := by subst hA; intro x y; simp only [std, iNe]; rw [Bool.eq_iff_iff]; simp
  have hee : ∀ x y, A.eq x y = decide (x = y) := by subst hA; intro x y; exact iEq_dec _ _
  have hll : ∀ x y, A.lt x y = decide (x < y) := by subst hA; intro x y; rfl
  have hle : ∀ x y, A.le x y = decide (x ≤ y) := by subst hA; intro x y; rfl
  have hnb : ∀ b, A.bnot b = !b := by subst hA; intro b; rfl
  have hbd : ∀ x y, A.band x y = (x && y) := by subst hA; intro x y; rfl
  have hsg : ∀ g, A.sg g g := by subst hA; exact fun _ => rfl
  have hvv : A.vlen vs = iLen M := by subst hA; rw [hvs, hM]; simp [std]
  refine go11 rfl (SGo_run hA ⟨[], [], (15, eLooked) :: (16, eIn) :: [], []⟩ (.cons eLooked_ok (.cons (eIn_ok p16) .nil)) .nil 200 fun T TD hT hTD => ?_)
  cbv
  refine Exists.intro rs (Exists.intro l (And.intro hxs (And.intro hls (And.intro h1 (And.intro h2 (And.intro ?_ ?_))))))
  · intro e w a' b' c' y z he h0 _ _ _; cbv
    split <;> cbv
    · refine hw e ?_ h0
      rw [hK, hE, ← he]; unfold orElse; rw [if_neg h0]
    · rename_i hz; exact absurd (of_decide_eq_false ((hne e 0).symm.trans hz)) (fun h => h h0)
  intro ho hs2 hlo sl zs hgr; cbv
  have hn0 : A.ne 0 0 = false := by subst hA; rfl
  split <;> first | (rename_i hz; exact Bool.noConfusion (hz.symm.trans hn0)) | cbv
  have hE0 : E = 0 := by rw [hE]; exact surE_ok.2 ⟨ho, hs2, hlo⟩
  have hRl := ho.ilen
  have hPl := ho.plc
  rw [← hR] at hRl hPl hlo
  rw [← hN] at hRl
  have hlb := hlo.le
  have hN2 : N ≤ 1000 := by rw [hN]; exact hPl.le
  have hgz : zs = R.map rcV := by rw [hR]; exact hgr.2.2
  have hxl : ∀ n, AV.ltL n xs := fun n => AV.ltL_nid (by rw [hxs]; exact hnr)
  have hsl : ∀ n, AV.ltL n sl := fun n => AV.ltL_nid (by rw [hgr.2.1]; exact nidL_map (g := I) (fun _ => rfl) _)
  have hzl : ∀ n, AV.ltL n zs := fun n => AV.ltL_nid (by rw [hgr.2.2]; exact nidL_rc _)
  clear hE
  intro q1 hq1; cbv
  have hK : breaksE rs a b c l f cs = (if ¬(0 ≤ f ∧ f ≤ 10000) then 2 else if M = 0 then 6 else if 10001 < f + iLen M then 8 else if cs.any (fun r => decide (iLen r.length ≠ sumLg rs)) then 3 else 0) := by rw [hK, hE0]; unfold orElse; rw [if_pos rfl]
  split <;> cbv
  · rename_i hz
    have hz : q1 = false := by have hz := (hnb q1).symm.trans hz; simpa using hz
    rw [hq1, decide_eq_false_iff_not] at hz
    exact hw 2 (by rw [hK, if_pos hz]) (by decide)
  rename_i hz
  have hz : q1 = true := by have hz := (hnb q1).symm.trans hz; simpa using hz
  rw [hq1, decide_eq_true_eq] at hz
  rw [if_neg (fun h => h hz)] at hK
  have heq0 : A.eq (A.vlen vs) 0 = decide (M = 0) := by rw [hee, hvv, decide_eq_decide]; unfold iLen; omega
  split <;> cbv
  · rename_i hz2
    have hz2 := of_decide_eq_true (heq0.symm.trans hz2)
    exact hw 6 (by rw [hK, if_pos hz2]) (by decide)
  rename_i hz2
  have hz2 := of_decide_eq_false (heq0.symm.trans hz2)
  rw [if_neg hz2] at hK
  have hMb : iLen M ≤ 1000000 := by rw [hM]; unfold iLen; omega
  have hgt : A.lt 10001 (A.add .i64 f (A.vlen vs)) = decide (10001 < f + iLen M) := by
    rw [hll, hvv]; subst hA; show decide (10001 < iAdd .i64 f (iLen M)) = _
    rw [iAdd_id (by unfold iLen; omega) (by omega)]
  split <;> cbv
  · rename_i hz3
    have hz3 := of_decide_eq_true (hgt.symm.trans hz3)
    exact hw 8 (by rw [hK, if_pos hz3]) (by decide)
  rename_i hz3
  have hz3 := of_decide_eq_false (hgt.symm.trans hz3)
  rw [if_neg hz3] at hK
  have hvz : A.vlen zs = iLen N := by subst hA; rw [hgz, hN]; simp [std]
  have hMi : ∀ i q, q = iLen i → i < M → A.ix 1 1 vs q [.vs 1 ((cs.getD i []).map I)] := fun i q hq hi => by subst hA; exact ix_map (f := fun r : List Int => AV.vs 1 (r.map I)) hvs hq (cs_get (by omega)) rfl
  rw [hT]
  obtain ⟨BAD, hBAD⟩ : ∃ g : List (List Int) → Bool, g = fun cs => cs.any fun r => decide (iLen r.length ≠ sumLg rs) := ⟨_, rfl⟩
  rw [show (cs.any fun r => decide (iLen r.length ≠ sumLg rs)) = BAD cs by rw [hBAD]] at hK
  refine AGo_upE [1, 2, 3, 11, 47, 48] M (fun j (_ : Unit) => BAD cs = BAD (cs.drop j)) (fun j _ i => [(49, I i)]) (fun j _ => [.own 0 [.vs 5 xs, I a, I b, I c], .own 0 [.vs 5 xs, I a, I b, I c, .vs 1 sl, .vs 5 zs]]) () rfl ⟨rfl, trivial⟩ (.inl rfl) fun j _ i hi hj hP Bk hB => ?_
  have hlt : A.lt i (A.vlen vs) = decide (j < M) := by rw [hvv, hll, hi, decide_eq_decide]; unfold iLen; omega
  have hadd : ∀ N, j < N → N ≤ 9223372036854775807 → A.add .i64 i 1 = iLen (j + 1) := fun N hj hN => by subst hA; exact add_one hi hj hN
  refine SGo_run hA ⟨[], [], [], []⟩ .nil .nil 200 fun T TD hT hTD => ?_
  cbv
  split <;> cbv
  · rename_i hk0
    have hk1 : j < M := by have hz := hlt.symm.trans hk0; simpa using hz
    clear hk0
    have hri := hMi j i hi hk1
    have hBs : BAD (cs.drop j) = (decide (iLen (cs.getD j []).length ≠ sumLg rs) || BAD (cs.drop (j + 1))) := by rw [hBAD]; exact any_drop (cs_get (by omega))
    obtain ⟨row, hrow⟩ : ∃ x, x = (cs.getD j []).map I := ⟨_, rfl⟩
    rw [← hrow] at hri
    have hne2 : A.ne (A.vlen row) (A.vlen zs) = decide (iLen (cs.getD j []).length ≠ sumLg rs) := by rw [hne, hvz, hRl, hrow]; subst hA; simp [std]
    refine Exists.intro _ (And.intro hri ?_); cbv
    split <;> cbv
    · rename_i hz4
      have hz4 := hne2.symm.trans hz4
      rw [hz4, Bool.true_or] at hBs
      exact hw 3 (by rw [hK, hP, hBs]; rfl) (by decide)
    · rename_i hz4
      have hz4 := hne2.symm.trans hz4
      rw [hz4, Bool.false_or] at hBs
      exact hB () _ _ hk1 (by rw [hP, hBs]) ⟨congrArg I (hadd _ hk1 (by omega)), trivial⟩ ⟨rfl, rfl, rfl, rfl, rfl, rfl, trivial⟩ (.inl rfl)
  · rename_i hk0
    have hk1 : ¬ j < M := by have hz := hlt.symm.trans hk0; simpa using hz
    clear hk0
    have hbad : BAD cs = false := by rw [hP, List.drop_eq_nil_of_le (by omega), hBAD]; rfl
    rw [hbad] at hK
    have hK : breaksE rs a b c l f cs = 0 := hK
    have hrl : ∀ i, i < M → (cs.getD i []).length = N := fun i hi => by
      rw [hBAD] at hbad
      rw [List.any_eq_false] at hbad
      have := hbad (cs.getD i []) (List.mem_of_getElem? (cs_get (by omega)))
      simp only [decide_eq_true_eq, ne_eq, Decidable.not_not] at this
      unfold iLen at *; omega
    have hg1 := hg1 hK
    have hg2 := hg2 hK
    clear hw hK hP hbad hB hadd hlt
    rw [hT]
    refine AGo_upE [1, 2, 3, 11, 60, 61] M (fun j (_ : Unit) => ∀ i q, i < j → q < N → W i q = false) (fun j _ i => [(62, I i)]) (fun j _ => [.own 0 [.vs 5 xs, I a, I b, I c], .own 0 [.vs 5 xs, I a, I b, I c, .vs 1 sl, .vs 5 zs]]) () (fun i q hi => by omega) ⟨rfl, trivial⟩ (.inl rfl) fun j _ i hi hj hP Bk hB => ?_
    have hlt : A.lt i (A.vlen vs) = decide (j < M) := by rw [hvv, hll, hi, decide_eq_decide]; unfold iLen; omega
    have hadd : ∀ N, j < N → N ≤ 9223372036854775807 → A.add .i64 i 1 = iLen (j + 1) := fun N hj hN => by subst hA; exact add_one hi hj hN
    refine SGo_run hA ⟨[], [], [], []⟩ .nil .nil 200 fun T TD hT hTD => ?_
    cbv
    split <;> cbv
    · rename_i hk0
      have hk1 : j < M := by have hz := hlt.symm.trans hk0; simpa using hz
      clear hk0
      have hri := hMi j i hi hk1
      obtain ⟨row, hrow⟩ : ∃ x, x = (cs.getD j []).map I := ⟨_, rfl⟩
      rw [← hrow] at hri
      have hrv : A.vlen row = iLen N := by rw [← hrl j hk1, hrow]; subst hA; simp [std]
      refine Exists.intro _ (And.intro hri ?_); cbv
      rw [hT]
      refine AGo_upE [1, 2, 3, 11, 14, 15, 60, 61, 62, 67, 68] N (fun p (_ : Unit) => ∀ q, q < p → W j q = false) (fun p _ i => [(69, I i)]) (fun j _ => [.own 0 [.vs 5 xs, I a, I b, I c], .own 0 [.vs 5 xs, I a, I b, I c, .vs 1 sl, .vs 5 zs]]) () (fun q hi => by omega) ⟨rfl, trivial⟩ (.inl rfl) fun p _ ip hip hp hP2 Bk2 hB2 => ?_
      have hlt2 : A.lt ip (A.vlen row) = decide (p < N) := by rw [hrv, hll, hip, decide_eq_decide]; unfold iLen; omega
      have hadd2 : ∀ N, p < N → N ≤ 9223372036854775807 → A.add .i64 ip 1 = iLen (p + 1) := fun N hj hN => by subst hA; exact add_one hip hj hN
      have hWb : ∀ j2 q, Bef j2 q j p → q < N → W j2 q = false := fun j2 q hb hq => by
        rcases hb with hb | ⟨rfl, hb⟩
        · exact hP j2 q hb hq
        · exact hP2 q hb
      have hcl : ∀ j2 q, Bef j2 q j p → q < N → 0 ≤ cellS cs j2 q ∧ cellS cs j2 q ≤ 3000 := fun j2 q hb hq => wrongS_rng (by rw [← hW]; exact hWb j2 q hb hq)
      refine SGo_run hA ⟨[], [1000078], (16, eIn) :: [], []⟩ (.cons (eIn_ok p16) .nil) .nil 200 fun T TD hT hTD => ?_
      cbv
      split <;> cbv
      · rename_i hzp
        have hpN : p < N := of_decide_eq_true (hlt2.symm.trans hzp)
        have hci : A.ix 1 1 row ip [I (cellS cs j p)] := by subst hA; exact ix_map hrow hip (row_get (by rw [hrl j hk1]; exact hpN)) rfl
        obtain ⟨n, hnn⟩ : ∃ n, n = cellS cs j p := ⟨_, rfl⟩
        rw [← hnn] at hci
        refine Exists.intro _ (And.intro hci ?_); cbv
        intro b0 hb0; cbv
        have hb0 : A.bnot b0 = outB n 0 3000 := by rw [hnb, hb0]; rfl
        have hipb : 0 ≤ ip ∧ ip ≤ 1000 := by rw [hip]; unfold iLen; omega
        have hp0 : A.lt 0 ip = decide (0 < p) := by rw [hll, hip, decide_eq_decide]; unfold iLen; omega
        have hsub1 : A.sub .i64 ip 1 = ip - 1 := by subst hA; exact iSub_id (by omega) (by omega)
        obtain ⟨w1, hw1⟩ : ∃ w, w = (outB n 0 3000 || (decide (0 < p) && outB n (cellS cs j (p - 1) - (R.getD (p - 1) rc0).sl) (cellS cs j (p - 1) + (R.getD (p - 1) rc0).sl))) := ⟨_, rfl⟩
        rw [hT]
        refine AGo_cut (k1 := [_, _]) (fun e H => Fits e [(1, .vs 5 ls), (2, I f), (3, .vs 1 vs), (11, .mp 1 0 0), (14, I i), (15, .vs 1 row), (16, I ip), (17, I n), (60, .vs 1 vs), (61, I (A.vlen vs)), (62, I i), (67, .vs 1 row), (68, I (A.vlen row)), (69, I ip), (18, B w1)] ∧ H = [.own 0 [.vs 5 xs, I a, I b, I c], .own 0 [.vs 5 xs, I a, I b, I c, .vs 1 sl, .vs 5 zs]]) ?_ (fun e1 H1 hP1 => ?_)
        · refine SGo_run hA ⟨[], [], (16, eIn) :: [], []⟩ (.cons (eIn_ok p16) .nil) .nil 200 fun T TD hT hTD => ?_
          cbv
          split <;> cbv
          · rename_i hz5
            have hz5 := of_decide_eq_true (hp0.symm.trans hz5)
            split <;> cbv
            · rename_i hz6
              have hz6 : outB n 0 3000 = false := by rw [hnb, hb0] at hz6; simpa using hz6
              obtain ⟨p', hp'⟩ : ∃ p', p = p' + 1 := ⟨p - 1, by omega⟩
              have hpe : p - 1 = p' := by omega
              rw [hpe] at hw1
              have hip' : A.sub .i64 ip 1 = iLen p' := by rw [hsub1, hip, hp']; unfold iLen; omega
              have hiz : A.ix 5 5 zs (A.sub .i64 ip 1) (rcC (R.getD p' rc0)) := by rw [hip']; subst hA; exact ix_map hgz rfl (R_get (by omega)) rfl
              have hcl1 := hcl j p' (.inr ⟨rfl, by omega⟩) (by omega)
              have hci1 : A.ix 1 1 row (A.sub .i64 ip 1) [I (cellS cs j p')] := by rw [hip']; subst hA; exact ix_map hrow rfl (row_get (by rw [hrl j hk1]; omega)) rfl
              have hsb := (rc0_bnd hPl.all p').1
              have hsb2 := (rc0_bnd hPl.all p').2.1
              obtain ⟨r1, hr1⟩ : ∃ r, r = R.getD p' rc0 := ⟨_, rfl⟩
              rw [← hr1] at hiz hsb hsb2 hw1
              obtain ⟨c1, hc1⟩ : ∃ r, r = cellS cs j p' := ⟨_, rfl⟩
              rw [← hc1] at hci1 hcl1 hw1
              refine Exists.intro _ (And.intro hiz ?_); cbv
              refine Exists.intro _ (And.intro hci1 ?_); cbv
              refine Exists.intro _ (And.intro hci1 ?_); cbv
              intro b1 hb1; cbv
              have hs1 : A.sub .i64 c1 r1.sl = c1 - r1.sl := by subst hA; exact iSub_id (by omega) (by omega)
              have hs2 : A.add .i64 c1 r1.sl = c1 + r1.sl := by subst hA; exact iAdd_id (by omega) (by omega)
              have hb1 : b1 = decide (c1 - r1.sl ≤ n ∧ n ≤ c1 + r1.sl) := by rw [← hs1, ← hs2]; exact hb1
              have hfin : A.bnot b1 = w1 := by rw [hnb, hb1, hw1, hz6, decide_eq_true hz5]; rfl
              exact ⟨⟨congrArg B hfin, trivial⟩, trivial⟩
            · rename_i hz6
              have hz6 : outB n 0 3000 = true := by rw [hnb, hb0] at hz6; simpa using hz6
              have hfin : A.bnot b0 = w1 := by rw [hb0, hw1, hz6]; rfl
              exact ⟨⟨congrArg B hfin, trivial⟩, trivial⟩
          · rename_i hz5
            have hz5 := hp0.symm.trans hz5
            have hfin : A.bnot b0 = w1 := by rw [hb0, hw1, hz5]; simp
            exact ⟨⟨congrArg B hfin, trivial⟩, trivial⟩
        obtain ⟨hf1, rfl⟩ := hP1
        refine AGo_forget [(1, .vs 5 ls), (2, I f), (3, .vs 1 vs), (11, .mp 1 0 0), (14, I i), (15, .vs 1 row), (16, I ip), (17, I n), (60, .vs 1 vs), (61, I (A.vlen vs)), (62, I i), (67, .vs 1 row), (68, I (A.vlen row)), (69, I ip), (18, B w1)] _ hf1 (.inl rfl) ?_ (by simp)
        refine SGo_run hA ⟨[], [1000109], [], []⟩ .nil .nil 200 fun T TD hT hTD => ?_
        cbv
        have hj0 : A.lt 0 i = decide (0 < j) := by rw [hll, hi, decide_eq_decide]; unfold iLen; omega
        have hib : 0 ≤ i ∧ i ≤ 1000000 := by rw [hi]; unfold iLen at *; omega
        have hsub2 : A.sub .i64 i 1 = i - 1 := by subst hA; exact iSub_id (by omega) (by omega)
        have hci2 : ∀ j', j = j' + 1 → A.ix 1 1 vs (A.sub .i64 i 1) [.vs 1 ((cs.getD j' []).map I)] := fun j' h => hMi j' _ (by rw [hsub2, hi, h]; unfold iLen; omega) (by omega)
        obtain ⟨w2, hw2⟩ : ∃ w, w = (w1 || (decide (0 < j) && outB n (cellS cs (j - 1) p - (R.getD p rc0).th) (cellS cs (j - 1) p + (R.getD p rc0).gr))) := ⟨_, rfl⟩
        rw [hT]
        refine AGo_cut (k1 := [_, _]) (fun e H => Fits e [(1, .vs 5 ls), (2, I f), (3, .vs 1 vs), (11, .mp 1 0 0), (14, I i), (15, .vs 1 row), (16, I ip), (17, I n), (60, .vs 1 vs), (61, I (A.vlen vs)), (62, I i), (67, .vs 1 row), (68, I (A.vlen row)), (69, I ip), (18, B w2)] ∧ H = [.own 0 [.vs 5 xs, I a, I b, I c], .own 0 [.vs 5 xs, I a, I b, I c, .vs 1 sl, .vs 5 zs]]) ?_ (fun e1 H1 hP1 => ?_)
        · refine SGo_run hA ⟨[], [], (16, eIn) :: [], []⟩ (.cons (eIn_ok p16) .nil) .nil 200 fun T TD hT hTD => ?_
          cbv
          split <;> cbv
          · rename_i hz5
            have hz5 := of_decide_eq_true (hj0.symm.trans hz5)
            split <;> cbv
            · rename_i hz6
              have hz6 : w1 = false := by rw [hnb] at hz6; simpa using hz6
              obtain ⟨j', hj'⟩ : ∃ j', j = j' + 1 := ⟨j - 1, by omega⟩
              have hje : j - 1 = j' := by omega
              rw [hje] at hw2
              have hcj := hci2 j' hj'
              obtain ⟨row2, hrow2⟩ : ∃ x, x = (cs.getD j' []).map I := ⟨_, rfl⟩
              rw [← hrow2] at hcj
              have hiz : A.ix 5 5 zs ip (rcC (R.getD p rc0)) := by subst hA; exact ix_map hgz hip (R_get (by omega)) rfl
              have hcl1 := hcl j' p (.inl (by omega)) hpN
              have hci1 : A.ix 1 1 row2 ip [I (cellS cs j' p)] := by subst hA; exact ix_map hrow2 hip (row_get (by rw [hrl j' (by omega)]; omega)) rfl
              have hsb := rc0_bnd hPl.all p
              obtain ⟨r1, hr1⟩ : ∃ r, r = R.getD p rc0 := ⟨_, rfl⟩
              rw [← hr1] at hiz hsb hw2
              obtain ⟨c1, hc1⟩ : ∃ r, r = cellS cs j' p := ⟨_, rfl⟩
              rw [← hc1] at hci1 hcl1 hw2
              refine Exists.intro _ (And.intro hcj ?_); cbv
              refine Exists.intro _ (And.intro hci1 ?_); cbv
              refine Exists.intro _ (And.intro hiz ?_); cbv
              refine Exists.intro _ (And.intro hiz ?_); cbv
              intro b1 hb1; cbv
              have hs1 : A.sub .i64 c1 r1.th = c1 - r1.th := by subst hA; exact iSub_id (by omega) (by omega)
              have hs2 : A.add .i64 c1 r1.gr = c1 + r1.gr := by subst hA; exact iAdd_id (by omega) (by omega)
              have hb1 : b1 = decide (c1 - r1.th ≤ n ∧ n ≤ c1 + r1.gr) := by rw [← hs1, ← hs2]; exact hb1
              have hfin : A.bnot b1 = w2 := by rw [hnb, hb1, hw2, hz6, decide_eq_true hz5]; rfl
              exact ⟨⟨congrArg B hfin, trivial⟩, trivial⟩
            · rename_i hz6
              have hz6 : w1 = true := by rw [hnb] at hz6; simpa using hz6
              have hfin : w1 = w2 := by rw [hw2, hz6]; rfl
              exact ⟨⟨congrArg B hfin, trivial⟩, trivial⟩
          · rename_i hz5
            have hz5 := hj0.symm.trans hz5
            have hfin : w1 = w2 := by rw [hw2, hz5]; simp
            exact ⟨⟨congrArg B hfin, trivial⟩, trivial⟩
        obtain ⟨hf1, rfl⟩ := hP1
        refine AGo_forget [(1, .vs 5 ls), (2, I f), (3, .vs 1 vs), (11, .mp 1 0 0), (14, I i), (15, .vs 1 row), (16, I ip), (17, I n), (60, .vs 1 vs), (61, I (A.vlen vs)), (62, I i), (67, .vs 1 row), (68, I (A.vlen row)), (69, I ip), (18, B w2)] _ hf1 (.inl rfl) ?_ (by simp)
        refine SGo_run hA ⟨[], [], [], []⟩ .nil .nil 200 fun T TD hT hTD => ?_
        cbv
        rw [hT]
        have hWjp : W j p = (w2 || l.any (lookW n (f + iLen j) p)) := by rw [hW, hw2, hw1, hnn]; rfl
        refine AGo_upE [1, 2, 3, 11, 14, 15, 16, 17, 60, 61, 62, 67, 68, 69, 140, 141] l.length (fun k (w : Bool) => w = (w2 || (l.take k).any (lookW n (f + iLen j) p))) (fun k w i => [(18, B w), (142, I i)]) (fun _ _ => [.own 0 [.vs 5 xs, I a, I b, I c], .own 0 [.vs 5 xs, I a, I b, I c, .vs 1 sl, .vs 5 zs]]) w2 (by simp) ⟨rfl, rfl, trivial⟩ (.inl rfl) fun k w i3 hi3 hk hP3 Bk3 hB3 => ?_
        have hlt3 : A.lt i3 (A.vlen ls) = decide (k < l.length) := by subst hA; exact lt_len (by simp [hls]) hi3
        have hadd3 : ∀ N, k < N → N ≤ 9223372036854775807 → A.add .i64 i3 1 = iLen (k + 1) := fun N hj hN => by subst hA; exact add_one hi3 hj hN
        refine SGo_run hA ⟨[], [], (16, eIn) :: [], []⟩ (.cons (eIn_ok p16) .nil) .nil 200 fun T TD hT hTD => ?_
        cbv
        split <;> cbv
        · rename_i hzk
          have hkl : k < l.length := of_decide_eq_true (hlt3.symm.trans hzk)
          obtain ⟨⟨k', q', g', u', v'⟩, hx3⟩ : ∃ x, l[k]? = some x := ⟨_, List.getElem?_eq_getElem hkl⟩
          have hiy : A.ix 5 5 ls i3 (lkC ⟨k', q', g', u', v'⟩) := by subst hA; exact ix_map hls hi3 hx3 rfl
          have htk : ((l.take (k + 1)).any (lookW n (f + iLen j) p)) = ((l.take k).any (lookW n (f + iLen j) p) || lookW n (f + iLen j) p ⟨k', q', g', u', v'⟩) := by
            obtain ⟨h8, he⟩ := List.getElem?_eq_some_iff.1 hx3
            rw [List.take_succ_eq_append_getElem h8, he, List.any_append]; simp
          have hlw : lookW n (f + iLen j) p ⟨k', q', g', u', v'⟩ = (decide (g' = f + iLen j) && (decide (q' = (p : Int)) && outB n u' v')) := rfl
          have hfi : A.add .i64 f i = f + iLen j := by rw [hi]; subst hA; exact iAdd_id (by unfold iLen at *; omega) (by unfold iLen at *; omega)
          have he1 : A.eq g' (A.add .i64 f i) = decide (g' = f + iLen j) := by rw [hee, hfi]
          have he2 : A.eq q' ip = decide (q' = (p : Int)) := by rw [hee, hip]; rfl
          rw [hlw] at htk
          have hfin : ∀ w', (w || (decide (g' = f + iLen j) && (decide (q' = (p : Int)) && outB n u' v'))) = w' → w' = (w2 || (l.take (k + 1)).any (lookW n (f + iLen j) p)) := fun w' h => by rw [htk, ← Bool.or_assoc, ← hP3]; exact h.symm
          refine Exists.intro _ (And.intro hiy ?_); cbv
          have hgo : ∀ w' e', (w || (decide (g' = f + iLen j) && (decide (q' = (p : Int)) && outB n u' v'))) = w' → Fits e' [(18, B w'), (142, I (A.add .i64 i3 1))] → Fits e' (keepS [1, 2, 3, 11, 14, 15, 16, 17, 60, 61, 62, 67, 68, 69, 140, 141] [(18, B w), (142, I i3), (1, .vs 5 ls), (2, I f), (3, .vs 1 vs), (11, .mp 1 0 0), (14, I i), (15, .vs 1 row), (16, I ip), (17, I n), (60, .vs 1 vs), (61, I (A.vlen vs)), (62, I i), (67, .vs 1 row), (68, I (A.vlen row)), (69, I ip), (140, .vs 5 ls), (141, I (A.vlen ls))]) →
              Bk3 e' [.own 0 [.vs 5 xs, I a, I b, I c], .own 0 [.vs 5 xs, I a, I b, I c, .vs 1 sl, .vs 5 zs], .own 0 (lkC ⟨k', q', g', u', v'⟩)] := fun w' e' hw' hf' hk' => by
            rw [hadd3 _ hkl (by omega)] at hf'
            exact hB3 w' _ _ hkl (hfin w' hw') hf' hk' (.inr ⟨⟨[.own 0 (lkC ⟨k', q', g', u', v'⟩)], rfl⟩, by simp, by simp [ltG, AV.lt, AV.ltL, keepS, look, gset], by simp [ltH, AObj.lt, AV.lt, AV.ltL, hxl, hsl, hzl]⟩)
          clear hfin hP3 htk hlw hB3
          cases w with
          | true =>
            cbv
            exact hgo true _ (by simp) ⟨rfl, rfl, trivial⟩ ⟨rfl, rfl, rfl, rfl, rfl, rfl, rfl, rfl, rfl, rfl, rfl, rfl, rfl, rfl, rfl, rfl, trivial⟩
          | false =>
            cbv
            split <;> cbv
            · rename_i hy1
              have hy1 := he1.symm.trans hy1
              split <;> cbv
              · rename_i hy2
                have hy2 := he2.symm.trans hy2
                intro b1 hb1; cbv
                refine hgo (A.bnot b1) _ (by rw [hy1, hy2, hnb, hb1]; rfl) ⟨rfl, rfl, trivial⟩ ⟨rfl, rfl, rfl, rfl, rfl, rfl, rfl, rfl, rfl, rfl, rfl, rfl, rfl, rfl, rfl, rfl, trivial⟩
              · rename_i hy2
                have hy2 := he2.symm.trans hy2
                exact hgo false _ (by rw [hy1, hy2]; rfl) ⟨rfl, rfl, trivial⟩ ⟨rfl, rfl, rfl, rfl, rfl, rfl, rfl, rfl, rfl, rfl, rfl, rfl, rfl, rfl, rfl, rfl, trivial⟩
            · rename_i hy1
              have hy1 := he1.symm.trans hy1
              exact hgo false _ (by rw [hy1]; rfl) ⟨rfl, rfl, trivial⟩ ⟨rfl, rfl, rfl, rfl, rfl, rfl, rfl, rfl, rfl, rfl, rfl, rfl, rfl, rfl, rfl, rfl, trivial⟩
        · rename_i hzk
          have hkl : ¬ k < l.length := of_decide_eq_false (hlt3.symm.trans hzk)
          rw [List.take_of_length_le (by omega), ← hWjp] at hP3
          cases w with
          | true =>
            cbv
            have := hg1 j p hk1 hpN hP3.symm hWb
            rw [← hi, ← hip] at this
            exact this
          | false =>
            cbv
            refine hB2 () _ _ hpN ?_ ⟨congrArg I (hadd2 _ hpN (by omega)), trivial⟩ ⟨rfl, rfl, rfl, rfl, rfl, rfl, rfl, rfl, rfl, rfl, rfl, trivial⟩ (.inl rfl)
            intro q hq
            by_cases h : q < p
            · exact hP2 q h
            · rw [show q = p by omega]; exact hP3.symm
      · rename_i hzp
        have hpN : ¬ p < N := of_decide_eq_false (hlt2.symm.trans hzp)
        refine hB () _ _ hk1 ?_ ⟨congrArg I (hadd _ hk1 (by omega)), trivial⟩ ⟨rfl, rfl, rfl, rfl, rfl, rfl, trivial⟩ (.inl rfl)
        intro i2 q2 hi2 hq2
        by_cases h : i2 < j
        · exact hP i2 q2 h hq2
        · rw [show i2 = j by omega]; exact hP2 q2 (by omega)
    · rename_i hk0
      have hk1 : ¬ j < M := by have hz := hlt.symm.trans hk0; simpa using hz
      clear hk0
      exact hg2 fun i p hi2 hp => hP i p (by omega) hp
end Go.Sas
