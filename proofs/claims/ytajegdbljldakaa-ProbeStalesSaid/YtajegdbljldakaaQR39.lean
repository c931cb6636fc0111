/-
Probe: the reference's Plan: contract.
Conditions: none.
-/
import Derived.Test.YtajegdbljldakaaQR38
set_option linter.unusedVariables false
set_option linter.unusedSimpArgs false
namespace Go.Sas
open Go.Proofs
set_option maxRecDepth 100000
theorem p60 (rs : List Rch) (a b c : Int) (l : List Lk) (t k : Int) (h1 : rs.length ≤ 9223372036854775807) (h2 : l.length ≤ 9223372036854775807) (H : AHeap) {Kk : AV → AHeap → Prop}
    (h : Kk (.tup [.vs 1 ((planR rs a b c l t k).1.map I), .vs 1 ((planR rs a b c l t k).2.map I), I (planE rs a b c l t k)]) H) : ACalls Try.prog 60 [svV (.vs 5 (rs.map rcV)) a b c, .vs 5 (l.map lkV), I t, I k] H Kk := by
  have hnr := nidL_rc rs
  have hni : ∀ l : List Int, AV.nidL (l.map I) = true := nidL_map (g := I) (fun _ => rfl)
  refine (fun q => pureF (by simp [AV.nidL, AV.nid, hnr, nidL_map (g := lkV) (fun _ => rfl) l]) (by simp [AV.nidL, AV.nid, hni]) q H h) ?_
  clear h
  intro Kk h
  obtain ⟨xs, hxs⟩ : ∃ xs, xs = rs.map rcV := ⟨_, rfl⟩
  rw [← hxs]
  obtain ⟨ls, hls⟩ : ∃ ys, ys = l.map lkV := ⟨_, rfl⟩
  rw [← hls]
  obtain ⟨E, hE⟩ : ∃ E, E = planE rs a b c l t k := ⟨_, rfl⟩
  rw [← hE] at h
  obtain ⟨F, hF⟩ : ∃ F, F = Frees 0 Kk := ⟨_, rfl⟩
  rw [← hF]
  have hw : ∀ e H1, E = e → e ≠ 0 → F (.tup [NS, NS, I e]) H1 := fun e H1 he h0 => by
    unfold planR at h; rw [← hE, he, if_neg h0] at h
    rw [hF]
    exact Frees.wk (r' := .tup [.vs 1 [], .vs 1 [], I e]) (Wk.tup ⟨Wk.nil, Wk.nil, Wk.rfl, trivial⟩) (Frees.drop0 h rfl)
  have hg : E = 0 → ∀ n cs1 cs2 u, (u : List Int × List Int) = (planG (staleS (plc rs) a b c l t) (sgtS a b c k) (sumLg rs) (plc rs).length).2 → n = u.1.length → u.2.length = n → cs1 = u.1.map I → cs2 = u.2.map I → ∀ X0, F (.tup [.ms 1 1 n 0 n, .ms 1 2 n 0 n, I 0]) [X0, .own n cs1, .own n cs2] := fun h0 n cs1 cs2 u hu hn hn2 hc1 hc2 X0 => by
    unfold planR at h; rw [← hE, if_pos h0, h0, ← hu] at h
    rw [hF, hc1, hc2]
    refine Frees.frz 1 n 1 (u.1.map I) rfl (Elems_I _) ?_
    refine Frees.frz 2 n 1 (u.2.map I) (cs := u.2.map I) ?_ (Elems_I _) ?_
    · have : AV.frzL 1 n 1 (u.1.map I) (u.2.map I) = u.2.map I := AV.frzL_nid (hni _)
      simp [frzH, AObj.frz, this]
    have e1 : AV.frz 1 n 1 (u.1.map I) (.ms 1 1 n 0 n) = .vs 1 (u.1.map I) := frz_self (by simp [hn])
    have e2 : AV.frz 2 n 1 (u.2.map I) (.ms 1 2 n 0 n) = .vs 1 (u.2.map I) := frz_self (by simp [hn2])
    have e3 : AV.frz 1 n 1 (u.1.map I) (.ms 1 2 n 0 n) = .ms 1 2 n 0 n := by simp [AV.frz]
    have e4 : AV.frz 2 n 1 (u.2.map I) (.vs 1 (u.1.map I)) = .vs 1 (u.1.map I) := AV.frz_nid (by simp only [AV.nid])
    have e5 : AV.frz 2 n 1 (u.2.map I) (AV.frz 1 n 1 (u.1.map I) (.tup [.ms 1 1 n 0 n, .ms 1 2 n 0 n, I 0])) = .tup [.vs 1 (u.1.map I), .vs 1 (u.2.map I), I 0] := by
      show AV.tup [AV.frz 2 n 1 (u.2.map I) (AV.frz 1 n 1 (u.1.map I) (.ms 1 1 n 0 n)), AV.frz 2 n 1 (u.2.map I) (AV.frz 1 n 1 (u.1.map I) (.ms 1 2 n 0 n)), I 0] = _
      rw [e1, e3, e2, e4]
    rw [e5]
    exact Frees.drop0 h (by simp [AV.nidL, AV.nid, hni])
  obtain ⟨A, hA⟩ : ∃ A, A = std := ⟨_, rfl⟩
  have hne : ∀ x y, A.ne x y = decide (x ≠ y) := by subst hA; intro x y; simp only [std, iNe]; rw [Bool.eq_iff_iff]; simp
  have hee : ∀ x y, A.eq x y = decide (x = y) := by subst hA; intro x y; exact iEq_dec _ _
  have hll : ∀ x y, A.lt x y = decide (x < y) := by subst hA; intro x y; rfl
  have hle : ∀ x y, A.le x y = decide (x ≤ y) := by subst hA; intro x y; rfl
  have hnb : ∀ b, A.bnot b = !b := by subst hA; intro b; rfl
  have hbd : ∀ x y, A.band x y = (x && y) := by subst hA; intro x y; rfl
  have hsg : ∀ g, A.sg g g := by subst hA; exact fun _ => rfl
  refine go60 rfl (SGo_run hA ⟨[], [1000031], (36, eSurE) :: (80, eIn) :: [], []⟩ (.cons (eSurE_ok p36) (.cons (eIn_ok p80) .nil)) .nil 200 fun T TD hT hTD => ?_)
  cbv
  refine Exists.intro rs (Exists.intro l (And.intro hxs (And.intro hls (And.intro h1 (And.intro h2 ?_)))))
  intro q hq; cbv
  split <;> cbv
  · rename_i hz
    have hz : q ≠ 0 := of_decide_eq_true ((hne q 0).symm.trans hz)
    refine hw q _ ?_ hz
    rw [hE]; unfold planE orElse; rw [← hq, if_neg hz]
  rename_i hz
  have hz : q = 0 := by have hz := of_decide_eq_false ((hne q 0).symm.trans hz); simpa using hz
  obtain ⟨ho, hs2, hlo⟩ := surE_ok.1 (hq.symm.trans hz)
  have hE1 : E = if ¬(0 ≤ t ∧ t ≤ 10000) then 2 else if ¬(1 ≤ k ∧ k ≤ 3) then 4 else 0 := by rw [hE]; unfold planE orElse; rw [surE_ok.2 ⟨ho, hs2, hlo⟩, if_pos rfl]
  clear hz hq
  intro q1 hq1; cbv
  split <;> cbv
  · rename_i hz
    have hz : q1 = false := by have hz := (hnb q1).symm.trans hz; simpa using hz
    rw [hq1, decide_eq_false_iff_not] at hz
    exact hw 2 _ (by rw [hE1, if_pos hz]) (by decide)
  rename_i hz
  have hz : q1 = true := by have hz := (hnb q1).symm.trans hz; simpa using hz
  rw [hq1, decide_eq_true_eq] at hz
  rw [if_neg (fun h => h hz)] at hE1
  intro q2 hq2; cbv
  split <;> cbv
  · rename_i hz2
    have hz2 : q2 = false := by have hz := (hnb q2).symm.trans hz2; simpa using hz
    rw [hq2, decide_eq_false_iff_not] at hz2
    exact hw 4 _ (by rw [hE1, if_pos hz2]) (by decide)
  rename_i hz2
  have hz2 : q2 = true := by have hz := (hnb q2).symm.trans hz2; simpa using hz
  rw [hq2, decide_eq_true_eq] at hz2
  rw [if_neg (fun h => h hz2)] at hE1
  have hg := hg hE1
  have hlb := hlo.le
  have hpn := ho.le'
  have hRl := ho.ilen
  have hsl := sumLg_bnd' ho
  clear hw
  have hkk : A.sub .i64 k 1 = iLen (k - 1).toNat := by subst hA; show iSub .i64 k 1 = _; rw [iSub_id (by omega) (by omega)]; unfold iLen; omega
  obtain ⟨o, ho3⟩ : ∃ o, o = 1 + (k - 1).toNat := ⟨_, rfl⟩
  have hixo : A.ixm 1 1 1 3 (A.sub .i64 k 1) o := by rw [hkk]; subst hA ho3; exact ⟨rfl, by unfold iLen; omega, by unfold iLen; omega, by unfold iLen; simp⟩
  obtain ⟨sx, hsx⟩ : ∃ x, x = sgtS a b c k := ⟨_, rfl⟩
  have hsb := sgtS_bnd hs2 (k := k)
  rw [← hsx] at hsb
  have hge : A.get none [.vs 5 xs, I a, I b, I c] o (I sx) := by
    subst hA
    have : k = 1 ∨ k = 2 ∨ k = 3 := by omega
    rcases this with rfl | rfl | rfl <;> subst ho3 hsx <;> rfl
  rw [hTD]
  refine SD_run hA ⟨[0], [], [(46, ePlaces)], []⟩ (.cons (ePlaces_ok p46) .nil) .nil 200 200 ?_ fun T TD hT hTD => ?_
  · intro D' hD'; cases hD'; exact SubH.self _
  cbv
  refine And.intro (hsg _) (Exists.intro 1 (And.intro (by subst hA; rfl) ?_)); cbv
  refine And.intro (hsg _) (Exists.intro o (And.intro hixo ?_)); cbv
  refine And.intro (hsg _) (Exists.intro _ (And.intro hge ?_)); cbv
  refine And.intro (hsg _) (Exists.intro (.agg [.vs 5 xs, I a, I b, I c]) (And.intro (by subst hA; rfl) ?_)); cbv
  refine Exists.intro rs (And.intro hxs (And.intro (by have := ho.n2; omega) (And.intro ho.all ?_)))
  intro nn hnn; cbv
  obtain ⟨V, hV⟩ : ∃ V, V = staleS (plc rs) a b c l t := ⟨_, rfl⟩
  obtain ⟨N, hN⟩ : ∃ N, N = (plc rs).length := ⟨_, rfl⟩
  have hRl2 : sumLg rs = iLen N := by rw [← hRl, hN]
  have hnN : nn = iLen N := hnn.trans hRl2
  rw [← hN] at hpn
  rw [← hV, ← hsx, ← hN, hRl2] at hg
  have hN1 : 1 ≤ N := by unfold iLen at hRl2; omega
  have hz1 : A.sub .i64 nn 1 = iLen N - 1 := by rw [hnN]; subst hA; exact iSub_id (by unfold iLen; omega) (by unfold iLen; omega)
  rw [hT]
  refine AGo_nilms 12 1 rfl ?_
  refine AGo_nilms 13 1 rfl ?_
  refine AGo_upE [1, 2, 4, 14, 15] N (fun j (s : Int × List Int × List Int) => s.2 = (planG V sx (iLen N) j).2 ∧ (-1 ≤ s.1 ∧ s.1 ≤ 2000) ∧ (s.1 = (planG V sx (iLen N) j).1 ∨ (iLen N - 1 ≤ s.1 ∧ iLen N - 1 ≤ (planG V sx (iLen N) j).1))) (fun j s i => [(12, .ms 1 1 s.2.1.length 0 s.2.1.length), (13, .ms 1 2 s.2.1.length 0 s.2.1.length), (16, I s.1), (17, I i)])
    (fun j s => [.own 0 [.vs 5 xs, I a, I b, I c], .own s.2.1.length (s.2.1.map I), .own s.2.1.length (s.2.2.map I)]) (-1, [], []) ⟨rfl, by omega, .inl rfl⟩ ⟨rfl, rfl, rfl, rfl, trivial⟩ (.inl rfl) fun j s i hi hj hP Bk hB => ?_
  have hlt : A.lt i nn = decide (j < N) := by rw [hnN, hll, hi, decide_eq_decide]; unfold iLen; omega
  have hadd : ∀ N, j < N → N ≤ 9223372036854775807 → A.add .i64 i 1 = iLen (j + 1) := fun N hj hN => by subst hA; exact add_one hi hj hN
  have hpl := planG_len (V := V) (s := sx) (n := iLen N) (p := j)
  have hpb := planG_bnd (V := V) (n := iLen N) hsb (p := j)
  have hstp : planG V sx (iLen N) (j + 1) = if V j = true ∧ (planG V sx (iLen N) j).1 < i then (i + 2 * sx, (planG V sx (iLen N) j).2.1 ++ [min (i + sx) (iLen N - 1)], (planG V sx (iLen N) j).2.2 ++ [i]) else planG V sx (iLen N) j := by
    simp only [planG]; rw [← hi]
  obtain ⟨PS, hPS⟩ : ∃ x, x = (planG V sx (iLen N) j).1 := ⟨_, rfl⟩
  obtain ⟨hP1, hP2, hP3⟩ := hP
  rw [← hP1] at hpl hstp
  rw [← hPS] at hpb hP3 hstp
  obtain ⟨se, pl, pf⟩ := s
  dsimp only at hpl hpb hstp hP1 hP2 hP3 ⊢
  obtain ⟨n, hn⟩ : ∃ n, n = pl.length := ⟨_, rfl⟩
  obtain ⟨c1, hc1⟩ : ∃ c, c = pl.map I := ⟨_, rfl⟩
  obtain ⟨c2, hc2⟩ : ∃ c, c = pf.map I := ⟨_, rfl⟩
  rw [← hn, ← hc1, ← hc2]
  rw [← hn] at hpl
  have hcl1 : c1.length = n * 1 := by rw [hc1, hn]; simp
  have hcl2 : c2.length = n * 1 := by rw [hc2]; simp; omega
  refine SGo_run hA ⟨[1, 2], [], (95, eStale1) :: [], []⟩ (.cons eStale1_ok .nil) .nil 200 fun T TD hT hTD => ?_
  cbv
  split <;> cbv
  · rename_i hk0
    have hk1 : j < N := by have hz := hlt.symm.trans hk0; simpa using hz
    clear hk0
    have hib : 0 ≤ i ∧ i ≤ 1000 := by rw [hi]; unfold iLen; omega
    have hgt : A.le i se = decide (i ≤ se) := by rw [hle]
    have hjN : i ≤ iLen N - 1 := by rw [hi]; unfold iLen; omega
    have hno : ¬ (V j = true ∧ PS < i) → ∀ e', Fits e' [(12, .ms 1 1 n 0 n), (13, .ms 1 2 n 0 n), (16, I se), (17, I (A.add .i64 i 1))] → Fits e' (keepS [1, 2, 4, 14, 15] [(12, .ms 1 1 n 0 n), (13, .ms 1 2 n 0 n), (16, I se), (17, I i), (1, .vs 5 ls), (2, I t), (4, .mp 0 0 0), (14, I sx), (15, I nn)]) → Bk e' [.own 0 [.vs 5 xs, I a, I b, I c], .own n c1, .own n c2] := fun h0 e' hf hk => by
      rw [if_neg h0] at hstp
      rw [hadd _ hk1 (by omega)] at hf
      rw [hn] at hf
      refine hB (se, pl, pf) _ _ hk1 ⟨by rw [hstp]; exact hP1, hP2, by rw [hstp, ← hPS]; exact hP3⟩ hf hk (.inl ?_)
      dsimp only; rw [← hn, ← hc1, ← hc2]
    split <;> cbv
    · rename_i hz4
      have hz4 := of_decide_eq_true (hgt.symm.trans hz4)
      exact hno (fun hh => by have := hh.2; rcases hP3 with h5 | h5 <;> omega) _ ⟨rfl, rfl, rfl, rfl, trivial⟩ ⟨rfl, rfl, rfl, rfl, rfl, trivial⟩
    rename_i hz4
    have hz4 := of_decide_eq_false (hgt.symm.trans hz4)
    have hPi : PS < i := by rcases hP3 with h5 | h5 <;> omega
    refine Exists.intro rs (Exists.intro l (And.intro hxs (And.intro hls (And.intro ho (And.intro hs2 (And.intro (by omega) (And.intro (hlo.all' ho) (And.intro (And.intro hib.1 (by rw [hRl2]; omega)) (And.intro hz ?_))))))))) 
    intro b1 hb1; cbv
    have hb1 : b1 = V j := by rw [hb1, hV, hi]; rfl
    split <;> cbv
    · rename_i hz5
      have hz5 : b1 = false := by have hz := (hnb b1).symm.trans hz5; simpa using hz
      exact hno (fun hh => by rw [← hb1, hz5] at hh; exact Bool.noConfusion hh.1) _ ⟨rfl, rfl, rfl, rfl, trivial⟩ ⟨rfl, rfl, rfl, rfl, rfl, trivial⟩
    rename_i hz5
    have hz5 : b1 = true := by have hz := (hnb b1).symm.trans hz5; simpa using hz
    rw [if_pos ⟨hb1.symm.trans hz5, hPi⟩] at hstp
    have ha1 : A.add .i64 i sx = i + sx := by subst hA; exact iAdd_id (by omega) (by omega)
    obtain ⟨at', hat⟩ : ∃ x, x = A.min (A.sub .i64 nn 1) (A.add .i64 i sx) := ⟨_, rfl⟩
    have hmn : at' = min (i + sx) (iLen N - 1) := by rw [hat, ha1, hz1]; subst hA; simp only [std, iMin_eq]; omega
    have hNb : iLen N ≤ 1000 := by unfold iLen; omega
    have ha2 : A.add .i64 at' sx = at' + sx := by subst hA; exact iAdd_id (by omega) (by omega)
    rw [hat] at ha2
    obtain ⟨d1, hd1⟩ : ∃ x, x = c1 ++ [I (A.min (A.sub .i64 nn 1) (A.add .i64 i sx))] := ⟨_, rfl⟩
    obtain ⟨d2, hd2⟩ : ∃ x, x = c2 ++ [I i] := ⟨_, rfl⟩
    refine And.intro (hsg _) (Exists.intro d1 (Exists.intro (n + 1) (And.intro (by subst hA; rw [hd1]; exact app_one hcl1 rfl (by omega)) (And.intro rfl ?_))))
    cbv
    refine And.intro (hsg _) (Exists.intro d2 (Exists.intro (n + 1) (And.intro (by subst hA; rw [hd2]; exact app_one hcl2 rfl (by omega)) (And.intro rfl ?_))))
    cbv
    rw [← hat, hmn] at hd1
    rw [← hat] at ha2
    have hln : ∀ x, (pl ++ [x]).length = n + 1 := fun x => by rw [List.length_append, ← hn]; rfl
    refine hB (at' + sx, pl ++ [min (i + sx) (iLen N - 1)], pf ++ [i]) _ _ hk1 ⟨by rw [hstp], by dsimp only; omega, ?_⟩ ?_ ⟨rfl, rfl, rfl, rfl, rfl, trivial⟩ (.inl ?_)
    · rw [hstp]; dsimp only
      by_cases h7 : i + sx ≤ iLen N - 1
      · exact .inl (by omega)
      · exact .inr (by omega)
    · dsimp only; rw [hln]; exact ⟨rfl, rfl, congrArg I ((congrArg (fun x => A.add .i64 x sx) hat.symm).trans ha2), congrArg I (hadd _ hk1 (by omega)), trivial⟩
    · dsimp only; rw [hln, List.map_append, List.map_append, ← hc1, ← hc2, hd1, hd2]; rfl
  · rename_i hk0
    have hk1 : ¬ j < N := by have hz := hlt.symm.trans hk0; simpa using hz
    clear hk0
    rw [show j = N by omega] at hP1
    exact hg n c1 c2 _ hP1 hn (by dsimp only; omega) hc1 hc2 _
end Go.Sas
