/-
ProbeFewest: the law's core.
Conditions: none.
-/
import Derived.Test.YtajegdbljldakaaPP
import Derived.Test.YtajegdbljldakaaPS
import Derived.Test.YtajegdbljldakaaQRL13
set_option linter.unusedVariables false
set_option linter.unusedSimpArgs false
namespace Go.Sas
open Go.Proofs
set_option maxRecDepth 100000
set_option maxHeartbeats 2000000 in
theorem core13 (nums : List Int) (hn1 : nums.length ≤ 9223372036854775807) : ACalls Try.prog 13 [.vs 1 (nums.map I)] [] fun r _ => r = .lit (.bool true) := by
  obtain ⟨Kk, hKk⟩ : ∃ K : AV → AHeap → Prop, K = fun r _ => r = .lit (.bool true) := ⟨_, rfl⟩
  rw [← hKk]
  have h : ∀ H, Kk (B true) H := fun H => by rw [hKk]
  clear hKk
  obtain ⟨xn, hxn⟩ : ∃ ys, ys = nums.map I := ⟨_, rfl⟩
  rw [← hxn]
  obtain ⟨A, hA⟩ : ∃ A, A = std := ⟨_, rfl⟩
  have hne : ∀ x y, A.ne x y = decide (x ≠ y) := by subst hA; intro x y; simp only [std, iNe]; rw [Bool.eq_iff_iff]; simp
  have hee : ∀ x y, A.eq x y = decide (x = y) := by subst hA; intro x y; exact iEq_dec _ _
  have hll : ∀ x y, A.lt x y = decide (x < y) := by subst hA; intro x y; rfl
  have hle : ∀ x y, A.le x y = decide (x ≤ y) := by subst hA; intro x y; rfl
  have hnb : ∀ b, A.bnot b = !b := by subst hA; intro b; rfl
  have hbd : ∀ x y, A.band x y = (x && y) := by subst hA; intro x y; rfl
  have hsg : ∀ g, A.sg g g := by subst hA; exact fun _ => rfl
  refine go13 rfl (SGo_run hA ⟨[2], [0], (57, eStaleR) :: (59, ePlanR) :: [], edP⟩ (.cons (eStaleR_ok p57) (.cons (ePlanR_ok p59) .nil)) edP_ok 200 fun T TD hT hTD => ?_)
  cbv
  refine Exists.intro nums (And.intro ⟨hxn, hn1⟩ ?_)
  intro w1
  cbv
  refine Exists.intro () (And.intro (by omega) ?_)
  rintro w2 _ ⟨rs, a, b, c, TC, l, xs, cr, ls, rfl, hxs, hcr, hls, hD⟩
  cbv
  obtain ⟨ho, hs, hlo⟩ := hD.lks (by omega) (by omega)
  have hPl := ho.plc
  have hRl := ho.ilen
  obtain ⟨R, hR⟩ : ∃ R, R = plc rs := ⟨_, rfl⟩
  rw [← hR] at hcr hlo hPl hRl
  have hcrs : CrsOk R TC 6 := hR ▸ hD.crs
  have hfit : ∀ x ∈ l, LkFit R TC 3 6 x := hR ▸ hD.fit
  obtain ⟨N, hN⟩ : ∃ N, N = R.length := ⟨_, rfl⟩
  rw [← hN] at hcr hRl
  have hN1 : 1 ≤ N := by rw [hN]; exact hPl.pos
  have hN2 : N ≤ 1000 := by rw [hN]; exact hPl.le
  have hlb : l.length ≤ 200 := hlo.le
  have hrl : rs.length ≤ 20 := ho.n2
  have hcv : A.vlen cr = 6 := by subst hA; rw [hcr]; rfl
  have hrow : ∀ i q, q = iLen i → i < 6 → A.ix 1 1 cr q [.vs 1 (crsRow TC N i)] := fun i q hq hi => by subst hA; exact ix_map (f := fun i => AV.vs 1 (crsRow TC N i)) hcr hq (by simp [hi]) rfl
  have hrv : ∀ i, A.vlen (crsRow TC N i) = iLen N := fun i => by subst hA; simp [std, crsRow]
  have hcell : ∀ i p q, q = iLen p → p < N → A.ix 1 1 (crsRow TC N i) q [I (TC i p)] := fun i p q hq hp => by subst hA; exact ix_map (f := I) rfl hq (by simp [hp]) rfl
  have hsur : surE rs a b c l = 0 := surE_ok.2 ⟨ho, hs, hR ▸ hlo⟩
  have hkn : ∀ (p : Nat) (t : Int), p < N → (0 ≤ t ∧ t ≤ 10000) → knownR rs a b c l (iLen p) t = (knowS R l p t, 0) := fun p t hp ht => by
    have : knownE rs a b c l (iLen p) t = 0 := by
      unfold knownE orElse; rw [hsur, if_pos rfl, if_neg (by rw [← hRl]; unfold iLen; omega), if_neg (by omega)]
    unfold knownR; rw [if_pos this, ← hR]; rfl
  refine Exists.intro () (And.intro (by omega) ?_)
  rintro w3 _ ⟨t, rfl, ht1, ht2⟩
  cbv
  refine Exists.intro () (And.intro (by omega) ?_)
  rintro w4 _ ⟨k, rfl, hk1, hk2⟩
  cbv
  have htb : 0 ≤ t ∧ t ≤ 10000 := by omega
  have hkb : 1 ≤ k ∧ k ≤ 3 := by omega
  obtain ⟨V, hV⟩ : ∃ V, V = staleS R a b c l t := ⟨_, rfl⟩
  obtain ⟨u, hu⟩ : ∃ u, u = planG V (sgtS a b c k) (iLen N) N := ⟨_, rfl⟩
  have hsb := sgtS_bnd hs (k := k)
  have hpv := planV (V := V) (n := iLen N) (s := sgtS a b c k) (j := N) hsb.1 (Int.le_refl _)
  rw [← hu] at hpv
  have hplen : u.2.1.length ≤ N := by rw [hu]; exact planG_len.1
  have hpin : ∀ p ∈ u.2.1, 0 ≤ p ∧ p ≤ iLen N - 1 := fun p hp => by
    obtain ⟨i, hi⟩ := List.mem_iff_getElem?.1 hp
    have hi2 := (List.getElem?_eq_some_iff.1 hi).1
    obtain ⟨p2, h5, h6, _, h7, _⟩ := hpv.prf i _ (List.getElem?_eq_getElem (by rw [hpv.len]; exact hi2))
    rw [hi] at h7
    simp only [Option.some.injEq] at h7
    rw [h7, h5]; unfold iLen; omega
  obtain ⟨se, pl, pf⟩ := u
  dsimp only at hplen hpin
  have hpl2 := hpv.len
  dsimp only at hpl2
  have hN20 : N ≤ 20 := by
    have := hD.sv.le
    have h5 : iLen N = sumLg rs := hRl
    unfold iLen at h5; omega
  have hsE : staleE rs a b c l t = 0 := by unfold staleE orElse; rw [hsur, if_pos rfl, if_neg (by omega)]
  have hsR : stalR rs a b c l t = spaS V N := by unfold stalR; rw [if_pos hsE, ← hR, ← hV, ← hN]
  have hpE : planE rs a b c l t k = 0 := by unfold planE orElse; rw [hsur, if_pos rfl, if_neg (by omega), if_neg (by omega)]
  have hpR : planR rs a b c l t k = (pl, pf) := by unfold planR; rw [if_pos hpE, ← hR, ← hV, ← hN, ← hRl, ← hu]
  refine Exists.intro rs (Exists.intro l (And.intro hxs (And.intro hls (And.intro (by omega) (And.intro (by omega) ?_)))))
  intro ys e1 he1 hys; cbv
  rw [hsE] at he1
  rw [hsR] at hys
  subst he1
  refine Exists.intro rs (Exists.intro l (And.intro hxs (And.intro hls (And.intro (by omega) (And.intro (by omega) ?_)))))
  intro pls pfs e2 he2 hpls hpfs; cbv
  rw [hpE] at he2
  rw [hpR] at hpls hpfs
  subst he2
  dsimp only at hpls hpfs
  have hn0 : A.ne 0 0 = false := by subst hA; rfl
  have hl1 : A.vlen pls = iLen pl.length := by subst hA; rw [hpls]; simp [std]
  have hl2 : A.vlen pfs = iLen pl.length := by subst hA; rw [hpfs]; simp [std]; rw [hpl2]
  have hn2 : A.ne (A.vlen pls) (A.vlen pfs) = false := by rw [hl1, hl2, hne]; simp
  have hxl : ∀ n, AV.ltL n xs := fun n => AV.ltL_nid (by rw [hxs]; exact nidL_rc rs)
  split <;> first | (rename_i hz; exact Bool.noConfusion (hz.symm.trans hn0)) | cbv
  split <;> first | (rename_i hz; exact Bool.noConfusion (hz.symm.trans hn0)) | cbv
  split <;> first | (rename_i hz; exact Bool.noConfusion (hz.symm.trans hn2)) | cbv
  have hl4 : l.length ≤ 4 := by have := hD.len; omega
  obtain ⟨L0, hL0⟩ : ∃ n, n = l.length := ⟨_, rfl⟩
  obtain ⟨CC, hCC⟩ : ∃ f : Nat → List AV, f = fun i => (l ++ newL k t (pl.take i)).flatMap lkC := ⟨_, rfl⟩
  obtain ⟨c00, hc00⟩ : ∃ x, x = CC 0 := ⟨_, rfl⟩
  have happ0 : A.app 5 5 40 [] 0 0 ls c00 L0 := by
    subst hA
    have := app_all (sz := 5) (by_ := 40) (n := 0) (cs := []) (c := l.flatMap lkC) (es := ls) rfl (by rw [hls]; exact cellsL_map (f := lkV) (g := lkC) (fun _ => rfl) l) (by rw [hls]; simp; omega)
    rw [hls, List.length_map, Nat.zero_add, ← hL0, List.nil_append] at this
    have h6 : c00 = l.flatMap lkC := by rw [hc00, hCC]; simp [newL]
    rw [h6, hls]; exact this
  refine Exists.intro c00 (Exists.intro L0 (And.intro happ0 (And.intro rfl ?_))); cbv
  obtain ⟨S, hS⟩ : ∃ S, S = spaS V N := ⟨_, rfl⟩
  rw [← hS] at hys
  have hSl : S.length ≤ 1000 := by have := spaS_len (V := V) (n := N); rw [hS]; omega
  have hvy : A.vlen ys = iLen S.length := by subst hA; rw [hys]; simp [std]
  have hCCs : ∀ i p, pl[i]? = some p → CC (i + 1) = CC i ++ lkC ⟨k, p, t, 0, 3000⟩ := fun i p hp => by
    obtain ⟨h1, rfl⟩ := List.getElem?_eq_some_iff.1 hp
    rw [hCC]; dsimp only
    rw [List.take_succ_eq_append_getElem h1]
    have e : newL k t (pl.take i ++ [pl[i]]) = newL k t (pl.take i) ++ [⟨k, pl[i], t, 0, 3000⟩] := by unfold newL; rw [List.map_append]; rfl
    rw [e, ← List.append_assoc, List.flatMap_append]; rfl
  have hCCl : ∀ i, i ≤ pl.length → (CC i).length = (L0 + i) * 5 := fun i hi => by
    rw [hCC]; dsimp only
    rw [len_flat (k := 5) (fun _ => rfl), List.length_append, ← hL0]
    simp [newL]; omega
  have hCCn : ∀ i n, AV.ltL n (CC i) := fun i n => AV.ltL_nid (by rw [hCC]; exact nidL_flat (fun _ => rfl) _)
  rw [hT]
  refine AGo_whileE (σ := Nat) [4, 7, 8, 9, 11, 12] (fun i => pl.length - i) (fun i => i ≤ pl.length) (fun i => [(14, .ms 5 2 i 0 (L0 + i)), (15, I (iLen i))]) (fun i => [.own 0 [U w4], .own 0 [.vs 5 xs, I a, I b, I c], .own i (CC i)]) 0 (Nat.zero_le _) ⟨rfl, rfl, trivial⟩ (.inl (by rw [← hc00])) fun i hi Bk hB => ?_
  obtain ⟨ih, hih⟩ : ∃ q, q = iLen i := ⟨_, rfl⟩
  obtain ⟨c0, hc0⟩ : ∃ x, x = CC i := ⟨_, rfl⟩
  obtain ⟨L1, hL1⟩ : ∃ x, x = L0 + i := ⟨_, rfl⟩
  rw [← hih, ← hc0, ← hL1]
  have hlt : A.lt ih (A.vlen pls) = decide (i < pl.length) := by rw [hl1, hll, hih]; rw [decide_eq_decide]; unfold iLen; omega
  refine SGo_run hA ⟨[2], [1002, 1000137], (21, eSpn) :: [], []⟩ (.cons eSpn_ok .nil) .nil 200 fun T TD hT hTD => ?_
  cbv
  split <;> cbv
  · rename_i hz
    have hip : i < pl.length := of_decide_eq_true (hlt.symm.trans hz)
    obtain ⟨pi, hpi⟩ : ∃ x, pl[i]? = some x := ⟨_, List.getElem?_eq_getElem hip⟩
    obtain ⟨qi, hqi⟩ : ∃ x, pf[i]? = some x := ⟨_, List.getElem?_eq_getElem (by omega)⟩
    have hixp : A.ix 1 1 pls ih [I pi] := by subst hA; exact ix_map (f := I) hpls hih hpi rfl
    have hixq : A.ix 1 1 pfs ih [I qi] := by subst hA; exact ix_map (f := I) hpfs hih hqi rfl
    have hadi : A.add .i64 ih 1 = iLen (i + 1) := by subst hA; exact add_one (N := 1000) hih (by omega) (by omega)
    refine Exists.intro _ (And.intro hixp ?_); cbv
    obtain ⟨c1, hc1⟩ : ∃ x, x = CC (i + 1) := ⟨_, rfl⟩
    have happ : A.app 5 5 40 c0 0 L1 [.agg (lkC ⟨k, pi, t, 0, 3000⟩)] c1 (L1 + 1) := by
      subst hA; rw [hc1, hCCs i pi hpi, ← hc0]; exact app_one (by rw [hc0, hL1]; exact hCCl i hi) rfl (by omega)
    refine And.intro (hsg _) (Exists.intro c1 (Exists.intro (L1 + 1) (And.intro happ (And.intro rfl ?_))))
    cbv
    refine And.intro (by subst hA; first | (simp [std, Keep, SubH, ResK]; done) | exact .inr ⟨⟨rfl, SubH.self _⟩, trivial, .inr fun _ => ⟨rfl, SubH.self _⟩⟩ | exact .inr ⟨SubH.self _, trivial, .inr fun _ => SubH.self _⟩ | exact .inr ⟨by simp [SubH], trivial, .inl rfl⟩ | exact .inr ⟨by simp [SubH], trivial, .inr fun _ => by simp [SubH]⟩) ?_
    cbv
    rw [hT]
    obtain ⟨HG, hHG⟩ : ∃ x, x = [AObj.own 0 [U w4], .own 0 [.vs 5 xs, I a, I b, I c], .own (i + 1) c1] := ⟨_, rfl⟩
    refine AGo_whileE (σ := Nat × Bool) [4, 7, 8, 9, 11, 12, 14, 15] (fun s => S.length - s.1) (fun s => s.1 ≤ S.length ∧ s.2 = (S.take s.1).any fun x => decide (iLen x.1 ≤ qi ∧ qi ≤ iLen x.2.1)) (fun s => [(16, B s.2), (17, I (iLen s.1))]) (fun _ => [.own 0 [U w4], .own 0 [.vs 5 xs, I a, I b, I c], .own (i + 1) c1]) (0, false) ⟨Nat.zero_le _, rfl⟩ ⟨rfl, rfl, trivial⟩ (.inl rfl) fun s hP Bk2 hB2 => ?_
    obtain ⟨j, bb⟩ := s
    obtain ⟨hj1, hj2⟩ := hP
    dsimp only at hj1 hj2 ⊢
    obtain ⟨ij, hij⟩ : ∃ q, q = iLen j := ⟨_, rfl⟩
    rw [← hij]
    have hlt2 : A.lt ij (A.vlen ys) = decide (j < S.length) := by rw [hvy, hll, hij]; rw [decide_eq_decide]; unfold iLen; omega
    refine SGo_run hA ⟨[1], [], (50, eHas) :: [], []⟩ (.cons eHas_ok .nil) .nil 200 fun T TD hT hTD => ?_
    cbv
    split <;> cbv
    · rename_i hz2
      have hjS : j < S.length := of_decide_eq_true (hlt2.symm.trans hz2)
      obtain ⟨⟨x1, x2, x3⟩, hx⟩ : ∃ x, S[j]? = some x := ⟨_, List.getElem?_eq_getElem hjS⟩
      have hixs : A.ix 2 2 ys ij [I (iLen x1), I (iLen x2)] := by subst hA; exact ix_map (f := spaV) hys hij hx rfl
      have hadj : A.add .i64 ij 1 = iLen (j + 1) := by subst hA; exact add_one (N := 1000) hij (by omega) (by omega)
      have htk : ((S.take (j + 1)).any fun x => decide (iLen x.1 ≤ qi ∧ qi ≤ iLen x.2.1)) = (bb || decide (iLen x1 ≤ qi ∧ qi ≤ iLen x2)) := by
        obtain ⟨h8, he⟩ := List.getElem?_eq_some_iff.1 hx
        rw [List.take_succ_eq_append_getElem h8, he, List.any_append, ← hj2]; simp
      cases bb with
      | true =>
        cbv
        exact hB2 (j + 1, true) _ _ (by dsimp only; omega) ⟨by dsimp only; omega, by rw [htk]; rfl⟩ ⟨rfl, congrArg I hadj, trivial⟩ ⟨rfl, rfl, rfl, rfl, rfl, rfl, rfl, rfl, trivial⟩ (.inl rfl)
      | false =>
        cbv
        refine Exists.intro _ (And.intro hixs ?_); cbv
        refine Exists.intro _ (And.intro hixq ?_); cbv
        intro b1 hb1; cbv
        exact hB2 (j + 1, b1) _ _ (by dsimp only; omega) ⟨by dsimp only; omega, by rw [htk, Bool.false_or]; exact hb1⟩ ⟨rfl, congrArg I hadj, trivial⟩ ⟨rfl, rfl, rfl, rfl, rfl, rfl, rfl, rfl, trivial⟩ (.inl rfl)
    · rename_i hz2
      have hjS : ¬ j < S.length := of_decide_eq_false (hlt2.symm.trans hz2)
      obtain ⟨p1, hp1, hp1N, hp1V, hp1l, hp1s⟩ := hpv.prf i qi hqi
      have hbb : bb = true := by
        rw [hj2, List.take_of_length_le (by omega), List.any_eq_true]
        obtain ⟨x, hx, h5, h6⟩ := spaS_has hp1N hp1V
        exact ⟨x, by rw [hS]; exact hx, decide_eq_true (by rw [hp1]; unfold iLen; omega)⟩
      subst hbb
      have hbt : A.bnot true = false := by subst hA; rfl
      have hig : A.lt 0 ih = decide (0 < i) := by rw [hll, hih, decide_eq_decide]; unfold iLen; omega
      have hgo : ∀ e', Fits e' [(14, .ms 5 2 (i + 1) 0 (L1 + 1)), (15, I (A.add .i64 ih 1))] → Fits e' (keepS [4, 7, 8, 9, 11, 12] [(14, .ms 5 2 i 0 L1), (15, I ih), (4, .mp 1 0 0), (7, I t), (8, I k), (9, .vs 2 ys), (11, .vs 1 pls), (12, .vs 1 pfs)]) → Bk e' [.own 0 [U w4], .own 0 [.vs 5 xs, I a, I b, I c], .own (i + 1) c1] := fun e' hf hk => by
        rw [hadi, hL1, Nat.add_assoc] at hf
        exact hB (i + 1) _ _ (by omega) (by omega) hf hk (.inl (by rw [hc1]))
      split <;> first | (rename_i hz; exact Bool.noConfusion (hz.symm.trans hbt)) | cbv
      split <;> cbv
      · rename_i hz5
        have hi0 : 0 < i := of_decide_eq_true (hig.symm.trans hz5)
        obtain ⟨i', hi'⟩ : ∃ i', i = i' + 1 := ⟨i - 1, by omega⟩
        obtain ⟨pj, hpj⟩ : ∃ x, pl[i']? = some x := ⟨_, List.getElem?_eq_getElem (by omega)⟩
        obtain ⟨qj, hqj⟩ : ∃ x, pf[i']? = some x := ⟨_, List.getElem?_eq_getElem (by omega)⟩
        have hsi : A.sub .i64 ih 1 = iLen i' := by subst hA; show iSub .i64 ih 1 = _; rw [hih, hi', iSub_id (by unfold iLen; omega) (by unfold iLen; omega)]; unfold iLen; omega
        have hixpj : A.ix 1 1 pls (A.sub .i64 ih 1) [I pj] := by rw [hsi]; subst hA; exact ix_map (f := I) hpls rfl hpj rfl
        have hixqj : A.ix 1 1 pfs (A.sub .i64 ih 1) [I qj] := by rw [hsi]; subst hA; exact ix_map (f := I) hpfs rfl hqj rfl
        have hnx := hpv.nxt i' qj qi hqj (by rw [← hi']; exact hqi)
        obtain ⟨p2, hp2, hp2N, _, hp2l, _⟩ := hpv.prf i' qj hqj
        dsimp only at hnx hp1l hp2l
        rw [hpi] at hp1l
        rw [hpj] at hp2l
        simp only [Option.some.injEq] at hp1l hp2l
        obtain ⟨sx, hsx⟩ : ∃ x, x = sgtS a b c k := ⟨_, rfl⟩
        rw [← hsx] at hnx hp1l hp2l hsb
        have hqb : 0 ≤ qi ∧ qi ≤ iLen N - 1 ∧ 0 ≤ qj := by rw [hp1, hp2]; unfold iLen; omega
        have hNb : iLen N ≤ 20 := by unfold iLen; omega
        have hkk : A.sub .i64 k 1 = iLen (k - 1).toNat := by subst hA; show iSub .i64 k 1 = _; rw [iSub_id (by omega) (by omega)]; unfold iLen; omega
        obtain ⟨o, ho3⟩ : ∃ o, o = 1 + (k - 1).toNat := ⟨_, rfl⟩
        have hixo : A.ixm 1 1 1 3 (A.sub .i64 k 1) o := by rw [hkk]; subst hA ho3; exact ⟨rfl, by unfold iLen; omega, by unfold iLen; omega, by unfold iLen; simp⟩
        have hge : A.get none [.vs 5 xs, I a, I b, I c] o (I sx) := by
          subst hA
          have : k = 1 ∨ k = 2 ∨ k = 3 := by omega
          rcases this with rfl | rfl | rfl <;> subst ho3 hsx <;> rfl
        have hle1 : A.le (A.sub .i64 qi qj) (A.mul .i64 2 sx) = false := by
          rw [hle]; subst hA; show decide (iSub .i64 qi qj ≤ iMul .i64 2 sx) = false
          rw [iSub_id (by omega) (by omega), iMul_id (by omega) (by omega), decide_eq_false_iff_not]; omega
        have hle2 : A.le pi pj = false := by rw [hle, decide_eq_false_iff_not]; omega
        refine Exists.intro _ (And.intro hixq ?_); cbv
        refine Exists.intro _ (And.intro hixqj ?_); cbv
        refine And.intro (hsg _) (Exists.intro 1 (And.intro (by subst hA; rfl) ?_)); cbv
        refine And.intro (hsg _) (Exists.intro o (And.intro hixo ?_)); cbv
        refine And.intro (hsg _) (Exists.intro _ (And.intro hge ?_)); cbv
        split <;> first | (rename_i hz; exact Bool.noConfusion (hz.symm.trans hle1)) | cbv
        refine Exists.intro _ (And.intro hixp ?_); cbv
        refine Exists.intro _ (And.intro hixpj ?_); cbv
        split <;> first | (rename_i hz; exact Bool.noConfusion (hz.symm.trans hle2)) | cbv
        exact hgo _ ⟨rfl, rfl, trivial⟩ ⟨rfl, rfl, rfl, rfl, rfl, rfl, trivial⟩
      · exact hgo _ ⟨rfl, rfl, trivial⟩ ⟨rfl, rfl, rfl, rfl, rfl, rfl, trivial⟩
  · rename_i hz
    have hip : i = pl.length := by have : ¬ i < pl.length := of_decide_eq_false (hlt.symm.trans hz)
                                   omega
    have hmore := lks_more hPl hlo (k := k) (h := t) (pl := pl) hkb htb (by rw [← hN]; exact hpin) (by omega)
    obtain ⟨lm, hlm⟩ : ∃ x, x = l ++ newL k t pl := ⟨_, rfl⟩
    rw [← hlm] at hmore
    have hcm : c0 = lm.flatMap lkC := by rw [hc0, hCC, hlm, hip]; dsimp only; rw [List.take_length]
    have hE : Elems 5 (lm.map lkV) c0 := by rw [hcm]; exact Elems_map (f := lkV) (g := lkC) (sz := 5) (fun _ => rfl) (fun _ => rfl) (fun _ => rfl) lm
    have hlml : lm.length = L1 := by rw [hlm, hL1, hL0, hip]; simp [newL]
    obtain ⟨ms, hms⟩ : ∃ x, x = lm.map lkV := ⟨_, rfl⟩
    rw [← hms] at hE
    rw [hT]
    refine AGo_frzS 14 (id := 2) (g := i) (sz := 5) (n := L1) (xs := ms) (cs := c0) rfl rfl (by rw [hms]; simp [hlml]) hE ?_
    have hsur2 : surE rs a b c lm = 0 := surE_ok.2 ⟨ho, hs, hR ▸ hmore⟩
    have hsE2 : staleE rs a b c lm t = 0 := by unfold staleE orElse; rw [hsur2, if_pos rfl, if_neg (by omega)]
    have hsR2 : stalR rs a b c lm t = [] := by
      unfold stalR; rw [if_pos hsE2, ← hR, ← hN]
      refine spaS_none fun p hp => ?_
      rw [hV] at hpv
      rw [hlm]; exact stale_plan hpv hPl.all hp
    refine SGo_run hA ⟨[], [], (57, eStaleR) :: (28, eAwake) :: [], []⟩ (.cons (eStaleR_ok p57) (.cons eAwake_ok .nil)) .nil 200 fun T TD hT hTD => ?_
    cbv
    refine Exists.intro rs (Exists.intro lm (And.intro hxs (And.intro hms (And.intro (by omega) (And.intro (by omega) ?_)))))
    intro ys2 e3 he3 hys2; cbv
    rw [hsE2] at he3
    rw [hsR2] at hys2
    subst he3 hys2
    have g1 : A.eq 0 0 = true := by subst hA; rfl
    have g2 : A.eq (A.vlen []) 0 = true := by subst hA; rfl
    split <;> first | (rename_i hz; exact Bool.noConfusion (hz.symm.trans g1)) | cbv
    split <;> first | (rename_i hz; exact Bool.noConfusion (hz.symm.trans g2)) | cbv
    exact h _
end Go.Sas
