/-
Probe: the reference's Lasts: contract.
Conditions: none.
-/
import Derived.Test.YtajegdbljldakaaQR76
import Derived.Test.YtajegdbljldakaaQR77
set_option linter.unusedVariables false
set_option linter.unusedSimpArgs false
namespace Go.Sas
open Go.Proofs
set_option maxRecDepth 100000
theorem why_none {R : List Rch} {a b c : Int} {l : List Lk} {m : List Mrk} {need h : Int} {p N : Nat} (hN : N = R.length) (hm : ∀ x ∈ m, MkOk (iLen N) x) (hp : p < N) (h1 : ¬ (knowS R l p h).1 < need) (h2 : ∀ i < m.length, (covB m i h N).1 p = false) (h3 : staleS R a b c l h p = false) : whyS R a b c l m need h p = 0 := by
  unfold whyS
  rw [if_neg h1, ← hN, if_neg ?_, if_neg (by rw [h3]; simp)]
  intro hq
  have := (may_verd hm hp).1 hq
  unfold mayB at this
  rw [List.any_eq_true] at this
  obtain ⟨j, hj, h4⟩ := this
  rw [h2 j (List.mem_range.1 hj)] at h4; cases h4
theorem why_thin {R : List Rch} {a b c : Int} {l : List Lk} {m : List Mrk} {need h : Int} {p : Nat} (h1 : (knowS R l p h).1 < need) : whyS R a b c l m need h p ≠ 0 := by
  unfold whyS; rw [if_pos h1]; decide
theorem why_mark {R : List Rch} {a b c : Int} {l : List Lk} {m : List Mrk} {need h : Int} {p N i : Nat} (hN : N = R.length) (hm : ∀ x ∈ m, MkOk (iLen N) x) (hp : p < N) (hi : i < m.length) (h1 : (covB m i h N).1 p = true) : whyS R a b c l m need h p ≠ 0 := by
  have : verdS m h (iLen N) p ≠ 2 := (may_verd hm hp).2 (by unfold mayB; rw [List.any_eq_true]; exact ⟨i, List.mem_range.2 hi, h1⟩)
  unfold whyS; rw [← hN]
  split
  · decide
  · first | decide | (rw [if_pos this]; decide)
theorem why_stale {R : List Rch} {a b c : Int} {l : List Lk} {m : List Mrk} {need h : Int} {p : Nat} (h1 : staleS R a b c l h p = true) : whyS R a b c l m need h p ≠ 0 := by
  unfold whyS
  split
  · decide
  · split
    · decide
    · first | decide | (rw [if_pos h1]; decide)
set_option maxHeartbeats 2000000 in
theorem p55 (rs : List Rch) (a b c : Int) (l : List Lk) (m : List Mrk) (need h0 pl : Int) (h1 : rs.length ≤ 9223372036854775807) (h2 : l.length ≤ 9223372036854775807) (h3 : m.length ≤ 9223372036854775807) (_ : m.length ≤ 19 ∨ 100 < m.length) (H : AHeap) {Kk : AV → AHeap → Prop}
    (h : ∀ v e, LastQ rs a b c l m need h0 pl v e → Kk (.tup [I v, I e]) H) : ACalls Try.prog 55 [svV (.vs 5 (rs.map rcV)) a b c, .vs 5 (l.map lkV), .vs 5 (m.map mkV), I need, I h0, I pl] H Kk := by
  have hnr := nidL_rc rs
  refine (fun q => pureQ (Q := fun r => ∃ v e, r = .tup [I v, I e] ∧ LastQ rs a b c l m need h0 pl v e) (by simp [AV.nidL, AV.nid, hnr, nidL_map (g := lkV) (fun _ => rfl) l, nidL_map (g := mkV) (fun _ => rfl) m]) (by rintro r ⟨v, e, rfl, _⟩; rfl) q H (by rintro r ⟨v, e, rfl, hq⟩; exact h v e hq)) ?_
  clear h
  intro Kk h
  have h : ∀ v e H, LastQ rs a b c l m need h0 pl v e → Frees 0 Kk (.tup [I v, I e]) H := fun v e H hq => Frees.drop0 (h _ ⟨v, e, rfl, hq⟩) rfl
  obtain ⟨F, hF⟩ : ∃ F, F = Frees 0 Kk := ⟨_, rfl⟩
  rw [← hF] at h ⊢
  obtain ⟨xs, hxs⟩ : ∃ xs, xs = rs.map rcV := ⟨_, rfl⟩
  obtain ⟨ls, hls⟩ : ∃ ys, ys = l.map lkV := ⟨_, rfl⟩
  obtain ⟨ms, hms⟩ : ∃ ys, ys = m.map mkV := ⟨_, rfl⟩
  rw [← hxs, ← hls, ← hms]
  obtain ⟨N, hN⟩ : ∃ N, N = (plc rs).length := ⟨_, rfl⟩
  have hw1 : ∀ e H, e = askE rs a b c l m need h0 → e ≠ 0 → F (.tup [I 0, I e]) H := fun e H he h0 => h _ _ H ⟨fun _ => ⟨rfl, he⟩, fun hq => absurd (he.trans hq) h0, fun hq => absurd (he.trans hq) h0⟩
  have hw2 : askE rs a b c l m need h0 = 0 → ∀ H, ¬ (0 ≤ pl ∧ pl ≤ iLen N - 1) → F (.tup [I 0, I 7]) H := fun h0 H hq => h _ _ H ⟨fun h => absurd h0 h, fun _ _ => ⟨rfl, rfl⟩, fun _ h => absurd h (by rw [← hN]; exact hq)⟩
  have hw3 : askE rs a b c l m need h0 = 0 → 0 ≤ pl ∧ pl ≤ iLen N - 1 → ∀ r v H, FstR (shutQ (plc rs) a b c l m need h0 pl.toNat) (10001 - h0).toNat r → v = (if r = 0 then -1 else h0 + iLen r - 1) → F (.tup [I v, I 0]) H := fun h0 hp r v H hr hv => h _ _ H ⟨fun h => absurd h0 h, fun _ h => absurd (by rw [← hN]; exact hp) h, fun _ _ => ⟨rfl, r, hr, hv⟩⟩
  clear h
  obtain ⟨A, hA⟩ : ∃ A, A = std := ⟨_, rfl⟩
  have hne : ∀ x y, A.ne x y = decide (x ≠ y) := by subst hA; intro x y; simp only [std, iNe]; rw [Bool.eq_iff_iff]; simp
  have hee : ∀ x y, A.eq x y = decide (x = y) := by subst hA; intro x y; exact iEq_dec _ _
  have hll : ∀ x y, A.lt x y = decide (x < y) := by subst hA; intro x y; rfl
  have hle : ∀ x y, A.le x y = decide (x ≤ y) := by subst hA; intro x y; rfl
  have hnb : ∀ b, A.bnot b = !b := by subst hA; intro b; rfl
  have hbd : ∀ x y, A.band x y = (x && y) := by subst hA; intro x y; rfl
  have hsg : ∀ g, A.sg g g := by subst hA; exact fun _ => rfl
  refine go55 rfl (SGo_run hA ⟨[], [], (88, eGate) :: (46, ePlaces) :: (80, eIn) :: (90, ePastL) :: (91, ePastM) :: [], []⟩ (.cons eGate_ok (.cons (ePlaces_ok p46) (.cons (eIn_ok p80) (.cons ePastL_ok (.cons ePastM_ok .nil))))) .nil 200 fun T TD hT hTD => ?_)
  cbv
  refine Exists.intro rs (Exists.intro l (Exists.intro m (And.intro ⟨hxs, hls, hms, h1, h2, h3⟩ ?_)))
  intro q hq; cbv
  split <;> cbv
  · rename_i hz
    have hz : q ≠ 0 := of_decide_eq_true ((hne q 0).symm.trans hz)
    exact hw1 q _ hq hz
  rename_i hz
  have hz : q = 0 := by have hz := of_decide_eq_false ((hne q 0).symm.trans hz); simpa using hz
  have hE0 := hq.symm.trans hz
  clear hw1 hz hq
  obtain ⟨ho, hs, hlo, hm1, hm2, _, hh⟩ := askE_ok.1 hE0
  have hw2 := hw2 hE0
  have hw3 := hw3 hE0
  have hll1 := hlo.le
  have hpn := ho.le'
  have hp1 : 1 ≤ (plc rs).length := ho.plc.pos
  have hRl := ho.ilen
  rw [← hN] at hpn hp1 hRl
  refine Exists.intro rs (And.intro hxs (And.intro (by have := ho.n2; omega) (And.intro ho.all ?_)))
  intro nn hnn; cbv
  have hnn : nn = iLen N := hnn.trans hRl.symm
  have hz1 : A.sub .i64 nn 1 = iLen N - 1 := by rw [hnn]; subst hA; exact iSub_id (by unfold iLen; omega) (by unfold iLen; omega)
  intro b1 hb1; cbv
  have hb1 : b1 = decide (0 ≤ pl ∧ pl ≤ iLen N - 1) := by rw [← hz1]; exact hb1
  split <;> cbv
  · rename_i hz
    have hz : b1 = false := by have hz := (hnb b1).symm.trans hz; simpa using hz
    rw [hb1, decide_eq_false_iff_not] at hz
    exact hw2 _ hz
  rename_i hz
  have hz : b1 = true := by have hz := (hnb b1).symm.trans hz; simpa using hz
  rw [hb1, decide_eq_true_eq] at hz
  have hw3 := hw3 hz
  clear hw2 hb1
  refine Exists.intro l (And.intro ⟨hls, by omega⟩ ?_)
  intro la hla; cbv
  refine Exists.intro m (And.intro ⟨hms, by omega⟩ ?_)
  intro ma hma; cbv
  refine Exists.intro rs (And.intro hxs (And.intro (by have := ho.n2; omega) (And.intro ho.all ?_)))
  intro n2 hn2; cbv
  have hn2 : n2 = iLen N := hn2.trans hRl.symm
  obtain ⟨ll, hll2⟩ : ∃ x, x = pastL l h0 := ⟨_, rfl⟩
  obtain ⟨ml, hml⟩ : ∃ x, x = pastM m h0 := ⟨_, rfl⟩
  rw [← hll2] at hla
  rw [← hml] at hma
  have hllL : ll.length ≤ 1000000 := by have := pastL_len (l := l) (h := h0); rw [hll2]; omega
  have hmlL : ml.length ≤ 100 := by have := pastM_len (l := m) (h := h0); rw [hml]; omega
  have hlkO : ∀ x ∈ ll, LkOk (sumLg rs) x := fun x hx => hlo.all' ho x (pastL_mem (by rw [← hll2]; exact hx))
  have hmkO : ∀ x ∈ ml, MkOk (iLen N) x := fun x hx => by rw [hRl]; exact hm2 x (pastM_mem (by rw [← hml]; exact hx))
  have hmlh : ∀ x ∈ ml, x.h ≤ h0 := fun x hx => pastM_h x (by rw [← hml]; exact hx)
  obtain ⟨p, hpp⟩ : ∃ p : Nat, pl = iLen p := ⟨pl.toNat, by unfold iLen; omega⟩
  have hpn2 : pl.toNat = p := by rw [hpp]; unfold iLen; omega
  have hpN : p < N := by unfold iLen at hpp hz; omega
  obtain ⟨N1, hN1⟩ : ∃ N1 : Nat, N1 = (10001 - h0).toNat := ⟨_, rfl⟩
  obtain ⟨Q, hQ⟩ : ∃ Q, Q = shutQ (plc rs) a b c l m need h0 pl.toNat := ⟨_, rfl⟩
  rw [← hQ, ← hN1] at hw3
  have hQn : ∀ n, Q n = decide (whyS (plc rs) a b c ll ml need (h0 + iLen n) p ≠ 0) := fun n => by rw [hQ, hll2, hml, ← hpn2]; rfl
  obtain ⟨K, hK⟩ : ∃ K, K = ml.length := ⟨_, rfl⟩
  obtain ⟨RO, hRO⟩ : ∃ f : Nat → Int → AV, f = fun i h => AV.vs 1 (covR N (covB ml i h N).1) := ⟨_, rfl⟩
  rw [hT]
  refine AGo_nilms 17 1 rfl ?_
  have hmal : ma.length = K := by rw [hma, List.length_map, hK]
  refine AGo_upE [1, 2, 3, 4, 5, 6, 15, 16] K (fun j (_ : Unit) => True) (fun j _ i => [(17, .ms 1 1 j 0 j), (18, I i)]) (fun j _ => [.own 0 [.vs 5 xs, I a, I b, I c], .own j (rowA j fun i => RO i h0)]) () trivial ⟨rfl, rfl, trivial⟩ (.inl rfl) fun j _ i hi hj hP Bk hB => ?_
  have hvm : A.vlen ma = iLen K := by subst hA; rw [← hmal]; rfl
  have hlt : A.lt i (A.vlen ma) = decide (j < K) := by rw [hvm, hll, hi, decide_eq_decide]; unfold iLen; omega
  have hadd : ∀ N, j < N → N ≤ 9223372036854775807 → A.add .i64 i 1 = iLen (j + 1) := fun N hj hN => by subst hA; exact add_one hi hj hN
  obtain ⟨c1, hc1⟩ : ∃ r, r = rowA j fun i => RO i h0 := ⟨_, rfl⟩
  rw [← hc1]
  refine SGo_run hA ⟨[1], [], (94, eCovR) :: [], []⟩ (.cons eCovR_ok .nil) .nil 200 fun T TD hT hTD => ?_
  cbv
  split <;> cbv
  · rename_i hk0
    have hk1 : j < K := by have hz := hlt.symm.trans hk0; simpa using hz
    clear hk0
    refine Exists.intro ml (Exists.intro j (Exists.intro N (And.intro ⟨hn2, hma, hi, ⟨hp1, hpn⟩, by omega, by omega, hmkO, hh⟩ ?_)))
    intro ys zs hys hzs; cbv
    have hc1l : c1.length = j * 1 := by rw [hc1, rowA_len]; omega
    obtain ⟨c2, hc2⟩ : ∃ x, x = c1 ++ [AV.vs 1 ys] := ⟨_, rfl⟩
    have happ : A.app 1 1 24 c1 0 j [.vs 1 ys] c2 (j + 1) := by subst hA; rw [hc2]; exact app_one hc1l rfl (by omega)
    refine And.intro (hsg _) (Exists.intro c2 (Exists.intro (j + 1) (And.intro happ (And.intro rfl ?_)))); cbv
    refine hB () _ _ hk1 trivial ⟨rfl, congrArg I (hadd _ hk1 (by omega)), trivial⟩ ⟨rfl, rfl, rfl, rfl, rfl, rfl, rfl, rfl, trivial⟩ (.inl ?_)
    rw [hc2, hc1, hys]; unfold rowA; rw [List.range_succ, List.map_append, hRO]; rfl
  · rename_i hk0
    have hk1 : ¬ j < K := by have hz := hlt.symm.trans hk0; simpa using hz
    clear hk0
    obtain rfl : K = j := by omega
    clear hB hadd hlt
    obtain ⟨CE, hCE⟩ : ∃ f : Nat → Nat → List AV, f = fun n i => rowA K fun i' => RO i' (h0 + iLen (if i' < i then n + 1 else n)) := ⟨_, rfl⟩
    have hC0 : c1 = CE 0 0 := by
      rw [hc1, hCE]; refine rowA_congr fun q _ => ?_
      rw [if_neg (by omega), show h0 + iLen 0 = h0 by unfold iLen; omega]
    have hCn : ∀ n, CE n K = CE (n + 1) 0 := fun n => by
      rw [hCE]; refine rowA_congr fun q hq => ?_
      rw [if_pos hq, if_neg (by omega)]
    rw [hT]
    refine AGo_whileE (σ := Nat) [1, 2, 3, 5, 6, 17] (fun n => N1 - n) (fun n => n ≤ N1 ∧ ∀ i < n, Q i = false) (fun n => [(15, I (if n = 0 then -1 else h0 + iLen n - 1)), (21, I (h0 + iLen n))]) (fun n => [.own 0 [.vs 5 xs, I a, I b, I c], .own K (CE n 0)]) 0 ⟨Nat.zero_le _, fun i hi => absurd hi (Nat.not_lt_zero _)⟩ ⟨rfl, congrArg I (by unfold iLen; omega), trivial⟩ (.inl (by rw [hC0])) fun n hP2 Bk hB => ?_
    obtain ⟨hnN, hbef⟩ := hP2
    obtain ⟨lv, hlv⟩ : ∃ x, x = if n = 0 then (-1 : Int) else h0 + iLen n - 1 := ⟨_, rfl⟩
    obtain ⟨ih, hih⟩ : ∃ x, x = h0 + iLen n := ⟨_, rfl⟩
    rw [← hlv, ← hih]
    obtain ⟨c2, hc2⟩ : ∃ r, r = CE n 0 := ⟨_, rfl⟩
    rw [← hc2]
    have hQn := hQn n
    rw [← hih] at hQn
    have hleh : A.le ih 10000 = decide (n < N1) := by rw [hle, decide_eq_decide, hih, hN1]; unfold iLen; omega
    have hret : whyS (plc rs) a b c ll ml need ih p ≠ 0 → n < N1 → ∀ H, F (.tup [I lv, I 0]) H := fun hw hn H => hw3 n lv H ⟨hnN, hbef, fun _ => by rw [hQn, decide_eq_true hw]⟩ hlv
    refine SGo_run hA ⟨[1], [], (87, eKnow) :: (95, eStale1) :: [], []⟩ (.cons eKnow_ok (.cons eStale1_ok .nil)) .nil 200 fun T TD hT hTD => ?_
    cbv
    split <;> cbv
    · rename_i hz5
      have hn1 : n < N1 := of_decide_eq_true (hleh.symm.trans hz5)
      have hihb : 0 ≤ ih ∧ ih ≤ 10000 := by rw [hih]; unfold iLen; omega
      have hplb : 0 ≤ pl ∧ pl < sumLg rs := by rw [← hRl]; omega
      refine Exists.intro rs (Exists.intro ll (And.intro hxs (And.intro hla (And.intro ho (And.intro hllL (And.intro hlkO (And.intro hplb (And.intro hihb ?_))))))))
      intro u v huv; cbv
      rw [hpn2] at huv
      have hu : u = (knowS (plc rs) ll p ih).1 := congrArg Prod.fst huv
      have hlu : A.lt u need = decide (u < need) := hll _ _
      split <;> cbv
      · rename_i hz6
        have hz6 := of_decide_eq_true (hlu.symm.trans hz6)
        exact hret (why_thin (by rw [← hu]; exact hz6)) hn1 _
      rename_i hz6
      have hz6 := of_decide_eq_false (hlu.symm.trans hz6)
      refine Exists.intro rs (Exists.intro ll (And.intro hxs (And.intro hla (And.intro ho (And.intro hs (And.intro hllL (And.intro hlkO (And.intro hplb (And.intro hihb ?_)))))))))
      intro st hst; cbv
      have hst : st = staleS (plc rs) a b c ll ih p := by rw [hst]; rw [hpn2]
      cases st with
      | true => cbv; exact hret (why_stale hst.symm) hn1 _
      | false =>
      cbv
      rw [hT]
      refine AGo_whileE (σ := Nat) [1, 2, 3, 5, 6, 15, 17, 21] (fun i => K - i) (fun i => i ≤ K ∧ ∀ i' < i, (covB ml i' ih N).1 p = false) (fun i => [(22, I (iLen i))]) (fun i => [.own 0 [.vs 5 xs, I a, I b, I c], .own K (CE n i)]) 0 ⟨Nat.zero_le _, fun i hi => absurd hi (Nat.not_lt_zero _)⟩ ⟨rfl, trivial⟩ (.inl (by rw [hc2])) fun i hP3 Bk2 hB2 => ?_
      obtain ⟨hiK, hno⟩ := hP3
      obtain ⟨ii, hii⟩ : ∃ x, x = iLen i := ⟨_, rfl⟩
      rw [← hii]
      obtain ⟨c3, hc3⟩ : ∃ r, r = CE n i := ⟨_, rfl⟩
      rw [← hc3]
      have hlK : A.len K = iLen K := by subst hA; rfl
      have hlt : A.lt ii (A.len K) = decide (i < K) := by rw [hlK, hll, hii, decide_eq_decide]; unfold iLen; omega
      refine SGo_run hA ⟨[1], [2000001], (96, eSprV) :: [], []⟩ (.cons eSprV_ok .nil) .nil 200 fun T TD hT hTD => ?_
      cbv
      split <;> cbv
      · rename_i hz7
        have hi1 : i < K := of_decide_eq_true (hlt.symm.trans hz7)
        have hadi : A.add .i64 ii 1 = iLen (i + 1) := by subst hA; exact add_one (N := 1000) hii (by omega) (by omega)
        have hixo : A.ixm 1 1 0 K ii i := by subst hA; exact ixm1 hii hi1
        obtain ⟨row, hrow⟩ : ∃ r, r = covR N (covB ml i ih N).1 := ⟨_, rfl⟩
        have hget : A.get none c3 i (.vs 1 row) := by
          subst hA; rw [hc3, hCE]; refine getS_rowA hi1 ?_
          rw [if_neg (by omega), hRO, hrow, hih]
        obtain ⟨bv, hbv⟩ : ∃ x, x = (covB ml i ih N).1 p := ⟨_, rfl⟩
        have hixp : A.ix 1 1 row pl [B bv] := by rw [hbv]; exact covR_ix hA hrow hpp hpN
        refine And.intro (hsg _) (And.intro (hsg _) (Exists.intro i (And.intro hixo ?_))); cbv
        refine And.intro (hsg _) (Exists.intro _ (And.intro hget ?_)); cbv
        refine Exists.intro _ (And.intro hixp ?_); cbv
        cases bv with
        | true => cbv; exact hret (why_mark hN hmkO hpN (by omega) hbv.symm) hn1 _
        | false =>
        cbv
        obtain ⟨⟨yk, yf, yt, yh, ysp⟩, hy⟩ : ∃ y, ml[i]? = some y := ⟨_, List.getElem?_eq_getElem (by omega)⟩
        obtain ⟨o1, o2, o3, o4, o5, o6⟩ := hmkO _ (List.mem_of_getElem? hy)
        dsimp only at o6
        have hixm : A.ix 5 5 ma ii [I yk, I yf, I yt, I yh, I ysp] := by subst hA; exact ix_map hma hii hy rfl
        have hgd : ml.getD i mk0 = ⟨yk, yf, yt, yh, ysp⟩ := by rw [List.getD_eq_getElem?_getD, hy]; rfl
        refine And.intro (hsg _) (Exists.intro i (And.intro hixo ?_)); cbv
        refine And.intro (hsg _) (Exists.intro _ (And.intro hget ?_)); cbv
        refine Exists.intro _ (And.intro hixm ?_); cbv
        refine Exists.intro N (Exists.intro (covB ml i ih N).1 (And.intro ⟨hrow, hpn, o6⟩ ?_))
        intro ys hys; cbv
        obtain ⟨c4, hc4⟩ : ∃ r, r = CE n (i + 1) := ⟨_, rfl⟩
        have hup : A.upd 1 c3 i [.vs 1 ys] c4 := by
          subst hA; rw [hc3, hc4, hCE]
          refine updS_rowA hi1 fun q _ => ?_
          by_cases hq : q = i
          · rw [if_pos hq, if_pos (by omega), hq, hRO, hys]
            dsimp only
            congr 2
            rw [show h0 + iLen (n + 1) = ih + 1 by rw [hih]; unfold iLen; omega]
            funext x
            rw [cov_grow (by omega) (fun x hx => by have := hmlh x hx; rw [hih]; unfold iLen; omega), hgd]
          · rw [if_neg hq]; simp only [show q < i + 1 ↔ q < i by omega]
        refine And.intro (hsg _) (Exists.intro i (And.intro hixo ?_)); cbv
        refine And.intro (hsg _) (Exists.intro _ (And.intro hup ?_)); cbv
        exact hB2 (i + 1) _ _ (by omega) ⟨hi1, fun i' hi' => by
          by_cases hq : i' = i
          · rw [hq]; exact hbv.symm
          · exact hno i' (by omega)⟩ ⟨congrArg I hadi, trivial⟩ ⟨rfl, rfl, rfl, rfl, rfl, rfl, rfl, rfl, trivial⟩ (.inl (by rw [hc4]))
      · rename_i hz7
        have hi1 : ¬ i < K := of_decide_eq_false (hlt.symm.trans hz7)
        have hiK2 : i = K := by omega
        have hadn : A.add .i64 ih 1 = h0 + iLen (n + 1) := by subst hA; show iAdd .i64 ih 1 = _; rw [iAdd_id (by omega) (by omega), hih]; unfold iLen; omega
        have hw0 : whyS (plc rs) a b c ll ml need ih p = 0 := why_none hN hmkO hpN (by rw [← hu]; exact hz6) (fun i' hi' => hno i' (by omega)) hst.symm
        refine And.intro (hsg _) ?_
        exact hB (n + 1) _ _ (by omega) ⟨by omega, fun i' hi' => by
          by_cases hq : i' = n
          · rw [hq, hQn, hw0]; rfl
          · exact hbef i' (by omega)⟩ ⟨congrArg I (by rw [if_neg (by omega), hih]; unfold iLen; omega), congrArg I hadn, trivial⟩ ⟨rfl, rfl, rfl, rfl, rfl, rfl, trivial⟩ (.inl (by rw [hc3, hiK2, hCn]))
    · rename_i hz5
      have hn1 : ¬ n < N1 := of_decide_eq_false (hleh.symm.trans hz5)
      exact hw3 n lv _ ⟨hnN, hbef, fun hn => absurd hn hn1⟩ hlv
end Go.Sas
