/-
ProbeLeast: the law's core.
Conditions: none.
-/
import Derived.Test.YtajegdbljldakaaPP
import Derived.Test.YtajegdbljldakaaQRL8
set_option linter.unusedVariables false
set_option linter.unusedSimpArgs false
namespace Go.Sas
open Go.Proofs
set_option maxRecDepth 100000
theorem core8 (nums : List Int) (hn1 : nums.length ≤ 9223372036854775807) : ACalls Try.prog 8 [.vs 1 (nums.map I)] [] fun r _ => r = .lit (.bool true) := by
  obtain ⟨Kk, hKk⟩ : ∃ K : AV → AHeap → Prop, K = fun r _ => r = .lit (.bool true) := ⟨_, rfl⟩
  rw [← hKk]
  have h : ∀ H, Kk (B true) H := fun H => by rw [hKk]
  clear hKk
  obtain ⟨xn, hxn⟩ : ∃ ys, ys = nums.map I := ⟨_, rfl⟩
  rw [← hxn]
  obtain ⟨A, hA⟩ : ∃ A, A = std := ⟨_, rfl⟩
  have hne : ∀ x y, A.ne x y = decide (x ≠ y) := by subst hA; intro x y; simp only [std, iNe]; rw [Bool.eq_iff_iff]; simp
  have hee : ∀ x y, A.eq x y = decide (x = y) := by subst hA; intro x y; exact iEq_dec _ _
  have hll : ∀ x y, A.lt x y = decide (x < y) := by subst hA; intro x y; rfl
  have hle : ∀ x y, A.le x y = decide (x ≤ y) := by subst hA; intro x y; rfl
  have hnb : ∀ b, A.bnot b = !b := by subst hA; intro b; rfl
  have hbd : ∀ x y, A.band x y = (x && y) := by subst hA; intro x y; rfl
  have hsg : ∀ g, A.sg g g := by subst hA; exact fun _ => rfl
  refine go8 rfl (SGo_run hA ⟨[], [0], (48, eLeast) :: [], edP⟩ (.cons (eLeast_ok p48) .nil) edP_ok 200 fun T TD hT hTD => ?_)
  cbv
  refine Exists.intro nums (And.intro ⟨hxn, hn1⟩ ?_)
  intro w1
  cbv
  refine Exists.intro () (And.intro (by omega) ?_)
  rintro w2 _ ⟨rs, a, b, c, TC, l, xs, cr, ls, rfl, hxs, hcr, hls, hD⟩
  cbv
  obtain ⟨ho, hs, hlo⟩ := hD.lks (by omega) (by omega)
  have hPl := ho.plc
  have hRl := ho.ilen
  obtain ⟨R, hR⟩ : ∃ R, R = plc rs := ⟨_, rfl⟩
  rw [← hR] at hcr hlo hPl hRl
  have hcrs : CrsOk R TC 6 := hR ▸ hD.crs
  have hfit : ∀ x ∈ l, LkFit R TC 3 6 x := hR ▸ hD.fit
  obtain ⟨N, hN⟩ : ∃ N, N = R.length := ⟨_, rfl⟩
  rw [← hN] at hcr hRl
  have hN1 : 1 ≤ N := by rw [hN]; exact hPl.pos
  have hN2 : N ≤ 1000 := by rw [hN]; exact hPl.le
  have hlb : l.length ≤ 200 := hlo.le
  have hrl : rs.length ≤ 20 := ho.n2
  have hcv : A.vlen cr = 6 := by subst hA; rw [hcr]; rfl
  have hrow : ∀ i q, q = iLen i → i < 6 → A.ix 1 1 cr q [.vs 1 (crsRow TC N i)] := fun i q hq hi => by subst hA; exact ix_map (f := fun i => AV.vs 1 (crsRow TC N i)) hcr hq (by simp [hi]) rfl
  have hrv : ∀ i, A.vlen (crsRow TC N i) = iLen N := fun i => by subst hA; simp [std, crsRow]
  have hcell : ∀ i p q, q = iLen p → p < N → A.ix 1 1 (crsRow TC N i) q [I (TC i p)] := fun i p q hq hp => by subst hA; exact ix_map (f := I) rfl hq (by simp [hp]) rfl
  have hsur : surE rs a b c l = 0 := surE_ok.2 ⟨ho, hs, hR ▸ hlo⟩
  have hkn : ∀ (p : Nat) (t : Int), p < N → (0 ≤ t ∧ t ≤ 10000) → knownR rs a b c l (iLen p) t = (knowS R l p t, 0) := fun p t hp ht => by
    have : knownE rs a b c l (iLen p) t = 0 := by
      unfold knownE orElse; rw [hsur, if_pos rfl, if_neg (by rw [← hRl]; unfold iLen; omega), if_neg (by omega)]
    unfold knownR; rw [if_pos this, ← hR]; rfl
  have hr0 := hrow 0 0 rfl (by omega)
  obtain ⟨row0, hrow0⟩ : ∃ x, x = crsRow TC N 0 := ⟨_, rfl⟩
  have hrv0 := hrv 0
  rw [← hrow0] at hr0 hrv0
  refine Exists.intro _ (And.intro hr0 ?_); cbv
  refine Exists.intro () (And.intro (by show A.vlen cr ≤ _; rw [hcv]; omega) ?_)
  rintro w3 _ ⟨q1, rfl, hq1, hq1'⟩
  have hq1' : q1 < A.vlen cr ∨ q1 = 0 := hq1'
  rw [hcv] at hq1'
  cbv
  refine And.intro (by subst hA; first | (simp [std, Keep, SubH, ResK]; done) | exact .inr ⟨⟨rfl, SubH.self _⟩, trivial, .inr fun _ => ⟨rfl, SubH.self _⟩⟩ | exact .inr ⟨SubH.self _, trivial, .inr fun _ => SubH.self _⟩ | exact .inr ⟨by simp [SubH], trivial, .inl rfl⟩ | exact .inr ⟨by simp [SubH], trivial, .inr fun _ => by simp [SubH]⟩) ?_
  cbv
  refine Exists.intro () (And.intro (by show A.vlen row0 ≤ _; rw [hrv0]; unfold iLen; omega) ?_)
  rintro w4 _ ⟨q2, rfl, hq2, hq2'⟩
  have hq2' : q2 < A.vlen row0 ∨ q2 = 0 := hq2'
  have hsub : A.sub .i64 (A.vlen row0) 1 = iLen N - 1 := by rw [hrv0]; subst hA; exact iSub_id (by unfold iLen; omega) (by unfold iLen; omega)
  rw [hrv0] at hq2'
  have hq2N : q2 ≤ iLen N - 1 := by unfold iLen at *; omega
  have hNb : iLen N ≤ 1000 := by unfold iLen; omega
  cbv
  refine Exists.intro () (And.intro (by show _ ∧ _ ≤ A.sub .i64 (A.vlen row0) 1 ∧ A.sub .i64 (A.vlen row0) 1 ≤ _; rw [hsub]; omega) ?_)
  rintro w5 _ ⟨q3, rfl, hq3, hq3'⟩
  have hq3' : q3 ≤ A.sub .i64 (A.vlen row0) 1 ∨ q3 = q2 := hq3'
  rw [hsub] at hq3'
  have hq3N : q3 ≤ iLen N - 1 := by omega
  clear hq2' hq3'
  cbv
  refine Exists.intro () (And.intro (by omega) ?_)
  rintro w6 _ ⟨q4, rfl, hq4, hq4'⟩
  have hq4' : q4 ≤ q3 := by omega
  cbv
  have ht : A.add .i64 3 q1 = 3 + q1 := by subst hA; exact iAdd_id (by omega) (by omega)
  obtain ⟨i, hi⟩ : ∃ i : Nat, q1 = iLen i := ⟨q1.toNat, by unfold iLen; omega⟩
  have hi6 : i < 6 := by unfold iLen at hi; omega
  obtain ⟨f, hf⟩ : ∃ f : Nat, q2 = iLen f := ⟨q2.toNat, by unfold iLen; omega⟩
  obtain ⟨d1, hd1⟩ : ∃ d : Nat, q4 = q2 + iLen d := ⟨(q4 - q2).toNat, by unfold iLen; omega⟩
  obtain ⟨d2, hd2⟩ : ∃ d : Nat, q3 = q4 + iLen d := ⟨(q3 - q4).toNat, by unfold iLen; omega⟩
  have hfN : f + d1 + d2 < N := by unfold iLen at *; omega
  obtain ⟨t, htt⟩ : ∃ t, t = A.add .i64 3 q1 := ⟨_, rfl⟩
  have hte : t = 3 + iLen i := by rw [htt, ht, hi]
  have htb : 0 ≤ t ∧ t ≤ 10000 := by rw [hte]; unfold iLen; omega
  obtain ⟨V, hV⟩ : ∃ V : Nat → Int × Int, V = fun p => knowS R l p t := ⟨_, rfl⟩
  have hVT : ∀ p, p < N → 0 ≤ (V p).1 ∧ (V p).1 ≤ TC i p ∧ TC i p ≤ (V p).2 ∧ (V p).2 ≤ 3000 := fun p hp => by
    rw [hV]; dsimp only; rw [hte]; exact know_crs hPl hcrs hfit hi6 (by omega)
  have hls2 : ∀ u v : Nat, u + v < N → leastR rs a b c l (iLen u) (iLen u + iLen v) t = (leastN V u v, 0) := fun u v huv => by
    have : leastE rs a b c l (iLen u) (iLen u + iLen v) t = 0 := by
      unfold leastE orElse; rw [hsur, if_pos rfl, if_neg (by rw [← hRl]; unfold iLen; omega), if_neg (by unfold iLen; omega), if_neg (by omega)]
    unfold leastR; rw [if_pos this, ← hR, hV, show (iLen u + iLen v - iLen u).toNat = v by unfold iLen; omega]; rfl
  refine Exists.intro rs (Exists.intro l (And.intro hxs (And.intro hls (And.intro (by omega) (And.intro (by omega) ?_)))))
  intro x1 y1 e1 he1; cbv
  refine Exists.intro rs (Exists.intro l (And.intro hxs (And.intro hls (And.intro (by omega) (And.intro (by omega) ?_)))))
  intro x2 y2 e2 he2; cbv
  refine Exists.intro rs (Exists.intro l (And.intro hxs (And.intro hls (And.intro (by omega) (And.intro (by omega) ?_)))))
  intro x3 y3 e3 he3; cbv
  have he1 : ((x1, y1), e1) = leastR rs a b c l q2 q3 t := he1.trans (congrArg (leastR rs a b c l q2 q3) htt.symm)
  have he2 : ((x2, y2), e2) = leastR rs a b c l q2 q4 t := he2.trans (congrArg (leastR rs a b c l q2 q4) htt.symm)
  have he3 : ((x3, y3), e3) = leastR rs a b c l q4 q3 t := he3.trans (congrArg (leastR rs a b c l q4 q3) htt.symm)
  rw [hd2, hd1, hf, show iLen f + iLen d1 + iLen d2 = iLen f + iLen (d1 + d2) by unfold iLen; omega, hls2 _ _ (by omega)] at he1
  rw [hd1, hf, hls2 _ _ (by omega)] at he2
  rw [hd2, hd1, hf, show iLen f + iLen d1 = iLen (f + d1) by unfold iLen; omega, hls2 _ _ (by omega)] at he3
  rw [leastN_split] at he1
  simp only [Prod.mk.injEq] at he1
  obtain ⟨⟨hx1, hy1⟩, rfl⟩ := he1
  obtain ⟨⟩ := (Prod.mk.inj he2).2
  obtain ⟨⟩ := (Prod.mk.inj he3).2
  have he2 := (Prod.mk.inj he2).1
  have he3 := (Prod.mk.inj he3).1
  rw [← he2, ← he3] at hx1 hy1
  have hn0 : A.ne 0 0 = false := by subst hA; rfl
  split <;> first | (rename_i hz; exact Bool.noConfusion (hz.symm.trans hn0)) | cbv
  split <;> first | (rename_i hz; exact Bool.noConfusion (hz.symm.trans hn0)) | cbv
  split <;> first | (rename_i hz; exact Bool.noConfusion (hz.symm.trans hn0)) | cbv
  have hxl : ∀ n, AV.ltL n xs := fun n => AV.ltL_nid (by rw [hxs]; exact nidL_rc rs)
  rw [hT]
  obtain ⟨d, hd⟩ : ∃ d, d = d1 + d2 := ⟨_, rfl⟩
  obtain ⟨MT, hMT⟩ : ∃ f2 : Nat → Int, f2 = fun k => minN (fun j => TC i (f + j)) k := ⟨_, rfl⟩
  have hfd : f + d < N := by omega
  have hTC : ∀ p, p < N → TC i p ≤ 3000 := fun p hp => (hcrs.rng i p hi6 (by omega)).2
  have hq3e : q3 = iLen f + iLen d := by rw [hd2, hd1, hf, hd]; unfold iLen; omega
  refine AGo_whileE (σ := Nat × Int × Int × Int) [4, 5, 6, 8, 10, 12, 14, 16] (fun s => d + 1 - s.1) (fun s => s.1 ≤ d + 1 ∧ (s.1 = 0 → s.2 = (3000, 3000, 3000)) ∧ ∀ k, s.1 = k + 1 → s.2.1 = MT k ∧ (s.2.2.1, s.2.2.2) = leastN V f k)
    (fun s => [(18, I s.2.1), (19, I s.2.2.1), (20, I s.2.2.2), (21, I (iLen f + iLen s.1))]) (fun s => [.own 0 [U w6], .own 0 [.vs 5 xs, I a, I b, I c], .own 0 [I x1, I y1], .own 0 [I x2, I y2], .own 0 [I x3, I y3]]) (0, 3000, 3000, 3000)
    ⟨Nat.zero_le _, fun _ => rfl, fun k hk => by simp at hk⟩ ⟨rfl, rfl, rfl, congrArg I (by rw [hf]; unfold iLen; omega), trivial⟩ (.inl rfl) fun s hP Bk hB => ?_
  obtain ⟨k, m, lo, hi2⟩ := s
  obtain ⟨hk1, hk2, hk3⟩ := hP
  dsimp only at hk1 hk2 hk3 ⊢
  obtain ⟨ip, hip⟩ : ∃ q, q = iLen f + iLen k := ⟨_, rfl⟩
  rw [← hip]
  have hle2 : A.le ip q3 = decide (k ≤ d) := by rw [hle, hip, hq3e]; rw [decide_eq_decide]; unfold iLen; omega
  have hadd : k ≤ d → A.add .i64 ip 1 = iLen f + iLen (k + 1) := fun hkd => by subst hA; show iAdd .i64 ip 1 = _; rw [hip, iAdd_id (by unfold iLen; omega) (by unfold iLen; omega)]; unfold iLen; omega
  refine SGo_run hA ⟨[], [], (25, eKnown) :: (21, eSpn) :: (50, eHas) :: (28, eAwake) :: [], []⟩ (.cons (eKnown_ok p25) (.cons eSpn_ok (.cons eHas_ok (.cons eAwake_ok .nil)))) .nil 200 fun T TD hT hTD => ?_
  cbv
  split <;> cbv
  · rename_i hz
    have hkd : k ≤ d := of_decide_eq_true (hle2.symm.trans hz)
    have hipk : ip = iLen (f + k) := by rw [hip]; unfold iLen; omega
    refine Exists.intro rs (Exists.intro l (And.intro hxs (And.intro hls (And.intro (by omega) (And.intro (by omega) ?_)))))
    intro u v e he; cbv
    have he : ((u, v), e) = knownR rs a b c l ip t := he.trans (congrArg (knownR rs a b c l ip) htt.symm)
    rw [hipk, hkn _ _ (by omega) htb] at he
    obtain ⟨⟩ := (Prod.mk.inj he).2
    have he := (Prod.mk.inj he).1
    have hVk : V (f + k) = (u, v) := by rw [hV]; exact he.symm
    have hVb := hVT (f + k) (by omega)
    rw [hVk] at hVb
    dsimp only at hVb
    have hTk := hTC (f + k) (by omega)
    split <;> first | (rename_i hz; exact Bool.noConfusion (hz.symm.trans hn0)) | cbv
    have hri := hrow i q1 hi hi6
    obtain ⟨rowi, hrowi⟩ : ∃ x, x = crsRow TC N i := ⟨_, rfl⟩
    have hci := hcell i (f + k) ip hipk (by omega)
    rw [← hrowi] at hri hci
    obtain ⟨tk, htk⟩ : ∃ x, x = TC i (f + k) := ⟨_, rfl⟩
    rw [← htk] at hci hTk hVb
    refine Exists.intro _ (And.intro hri ?_); cbv
    refine Exists.intro _ (And.intro hci ?_); cbv
    refine hB (k + 1, A.min m tk, A.min lo u, A.min hi2 v) _ _ (by dsimp only; omega) ⟨by dsimp only; omega, fun h => by simp at h, fun k2 hk => ?_⟩ ⟨rfl, rfl, rfl, congrArg I (hadd hkd), trivial⟩ ⟨rfl, rfl, rfl, rfl, rfl, rfl, rfl, rfl, trivial⟩ (.inr ⟨⟨[.own 0 [I u, I v]], rfl⟩, by simp, by simp [ltG, AV.lt, AV.ltL, keepS, look, gset], ?_⟩)
    · dsimp only at hk ⊢
      have hk : k2 = k := by omega
      subst hk
      subst hA
      simp only [std, iMin_eq]
      rcases k2 with _ | j
      · obtain ⟨⟩ := hk2 rfl
        refine ⟨?_, ?_⟩
        · rw [hMT]; simp only [minN]; rw [← htk]; omega
        · simp only [leastN]; rw [Nat.add_zero] at hVk; rw [hVk]; exact Prod.ext (by dsimp only; omega) (by dsimp only; omega)
      · obtain ⟨h5, h6⟩ := hk3 j rfl
        refine ⟨?_, ?_⟩
        · rw [h5, hMT]; simp only [minN]; rw [← htk]
        · simp only [leastN]; rw [← h6, show f + j + 1 = f + (j + 1) by omega, hVk]
    · simp [ltH, AObj.lt, AV.lt, AV.ltL, hxl]
  · rename_i hz
    have hkd : ¬ k ≤ d := of_decide_eq_false (hle2.symm.trans hz)
    obtain ⟨h5, h6⟩ := hk3 d (by omega)
    rw [hd, leastN_split, ← he2, ← he3] at h6
    simp only [Prod.mk.injEq] at h6
    obtain ⟨h7, h8⟩ := h6
    have hlo : lo = x1 := h7.trans hx1.symm
    have hhi : hi2 = y1 := h8.trans hy1.symm
    have e1 : ∀ x y x' y', x = x' → y = y' → A.band (A.eq x x') (A.band (A.eq y y') true) = true := fun x y x' y' h1 h2 => by rw [hee, hee, hbd, hbd, h1, h2]; simp
    have e2 := e1 x1 y1 lo hi2 hlo.symm hhi.symm
    have e3 := e1 x1 y1 (A.min x2 x3) (A.min y2 y3) (by rw [hx1]; subst hA; simp only [std, iMin_eq]) (by rw [hy1]; subst hA; simp only [std, iMin_eq])
    obtain ⟨m0, g1, g2, g3, q0, g4, g5, g6⟩ := leastN_crs (V := V) (T := TC i) (f := f) (d := d) fun q hq1 hq2 => by have := hVT q (by omega); omega
    rw [hd, leastN_split, ← he2, ← he3] at g1 g2
    dsimp only at g1 g2
    rw [← hx1] at g1
    rw [← hy1] at g2
    have hmb : x1 ≤ m ∧ m ≤ y1 := by
      obtain ⟨p0, g7, g8⟩ := minN_ex (V := fun j => TC i (f + j)) d
      have g9 := minN_le (V := fun j => TC i (f + j)) (k := d) (p := q0 - f) (by omega)
      have g10 := g3 (f + p0) (by omega) (by omega)
      rw [h5, hMT]
      dsimp only at g8 g9 ⊢
      rw [show f + (q0 - f) = q0 by omega] at g9
      omega
    split <;> first | (rename_i hz; exact Bool.noConfusion (hz.symm.trans e2)) | cbv
    intro b1 hb1; cbv
    have hb1 : b1 = true := by rw [hb1]; exact decide_eq_true hmb
    subst hb1
    cbv
    split <;> first | (rename_i hz; exact Bool.noConfusion (hz.symm.trans e3)) | cbv
    exact h _
end Go.Sas
