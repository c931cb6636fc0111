/-
ProbeExact: the law's core.
Conditions: none.
-/
import Derived.Test.YtajegdbljldakaaPR
import Derived.Test.YtajegdbljldakaaPQ
import Derived.Test.YtajegdbljldakaaQRL16
set_option linter.unusedVariables false
set_option linter.unusedSimpArgs false
namespace Go.Sas
open Go.Proofs
set_option maxRecDepth 100000
theorem SubH.sameR {x : AObj} {M H : AHeap} (h : SubH M H) : SubH (x :: M) (x :: H) := by
  rcases x with _ | ⟨g, _ | ⟨c, cs⟩⟩ | ⟨g, o⟩ <;> simp only [SubH] <;> first | exact h | exact ⟨rfl, h⟩ | exact ⟨trivial, h⟩
theorem crsV_eq2 {T : Nat → Nat → Int} {hours n : Nat} : crsV T hours n = csV (crsL T hours n) := by simp [crsV, crsL, csV, crsRow]
set_option maxHeartbeats 2000000 in
theorem core16 (nums : List Int) (hn1 : nums.length ≤ 9223372036854775807) : ACalls Try.prog 16 [.vs 1 (nums.map I)] [] fun r _ => r = .lit (.bool true) := by
  obtain ⟨Kk, hKk⟩ : ∃ K : AV → AHeap → Prop, K = fun r _ => r = .lit (.bool true) := ⟨_, rfl⟩
  rw [← hKk]
  have h : ∀ H, Kk (B true) H := fun H => by rw [hKk]
  clear hKk
  obtain ⟨xn, hxn⟩ : ∃ ys, ys = nums.map I := ⟨_, rfl⟩
  rw [← hxn]
  obtain ⟨A, hA⟩ : ∃ A, A = std := ⟨_, rfl⟩
  have hne : ∀ x y, A.ne x y = decide (x ≠ y) := by subst hA; intro x y; simp only [std, iNe]; rw [Bool.eq_iff_iff]; simp
  have hee : ∀ x y, A.eq x y = decide (x = y) := by subst hA; intro x y; exact iEq_dec _ _
  have hll : ∀ x y, A.lt x y = decide (x < y) := by subst hA; intro x y; rfl
  have hle : ∀ x y, A.le x y = decide (x ≤ y) := by subst hA; intro x y; rfl
  have hnb : ∀ b, A.bnot b = !b := by subst hA; intro b; rfl
  have hbd : ∀ x y, A.band x y = (x && y) := by subst hA; intro x y; rfl
  have hsg : ∀ g, A.sg g g := by subst hA; exact fun _ => rfl
  refine go16 rfl (SGo_run hA ⟨[], [0], (25, eKnown) :: [], edP⟩ (.cons (eKnown_ok p25) .nil) edP_ok 200 fun T TD hT hTD => ?_)
  cbv
  refine Exists.intro nums (And.intro ⟨hxn, hn1⟩ ?_)
  intro w1
  cbv
  refine Exists.intro () (And.intro (by omega) ?_)
  rintro w2 _ ⟨rs, a, b, c, TC, l, xs, cr, ls, rfl, hxs, hcr, hls, hD⟩
  cbv
  obtain ⟨ho, hs, hlo⟩ := hD.lks (by omega) (by omega)
  have hPl := ho.plc
  have hRl := ho.ilen
  obtain ⟨R, hR⟩ : ∃ R, R = plc rs := ⟨_, rfl⟩
  rw [← hR] at hcr hlo hPl hRl
  have hcrs : CrsOk R TC 6 := hR ▸ hD.crs
  have hfit : ∀ x ∈ l, LkFit R TC 3 6 x := hR ▸ hD.fit
  obtain ⟨N, hN⟩ : ∃ N, N = R.length := ⟨_, rfl⟩
  rw [← hN] at hcr hRl
  have hN1 : 1 ≤ N := by rw [hN]; exact hPl.pos
  have hN2 : N ≤ 1000 := by rw [hN]; exact hPl.le
  have hlb : l.length ≤ 200 := hlo.le
  have hrl : rs.length ≤ 20 := ho.n2
  have hcv : A.vlen cr = 6 := by subst hA; rw [hcr]; rfl
  have hrow : ∀ i q, q = iLen i → i < 6 → A.ix 1 1 cr q [.vs 1 (crsRow TC N i)] := fun i q hq hi => by subst hA; exact ix_map (f := fun i => AV.vs 1 (crsRow TC N i)) hcr hq (by simp [hi]) rfl
  have hrv : ∀ i, A.vlen (crsRow TC N i) = iLen N := fun i => by subst hA; simp [std, crsRow]
  have hcell : ∀ i p q, q = iLen p → p < N → A.ix 1 1 (crsRow TC N i) q [I (TC i p)] := fun i p q hq hp => by subst hA; exact ix_map (f := I) rfl hq (by simp [hp]) rfl
  have hsur : surE rs a b c l = 0 := surE_ok.2 ⟨ho, hs, hR ▸ hlo⟩
  have hkn : ∀ (p : Nat) (t : Int), p < N → (0 ≤ t ∧ t ≤ 10000) → knownR rs a b c l (iLen p) t = (knowS R l p t, 0) := fun p t hp ht => by
    have : knownE rs a b c l (iLen p) t = 0 := by
      unfold knownE orElse; rw [hsur, if_pos rfl, if_neg (by rw [← hRl]; unfold iLen; omega), if_neg (by omega)]
    unfold knownR; rw [if_pos this, ← hR]; rfl
  have hr0 := hrow 0 0 rfl (by omega)
  obtain ⟨row0, hrow0⟩ : ∃ x, x = crsRow TC N 0 := ⟨_, rfl⟩
  have hrv0 := hrv 0
  rw [← hrow0] at hr0 hrv0
  have hxl : ∀ n, AV.ltL n xs := fun n => AV.ltL_nid (by rw [hxs]; exact nidL_rc rs)
  refine Exists.intro _ (And.intro hr0 ?_); cbv
  refine Exists.intro () (And.intro (by show A.vlen cr ≤ _; rw [hcv]; omega) ?_)
  rintro w3 _ ⟨q1, rfl, hq1, hq1'⟩
  have hq1' : q1 < A.vlen cr ∨ q1 = 0 := hq1'
  rw [hcv] at hq1'
  cbv
  refine And.intro (by subst hA; first | (simp [std, Keep, SubH, ResK]; done) | exact .inr ⟨⟨rfl, SubH.self _⟩, trivial, .inr fun _ => ⟨rfl, SubH.self _⟩⟩ | exact .inr ⟨SubH.self _, trivial, .inr fun _ => SubH.self _⟩ | exact .inr ⟨by simp [SubH], trivial, .inl rfl⟩ | exact .inr ⟨by simp [SubH], trivial, .inr fun _ => by simp [SubH]⟩) ?_
  cbv
  refine Exists.intro () (And.intro (by show A.vlen row0 ≤ _; rw [hrv0]; unfold iLen; omega) ?_)
  rintro w4 _ ⟨q2, rfl, hq2, hq2'⟩
  have hq2' : q2 < A.vlen row0 ∨ q2 = 0 := hq2'
  rw [hrv0] at hq2'
  cbv
  refine And.intro (by subst hA; first | (simp [std, Keep, SubH, ResK]; done) | exact .inr ⟨⟨rfl, SubH.self _⟩, trivial, .inr fun _ => ⟨rfl, SubH.self _⟩⟩ | exact .inr ⟨SubH.self _, trivial, .inr fun _ => SubH.self _⟩ | exact .inr ⟨by simp [SubH], trivial, .inl rfl⟩ | exact .inr ⟨by simp [SubH], trivial, .inr fun _ => by simp [SubH]⟩) ?_
  cbv
  have ht : A.add .i64 3 q1 = 3 + q1 := by subst hA; exact iAdd_id (by omega) (by omega)
  obtain ⟨i0, hi0⟩ : ∃ i : Nat, q1 = iLen i := ⟨q1.toNat, by unfold iLen; omega⟩
  have hi06 : i0 < 6 := by unfold iLen at hi0; omega
  obtain ⟨p0, hp0⟩ : ∃ f : Nat, q2 = iLen f := ⟨q2.toNat, by unfold iLen; omega⟩
  have hp0N : p0 < N := by unfold iLen at *; omega
  have hq1b : 0 ≤ q1 ∧ q1 ≤ 5 := by omega
  refine Exists.intro rs (Exists.intro l (And.intro hxs (And.intro hls (And.intro (by omega) (And.intro (by omega) ?_)))))
  intro u0 v0 e he; cbv
  have he : ((u0, v0), e) = knownR rs a b c l q2 (3 + q1) := he.trans (congrArg (knownR rs a b c l q2) ht)
  rw [hp0, hkn _ _ hp0N (by omega)] at he
  obtain ⟨⟩ := (Prod.mk.inj he).2
  have hkn0 := (Prod.mk.inj he).1
  have hk0 := know_crs hPl hcrs hfit hi06 (p := p0) (by omega)
  rw [show (3 : Int) + (i0 : Int) = 3 + q1 by rw [hi0]; rfl, ← hkn0] at hk0
  dsimp only at hk0
  have hn0 : A.ne 0 0 = false := by subst hA; rfl
  split <;> first | (rename_i hz; exact Bool.noConfusion (hz.symm.trans hn0)) | cbv
  refine Exists.intro () (And.intro (by omega) ?_)
  rintro w5 _ ⟨n, rfl, hna, hnb2⟩
  cbv
  obtain ⟨TE, hTE⟩ : ∃ T : Nat → Nat → Int, T = exaT R l 3 p0 (3 + q1) n := ⟨_, rfl⟩
  have hexa := exa_crs hPl hlo (f := 3) (hour := 3 + q1) (n := n) (place := p0) (hours := 6) (by omega) (by omega) (by omega) (by omega) (by rw [← hkn0]; exact ⟨hna, hnb2⟩) (fun i p hi hp => by
    have := know_crs hPl hcrs hfit hi (p := p) hp
    unfold iLen; omega)
  rw [← hTE, ← hN] at hexa
  obtain ⟨hC2, hF2⟩ := hexa
  have hat : TE i0 p0 = n := by
    rw [hTE]
    have := exa_at hPl (l := l) (f := 3) (n := n) (place := p0) (i := i0) (by omega) (by rw [← hi0, ← hkn0]; exact hnb2)
    rw [← hi0] at this; exact this
  rw [hT]
  refine AGo_nilms 12 1 rfl ?_
  obtain ⟨CR, hCR⟩ : ∃ f : Nat → List AV, f = fun i => (List.range i).map fun q => .vs 1 (crsRow TE N q) := ⟨_, rfl⟩
  have hCRs : ∀ i, CR (i + 1) = CR i ++ [.vs 1 (crsRow TE N i)] := fun i => by rw [hCR]; simp [List.range_succ]
  have hCRl : ∀ i, (CR i).length = i * 1 := fun i => by rw [hCR]; simp
  have hCRn : ∀ i n, AV.ltL n (CR i) := fun i n => AV.ltL_nid (by rw [hCR]; exact nidL_map (fun _ => by simp [AV.nid]) _)
  refine AGo_whileE (σ := Nat) [4, 5, 6, 7, 8, 11] (fun i => 6 - i) (fun i => i ≤ 6) (fun i => [(12, .ms 1 3 i 0 i), (13, I (iLen i))]) (fun i => [.own 0 [U w5], .own 0 [.vs 5 xs, I a, I b, I c], .own 0 [I u0, I v0], .own i (CR i)]) 0 (Nat.zero_le _) ⟨rfl, rfl, trivial⟩ (.inl (by rw [hCR]; rfl)) fun i hi Bk hB => ?_
  obtain ⟨ih, hih⟩ : ∃ q, q = iLen i := ⟨_, rfl⟩
  obtain ⟨c0, hc0⟩ : ∃ x, x = CR i := ⟨_, rfl⟩
  rw [← hih, ← hc0]
  have hlt : A.lt ih (A.vlen cr) = decide (i < 6) := by rw [hcv, hll, hih]; rw [decide_eq_decide]; unfold iLen; omega
  refine SGo_run hA ⟨[], [1000100], [], []⟩ .nil .nil 200 fun T TD hT hTD => ?_
  cbv
  split <;> cbv
  · rename_i hz
    have hi6 : i < 6 := of_decide_eq_true (hlt.symm.trans hz)
    have hri := hrow i ih hih hi6
    obtain ⟨row, hrowe⟩ : ∃ x, x = crsRow TC N i := ⟨_, rfl⟩
    have hrvi := hrv i
    rw [← hrowe] at hri hrvi
    have hihb : 0 ≤ ih ∧ ih ≤ 5 := by rw [hih]; unfold iLen; omega
    have hthr : A.add .i64 3 ih = 3 + ih := by subst hA; exact iAdd_id (by omega) (by omega)
    have hadi : A.add .i64 ih 1 = iLen (i + 1) := by subst hA; exact add_one (N := 6) hih hi6 (by omega)
    rw [hT]
    refine AGo_nilms 14 1 rfl ?_
    obtain ⟨RW, hRW⟩ : ∃ f : Nat → List AV, f = fun p => crsRow TE p i := ⟨_, rfl⟩
    have hRWs : ∀ p, RW (p + 1) = RW p ++ [I (TE i p)] := fun p => by rw [hRW]; simp [crsRow, List.range_succ]
    have hRWl : ∀ p, (RW p).length = p * 1 := fun p => by rw [hRW]; simp [crsRow]
    have hRWn : ∀ i n, AV.ltL n (RW i) := fun i n => AV.ltL_nid (by rw [hRW]; exact nidL_row _ _ _)
    refine AGo_whileE (σ := Nat) [4, 5, 6, 7, 8, 11, 12, 13] (fun p => N - p) (fun p => p ≤ N) (fun p => [(14, .ms 1 4 p 0 p), (15, I (iLen p))]) (fun p => [.own 0 [U w5], .own 0 [.vs 5 xs, I a, I b, I c], .own 0 [I u0, I v0], .own i c0, .own p (RW p)]) 0 (Nat.zero_le _) ⟨rfl, rfl, trivial⟩ (.inl (by rw [hRW]; rfl)) fun p hp Bk2 hB2 => ?_
    obtain ⟨ip, hip⟩ : ∃ q, q = iLen p := ⟨_, rfl⟩
    obtain ⟨rw0, hrw⟩ : ∃ x, x = RW p := ⟨_, rfl⟩
    rw [← hip, ← hrw]
    have hlt2 : A.lt ip (A.vlen row) = decide (p < N) := by rw [hrvi, hll, hip]; rw [decide_eq_decide]; unfold iLen; omega
    refine SGo_run hA ⟨[4], [1004, 1000096], (25, eKnown) :: (68, eRise) :: [], []⟩ (.cons (eKnown_ok p25) (.cons (eRise_ok p68) .nil)) .nil 200 fun T TD hT hTD => ?_
    cbv
    refine Exists.intro _ (And.intro hri ?_); cbv
    split <;> cbv
    · rename_i hz2
      have hpN : p < N := of_decide_eq_true (hlt2.symm.trans hz2)
      have hadp : A.add .i64 ip 1 = iLen (p + 1) := by subst hA; exact add_one (N := 1000) hip (by omega) (by omega)
      refine Exists.intro rs (Exists.intro l (And.intro hxs (And.intro hls (And.intro (by omega) (And.intro (by omega) ?_)))))
      intro u v e he; cbv
      have he : ((u, v), e) = knownR rs a b c l ip (3 + ih) := he.trans (congrArg (knownR rs a b c l ip) hthr)
      rw [hip, hkn _ _ hpN (by omega)] at he
      obtain ⟨⟩ := (Prod.mk.inj he).2
      have he := (Prod.mk.inj he).1
      have hk4 := know_crs hPl hcrs hfit hi6 (p := p) (by omega)
      rw [show (3 : Int) + (i : Int) = 3 + ih by rw [hih]; rfl, ← he] at hk4
      dsimp only at hk4
      split <;> first | (rename_i hz; exact Bool.noConfusion (hz.symm.trans hn0)) | cbv
      have hipb : 0 ≤ ip ∧ ip < sumLg rs := by rw [← hRl, hip]; unfold iLen; omega
      have hq2b : 0 ≤ q2 ∧ q2 < sumLg rs := by rw [← hRl, hp0]; unfold iLen; omega
      have e1 : 0 ≤ A.add .i64 3 ih ∧ A.add .i64 3 ih ≤ 10000 := by rw [hthr]; omega
      have e2 : 0 ≤ A.add .i64 3 q1 ∧ A.add .i64 3 q1 ≤ 10000 := by rw [ht]; omega
      refine Exists.intro rs (And.intro hxs (And.intro ho (And.intro hipb (And.intro e1 (And.intro hq2b (And.intro e2 ?_))))))
      intro r hr; cbv
      have hr : r = riseS R p (3 + ih - (3 + q1)) p0 := by
        rw [hr, hR, ← hthr, ← ht, hip, hp0]; rfl
      have hrb := riseS_bnd hPl (a := p) (b := p0) (t := 3 + ih - (3 + q1)) (by omega) (by omega) (by omega)
      rw [← hr] at hrb
      have hval : A.min v (A.add .i64 n r) = TE i p := by
        rw [hTE]; unfold exaT; rw [← hih, ← he, ← hr]
        subst hA; simp only [std, iMin_eq]; rw [iAdd_id (by omega) (by omega)]
      obtain ⟨rw1, hrw1⟩ : ∃ x, x = RW (p + 1) := ⟨_, rfl⟩
      have happ : A.app 1 1 8 rw0 0 p [I (A.min v (A.add .i64 n r))] rw1 (p + 1) := by rw [hval]; subst hA; rw [hrw1, hRWs, ← hrw]; exact app_one (by rw [hrw]; exact hRWl p) rfl (by omega)
      refine And.intro (hsg _) (Exists.intro rw1 (Exists.intro (p + 1) (And.intro happ (And.intro rfl ?_))))
      cbv
      refine And.intro (by subst hA; exact .inr ⟨SubH.sameR (SubH.sameR (SubH.sameR (SubH.sameR (SubH.gone (SubH.sameR trivial))))), trivial, .inr fun _ => SubH.sameR (SubH.sameR (SubH.sameR (SubH.sameR (SubH.gone (SubH.sameR trivial)))))⟩) ?_; cbv
      exact hB2 (p + 1) _ _ (by omega) (by omega) ⟨rfl, congrArg I hadp, trivial⟩ ⟨rfl, rfl, rfl, rfl, rfl, rfl, rfl, rfl, trivial⟩ (.inr ⟨⟨[.own 0 [I u, I v]], by rw [hrw1]; rfl⟩, by simp, by simp [ltG, AV.lt, AV.ltL, keepS, look, gset], by rw [hc0]; simp [ltH, AObj.lt, AV.lt, AV.ltL, hxl, hCRn, hRWn]⟩)
    · rename_i hz2
      have hpN : p = N := by have : ¬ p < N := of_decide_eq_false (hlt2.symm.trans hz2)
                             omega
      have hrN : rw0 = crsRow TE N i := by rw [hrw, hRW, hpN]
      have hE2 : Elems 1 (crsRow TE N i) rw0 := by rw [hrN]; exact Elems_I _
      obtain ⟨rowx, hrowx⟩ : ∃ x, x = crsRow TE N i := ⟨_, rfl⟩
      rw [← hrowx] at hE2
      have hrl : rowx.length = p := by rw [hrowx, hpN]; simp [crsRow]
      rw [hT]
      refine AGo_frzS 14 (id := 4) (g := p) (sz := 1) (n := p) (xs := rowx) (cs := rw0) rfl rfl hrl hE2 ?_
      have happ : A.app 1 1 24 c0 0 i [.vs 1 rowx] (CR (i + 1)) (i + 1) := by subst hA; rw [hCRs, ← hc0, ← hrowx]; exact app_one (by rw [hc0]; exact hCRl i) rfl (by omega)
      obtain ⟨c1, hc1⟩ : ∃ x, x = CR (i + 1) := ⟨_, rfl⟩
      rw [← hc1] at happ
      refine SGo_run hA ⟨[3], [], [], []⟩ .nil .nil 200 fun T TD hT hTD => ?_
      cbv
      refine And.intro (hsg _) (Exists.intro c1 (Exists.intro (i + 1) (And.intro happ (And.intro rfl ?_))))
      cbv
      exact hB (i + 1) _ _ (by omega) (by omega) ⟨rfl, congrArg I hadi, trivial⟩ ⟨rfl, rfl, rfl, rfl, rfl, rfl, trivial⟩ (.inr ⟨⟨[.gone], by rw [hc1]; rfl⟩, by simp, by simp [ltG, AV.lt, AV.ltL, keepS, look, gset], by simp [ltH, AObj.lt, AV.lt, AV.ltL, hxl, hCRn]⟩)
  · rename_i hz
    have hi6 : i = 6 := by have : ¬ i < 6 := of_decide_eq_false (hlt.symm.trans hz)
                           omega
    have hc6 : c0 = csV (crsL TE 6 N) := by rw [hc0, hCR, hi6]; exact crsV_eq2
    have hE3 : Elems 1 (csV (crsL TE 6 N)) c0 := by rw [hc6]; exact Elems_one (F := fun r : List Int => AV.vs 1 (r.map I)) (fun _ => rfl) (fun _ => rfl) _
    obtain ⟨vs, hvs⟩ : ∃ x, x = csV (crsL TE 6 N) := ⟨_, rfl⟩
    rw [← hvs] at hE3
    rw [hT]
    refine AGo_frzS 12 (id := 3) (g := i) (sz := 1) (n := i) (xs := vs) (cs := c0) rfl rfl (by rw [hvs, hi6]; simp [crsL]) hE3 ?_
    have hbr : breaksR rs a b c l 3 (crsL TE 6 N) = ((-1, -1), 0) := by
      rw [hN, hR]; exact breaksR_crs hsur (by omega) (by omega) (hR ▸ hC2) (by rw [← hR, ← hN]; exact hF2)
    refine SGo_run hA ⟨[], [], (65, eBreaks) :: (28, eAwake) :: [], []⟩ (.cons eBreaks_ok (.cons eAwake_ok .nil)) .nil 200 fun T TD hT hTD => ?_
    cbv
    refine Exists.intro rs (Exists.intro l (Exists.intro (crsL TE 6 N) (And.intro hxs (And.intro hls (And.intro hvs (And.intro (by omega) (And.intro (by omega) (And.intro (by rw [crsL_len]; omega) (And.intro (fun r hr => by
      unfold crsL at hr; obtain ⟨i, _, rfl⟩ := List.mem_map.1 hr; simp; omega) ?_)))))))))
    intro x1 x2 x3 hx; cbv
    have hx := hx.trans hbr
    simp only [Prod.mk.injEq] at hx
    obtain ⟨⟨rfl, rfl⟩, rfl⟩ := hx
    have g1 : A.eq 0 0 = true := by subst hA; rfl
    have g2 : A.eq (-1) (-1) = true := by subst hA; rfl
    have g3 : A.ix 1 1 vs q1 [.vs 1 (crsRow TE N i0)] := by subst hA; exact ix_map (f := fun i => AV.vs 1 (crsRow TE N i)) (l := List.range 6) (by rw [hvs]; exact crsV_eq2.symm) hi0 (by simp [hi06]) rfl
    have g4 : A.ix 1 1 (crsRow TE N i0) q2 [I (TE i0 p0)] := by subst hA; exact ix_map (f := I) rfl hp0 (by simp [hp0N]) rfl
    rw [hat] at g4
    obtain ⟨rowz, hrowz⟩ : ∃ x, x = crsRow TE N i0 := ⟨_, rfl⟩
    rw [← hrowz] at g3 g4
    have g5 : A.eq n n = true := by rw [hee]; simp
    split <;> first | (rename_i hz; exact Bool.noConfusion (hz.symm.trans g1)) | cbv
    split <;> first | (rename_i hz; exact Bool.noConfusion (hz.symm.trans g2)) | cbv
    split <;> first | (rename_i hz; exact Bool.noConfusion (hz.symm.trans g2)) | cbv
    refine Exists.intro _ (And.intro g3 ?_); cbv
    refine Exists.intro _ (And.intro g4 ?_); cbv
    split <;> first | (rename_i hz; exact Bool.noConfusion (hz.symm.trans g5)) | cbv
    exact h _
end Go.Sas
