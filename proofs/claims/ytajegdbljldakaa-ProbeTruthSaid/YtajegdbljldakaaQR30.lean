/-
ProbeTruth: the law's core.
Conditions: none.
-/
import Derived.Test.YtajegdbljldakaaPR
import Derived.Test.YtajegdbljldakaaPQ
import Derived.Test.YtajegdbljldakaaQRL15
set_option linter.unusedVariables false
set_option linter.unusedSimpArgs false
namespace Go.Sas
open Go.Proofs
set_option maxRecDepth 100000
theorem crsV_eq {T : Nat → Nat → Int} {hours n : Nat} : crsV T hours n = csV (crsL T hours n) := by simp [crsV, crsL, csV, crsRow]
theorem core15 (nums : List Int) (hn1 : nums.length ≤ 9223372036854775807) : ACalls Try.prog 15 [.vs 1 (nums.map I)] [] fun r _ => r = .lit (.bool true) := by
  obtain ⟨Kk, hKk⟩ : ∃ K : AV → AHeap → Prop, K = fun r _ => r = .lit (.bool true) := ⟨_, rfl⟩
  rw [← hKk]
  have h : ∀ H, Kk (B true) H := fun H => by rw [hKk]
  clear hKk
  obtain ⟨xn, hxn⟩ : ∃ ys, ys = nums.map I := ⟨_, rfl⟩
  rw [← hxn]
  obtain ⟨A, hA⟩ : ∃ A, A = std := ⟨_, rfl⟩
  have hne : ∀ x y, A.ne x y = decide (x ≠ y) := by subst hA; intro x y; simp only [std, iNe]; rw [Bool.eq_iff_iff]; simp
  have hee : ∀ x y, A.eq x y = decide (x = y) := by subst hA; intro x y; exact iEq_dec _ _
  have hll : ∀ x y, A.lt x y = decide (x < y) := by subst hA; intro x y; rfl
  have hle : ∀ x y, A.le x y = decide (x ≤ y) := by subst hA; intro x y; rfl
  have hnb : ∀ b, A.bnot b = !b := by subst hA; intro b; rfl
  have hbd : ∀ x y, A.band x y = (x && y) := by subst hA; intro x y; rfl
  have hsg : ∀ g, A.sg g g := by subst hA; exact fun _ => rfl
  refine go15 rfl (SGo_run hA ⟨[], [0], (65, eBreaks) :: [], edP⟩ (.cons eBreaks_ok .nil) edP_ok 200 fun T TD hT hTD => ?_)
  cbv
  refine Exists.intro nums (And.intro ⟨hxn, hn1⟩ ?_)
  intro w1
  cbv
  refine Exists.intro () (And.intro (by omega) ?_)
  rintro w2 _ ⟨rs, a, b, c, TC, l, xs, cr, ls, rfl, hxs, hcr, hls, hD⟩
  cbv
  obtain ⟨ho, hs, hlo⟩ := hD.lks (by omega) (by omega)
  have hPl := ho.plc
  have hRl := ho.ilen
  obtain ⟨R, hR⟩ : ∃ R, R = plc rs := ⟨_, rfl⟩
  rw [← hR] at hcr hlo hPl hRl
  have hcrs : CrsOk R TC 6 := hR ▸ hD.crs
  have hfit : ∀ x ∈ l, LkFit R TC 3 6 x := hR ▸ hD.fit
  obtain ⟨N, hN⟩ : ∃ N, N = R.length := ⟨_, rfl⟩
  rw [← hN] at hcr hRl
  have hN1 : 1 ≤ N := by rw [hN]; exact hPl.pos
  have hN2 : N ≤ 1000 := by rw [hN]; exact hPl.le
  have hlb : l.length ≤ 200 := hlo.le
  have hrl : rs.length ≤ 20 := ho.n2
  have hcv : A.vlen cr = 6 := by subst hA; rw [hcr]; rfl
  have hrow : ∀ i q, q = iLen i → i < 6 → A.ix 1 1 cr q [.vs 1 (crsRow TC N i)] := fun i q hq hi => by subst hA; exact ix_map (f := fun i => AV.vs 1 (crsRow TC N i)) hcr hq (by simp [hi]) rfl
  have hrv : ∀ i, A.vlen (crsRow TC N i) = iLen N := fun i => by subst hA; simp [std, crsRow]
  have hcell : ∀ i p q, q = iLen p → p < N → A.ix 1 1 (crsRow TC N i) q [I (TC i p)] := fun i p q hq hp => by subst hA; exact ix_map (f := I) rfl hq (by simp [hp]) rfl
  have hsur : surE rs a b c l = 0 := surE_ok.2 ⟨ho, hs, hR ▸ hlo⟩
  have hkn : ∀ (p : Nat) (t : Int), p < N → (0 ≤ t ∧ t ≤ 10000) → knownR rs a b c l (iLen p) t = (knowS R l p t, 0) := fun p t hp ht => by
    have : knownE rs a b c l (iLen p) t = 0 := by
      unfold knownE orElse; rw [hsur, if_pos rfl, if_neg (by rw [← hRl]; unfold iLen; omega), if_neg (by omega)]
    unfold knownR; rw [if_pos this, ← hR]; rfl
  have hbr : breaksR rs a b c l 3 (crsL TC 6 N) = ((-1, -1), 0) := by
    rw [hN, hR]; exact breaksR_crs hsur (by omega) (by omega) (hR ▸ hcrs) (hR ▸ FitsL.of hfit)
  have hcr2 : cr = csV (crsL TC 6 N) := by rw [hcr]; exact crsV_eq
  refine Exists.intro rs (Exists.intro l (Exists.intro (crsL TC 6 N) (And.intro hxs (And.intro hls (And.intro hcr2 (And.intro (by omega) (And.intro (by omega) (And.intro (by rw [crsL_len]; omega) (And.intro (fun r hr => by
    unfold crsL at hr; obtain ⟨i, _, rfl⟩ := List.mem_map.1 hr; simp; omega) ?_)))))))))
  intro u v e huv; cbv
  have huv := huv.trans hbr
  simp only [Prod.mk.injEq] at huv
  obtain ⟨⟨rfl, rfl⟩, rfl⟩ := huv
  have hn0 : A.ne 0 0 = false := by subst hA; rfl
  have hm1 : A.ne (-1) (-1) = false := by subst hA; rfl
  have hxl : ∀ n, AV.ltL n xs := fun n => AV.ltL_nid (by rw [hxs]; exact nidL_rc rs)
  split <;> first | (rename_i hz; exact Bool.noConfusion (hz.symm.trans hn0)) | cbv
  split <;> first | (rename_i hz; exact Bool.noConfusion (hz.symm.trans hm1)) | cbv
  split <;> first | (rename_i hz; exact Bool.noConfusion (hz.symm.trans hm1)) | cbv
  rw [hT]
  refine AGo_whileE (σ := Nat) [4, 5, 6] (fun i => 6 - i) (fun i => i ≤ 6) (fun i => [(10, I (iLen i))]) (fun _ => [.own 0 [U w2], .own 0 [.vs 5 xs, I a, I b, I c]]) 0 (Nat.zero_le _) ⟨rfl, trivial⟩ (.inl rfl) fun i hi Bk hB => ?_
  obtain ⟨ih, hih⟩ : ∃ q, q = iLen i := ⟨_, rfl⟩
  rw [← hih]
  have hlt : A.lt ih (A.vlen cr) = decide (i < 6) := by rw [hcv, hll, hih]; rw [decide_eq_decide]; unfold iLen; omega
  refine SGo_run hA ⟨[], [], (28, eAwake) :: [], []⟩ (.cons eAwake_ok .nil) .nil 200 fun T TD hT hTD => ?_
  cbv
  split <;> cbv
  · rename_i hz
    have hi6 : i < 6 := of_decide_eq_true (hlt.symm.trans hz)
    have hri := hrow i ih hih hi6
    obtain ⟨row, hrowe⟩ : ∃ x, x = crsRow TC N i := ⟨_, rfl⟩
    have hrvi := hrv i
    rw [← hrowe] at hri hrvi
    have hthr : A.add .i64 3 ih = 3 + ih := by subst hA; exact iAdd_id (by rw [hih]; unfold iLen; omega) (by rw [hih]; unfold iLen; omega)
    have hadi : A.add .i64 ih 1 = iLen (i + 1) := by subst hA; exact add_one (N := 6) hih hi6 (by omega)
    rw [hT]
    refine AGo_whileE (σ := Nat) [4, 5, 6, 10] (fun p => N - p) (fun p => p ≤ N) (fun p => [(11, I (iLen p))]) (fun _ => [.own 0 [U w2], .own 0 [.vs 5 xs, I a, I b, I c]]) 0 (Nat.zero_le _) ⟨rfl, trivial⟩ (.inl rfl) fun p hp Bk2 hB2 => ?_
    obtain ⟨ip, hip⟩ : ∃ q, q = iLen p := ⟨_, rfl⟩
    rw [← hip]
    have hlt2 : A.lt ip (A.vlen row) = decide (p < N) := by rw [hrvi, hll, hip]; rw [decide_eq_decide]; unfold iLen; omega
    refine SGo_run hA ⟨[], [], (25, eKnown) :: (50, eHas) :: [], []⟩ (.cons (eKnown_ok p25) (.cons eHas_ok .nil)) .nil 200 fun T TD hT hTD => ?_
    cbv
    refine Exists.intro _ (And.intro hri ?_); cbv
    split <;> cbv
    · rename_i hz2
      have hpN : p < N := of_decide_eq_true (hlt2.symm.trans hz2)
      have hadp : A.add .i64 ip 1 = iLen (p + 1) := by subst hA; exact add_one (N := 1000) hip (by omega) (by omega)
      refine Exists.intro rs (Exists.intro l (And.intro hxs (And.intro hls (And.intro (by omega) (And.intro (by omega) ?_)))))
      intro u v e he; cbv
      have he : ((u, v), e) = knownR rs a b c l ip (3 + ih) := he.trans (congrArg (knownR rs a b c l ip) hthr)
      rw [hip, hkn _ _ hpN (by rw [hih]; unfold iLen; omega)] at he
      obtain ⟨⟩ := (Prod.mk.inj he).2
      have he := (Prod.mk.inj he).1
      have hk4 := know_crs hPl hcrs hfit hi6 (p := p) (by omega)
      rw [show (3 : Int) + (i : Int) = 3 + ih by rw [hih]; rfl, ← he] at hk4
      dsimp only at hk4
      have hci := hcell i p ip hip hpN
      rw [← hrowe] at hci
      obtain ⟨t, htt⟩ : ∃ t, t = TC i p := ⟨_, rfl⟩
      rw [← htt] at hci hk4
      split <;> first | (rename_i hz; exact Bool.noConfusion (hz.symm.trans hn0)) | cbv
      refine Exists.intro _ (And.intro hri ?_); cbv
      refine Exists.intro _ (And.intro hci ?_); cbv
      intro b1 hb1; cbv
      have hb1 : b1 = true := by rw [hb1]; exact decide_eq_true (by omega)
      subst hb1
      have hbt : A.bnot true = false := by subst hA; rfl
      split <;> first | (rename_i hz; exact Bool.noConfusion (hz.symm.trans hbt)) | cbv
      exact hB2 (p + 1) _ _ (by omega) (by omega) ⟨congrArg I hadp, trivial⟩ ⟨rfl, rfl, rfl, rfl, trivial⟩ (.inr ⟨⟨[.own 0 [I u, I v]], rfl⟩, by simp, by simp [ltG, AV.lt, AV.ltL, keepS, look, gset], by simp [ltH, AObj.lt, AV.lt, AV.ltL, hxl]⟩)
    · rename_i hz2
      exact hB (i + 1) _ _ (by omega) (by omega) ⟨congrArg I hadi, trivial⟩ ⟨rfl, rfl, rfl, trivial⟩ (.inl rfl)
  · exact h _
end Go.Sas
