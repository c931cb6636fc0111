/-
Probe: the reference's Breaks: contract.
Conditions: none.
-/
import Derived.Test.YtajegdbljldakaaQR43
set_option linter.unusedVariables false
set_option linter.unusedSimpArgs false
namespace Go.Sas
open Go.Proofs
set_option maxRecDepth 100000
def eBroken : List AV → Option ((AV → Prop) → Prop)
  | [.agg [.vs 5 xs, .lit (.int .i64 a), .lit (.int .i64 b), .lit (.int .i64 c)], .vs 5 ls, .lit (.int .i64 f), .vs 1 vs, .lit (.int .i64 ii), .lit (.int .i64 ip)] =>
    some fun K => ∃ (rs : List Rch) (l : List Lk) (cs : List (List Int)) (i p : Nat), (xs = rs.map rcV ∧ ls = l.map lkV ∧ vs = csV cs ∧ ii = iLen i ∧ ip = iLen p) ∧ (RoadOk rs ∧ l.length ≤ 1000000 ∧ ∀ x ∈ l, LkOk (sumLg rs) x) ∧ (0 ≤ f ∧ f ≤ 10000) ∧ f + iLen cs.length ≤ 10001 ∧
      (i < cs.length ∧ p < (plc rs).length ∧ ∀ r ∈ cs, r.length = (plc rs).length) ∧ (0 < p → 0 ≤ cellS cs i (p - 1) ∧ cellS cs i (p - 1) ≤ 3000) ∧ (0 < i → 0 ≤ cellS cs (i - 1) p ∧ cellS cs (i - 1) p ≤ 3000) ∧ ∀ w, w = wrongS (plc rs) l f cs i p → K (B w)
  | _ => none
theorem eBroken_ok : ∀ args pt, eBroken args = some pt → ∀ (H : AHeap) (Kk : AV → AHeap → Prop), pt (fun r => Kk r H) → ACalls Try.prog 101 args H Kk := by
  intro args pt h H Kk hk
  unfold eBroken at h
  split at h
  · cases h
    obtain ⟨rs, l, cs, i, p, ⟨rfl, rfl, rfl, rfl, rfl⟩, ⟨h1, h2, h3⟩, h4, h5, ⟨h6, h7, h8⟩, h9, h10, h11⟩ := hk
    exact p101 _ _ _ _ _ _ _ _ _ h1 h2 h3 h4 h5 h6 h7 h8 h9 h10 H (h11 _ rfl)
  · cases h
theorem p66 (rs : List Rch) (a b c f : Int) (l : List Lk) (cs : List (List Int)) (h1 : rs.length ≤ 9223372036854775807) (h2 : l.length ≤ 9223372036854775807) (h3 : cs.length ≤ 1000000) (h4 : ∀ r ∈ cs, r.length ≤ 9223372036854775807) (H : AHeap) {Kk : AV → AHeap → Prop}
    (h : Kk (.tup [I (breaksR rs a b c l f cs).1.1, I (breaksR rs a b c l f cs).1.2, I (breaksR rs a b c l f cs).2]) H) : ACalls Try.prog 66 [svV (.vs 5 (rs.map rcV)) a b c, .vs 5 (l.map lkV), I f, .vs 1 (csV cs)] H Kk := by
  have hnr := nidL_rc rs
  have hncs : AV.nidL (csV cs) = true := nidL_map (fun _ => by simp [AV.nid]) _
  refine (fun q => pureC (by simp [AV.nidL, AV.nid, hnr, hncs]) (by rfl) q H h) ?_
  clear h
  intro Kk h
  obtain ⟨xs, hxs⟩ : ∃ xs, xs = rs.map rcV := ⟨_, rfl⟩
  rw [← hxs]
  obtain ⟨ls, hls⟩ : ∃ ys, ys = l.map lkV := ⟨_, rfl⟩
  rw [← hls]
  obtain ⟨vs, hvs⟩ : ∃ ys, ys = csV cs := ⟨_, rfl⟩
  rw [← hvs]
  obtain ⟨E, hE⟩ : ∃ E, E = surE rs a b c l := ⟨_, rfl⟩
  obtain ⟨R, hR⟩ : ∃ R, R = plc rs := ⟨_, rfl⟩
  obtain ⟨N, hN⟩ : ∃ N, N = R.length := ⟨_, rfl⟩
  obtain ⟨M, hM⟩ : ∃ M, M = cs.length := ⟨_, rfl⟩
  obtain ⟨W, hW⟩ : ∃ W, W = wrongS R l f cs := ⟨_, rfl⟩
  have hw : ∀ e, breaksE rs a b c l f cs = e → e ≠ 0 → Kk (.tup [I 0, I 0, I e]) [] := fun e h1 h2 => by
    unfold breaksR at h; rw [h1, if_neg h2] at h; exact h
  have hg1 : breaksE rs a b c l f cs = 0 → ∀ i p, i < M → p < N → W i p = true → (∀ j q, Bef j q i p → q < N → W j q = false) → Kk (.tup [I (iLen i), I (iLen p), I 0]) [] := fun h1 i p hi hp hw hb => by
    unfold breaksR at h; rw [if_pos h1, ← hR, ← hM, ← hN, ← hW, firstW_some hi hp hw hb] at h; exact h
  have hg2 : breaksE rs a b c l f cs = 0 → (∀ i p, i < M → p < N → W i p = false) → Kk (.tup [I (-1), I (-1), I 0]) [] := fun h1 hb => by
    unfold breaksR at h; rw [if_pos h1, ← hR, ← hM, ← hN, ← hW, firstW_none hb] at h; exact h
  clear h
  have hK : breaksE rs a b c l f cs = orElse E (if ¬(0 ≤ f ∧ f ≤ 10000) then 2 else if M = 0 then 6 else if 10001 < f + iLen M then 8 else if cs.any (fun r => decide (iLen r.length ≠ sumLg rs)) then 3 else 0) := by rw [hE, hM]; rfl
  obtain ⟨A, hA⟩ : ∃ A, A = std := ⟨_, rfl⟩
  have hne : ∀ x y, A.ne x y = decide (x ≠ y) := by subst hA; intro x y; simp only [std, iNe]; rw [Bool.eq_iff_iff]; simp
  have hee : ∀ x y, A.eq x y = decide (x = y) := by subst hA; intro x y; exact iEq_dec _ _
  have hll : ∀ x y, A.lt x y = decide (x < y) := by subst hA; intro x y; rfl
  have hle : ∀ x y, A.le x y = decide (x ≤ y) := by subst hA; intro x y; rfl
  have hnb : ∀ b, A.bnot b = !b := by subst hA; intro b; rfl
  have hbd : ∀ x y, A.band x y = (x && y) := by subst hA; intro x y; rfl
  have hsg : ∀ g, A.sg g g := by subst hA; exact fun _ => rfl
  have hvv : A.vlen vs = iLen M := by subst hA; rw [hvs, hM]; simp [std]
  refine go66 rfl (SGo_run hA ⟨[], [], (36, eSurE) :: (80, eIn) :: (46, ePlaces) :: [], []⟩ (.cons (eSurE_ok p36) (.cons (eIn_ok p80) (.cons (ePlaces_ok p46) .nil))) .nil 200 fun T TD hT hTD => ?_)
  cbv
  refine Exists.intro rs (Exists.intro l (And.intro hxs (And.intro hls (And.intro h1 (And.intro h2 ?_)))))
  intro q hq; cbv
  split <;> cbv
  · rename_i hz
    have hz : q ≠ 0 := of_decide_eq_true ((hne q 0).symm.trans hz)
    refine hw q ?_ hz
    rw [hK, hE, ← hq]; unfold orElse; rw [if_neg hz]
  rename_i hz
  have hz : q = 0 := by have hz := of_decide_eq_false ((hne q 0).symm.trans hz); simpa using hz
  obtain ⟨ho, hs2, hlo⟩ := surE_ok.1 (hq.symm.trans hz)
  have hE0 : E = 0 := by rw [hE]; exact surE_ok.2 ⟨ho, hs2, hlo⟩
  clear hz hq
  have hRl := ho.ilen
  have hPl := ho.plc
  rw [← hR] at hRl hPl
  rw [← hN] at hRl
  have hlb := hlo.le
  have hN2 : N ≤ 1000 := by rw [hN]; exact hPl.le
  have hxl : ∀ n, AV.ltL n xs := fun n => AV.ltL_nid (by rw [hxs]; exact hnr)
  clear hE
  intro q1 hq1; cbv
  have hK : breaksE rs a b c l f cs = (if ¬(0 ≤ f ∧ f ≤ 10000) then 2 else if M = 0 then 6 else if 10001 < f + iLen M then 8 else if cs.any (fun r => decide (iLen r.length ≠ sumLg rs)) then 3 else 0) := by rw [hK, hE0]; unfold orElse; rw [if_pos rfl]
  split <;> cbv
  · rename_i hz
    have hz : q1 = false := by have hz := (hnb q1).symm.trans hz; simpa using hz
    rw [hq1, decide_eq_false_iff_not] at hz
    exact hw 2 (by rw [hK, if_pos hz]) (by decide)
  rename_i hz
  have hz : q1 = true := by have hz := (hnb q1).symm.trans hz; simpa using hz
  rw [hq1, decide_eq_true_eq] at hz
  rw [if_neg (fun h => h hz)] at hK
  have heq0 : A.eq (A.vlen vs) 0 = decide (M = 0) := by rw [hee, hvv, decide_eq_decide]; unfold iLen; omega
  split <;> cbv
  · rename_i hz2
    have hz2 := of_decide_eq_true (heq0.symm.trans hz2)
    exact hw 6 (by rw [hK, if_pos hz2]) (by decide)
  rename_i hz2
  have hz2 := of_decide_eq_false (heq0.symm.trans hz2)
  rw [if_neg hz2] at hK
  have hMb : iLen M ≤ 1000000 := by rw [hM]; unfold iLen; omega
  have hgt : A.lt 10001 (A.add .i64 f (A.vlen vs)) = decide (10001 < f + iLen M) := by
    rw [hll, hvv]; subst hA; show decide (10001 < iAdd .i64 f (iLen M)) = _
    rw [iAdd_id (by unfold iLen; omega) (by omega)]
  split <;> cbv
  · rename_i hz3
    have hz3 := of_decide_eq_true (hgt.symm.trans hz3)
    exact hw 8 (by rw [hK, if_pos hz3]) (by decide)
  rename_i hz3
  have hz3 := of_decide_eq_false (hgt.symm.trans hz3)
  rw [if_neg hz3] at hK
  refine Exists.intro rs (And.intro hxs (And.intro (by have := ho.n2; omega) (And.intro ho.all ?_)))
  intro nn hnn; cbv
  have hnn2 : nn = iLen N := hnn.trans hRl.symm
  have hMi : ∀ i q, q = iLen i → i < M → A.ix 1 1 vs q [.vs 1 ((cs.getD i []).map I)] := fun i q hq hi => by subst hA; exact ix_map (f := fun r : List Int => AV.vs 1 (r.map I)) hvs hq (cs_get (by omega)) rfl
  rw [hT]
  obtain ⟨BAD, hBAD⟩ : ∃ g : List (List Int) → Bool, g = fun cs => cs.any fun r => decide (iLen r.length ≠ sumLg rs) := ⟨_, rfl⟩
  rw [show (cs.any fun r => decide (iLen r.length ≠ sumLg rs)) = BAD cs by rw [hBAD]] at hK
  refine AGo_upE [1, 2, 3, 4, 12] M (fun j (_ : Unit) => BAD cs = BAD (cs.drop j)) (fun j _ i => [(13, I i)]) (fun j _ => [.own 0 [.vs 5 xs, I a, I b, I c]]) () rfl ⟨rfl, trivial⟩ (.inl rfl) fun j _ i hi hj hP Bk hB => ?_
  have hlt : A.lt i (A.vlen vs) = decide (j < M) := by rw [hvv, hll, hi, decide_eq_decide]; unfold iLen; omega
  have hadd : ∀ N, j < N → N ≤ 9223372036854775807 → A.add .i64 i 1 = iLen (j + 1) := fun N hj hN => by subst hA; exact add_one hi hj hN
  refine SGo_run hA ⟨[], [], [], []⟩ .nil .nil 200 fun T TD hT hTD => ?_
  cbv
  split <;> cbv
  · rename_i hk0
    have hk1 : j < M := by have hz := hlt.symm.trans hk0; simpa using hz
    clear hk0
    have hri := hMi j i hi hk1
    have hBs : BAD (cs.drop j) = (decide (iLen (cs.getD j []).length ≠ sumLg rs) || BAD (cs.drop (j + 1))) := by rw [hBAD]; exact any_drop (cs_get (by omega))
    obtain ⟨row, hrow⟩ : ∃ x, x = (cs.getD j []).map I := ⟨_, rfl⟩
    rw [← hrow] at hri
    have hne2 : A.ne (A.vlen row) nn = decide (iLen (cs.getD j []).length ≠ sumLg rs) := by rw [hne, hnn, hrow]; subst hA; simp [std]
    refine Exists.intro _ (And.intro hri ?_); cbv
    split <;> cbv
    · rename_i hz4
      have hz4 := hne2.symm.trans hz4
      rw [hz4, Bool.true_or] at hBs
      exact hw 3 (by rw [hK, hP, hBs]; rfl) (by decide)
    · rename_i hz4
      have hz4 := hne2.symm.trans hz4
      rw [hz4, Bool.false_or] at hBs
      exact hB () _ _ hk1 (by rw [hP, hBs]) ⟨congrArg I (hadd _ hk1 (by omega)), trivial⟩ ⟨rfl, rfl, rfl, rfl, rfl, trivial⟩ (.inl rfl)
  · rename_i hk0
    have hk1 : ¬ j < M := by have hz := hlt.symm.trans hk0; simpa using hz
    clear hk0
    have hbad : BAD cs = false := by rw [hP, List.drop_eq_nil_of_le (by omega), hBAD]; rfl
    rw [hbad] at hK
    have hK : breaksE rs a b c l f cs = 0 := hK
    have hrl : ∀ r ∈ cs, r.length = R.length := fun r hr => by
      rw [hBAD] at hbad
      rw [List.any_eq_false] at hbad
      have := hbad r hr
      simp only [decide_eq_true_eq, ne_eq, Decidable.not_not] at this
      rw [← hN]
      unfold iLen at *; omega
    have hg1 := hg1 hK
    have hg2 := hg2 hK
    clear hw hK hP hbad hB hadd hlt
    rw [hT]
    refine AGo_upE [1, 2, 3, 4, 12] M (fun j (_ : Unit) => ∀ i q, i < j → q < N → W i q = false) (fun j _ i => [(14, I i)]) (fun j _ => [.own 0 [.vs 5 xs, I a, I b, I c]]) () (fun i q hi => by omega) ⟨rfl, trivial⟩ (.inl rfl) fun j _ i hi hj hP Bk hB => ?_
    have hlt : A.lt i (A.vlen vs) = decide (j < M) := by rw [hvv, hll, hi, decide_eq_decide]; unfold iLen; omega
    have hadd : ∀ N, j < N → N ≤ 9223372036854775807 → A.add .i64 i 1 = iLen (j + 1) := fun N hj hN => by subst hA; exact add_one hi hj hN
    refine SGo_run hA ⟨[], [], [], []⟩ .nil .nil 200 fun T TD hT hTD => ?_
    cbv
    split <;> cbv
    · rename_i hk0
      have hk1 : j < M := by have hz := hlt.symm.trans hk0; simpa using hz
      clear hk0
      rw [hT]
      refine AGo_upE [1, 2, 3, 4, 12, 14] N (fun p (_ : Unit) => ∀ q, q < p → W j q = false) (fun p _ i => [(15, I i)]) (fun j _ => [.own 0 [.vs 5 xs, I a, I b, I c]]) () (fun q hi => by omega) ⟨rfl, trivial⟩ (.inl rfl) fun p _ ip hip hp hP2 Bk2 hB2 => ?_
      have hlt2 : A.lt ip nn = decide (p < N) := by rw [hnn2, hll, hip, decide_eq_decide]; unfold iLen; omega
      have hadd2 : ∀ N, p < N → N ≤ 9223372036854775807 → A.add .i64 ip 1 = iLen (p + 1) := fun N hj hN => by subst hA; exact add_one hip hj hN
      have hWb : ∀ j2 q, Bef j2 q j p → q < N → W j2 q = false := fun j2 q hb hq => by
        rcases hb with hb | ⟨rfl, hb⟩
        · exact hP j2 q hb hq
        · exact hP2 q hb
      have hcl : ∀ j2 q, Bef j2 q j p → q < N → 0 ≤ cellS cs j2 q ∧ cellS cs j2 q ≤ 3000 := fun j2 q hb hq => wrongS_rng (by rw [← hW]; exact hWb j2 q hb hq)
      refine SGo_run hA ⟨[], [], (101, eBroken) :: [], []⟩ (.cons eBroken_ok .nil) .nil 200 fun T TD hT hTD => ?_
      cbv
      split <;> cbv
      · rename_i hzp
        have hpN : p < N := of_decide_eq_true (hlt2.symm.trans hzp)
        refine Exists.intro rs (Exists.intro l (Exists.intro cs (Exists.intro j (Exists.intro p (And.intro ⟨hxs, hls, hvs, hi, hip⟩ (And.intro ⟨ho, by omega, hlo.all' ho⟩ (And.intro hz (And.intro (by rw [← hM]; omega) (And.intro ⟨by omega, by rw [← hR, ← hN]; exact hpN, by rw [← hR]; exact hrl⟩ (And.intro (fun h0 => hcl j (p - 1) (.inr ⟨rfl, by omega⟩) (by omega)) (And.intro (fun h0 => hcl (j - 1) p (.inl (by omega)) hpN) ?_)))))))))))
        intro w hw; cbv
        rw [← hR, ← hW] at hw
        cases w with
        | true =>
          cbv
          have := hg1 j p hk1 hpN hw.symm hWb
          rw [← hi, ← hip] at this
          exact this
        | false =>
          cbv
          refine hB2 () _ _ hpN ?_ ⟨congrArg I (hadd2 _ hpN (by omega)), trivial⟩ ⟨rfl, rfl, rfl, rfl, rfl, rfl, trivial⟩ (.inl rfl)
          intro q hq
          by_cases h : q < p
          · exact hP2 q h
          · rw [show q = p by omega]; exact hw.symm
      · rename_i hzp
        have hpN : ¬ p < N := of_decide_eq_false (hlt2.symm.trans hzp)
        refine hB () _ _ hk1 ?_ ⟨congrArg I (hadd _ hk1 (by omega)), trivial⟩ ⟨rfl, rfl, rfl, rfl, rfl, trivial⟩ (.inl rfl)
        intro i2 q2 hi2 hq2
        by_cases h : i2 < j
        · exact hP i2 q2 h hq2
        · rw [show i2 = j by omega]; exact hP2 q2 (by omega)
    · rename_i hk0
      have hk1 : ¬ j < M := by have hz := hlt.symm.trans hk0; simpa using hz
      clear hk0
      exact hg2 fun i p hi2 hp => hP i p (by omega) hp
theorem eBreaksF_ok : ∀ args pt, eBreaks args = some pt → ∀ (H : AHeap) (Kk : AV → AHeap → Prop), pt (fun r => Kk r H) → ACalls Try.prog 66 args H Kk := by
  intro args pt h H Kk hk
  unfold eBreaks at h
  split at h
  · cases h
    obtain ⟨rs, l, cs, rfl, rfl, rfl, h1, h2, h3, h4, h5⟩ := hk
    exact p66 _ _ _ _ _ _ _ h1 h2 h3 h4 H (h5 _ _ _ rfl)
  · cases h
end Go.Sas
