/-
How a truck drives: what is drawn.
Convoys made of numbers: what is drawn is accepted.
Conditions: none.
-/
import Derived.Test.YtndnjmpebpampaaGreatDoorWI
set_option linter.unusedVariables false
set_option linter.unusedSimpArgs false
namespace Go.Sas
open Go.Proofs
set_option maxRecDepth 100000
theorem drive_step {L gap : Int} {t : Tck} (hV : TckV L gap t) (hL : 1 ≤ L) {j : Nat} {g d : Int} (hj : t.st < (j : Int)) (hg : (wPre L t j).1 ≤ g ∧ g ≤ (wPre L t j).2) (hd : t.lo ≤ d ∧ d ≤ t.hi) :
    (waysT L t j).1 ≤ min (g + d) (stopG L t.way g ((j : Int) - 1) t.hs) ∧ min (g + d) (stopG L t.way g ((j : Int) - 1) t.hs) ≤ (waysT L t j).2 := by
  have h0 := hV.st
  obtain ⟨k, rfl⟩ : ∃ k, j = k + 1 := ⟨j - 1, by omega⟩
  have hb := waysT_bnd hV hL k
  simp only [wPre] at hg
  have e : ((k + 1 : Nat) : Int) - 1 = (k : Int) := by omega
  rw [e, stopG_eq (m := (k : Int)) (by unfold stopT at hb; omega)]
  exact CrsT.next hg hd (by omega)
def eNextN : List AV → Option ((AV → Prop) → Prop)
  | [.agg [.lit (.int .i64 L), .lit (.int .i64 _), .lit (.int .i64 _), .vs 5 _], .agg [.lit (.int .i64 w), .lit (.int .i64 _), .lit (.int .i64 _), .lit (.int .i64 _), hv], .lit (.int .i64 g), .lit (.int .i64 m), .lit (.int .i64 d)] =>
    some fun K => ∃ hs : List Hld, (Wk hv (.vs 2 (hs.map hdV)) ∧ ((-1000000000 ≤ L ∧ L ≤ 1000000000) ∧ HldS hs ∧ hs.length ≤ 9223372036854775807) ∧ (-1000000000 ≤ g ∧ g ≤ 1000000000) ∧ -1000000000 ≤ d ∧ d ≤ 1000000000) ∧ ∀ q, q = min (g + d) (stopG L w g m hs) → K (I q)
  | _ => none
theorem eNextN_ok : ∀ args pt, eNextN args = some pt → ∀ (H : AHeap) (Kk : AV → AHeap → Prop), pt (fun r => Kk r H) → ACalls Tryz.prog 36 args H Kk := by
  intro args pt h H Kk hk
  unfold eNextN at h
  split at h
  · cases h
    obtain ⟨hs, ⟨h0, ⟨h1, h2, h4⟩, h5, h6⟩, h3⟩ := hk
    exact (p36 _ _ _ _ _ _ _ _ _ _ _ hs h1 h2 h4 h5 h6 H (h3 _ rfl)).wk ⟨Wk.rfl, Wk.agg ⟨Wk.rfl, Wk.rfl, Wk.rfl, Wk.rfl, h0, trivial⟩, Wk.rfl, Wk.rfl, Wk.rfl, trivial⟩
  · cases h
/-- how far gone, minute by minute -/
def DrQ (L : Int) (t : Tck) (n : Nat) (r : AV) : Prop := ∃ (gs : List Int) (xs : List AV), r = .vs 1 xs ∧ xs = gs.map I ∧ gs.length = n + 1 ∧ ∀ m, m ≤ n → (waysT L t m).1 ≤ gs.getD m 0 ∧ gs.getD m 0 ≤ (waysT L t m).2
set_option maxHeartbeats 4000000 in
theorem d14 (L gp fl : Int) (ts : List AV) (t : Tck) (f : Bool) (n : Nat) (hV : TckV L gp t) (hL : 1 ≤ L ∧ L ≤ 100000) (hn : n ≤ 100000) : Draws Tryz.prog 14 [cvyV L gp fl (.vs 5 ts), tckV t.way t.st t.lo t.hi (.vs 2 (t.hs.map hdV)), B f, I (iLen n)] (DrQ L (freeT f t) n) := by
  refine .of rfl (by rintro r ⟨_, _, rfl, _⟩; rfl) fun w Kk h => ACalls.frees ?_
  have hVf := hV.free f
  have hS := hVf.hldS hL.2
  have hl8 := hVf.hs.n
  have hst := hV.st
  have hlo := hV.lo
  have hhi := hV.hi
  have hbn := fun m => waysT_bnd hVf hL.1 m
  have hsb := fun m => stopT_bnd hVf hL.1 m
  have hps := fun j => wPre_bnd hVf hL.1 j
  have hstep := fun (j : Nat) (g d : Int) => drive_step hVf hL.1 (j := j) (g := g) (d := d)
  have hstay := fun (j : Nat) => wPre_stay (L := L) (t := freeT f t) (j := j)
  obtain ⟨WY, hWY⟩ : ∃ f' : Nat → Int × Int, f' = waysT L (freeT f t) := ⟨_, rfl⟩
  obtain ⟨WP, hWP⟩ : ∃ f' : Nat → Int × Int, f' = wPre L (freeT f t) := ⟨_, rfl⟩
  have hW0 : WP 0 = (0, 0) := by rw [hWP]; rfl
  have hWs : ∀ j, WP (j + 1) = WY j := fun j => by rw [hWP, hWY]; rfl
  have hfin : ∀ w' r, (∃ (gs : List Int) (xs : List AV), r = .vs 1 xs ∧ xs = gs.map I ∧ gs.length = n + 1 ∧ ∀ m, m ≤ n → (WY m).1 ≤ gs.getD m 0 ∧ gs.getD m 0 ≤ (WY m).2) → Kk r [.own 0 [U w']] := fun w' r hr => h w' r (by rw [hWY] at hr; exact hr)
  clear h
  rw [← hWY] at hbn hstep hstay
  rw [← hWP] at hps hstep hstay
  obtain ⟨w0, s, lo, hi, hs⟩ := t
  rw [freeT_eq] at hS hl8 hstep hstay
  dsimp only at hS hl8 hst hlo hhi hstep hstay ⊢
  obtain ⟨ys, hys⟩ : ∃ ys, ys = hs.map hdV := ⟨_, rfl⟩
  rw [← hys]
  obtain ⟨hv, hhv⟩ : ∃ hv : AV, hv = if f then .lit (.slice none 0 0) else .vs 2 ys := ⟨_, rfl⟩
  have hwk : Wk hv (.vs 2 ((frH f hs).map hdV)) := by
    rw [hhv]; cases f
    · rw [hys]; exact Wk.rfl
    · exact Wk.nil
  have hvl : ∀ n, AV.lt n hv := fun n => by rw [hhv]; cases f <;> simp [AV.lt]
  obtain ⟨hf, hhf⟩ : ∃ x, x = frH f hs := ⟨_, rfl⟩
  rw [← hhf] at hS hl8 hstep hwk
  clear hWY hWP hhf hVf hV hbn hsb
  obtain ⟨A, hA⟩ : ∃ A, A = std := ⟨_, rfl⟩
  have hsg : ∀ g, A.sg g g := by subst hA; exact fun _ => rfl
  have hll : ∀ x y, A.lt x y = decide (x < y) := by subst hA; intro x y; rfl
  have hle : ∀ x y, A.le x y = decide (x ≤ y) := by subst hA; intro x y; rfl
  obtain ⟨N, hN⟩ : ∃ N : Int, N = iLen n := ⟨_, rfl⟩
  rw [← hN]
  obtain ⟨F, hF⟩ : ∃ F, F = Frees 1 Kk := ⟨_, rfl⟩
  rw [show Frees [AObj.own 0 [U w]].length Kk = F from hF.symm]
  cases f with
  | true =>
    have hhv : (AV.lit (.slice none 0 0)) = hv := hhv.symm
    refine go14 rfl (SGo_run hA ⟨[], [], [], ed2⟩ .nil ed2_ok 200 fun T TD hT hTD => ?_)
    cbv
    refine Exists.intro () (And.intro (by omega) ?_)
    rintro w1 _ ⟨kd, rfl, hk1, hk2⟩
    cbv
    rw [hT]
    refine AGo_nilms 11 1 rfl ?_
    rw [hhv]
    refine AGo_upE [0, 4, 6, 7, 13] (n + 1) (fun j (z : Int × Int × List Int) => z.2.2.length = j ∧ ((WP j).1 ≤ z.2.1 ∧ z.2.1 ≤ (WP j).2) ∧ ∀ m, m < j → (WY m).1 ≤ z.2.2.getD m 0 ∧ z.2.2.getD m 0 ≤ (WY m).2) (fun j z i => [(11, .ms 1 3 j 0 j), (12, I z.2.1), (14, I i)])
      (fun j z => [.own 0 [U z.1], .own 0 [I L, I gp, I fl, .vs 5 ts], .own 0 [I w0, I s, I lo, I hi, hv], .own j (z.2.2.map I)]) (w1, 0, []) ⟨rfl, by rw [hW0]; simp, fun m hm => by omega⟩ ⟨rfl, rfl, rfl, trivial⟩ (.inl rfl) fun j z i hi2 hj hP Bk hB => ?_
    obtain ⟨w2, g, gs⟩ := z
    obtain ⟨hP1, hP2, hP3⟩ := hP
    dsimp only at hP1 hP2 hP3 ⊢
    have hlt : A.le i N = decide (j < n + 1) := by rw [hle, hi2, hN, Bool.eq_iff_iff]; unfold iLen; simp only [decide_eq_true_eq]; omega
    have hadd : ∀ N, j < N → N ≤ 9223372036854775807 → A.add .i64 i 1 = iLen (j + 1) := fun N hj hN => by subst hA; exact add_one hi2 hj hN
    have hsi : A.lt s i = decide (s < (j : Int)) := by rw [hll, hi2]; rfl
    have hsub : A.sub .i64 i 1 = (j : Int) - 1 := by subst hA; show iSub .i64 i 1 = _; rw [hi2, iSub_id (by unfold iLen; omega) (by unfold iLen; omega)]; rfl
    have hpb := hps j
    have hsp := hstep j g
    have hsy := hstay j
    have hnx : ∀ g', (WY j).1 ≤ g' ∧ g' ≤ (WY j).2 → (gs ++ [g']).length = j + 1 ∧ ((WP (j + 1)).1 ≤ g' ∧ g' ≤ (WP (j + 1)).2) ∧ ∀ m, m < j + 1 → (WY m).1 ≤ (gs ++ [g']).getD m 0 ∧ (gs ++ [g']).getD m 0 ≤ (WY m).2 := fun g' hg' => by
      refine ⟨by simp [hP1], by rw [hWs]; exact hg', fun m hm => ?_⟩
      rcases Nat.lt_or_ge m j with h1 | h1
      · have := hP3 m h1
        rwa [List.getD_eq_getElem?_getD, List.getElem?_append_left (by omega), ← List.getD_eq_getElem?_getD]
      · rw [show m = j by omega, List.getD_eq_getElem?_getD, List.getElem?_append_right (by omega), hP1, Nat.sub_self]; exact hg'
    obtain ⟨cc, hcc⟩ : ∃ c, c = gs.map I := ⟨_, rfl⟩
    rw [← hcc]
    have hcl : cc.length = j * 1 := by rw [hcc, List.length_map, hP1]; omega
    refine SGo_run hA ⟨[3], [], (36, eNextN) :: [], ed2⟩ (.cons eNextN_ok .nil) ed2_ok 200 fun T TD hT hTD => ?_
    cbv
    split <;> cbv
    · rename_i hz
      have hk1 : j < n + 1 := by have hz := hlt.symm.trans hz; simpa using hz
      split <;> cbv
      · rename_i hz2
        have hz2 : s < (j : Int) := by simpa using hsi.symm.trans hz2
        refine Exists.intro () (And.intro (by omega) ?_)
        rintro w3 _ ⟨d, rfl, hg1, hg2⟩
        cbv
        split <;> cbv
        · clear hg2
          refine Exists.intro hf (And.intro ⟨hwk, ⟨⟨by omega, by omega⟩, hS, by omega⟩, ⟨by omega, by omega⟩, by omega, by omega⟩ ?_)
          intro q hq; cbv
          have hq : q = min (g + lo) (stopG L w0 g ((j : Int) - 1) hf) := by rw [hq]; show min _ (stopG L w0 g (A.sub .i64 i 1) hf) = _; rw [hsub]
          have hn3 := hnx q (by rw [hq]; exact hsp lo hz2 hP2 (by omega))
          obtain ⟨c1, hc1⟩ : ∃ c, c = (gs ++ [q]).map I := ⟨_, rfl⟩
          refine And.intro (hsg _) (Exists.intro c1 (Exists.intro (j + 1) (And.intro (by rw [hc1, List.map_append, ← hcc]; subst hA; exact app_one hcl rfl (by omega)) (And.intro rfl ?_)))); cbv
          refine hB (w3, q, gs ++ [q]) _ _ hk1 hn3 ⟨rfl, rfl, congrArg I (hadd _ hk1 (by omega)), trivial⟩ ⟨rfl, rfl, rfl, rfl, rfl, trivial⟩ (.inl (by rw [hc1]))
        split <;> cbv
        · clear hg2
          refine Exists.intro hf (And.intro ⟨hwk, ⟨⟨by omega, by omega⟩, hS, by omega⟩, ⟨by omega, by omega⟩, by omega, by omega⟩ ?_)
          intro q hq; cbv
          have hq : q = min (g + hi) (stopG L w0 g ((j : Int) - 1) hf) := by rw [hq]; show min _ (stopG L w0 g (A.sub .i64 i 1) hf) = _; rw [hsub]
          have hn3 := hnx q (by rw [hq]; exact hsp hi hz2 hP2 (by omega))
          obtain ⟨c1, hc1⟩ : ∃ c, c = (gs ++ [q]).map I := ⟨_, rfl⟩
          refine And.intro (hsg _) (Exists.intro c1 (Exists.intro (j + 1) (And.intro (by rw [hc1, List.map_append, ← hcc]; subst hA; exact app_one hcl rfl (by omega)) (And.intro rfl ?_)))); cbv
          refine hB (w3, q, gs ++ [q]) _ _ hk1 hn3 ⟨rfl, rfl, congrArg I (hadd _ hk1 (by omega)), trivial⟩ ⟨rfl, rfl, rfl, rfl, rfl, trivial⟩ (.inl (by rw [hc1]))
        · have hg3 : lo ≤ d ∧ d ≤ hi := by omega
          clear hg1 hg2
          refine Exists.intro hf (And.intro ⟨hwk, ⟨⟨by omega, by omega⟩, hS, by omega⟩, ⟨by omega, by omega⟩, by omega, by omega⟩ ?_)
          intro q hq; cbv
          have hq : q = min (g + d) (stopG L w0 g ((j : Int) - 1) hf) := by rw [hq]; show min _ (stopG L w0 g (A.sub .i64 i 1) hf) = _; rw [hsub]
          have hn3 := hnx q (by rw [hq]; exact hsp d hz2 hP2 (by omega))
          obtain ⟨c1, hc1⟩ : ∃ c, c = (gs ++ [q]).map I := ⟨_, rfl⟩
          refine And.intro (hsg _) (Exists.intro c1 (Exists.intro (j + 1) (And.intro (by rw [hc1, List.map_append, ← hcc]; subst hA; exact app_one hcl rfl (by omega)) (And.intro rfl ?_)))); cbv
          refine hB (w3, q, gs ++ [q]) _ _ hk1 hn3 ⟨rfl, rfl, congrArg I (hadd _ hk1 (by omega)), trivial⟩ ⟨rfl, rfl, rfl, rfl, rfl, trivial⟩ (.inl (by rw [hc1]))
      · rename_i hz2
        have hz2 : ¬ s < (j : Int) := by simpa using hsi.symm.trans hz2
        have hn3 := hnx g (by rw [hsy hz2]; exact hP2)
        obtain ⟨c1, hc1⟩ : ∃ c, c = (gs ++ [g]).map I := ⟨_, rfl⟩
        refine And.intro (hsg _) (Exists.intro c1 (Exists.intro (j + 1) (And.intro (by rw [hc1, List.map_append, ← hcc]; subst hA; exact app_one hcl rfl (by omega)) (And.intro rfl ?_)))); cbv
        refine hB (w2, g, gs ++ [g]) _ _ hk1 hn3 ⟨rfl, rfl, congrArg I (hadd _ hk1 (by omega)), trivial⟩ ⟨rfl, rfl, rfl, rfl, rfl, trivial⟩ (.inl (by rw [hc1]))
    · rename_i hz
      have hk1 : ¬ j < n + 1 := by have hz := hlt.symm.trans hz; simpa using hz
      have hjn : j = n + 1 := by omega
      rw [hF]
      refine Frees.frz 3 j 1 cc rfl (by rw [hcc]; exact Elems_one (F := I) (fun _ => rfl) (fun _ => rfl) _) ?_
      have e1 : AV.frz 3 j 1 cc (.ms 1 3 j 0 j) = .vs 1 cc := frz_self (by omega)
      show Frees 1 Kk (AV.frz 3 j 1 cc (.ms 1 3 j 0 j)) _
      rw [e1]
      exact Frees.drop1 rfl (hfin _ _ ⟨gs, cc, rfl, hcc, by omega, fun m hm => hP3 m (by omega)⟩)
  | false =>
    have hhv : (AV.vs 2 ys) = hv := hhv.symm
    refine go14 rfl (SGo_run hA ⟨[], [], [], ed2⟩ .nil ed2_ok 200 fun T TD hT hTD => ?_)
    cbv
    refine Exists.intro () (And.intro (by omega) ?_)
    rintro w1 _ ⟨kd, rfl, hk1, hk2⟩
    cbv
    rw [hT]
    refine AGo_nilms 11 1 rfl ?_
    rw [hhv]
    refine AGo_upE [0, 4, 6, 7, 13] (n + 1) (fun j (z : Int × Int × List Int) => z.2.2.length = j ∧ ((WP j).1 ≤ z.2.1 ∧ z.2.1 ≤ (WP j).2) ∧ ∀ m, m < j → (WY m).1 ≤ z.2.2.getD m 0 ∧ z.2.2.getD m 0 ≤ (WY m).2) (fun j z i => [(11, .ms 1 3 j 0 j), (12, I z.2.1), (14, I i)])
      (fun j z => [.own 0 [U z.1], .own 0 [I L, I gp, I fl, .vs 5 ts], .own 0 [I w0, I s, I lo, I hi, hv], .own j (z.2.2.map I)]) (w1, 0, []) ⟨rfl, by rw [hW0]; simp, fun m hm => by omega⟩ ⟨rfl, rfl, rfl, trivial⟩ (.inl rfl) fun j z i hi2 hj hP Bk hB => ?_
    obtain ⟨w2, g, gs⟩ := z
    obtain ⟨hP1, hP2, hP3⟩ := hP
    dsimp only at hP1 hP2 hP3 ⊢
    have hlt : A.le i N = decide (j < n + 1) := by rw [hle, hi2, hN, Bool.eq_iff_iff]; unfold iLen; simp only [decide_eq_true_eq]; omega
    have hadd : ∀ N, j < N → N ≤ 9223372036854775807 → A.add .i64 i 1 = iLen (j + 1) := fun N hj hN => by subst hA; exact add_one hi2 hj hN
    have hsi : A.lt s i = decide (s < (j : Int)) := by rw [hll, hi2]; rfl
    have hsub : A.sub .i64 i 1 = (j : Int) - 1 := by subst hA; show iSub .i64 i 1 = _; rw [hi2, iSub_id (by unfold iLen; omega) (by unfold iLen; omega)]; rfl
    have hpb := hps j
    have hsp := hstep j g
    have hsy := hstay j
    have hnx : ∀ g', (WY j).1 ≤ g' ∧ g' ≤ (WY j).2 → (gs ++ [g']).length = j + 1 ∧ ((WP (j + 1)).1 ≤ g' ∧ g' ≤ (WP (j + 1)).2) ∧ ∀ m, m < j + 1 → (WY m).1 ≤ (gs ++ [g']).getD m 0 ∧ (gs ++ [g']).getD m 0 ≤ (WY m).2 := fun g' hg' => by
      refine ⟨by simp [hP1], by rw [hWs]; exact hg', fun m hm => ?_⟩
      rcases Nat.lt_or_ge m j with h1 | h1
      · have := hP3 m h1
        rwa [List.getD_eq_getElem?_getD, List.getElem?_append_left (by omega), ← List.getD_eq_getElem?_getD]
      · rw [show m = j by omega, List.getD_eq_getElem?_getD, List.getElem?_append_right (by omega), hP1, Nat.sub_self]; exact hg'
    obtain ⟨cc, hcc⟩ : ∃ c, c = gs.map I := ⟨_, rfl⟩
    rw [← hcc]
    have hcl : cc.length = j * 1 := by rw [hcc, List.length_map, hP1]; omega
    refine SGo_run hA ⟨[3], [], (36, eNextN) :: [], ed2⟩ (.cons eNextN_ok .nil) ed2_ok 200 fun T TD hT hTD => ?_
    cbv
    split <;> cbv
    · rename_i hz
      have hk1 : j < n + 1 := by have hz := hlt.symm.trans hz; simpa using hz
      split <;> cbv
      · rename_i hz2
        have hz2 : s < (j : Int) := by simpa using hsi.symm.trans hz2
        refine Exists.intro () (And.intro (by omega) ?_)
        rintro w3 _ ⟨d, rfl, hg1, hg2⟩
        cbv
        split <;> cbv
        · clear hg2
          refine Exists.intro hf (And.intro ⟨hwk, ⟨⟨by omega, by omega⟩, hS, by omega⟩, ⟨by omega, by omega⟩, by omega, by omega⟩ ?_)
          intro q hq; cbv
          have hq : q = min (g + lo) (stopG L w0 g ((j : Int) - 1) hf) := by rw [hq]; show min _ (stopG L w0 g (A.sub .i64 i 1) hf) = _; rw [hsub]
          have hn3 := hnx q (by rw [hq]; exact hsp lo hz2 hP2 (by omega))
          obtain ⟨c1, hc1⟩ : ∃ c, c = (gs ++ [q]).map I := ⟨_, rfl⟩
          refine And.intro (hsg _) (Exists.intro c1 (Exists.intro (j + 1) (And.intro (by rw [hc1, List.map_append, ← hcc]; subst hA; exact app_one hcl rfl (by omega)) (And.intro rfl ?_)))); cbv
          refine hB (w3, q, gs ++ [q]) _ _ hk1 hn3 ⟨rfl, rfl, congrArg I (hadd _ hk1 (by omega)), trivial⟩ ⟨rfl, rfl, rfl, rfl, rfl, trivial⟩ (.inl (by rw [hc1]))
        split <;> cbv
        · clear hg2
          refine Exists.intro hf (And.intro ⟨hwk, ⟨⟨by omega, by omega⟩, hS, by omega⟩, ⟨by omega, by omega⟩, by omega, by omega⟩ ?_)
          intro q hq; cbv
          have hq : q = min (g + hi) (stopG L w0 g ((j : Int) - 1) hf) := by rw [hq]; show min _ (stopG L w0 g (A.sub .i64 i 1) hf) = _; rw [hsub]
          have hn3 := hnx q (by rw [hq]; exact hsp hi hz2 hP2 (by omega))
          obtain ⟨c1, hc1⟩ : ∃ c, c = (gs ++ [q]).map I := ⟨_, rfl⟩
          refine And.intro (hsg _) (Exists.intro c1 (Exists.intro (j + 1) (And.intro (by rw [hc1, List.map_append, ← hcc]; subst hA; exact app_one hcl rfl (by omega)) (And.intro rfl ?_)))); cbv
          refine hB (w3, q, gs ++ [q]) _ _ hk1 hn3 ⟨rfl, rfl, congrArg I (hadd _ hk1 (by omega)), trivial⟩ ⟨rfl, rfl, rfl, rfl, rfl, trivial⟩ (.inl (by rw [hc1]))
        · have hg3 : lo ≤ d ∧ d ≤ hi := by omega
          clear hg1 hg2
          refine Exists.intro hf (And.intro ⟨hwk, ⟨⟨by omega, by omega⟩, hS, by omega⟩, ⟨by omega, by omega⟩, by omega, by omega⟩ ?_)
          intro q hq; cbv
          have hq : q = min (g + d) (stopG L w0 g ((j : Int) - 1) hf) := by rw [hq]; show min _ (stopG L w0 g (A.sub .i64 i 1) hf) = _; rw [hsub]
          have hn3 := hnx q (by rw [hq]; exact hsp d hz2 hP2 (by omega))
          obtain ⟨c1, hc1⟩ : ∃ c, c = (gs ++ [q]).map I := ⟨_, rfl⟩
          refine And.intro (hsg _) (Exists.intro c1 (Exists.intro (j + 1) (And.intro (by rw [hc1, List.map_append, ← hcc]; subst hA; exact app_one hcl rfl (by omega)) (And.intro rfl ?_)))); cbv
          refine hB (w3, q, gs ++ [q]) _ _ hk1 hn3 ⟨rfl, rfl, congrArg I (hadd _ hk1 (by omega)), trivial⟩ ⟨rfl, rfl, rfl, rfl, rfl, trivial⟩ (.inl (by rw [hc1]))
      · rename_i hz2
        have hz2 : ¬ s < (j : Int) := by simpa using hsi.symm.trans hz2
        have hn3 := hnx g (by rw [hsy hz2]; exact hP2)
        obtain ⟨c1, hc1⟩ : ∃ c, c = (gs ++ [g]).map I := ⟨_, rfl⟩
        refine And.intro (hsg _) (Exists.intro c1 (Exists.intro (j + 1) (And.intro (by rw [hc1, List.map_append, ← hcc]; subst hA; exact app_one hcl rfl (by omega)) (And.intro rfl ?_)))); cbv
        refine hB (w2, g, gs ++ [g]) _ _ hk1 hn3 ⟨rfl, rfl, congrArg I (hadd _ hk1 (by omega)), trivial⟩ ⟨rfl, rfl, rfl, rfl, rfl, trivial⟩ (.inl (by rw [hc1]))
    · rename_i hz
      have hk1 : ¬ j < n + 1 := by have hz := hlt.symm.trans hz; simpa using hz
      have hjn : j = n + 1 := by omega
      rw [hF]
      refine Frees.frz 3 j 1 cc rfl (by rw [hcc]; exact Elems_one (F := I) (fun _ => rfl) (fun _ => rfl) _) ?_
      have e1 : AV.frz 3 j 1 cc (.ms 1 3 j 0 j) = .vs 1 cc := frz_self (by omega)
      show Frees 1 Kk (AV.frz 3 j 1 cc (.ms 1 3 j 0 j)) _
      rw [e1]
      exact Frees.drop1 rfl (hfin _ _ ⟨gs, cc, rfl, hcc, by omega, fun m hm => hP3 m (by omega)⟩)
theorem hdV_inj : ∀ {a b : List Hld}, a.map hdV = b.map hdV → a = b
  | [], [], _ => rfl
  | [], _ :: _, h => by simp at h
  | _ :: _, [], h => by simp at h
  | ⟨a1, a2⟩ :: a, ⟨b1, b2⟩ :: b, h => by
    simp only [List.map_cons, List.cons.injEq, AV.agg.injEq, AV.lit.injEq, Value.int.injEq, true_and, and_true] at h
    rw [hdV_inj h.2, h.1.1, h.1.2]
def sDrive : List AV → Option ((Unit → Prop) × (AV → Prop))
  | [.agg [.lit (.int .i64 L), .lit (.int .i64 gp), .lit (.int .i64 _), .vs 5 _], .agg [.lit (.int .i64 w), .lit (.int .i64 s), .lit (.int .i64 lo), .lit (.int .i64 hi), .vs 2 ys], .lit (.bool f), .lit (.int .i64 N)] =>
    some (fun _ => ∃ (hs : List Hld) (n : Nat), ys = hs.map hdV ∧ N = iLen n ∧ TckV L gp ⟨w, s, lo, hi, hs⟩ ∧ (1 ≤ L ∧ L ≤ 100000) ∧ n ≤ 100000, fun r => ∃ (hs : List Hld) (n : Nat), ys = hs.map hdV ∧ N = iLen n ∧ DrQ L (freeT f ⟨w, s, lo, hi, hs⟩) n r)
  | _ => none
theorem sDrive_ok : ∀ rest pre Q, sDrive rest = some (pre, Q) → pre () → Draws Tryz.prog 14 rest Q := by
  intro rest pre Q h hp
  unfold sDrive at h
  split at h
  · cases h
    obtain ⟨hs, n, rfl, rfl, h1, h2, h3⟩ := hp
    intro w id H hH Kk hk
    exact d14 _ _ _ _ ⟨_, _, _, _, hs⟩ _ n h1 h2 h3 w id H hH Kk (fun w' r hr => hk w' r ⟨hs, n, rfl, rfl, hr⟩)
  · cases h
end Go.Sas
namespace Go.Sas
open Go.Proofs
set_option maxRecDepth 100000
theorem RelH.wkO {st : St} {w : World} {H : AHeap} {q gg : Nat} {cs cs' : List AV} (hH : RelH st w H) (hX : H[q]? = some (.own gg cs)) (hw : WkL cs cs') (hln : cs'.length = cs.length) : RelH st w (H.set q (.own gg cs')) := by
  refine ⟨by rw [hH.len]; simp, hH.rd, fun id l X hl hXX => ?_, hH.inj⟩
  by_cases he : id = q
  · subst he
    rw [List.getElem?_set_self (List.getElem?_eq_some_iff.1 hX).1] at hXX
    cases hXX
    have h4 := hH.obj _ l _ hl hX
    simp only [ObjOk] at h4 ⊢
    refine ⟨h4.1, fun b o r hb => ?_⟩
    obtain ⟨arr, T, us, f1, f2, f3, f4, f5, f6⟩ := h4.2 b o r hb
    exact ⟨arr, T, us, f1, f2, by omega, hw.rel f4, f5, f6⟩
  · rw [List.getElem?_set_ne (Ne.symm he)] at hXX
    exact hH.obj id l X hl hXX
/-- a weaker word of what an object holds -/
theorem AGo_wkO {cx : Cx} {m : Nat} {k : List AItm} {R : Env → AHeap → Prop} {e : Env} {H : AHeap} (q : Nat) {gg : Nat} {cs : List AV} (cs' : List AV) (hX : H[q]? = some (.own gg cs)) (hw : WkL cs cs') (hln : cs'.length = cs.length) (h : AGo cx m k R e (H.set q (.own gg cs'))) : AGo cx m k R e H :=
  AGo_turn (fun st w hH => ⟨st, .refl _ _, hH.wkO hX hw hln, fun _ _ h => h, fun _ _ h => h, fun _ h => h, fun _ h => h⟩) h
def eMeetsR : List AV → Option ((AV → Prop) → Prop)
  | [.agg [.lit (.int .i64 L), .lit (.int .i64 gp), .lit (.int .i64 f), .vs 5 ys]] =>
    some fun K => ∃ (trs : List Tck), (ys = trs.map tkA ∧ ((-1000000000 ≤ L ∧ L ≤ 1000000000) ∧ -1000000000 ≤ gp ∧ gp ≤ 1000000000) ∧ TrsS trs ∧ trs.length ≤ 1000) ∧
      ∀ (a1 a2 a3 a6 a7 : Int) (a4 a5 : Bool) (e : Int), (e = 7 → AccQ ⟨L, gp, f, trs⟩) → K (.tup [.agg [I a1, I a2, I a3, B a4, B a5, I a6, I a7], I e])
  | _ => none
theorem eMeetsR_ok : ∀ args pt, eMeetsR args = some pt → ∀ (H : AHeap) (Kk : AV → AHeap → Prop), pt (fun r => Kk r H) → ACalls Tryz.prog 21 args H Kk := by
  intro args pt h H Kk hk
  unfold eMeetsR at h
  split at h
  · cases h
    obtain ⟨trs, ⟨rfl, h1, h2, h4⟩, h3⟩ := hk
    exact p21 ⟨_, _, _, trs⟩ h1 h2 h4 H h3
  · cases h
theorem acc_none {L f : Int} (hL : 60 ≤ L ∧ L ≤ 300) (hf : 0 ≤ f ∧ f ≤ 2) : AccQ ⟨L, 70, f, []⟩ :=
  ⟨⟨by dsimp only; omega, by dsimp only; omega, by dsimp only; omega, by simp, fun t ht => by simp at ht⟩, 0, by omega, fun t ht => by simp at ht, fun m hm i k t u hik ht => by simp at ht⟩
/-- a convoy made of numbers -/
def CvQ (most : Int) (r : AV) : Prop := ∃ (L f : Int) (trs : List Tck) (ys : List AV), r = cvyV L 70 f (.vs 5 ys) ∧ ys = trs.map tkA ∧ (60 ≤ L ∧ L ≤ 300) ∧ (0 ≤ f ∧ f ≤ 2) ∧ AccQ ⟨L, 70, f, trs⟩ ∧ iLen trs.length ≤ most
end Go.Sas
