/-
ProbeSpreads: the law's core.
Conditions: none.
-/
import Derived.Test.YtajegdbljldakaaQR59
import Derived.Test.YtajegdbljldakaaQR63
import Derived.Test.YtajegdbljldakaaPK
import Derived.Test.YtajegdbljldakaaQRL6
import Derived.Test.YtajegdbljldakaaP8
set_option linter.unusedVariables false
set_option linter.unusedSimpArgs false
namespace Go.Sas
open Go.Proofs
set_option maxRecDepth 100000
def mdB1 (h : Int) (x : Mrk) : Bool := decide (x.k = 4) && decide (x.h = h)
def afB (h : Int) (x : Mrk) : Bool := decide (x.k ≠ 4) && decide (x.h = h)
theorem any_take {α : Type} {P : α → Bool} {l : List α} {j : Nat} {x : α} (hx : l[j]? = some x) : (l.take (j + 1)).any P = ((l.take j).any P || P x) := by
  obtain ⟨h8, he⟩ := List.getElem?_eq_some_iff.1 hx
  rw [List.take_succ_eq_append_getElem h8, he, List.any_append]; simp
theorem any_mid {α : Type} {P : α → Bool} {l : List α} {j k : Nat} {x : α} (hx : l[k]? = some x) (hjk : j ≤ k) : ((l.take (k + 1)).drop j).any P = (((l.take k).drop j).any P || P x) := by
  obtain ⟨h8, he⟩ := List.getElem?_eq_some_iff.1 hx
  rw [List.take_succ_eq_append_getElem h8, he, List.drop_append_of_le_length (by rw [List.length_take]; omega), List.any_append]; simp
set_option maxHeartbeats 8000000 in
theorem core6 (nums : List Int) (hn1 : nums.length ≤ 9223372036854775807) : ACalls Try.prog 6 [.vs 1 (nums.map I)] [] fun r _ => r = .lit (.bool true) := by
  obtain ⟨Kk, hKk⟩ : ∃ K : AV → AHeap → Prop, K = fun r _ => r = .lit (.bool true) := ⟨_, rfl⟩
  rw [← hKk]
  have h : ∀ H, Kk (B true) H := fun H => by rw [hKk]
  clear hKk
  obtain ⟨xn, hxn⟩ : ∃ ys, ys = nums.map I := ⟨_, rfl⟩
  rw [← hxn]
  obtain ⟨A, hA⟩ : ∃ A, A = std := ⟨_, rfl⟩
  have hne : ∀ x y, A.ne x y = decide (x ≠ y) := by subst hA; intro x y; simp only [std, iNe]; rw [Bool.eq_iff_iff]; simp
  have hee : ∀ x y, A.eq x y = decide (x = y) := by subst hA; intro x y; exact iEq_dec _ _
  have hll : ∀ x y, A.lt x y = decide (x < y) := by subst hA; intro x y; rfl
  have hle : ∀ x y, A.le x y = decide (x ≤ y) := by subst hA; intro x y; rfl
  have hnb : ∀ b, A.bnot b = !b := by subst hA; intro b; rfl
  have hbd : ∀ x y, A.band x y = (x && y) := by subst hA; intro x y; rfl
  have hsg : ∀ g, A.sg g g := by subst hA; exact fun _ => rfl
  refine go6 rfl (SGo_run hA ⟨[], [0], (41, eCover CovM) :: (44, eParted) :: [], edM⟩ (.cons (eCover_ok CovM.ok) (.cons eParted_ok .nil)) edM_ok 200 fun T TD hT hTD => ?_)
  cbv
  refine Exists.intro nums (And.intro ⟨hxn, hn1⟩ ?_)
  intro w1
  cbv
  refine Exists.intro () (And.intro (by omega) ?_)
  rintro w2 _ ⟨rs, a, b, c, xs, rfl, hxs, hD⟩
  cbv
  have ho := hD.road (by omega)
  have hs := hD.sgt
  refine Exists.intro (rs, 5, 8) (And.intro ⟨hxs, rfl, rfl, ho, by omega, by omega⟩ ?_)
  rintro w3 _ ⟨m, ms, rfl, hms, hml, hmk⟩
  cbv
  have hml5 : m.length ≤ 5 := by
    have h9 : iLen m.length ≤ 5 := hml
    unfold iLen at h9; omega
  refine Exists.intro () (And.intro (by omega) ?_)
  rintro w4 _ ⟨q1, rfl, hq1, hq1'⟩
  cbv
  have hqb : 0 ≤ q1 ∧ q1 ≤ 11 := by omega
  have hmo : ∀ x ∈ m, MkOk (sumLg rs) x := fun x hx => (hmk x hx).1
  have hsumb := sumLg_bnd' ho
  have hRl := ho.ilen
  have hpn := ho.le'
  obtain ⟨N, hN⟩ : ∃ N, N = (plc rs).length := ⟨_, rfl⟩
  rw [← hN] at hRl hpn
  obtain ⟨th, hthe⟩ : ∃ x, x = q1 + 1 := ⟨_, rfl⟩
  have hth : A.add .i64 q1 1 = th := by rw [hthe]; subst hA; exact iAdd_id (by omega) (by omega)
  have hcv1 : CovM m q1 (sumLg rs) := ⟨by omega, hmo, by omega, by omega, by omega⟩
  have hcv2 : CovM m th (sumLg rs) := ⟨by omega, hmo, by omega, by omega, by omega⟩
  have hmS := marksS_ok.2 ⟨⟨ho, hs⟩, (show m.length ≤ 100 by omega), hmo⟩
  have hcE1 : coverE rs a b c m q1 = 0 := by
    unfold coverE orElse; rw [if_pos hmS, if_neg (by omega)]
  have hcE2 : coverE rs a b c m th = 0 := by
    unfold coverE orElse; rw [if_pos hmS, if_neg (by omega)]
  obtain ⟨VA, hVA⟩ : ∃ V, V = verdS m q1 (sumLg rs) := ⟨_, rfl⟩
  obtain ⟨VB, hVB⟩ : ∃ V, V = verdS m th (sumLg rs) := ⟨_, rfl⟩
  have hpart : ∀ V : Nat → Int, (∀ p, V p = 1 ∨ V p = 2 ∨ V p = 3) → ChainR (runsN V N) ∧ iLen (nxtR (runsN V N)) = sumLg rs ∧ (∀ x ∈ runsN V N, x.2.2 = 1 ∨ x.2.2 = 2 ∨ x.2.2 = 3) ∧ (runsN V N).length ≤ 1000000 ∧ ∀ x ∈ runsN V N, x.2.1 ≤ 1000000 := fun V hV => by
    obtain ⟨k1, k2⟩ := runs_chain (V := V) N
    refine ⟨k1, by rw [k2]; exact hRl, fun x hx => ?_, Nat.le_trans runsN_len (by omega), fun x hx => ?_⟩
    · obtain ⟨e1, e2, e3⟩ := runsN_mem hx
      rw [← e3 x.1 (Nat.le_refl _) e1]; exact hV _
    · have := (runsN_mem hx).2.1; omega
  have hpA := hpart VA (fun p => by rw [hVA]; exact verd_rng)
  have hpB := hpart VB (fun p => by rw [hVB]; exact verd_rng)
  refine Exists.intro rs (Exists.intro m (And.intro ⟨hxs, hms, by have := ho.n2; omega, by omega⟩ (And.intro (fun _ => hcv1) ?_)))
  intro e1 y1 he1 hy1; cbv
  have he1 : e1 = 0 := he1.trans hcE1
  obtain ⟨PA, hPA⟩ : ∃ x, x = runsN VA N := ⟨_, rfl⟩
  have hY1 : y1 = PA.map cloV := by
    rw [hy1, hPA, hVA]; unfold coverL; rw [if_pos hcE1, hN]
  subst he1
  refine Exists.intro rs (Exists.intro m (And.intro ⟨hxs, hms, by have := ho.n2; omega, by omega⟩ (And.intro (fun _ => by show CovM m (A.add .i64 q1 1) (sumLg rs); rw [hth]; exact hcv2) ?_)))
  intro e2 y2 he2 hy2; cbv
  have he2 : e2 = 0 := by
    have : e2 = coverE rs a b c m th := by rw [← hth]; exact he2
    rw [this, hcE2]
  obtain ⟨PB, hPB⟩ : ∃ x, x = runsN VB N := ⟨_, rfl⟩
  have hY2 : y2 = PB.map cloV := by
    have : y2 = (coverL rs a b c m th).map cloV := by rw [← hth]; exact hy2
    rw [this, hPB, hVB]; unfold coverL; rw [if_pos hcE2, hN]
  subst he2
  rw [← hPA] at hpA
  rw [← hPB] at hpB
  have hn0 : A.ne 0 0 = false := by subst hA; rfl
  have hbt : A.bnot true = false := by rw [hnb]; rfl
  split <;> first | (rename_i hz; exact Bool.noConfusion (hz.symm.trans hn0)) | cbv
  split <;> first | (rename_i hz; exact Bool.noConfusion (hz.symm.trans hn0)) | cbv
  refine Exists.intro rs (Exists.intro PA (And.intro ⟨hxs, hY1, ho, hpA.1, hpA.2.1, hpA.2.2.1, hpA.2.2.2.1, hpA.2.2.2.2⟩ ?_)); cbv
  split <;> first | (rename_i hz; exact Bool.noConfusion (hz.symm.trans hbt)) | cbv
  refine Exists.intro rs (Exists.intro PB (And.intro ⟨hxs, hY2, ho, hpB.1, hpB.2.1, hpB.2.2.1, hpB.2.2.2.1, hpB.2.2.2.2⟩ ?_)); cbv
  split <;> first | (rename_i hz; exact Bool.noConfusion (hz.symm.trans hbt)) | cbv
  have hmv : A.vlen ms = iLen m.length := by subst hA; rw [hms]; simp [std]
  have hxl : ∀ n, AV.ltL n xs := fun n => AV.ltL_nid (by rw [hxs]; exact nidL_rc rs)
  rw [hT]
  refine AGo_upE [4, 5, 6, 7, 9] m.length (fun j (md : Bool) => md = (m.take j).any (mdB1 th)) (fun j md i => [(11, B md), (12, I i)]) (fun _ _ => [.own 0 [U w4], .own 0 [.vs 5 xs, I a, I b, I c]]) false rfl ⟨rfl, rfl, trivial⟩ (.inl rfl) fun j md i hi hj hP Bk hB => ?_
  have hlt : A.lt i (A.vlen ms) = decide (j < m.length) := by rw [hmv, hll, hi, decide_eq_decide]; unfold iLen; omega
  have hadd : ∀ N, j < N → N ≤ 9223372036854775807 → A.add .i64 i 1 = iLen (j + 1) := fun N hj hN => by subst hA; exact add_one hi hj hN
  refine SGo_run hA ⟨[], [1000075], [], []⟩ .nil .nil 200 fun T TD hT hTD => ?_
  cbv
  split <;> cbv
  · rename_i hk0
    have hk1 : j < m.length := by have hz := hlt.symm.trans hk0; simpa using hz
    clear hk0
    obtain ⟨⟨yk, yf, yt, yh, ysp⟩, hy⟩ : ∃ y, m[j]? = some y := ⟨_, List.getElem?_eq_getElem hk1⟩
    have hyo := hmo _ (List.mem_of_getElem? hy)
    obtain ⟨o1, o2, o3, o4, o5, o6, o7⟩ := hyo
    dsimp only at o1 o2 o3 o4 o5 o6 o7
    have hst : (m.take (j + 1)).any (mdB1 th) = (md || (decide (yk = 4) && decide (yh = th))) := by rw [any_take hy, ← hP]; rfl
    have hix : A.ix 5 5 ms i [I yk, I yf, I yt, I yh, I ysp] := by subst hA; exact ix_map hms hi hy rfl
    have hadj := hadd _ hk1 (by omega)
    have hq4 : A.ne yk 4 = decide (yk ≠ 4) := hne _ _
    refine Exists.intro _ (And.intro hix ?_); cbv
    split <;> cbv
    · rename_i hz
      have hz : yk ≠ 4 := of_decide_eq_true (hq4.symm.trans hz)
      exact hB md _ _ hk1 (by rw [hst, decide_eq_false hz]; simp) ⟨rfl, congrArg I hadj, trivial⟩ ⟨rfl, rfl, rfl, rfl, rfl, trivial⟩ (.inr ⟨⟨[.own 0 [I yk, I yf, I yt, I yh, I ysp]], rfl⟩, by simp, by simp [ltG, AV.lt, AV.ltL, keepS, look, gset], by simp [ltH, AObj.lt, AV.lt, AV.ltL, hxl]⟩)
    rename_i hz
    have hy4 : yk = 4 := by have := of_decide_eq_false (hq4.symm.trans hz); simpa using this
    obtain ⟨md2, hmd2⟩ : ∃ x, x = (md || decide (yh = th)) := ⟨_, rfl⟩
    have hst2 : md2 = (m.take (j + 1)).any (mdB1 th) := by rw [hst, hmd2, decide_eq_true hy4, Bool.true_and]
    rw [hT]
    refine AGo_cut (k1 := [_]) (fun e H => Fits e [(4, .mp 1 0 0), (5, .vs 5 ms), (6, I q1), (7, .vs 3 y1), (9, .vs 3 y2), (11, B md2), (12, I i), (13, .mp 2 0 0)] ∧ H = [.own 0 [U w4], .own 0 [.vs 5 xs, I a, I b, I c], .own 0 [I yk, I yf, I yt, I yh, I ysp]]) ?_ (fun e1 H1 hP1 => ?_)
    · cases md with
      | true =>
        refine SGo_run hA ⟨[], [], [], []⟩ .nil .nil 200 fun T TD hT hTD => ?_
        cbv
        exact ⟨⟨by rw [hmd2]; rfl, trivial⟩, trivial⟩
      | false =>
        refine SGo_run hA ⟨[], [], [], []⟩ .nil .nil 200 fun T TD hT hTD => ?_
        cbv
        exact ⟨⟨congrArg B (by show A.eq yh (A.add .i64 q1 1) = md2; rw [hth, hee, hmd2]; rfl), trivial⟩, trivial⟩
    obtain ⟨hf1, rfl⟩ := hP1
    refine AGo_forget [(4, .mp 1 0 0), (5, .vs 5 ms), (6, I q1), (7, .vs 3 y1), (9, .vs 3 y2), (11, B md2), (12, I i), (13, .mp 2 0 0)] _ hf1 (.inl rfl) ?_ (by simp)
    clear hf1
    refine SGo_run hA ⟨[], [], [], []⟩ .nil .nil 200 fun T TD hT hTD => ?_
    cbv
    rw [hT]
    have hexit : ∀ e', Fits e' [(11, B md2), (12, I (A.add .i64 i 1))] → Fits e' (keepS [4, 5, 6, 7, 9] [(11, B md), (12, I i), (4, .mp 1 0 0), (5, .vs 5 ms), (6, I q1), (7, .vs 3 y1), (9, .vs 3 y2)]) → Bk e' [.own 0 [U w4], .own 0 [.vs 5 xs, I a, I b, I c], .own 0 [I yk, I yf, I yt, I yh, I ysp]] := fun e' hf hk => by
      rw [hadj] at hf
      exact hB md2 _ _ hk1 hst2 hf hk (.inr ⟨⟨[.own 0 [I yk, I yf, I yt, I yh, I ysp]], rfl⟩, by simp, by simp [ltG, AV.lt, AV.ltL, keepS, look, gset], by simp [ltH, AObj.lt, AV.lt, AV.ltL, hxl]⟩)
    have hbf : A.bnot false = true := by rw [hnb]; rfl
    refine AGo_whileE (σ := Nat × Bool) [4, 5, 6, 7, 9, 11, 12, 13] (fun s => m.length - s.1) (fun s => (j + 1 ≤ s.1 ∧ s.1 ≤ m.length) ∧ s.2 = ((m.take s.1).drop (j + 1)).any (afB q1)) (fun s => [(14, B s.2), (15, I (iLen s.1))])
      (fun _ => [.own 0 [U w4], .own 0 [.vs 5 xs, I a, I b, I c], .own 0 [I yk, I yf, I yt, I yh, I ysp]]) (j + 1, false) ⟨⟨Nat.le_refl _, hk1⟩, by dsimp only; rw [List.drop_eq_nil_of_le (by rw [List.length_take]; omega)]; rfl⟩ ⟨rfl, congrArg I hadj, trivial⟩ (.inl rfl) fun s hP2 Bk2 hB2 => ?_
    obtain ⟨k, af⟩ := s
    obtain ⟨⟨k1, k2⟩, hk3⟩ := hP2
    dsimp only at k1 k2 hk3 ⊢
    obtain ⟨ik, hik⟩ : ∃ q, q = iLen k := ⟨_, rfl⟩
    rw [← hik]
    have hltk : A.lt ik (A.vlen ms) = decide (k < m.length) := by rw [hmv, hll, hik, decide_eq_decide]; unfold iLen; omega
    refine SGo_run hA ⟨[], [], [], []⟩ .nil .nil 200 fun T TD hT hTD => ?_
    cbv
    split <;> cbv
    · rename_i hzk
      have hkm : k < m.length := of_decide_eq_true (hltk.symm.trans hzk)
      have haddk : A.add .i64 ik 1 = iLen (k + 1) := by subst hA; exact add_one (N := m.length) hik hkm (by omega)
      obtain ⟨⟨xk, xf, xt, xh, xsp⟩, hx⟩ : ∃ x, m[k]? = some x := ⟨_, List.getElem?_eq_getElem hkm⟩
      have hmid := any_mid (P := afB q1) hx k1
      rw [← hk3] at hmid
      have hixk : A.ix 5 5 ms ik [I xk, I xf, I xt, I xh, I xsp] := by subst hA; exact ix_map hms hik hx rfl
      have hne4 : A.ne xk 4 = decide (xk ≠ 4) := hne _ _
      cases af with
      | true =>
        cbv
        exact hB2 (k + 1, true) _ _ (by dsimp only; omega) ⟨⟨by dsimp only; omega, by dsimp only; omega⟩, by dsimp only; rw [hmid]; rfl⟩ ⟨rfl, congrArg I haddk, trivial⟩ ⟨rfl, rfl, rfl, rfl, rfl, rfl, rfl, rfl, trivial⟩ (.inl rfl)
      | false =>
        cbv
        refine Exists.intro _ (And.intro hixk ?_); cbv
        split <;> cbv
        · rename_i hz4
          have hz4 := hne4.symm.trans hz4
          refine Exists.intro _ (And.intro hixk ?_); cbv
          exact hB2 (k + 1, A.eq xh q1) _ _ (by dsimp only; omega) ⟨⟨by dsimp only; omega, by dsimp only; omega⟩, by dsimp only; rw [hmid]; unfold afB; dsimp only; rw [hz4, hee]; rfl⟩ ⟨rfl, congrArg I haddk, trivial⟩ ⟨rfl, rfl, rfl, rfl, rfl, rfl, rfl, rfl, trivial⟩ (.inl rfl)
        · rename_i hz4
          have hz4 := hne4.symm.trans hz4
          exact hB2 (k + 1, false) _ _ (by dsimp only; omega) ⟨⟨by dsimp only; omega, by dsimp only; omega⟩, by dsimp only; rw [hmid]; unfold afB; dsimp only; rw [hz4]; rfl⟩ ⟨rfl, congrArg I haddk, trivial⟩ ⟨rfl, rfl, rfl, rfl, rfl, rfl, rfl, rfl, trivial⟩ (.inl rfl)
    · rename_i hzk
      have hkm : ¬ k < m.length := of_decide_eq_false (hltk.symm.trans hzk)
      rw [List.take_of_length_le (by omega)] at hk3
      obtain ⟨f0, hf0⟩ : ∃ f0 : Nat, yf = iLen f0 := ⟨yf.toNat, by unfold iLen; omega⟩
      rw [hT]
      refine AGo_whileE (σ := Nat) [4, 5, 6, 7, 9, 11, 12, 13, 14] (fun p => N + 1 - p) (fun p => f0 ≤ p) (fun p => [(16, I (iLen p))]) (fun _ => [.own 0 [U w4], .own 0 [.vs 5 xs, I a, I b, I c], .own 0 [I yk, I yf, I yt, I yh, I ysp]]) f0 (Nat.le_refl _) ⟨congrArg I hf0, trivial⟩ (.inl rfl) fun p hp Bk3 hB3 => ?_
      obtain ⟨ip, hip⟩ : ∃ q, q = iLen p := ⟨_, rfl⟩
      rw [← hip]
      have hlep : A.le ip yt = decide (ip ≤ yt) := hle _ _
      have hqe : A.eq yh q1 = decide (yh = q1) := hee _ _
      refine SGo_run hA ⟨[], [], (45, eAt) :: [], []⟩ (.cons (eAt_ok p45) .nil) .nil 200 fun T TD hT hTD => ?_
      cbv
      split <;> cbv
      · rename_i hze
        have hze := of_decide_eq_true (hqe.symm.trans hze)
        cases af with
        | true =>
          cbv
          split <;> first | (rename_i hz; exact Bool.noConfusion (hz.symm.trans hbt)) | cbv
          exact hexit _ ⟨rfl, rfl, trivial⟩ ⟨rfl, rfl, rfl, rfl, rfl, trivial⟩
        | false =>
          cbv
          split
          rotate_left
          · rename_i hzz; exact Bool.noConfusion (hzz.symm.trans hbf)
          cbv
          split <;> cbv
          · rename_i hzp
            have hzp := of_decide_eq_true (hlep.symm.trans hzp)
            have hpN : p < N := by rw [hip] at hzp; unfold iLen at hzp hRl; omega
            have hadp : A.add .i64 ip 1 = iLen (p + 1) := by subst hA; exact add_one (N := 1000) hip (by omega) (by omega)
            refine Exists.intro PA (Exists.intro p (And.intro ⟨hY1, hip, hpA.2.2.2.1⟩ ?_))
            intro v hv; cbv
            have hv2 : v = 2 := by
              rw [hv, hPA, at_runs hpN, hVA]
              refine verd_mended (i := j) (y := ⟨yk, yf, yt, yh, ysp⟩) (by rw [← hRl]; unfold iLen; omega) hy hy4 hze ⟨by dsimp only; rw [hf0]; unfold iLen; omega, by dsimp only; rw [hip] at hzp; exact hzp⟩ fun k' x' hjk hx' hx4 hxh => ?_
              have hxm : x' ∈ m.drop (j + 1) := List.mem_of_getElem? (i := k' - (j + 1)) (by rw [List.getElem?_drop, show j + 1 + (k' - (j + 1)) = k' by omega]; exact hx')
              have := List.any_eq_false.1 hk3.symm x' hxm
              unfold afB at this
              rw [decide_eq_true hx4, decide_eq_true hxh] at this
              exact this rfl
            have hz2 : A.ne v 2 = false := by rw [hne, hv2]; rfl
            split <;> first | (rename_i hz; exact Bool.noConfusion (hz.symm.trans hz2)) | cbv
            exact hB3 (p + 1) _ _ (by omega) (by omega) ⟨congrArg I hadp, trivial⟩ ⟨rfl, rfl, rfl, rfl, rfl, rfl, rfl, rfl, rfl, trivial⟩ (.inl rfl)
          · exact hexit _ ⟨rfl, rfl, trivial⟩ ⟨rfl, rfl, rfl, rfl, rfl, trivial⟩
      · exact hexit _ ⟨rfl, rfl, trivial⟩ ⟨rfl, rfl, rfl, rfl, rfl, trivial⟩
  · rename_i hk0
    have hk1 : ¬ j < m.length := by have hz := hlt.symm.trans hk0; simpa using hz
    clear hk0
    rw [List.take_of_length_le (by omega)] at hP
    have hbf : A.bnot false = true := by rw [hnb]; rfl
    rw [hT]
    refine AGo_whileE (σ := Nat) [4, 7, 9, 11] (fun p => N - p) (fun p => p ≤ N) (fun p => [(17, I (iLen p))]) (fun _ => [.own 0 [U w4], .own 0 [.vs 5 xs, I a, I b, I c]]) 0 (Nat.zero_le _) ⟨rfl, trivial⟩ (.inl rfl) fun p hp Bk2 hB2 => ?_
    obtain ⟨ip, hip⟩ : ∃ q, q = iLen p := ⟨_, rfl⟩
    rw [← hip]
    refine SGo_run hA ⟨[], [], (46, ePlaces) :: (45, eAt) :: (28, eAwake) :: [], []⟩ (.cons (ePlaces_ok p46) (.cons (eAt_ok p45) (.cons eAwake_ok .nil))) .nil 200 fun T TD hT hTD => ?_
    cbv
    refine Exists.intro rs (And.intro hxs (And.intro (by have := ho.n2; omega) (And.intro ho.all ?_)))
    intro nn hnn; cbv
    have hlt2 : A.lt ip nn = decide (p < N) := by rw [hll, hip, hnn, ← hRl, decide_eq_decide]; unfold iLen; omega
    split <;> cbv
    · rename_i hzp
      have hpN : p < N := of_decide_eq_true (hlt2.symm.trans hzp)
      have hadp : A.add .i64 ip 1 = iLen (p + 1) := by subst hA; exact add_one (N := 1000) hip (by omega) (by omega)
      cases md with
      | true =>
        cbv
        split <;> first | (rename_i hz; exact Bool.noConfusion (hz.symm.trans hbt)) | cbv
        exact h _
      | false =>
        cbv
        split
        rotate_left
        · rename_i hzz; exact Bool.noConfusion (hzz.symm.trans hbf)
        cbv
        refine Exists.intro PA (Exists.intro p (And.intro ⟨hY1, hip, hpA.2.2.2.1⟩ ?_))
        intro v1 hv1; cbv
        refine Exists.intro PB (Exists.intro p (And.intro ⟨hY2, hip, hpB.2.2.2.1⟩ ?_))
        intro v2 hv2; cbv
        have hv1 : v1 = verdS m q1 (sumLg rs) p := by rw [hv1, hPA, at_runs hpN, hVA]
        have hv2 : v2 = verdS m (q1 + 1) (sumLg rs) p := by rw [hv2, hPB, at_runs hpN, hVB, hthe]
        have hvn := verd_next (m := m) (h := q1) (N := sumLg rs) (p := p) (by rw [← hRl]; unfold iLen; omega) (fun x hx => (hmo x hx).2.2.2.2.2.1) (fun x hx h4 hh => by
          have := List.any_eq_false.1 hP.symm x hx
          unfold mdB1 at this
          rw [decide_eq_true h4, decide_eq_true (hh.trans hthe.symm)] at this
          exact this rfl)
        rw [← hv1, ← hv2] at hvn
        have g1 : A.eq v1 1 = decide (v1 = 1) := hee _ _
        have g3 : A.eq v1 3 = decide (v1 = 3) := hee _ _
        split <;> cbv
        · rename_i hz1
          have hz1 := of_decide_eq_true (g1.symm.trans hz1)
          have z1 : A.ne v2 1 = false := by rw [hne, hvn.1 hz1]; rfl
          split <;> first | (rename_i hz; exact Bool.noConfusion (hz.symm.trans z1)) | cbv
          have z3 : A.eq v1 3 = false := by rw [hee, hz1]; rfl
          split <;> first | (rename_i hz; exact Bool.noConfusion (hz.symm.trans z3)) | cbv
          exact hB2 (p + 1) _ _ (by omega) (by omega) ⟨congrArg I hadp, trivial⟩ ⟨rfl, rfl, rfl, rfl, trivial⟩ (.inl rfl)
        · split <;> cbv
          · rename_i hz3
            have hz3 := of_decide_eq_true (g3.symm.trans hz3)
            have z2 : A.eq v2 2 = false := by rw [hee]; simpa using hvn.2 hz3
            split <;> first | (rename_i hz; exact Bool.noConfusion (hz.symm.trans z2)) | cbv
            exact hB2 (p + 1) _ _ (by omega) (by omega) ⟨congrArg I hadp, trivial⟩ ⟨rfl, rfl, rfl, rfl, trivial⟩ (.inl rfl)
          · exact hB2 (p + 1) _ _ (by omega) (by omega) ⟨congrArg I hadp, trivial⟩ ⟨rfl, rfl, rfl, rfl, trivial⟩ (.inl rfl)
    · exact h _
end Go.Sas
