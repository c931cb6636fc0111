/-
ProbeCovers: the law's core.
Conditions: none.
-/
import Derived.Test.YtajegdbljldakaaPX
import Derived.Test.YtajegdbljldakaaQR59
import Derived.Test.YtajegdbljldakaaPU
import Derived.Test.YtajegdbljldakaaQR36
import Derived.Test.YtajegdbljldakaaPK
import Derived.Test.YtajegdbljldakaaQRL5
import Derived.Test.YtajegdbljldakaaP8
set_option linter.unusedVariables false
set_option linter.unusedSimpArgs false
namespace Go.Sas
open Go.Proofs
set_option maxRecDepth 100000
theorem p43 (l l' : List (Int × Int × Int)) (hl : l.length ≤ 9223372036854775807) (hl' : l'.length ≤ 9223372036854775807) (H : AHeap) {Kk : AV → AHeap → Prop} (h : Kk (B (decide (l = l'))) H) : ACalls Try.prog 43 [.vs 3 (l.map t3V), .vs 3 (l'.map t3V)] H Kk := by
  refine (fun q => pureC (by rfl) (by rfl) q H h) ?_
  clear h
  intro Kk h
  obtain ⟨A, hA⟩ : ∃ A, A = std := ⟨_, rfl⟩
  obtain ⟨xs, hxs⟩ : ∃ xs, xs = l.map t3V := ⟨_, rfl⟩
  obtain ⟨ys, hys⟩ : ∃ xs, xs = l'.map t3V := ⟨_, rfl⟩
  rw [← hxs, ← hys]
  obtain ⟨W, hW⟩ : ∃ W, W = decide (l = l') := ⟨_, rfl⟩
  rw [← hW] at h
  have hn : A.ne (A.vlen xs) (A.vlen ys) = decide (l.length ≠ l'.length) := by
    subst hA hxs hys
    show (((l.map t3V).length : Int) != ((l'.map t3V).length : Int)) = _
    rw [Bool.eq_iff_iff]; simp only [List.length_map, bne_iff_ne, ne_eq, decide_eq_true_eq]; omega
  refine go43 rfl (SGo_run hA ⟨[], [], [], []⟩ .nil .nil 200 fun T TD hT hTD => ?_)
  cbv
  split <;> cbv
  · rename_i hq
    have hq := hn.symm.trans hq
    simp only [ne_eq, decide_eq_true_eq] at hq
    refine leaf h (congrArg B ?_) rfl
    rw [hW, decide_eq_false_iff_not]
    rintro rfl; exact hq rfl
  rename_i hq
  have hq := hn.symm.trans hq
  simp only [ne_eq, decide_eq_false_iff_not, Decidable.not_not] at hq
  rw [hT]
  refine AGo_up l.length (fun j => W = decide (l.drop j = l'.drop j)) (fun _ i => [(0, .vs 3 xs), (1, .vs 3 ys), (4, B false), (5, I i)]) (fun _ => []) hW ⟨rfl, rfl, rfl, rfl, trivial⟩ (.inl rfl) fun j i hi hj hP Bk hB => ?_
  have hlt : A.lt i (A.vlen xs) = decide (j < l.length) := by subst hA; exact lt_len (by simp [hxs]) hi
  have hadd : ∀ N, j < N → N ≤ 9223372036854775807 → A.add .i64 i 1 = iLen (j + 1) := fun N hj hN => by subst hA; exact add_one hi hj hN
  refine SGo_run hA ⟨[], [], [], []⟩ .nil .nil 200 fun T TD hT hTD => ?_
  cbv
  split <;> cbv
  · rename_i hk1
    have hk1 : j < l.length := by have := hlt.symm.trans hk1; simpa using this
    obtain ⟨⟨x, x', x''⟩, hx⟩ : ∃ x, l[j]? = some x := ⟨_, List.getElem?_eq_getElem hk1⟩
    obtain ⟨⟨y, y', y''⟩, hy⟩ : ∃ y, l'[j]? = some y := ⟨_, List.getElem?_eq_getElem (by omega)⟩
    have hix : A.ix 3 3 xs i [I x, I x', I x''] := by subst hA; exact ix_map hxs hi hx rfl
    have hiy : A.ix 3 3 ys i [I y, I y', I y''] := by subst hA; exact ix_map hys hi hy rfl
    rw [drop_cons hx, drop_cons hy] at hP
    refine Exists.intro _ (And.intro hix ?_)
    cbv
    refine Exists.intro _ (And.intro hiy ?_)
    cbv
    split <;> cbv
    · rename_i hz
      refine leaf h (congrArg B ?_) rfl
      rw [hP, decide_eq_false_iff_not]
      intro he
      injection he with he _
      clear hP hadd hlt hix hiy hB
      subst hA
      simp [std, iNe, iEq] at hz
      try simp at he
      first | exact hz he | exact hz.elim (fun h => h he.1) (fun h => h he.2) | omega
    · rename_i hz
      refine hB _ _ hk1 ?_ ⟨rfl, rfl, rfl, congrArg I (hadd _ hk1 (by omega)), trivial⟩ (.inl rfl)
      clear hadd hlt hix hiy hB
      subst hA
      simp [std, iNe, iEq] at hz
      rw [hP]
      simp [hz]
  · rename_i hk1
    have hk1 : ¬ j < l.length := by have := hlt.symm.trans hk1; simpa using this
    refine leaf h (congrArg B ?_) rfl
    rw [hP, List.drop_eq_nil_of_le (by omega), List.drop_eq_nil_of_le (by omega)]; rfl
def eCov42 : List AV → Option ((AV → Prop) → Prop)
  | [.agg [.vs 5 xs, .lit (.int .i64 a), .lit (.int .i64 b), .lit (.int .i64 c)], .vs 5 ms, .lit (.int .i64 h)] =>
    some fun K => ∃ (rs : List Rch) (m : List Mrk), (xs = rs.map rcV ∧ ms = m.map mkV ∧ rs.length ≤ 9223372036854775807 ∧ m.length ≤ 9223372036854775807) ∧ ∀ e ys, e = coverE rs a b c m h → ys = (coverL rs a b c m h).map cloV → K (.tup [.vs 3 ys, I e])
  | _ => none
theorem eCov42_ok : ∀ args pt, eCov42 args = some pt → ∀ (H : AHeap) (Kk : AV → AHeap → Prop), pt (fun r => Kk r H) → ACalls Try.prog 42 args H Kk := by
  intro args pt h H Kk hk
  unfold eCov42 at h
  split at h
  · cases h
    obtain ⟨rs, m, ⟨rfl, rfl, h1, h2⟩, h3⟩ := hk
    exact p42 rs _ _ _ m _ h1 h2 H (h3 _ _ rfl rfl)
  · cases h
theorem coverL_len {rs : List Rch} {a b c : Int} {m : List Mrk} {h : Int} : (coverL rs a b c m h).length ≤ 9223372036854775807 := by
  unfold coverL
  split
  · rename_i h0
    have hm : marksS rs a b c m = 0 := by
      unfold coverE orElse at h0
      split at h0
      · assumption
      · contradiction
    have := (marksS_ok.1 hm).1.1.le'
    exact Nat.le_trans runsN_len (by omega)
  · simp
theorem coverE_ok {rs : List Rch} {a b c : Int} {m : List Mrk} {h : Int} (h0 : coverE rs a b c m h = 0) (hb : m.length ≤ 19 ∨ 100 < m.length) : CovM m h (sumLg rs) := by
  unfold coverE orElse at h0
  split at h0
  · rename_i hm
    obtain ⟨⟨ho, _⟩, h1, h2⟩ := marksS_ok.1 hm
    have := sumLg_bnd' ho
    by_cases hh : 0 ≤ h ∧ h ≤ 10000
    · exact ⟨by omega, h2, hh, by omega, by omega⟩
    · rw [if_pos hh] at h0; exact absurd h0 (by decide)
  · contradiction
set_option maxHeartbeats 4000000 in
theorem core5 (rs0 : List Rch) (a0 b0 c0 : Int) (m0 : List Mrk) (tt : Int) (nums : List Int) (hr0 : rs0.length ≤ 9223372036854775807) (hm0 : m0.length ≤ 9223372036854775807) (htb : -9223372036854775808 ≤ tt ∧ tt ≤ 9223372036854775807) (hn1 : nums.length ≤ 9223372036854775807) :
    ACalls Try.prog 5 [svV (.vs 5 (rs0.map rcV)) a0 b0 c0, .vs 5 (m0.map mkV), I tt, .vs 1 (nums.map I)] [] fun r _ => r = .lit (.bool true) := by
  obtain ⟨Kk, hKk⟩ : ∃ K : AV → AHeap → Prop, K = fun r _ => r = .lit (.bool true) := ⟨_, rfl⟩
  rw [← hKk]
  have h : ∀ H, Kk (B true) H := fun H => by rw [hKk]
  clear hKk
  obtain ⟨xn, hxn⟩ : ∃ ys, ys = nums.map I := ⟨_, rfl⟩
  obtain ⟨xs0, hxs0⟩ : ∃ ys, ys = rs0.map rcV := ⟨_, rfl⟩
  obtain ⟨ms0, hms0⟩ : ∃ ys, ys = m0.map mkV := ⟨_, rfl⟩
  rw [← hxn, ← hxs0, ← hms0]
  obtain ⟨A, hA⟩ : ∃ A, A = std := ⟨_, rfl⟩
  have hne : ∀ x y, A.ne x y = decide (x ≠ y) := by subst hA; intro x y; simp only [std, iNe]; rw [Bool.eq_iff_iff]; simp
  have hee : ∀ x y, A.eq x y = decide (x = y) := by subst hA; intro x y; exact iEq_dec _ _
  have hll : ∀ x y, A.lt x y = decide (x < y) := by subst hA; intro x y; rfl
  have hle : ∀ x y, A.le x y = decide (x ≤ y) := by subst hA; intro x y; rfl
  have hnb : ∀ b, A.bnot b = !b := by subst hA; intro b; rfl
  have hbd : ∀ x y, A.band x y = (x && y) := by subst hA; intro x y; rfl
  have hsg : ∀ g, A.sg g g := by subst hA; exact fun _ => rfl
  have hm0l : ms0.length = m0.length := by rw [hms0, List.length_map]
  refine go5 rfl (SGo_run hA ⟨[], [1, 1000023], (29, eNil [0, 5, 0] eBig) :: (28, eAwake) :: [], edM⟩ (.cons (eNil_ok eBig_ok) (.cons eAwake_ok .nil)) edM_ok 200 fun T TD hT hTD => ?_)
  cbv
  refine Exists.intro rs0 (And.intro hxs0 (And.intro hr0 (And.intro rfl (And.intro (by rw [hms0]; exact nidL_map (g := mkV) (fun _ => rfl) _) ?_))))
  intro bg hbg; cbv
  have hbm : bg = false → m0.length ≤ 19 ∨ 100 < m0.length := fun hb => by
    rw [hb] at hbg
    have hbg : false = bigS rs0 a0 b0 c0 (iLen 0) (iLen ms0.length) := hbg
    rw [hm0l] at hbg
    unfold bigS bigN at hbg
    have h1 := (Bool.or_eq_false_iff.1 hbg.symm).1
    have h2 := (Bool.or_eq_false_iff.1 (Bool.or_eq_false_iff.1 h1).1).2
    rw [Bool.and_eq_false_iff, decide_eq_false_iff_not, decide_eq_false_iff_not] at h2
    unfold iLen at h2; omega
  clear hbg
  obtain ⟨bb, hbb⟩ : ∃ bb, bb = (bg || (decide (60 < tt) && decide (tt ≤ 10000))) := ⟨_, rfl⟩
  have hbm : bb = false → m0.length ≤ 19 ∨ 100 < m0.length := fun hb => hbm (by
    rw [hb] at hbb; exact (Bool.or_eq_false_iff.1 hbb.symm).1)
  rw [hT]
  refine AGo_cut (k1 := [_]) (fun e H => Fits e [(1, .vs 5 ms0), (2, I tt), (3, .vs 1 xn), (4, .mp 0 0 0), (30, B bb)] ∧ H = [.own 0 [.vs 5 xs0, I a0, I b0, I c0]]) ?_ (fun e1 H1 hP1 => ?_)
  · have e1 : A.lt 60 tt = decide (60 < tt) := hll _ _
    have e2 : A.le tt 10000 = decide (tt ≤ 10000) := hle _ _
    refine SGo_run hA ⟨[], [], [], []⟩ .nil .nil 200 fun T TD hT hTD => ?_
    cases bg with
    | true =>
      cbv
      exact ⟨⟨congrArg B hbb.symm, trivial⟩, trivial⟩
    | false =>
      cbv
      split <;> cbv
      · rename_i hz
        refine ⟨⟨congrArg B ?_, trivial⟩, trivial⟩
        rw [hbb, ← e1, ← e2]; rw [show A.lt 60 tt = true from hz]; rfl
      · rename_i hz
        refine ⟨⟨congrArg B ?_, trivial⟩, trivial⟩
        rw [hbb, ← e1]; rw [show A.lt 60 tt = false from hz]; rfl
  obtain ⟨hf1, rfl⟩ := hP1
  refine AGo_forget [(1, .vs 5 ms0), (2, I tt), (3, .vs 1 xn), (4, .mp 0 0 0), (30, B bb)] _ hf1 (.inl rfl) ?_ (by simp)
  clear hf1 hbb
  refine SGo_run hA ⟨[], [1], (28, eAwake) :: [], edM⟩ (.cons eAwake_ok .nil) edM_ok 200 fun T TD hT hTD => ?_
  cases bb with
  | true => cbv; exact h _
  | false =>
  cbv
  have hbm := hbm rfl
  refine Exists.intro nums (And.intro ⟨hxn, hn1⟩ ?_)
  intro w1
  cbv
  refine Exists.intro () (And.intro (by omega) ?_)
  rintro w2 _ ⟨rs, a, b, c, xs, rfl, hxs, hD⟩
  cbv
  have ho := hD.road (by omega)
  have hs := hD.sgt
  refine Exists.intro (rs, 6, 10) (And.intro ⟨hxs, rfl, rfl, ho, by omega, by omega⟩ ?_)
  rintro w3 _ ⟨m, ms, rfl, hms, hml, hmk⟩
  cbv
  have hml5 : m.length ≤ 6 := by
    have h9 : iLen m.length ≤ 6 := hml
    unfold iLen at h9; omega
  refine Exists.intro () (And.intro (by omega) ?_)
  rintro w4 _ ⟨q1, rfl, hq1, hq1'⟩
  cbv
  refine And.intro (by subst hA; first | (simp [std, Keep, SubH, ResK]; done) | exact .inr ⟨⟨rfl, SubH.self _⟩, trivial, .inr fun _ => ⟨rfl, SubH.self _⟩⟩ | exact .inr ⟨SubH.self _, trivial, .inr fun _ => SubH.self _⟩ | exact .inr ⟨by simp [SubH], trivial, .inl rfl⟩ | exact .inr ⟨by simp [SubH], trivial, .inr fun _ => by simp [SubH]⟩) ?_
  cbv
  obtain ⟨SV, hSV⟩ : ∃ x, x = [AV.agg [.vs 5 xs0, I a0, I b0, I c0], .agg [.vs 5 xs, I a, I b, I c], .agg [.vs 5 xs, I a, I b, I c]] := ⟨_, rfl⟩
  obtain ⟨LV, hLV⟩ : ∃ x, x = [AV.vs 5 ms0, .vs 5 ms, .vs 5 ms] := ⟨_, rfl⟩
  obtain ⟨UV, hUV⟩ : ∃ x, x = [I tt, I q1, I tt] := ⟨_, rfl⟩
  have hsel : ∀ j i, i = iLen j → j < 3 → ∃ (rs' : List Rch) (a' b' c' : Int) (xs' : List AV) (m' : List Mrk) (ms' : List AV) (u' : Int), (xs' = rs'.map rcV ∧ ms' = m'.map mkV ∧ rs'.length ≤ 9223372036854775807 ∧ m'.length ≤ 9223372036854775807 ∧ (m'.length ≤ 19 ∨ 100 < m'.length)) ∧
      A.ix 4 4 SV i [.vs 5 xs', I a', I b', I c'] ∧ A.ix 1 1 LV i [.vs 5 ms'] ∧ A.ix 1 1 UV i [I u'] := by
    intro j i hi hj
    have hlr : rs.length ≤ 9223372036854775807 := by have := ho.n2; omega
    have hlln : m.length ≤ 9223372036854775807 := by omega
    have hll3 : m.length ≤ 19 ∨ 100 < m.length := by omega
    subst hA hSV hLV hUV hi
    have : j = 0 ∨ j = 1 ∨ j = 2 := by omega
    rcases this with rfl | rfl | rfl
    · exact ⟨rs0, a0, b0, c0, xs0, m0, ms0, tt, ⟨hxs0, hms0, hr0, hm0, hbm⟩, ⟨rfl, by decide, _, rfl, rfl⟩, ⟨rfl, by decide, _, rfl, rfl⟩, ⟨rfl, by decide, _, rfl, rfl⟩⟩
    · exact ⟨rs, a, b, c, xs, m, ms, q1, ⟨hxs, hms, hlr, hlln, hll3⟩, ⟨rfl, by decide, _, rfl, rfl⟩, ⟨rfl, by decide, _, rfl, rfl⟩, ⟨rfl, by decide, _, rfl, rfl⟩⟩
    · exact ⟨rs, a, b, c, xs, m, ms, tt, ⟨hxs, hms, hlr, hlln, hll3⟩, ⟨rfl, by decide, _, rfl, rfl⟩, ⟨rfl, by decide, _, rfl, rfl⟩, ⟨rfl, by decide, _, rfl, rfl⟩⟩
  have hvS : A.vlen SV = 3 := by subst hA hSV; rfl
  rw [hT]
  have hxl : ∀ n, AV.ltL n xs := fun n => AV.ltL_nid (by rw [hxs]; exact nidL_rc rs)
  have hxl0 : ∀ n, AV.ltL n xs0 := fun n => AV.ltL_nid (by rw [hxs0]; exact nidL_rc rs0)
  refine AGo_forget [(12, .vs 4 SV), (13, .vs 1 LV), (14, .vs 1 UV), (15, I 0)] _ ⟨by rw [hSV]; rfl, by rw [hLV]; rfl, by rw [hUV]; rfl, rfl, trivial⟩ (.inl rfl) ?_ (by simp)
  refine AGo_whileE (σ := Nat) [12, 13, 14] (fun j => 3 - j) (fun j => j ≤ 3) (fun j => [(15, I (iLen j))]) (fun _ => [.own 0 [.vs 5 xs0, I a0, I b0, I c0], .own 0 [U w4], .own 0 [.vs 5 xs, I a, I b, I c]]) 0 (Nat.zero_le _) ⟨rfl, trivial⟩ (.inl rfl) fun j hj Bk hB => ?_
  dsimp only
  obtain ⟨jj, hjj⟩ : ∃ x, x = iLen j := ⟨_, rfl⟩
  have hadd : j < 3 → A.add .i64 jj 1 = iLen (j + 1) := fun h3 => by subst hA; show iAdd .i64 jj 1 = _; rw [hjj, iAdd_id (by unfold iLen; omega) (by unfold iLen; omega)]; unfold iLen; omega
  have hlt3 : A.lt jj (A.vlen SV) = decide (j < 3) := by rw [hvS, hjj]; subst hA; show decide (_ < _) = _; rw [decide_eq_decide]; unfold iLen; omega
  rw [← hjj]
  refine SGo_run hA ⟨[], [], (41, eCover CovM) :: (42, eCov42) :: (43, eSame3) :: (28, eAwake) :: [], []⟩ (.cons (eCover_ok CovM.ok) (.cons eCov42_ok (.cons (eSame3_ok p43) (.cons eAwake_ok .nil)))) .nil 200 fun T TD hT hTD => ?_
  cbv
  split <;> cbv
  · rename_i hz
    have hj3 : j < 3 := of_decide_eq_true (hlt3.symm.trans hz)
    obtain ⟨rs', a', b', c', xs', m', ms', u', ⟨hx', hm', hrb, hlb, hc'⟩, g1, g2, g4⟩ := hsel j jj hjj hj3
    have hj1 := hadd hj3
    clear hsel hadd hlt3
    refine Exists.intro _ (And.intro g1 ?_); cbv
    refine Exists.intro _ (And.intro g2 ?_); cbv
    refine Exists.intro _ (And.intro g4 ?_); cbv
    refine Exists.intro rs' (Exists.intro m' (And.intro ⟨hx', hm', hrb, hlb⟩ (And.intro (fun h0 => coverE_ok h0 hc') ?_)))
    intro e1 y1 he1 hy1; cbv
    refine Exists.intro _ (And.intro g1 ?_); cbv
    refine Exists.intro _ (And.intro g2 ?_); cbv
    refine Exists.intro _ (And.intro g4 ?_); cbv
    refine Exists.intro rs' (Exists.intro m' (And.intro ⟨hx', hm', hrb, hlb⟩ ?_))
    intro e2 y2 he2 hy2; cbv
    have z2 : ∀ x x', x = x' → A.ne x x' = false := fun x x' h1 => by rw [hne, h1]; simp
    have z3 : A.bnot true = false := by rw [hnb]; rfl
    have zz1 := z2 e1 e2 (he1.trans he2.symm)
    split <;> first | (rename_i hz; exact Bool.noConfusion (hz.symm.trans zz1)) | cbv
    refine Exists.intro ((coverL rs' a' b' c' m' u').map fun x => (iLen x.1, iLen x.2.1, x.2.2)) (Exists.intro ((coverL rs' a' b' c' m' u').map fun x => (iLen x.1, iLen x.2.1, x.2.2)) (And.intro (hy1.trans (by rw [List.map_map]; rfl)) (And.intro (hy2.trans (by rw [List.map_map]; rfl)) (And.intro (by rw [List.length_map]; exact coverL_len) (And.intro (by rw [List.length_map]; exact coverL_len) ?_)))))
    intro b1 hb1; cbv
    have hb1 : b1 = true := hb1.trans (decide_eq_true rfl)
    subst hb1
    split <;> first | (rename_i hz; exact Bool.noConfusion (hz.symm.trans z3)) | cbv
    refine hB (j + 1) _ _ (by omega) (by omega) ⟨congrArg I hj1, trivial⟩ ⟨rfl, rfl, rfl, trivial⟩ (.inl rfl)
  · exact h _
end Go.Sas
