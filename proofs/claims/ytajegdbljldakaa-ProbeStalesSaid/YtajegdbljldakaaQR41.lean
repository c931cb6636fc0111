/-
ProbeStales: the law's core.
Conditions: none.
-/
import Derived.Test.YtajegdbljldakaaQR36
import Derived.Test.YtajegdbljldakaaQR39
import Derived.Test.YtajegdbljldakaaQR40
import Derived.Test.YtajegdbljldakaaQRL12
set_option linter.unusedVariables false
set_option linter.unusedSimpArgs false
namespace Go.Sas
open Go.Proofs
set_option maxRecDepth 100000
def eSameI : List AV → Option ((AV → Prop) → Prop)
  | [.vs 1 xs, .vs 1 ys] => some fun K => ∃ (l l' : List Int), xs = l.map I ∧ ys = l'.map I ∧ l.length ≤ 9223372036854775807 ∧ l'.length ≤ 9223372036854775807 ∧ ∀ r, r = decide (l = l') → K (B r)
  | _ => none
theorem eSameI_ok : ∀ args pt, eSameI args = some pt → ∀ (H : AHeap) (Kk : AV → AHeap → Prop), pt (fun r => Kk r H) → ACalls Try.prog 62 args H Kk := by
  intro args pt h H Kk hk
  unfold eSameI at h
  split at h
  · cases h
    obtain ⟨l, l', rfl, rfl, h1, h2, h3⟩ := hk
    exact p62 _ _ h1 h2 H (h3 _ rfl)
  · cases h
theorem stalR_len {rs : List Rch} {a b c : Int} {l : List Lk} {t : Int} : (stalR rs a b c l t).length ≤ 9223372036854775807 := by
  unfold stalR
  split
  · rename_i h
    have ho : surE rs a b c l = 0 := by
      unfold staleE orElse at h
      split at h
      · assumption
      · contradiction
    have := (surE_ok.1 ho).1.le'
    exact Nat.le_trans spaS_len (by omega)
  · simp
theorem planR_len {rs : List Rch} {a b c : Int} {l : List Lk} {t k : Int} : (planR rs a b c l t k).1.length ≤ 9223372036854775807 ∧ (planR rs a b c l t k).2.length ≤ 9223372036854775807 := by
  unfold planR
  split
  · rename_i h
    have ho : surE rs a b c l = 0 := by
      unfold planE orElse at h
      split at h
      · assumption
      · contradiction
    have h1 := (surE_ok.1 ho).1.le'
    have h2 := planG_len (V := staleS (plc rs) a b c l t) (s := sgtS a b c k) (n := sumLg rs) (p := (plc rs).length)
    omega
  · simp
set_option maxHeartbeats 4000000 in
theorem core12 (rs0 : List Rch) (a0 b0 c0 : Int) (l0 : List Lk) (tt kind : Int) (nums : List Int) (hr0 : rs0.length ≤ 9223372036854775807) (hl0 : l0.length ≤ 9223372036854775807) (htb : -9223372036854775808 ≤ tt ∧ tt ≤ 9223372036854775807) (hkb : -9223372036854775808 ≤ kind ∧ kind ≤ 9223372036854775807) (hn1 : nums.length ≤ 9223372036854775807) :
    ACalls Try.prog 12 [svV (.vs 5 (rs0.map rcV)) a0 b0 c0, .vs 5 (l0.map lkV), I tt, I kind, .vs 1 (nums.map I)] [] fun r _ => r = .lit (.bool true) := by
  obtain ⟨Kk, hKk⟩ : ∃ K : AV → AHeap → Prop, K = fun r _ => r = .lit (.bool true) := ⟨_, rfl⟩
  rw [← hKk]
  have h : ∀ H, Kk (B true) H := fun H => by rw [hKk]
  clear hKk
  obtain ⟨xn, hxn⟩ : ∃ ys, ys = nums.map I := ⟨_, rfl⟩
  obtain ⟨xs0, hxs0⟩ : ∃ ys, ys = rs0.map rcV := ⟨_, rfl⟩
  obtain ⟨ls0, hls0⟩ : ∃ ys, ys = l0.map lkV := ⟨_, rfl⟩
  rw [← hxn, ← hxs0, ← hls0]
  obtain ⟨A, hA⟩ : ∃ A, A = std := ⟨_, rfl⟩
  have hne : ∀ x y, A.ne x y = decide (x ≠ y) := by subst hA; intro x y; simp only [std, iNe]; rw [Bool.eq_iff_iff]; simp
  have hee : ∀ x y, A.eq x y = decide (x = y) := by subst hA; intro x y; exact iEq_dec _ _
  have hll : ∀ x y, A.lt x y = decide (x < y) := by subst hA; intro x y; rfl
  have hle : ∀ x y, A.le x y = decide (x ≤ y) := by subst hA; intro x y; rfl
  have hnb : ∀ b, A.bnot b = !b := by subst hA; intro b; rfl
  have hbd : ∀ x y, A.band x y = (x && y) := by subst hA; intro x y; rfl
  have hsg : ∀ g, A.sg g g := by subst hA; exact fun _ => rfl
  refine go12 rfl (SGo_run hA ⟨[], [1], (29, eNil [0, 0, 5] eBig) :: (28, eAwake) :: [], edP⟩ (.cons (eNil_ok eBig_ok) (.cons eAwake_ok .nil)) edP_ok 200 fun T TD hT hTD => ?_)
  cbv
  refine Exists.intro rs0 (And.intro hxs0 (And.intro hr0 (And.intro (by rw [hls0]; exact nidL_map (g := lkV) (fun _ => rfl) _) (And.intro rfl ?_))))
  intro bg hbg; cbv
  clear hbg
  cases bg with
  | true => cbv; exact h _
  | false =>
  cbv
  refine Exists.intro nums (And.intro ⟨hxn, hn1⟩ ?_)
  intro w1
  cbv
  refine Exists.intro () (And.intro (by omega) ?_)
  rintro w2 _ ⟨rs, a, b, c, xs, rfl, hxs, hD⟩
  cbv
  have ho := hD.road (by omega)
  have hs := hD.sgt
  have hPl := ho.plc
  refine Exists.intro (rs, 3) (And.intro ⟨hxs, rfl, ho, by omega, ⟨show (1 : Nat) ≤ 3 by decide, show (3 : Nat) ≤ 100 by decide⟩⟩ ?_)
  rintro w3 _ ⟨TC, cr, rfl, hcr, hC⟩
  cbv
  refine Exists.intro (plc rs, TC, 3) (And.intro ⟨hcr, ho.plc, hC, by omega, ⟨show (1 : Nat) ≤ 3 by decide, show (3 : Nat) ≤ 100 by decide⟩, by omega⟩ ?_)
  rintro w4 _ ⟨l, ls, rfl, hls, hll5, hfit⟩
  have hl5n : l.length ≤ 5 := by omega
  cbv
  have hsb := sumLg_bnd' ho
  refine Exists.intro () (And.intro (by omega) ?_)
  rintro w5 _ ⟨q1, rfl, hq1, hq1'⟩
  cbv
  refine And.intro (by subst hA; first | (simp [std, Keep, SubH, ResK]; done) | exact .inr ⟨⟨rfl, SubH.self _⟩, trivial, .inr fun _ => ⟨rfl, SubH.self _⟩⟩ | exact .inr ⟨SubH.self _, trivial, .inr fun _ => SubH.self _⟩ | exact .inr ⟨by simp [SubH], trivial, .inl rfl⟩ | exact .inr ⟨by simp [SubH], trivial, .inr fun _ => by simp [SubH]⟩) ?_
  cbv
  refine Exists.intro () (And.intro (by omega) ?_)
  rintro w6 _ ⟨q2, rfl, hq2, hq2'⟩
  cbv
  refine And.intro (by subst hA; first | (simp [std, Keep, SubH, ResK]; done) | exact .inr ⟨⟨rfl, SubH.self _⟩, trivial, .inr fun _ => ⟨rfl, SubH.self _⟩⟩ | exact .inr ⟨SubH.self _, trivial, .inr fun _ => SubH.self _⟩ | exact .inr ⟨by simp [SubH], trivial, .inl rfl⟩ | exact .inr ⟨by simp [SubH], trivial, .inr fun _ => by simp [SubH]⟩) ?_
  cbv
  obtain ⟨SV, hSV⟩ : ∃ x, x = [AV.agg [.vs 5 xs0, I a0, I b0, I c0], .agg [.vs 5 xs, I a, I b, I c], .agg [.vs 5 xs, I a, I b, I c]] := ⟨_, rfl⟩
  obtain ⟨LV, hLV⟩ : ∃ x, x = [AV.vs 5 ls0, .vs 5 ls, .vs 5 ls] := ⟨_, rfl⟩
  obtain ⟨UV, hUV⟩ : ∃ x, x = [I tt, I q1, I tt] := ⟨_, rfl⟩
  obtain ⟨TV, hTV⟩ : ∃ x, x = [I kind, I q2, I kind] := ⟨_, rfl⟩
  have hsel : ∀ j i, i = iLen j → j < 3 → ∃ (rs' : List Rch) (a' b' c' : Int) (xs' : List AV) (l' : List Lk) (ls' : List AV) (u' t' : Int), (xs' = rs'.map rcV ∧ ls' = l'.map lkV ∧ rs'.length ≤ 9223372036854775807 ∧ l'.length ≤ 9223372036854775807) ∧
      A.ix 4 4 SV i [.vs 5 xs', I a', I b', I c'] ∧ A.ix 1 1 LV i [.vs 5 ls'] ∧ A.ix 1 1 UV i [I u'] ∧ A.ix 1 1 TV i [I t'] := by
    intro j i hi hj
    have hlr : rs.length ≤ 9223372036854775807 := by have := ho.n2; omega
    have hlln : l.length ≤ 9223372036854775807 := by omega
    subst hA hSV hLV hUV hTV hi
    have : j = 0 ∨ j = 1 ∨ j = 2 := by omega
    rcases this with rfl | rfl | rfl
    · exact ⟨rs0, a0, b0, c0, xs0, l0, ls0, tt, kind, ⟨hxs0, hls0, hr0, hl0⟩, ⟨rfl, by decide, _, rfl, rfl⟩, ⟨rfl, by decide, _, rfl, rfl⟩, ⟨rfl, by decide, _, rfl, rfl⟩, ⟨rfl, by decide, _, rfl, rfl⟩⟩
    · exact ⟨rs, a, b, c, xs, l, ls, q1, q2, ⟨hxs, hls, hlr, hlln⟩, ⟨rfl, by decide, _, rfl, rfl⟩, ⟨rfl, by decide, _, rfl, rfl⟩, ⟨rfl, by decide, _, rfl, rfl⟩, ⟨rfl, by decide, _, rfl, rfl⟩⟩
    · exact ⟨rs, a, b, c, xs, l, ls, tt, kind, ⟨hxs, hls, hlr, hlln⟩, ⟨rfl, by decide, _, rfl, rfl⟩, ⟨rfl, by decide, _, rfl, rfl⟩, ⟨rfl, by decide, _, rfl, rfl⟩, ⟨rfl, by decide, _, rfl, rfl⟩⟩
  have hvS : A.vlen SV = 3 := by subst hA hSV; rfl
  rw [hT]
  have hxl : ∀ n, AV.ltL n xs := fun n => AV.ltL_nid (by rw [hxs]; exact nidL_rc rs)
  have hxl0 : ∀ n, AV.ltL n xs0 := fun n => AV.ltL_nid (by rw [hxs0]; exact nidL_rc rs0)
  refine AGo_forget [(14, .vs 4 SV), (15, .vs 1 LV), (16, .vs 1 UV), (17, .vs 1 TV), (18, I 0)] _ ⟨by rw [hSV]; rfl, by rw [hLV]; rfl, by rw [hUV]; rfl, by rw [hTV]; rfl, rfl, trivial⟩ (.inl rfl) ?_ (by simp)
  refine AGo_whileE (σ := Nat) [14, 15, 16, 17] (fun j => 3 - j) (fun j => j ≤ 3) (fun j => [(18, I (iLen j))]) (fun _ => [.own 0 [.vs 5 xs0, I a0, I b0, I c0], .own 0 [U w6], .own 0 [.vs 5 xs, I a, I b, I c]]) 0 (Nat.zero_le _) ⟨rfl, trivial⟩ (.inl rfl) fun j hj Bk hB => ?_
  dsimp only
  obtain ⟨jj, hjj⟩ : ∃ x, x = iLen j := ⟨_, rfl⟩
  have hadd : j < 3 → A.add .i64 jj 1 = iLen (j + 1) := fun h3 => by subst hA; show iAdd .i64 jj 1 = _; rw [hjj, iAdd_id (by unfold iLen; omega) (by unfold iLen; omega)]; unfold iLen; omega
  have hlt3 : A.lt jj (A.vlen SV) = decide (j < 3) := by rw [hvS, hjj]; subst hA; show decide (_ < _) = _; rw [decide_eq_decide]; unfold iLen; omega
  rw [← hjj]
  refine SGo_run hA ⟨[], [], (57, eStaleR) :: (58, eStaleR) :: (59, ePlanR) :: (60, ePlanR) :: (61, eSameSp) :: (62, eSameI) :: (28, eAwake) :: [], []⟩ (.cons (eStaleR_ok p57) (.cons (eStaleR_ok p58) (.cons (ePlanR_ok p59) (.cons (ePlanR_ok p60) (.cons eSameSp_ok (.cons eSameI_ok (.cons eAwake_ok .nil))))))) .nil 200 fun T TD hT hTD => ?_
  cbv
  split <;> cbv
  · rename_i hz
    have hj3 : j < 3 := of_decide_eq_true (hlt3.symm.trans hz)
    obtain ⟨rs', a', b', c', xs', l', ls', u', t', ⟨hx', hl', hrb, hlb⟩, g1, g2, g4, g5⟩ := hsel j jj hjj hj3
    have hj1 := hadd hj3
    clear hsel hadd hlt3
    refine Exists.intro _ (And.intro g1 ?_); cbv
    refine Exists.intro _ (And.intro g2 ?_); cbv
    refine Exists.intro _ (And.intro g4 ?_); cbv
    refine Exists.intro rs' (Exists.intro l' (And.intro hx' (And.intro hl' (And.intro hrb (And.intro hlb ?_)))))
    intro y1 e1 he1 hy1; cbv
    refine Exists.intro _ (And.intro g1 ?_); cbv
    refine Exists.intro _ (And.intro g2 ?_); cbv
    refine Exists.intro _ (And.intro g4 ?_); cbv
    refine Exists.intro rs' (Exists.intro l' (And.intro hx' (And.intro hl' (And.intro hrb (And.intro hlb ?_)))))
    intro y2 e2 he2 hy2; cbv
    refine Exists.intro _ (And.intro g1 ?_); cbv
    refine Exists.intro _ (And.intro g2 ?_); cbv
    refine Exists.intro _ (And.intro g4 ?_); cbv
    refine Exists.intro _ (And.intro g5 ?_); cbv
    refine Exists.intro rs' (Exists.intro l' (And.intro hx' (And.intro hl' (And.intro hrb (And.intro hlb ?_)))))
    intro y3 z3 e3 he3 hy3 hz3; cbv
    refine Exists.intro _ (And.intro g1 ?_); cbv
    refine Exists.intro _ (And.intro g2 ?_); cbv
    refine Exists.intro _ (And.intro g4 ?_); cbv
    refine Exists.intro _ (And.intro g5 ?_); cbv
    refine Exists.intro rs' (Exists.intro l' (And.intro hx' (And.intro hl' (And.intro hrb (And.intro hlb ?_)))))
    intro y4 z4 e4 he4 hy4 hz4; cbv
    have h12 := he1.trans he2.symm
    have h34 := he3.trans he4.symm
    have z2 : ∀ x x', x = x' → A.ne x x' = false := fun x x' h1 => by rw [hne, h1]; simp
    have z3 : A.bnot true = false := by rw [hnb]; rfl
    have zz1 := z2 e1 e2 h12
    have zz2 := z2 e3 e4 h34
    have hpq := planR_len (rs := rs') (a := a') (b := b') (c := c') (l := l') (t := u') (k := t')
    split <;> first | (rename_i hz; exact Bool.noConfusion (hz.symm.trans zz1)) | cbv
    split <;> first | (rename_i hz; exact Bool.noConfusion (hz.symm.trans zz2)) | cbv
    refine Exists.intro ((stalR rs' a' b' c' l' u').map fun x => (iLen x.1, iLen x.2.1)) (Exists.intro ((stalR rs' a' b' c' l' u').map fun x => (iLen x.1, iLen x.2.1)) (And.intro (hy1.trans (by rw [List.map_map]; rfl)) (And.intro (hy2.trans (by rw [List.map_map]; rfl)) (And.intro (by rw [List.length_map]; exact stalR_len) (And.intro (by rw [List.length_map]; exact stalR_len) ?_)))))
    intro b1 hb1; cbv
    have hb1 : b1 = true := hb1.trans (decide_eq_true rfl)
    subst hb1
    split <;> first | (rename_i hz; exact Bool.noConfusion (hz.symm.trans z3)) | cbv
    refine Exists.intro _ (Exists.intro _ (And.intro hy3 (And.intro hy4 (And.intro hpq.1 (And.intro hpq.1 ?_)))))
    intro b2 hb2; cbv
    have hb2 : b2 = true := hb2.trans (decide_eq_true rfl)
    subst hb2
    split <;> first | (rename_i hz; exact Bool.noConfusion (hz.symm.trans z3)) | cbv
    refine Exists.intro _ (Exists.intro _ (And.intro hz3 (And.intro hz4 (And.intro hpq.2 (And.intro hpq.2 ?_)))))
    intro b3 hb3; cbv
    have hb3 : b3 = true := hb3.trans (decide_eq_true rfl)
    subst hb3
    split <;> first | (rename_i hz; exact Bool.noConfusion (hz.symm.trans z3)) | cbv
    refine hB (j + 1) _ _ (by omega) (by omega) ⟨congrArg I hj1, trivial⟩ ⟨rfl, rfl, rfl, rfl, trivial⟩ (.inl rfl)
  · exact h _
end Go.Sas
