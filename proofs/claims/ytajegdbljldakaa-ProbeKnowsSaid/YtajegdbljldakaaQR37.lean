/-
ProbeKnows: the law's core.
Conditions: none.
-/
import Derived.Test.YtajegdbljldakaaQR36
import Derived.Test.YtajegdbljldakaaQRL7
set_option linter.unusedVariables false
set_option linter.unusedSimpArgs false
namespace Go.Sas
open Go.Proofs
set_option maxRecDepth 100000
set_option maxHeartbeats 4000000 in
theorem core7 (rs0 : List Rch) (a0 b0 c0 : Int) (l0 : List Lk) (place tt hour : Int) (nums : List Int) (hr0 : rs0.length ≤ 9223372036854775807) (hl0 : l0.length ≤ 9223372036854775807) (hpb : -9223372036854775808 ≤ place ∧ place ≤ 9223372036854775807) (htb : -9223372036854775808 ≤ tt ∧ tt ≤ 9223372036854775807) (hhb : -9223372036854775808 ≤ hour ∧ hour ≤ 9223372036854775807) (hn1 : nums.length ≤ 9223372036854775807) :
    ACalls Try.prog 7 [svV (.vs 5 (rs0.map rcV)) a0 b0 c0, .vs 5 (l0.map lkV), I place, I tt, I hour, .vs 1 (nums.map I)] [] fun r _ => r = .lit (.bool true) := by
  obtain ⟨Kk, hKk⟩ : ∃ K : AV → AHeap → Prop, K = fun r _ => r = .lit (.bool true) := ⟨_, rfl⟩
  rw [← hKk]
  have h : ∀ H, Kk (B true) H := fun H => by rw [hKk]
  clear hKk
  obtain ⟨xn, hxn⟩ : ∃ ys, ys = nums.map I := ⟨_, rfl⟩
  obtain ⟨xs0, hxs0⟩ : ∃ ys, ys = rs0.map rcV := ⟨_, rfl⟩
  obtain ⟨ls0, hls0⟩ : ∃ ys, ys = l0.map lkV := ⟨_, rfl⟩
  rw [← hxn, ← hxs0, ← hls0]
  obtain ⟨A, hA⟩ : ∃ A, A = std := ⟨_, rfl⟩
  have hne : ∀ x y, A.ne x y = decide (x ≠ y) := by subst hA; intro x y; simp only [std, iNe]; rw [Bool.eq_iff_iff]; simp
  have hee : ∀ x y, A.eq x y = decide (x = y) := by subst hA; intro x y; exact iEq_dec _ _
  have hll : ∀ x y, A.lt x y = decide (x < y) := by subst hA; intro x y; rfl
  have hle : ∀ x y, A.le x y = decide (x ≤ y) := by subst hA; intro x y; rfl
  have hnb : ∀ b, A.bnot b = !b := by subst hA; intro b; rfl
  have hbd : ∀ x y, A.band x y = (x && y) := by subst hA; intro x y; rfl
  have hsg : ∀ g, A.sg g g := by subst hA; exact fun _ => rfl
  refine go7 rfl (SGo_run hA ⟨[], [1], (29, eNil [0, 0, 5] eBig) :: (28, eAwake) :: (46, ePlaces) :: [], edP⟩ (.cons (eNil_ok eBig_ok) (.cons eAwake_ok (.cons (ePlaces_ok p46) .nil))) edP_ok 200 fun T TD hT hTD => ?_)
  cbv
  refine Exists.intro rs0 (And.intro hxs0 (And.intro hr0 (And.intro (by rw [hls0]; exact nidL_map (g := lkV) (fun _ => rfl) _) (And.intro rfl ?_))))
  intro bg hbg; cbv
  clear hbg
  cases bg with
  | true => cbv; exact h _
  | false =>
  cbv
  refine Exists.intro nums (And.intro ⟨hxn, hn1⟩ ?_)
  intro w1
  cbv
  refine Exists.intro () (And.intro (by omega) ?_)
  rintro w2 _ ⟨rs, a, b, c, xs, rfl, hxs, hD⟩
  cbv
  have ho := hD.road (by omega)
  have hs := hD.sgt
  have hPl := ho.plc
  refine Exists.intro (rs, 6) (And.intro ⟨hxs, rfl, ho, by omega, ⟨show (1 : Nat) ≤ 6 by decide, show (6 : Nat) ≤ 100 by decide⟩⟩ ?_)
  rintro w3 _ ⟨TC, cr, rfl, hcr, hC⟩
  cbv
  refine Exists.intro (plc rs, TC, 6) (And.intro ⟨hcr, ho.plc, hC, by omega, ⟨show (1 : Nat) ≤ 6 by decide, show (6 : Nat) ≤ 100 by decide⟩, by omega⟩ ?_)
  rintro w4 _ ⟨l, ls, rfl, hls, hll5, hfit⟩
  have hl5n : l.length ≤ 5 := by omega
  cbv
  have hsb := sumLg_bnd' ho
  refine Exists.intro rs (And.intro hxs (And.intro (by have := ho.n2; omega) (And.intro ho.all ?_)))
  intro nn hnn; cbv
  refine Exists.intro () (And.intro (by omega) ?_)
  rintro w5 _ ⟨q1, rfl, hq1, hq1'⟩
  cbv
  refine Exists.intro () (And.intro (by omega) ?_)
  rintro w6 _ ⟨q2, rfl, hq2, hq2'⟩
  cbv
  refine Exists.intro () (And.intro (by omega) ?_)
  rintro w7 _ ⟨q3, rfl, hq3, hq3'⟩
  cbv
  refine And.intro (by subst hA; first | (simp [std, Keep, SubH, ResK]; done) | exact .inr ⟨⟨rfl, SubH.self _⟩, trivial, .inr fun _ => ⟨rfl, SubH.self _⟩⟩ | exact .inr ⟨SubH.self _, trivial, .inr fun _ => SubH.self _⟩ | exact .inr ⟨by simp [SubH], trivial, .inl rfl⟩ | exact .inr ⟨by simp [SubH], trivial, .inr fun _ => by simp [SubH]⟩) ?_
  cbv
  obtain ⟨mn, hmn⟩ : ∃ x, x = A.min q1 q2 := ⟨_, rfl⟩
  obtain ⟨mx, hmx⟩ : ∃ x, x = A.max q1 q2 := ⟨_, rfl⟩
  obtain ⟨SV, hSV⟩ : ∃ x, x = [AV.agg [.vs 5 xs0, I a0, I b0, I c0], .agg [.vs 5 xs, I a, I b, I c], .agg [.vs 5 xs, I a, I b, I c]] := ⟨_, rfl⟩
  obtain ⟨LV, hLV⟩ : ∃ x, x = [AV.vs 5 ls0, .vs 5 ls, .vs 5 ls] := ⟨_, rfl⟩
  obtain ⟨PV, hPV⟩ : ∃ x, x = [I place, I mn, I place] := ⟨_, rfl⟩
  obtain ⟨UV, hUV⟩ : ∃ x, x = [I tt, I mx, I tt] := ⟨_, rfl⟩
  obtain ⟨TV, hTV⟩ : ∃ x, x = [I hour, I q3, I hour] := ⟨_, rfl⟩
  have hsel : ∀ j i, i = iLen j → j < 3 → ∃ (rs' : List Rch) (a' b' c' : Int) (xs' : List AV) (l' : List Lk) (ls' : List AV) (p' u' t' : Int), (xs' = rs'.map rcV ∧ ls' = l'.map lkV ∧ rs'.length ≤ 9223372036854775807 ∧ l'.length ≤ 9223372036854775807) ∧
      A.ix 4 4 SV i [.vs 5 xs', I a', I b', I c'] ∧ A.ix 1 1 LV i [.vs 5 ls'] ∧ A.ix 1 1 PV i [I p'] ∧ A.ix 1 1 UV i [I u'] ∧ A.ix 1 1 TV i [I t'] := by
    intro j i hi hj
    have hlr : rs.length ≤ 9223372036854775807 := by have := ho.n2; omega
    have hlln : l.length ≤ 9223372036854775807 := by omega
    subst hA hSV hLV hPV hUV hTV hi
    have : j = 0 ∨ j = 1 ∨ j = 2 := by omega
    rcases this with rfl | rfl | rfl
    · exact ⟨rs0, a0, b0, c0, xs0, l0, ls0, place, tt, hour, ⟨hxs0, hls0, hr0, hl0⟩, ⟨rfl, by decide, _, rfl, rfl⟩, ⟨rfl, by decide, _, rfl, rfl⟩, ⟨rfl, by decide, _, rfl, rfl⟩, ⟨rfl, by decide, _, rfl, rfl⟩, ⟨rfl, by decide, _, rfl, rfl⟩⟩
    · exact ⟨rs, a, b, c, xs, l, ls, mn, mx, q3, ⟨hxs, hls, hlr, hlln⟩, ⟨rfl, by decide, _, rfl, rfl⟩, ⟨rfl, by decide, _, rfl, rfl⟩, ⟨rfl, by decide, _, rfl, rfl⟩, ⟨rfl, by decide, _, rfl, rfl⟩, ⟨rfl, by decide, _, rfl, rfl⟩⟩
    · exact ⟨rs, a, b, c, xs, l, ls, place, tt, hour, ⟨hxs, hls, hlr, hlln⟩, ⟨rfl, by decide, _, rfl, rfl⟩, ⟨rfl, by decide, _, rfl, rfl⟩, ⟨rfl, by decide, _, rfl, rfl⟩, ⟨rfl, by decide, _, rfl, rfl⟩, ⟨rfl, by decide, _, rfl, rfl⟩⟩
  have hvS : A.vlen SV = 3 := by subst hA hSV; rfl
  rw [hT]
  have hxl : ∀ n, AV.ltL n xs := fun n => AV.ltL_nid (by rw [hxs]; exact nidL_rc rs)
  have hxl0 : ∀ n, AV.ltL n xs0 := fun n => AV.ltL_nid (by rw [hxs0]; exact nidL_rc rs0)
  refine AGo_forget [(19, .vs 4 SV), (20, .vs 1 LV), (21, .vs 1 PV), (22, .vs 1 UV), (23, .vs 1 TV), (24, I 0)] _ ⟨by rw [hSV]; rfl, by rw [hLV]; rfl, by rw [hPV, hmn]; rfl, by rw [hUV, hmx]; rfl, by rw [hTV]; rfl, rfl, trivial⟩ (.inl rfl) ?_ (by simp)
  refine AGo_whileE (σ := Nat) [19, 20, 21, 22, 23] (fun j => 3 - j) (fun j => j ≤ 3) (fun j => [(24, I (iLen j))]) (fun _ => [.own 0 [.vs 5 xs0, I a0, I b0, I c0], .own 0 [U w7], .own 0 [.vs 5 xs, I a, I b, I c]]) 0 (Nat.zero_le _) ⟨rfl, trivial⟩ (.inl rfl) fun j hj Bk hB => ?_
  dsimp only
  obtain ⟨jj, hjj⟩ : ∃ x, x = iLen j := ⟨_, rfl⟩
  have hadd : j < 3 → A.add .i64 jj 1 = iLen (j + 1) := fun h3 => by subst hA; show iAdd .i64 jj 1 = _; rw [hjj, iAdd_id (by unfold iLen; omega) (by unfold iLen; omega)]; unfold iLen; omega
  have hlt3 : A.lt jj (A.vlen SV) = decide (j < 3) := by rw [hvS, hjj]; subst hA; show decide (_ < _) = _; rw [decide_eq_decide]; unfold iLen; omega
  rw [← hjj]
  refine SGo_run hA ⟨[], [], (25, eKnown) :: (47, eKnown) :: (48, eLeast) :: (49, eLeast) :: (28, eAwake) :: [], []⟩ (.cons (eKnown_ok p25) (.cons (eKnown_ok p47) (.cons (eLeast_ok p48) (.cons (eLeast_ok p49) (.cons eAwake_ok .nil))))) .nil 200 fun T TD hT hTD => ?_
  cbv
  split <;> cbv
  · rename_i hz
    have hj3 : j < 3 := of_decide_eq_true (hlt3.symm.trans hz)
    obtain ⟨rs', a', b', c', xs', l', ls', p', u', t', ⟨hx', hl', hrb, hlb⟩, g1, g2, g3, g4, g5⟩ := hsel j jj hjj hj3
    have hj1 := hadd hj3
    clear hsel hadd hlt3
    refine Exists.intro _ (And.intro g1 ?_); cbv
    refine Exists.intro _ (And.intro g2 ?_); cbv
    refine Exists.intro _ (And.intro g3 ?_); cbv
    refine Exists.intro _ (And.intro g5 ?_); cbv
    refine Exists.intro rs' (Exists.intro l' (And.intro hx' (And.intro hl' (And.intro hrb (And.intro hlb ?_)))))
    intro x1 y1 e1 he1; cbv
    refine And.intro (by subst hA; first | (simp [std, Keep, SubH, ResK]; done) | exact .inr ⟨⟨rfl, SubH.self _⟩, trivial, .inr fun _ => ⟨rfl, SubH.self _⟩⟩ | exact .inr ⟨SubH.self _, trivial, .inr fun _ => SubH.self _⟩ | exact .inr ⟨by simp [SubH], trivial, .inl rfl⟩ | exact .inr ⟨by simp [SubH], trivial, .inr fun _ => by simp [SubH]⟩) ?_
    cbv
    refine Exists.intro _ (And.intro g1 ?_); cbv
    refine Exists.intro _ (And.intro g2 ?_); cbv
    refine Exists.intro _ (And.intro g3 ?_); cbv
    refine Exists.intro _ (And.intro g5 ?_); cbv
    refine Exists.intro rs' (Exists.intro l' (And.intro hx' (And.intro hl' (And.intro hrb (And.intro hlb ?_)))))
    intro x2 y2 e2 he2; cbv
    refine And.intro (by subst hA; first | (simp [std, Keep, SubH, ResK]; done) | exact .inr ⟨⟨rfl, SubH.self _⟩, trivial, .inr fun _ => ⟨rfl, SubH.self _⟩⟩ | exact .inr ⟨SubH.self _, trivial, .inr fun _ => SubH.self _⟩ | exact .inr ⟨by simp [SubH], trivial, .inl rfl⟩ | exact .inr ⟨by simp [SubH], trivial, .inr fun _ => by simp [SubH]⟩) ?_
    cbv
    refine Exists.intro _ (And.intro g1 ?_); cbv
    refine Exists.intro _ (And.intro g2 ?_); cbv
    refine Exists.intro _ (And.intro g3 ?_); cbv
    refine Exists.intro _ (And.intro g4 ?_); cbv
    refine Exists.intro _ (And.intro g5 ?_); cbv
    refine Exists.intro rs' (Exists.intro l' (And.intro hx' (And.intro hl' (And.intro hrb (And.intro hlb ?_)))))
    intro x3 y3 e3 he3; cbv
    refine And.intro (by subst hA; first | (simp [std, Keep, SubH, ResK]; done) | exact .inr ⟨⟨rfl, SubH.self _⟩, trivial, .inr fun _ => ⟨rfl, SubH.self _⟩⟩ | exact .inr ⟨SubH.self _, trivial, .inr fun _ => SubH.self _⟩ | exact .inr ⟨by simp [SubH], trivial, .inl rfl⟩ | exact .inr ⟨by simp [SubH], trivial, .inr fun _ => by simp [SubH]⟩) ?_
    cbv
    refine Exists.intro _ (And.intro g1 ?_); cbv
    refine Exists.intro _ (And.intro g2 ?_); cbv
    refine Exists.intro _ (And.intro g3 ?_); cbv
    refine Exists.intro _ (And.intro g4 ?_); cbv
    refine Exists.intro _ (And.intro g5 ?_); cbv
    refine Exists.intro rs' (Exists.intro l' (And.intro hx' (And.intro hl' (And.intro hrb (And.intro hlb ?_)))))
    intro x4 y4 e4 he4; cbv
    refine And.intro (by subst hA; first | (simp [std, Keep, SubH, ResK]; done) | exact .inr ⟨⟨rfl, SubH.self _⟩, trivial, .inr fun _ => ⟨rfl, SubH.self _⟩⟩ | exact .inr ⟨SubH.self _, trivial, .inr fun _ => SubH.self _⟩ | exact .inr ⟨by simp [SubH], trivial, .inl rfl⟩ | exact .inr ⟨by simp [SubH], trivial, .inr fun _ => by simp [SubH]⟩) ?_
    cbv
    have h12 := he1.trans he2.symm
    have h34 := he3.trans he4.symm
    simp only [Prod.mk.injEq] at h12 h34
    have z1 : ∀ x y x' y', x = x' → y = y' → A.bnot (A.band (A.eq x x') (A.band (A.eq y y') true)) = false := fun x y x' y' h1 h2 => by rw [hnb, hee, hee, hbd, hbd, h1, h2]; simp
    have z2 : ∀ x x', x = x' → A.ne x x' = false := fun x x' h1 => by rw [hne, h1]; simp
    have zz1 := z1 x1 y1 x2 y2 h12.1.1 h12.1.2
    have zz2 := z2 e1 e2 h12.2
    have zz3 := z1 x3 y3 x4 y4 h34.1.1 h34.1.2
    have zz4 := z2 e3 e4 h34.2
    split <;> first | (rename_i hz; exact Bool.noConfusion (hz.symm.trans zz1)) | cbv
    split <;> first | (rename_i hz; exact Bool.noConfusion (hz.symm.trans zz2)) | cbv
    split <;> first | (rename_i hz; exact Bool.noConfusion (hz.symm.trans zz3)) | cbv
    split <;> first | (rename_i hz; exact Bool.noConfusion (hz.symm.trans zz4)) | cbv
    refine hB (j + 1) _ _ (by omega) (by omega) ⟨congrArg I hj1, trivial⟩ ⟨rfl, rfl, rfl, rfl, rfl, trivial⟩ (.inr ⟨⟨[.own 0 [I x1, I y1], .own 0 [I x2, I y2], .own 0 [I x3, I y3], .own 0 [I x4, I y4]], rfl⟩, by simp, by simp [ltG, AV.lt, AV.ltL, keepS, look, gset], ?_⟩)
    simp [ltH, AObj.lt, AV.lt, AV.ltL, hxl, hxl0]
  · exact h _
end Go.Sas
