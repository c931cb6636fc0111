/-
ProbeChecks: the law's core.
Conditions: none.
-/
import Derived.Test.YtajegdbljldakaaQR36
import Derived.Test.YtajegdbljldakaaPP
import Derived.Test.YtajegdbljldakaaQR42
import Derived.Test.YtajegdbljldakaaQR56
import Derived.Test.YtajegdbljldakaaQR57
import Derived.Test.YtajegdbljldakaaQRL4
set_option linter.unusedVariables false
set_option linter.unusedSimpArgs false
namespace Go.Sas
open Go.Proofs
set_option maxRecDepth 100000
def edC : ETab := (20, eLooksU 3) :: edP
theorem edC_ok : ETabOk Try.prog edC := .cons eLooksU_ok edP_ok
theorem bigS_false {rs : List Rch} {a b c k m : Int} (h : bigS rs a b c k m = false) : iLen rs.length ≤ 30 ∧ k ≤ 209 ∧ m ≤ 109 := by
  unfold bigS bigN at h
  simp only [Bool.or_eq_false_iff, Bool.and_eq_false_iff, decide_eq_false_iff_not] at h
  omega
set_option maxHeartbeats 8000000 in
theorem core4 (rs0 : List Rch) (a0 b0 c0 : Int) (l0 : List Lk) (m0 : List Mrk) (nums : List Int) (hr0 : rs0.length ≤ 9223372036854775807) (hl0 : l0.length ≤ 9223372036854775807) (hm0 : m0.length ≤ 9223372036854775807) (hn1 : nums.length ≤ 9223372036854775807) :
    ACalls Try.prog 4 [svV (.vs 5 (rs0.map rcV)) a0 b0 c0, .vs 5 (l0.map lkV), .vs 5 (m0.map mkV), .vs 1 (nums.map I)] [] fun r _ => r = .lit (.bool true) := by
  obtain ⟨Kk, hKk⟩ : ∃ K : AV → AHeap → Prop, K = fun r _ => r = .lit (.bool true) := ⟨_, rfl⟩
  rw [← hKk]
  have h : ∀ H, Kk (B true) H := fun H => by rw [hKk]
  clear hKk
  obtain ⟨xn, hxn⟩ : ∃ ys, ys = nums.map I := ⟨_, rfl⟩
  obtain ⟨xs0, hxs0⟩ : ∃ ys, ys = rs0.map rcV := ⟨_, rfl⟩
  obtain ⟨ls0, hls0⟩ : ∃ ys, ys = l0.map lkV := ⟨_, rfl⟩
  obtain ⟨ms0, hms0⟩ : ∃ ys, ys = m0.map mkV := ⟨_, rfl⟩
  rw [← hxn, ← hxs0, ← hls0, ← hms0]
  obtain ⟨A, hA⟩ : ∃ A, A = std := ⟨_, rfl⟩
  have hne : ∀ x y, A.ne x y = decide (x ≠ y) := by subst hA; intro x y; simp only [std, iNe]; rw [Bool.eq_iff_iff]; simp
  have hee : ∀ x y, A.eq x y = decide (x = y) := by subst hA; intro x y; exact iEq_dec _ _
  have hll : ∀ x y, A.lt x y = decide (x < y) := by subst hA; intro x y; rfl
  have hle : ∀ x y, A.le x y = decide (x ≤ y) := by subst hA; intro x y; rfl
  have hnb : ∀ b, A.bnot b = !b := by subst hA; intro b; rfl
  have hbd : ∀ x y, A.band x y = (x && y) := by subst hA; intro x y; rfl
  have hsg : ∀ g, A.sg g g := by subst hA; exact fun _ => rfl
  refine go4 rfl (SGo_run hA ⟨[3], [1, 1000036], (29, eBig) :: (28, eAwake) :: [], edC⟩ (.cons eBig_ok (.cons eAwake_ok .nil)) edC_ok 200 fun T TD hT hTD => ?_)
  cbv
  refine Exists.intro rs0 (And.intro hxs0 (And.intro hr0 (And.intro (by rw [hls0]; exact nidL_map (g := lkV) (fun _ => rfl) _) (And.intro (by rw [hms0]; exact nidL_map (g := mkV) (fun _ => rfl) _) ?_))))
  intro bg hbg; cbv
  cases bg with
  | true => cbv; exact h _
  | false =>
  have hbg : bigS rs0 a0 b0 c0 (iLen ls0.length) (iLen ms0.length) = false := hbg.symm
  obtain ⟨hb1, hb2, hb3⟩ := bigS_false hbg
  have hrl : rs0.length ≤ 30 := by unfold iLen at hb1; omega
  have hll0 : l0.length ≤ 209 := by rw [hls0, List.length_map] at hb2; unfold iLen at hb2; omega
  have hml0 : m0.length ≤ 109 := by rw [hms0, List.length_map] at hb3; unfold iLen at hb3; omega
  clear hbg hb1 hb2 hb3
  cbv
  refine Exists.intro nums (And.intro ⟨hxn, hn1⟩ ?_)
  intro w1
  cbv
  refine Exists.intro () (And.intro (by omega) ?_)
  rintro w2 _ ⟨rs, a, b, c, xs, rfl, hxs, hD⟩
  cbv
  have ho := hD.road (by omega)
  have hs := hD.sgt
  have hPl := ho.plc
  refine Exists.intro (rs, 4) (And.intro ⟨hxs, rfl, ho, by omega, ⟨show (1 : Nat) ≤ 4 by decide, show (4 : Nat) ≤ 100 by decide⟩⟩ ?_)
  rintro w3 _ ⟨TC, cr, rfl, hcr, hC⟩
  cbv
  refine And.intro (by subst hA; first | (simp [std, Keep, SubH, ResK]; done) | exact .inr ⟨⟨rfl, SubH.self _⟩, trivial, .inr fun _ => ⟨rfl, SubH.self _⟩⟩ | exact .inr ⟨SubH.self _, trivial, .inr fun _ => SubH.self _⟩ | exact .inr ⟨by simp [SubH], trivial, .inl rfl⟩ | exact .inr ⟨by simp [SubH], trivial, .inr fun _ => by simp [SubH]⟩) ?_
  cbv
  refine Exists.intro (plc rs) (Exists.intro TC (Exists.intro 4 (And.intro ⟨hcr, hPl, hC, by omega, ⟨show (1 : Nat) ≤ 4 by decide, show (4 : Nat) ≤ 100 by decide⟩, by omega⟩ ?_)))
  intro w4 l1 n1 cc1 hl1 hfit1 hn1' hcc1
  have hn13 : n1 ≤ 3 := by unfold iLen at hl1; omega
  cbv
  refine And.intro (by subst hA; first | (simp [std, Keep, SubH, ResK]; done) | exact .inr ⟨⟨rfl, SubH.self _⟩, trivial, .inr fun _ => ⟨rfl, SubH.self _⟩⟩ | exact .inr ⟨SubH.self _, trivial, .inr fun _ => SubH.self _⟩ | exact .inr ⟨by simp [SubH], trivial, .inl rfl⟩ | exact .inr ⟨by simp [SubH], trivial, .inr fun _ => by simp [SubH]⟩) ?_
  cbv
  refine Exists.intro (rs, 4) (And.intro ⟨hxs, rfl, ho, by omega, ⟨show (1 : Nat) ≤ 4 by decide, show (4 : Nat) ≤ 100 by decide⟩⟩ ?_)
  rintro w5 _ ⟨TC2, cr2, rfl, hcr2, hC2⟩
  cbv
  refine And.intro (by subst hA; first | (simp [std, Keep, SubH, ResK]; done) | exact .inr ⟨⟨rfl, SubH.self _⟩, trivial, .inr fun _ => ⟨rfl, SubH.self _⟩⟩ | exact .inr ⟨SubH.self _, trivial, .inr fun _ => SubH.self _⟩ | exact .inr ⟨by simp [SubH], trivial, .inl rfl⟩ | exact .inr ⟨by simp [SubH], trivial, .inr fun _ => by simp [SubH]⟩) ?_
  cbv
  refine Exists.intro (plc rs, TC2, 4) (And.intro ⟨hcr2, ho.plc, hC2, by omega, ⟨show (1 : Nat) ≤ 4 by decide, show (4 : Nat) ≤ 100 by decide⟩, by omega⟩ ?_)
  rintro w6 _ ⟨l2, ls2, rfl, hls2, hll2, hfit2⟩
  have hl22 : l2.length ≤ 2 := by omega
  cbv
  refine And.intro (by subst hA; first | (simp [std, Keep, SubH, ResK]; done) | exact .inr ⟨⟨rfl, SubH.self _⟩, trivial, .inr fun _ => ⟨rfl, SubH.self _⟩⟩ | exact .inr ⟨SubH.self _, trivial, .inr fun _ => SubH.self _⟩ | exact .inr ⟨by simp [SubH], trivial, .inl rfl⟩ | exact .inr ⟨by simp [SubH], trivial, .inr fun _ => by simp [SubH]⟩) ?_
  cbv
  have hE2 := Elems_map (f := lkV) (g := lkC) (sz := 5) (fun _ => rfl) (fun _ => rfl) (fun _ => rfl) l2
  rw [← hls2] at hE2
  have hls2l : ls2.length = l2.length := by rw [hls2]; simp
  have hcl1 : cc1.length = n1 * 5 := by rw [hcc1, hn1', len_flat (k := 5) (fun _ => rfl)]
  obtain ⟨cc3, hcc3⟩ : ∃ c, c = cc1 ++ l2.flatMap lkC := ⟨_, rfl⟩
  obtain ⟨n3, hn3⟩ : ∃ n, n = n1 + ls2.length := ⟨_, rfl⟩
  have happ : A.app 5 5 40 cc1 0 n1 ls2 cc3 n3 := by subst hA; rw [hcc3, hn3]; exact app_all hcl1 hE2.1 (by omega)
  refine And.intro (hsg _) (Exists.intro cc3 (Exists.intro n3 (And.intro happ (And.intro rfl ?_)))); cbv
  refine And.intro (by subst hA; first | (simp [std, Keep, SubH, ResK]; done) | exact .inr ⟨⟨rfl, SubH.self _⟩, trivial, .inr fun _ => ⟨rfl, SubH.self _⟩⟩ | exact .inr ⟨SubH.self _, trivial, .inr fun _ => SubH.self _⟩ | exact .inr ⟨by simp [SubH], trivial, .inl rfl⟩ | exact .inr ⟨by simp [SubH], trivial, .inr fun _ => by simp [SubH]⟩) ?_
  cbv
  obtain ⟨l3, hl3⟩ : ∃ l, l = l1 ++ l2 := ⟨_, rfl⟩
  have hl3n : l3.length ≤ 5 := by rw [hl3, List.length_append]; omega
  have hn3l : n3 = l3.length := by rw [hn3, hl3, List.length_append, hls2l, hn1']
  have hE3 : Elems 5 (l3.map lkV) cc3 := by
    have := Elems_map (f := lkV) (g := lkC) (sz := 5) (fun _ => rfl) (fun _ => rfl) (fun _ => rfl) l3
    rw [hl3, List.flatMap_append, ← hcc1, ← hcc3, ← hl3] at this
    exact this
  obtain ⟨ls3, hls3⟩ : ∃ x, x = l3.map lkV := ⟨_, rfl⟩
  rw [← hls3] at hE3
  clear hE2 happ
  rw [hT]
  refine AGo_frzS 11 (id := 3) (g := n1 + 1) (sz := 5) (n := n3) (xs := ls3) (cs := cc3) rfl rfl (by rw [hls3, hn3l]; simp) hE3 ?_
  have hfz1 : fzS 5 5 40 ls0 := ⟨rfl, by rw [hls0]; simp; omega, by rw [hls0]; exact (Elems_map (f := lkV) (g := lkC) (sz := 5) (fun _ => rfl) (fun _ => rfl) (fun _ => rfl) l0).2⟩
  have hfz2 : fzS 5 5 40 ms0 := ⟨rfl, by rw [hms0]; simp; omega, by rw [hms0]; exact (Elems_map (f := mkV) (g := fun x => [I x.k, I x.f, I x.t, I x.h, I x.s]) (sz := 5) (fun _ => rfl) (fun _ => rfl) (fun _ => rfl) m0).2⟩
  have hfz1 : A.fz 5 5 40 ls0 := by subst hA; exact hfz1
  have hfz2 : A.fz 5 5 40 ms0 := by subst hA; exact hfz2
  refine SGo_run hA ⟨[], [], (32, eOwnSv) :: (33, eCheckV) :: (34, eCheckV) :: (35, eSurE) :: (36, eSurE) :: (37, eMarksS) :: (38, eMarksS) :: [], []⟩ (.cons eOwnSv_ok (.cons (eCheckV_ok p33) (.cons (eCheckV_ok p34) (.cons (eSurE_ok p35) (.cons (eSurE_ok p36) (.cons (eMarksS_ok p37) (.cons (eMarksS_ok p38) .nil))))))) .nil 200 fun T TD hT hTD => ?_
  cbv
  refine Exists.intro rs0 (And.intro hxs0 (And.intro (by omega) ?_)); cbv
  refine And.intro hfz1 ?_; cbv
  refine And.intro hfz2 ?_; cbv
  refine Exists.intro rs0 (And.intro hxs0 (And.intro hr0 ?_))
  intro q1 hq1; cbv
  refine Exists.intro rs0 (And.intro hxs0 (And.intro hr0 ?_))
  intro q2 hq2; cbv
  have z12 : A.ne q1 q2 = false := by rw [hne, hq1, hq2]; simp
  split <;> first | (rename_i hz; exact Bool.noConfusion (hz.symm.trans z12)) | cbv
  refine Exists.intro rs0 (Exists.intro l0 (And.intro hxs0 (And.intro hls0 (And.intro hr0 (And.intro hl0 ?_)))))
  intro q3 hq3; cbv
  refine Exists.intro rs0 (Exists.intro l0 (And.intro hxs0 (And.intro hls0 (And.intro hr0 (And.intro hl0 ?_)))))
  intro q4 hq4; cbv
  have z34 : A.ne q3 q4 = false := by rw [hne, hq3, hq4]; simp
  split <;> first | (rename_i hz; exact Bool.noConfusion (hz.symm.trans z34)) | cbv
  refine Exists.intro rs0 (Exists.intro m0 (And.intro hxs0 (And.intro hms0 (And.intro hr0 (And.intro hm0 ?_)))))
  intro q5 hq5; cbv
  refine Exists.intro rs0 (Exists.intro m0 (And.intro hxs0 (And.intro hms0 (And.intro hr0 (And.intro hm0 ?_)))))
  intro q6 hq6; cbv
  have z56 : A.ne q5 q6 = false := by rw [hne, hq5, hq6]; simp
  split <;> first | (rename_i hz; exact Bool.noConfusion (hz.symm.trans z56)) | cbv
  have hlr : rs.length ≤ 9223372036854775807 := by have := ho.n2; omega
  have hll3 : l3.length ≤ 9223372036854775807 := by omega
  refine Exists.intro rs (Exists.intro l3 (And.intro hxs (And.intro hls3 (And.intro hlr (And.intro hll3 ?_)))))
  intro q7 hq7; cbv
  refine Exists.intro rs (Exists.intro l3 (And.intro hxs (And.intro hls3 (And.intro hlr (And.intro hll3 ?_)))))
  intro q8 hq8; cbv
  have z78 : A.ne q7 q8 = false := by rw [hne, hq7, hq8]; simp
  split <;> first | (rename_i hz; exact Bool.noConfusion (hz.symm.trans z78)) | cbv
  rw [hT]
  obtain ⟨M, hM⟩ : ∃ M, M = m0.length := ⟨_, rfl⟩
  have hvv : A.vlen ms0 = iLen M := by subst hA; rw [hms0, hM]; simp [std]
  refine AGo_upE [1, 2, 4, 12, 13, 14] M (fun _ (_ : Unit) => True) (fun j _ i => [(15, I i)]) (fun j _ => [.own 0 [.vs 5 xs0, I a0, I b0, I c0], .own 0 [U w6], .own 0 [.vs 5 xs, I a, I b, I c], .gone, .gone, .gone, .own 0 [.vs 5 xs0, I a0, I b0, I c0]]) () trivial ⟨rfl, trivial⟩ (.inl rfl) fun j _ i hi hj _ Bk hB => ?_
  have hlt : A.lt i (A.vlen ms0) = decide (j < M) := by rw [hvv, hll, hi, decide_eq_decide]; unfold iLen; omega
  have hadd : ∀ N, j < N → N ≤ 9223372036854775807 → A.add .i64 i 1 = iLen (j + 1) := fun N hj hN => by subst hA; exact add_one hi hj hN
  refine SGo_run hA ⟨[], [], (39, eAlike) :: (40, eSameL) :: (28, eAwake) :: [], []⟩ (.cons eAlike_ok (.cons eSameL_ok (.cons eAwake_ok .nil))) .nil 200 fun T TD hT hTD => ?_
  cbv
  split <;> cbv
  · rename_i hk0
    have hk1 : j < M := by have hz := hlt.symm.trans hk0; simpa using hz
    clear hk0
    obtain ⟨⟨u1, u2, u3, u4, u5⟩, hx⟩ : ∃ x, m0[j]? = some x := ⟨_, List.getElem?_eq_getElem (by omega)⟩
    have hix : A.ix 5 5 ms0 i [I u1, I u2, I u3, I u4, I u5] := by subst hA; exact ix_map hms0 hi hx rfl
    refine Exists.intro _ (And.intro hix ?_); cbv
    refine Exists.intro _ (And.intro hix ?_); cbv
    have hq1 : A.bnot (A.band (A.eq u1 u1) (A.band (A.eq u2 u2) (A.band (A.eq u3 u3) (A.band (A.eq u4 u4) (A.band (A.eq u5 u5) true))))) = false := by simp only [hee, hbd, hnb]; simp
    split
    · rename_i hz; exact Bool.noConfusion (hz.symm.trans hq1)
    cbv
    exact hB () _ _ hk1 trivial ⟨congrArg I (hadd _ hk1 (by omega)), trivial⟩ ⟨rfl, rfl, rfl, rfl, rfl, rfl, trivial⟩ (.inl rfl)
  · refine Exists.intro rs0 (And.intro ⟨hxs0, rfl, rfl, rfl, rfl, by omega⟩ ?_); cbv
    refine Exists.intro l0 (Exists.intro l0 (And.intro hls0 (And.intro hls0 (And.intro hl0 (And.intro hl0 ?_)))))
    intro b1 hb1; cbv
    have hb1 : b1 = true := hb1.trans (decide_eq_true rfl)
    subst hb1
    cbv
    exact h _
end Go.Sas
