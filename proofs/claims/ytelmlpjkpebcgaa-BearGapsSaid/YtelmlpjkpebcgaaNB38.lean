/-
The law of the least gap of a row answers true.
Conditions: none.
-/
import Derived.Test.YtelmlpjkpebcgaaM12
import Derived.Test.YtelmlpjkpebcgaaM18
import Derived.Test.YtelmlpjkpebcgaaNT6
set_option linter.unusedVariables false
set_option linter.unusedSimpArgs false
namespace Go.Sas
open Go.Proofs
set_option maxRecDepth 100000
set_option maxHeartbeats 8000000 in
theorem core14 (p : Plate) {a b : Int} {xs ec : List AV} {ne ed gr lo hi sh wi : Int} (hp : PlateIs p a b xs ec ne ed gr lo hi sh wi) (h1 : Big p.shares) (h2 : Big p.creep) (th : Int) (ws : List (Int × Int)) (nums : List Int) (hw1 : BigL ws) (hn1 : BigL nums) :
    ACalls Try.prog 14 [plV a b (.vs 2 xs) (.vs 2 ec) ne ed gr lo hi sh wi, I th, .vs 2 (ws.map sp), .vs 1 (nums.map I)] [] fun r _ => r = B true := by
  obtain ⟨Kk, hKk⟩ : ∃ K : AV → AHeap → Prop, K = fun r _ => r = B true := ⟨_, rfl⟩
  rw [← hKk]
  have hk : ∀ H, Kk (B true) H := fun H => by rw [hKk]
  clear hKk
  obtain ⟨xn, hxn⟩ : ∃ ys, ys = nums.map I := ⟨_, rfl⟩
  obtain ⟨xw, hxw⟩ : ∃ ys, ys = ws.map sp := ⟨_, rfl⟩
  rw [← hxn, ← hxw]
  obtain ⟨A, hA⟩ : ∃ A, A = std := ⟨_, rfl⟩
  refine go14 rfl (SGo_run hA ⟨[], [1], (18, eBig) :: (19, eTrue) :: [], (62, eDraw sRow) :: edl⟩ (.cons eBig_ok (.cons eTrue_ok .nil)) (.cons (eDraw_ok sRow_ok) edl_ok) 200 fun T TD hT hTD => ?_)
  cbv
  intro q
  cbv
  repeat' (first | exact hk _ | (split <;> cbv))
  all_goals
    refine Exists.intro nums (And.intro ⟨hxn, hn1⟩ ?_)
    intro w1
    cbv
    refine Exists.intro () (And.intro trivial ?_)
    rintro w2 _ ⟨p2, a2, b2, xs2, ec2, ne2, ed2, gr2, lo2, hi2, sh2, wi2, rfl, hp2, hv2⟩
    cbv
    have hpl2 := checkS_ok hv2
    have hb21 : Big p2.shares := by have := hpl2.sh.len; unfold Big; omega
    have hb22 : Big p2.creep := by have := hpl2.cr.len; unfold Big; omega
    refine Exists.intro () (And.intro (by omega) ?_)
    rintro w3 _ ⟨row, xr, rfl, hxr, hrl, hrb⟩
    have hrB : BigL row := by unfold BigL; unfold iLen at hrl; omega
    cbv
    refine Exists.intro () (And.intro (by omega) ?_)
    rintro w4 _ ⟨t0, rfl, ht01, ht02⟩
    cbv
    try refine And.intro (by subst hA; simp [std, Keep, SubH, ResK]) ?_
    rw [hT]
    refine AGo_up 3 (fun _ => True) (fun _ i => [(8, B false), (12, .vs 11 [plV a b (.vs 2 xs) (.vs 2 ec) ne ed gr lo hi sh wi, plV a2 b2 (.vs 2 xs2) (.vs 2 ec2) ne2 ed2 gr2 lo2 hi2 sh2 wi2, plV a2 b2 (.vs 2 xs2) (.vs 2 ec2) ne2 ed2 gr2 lo2 hi2 sh2 wi2]),
        (13, .vs 1 [I th, I t0, I th]), (14, .vs 1 [.vs 2 xw, .vs 2 xr, .vs 2 xr]), (15, I i)]) (fun _ => []) trivial ⟨rfl, rfl, rfl, rfl, rfl, trivial⟩ (.inr ⟨⟨_, rfl⟩, Nat.le_refl _, by simp [ltG, AV.lt, AV.ltL], trivial⟩) fun j i hij hj _ Bk hB => ?_
    obtain ⟨xp, hxp⟩ : ∃ z, z = [plV a b (.vs 2 xs) (.vs 2 ec) ne ed gr lo hi sh wi, plV a2 b2 (.vs 2 xs2) (.vs 2 ec2) ne2 ed2 gr2 lo2 hi2 sh2 wi2, plV a2 b2 (.vs 2 xs2) (.vs 2 ec2) ne2 ed2 gr2 lo2 hi2 sh2 wi2] := ⟨_, rfl⟩
    obtain ⟨xt, hxt⟩ : ∃ z, z = [I th, I t0, I th] := ⟨_, rfl⟩
    obtain ⟨xq, hxq⟩ : ∃ z, z = [AV.vs 2 xw, .vs 2 xr, .vs 2 xr] := ⟨_, rfl⟩
    rw [← hxp, ← hxt, ← hxq]
    have hlt : A.lt i (A.vlen xp) = decide (j < 3) := by rw [hxp]; subst hA hij; simp only [std, iLt, iLen, List.length_cons, List.length_nil]; rw [decide_eq_decide]; omega
    have hadd : j < 3 → A.add .i64 i 1 = iLen (j + 1) := fun hj => by subst hA; exact add_one hij hj (by omega)
    have hne : ∀ x, A.ne x x = false := by subst hA; intro x; simp [std, iNe]
    refine SGo_run hA ⟨[], [], (19, eTrue) :: (63, eGapA) :: (64, eGapA) :: [], []⟩ (.cons eTrue_ok (.cons (eGapA_ok p63) (.cons (eGapA_ok p64) .nil))) .nil 200 fun T TD hT hTD => ?_
    cbv
    split <;> cbv
    · rename_i hk1
      have hk1 : j < 3 := by have := hlt.symm.trans hk1; simpa using this
      obtain ⟨pj, aj, bj, xsj, ecj, nej, edj, grj, loj, hij', shj, wij, tj, wsj, xwj, hixP, hpj, hpj1, hpj2, hixT, hixW, hwj, hwjB⟩ : ∃ pj aj bj xsj ecj nej edj grj loj hij shj wij tj wsj xwj, A.ix 11 11 xp i [I aj, I bj, .vs 2 xsj, .vs 2 ecj, I nej, I edj, I grj, I loj, I hij, I shj, I wij] ∧
          PlateIs pj aj bj xsj ecj nej edj grj loj hij shj wij ∧ Big pj.shares ∧ Big pj.creep ∧ A.ix 1 1 xt i [I tj] ∧ A.ix 1 1 xq i [.vs 2 xwj] ∧ xwj = wsj.map sp ∧ BigL wsj := by
        subst hA hij hxp hxt hxq
        rcases (by omega : j = 0 ∨ j = 1 ∨ j = 2) with rfl | rfl | rfl
        · exact ⟨p, a, b, xs, ec, ne, ed, gr, lo, hi, sh, wi, th, ws, xw, ⟨rfl, by simp [iLen], _, rfl, rfl⟩, hp, h1, h2, ⟨rfl, by simp [iLen], _, rfl, rfl⟩, ⟨rfl, by simp [iLen], _, rfl, rfl⟩, hxw, hw1⟩
        · exact ⟨p2, a2, b2, xs2, ec2, ne2, ed2, gr2, lo2, hi2, sh2, wi2, t0, row, xr, ⟨rfl, by simp [iLen], _, rfl, rfl⟩, hp2, hb21, hb22, ⟨rfl, by simp [iLen], _, rfl, rfl⟩, ⟨rfl, by simp [iLen], _, rfl, rfl⟩, hxr, hrB⟩
        · exact ⟨p2, a2, b2, xs2, ec2, ne2, ed2, gr2, lo2, hi2, sh2, wi2, th, row, xr, ⟨rfl, by simp [iLen], _, rfl, rfl⟩, hp2, hb21, hb22, ⟨rfl, by simp [iLen], _, rfl, rfl⟩, ⟨rfl, by simp [iLen], _, rfl, rfl⟩, hxr, hrB⟩
      refine Exists.intro _ (And.intro hixP ?_); cbv
      refine Exists.intro _ (And.intro hixT ?_); cbv
      refine Exists.intro _ (And.intro hixW ?_); cbv
      refine Exists.intro pj (Exists.intro wsj (And.intro hpj (And.intro hpj1 (And.intro hpj2 (And.intro ⟨hwj, hwjB⟩ ?_)))))
      rintro x1 y1 r1; cbv
      refine Exists.intro _ (And.intro hixP ?_); cbv
      refine Exists.intro _ (And.intro hixT ?_); cbv
      refine Exists.intro _ (And.intro hixW ?_); cbv
      refine Exists.intro pj (Exists.intro wsj (And.intro hpj (And.intro hpj1 (And.intro hpj2 (And.intro ⟨hwj, hwjB⟩ ?_)))))
      rintro x2 y2 r2
      obtain ⟨rfl, rfl⟩ := Prod.mk.inj (r2.trans r1.symm)
      cbv
      repeat' (split <;> first | (rename_i hq; exact Bool.noConfusion (hq.symm.trans (hne _))) | cbv)
      exact hB _ _ hk1 trivial ⟨rfl, congrArg (AV.vs 11) hxp, congrArg (AV.vs 1) hxt, congrArg (AV.vs 1) hxq, congrArg I (hadd hk1), trivial⟩ (.inl rfl)
    · exact hk _
end Go.Sas
