/-
Freight: contracts of the small checks.
Freight: what freights are, and which are valid.
Freight: Check.
Freight: the reference's Check.
Freight: big freights, copies, comparisons.
Conditions: none.
-/
import Derived.Test.YthpjckoklnhbcaaYF1
import Derived.Test.YthpjckoklnhbcaaZ6
set_option linter.unusedVariables false
set_option linter.unusedSimpArgs false
namespace Go.Sas
open Go.Proofs
set_option maxRecDepth 100000
theorem p65 (n a b : Int) (H : AHeap) {Kk : AV → AHeap → Prop} (h : Kk (B (decide (a ≤ n ∧ n ≤ b))) H) : ACalls Try.prog 65 [I n, I a, I b] H Kk := by
  refine (fun q => pureC (by rfl) (by rfl) q H h) ?_
  clear h
  intro Kk h
  obtain ⟨A, hA⟩ : ∃ A, A = std := ⟨_, rfl⟩
  refine go65 rfl (SGo_run hA ⟨[], [], [], []⟩ .nil .nil 200 fun T TD hT hTD => ?_)
  cbv
  split <;> cbv
  all_goals
    refine leaf h (congrArg B ?_) rfl
    subst hA
    simp only [std, iLe, decide_eq_true_eq, decide_eq_false_iff_not] at *
    simp [*]
theorem p67 (n a b : Int) (H : AHeap) {Kk : AV → AHeap → Prop} (h : Kk (B (decide (a ≤ n ∧ n ≤ b))) H) : ACalls Try.prog 67 [I n, I a, I b] H Kk := by
  refine (fun q => pureC (by rfl) (by rfl) q H h) ?_
  clear h
  intro Kk h
  obtain ⟨A, hA⟩ : ∃ A, A = std := ⟨_, rfl⟩
  refine go67 rfl (SGo_run hA ⟨[], [], [], []⟩ .nil .nil 200 fun T TD hT hTD => ?_)
  cbv
  split <;> cbv
  all_goals
    refine leaf h (congrArg B ?_) rfl
    subst hA
    simp only [std, iLe, decide_eq_true_eq, decide_eq_false_iff_not] at *
    simp [*]
/-- a span of numbers -/
def faultF (a b lo hi : Int) : Int := if a < lo ∨ hi < a ∨ b < lo ∨ hi < b then 2 else if b < a then 11 else 0
def eIn : List AV → Option ((AV → Prop) → Prop)
  | [.lit (.int .i64 n), .lit (.int .i64 a), .lit (.int .i64 b)] => some fun K => ∀ q, q = decide (a ≤ n ∧ n ≤ b) → K (B q)
  | _ => none
theorem eIn_ok {f : Nat} (hf : ∀ (n a b : Int) (H : AHeap) {Kk : AV → AHeap → Prop}, Kk (B (decide (a ≤ n ∧ n ≤ b))) H → ACalls Try.prog f [I n, I a, I b] H Kk) : ∀ args pt, eIn args = some pt → ∀ (H : AHeap) (Kk : AV → AHeap → Prop), pt (fun r => Kk r H) → ACalls Try.prog f args H Kk := by
  intro args pt h H Kk hk
  unfold eIn at h
  split at h
  · cases h; exact hf _ _ _ H (hk _ rfl)
  · cases h
theorem p64 (a b lo hi : Int) (H : AHeap) {Kk : AV → AHeap → Prop} (h : Kk (I (faultF a b lo hi)) H) : ACalls Try.prog 64 [.agg [I a, I b], I lo, I hi] H Kk := by
  refine pureC (by rfl) (by rfl) (fun Kk h => ?_) H h
  obtain ⟨A, hA⟩ : ∃ A, A = std := ⟨_, rfl⟩
  obtain ⟨W, hW⟩ : ∃ W, W = faultF a b lo hi := ⟨_, rfl⟩
  rw [← hW] at h
  refine go64 rfl (SGo_run hA ⟨[], [], [(65, eIn)], []⟩ (.cons (eIn_ok p65) .nil) .nil 200 fun T TD hT hTD => ?_)
  clear hT hTD
  cbv
  intro q1 hq1
  cbv
  repeat' (first | (intro q2 hq2; cbv) | (split <;> cbv))
  all_goals
    refine leaf h (congrArg I ?_) rfl
    subst hA hW
    simp only [std, iLt] at *
    simp only [faultF]
    by_cases h1 : lo ≤ a ∧ a ≤ hi <;> by_cases h2 : lo ≤ b ∧ b ≤ hi <;> by_cases h3 : b < a <;> simp_all <;> (repeat' split) <;> omega
theorem p66 (a b lo hi : Int) (H : AHeap) {Kk : AV → AHeap → Prop} (h : Kk (I (faultF a b lo hi)) H) : ACalls Try.prog 66 [.agg [I a, I b], I lo, I hi] H Kk := by
  refine pureC (by rfl) (by rfl) (fun Kk h => ?_) H h
  obtain ⟨A, hA⟩ : ∃ A, A = std := ⟨_, rfl⟩
  obtain ⟨W, hW⟩ : ∃ W, W = faultF a b lo hi := ⟨_, rfl⟩
  rw [← hW] at h
  refine go66 rfl (SGo_run hA ⟨[], [], [(67, eIn)], []⟩ (.cons (eIn_ok p67) .nil) .nil 200 fun T TD hT hTD => ?_)
  clear hT hTD
  cbv
  intro q1 hq1
  cbv
  repeat' (first | (intro q2 hq2; cbv) | (split <;> cbv))
  all_goals
    refine leaf h (congrArg I ?_) rfl
    subst hA hW
    simp only [std, iLt] at *
    simp only [faultF]
    by_cases h1 : lo ≤ a ∧ a ≤ hi <;> by_cases h2 : lo ≤ b ∧ b ≤ hi <;> by_cases h3 : b < a <;> simp_all <;> (repeat' split) <;> omega
end Go.Sas
namespace Go.Sas
structure Ord where
  u : Int
  d : Int
  l : Int
  s : Int
/-- a freight: its first and last days, what may go, its orders -/
structure Frt where
  fi : Int × Int
  la : Int × Int
  caps : List (Int × Int)
  ords : List Ord
abbrev orV (o : Ord) : AV := .agg [I o.u, I o.d, I o.l, I o.s]
abbrev frV (a b c d : Int) (xs os : AV) : AV := .agg [I a, I b, I c, I d, xs, os]
/-- the first error of a row -/
def firstE {α : Type} (f : α → Int) : List α → Int
  | [] => 0
  | x :: r => if f x = 0 then firstE f r else f x
def ordE (o : Ord) : Int := if ¬(1 ≤ o.u ∧ o.u ≤ 1000000) ∨ ¬(0 ≤ o.d ∧ o.d ≤ 200) ∨ ¬(0 ≤ o.l ∧ o.l ≤ 1000000) ∨ ¬(0 ≤ o.s ∧ o.s ≤ 1000000) then 2 else if o.s < o.l then 11 else 0
def capE (x : Int × Int) : Int := faultF x.1 x.2 0 1000000
def orsF (os : List Ord) : Int := if os.length = 0 then 6 else if 6 < os.length then 8 else firstE ordE os
def orElse (a b : Int) : Int := if a = 0 then b else a
def checkF (f : Frt) : Int :=
  if f.caps.length = 0 then 6 else if 200 < f.caps.length then 8 else
  orElse (firstE capE f.caps) (orElse (faultF f.fi.1 f.fi.2 0 (f.caps.length - 1)) (orElse (faultF f.la.1 f.la.2 0 (f.caps.length - 1)) (orsF f.ords)))
theorem firstE_drop {α : Type} {f : α → Int} {l : List α} {i : Nat} {x : α} (h : l[i]? = some x) : firstE f (l.drop i) = if f x = 0 then firstE f (l.drop (i + 1)) else f x := by
  rw [drop_cons h]; rfl
end Go.Sas
namespace Go.Sas
open Go.Proofs
set_option maxRecDepth 100000
def eFaultF : List AV → Option ((AV → Prop) → Prop)
  | [.agg [.lit (.int .i64 a), .lit (.int .i64 b)], .lit (.int .i64 lo), .lit (.int .i64 hi)] => some fun K => ∀ q, q = faultF a b lo hi → K (I q)
  | _ => none
theorem eFaultF_ok {f : Nat} (hf : ∀ (a b lo hi : Int) (H : AHeap) {Kk : AV → AHeap → Prop}, Kk (I (faultF a b lo hi)) H → ACalls Try.prog f [.agg [I a, I b], I lo, I hi] H Kk) : ∀ args pt, eFaultF args = some pt → ∀ (H : AHeap) (Kk : AV → AHeap → Prop), pt (fun r => Kk r H) → ACalls Try.prog f args H Kk := by
  intro args pt h H Kk hk
  unfold eFaultF at h
  split at h
  · cases h; exact hf _ _ _ _ H (hk _ rfl)
  · cases h
theorem p19 (a b c d : Int) (cs : List (Int × Int)) (os : List Ord) (hc : cs.length ≤ 9223372036854775807) (ho : os.length ≤ 9223372036854775807) (H : AHeap) {Kk : AV → AHeap → Prop} (h : Kk (I (checkF ⟨(a, b), (c, d), cs, os⟩)) H) :
    ACalls Try.prog 19 [frV a b c d (.vs 2 (cs.map sp)) (.vs 4 (os.map orV))] H Kk := by
  refine pureC (by rfl) (by rfl) (fun Kk h => ?_) H h
  obtain ⟨xs, hxs⟩ : ∃ xs, xs = cs.map sp := ⟨_, rfl⟩
  rw [← hxs]
  obtain ⟨ys, hys⟩ : ∃ ys, ys = os.map orV := ⟨_, rfl⟩
  rw [← hys]
  obtain ⟨A, hA⟩ : ∃ A, A = std := ⟨_, rfl⟩
  obtain ⟨W, hW⟩ : ∃ W, W = checkF ⟨(a, b), (c, d), cs, os⟩ := ⟨_, rfl⟩
  rw [← hW] at h
  have hv : A.vlen xs = iLen cs.length := by subst hA; simp [std, hxs]
  have hw : A.vlen ys = iLen os.length := by subst hA; simp [std, hys]
  refine go19 rfl (SGo_run hA ⟨[], [], [(65, eIn), (64, eFaultF)], []⟩ (.cons (eIn_ok p65) (.cons (eFaultF_ok p64) .nil)) .nil 200 fun T TD hT hTD => ?_)
  cbv
  split <;> cbv
  · refine leaf h (congrArg I ?_) rfl
    rename_i hq; have hq : A.eq (A.vlen xs) 0 = true := hq
    rw [hv] at hq
    subst hA hW
    simp only [std, iEq, iLen, beq_iff_eq] at hq
    simp only [checkF]; rw [if_pos (by omega)]
  rename_i hq; have hq : A.eq (A.vlen xs) 0 = false := hq
  split <;> cbv
  · refine leaf h (congrArg I ?_) rfl
    rename_i hr; have hr : A.lt 200 (A.vlen xs) = true := hr
    rw [hv] at hq hr
    subst hA hW
    simp only [std, iEq, iLt, iLen, beq_eq_false_iff_ne, ne_eq, decide_eq_true_eq] at hq hr
    simp only [checkF]; rw [if_neg (by omega), if_pos (by omega)]
  rename_i hr; have hr : A.lt 200 (A.vlen xs) = false := hr
  obtain ⟨V4, hV4⟩ : ∃ V, V = orsF os := ⟨_, rfl⟩
  obtain ⟨V3, hV3⟩ : ∃ V, V = orElse (faultF c d 0 (A.sub .i64 (A.vlen xs) 1)) V4 := ⟨_, rfl⟩
  obtain ⟨V2, hV2⟩ : ∃ V, V = orElse (faultF a b 0 (A.sub .i64 (A.vlen xs) 1)) V3 := ⟨_, rfl⟩
  have hW : W = orElse (firstE capE cs) V2 := by
    have hs : A.sub .i64 (iLen cs.length) 1 = (cs.length : Int) - 1 := by subst hA; exact iSub_id (by simp only [iLen]; omega) (by simp only [iLen]; omega)
    rw [hv] at hq hr hV3 hV2
    rw [hV2, hV3, hV4, hs]
    subst hA hW
    simp only [std, iEq, iLt, iLen, beq_eq_false_iff_ne, ne_eq, decide_eq_false_iff_not] at hq hr
    simp only [checkF]; rw [if_neg (by omega), if_neg (by omega)]
  clear hq hr
  rw [hT]
  refine AGo_up cs.length (fun j => W = orElse (firstE capE (cs.drop j)) V2) (fun _ i => [(0, frV a b c d (.vs 2 xs) (.vs 4 ys)), (1, .mp 0 0 0), (2, I 0), (22, .vs 2 xs), (23, I (A.vlen xs)), (24, I i)]) (fun _ => [.own 0 [I a, I b, I c, I d, .vs 2 xs, .vs 4 ys]]) hW ⟨rfl, rfl, rfl, rfl, rfl, rfl, trivial⟩ (.inl rfl) fun j i hi hj hP Bk hB => ?_
  have hlt : A.lt i (A.vlen xs) = decide (j < cs.length) := by subst hA; exact lt_len (by simp [hxs]) hi
  have hadd : ∀ N, j < N → N ≤ 9223372036854775807 → A.add .i64 i 1 = iLen (j + 1) := fun N hj hN => by subst hA; exact add_one hi hj hN
  refine SGo_run hA ⟨[], [], [(65, eIn), (64, eFaultF)], []⟩ (.cons (eIn_ok p65) (.cons (eFaultF_ok p64) .nil)) .nil 200 fun T TD hT hTD => ?_
  cbv
  split <;> cbv
  · rename_i hk1
    have hk1 : j < cs.length := by have := hlt.symm.trans hk1; simpa using this
    obtain ⟨⟨x, y⟩, hx⟩ : ∃ x, cs[j]? = some x := ⟨_, List.getElem?_eq_getElem hk1⟩
    have hix : A.ix 2 2 xs i [I x, I y] := by subst hA; exact ix_map hxs hi hx rfl
    rw [firstE_drop hx] at hP
    refine Exists.intro _ (And.intro hix ?_); cbv
    intro q hfq
    cbv
    split <;> cbv
    · rename_i hn; have hn : A.ne q 0 = true := hn
      refine leaf h (congrArg I ?_) rfl
      subst hA
      simp only [std, iNe, bne_iff_ne, ne_eq] at hn
      rw [hP, hfq]
      rw [hfq] at hn
      have hE : capE (x, y) ≠ 0 := hn
      rw [if_neg hE]; unfold orElse; rw [if_neg hE]; rfl
    · rename_i hn; have hn : A.ne q 0 = false := hn
      refine hB _ _ hk1 ?_ ⟨rfl, rfl, rfl, rfl, rfl, congrArg I (hadd _ hk1 (by omega)), trivial⟩ (.inr ⟨⟨_, rfl⟩, Nat.zero_le _, by simp [ltG, AV.lt, AV.ltL], by simp [ltH, AObj.lt, AV.lt, AV.ltL]⟩)
      subst hA
      simp only [std, iNe, bne_eq_false_iff_eq] at hn
      rw [hP]
      have h0 : capE (x, y) = 0 := hfq.symm.trans hn
      rw [if_pos h0]
  · rename_i hk1
    have hk1 : ¬ j < cs.length := by have := hlt.symm.trans hk1; simpa using this
    have hW : W = V2 := by rw [hP, List.drop_eq_nil_of_le (by omega)]; rfl
    clear hP hB hlt hadd hk1
    rw [hT]
    refine AGo_up 2 (fun j => W = match j with | 0 => V2 | 1 => V3 | _ => V4) (fun _ i => [(0, frV a b c d (.vs 2 xs) (.vs 4 ys)), (1, .mp 0 0 0), (2, I 0), (38, .agg [I a, I b, I c, I d]), (39, I i)]) (fun _ => [.own 0 [I a, I b, I c, I d, .vs 2 xs, .vs 4 ys]]) hW ⟨rfl, rfl, rfl, rfl, rfl, trivial⟩ (.inl rfl) fun j i hi hj hP Bk hB => ?_
    have hlt : A.lt i 2 = decide (j < 2) := by subst hA hi; simp only [std, iLt, iLen, decide_eq_decide]; omega
    have hadd : j < 2 → A.add .i64 i 1 = iLen (j + 1) := fun hj => by subst hA; exact add_one hi hj (by omega)
    have hcase : j < 2 → ∃ p r Vn, A.aix 2 2 (some 2) [I a, I b, I c, I d] i (.agg [I p, I r]) ∧ W = orElse (faultF p r 0 (A.sub .i64 (A.vlen xs) 1)) Vn ∧ (W = Vn → W = match j + 1 with | 0 => V2 | 1 => V3 | _ => V4) := by
      intro h2
      have : j = 0 ∨ j = 1 := by omega
      rcases this with rfl | rfl
      · exact ⟨a, b, V3, by subst hA hi; exact ⟨by decide, by decide, rfl⟩, hP.trans hV2, fun h => h⟩
      · exact ⟨c, d, V4, by subst hA hi; exact ⟨by decide, by decide, rfl⟩, hP.trans hV3, fun h => h⟩
    refine SGo_run hA ⟨[], [], [(65, eIn), (64, eFaultF)], []⟩ (.cons (eIn_ok p65) (.cons (eFaultF_ok p64) .nil)) .nil 200 fun T TD hT hTD => ?_
    cbv
    split <;> cbv
    · rename_i hk1
      have hk1 : j < 2 := by have := hlt.symm.trans hk1; simpa using this
      obtain ⟨p, r, Vn, hix, hPn, hnx⟩ := hcase hk1
      refine Exists.intro _ (And.intro hix ?_); cbv
      intro q hfq
      cbv
      split <;> cbv
      · rename_i hn; have hn : A.ne q 0 = true := hn
        refine leaf h (congrArg I ?_) rfl
        rw [hPn, ← hfq]
        subst hA
        simp only [std, iNe, bne_iff_ne, ne_eq] at hn
        unfold orElse; rw [if_neg hn]
      · rename_i hn; have hn : A.ne q 0 = false := hn
        refine hB _ _ hk1 (hnx ?_) ⟨rfl, rfl, rfl, rfl, congrArg I (hadd hk1), trivial⟩ (.inr ⟨⟨_, rfl⟩, Nat.zero_le _, by simp [ltG, AV.lt, AV.ltL], by simp [ltH, AObj.lt, AV.lt, AV.ltL]⟩)
        rw [hPn, ← hfq]
        subst hA
        simp only [std, iNe, bne_eq_false_iff_eq] at hn
        unfold orElse; rw [if_pos hn]
    · rename_i hk1
      have hk1 : ¬ j < 2 := by have := hlt.symm.trans hk1; simpa using this
      have hW : W = V4 := by
        have : j = 2 := by omega
        subst this; exact hP
      clear hP hB hlt hadd hk1 hcase
      split <;> cbv
      · refine leaf h (congrArg I ?_) rfl
        rename_i hq1; have hq1 : A.eq (A.vlen ys) 0 = true := hq1
        rw [hw] at hq1
        rw [hW, hV4]
        subst hA
        simp only [std, iEq, iLen, beq_iff_eq] at hq1
        simp only [orsF]; rw [if_pos (by omega)]
      rename_i hq1; have hq1 : A.eq (A.vlen ys) 0 = false := hq1
      split <;> cbv
      · refine leaf h (congrArg I ?_) rfl
        rename_i hr1; have hr1 : A.lt 6 (A.vlen ys) = true := hr1
        rw [hw] at hq1 hr1
        rw [hW, hV4]
        subst hA
        simp only [std, iEq, iLt, iLen, beq_eq_false_iff_ne, ne_eq, decide_eq_true_eq] at hq1 hr1
        simp only [orsF]; rw [if_neg (by omega), if_pos (by omega)]
      rename_i hr1; have hr1 : A.lt 6 (A.vlen ys) = false := hr1
      have hW : W = firstE ordE os := by
        rw [hw] at hq1 hr1
        rw [hW, hV4]
        subst hA
        simp only [std, iEq, iLt, iLen, beq_eq_false_iff_ne, ne_eq, decide_eq_false_iff_not] at hq1 hr1
        simp only [orsF]; rw [if_neg (by omega), if_neg (by omega)]
      clear hq1 hr1
      rw [hT]
      refine AGo_up os.length (fun j => W = firstE ordE (os.drop j)) (fun _ i => [(0, frV a b c d (.vs 2 xs) (.vs 4 ys)), (1, .mp 0 0 0), (2, I 0), (63, .vs 4 ys), (64, I (A.vlen ys)), (65, I i)]) (fun _ => [.own 0 [I a, I b, I c, I d, .vs 2 xs, .vs 4 ys]]) hW ⟨rfl, rfl, rfl, rfl, rfl, rfl, trivial⟩ (.inl rfl) fun j i hi hj hP Bk hB => ?_
      have hlt : A.lt i (A.vlen ys) = decide (j < os.length) := by subst hA; exact lt_len (by simp [hys]) hi
      have hadd : ∀ N, j < N → N ≤ 9223372036854775807 → A.add .i64 i 1 = iLen (j + 1) := fun N hj hN => by subst hA; exact add_one hi hj hN
      refine SGo_run hA ⟨[], [], [(65, eIn), (64, eFaultF)], []⟩ (.cons (eIn_ok p65) (.cons (eFaultF_ok p64) .nil)) .nil 200 fun T TD hT hTD => ?_
      cbv
      split <;> cbv
      · rename_i hk1
        have hk1 : j < os.length := by have := hlt.symm.trans hk1; simpa using this
        obtain ⟨⟨ou, od, ol, ol2⟩, hx⟩ : ∃ x, os[j]? = some x := ⟨_, List.getElem?_eq_getElem hk1⟩
        have hix : A.ix 4 4 ys i [I ou, I od, I ol, I ol2] := by subst hA; exact ix_map hys hi hx rfl
        rw [firstE_drop hx] at hP
        have hR : ∀ e, e ≠ 0 → ordE ⟨ou, od, ol, ol2⟩ = e → W = e := fun e he h => by rw [hP, h, if_neg he]
        have hN : ordE ⟨ou, od, ol, ol2⟩ = 0 → W = firstE ordE (os.drop (j + 1)) := fun h => by rw [hP, if_pos h]
        refine Exists.intro _ (And.intro hix ?_); cbv
        repeat' (first | (intro q hfq; cbv) | (split <;> cbv))
        all_goals first
          | refine hB _ _ hk1 (hN ?_) ⟨rfl, rfl, rfl, rfl, rfl, congrArg I (hadd _ hk1 (by omega)), trivial⟩ (.inr ⟨⟨_, rfl⟩, Nat.zero_le _, by simp [ltG, AV.lt, AV.ltL], by simp [ltH, AObj.lt, AV.lt, AV.ltL]⟩)
          | refine leaf h (congrArg I (hR _ (by decide) ?_)) rfl
        all_goals
          clear hR hN hP hix hv hw hW hlt hadd hB hx
          subst hA
          simp only [std, iLt] at *
          simp only [ordE]
          by_cases u1 : 1 ≤ ou ∧ ou ≤ 1000000 <;> by_cases u2 : 0 ≤ od ∧ od ≤ 200 <;> by_cases u3 : 0 ≤ ol ∧ ol ≤ 1000000 <;> by_cases u4 : 0 ≤ ol2 ∧ ol2 ≤ 1000000 <;> by_cases u5 : ol2 < ol <;> simp_all
      · refine leaf h (congrArg I ?_) rfl
        rename_i hk1
        have hk1 : ¬ j < os.length := by have := hlt.symm.trans hk1; simpa using this
        rw [hP, List.drop_eq_nil_of_le (by omega)]; rfl
end Go.Sas
namespace Go.Sas
open Go.Proofs
set_option maxRecDepth 100000
theorem p20 (a b c d : Int) (cs : List (Int × Int)) (os : List Ord) (hc : cs.length ≤ 9223372036854775807) (ho : os.length ≤ 9223372036854775807) (H : AHeap) {Kk : AV → AHeap → Prop} (h : Kk (I (checkF ⟨(a, b), (c, d), cs, os⟩)) H) :
    ACalls Try.prog 20 [frV a b c d (.vs 2 (cs.map sp)) (.vs 4 (os.map orV))] H Kk := by
  refine pureC (by rfl) (by rfl) (fun Kk h => ?_) H h
  obtain ⟨xs, hxs⟩ : ∃ xs, xs = cs.map sp := ⟨_, rfl⟩
  rw [← hxs]
  obtain ⟨ys, hys⟩ : ∃ ys, ys = os.map orV := ⟨_, rfl⟩
  rw [← hys]
  obtain ⟨A, hA⟩ : ∃ A, A = std := ⟨_, rfl⟩
  obtain ⟨W, hW⟩ : ∃ W, W = checkF ⟨(a, b), (c, d), cs, os⟩ := ⟨_, rfl⟩
  rw [← hW] at h
  have hv : A.vlen xs = iLen cs.length := by subst hA; simp [std, hxs]
  have hw : A.vlen ys = iLen os.length := by subst hA; simp [std, hys]
  refine go20 rfl (SGo_run hA ⟨[], [], [(67, eIn), (66, eFaultF)], []⟩ (.cons (eIn_ok p67) (.cons (eFaultF_ok p66) .nil)) .nil 200 fun T TD hT hTD => ?_)
  cbv
  split <;> cbv
  · refine leaf h (congrArg I ?_) rfl
    rename_i hq; have hq : A.eq (A.vlen xs) 0 = true := hq
    rw [hv] at hq
    subst hA hW
    simp only [std, iEq, iLen, beq_iff_eq] at hq
    simp only [checkF]; rw [if_pos (by omega)]
  rename_i hq; have hq : A.eq (A.vlen xs) 0 = false := hq
  split <;> cbv
  · refine leaf h (congrArg I ?_) rfl
    rename_i hr; have hr : A.lt 200 (A.vlen xs) = true := hr
    rw [hv] at hq hr
    subst hA hW
    simp only [std, iEq, iLt, iLen, beq_eq_false_iff_ne, ne_eq, decide_eq_true_eq] at hq hr
    simp only [checkF]; rw [if_neg (by omega), if_pos (by omega)]
  rename_i hr; have hr : A.lt 200 (A.vlen xs) = false := hr
  obtain ⟨V4, hV4⟩ : ∃ V, V = orsF os := ⟨_, rfl⟩
  obtain ⟨V3, hV3⟩ : ∃ V, V = orElse (faultF c d 0 (A.sub .i64 (A.vlen xs) 1)) V4 := ⟨_, rfl⟩
  obtain ⟨V2, hV2⟩ : ∃ V, V = orElse (faultF a b 0 (A.sub .i64 (A.vlen xs) 1)) V3 := ⟨_, rfl⟩
  have hW : W = orElse (firstE capE cs) V2 := by
    have hs : A.sub .i64 (iLen cs.length) 1 = (cs.length : Int) - 1 := by subst hA; exact iSub_id (by simp only [iLen]; omega) (by simp only [iLen]; omega)
    rw [hv] at hq hr hV3 hV2
    rw [hV2, hV3, hV4, hs]
    subst hA hW
    simp only [std, iEq, iLt, iLen, beq_eq_false_iff_ne, ne_eq, decide_eq_false_iff_not] at hq hr
    simp only [checkF]; rw [if_neg (by omega), if_neg (by omega)]
  clear hq hr
  rw [hT]
  refine AGo_up cs.length (fun j => W = orElse (firstE capE (cs.drop j)) V2) (fun _ i => [(0, frV a b c d (.vs 2 xs) (.vs 4 ys)), (1, .mp 0 0 0), (2, I 0), (3, I i)]) (fun _ => [.own 0 [I a, I b, I c, I d, .vs 2 xs, .vs 4 ys]]) hW ⟨rfl, rfl, rfl, rfl, trivial⟩ (.inl rfl) fun j i hi hj hP Bk hB => ?_
  have hlt : A.lt i (A.vlen xs) = decide (j < cs.length) := by subst hA; exact lt_len (by simp [hxs]) hi
  have hadd : ∀ N, j < N → N ≤ 9223372036854775807 → A.add .i64 i 1 = iLen (j + 1) := fun N hj hN => by subst hA; exact add_one hi hj hN
  refine SGo_run hA ⟨[], [], [(67, eIn), (66, eFaultF)], []⟩ (.cons (eIn_ok p67) (.cons (eFaultF_ok p66) .nil)) .nil 200 fun T TD hT hTD => ?_
  cbv
  split <;> cbv
  · rename_i hk1
    have hk1 : j < cs.length := by have := hlt.symm.trans hk1; simpa using this
    obtain ⟨⟨x, y⟩, hx⟩ : ∃ x, cs[j]? = some x := ⟨_, List.getElem?_eq_getElem hk1⟩
    have hix : A.ix 2 2 xs i [I x, I y] := by subst hA; exact ix_map hxs hi hx rfl
    rw [firstE_drop hx] at hP
    refine Exists.intro _ (And.intro hix ?_); cbv
    intro q hfq
    cbv
    split <;> cbv
    · rename_i hn; have hn : A.ne q 0 = true := hn
      refine leaf h (congrArg I ?_) rfl
      subst hA
      simp only [std, iNe, bne_iff_ne, ne_eq] at hn
      rw [hP, hfq]
      rw [hfq] at hn
      have hE : capE (x, y) ≠ 0 := hn
      rw [if_neg hE]; unfold orElse; rw [if_neg hE]; rfl
    · rename_i hn; have hn : A.ne q 0 = false := hn
      refine hB _ _ hk1 ?_ ⟨rfl, rfl, rfl, congrArg I (hadd _ hk1 (by omega)), trivial⟩ (.inl rfl)
      subst hA
      simp only [std, iNe, bne_eq_false_iff_eq] at hn
      rw [hP]
      have h0 : capE (x, y) = 0 := hfq.symm.trans hn
      rw [if_pos h0]
  · rename_i hk1
    have hk1 : ¬ j < cs.length := by have := hlt.symm.trans hk1; simpa using this
    have hW : W = V2 := by rw [hP, List.drop_eq_nil_of_le (by omega)]; rfl
    clear hP hB hlt hadd hk1
    intro q1 hf1
    cbv
    split <;> cbv
    · rename_i hn; have hn : A.ne q1 0 = true := hn
      refine leaf h (congrArg I ?_) rfl
      rw [hW, hV2, ← hf1]
      subst hA
      simp only [std, iNe, bne_iff_ne, ne_eq] at hn
      unfold orElse; rw [if_neg hn]
    rename_i hn1; have hn1 : A.ne q1 0 = false := hn1
    intro q2 hf2
    cbv
    split <;> cbv
    · rename_i hn; have hn : A.ne q2 0 = true := hn
      refine leaf h (congrArg I ?_) rfl
      rw [hW, hV2, ← hf1, hV3, ← hf2]
      subst hA
      simp only [std, iNe, bne_iff_ne, ne_eq, bne_eq_false_iff_eq] at hn hn1
      unfold orElse; rw [if_pos hn1, if_neg hn]
    · rename_i hn2; have hn2 : A.ne q2 0 = false := hn2
      have hW : W = V4 := by
        rw [hW, hV2, ← hf1, hV3, ← hf2]
        subst hA
        simp only [std, iNe, bne_eq_false_iff_eq] at hn2 hn1
        unfold orElse; rw [if_pos hn1, if_pos hn2]
      clear hn1 hn2
      split <;> cbv
      · refine leaf h (congrArg I ?_) rfl
        rename_i hq1; have hq1 : A.eq (A.vlen ys) 0 = true := hq1
        rw [hw] at hq1
        rw [hW, hV4]
        subst hA
        simp only [std, iEq, iLen, beq_iff_eq] at hq1
        simp only [orsF]; rw [if_pos (by omega)]
      rename_i hq1; have hq1 : A.eq (A.vlen ys) 0 = false := hq1
      split <;> cbv
      · refine leaf h (congrArg I ?_) rfl
        rename_i hr1; have hr1 : A.lt 6 (A.vlen ys) = true := hr1
        rw [hw] at hq1 hr1
        rw [hW, hV4]
        subst hA
        simp only [std, iEq, iLt, iLen, beq_eq_false_iff_ne, ne_eq, decide_eq_true_eq] at hq1 hr1
        simp only [orsF]; rw [if_neg (by omega), if_pos (by omega)]
      rename_i hr1; have hr1 : A.lt 6 (A.vlen ys) = false := hr1
      have hW : W = firstE ordE os := by
        rw [hw] at hq1 hr1
        rw [hW, hV4]
        subst hA
        simp only [std, iEq, iLt, iLen, beq_eq_false_iff_ne, ne_eq, decide_eq_false_iff_not] at hq1 hr1
        simp only [orsF]; rw [if_neg (by omega), if_neg (by omega)]
      clear hq1 hr1
      rw [hT]
      refine AGo_up os.length (fun j => W = firstE ordE (os.drop j)) (fun _ i => [(0, frV a b c d (.vs 2 xs) (.vs 4 ys)), (1, .mp 0 0 0), (2, I 0), (7, I i)]) (fun _ => [.own 0 [I a, I b, I c, I d, .vs 2 xs, .vs 4 ys]]) hW ⟨rfl, rfl, rfl, rfl, trivial⟩ (.inl rfl) fun j i hi hj hP Bk hB => ?_
      have hlt : A.lt i (A.vlen ys) = decide (j < os.length) := by subst hA; exact lt_len (by simp [hys]) hi
      have hadd : ∀ N, j < N → N ≤ 9223372036854775807 → A.add .i64 i 1 = iLen (j + 1) := fun N hj hN => by subst hA; exact add_one hi hj hN
      refine SGo_run hA ⟨[], [], [(67, eIn), (66, eFaultF)], []⟩ (.cons (eIn_ok p67) (.cons (eFaultF_ok p66) .nil)) .nil 200 fun T TD hT hTD => ?_
      cbv
      split <;> cbv
      · rename_i hk1
        have hk1 : j < os.length := by have := hlt.symm.trans hk1; simpa using this
        obtain ⟨⟨ou, od, ol, ol2⟩, hx⟩ : ∃ x, os[j]? = some x := ⟨_, List.getElem?_eq_getElem hk1⟩
        have hix : A.ix 4 4 ys i [I ou, I od, I ol, I ol2] := by subst hA; exact ix_map hys hi hx rfl
        rw [firstE_drop hx] at hP
        have hR : ∀ e, e ≠ 0 → ordE ⟨ou, od, ol, ol2⟩ = e → W = e := fun e he h => by rw [hP, h, if_neg he]
        have hN : ordE ⟨ou, od, ol, ol2⟩ = 0 → W = firstE ordE (os.drop (j + 1)) := fun h => by rw [hP, if_pos h]
        refine Exists.intro _ (And.intro hix ?_); cbv
        repeat' (first | (intro q hfq; cbv) | (split <;> cbv))
        all_goals first
          | refine hB _ _ hk1 (hN ?_) ⟨rfl, rfl, rfl, congrArg I (hadd _ hk1 (by omega)), trivial⟩ (.inr ⟨⟨_, rfl⟩, Nat.zero_le _, by simp [ltG, AV.lt, AV.ltL], by simp [ltH, AObj.lt, AV.lt, AV.ltL]⟩)
          | refine leaf h (congrArg I (hR _ (by decide) ?_)) rfl
        all_goals
          clear hR hN hP hix hv hw hW hlt hadd hB hx
          subst hA
          simp only [std, iLt] at *
          simp only [ordE]
          by_cases u1 : 1 ≤ ou ∧ ou ≤ 1000000 <;> by_cases u2 : 0 ≤ od ∧ od ≤ 200 <;> by_cases u3 : 0 ≤ ol ∧ ol ≤ 1000000 <;> by_cases u4 : 0 ≤ ol2 ∧ ol2 ≤ 1000000 <;> by_cases u5 : ol2 < ol <;> simp_all
      · refine leaf h (congrArg I ?_) rfl
        rename_i hk1
        have hk1 : ¬ j < os.length := by have := hlt.symm.trans hk1; simpa using this
        rw [hP, List.drop_eq_nil_of_le (by omega)]; rfl
end Go.Sas
namespace Go.Sas
open Go.Proofs
set_option maxRecDepth 100000
def bigF (n k : Nat) : Bool := decide ((60 < n ∧ n ≤ 200) ∨ 209 < n ∨ 15 < k)
theorem p16 (a b c d : Int) (cs : List (Int × Int)) (os : List Ord) (H : AHeap) {Kk : AV → AHeap → Prop} (h : Kk (B (bigF cs.length os.length)) H) :
    ACalls Try.prog 16 [frV a b c d (.vs 2 (cs.map sp)) (.vs 4 (os.map orV))] H Kk := by
  refine pureC (by rfl) (by rfl) (fun Kk h => ?_) H h
  obtain ⟨xs, hxs⟩ : ∃ xs, xs = cs.map sp := ⟨_, rfl⟩
  rw [← hxs]
  obtain ⟨ys, hys⟩ : ∃ ys, ys = os.map orV := ⟨_, rfl⟩
  rw [← hys]
  obtain ⟨A, hA⟩ : ∃ A, A = std := ⟨_, rfl⟩
  obtain ⟨W, hW⟩ : ∃ W, W = bigF cs.length os.length := ⟨_, rfl⟩
  rw [← hW] at h
  have hv : A.vlen xs = iLen cs.length := by subst hA; simp [std, hxs]
  have hw : A.vlen ys = iLen os.length := by subst hA; simp [std, hys]
  refine go16 rfl (SGo_run hA ⟨[], [], [], []⟩ .nil .nil 200 fun T TD hT hTD => ?_)
  cbv
  repeat' (split <;> cbv)
  all_goals
    refine leaf h (congrArg B (Bool.eq_iff_iff.2 ?_)) rfl
    subst hA hW
    simp only [bigF]
    simp only [std, iLt, iLe, iEq, iNe, iLen, bne_iff_ne, ne_eq, beq_iff_eq, Bool.and_eq_true, Bool.or_eq_true, Bool.or_eq_false_iff, Bool.and_eq_false_iff, decide_eq_true_eq, decide_eq_false_iff_not, bne_eq_false_iff_eq, beq_eq_false_iff_ne, Bool.not_eq_true', Bool.not_eq_false', iff_true, iff_false, true_iff, false_iff, Bool.false_eq_true, Bool.true_eq_false, not_false_eq_true, not_true_eq_false] at *
    omega
end Go.Sas
