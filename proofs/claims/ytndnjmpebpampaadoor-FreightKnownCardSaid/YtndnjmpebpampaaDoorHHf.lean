/-
Freight: what a plan costs at least and at most: contracts.
Freight: checks of winters; Spread: contracts.
Freight: what a plan promises: contract.
Conditions: none.
-/
import Derived.Test.YtndnjmpebpampaaDoorHFf
import Derived.Test.YtndnjmpebpampaaDoorQG20
set_option linter.unusedVariables false
set_option linter.unusedSimpArgs false
namespace Go.Sas
open Go.Proofs
set_option maxRecDepth 100000
def planN (l : List Int) : List Nat := l.map Int.toNat
theorem PlanP.nat {n : Nat} {l : List Int} (h : PlanP n l) : l.map I = (planN l).map natI ∧ ∀ k ∈ planN l, k < n := by
  refine ⟨?_, fun k hk => ?_⟩
  · rw [planN, List.map_map]
    apply List.map_congr_left
    intro x hx
    have := h.2.1 x hx
    show I x = I (iLen x.toNat)
    rw [show iLen x.toNat = x from by unfold iLen; omega]
  · obtain ⟨x, hx, rfl⟩ := List.mem_map.1 hk
    have := h.2.1 x hx; omega
theorem planN_len {l : List Int} : (planN l).length = l.length := by simp [planN]
def checkPlanS (f : Frt) (l : List Int) : Int := if checkF f ≠ 0 then checkF f else if PlanP f.ords.length l then 0 else 3
def eIsPlan : List AV → Option ((AV → Prop) → Prop)
  | [.agg [.lit (.int .i64 _), .lit (.int .i64 _), .lit (.int .i64 _), .lit (.int .i64 _), .vs 2 _, .vs 4 ys], .vs 1 ps] =>
    some fun K => ∃ (os : List Ord) (plan : List Int), ys = os.map orV ∧ ps = plan.map I ∧ (1 ≤ os.length ∧ os.length ≤ 6) ∧ plan.length ≤ 9223372036854775807 ∧ ∀ q, q = decide (PlanP os.length plan) → K (B q)
  | _ => none
theorem eIsPlan_ok : ∀ args pt, eIsPlan args = some pt → ∀ (H : AHeap) (Kk : AV → AHeap → Prop), pt (fun r => Kk r H) → ACalls Tryd.prog 23 args H Kk := by
  intro args pt h H Kk hk
  unfold eIsPlan at h
  split at h
  · cases h
    obtain ⟨os, plan, rfl, rfl, h1, h2, h3⟩ := hk
    exact p23 _ _ _ _ _ _ _ h1 h2 H (h3 _ rfl)
  · cases h
theorem p27 (a b c d : Int) (cs : List (Int × Int)) (os : List Ord) (plan : List Int) (hc : cs.length ≤ 9223372036854775807) (ho : os.length ≤ 9223372036854775807) (hp : plan.length ≤ 9223372036854775807) (H : AHeap) {Kk : AV → AHeap → Prop} (h : Kk (I (checkPlanS ⟨(a, b), (c, d), cs, os⟩ plan)) H) :
    ACalls Tryd.prog 27 [frV a b c d (.vs 2 (cs.map sp)) (.vs 4 (os.map orV)), .vs 1 (plan.map I)] H Kk := by
  refine (fun q => pureC (by rfl) (by rfl) q H h) ?_
  clear h
  intro Kk h
  obtain ⟨xs, hxs⟩ : ∃ xs, xs = cs.map sp := ⟨_, rfl⟩
  obtain ⟨ys, hys⟩ : ∃ ys, ys = os.map orV := ⟨_, rfl⟩
  obtain ⟨ps, hps⟩ : ∃ ys, ys = plan.map I := ⟨_, rfl⟩
  rw [← hxs, ← hys, ← hps]
  obtain ⟨W, hW⟩ : ∃ W, W = checkPlanS ⟨(a, b), (c, d), cs, os⟩ plan := ⟨_, rfl⟩
  rw [← hW] at h
  obtain ⟨A, hA⟩ : ∃ A, A = std := ⟨_, rfl⟩
  have hnb : ∀ b, A.bnot b = !b := by subst hA; intro b; rfl
  have hne : ∀ x, A.ne x 0 = decide (x ≠ 0) := by subst hA; intro x; simp only [std, iNe]; rw [Bool.eq_iff_iff]; simp
  refine go27 rfl (SGo_run hA ⟨[], [], (6, eCheckFr) :: (23, eIsPlan) :: [], []⟩ (.cons (eCheckFr_ok p6) (.cons eIsPlan_ok .nil)) .nil 200 fun T TD hT hTD => ?_)
  cbv
  refine Exists.intro cs (Exists.intro os (And.intro hxs (And.intro hys (And.intro hc (And.intro ho ?_)))))
  intro q hq; cbv
  unfold checkPlanS at hW
  rw [← hq] at hW
  split <;> cbv
  · rename_i hz
    have hz : q ≠ 0 := by have hz := (hne q).symm.trans hz; simpa using hz
    rw [if_pos hz] at hW
    exact leaf h (congrArg I hW) rfl
  rename_i hz
  have hz : q = 0 := by have hz := (hne q).symm.trans hz; simpa using hz
  rw [if_neg (by simp [hz])] at hW
  rw [hz] at hq
  have hV := checkF_ok hq.symm
  refine Exists.intro os (Exists.intro plan (And.intro hys (And.intro hps (And.intro ⟨hV.o1, hV.o2⟩ (And.intro hp ?_)))))
  intro q2 hq2; cbv
  split <;> cbv
  · rename_i hz2
    have hz2 : q2 = false := by have hz2 := (hnb q2).symm.trans hz2; simpa using hz2
    rw [hz2] at hq2
    have h9 := of_decide_eq_false hq2.symm
    exact leaf h (congrArg I (by rw [hW]; exact if_neg h9)) rfl
  · rename_i hz2
    have hz2 : q2 = true := by have hz2 := (hnb q2).symm.trans hz2; simpa using hz2
    rw [hz2] at hq2
    have h9 := of_decide_eq_true hq2.symm
    exact leaf h (congrArg I (by rw [hW]; exact if_pos h9)) rfl
def eCheckPlan : List AV → Option ((AV → Prop) → Prop)
  | [.agg [.lit (.int .i64 a), .lit (.int .i64 b), .lit (.int .i64 c), .lit (.int .i64 d), .vs 2 xs, .vs 4 ys], .vs 1 ps] =>
    some fun K => ∃ (cs : List (Int × Int)) (os : List Ord) (plan : List Int), xs = cs.map sp ∧ ys = os.map orV ∧ ps = plan.map I ∧ cs.length ≤ 9223372036854775807 ∧ os.length ≤ 9223372036854775807 ∧ plan.length ≤ 9223372036854775807 ∧ ∀ q, q = checkPlanS ⟨(a, b), (c, d), cs, os⟩ plan → K (I q)
  | _ => none
theorem eCheckPlan_ok : ∀ args pt, eCheckPlan args = some pt → ∀ (H : AHeap) (Kk : AV → AHeap → Prop), pt (fun r => Kk r H) → ACalls Tryd.prog 27 args H Kk := by
  intro args pt h H Kk hk
  unfold eCheckPlan at h
  split at h
  · cases h
    obtain ⟨cs, os, plan, rfl, rfl, rfl, h1, h2, h3, h4⟩ := hk
    exact p27 _ _ _ _ _ _ _ h1 h2 h3 H (h4 _ rfl)
  · cases h
theorem checkPlanS_ok {f : Frt} {l : List Int} (h : checkPlanS f l = 0) : FrtV f ∧ PlanP f.ords.length l := by
  unfold checkPlanS at h
  split at h
  · rename_i hz; exact absurd h hz
  · rename_i hz
    have hz : checkF f = 0 := by simpa using hz
    split at h
    · rename_i hp; exact ⟨checkF_ok hz, hp⟩
    · omega
def rangeS (f : Frt) (l : List Int) : (Int × Int) × Int := if checkPlanS f l ≠ 0 then ((0, 0), checkPlanS f l) else
  ((costS f.ords f.caps.length (bestW f) (planN l), costS f.ords f.caps.length (worstW f) (planN l)), 0)
theorem p13 (a b c d : Int) (cs : List (Int × Int)) (os : List Ord) (plan : List Int) (hc : cs.length ≤ 9223372036854775807) (ho : os.length ≤ 9223372036854775807) (hp : plan.length ≤ 9223372036854775807) (H : AHeap) {Kk : AV → AHeap → Prop}
    (h : Kk (.tup [.agg [I (rangeS ⟨(a, b), (c, d), cs, os⟩ plan).1.1, I (rangeS ⟨(a, b), (c, d), cs, os⟩ plan).1.2], I (rangeS ⟨(a, b), (c, d), cs, os⟩ plan).2]) H) :
    ACalls Tryd.prog 13 [frV a b c d (.vs 2 (cs.map sp)) (.vs 4 (os.map orV)), .vs 1 (plan.map I)] H Kk := by
  refine (fun q => pureC (by rfl) (by rfl) q H h) ?_
  clear h
  intro Kk h
  obtain ⟨xs, hxs⟩ : ∃ xs, xs = cs.map sp := ⟨_, rfl⟩
  obtain ⟨ys, hys⟩ : ∃ ys, ys = os.map orV := ⟨_, rfl⟩
  obtain ⟨ps, hps⟩ : ∃ ys, ys = plan.map I := ⟨_, rfl⟩
  rw [← hxs, ← hys, ← hps]
  obtain ⟨W, hW⟩ : ∃ W, W = rangeS ⟨(a, b), (c, d), cs, os⟩ plan := ⟨_, rfl⟩
  rw [← hW] at h
  obtain ⟨A, hA⟩ : ∃ A, A = std := ⟨_, rfl⟩
  have hne : ∀ x, A.ne x 0 = decide (x ≠ 0) := by subst hA; intro x; simp only [std, iNe]; rw [Bool.eq_iff_iff]; simp
  refine go13 rfl (SGo_run hA ⟨[], [1], (27, eCheckPlan) :: (30, eSea (fun _ b _ _ => b) (fun _ _ c _ => c) (·.1)) :: (28, eSea (fun a _ _ _ => a) (fun _ _ _ d => d) (·.2)) :: (29, eCostF) :: [], []⟩ (.cons eCheckPlan_ok (.cons eWorst_ok (.cons eBest_ok (.cons eCostF_ok .nil)))) .nil 200 fun T TD hT hTD => ?_)
  cbv
  refine Exists.intro cs (Exists.intro os (Exists.intro plan (And.intro hxs (And.intro hys (And.intro hps (And.intro hc (And.intro ho (And.intro hp ?_))))))))
  intro q hq; cbv
  unfold rangeS at hW
  rw [← hq] at hW
  split <;> cbv
  · rename_i hz
    have hz : q ≠ 0 := by have hz := (hne q).symm.trans hz; simpa using hz
    rw [if_pos hz] at hW
    rw [hW] at h
    exact h
  rename_i hz
  have hz : q = 0 := by have hz := (hne q).symm.trans hz; simpa using hz
  rw [if_neg (by simp [hz])] at hW
  rw [hz] at hq
  obtain ⟨hV, hP⟩ := checkPlanS_ok hq.symm
  obtain ⟨hn1, hn2⟩ := hP.nat
  have hc2 := hV.c2
  have ho2 := hV.o2
  have hlo := hV.lo
  have hhi := hV.hi
  have hor := hV.ords
  have hpl := hP.1
  dsimp only at hc2 ho2 hlo hhi hor hpl
  have hplen : (planN plan).length ≤ 1000 := by rw [planN_len]; omega
  rw [hn1] at hps
  refine Exists.intro cs (And.intro hxs (And.intro (by omega) ?_))
  intro zs hzs; cbv
  refine Exists.intro cs (Exists.intro os (Exists.intro (cs.map (·.2)) (Exists.intro (planN plan) (And.intro hxs (And.intro hys (And.intro hzs (And.intro hps (And.intro (by simp) (And.intro hc2 (And.intro ho2 (And.intro hhi (And.intro hor (And.intro hn2 (And.intro hplen ?_))))))))))))))
  intro q1 hq1; cbv
  refine Exists.intro cs (And.intro hxs (And.intro (by omega) ?_))
  intro zs2 hzs2; cbv
  refine Exists.intro cs (Exists.intro os (Exists.intro (cs.map (·.1)) (Exists.intro (planN plan) (And.intro hxs (And.intro hys (And.intro hzs2 (And.intro hps (And.intro (by simp) (And.intro hc2 (And.intro ho2 (And.intro hlo (And.intro hor (And.intro hn2 (And.intro hplen ?_))))))))))))))
  intro q2 hq2; cbv
  refine And.intro (by subst hA; exact .inr ⟨by simp [SubH], trivial, .inl rfl⟩) ?_
  rw [hW] at h
  have e1 : q1 = costS os cs.length (bestW ⟨(a, b), (c, d), cs, os⟩) (planN plan) := hq1
  have e2 : q2 = costS os cs.length (worstW ⟨(a, b), (c, d), cs, os⟩) (planN plan) := hq2
  rw [e1, e2]
  exact h
/-- what a plan delivers in a winter -/
def tellW (f : Frt) (w : Win) (p : List Nat) : List Dlv := tellS f.ords (rowsF f.ords.length f.caps.length (spreadG (roomW w) p (unitS f.ords) f.caps.length))
def promS (f : Frt) (p : List Nat) : List Int := (f.ords.zip ((tellW f (worstW f) p).zip (tellW f (bestW f) p))).map
  fun x => if x.2.1.on = x.1.u then 1 else if x.2.2.on < x.1.u then 2 else 3
def promiseS (f : Frt) (l : List Int) : List Int × Int := if checkPlanS f l ≠ 0 then ([], checkPlanS f l) else (promS f (planN l), 0)
theorem tellS_len {os : List Ord} {rows : List (List Int)} (h : rows.length = os.length) : (tellS os rows).length = os.length := by simp [tellS, h]
theorem tellW_len {f : Frt} {w : Win} {p : List Nat} : (tellW f w p).length = f.ords.length := tellS_len (by simp [rowsF])
end Go.Sas
namespace Go.Sas
open Go.Proofs
set_option maxRecDepth 100000
def inB (x : Int) (c : Int × Int) : Bool := decide (c.1 ≤ x ∧ x ≤ c.2)
def winB (f : Frt) (w : Win) : Bool := (inB w.fi f.fi && inB w.la f.la) && (w.caps.zip f.caps).all fun p => inB p.1 p.2
def checkWinterS (f : Frt) (w : Win) : Int := if checkF f ≠ 0 then checkF f else if w.caps.length ≠ f.caps.length then 3 else if winB f w then 0 else 2
theorem all_take_succ {α : Type} {l : List α} {j : Nat} {x : α} {p : α → Bool} (hx : l[j]? = some x) : (l.take (j + 1)).all p = ((l.take j).all p && p x) := by
  rw [take_succ_mem hx, List.all_append]; simp
theorem p22 (a b c d u v : Int) (cs : List (Int × Int)) (os : List Ord) (ws : List Int) (hc : cs.length ≤ 9223372036854775807) (ho : os.length ≤ 9223372036854775807) (hw : ws.length ≤ 9223372036854775807) (H : AHeap) {Kk : AV → AHeap → Prop} (h : Kk (I (checkWinterS ⟨(a, b), (c, d), cs, os⟩ ⟨u, v, ws⟩)) H) :
    ACalls Tryd.prog 22 [frV a b c d (.vs 2 (cs.map sp)) (.vs 4 (os.map orV)), winV u v (.vs 1 (ws.map I))] H Kk := by
  refine (fun q => pureC (by rfl) (by rfl) q H h) ?_
  clear h
  intro Kk h
  obtain ⟨xs, hxs⟩ : ∃ xs, xs = cs.map sp := ⟨_, rfl⟩
  obtain ⟨ys, hys⟩ : ∃ ys, ys = os.map orV := ⟨_, rfl⟩
  obtain ⟨zs, hzs⟩ : ∃ ys, ys = ws.map I := ⟨_, rfl⟩
  rw [← hxs, ← hys, ← hzs]
  obtain ⟨W, hW⟩ : ∃ W, W = checkWinterS ⟨(a, b), (c, d), cs, os⟩ ⟨u, v, ws⟩ := ⟨_, rfl⟩
  rw [← hW] at h
  obtain ⟨A, hA⟩ : ∃ A, A = std := ⟨_, rfl⟩
  have hnb : ∀ b, A.bnot b = !b := by subst hA; intro b; rfl
  have hne : ∀ x, A.ne x 0 = decide (x ≠ 0) := by subst hA; intro x; simp only [std, iNe]; rw [Bool.eq_iff_iff]; simp
  have hnl : A.ne (A.vlen zs) (A.vlen xs) = decide (ws.length ≠ cs.length) := by
    subst hA; simp only [std, iNe, hxs, hzs]; rw [Bool.eq_iff_iff]; unfold iLen; simp only [bne_iff_ne, ne_eq, List.length_map, decide_eq_true_eq]; omega
  refine go22 rfl (SGo_run hA ⟨[], [], (6, eCheckFr) :: (21, eIn) :: [], []⟩ (.cons (eCheckFr_ok p6) (.cons (eIn_ok p21) .nil)) .nil 200 fun T TD hT hTD => ?_)
  cbv
  refine Exists.intro cs (Exists.intro os (And.intro hxs (And.intro hys (And.intro hc (And.intro ho ?_)))))
  intro q hq; cbv
  unfold checkWinterS at hW
  rw [← hq] at hW
  split <;> cbv
  · rename_i hz
    have hz : q ≠ 0 := by have hz := (hne q).symm.trans hz; simpa using hz
    rw [if_pos hz] at hW
    exact leaf h (congrArg I hW) rfl
  rename_i hz
  have hz : q = 0 := by have hz := (hne q).symm.trans hz; simpa using hz
  rw [if_neg (by simp [hz])] at hW
  split <;> cbv
  · rename_i hz2
    have hz2 := hnl.symm.trans hz2
    simp only [decide_eq_true_eq] at hz2
    rw [if_pos hz2] at hW
    exact leaf h (congrArg I hW) rfl
  rename_i hz2
  have hz2 : ws.length = cs.length := by have hz2 := hnl.symm.trans hz2; simpa using hz2
  rw [if_neg (by simp [hz2])] at hW
  intro q1 hq1; cbv
  split <;> cbv
  · intro q2 hq2; cbv
    rw [hT]
    have hr0 : q2 = (inB u (a, b) && inB v (c, d)) := (by rw [hq2]; have h1 : inB u (a, b) = true := hq1.symm; rw [h1]; rfl)
    obtain ⟨Z, hZ⟩ : ∃ Z, Z = ws.zip cs := ⟨_, rfl⟩
    have hZl : Z.length = ws.length := by rw [hZ]; simp [hz2]
    refine AGo_upE [2, 42, 43] ws.length (fun j (r : Bool) => r = (q2 && (Z.take j).all fun p => inB p.1 p.2)) (fun j r i => [(6, B r), (44, I i)]) (fun _ _ => [.own 0 [I a, I b, I c, I d, .vs 2 xs, .vs 4 ys], .own 0 [I u, I v, .vs 1 zs]]) (q2) (by simp) ⟨rfl, rfl, trivial⟩ (.inl rfl) fun j r i hi hj hP Bk hB => ?_
    have hlt : A.lt i (A.vlen zs) = decide (j < ws.length) := by subst hA; exact lt_len (by simp [hzs]) hi
    have hadd : ∀ N, j < N → N ≤ 9223372036854775807 → A.add .i64 i 1 = iLen (j + 1) := fun N hj hN => by subst hA; exact add_one hi hj hN
    refine SGo_run hA ⟨[], [], (21, eIn) :: [], []⟩ (.cons (eIn_ok p21) .nil) .nil 200 fun T TD hT hTD => ?_
    cbv
    split <;> cbv
    · rename_i hk0
      have hk1 : j < ws.length := by have hz := hlt.symm.trans hk0; simpa using hz
      clear hk0
      obtain ⟨x, hx⟩ : ∃ x, ws[j]? = some x := ⟨_, List.getElem?_eq_getElem hk1⟩
      obtain ⟨⟨y1, y2⟩, hy⟩ : ∃ x, cs[j]? = some x := ⟨_, List.getElem?_eq_getElem (by omega)⟩
      have hix : A.ix 1 1 zs i [I x] := by subst hA; exact ix_map hzs hi hx rfl
      have hiy : A.ix 2 2 xs i [I y1, I y2] := by subst hA; exact ix_map hxs hi hy rfl
      have hzx : Z[j]? = some (x, y1, y2) := by rw [hZ, List.getElem?_zip_eq_some]; exact ⟨hx, hy⟩
      have hall := all_take_succ (p := fun p : Int × Int × Int => inB p.1 p.2) hzx
      refine Exists.intro _ (And.intro hix ?_); cbv
      split <;> cbv
      · refine Exists.intro _ (And.intro hiy ?_); cbv
        refine Exists.intro _ (And.intro hiy ?_); cbv
        intro q3 hq3; cbv
        refine hB q3 _ _ hk1 ?_ ⟨rfl, congrArg I (hadd _ hk1 (by omega)), trivial⟩ ⟨rfl, rfl, rfl, trivial⟩ (.inl rfl)
        rw [hall, ← Bool.and_assoc, ← hP]
        simp only [Bool.true_and]
        rw [hq3]; rfl
      · refine hB false _ _ hk1 ?_ ⟨rfl, congrArg I (hadd _ hk1 (by omega)), trivial⟩ ⟨rfl, rfl, rfl, trivial⟩ (.inl rfl)
        rw [hall, ← Bool.and_assoc, ← hP]; rfl
    · rename_i hk0
      have hk1 : ¬ j < ws.length := by have hz := hlt.symm.trans hk0; simpa using hz
      clear hk0
      rw [List.take_of_length_le (by omega), hr0] at hP
      have hwb : winB ⟨(a, b), (c, d), cs, os⟩ ⟨u, v, ws⟩ = r := by rw [hP, hZ]; rfl
      rw [hwb] at hW
      have hnr := hnb r
      split <;> cbv
      · rename_i hz3
        have hz3 : r = false := by have hz3 := hnr.symm.trans hz3; simpa using hz3
        rw [if_neg (by simp [hz3])] at hW
        exact leaf h (congrArg I hW) rfl
      · rename_i hz3
        have hz3 : r = true := by have hz3 := hnr.symm.trans hz3; simpa using hz3
        rw [if_pos hz3] at hW
        exact leaf h (congrArg I hW) rfl
  · rw [hT]
    have hr0 : false = (inB u (a, b) && inB v (c, d)) := (by have h1 : inB u (a, b) = false := hq1.symm; rw [h1]; rfl)
    obtain ⟨Z, hZ⟩ : ∃ Z, Z = ws.zip cs := ⟨_, rfl⟩
    have hZl : Z.length = ws.length := by rw [hZ]; simp [hz2]
    refine AGo_upE [2, 42, 43] ws.length (fun j (r : Bool) => r = (false && (Z.take j).all fun p => inB p.1 p.2)) (fun j r i => [(6, B r), (44, I i)]) (fun _ _ => [.own 0 [I a, I b, I c, I d, .vs 2 xs, .vs 4 ys], .own 0 [I u, I v, .vs 1 zs]]) (false) (by simp) ⟨rfl, rfl, trivial⟩ (.inl rfl) fun j r i hi hj hP Bk hB => ?_
    have hlt : A.lt i (A.vlen zs) = decide (j < ws.length) := by subst hA; exact lt_len (by simp [hzs]) hi
    have hadd : ∀ N, j < N → N ≤ 9223372036854775807 → A.add .i64 i 1 = iLen (j + 1) := fun N hj hN => by subst hA; exact add_one hi hj hN
    refine SGo_run hA ⟨[], [], (21, eIn) :: [], []⟩ (.cons (eIn_ok p21) .nil) .nil 200 fun T TD hT hTD => ?_
    cbv
    split <;> cbv
    · rename_i hk0
      have hk1 : j < ws.length := by have hz := hlt.symm.trans hk0; simpa using hz
      clear hk0
      obtain ⟨x, hx⟩ : ∃ x, ws[j]? = some x := ⟨_, List.getElem?_eq_getElem hk1⟩
      obtain ⟨⟨y1, y2⟩, hy⟩ : ∃ x, cs[j]? = some x := ⟨_, List.getElem?_eq_getElem (by omega)⟩
      have hix : A.ix 1 1 zs i [I x] := by subst hA; exact ix_map hzs hi hx rfl
      have hiy : A.ix 2 2 xs i [I y1, I y2] := by subst hA; exact ix_map hxs hi hy rfl
      have hzx : Z[j]? = some (x, y1, y2) := by rw [hZ, List.getElem?_zip_eq_some]; exact ⟨hx, hy⟩
      have hall := all_take_succ (p := fun p : Int × Int × Int => inB p.1 p.2) hzx
      refine Exists.intro _ (And.intro hix ?_); cbv
      split <;> cbv
      · refine Exists.intro _ (And.intro hiy ?_); cbv
        refine Exists.intro _ (And.intro hiy ?_); cbv
        intro q3 hq3; cbv
        refine hB q3 _ _ hk1 ?_ ⟨rfl, congrArg I (hadd _ hk1 (by omega)), trivial⟩ ⟨rfl, rfl, rfl, trivial⟩ (.inl rfl)
        rw [hall, ← Bool.and_assoc, ← hP]
        simp only [Bool.true_and]
        rw [hq3]; rfl
      · refine hB false _ _ hk1 ?_ ⟨rfl, congrArg I (hadd _ hk1 (by omega)), trivial⟩ ⟨rfl, rfl, rfl, trivial⟩ (.inl rfl)
        rw [hall, ← Bool.and_assoc, ← hP]; rfl
    · rename_i hk0
      have hk1 : ¬ j < ws.length := by have hz := hlt.symm.trans hk0; simpa using hz
      clear hk0
      rw [List.take_of_length_le (by omega), hr0] at hP
      have hwb : winB ⟨(a, b), (c, d), cs, os⟩ ⟨u, v, ws⟩ = r := by rw [hP, hZ]; rfl
      rw [hwb] at hW
      have hnr := hnb r
      split <;> cbv
      · rename_i hz3
        have hz3 : r = false := by have hz3 := hnr.symm.trans hz3; simpa using hz3
        rw [if_neg (by simp [hz3])] at hW
        exact leaf h (congrArg I hW) rfl
      · rename_i hz3
        have hz3 : r = true := by have hz3 := hnr.symm.trans hz3; simpa using hz3
        rw [if_pos hz3] at hW
        exact leaf h (congrArg I hW) rfl
def eCheckWin : List AV → Option ((AV → Prop) → Prop)
  | [.agg [.lit (.int .i64 a), .lit (.int .i64 b), .lit (.int .i64 c), .lit (.int .i64 d), .vs 2 xs, .vs 4 ys], .agg [.lit (.int .i64 u), .lit (.int .i64 v), .vs 1 zs]] =>
    some fun K => ∃ (cs : List (Int × Int)) (os : List Ord) (ws : List Int), xs = cs.map sp ∧ ys = os.map orV ∧ zs = ws.map I ∧ cs.length ≤ 9223372036854775807 ∧ os.length ≤ 9223372036854775807 ∧ ws.length ≤ 9223372036854775807 ∧ ∀ q, q = checkWinterS ⟨(a, b), (c, d), cs, os⟩ ⟨u, v, ws⟩ → K (I q)
  | _ => none
theorem eCheckWin_ok : ∀ args pt, eCheckWin args = some pt → ∀ (H : AHeap) (Kk : AV → AHeap → Prop), pt (fun r => Kk r H) → ACalls Tryd.prog 22 args H Kk := by
  intro args pt h H Kk hk
  unfold eCheckWin at h
  split at h
  · cases h
    obtain ⟨cs, os, ws, rfl, rfl, rfl, h1, h2, h3, h4⟩ := hk
    exact p22 _ _ _ _ _ _ _ _ _ h1 h2 h3 H (h4 _ rfl)
  · cases h
theorem checkWinterS_ok {f : Frt} {w : Win} (h : checkWinterS f w = 0) : FrtV f ∧ WinV f w := by
  unfold checkWinterS at h
  split at h
  · rename_i hz; exact absurd h hz
  rename_i hz
  have hz : checkF f = 0 := by simpa using hz
  split at h
  · omega
  rename_i hl
  split at h
  · rename_i hw
    refine ⟨checkF_ok hz, ?_⟩
    simp only [winB, inB, Bool.and_eq_true, decide_eq_true_eq, List.all_eq_true] at hw
    obtain ⟨⟨h1, h2⟩, h3⟩ := hw
    exact ⟨h1, h2, by omega, fun i x c hx hc => by have := h3 (x, c) (List.mem_of_getElem? (List.getElem?_zip_eq_some.2 ⟨hx, hc⟩)); simpa using this⟩
  · omega
theorem WinV.bnd {f : Frt} {w : Win} (hV : FrtV f) (h : WinV f w) : ∀ x ∈ w.caps, 0 ≤ x ∧ x ≤ 1000000 := fun x hx => by
  obtain ⟨i, hi⟩ := List.mem_iff_getElem?.1 hx
  have hlt := (List.getElem?_eq_some_iff.1 hi).1
  have hc := List.getElem?_eq_getElem (l := f.caps) (i := i) (by rw [← h.len]; exact hlt)
  have h1 := h.cap i x _ hi hc
  have h2 := hV.cb _ (List.mem_of_getElem? hc)
  omega
/-- what Spread yields -/
def spreadC (f : Frt) (w : Win) (l : List Int) : Int := if checkWinterS f w ≠ 0 then checkWinterS f w else if PlanP f.ords.length l then 0 else 3
def spreadR (f : Frt) (w : Win) (l : List Int) : List (List Int) := if spreadC f w l ≠ 0 then [] else rowsF f.ords.length f.caps.length (spreadG (roomW w) (planN l) (unitS f.ords) f.caps.length)
theorem p7 (a b c d u v : Int) (cs : List (Int × Int)) (os : List Ord) (ws plan : List Int) (hc : cs.length ≤ 9223372036854775807) (ho : os.length ≤ 9223372036854775807) (hw : ws.length ≤ 9223372036854775807) (hp : plan.length ≤ 9223372036854775807) (H : AHeap) {Kk : AV → AHeap → Prop}
    (h : Kk (.tup [.vs 1 ((spreadR ⟨(a, b), (c, d), cs, os⟩ ⟨u, v, ws⟩ plan).map fun r => .vs 1 (r.map I)), I (spreadC ⟨(a, b), (c, d), cs, os⟩ ⟨u, v, ws⟩ plan)]) H) :
    ACalls Tryd.prog 7 [frV a b c d (.vs 2 (cs.map sp)) (.vs 4 (os.map orV)), winV u v (.vs 1 (ws.map I)), .vs 1 (plan.map I)] H Kk := by
  refine (fun q => pureF (by rfl) (by rfl) q H h) ?_
  clear h
  intro Kk h
  obtain ⟨xs, hxs⟩ : ∃ xs, xs = cs.map sp := ⟨_, rfl⟩
  obtain ⟨ys, hys⟩ : ∃ ys, ys = os.map orV := ⟨_, rfl⟩
  obtain ⟨zs, hzs⟩ : ∃ ys, ys = ws.map I := ⟨_, rfl⟩
  obtain ⟨ps, hps⟩ : ∃ ys, ys = plan.map I := ⟨_, rfl⟩
  rw [← hxs, ← hys, ← hzs, ← hps]
  obtain ⟨W, hW⟩ : ∃ W, W = spreadC ⟨(a, b), (c, d), cs, os⟩ ⟨u, v, ws⟩ plan := ⟨_, rfl⟩
  unfold spreadR at h
  rw [← hW] at h
  obtain ⟨A, hA⟩ : ∃ A, A = std := ⟨_, rfl⟩
  obtain ⟨F, hF⟩ : ∃ F, F = Frees 0 Kk := ⟨_, rfl⟩
  rw [← hF]
  have hnb : ∀ b, A.bnot b = !b := by subst hA; intro b; rfl
  have hne : ∀ x, A.ne x 0 = decide (x ≠ 0) := by subst hA; intro x; simp only [std, iNe]; rw [Bool.eq_iff_iff]; simp
  refine go7 rfl (SGo_run hA ⟨[], [], (22, eCheckWin) :: (23, eIsPlan) :: (24, eSpreadF) :: [], []⟩ (.cons eCheckWin_ok (.cons eIsPlan_ok (.cons eSpreadF_ok .nil))) .nil 200 fun T TD hT hTD => ?_)
  cbv
  refine Exists.intro cs (Exists.intro os (Exists.intro ws (And.intro hxs (And.intro hys (And.intro hzs (And.intro hc (And.intro ho (And.intro hw ?_))))))))
  intro q hq; cbv
  unfold spreadC at hW
  rw [← hq] at hW
  split <;> cbv
  · rename_i hz
    have hz : q ≠ 0 := by have hz := (hne q).symm.trans hz; simpa using hz
    rw [if_pos hz] at hW
    rw [if_pos (by rw [hW]; exact hz), hW] at h
    rw [hF]
    exact Frees.wk (r' := .tup [.vs 1 [], I q]) (Wk.tup ⟨Wk.nil, Wk.rfl, trivial⟩) (Frees.drop0 h rfl)
  rename_i hz
  have hz : q = 0 := by have hz := (hne q).symm.trans hz; simpa using hz
  rw [if_neg (by simp [hz])] at hW
  rw [hz] at hq
  obtain ⟨hV, hwv⟩ := checkWinterS_ok hq.symm
  refine Exists.intro os (Exists.intro plan (And.intro hys (And.intro hps (And.intro ⟨hV.o1, hV.o2⟩ (And.intro hp ?_)))))
  intro q2 hq2; cbv
  split <;> cbv
  · rename_i hz2
    have hz2 : q2 = false := by have hz2 := (hnb q2).symm.trans hz2; simpa using hz2
    rw [hz2] at hq2
    have h9 := of_decide_eq_false hq2.symm
    have hW3 : W = 3 := by rw [hW]; exact if_neg h9
    rw [if_pos (by rw [hW3]; decide), hW3] at h
    rw [hF]
    exact Frees.wk (r' := .tup [.vs 1 [], I 3]) (Wk.tup ⟨Wk.nil, Wk.rfl, trivial⟩) (Frees.drop0 h rfl)
  · rename_i hz2
    have hz2 : q2 = true := by have hz2 := (hnb q2).symm.trans hz2; simpa using hz2
    rw [hz2] at hq2
    have hP : PlanP os.length plan := of_decide_eq_true hq2.symm
    have hW0 : W = 0 := by rw [hW]; exact if_pos hP
    rw [if_neg (by rw [hW0]; simp), hW0] at h
    obtain ⟨hn1, hn2⟩ := hP.nat
    rw [hn1] at hps
    have hpl := hP.1
    have hln := hwv.len
    have ho2 := hV.o2
    dsimp only at hln ho2
    refine Exists.intro cs (Exists.intro os (Exists.intro ws (Exists.intro (planN plan) (And.intro hxs (And.intro hys (And.intro hzs (And.intro hps (And.intro hln (And.intro hV.c2 (And.intro hV.o2 (And.intro (hwv.bnd hV) (And.intro hV.ords.u (And.intro hn2 (And.intro (by rw [planN_len]; omega) ?_))))))))))))))
    intro zs2 hz3; cbv
    rw [hF, hz3]
    exact Frees.drop0 h rfl
end Go.Sas
namespace Go.Sas
open Go.Proofs
set_option maxRecDepth 100000
theorem p14 (a b c d : Int) (cs : List (Int × Int)) (os : List Ord) (plan : List Int) (hc : cs.length ≤ 9223372036854775807) (ho : os.length ≤ 9223372036854775807) (hp : plan.length ≤ 9223372036854775807) (H : AHeap) {Kk : AV → AHeap → Prop}
    (h : Kk (.tup [.vs 1 ((promiseS ⟨(a, b), (c, d), cs, os⟩ plan).1.map I), I (promiseS ⟨(a, b), (c, d), cs, os⟩ plan).2]) H) :
    ACalls Tryd.prog 14 [frV a b c d (.vs 2 (cs.map sp)) (.vs 4 (os.map orV)), .vs 1 (plan.map I)] H Kk := by
  refine (fun q => pureF (by rfl) (by rfl) q H h) ?_
  clear h
  intro Kk h
  obtain ⟨xs, hxs⟩ : ∃ xs, xs = cs.map sp := ⟨_, rfl⟩
  obtain ⟨ys, hys⟩ : ∃ ys, ys = os.map orV := ⟨_, rfl⟩
  obtain ⟨ps, hps⟩ : ∃ ys, ys = plan.map I := ⟨_, rfl⟩
  rw [← hxs, ← hys, ← hps]
  obtain ⟨W, hW⟩ : ∃ W, W = promiseS ⟨(a, b), (c, d), cs, os⟩ plan := ⟨_, rfl⟩
  rw [← hW] at h
  obtain ⟨A, hA⟩ : ∃ A, A = std := ⟨_, rfl⟩
  obtain ⟨F, hF⟩ : ∃ F, F = Frees 0 Kk := ⟨_, rfl⟩
  rw [← hF]
  have hsg : ∀ g, A.sg g g := by subst hA; exact fun _ => rfl
  have hne : ∀ x, A.ne x 0 = decide (x ≠ 0) := by subst hA; intro x; simp only [std, iNe]; rw [Bool.eq_iff_iff]; simp
  refine go14 rfl (SGo_run hA ⟨[], [], (27, eCheckPlan) :: (30, eSea (fun _ b _ _ => b) (fun _ _ c _ => c) (·.1)) :: (28, eSea (fun a _ _ _ => a) (fun _ _ _ d => d) (·.2)) :: (24, eSpreadF) :: (26, eTellF) :: [], []⟩ (.cons eCheckPlan_ok (.cons eWorst_ok (.cons eBest_ok (.cons eSpreadF_ok (.cons eTellF_ok .nil))))) .nil 200 fun T TD hT hTD => ?_)
  cbv
  refine Exists.intro cs (Exists.intro os (Exists.intro plan (And.intro hxs (And.intro hys (And.intro hps (And.intro hc (And.intro ho (And.intro hp ?_))))))))
  intro q hq; cbv
  unfold promiseS at hW
  rw [← hq] at hW
  split <;> cbv
  · rename_i hz
    have hz : q ≠ 0 := by have hz := (hne q).symm.trans hz; simpa using hz
    rw [if_pos hz] at hW
    rw [hW] at h
    rw [hF]
    exact Frees.wk (r' := .tup [.vs 1 [], I q]) (Wk.tup ⟨Wk.nil, Wk.rfl, trivial⟩) (Frees.drop0 h rfl)
  rename_i hz
  have hz : q = 0 := by have hz := (hne q).symm.trans hz; simpa using hz
  rw [if_neg (by simp [hz])] at hW
  rw [hz] at hq
  obtain ⟨hV, hP⟩ := checkPlanS_ok hq.symm
  obtain ⟨hn1, hn2⟩ := hP.nat
  have hc2 := hV.c2
  have ho2 := hV.o2
  have hlo := hV.lo
  have hhi := hV.hi
  have hor := hV.ords
  have hpl := hP.1
  dsimp only at hc2 ho2 hlo hhi hor hpl
  have hplen : (planN plan).length ≤ 1000 := by rw [planN_len]; omega
  rw [hn1] at hps
  have hvw := rowsF_v (n := os.length) (D := cs.length) (daysG_ok (roomW_bnd (w := ⟨b, c, cs.map (·.1)⟩) hlo) (unitS_bnd hor.u) (plan := planN plan) cs.length).2
  have hvb := rowsF_v (n := os.length) (D := cs.length) (daysG_ok (roomW_bnd (w := ⟨a, d, cs.map (·.2)⟩) hhi) (unitS_bnd hor.u) (plan := planN plan) cs.length).2
  refine Exists.intro cs (And.intro hxs (And.intro (by omega) ?_))
  intro zs hzs; cbv
  refine Exists.intro cs (And.intro hxs (And.intro (by omega) ?_))
  intro zs2 hzs2; cbv
  refine Exists.intro cs (Exists.intro os (Exists.intro (cs.map (·.1)) (Exists.intro (planN plan) (And.intro hxs (And.intro hys (And.intro hzs (And.intro hps (And.intro (by simp) (And.intro hc2 (And.intro ho2 (And.intro hlo (And.intro hor.u (And.intro hn2 (And.intro hplen ?_))))))))))))))
  intro zs3 hz3; cbv
  refine Exists.intro cs (Exists.intro os (Exists.intro _ (And.intro hxs (And.intro hys (And.intro hz3 (And.intro hc2 (And.intro ho2 (And.intro hor (And.intro hvw ?_)))))))))
  intro ds1 q1 hds1 _; cbv
  refine Exists.intro cs (Exists.intro os (Exists.intro (cs.map (·.2)) (Exists.intro (planN plan) (And.intro hxs (And.intro hys (And.intro hzs2 (And.intro hps (And.intro (by simp) (And.intro hc2 (And.intro ho2 (And.intro hhi (And.intro hor.u (And.intro hn2 (And.intro hplen ?_))))))))))))))
  intro zs4 hz4; cbv
  refine Exists.intro cs (Exists.intro os (Exists.intro _ (And.intro hxs (And.intro hys (And.intro hz4 (And.intro hc2 (And.intro ho2 (And.intro hor (And.intro hvb ?_)))))))))
  intro ds2 q2 hds2 _; cbv
  rw [hT]
  obtain ⟨N, hN⟩ : ∃ N, N = os.length := ⟨_, rfl⟩
  obtain ⟨t1, ht1⟩ : ∃ t, t = tellW ⟨(a, b), (c, d), cs, os⟩ (worstW ⟨(a, b), (c, d), cs, os⟩) (planN plan) := ⟨_, rfl⟩
  obtain ⟨t2, ht2⟩ : ∃ t, t = tellW ⟨(a, b), (c, d), cs, os⟩ (bestW ⟨(a, b), (c, d), cs, os⟩) (planN plan) := ⟨_, rfl⟩
  have hds1 : ds1 = t1.map dlV := by rw [hds1, ht1]; rfl
  have hds2 : ds2 = t2.map dlV := by rw [hds2, ht2]; rfl
  have hl1 : t1.length = N := by rw [ht1, hN]; exact tellW_len
  have hl2 : t2.length = N := by rw [ht2, hN]; exact tellW_len
  obtain ⟨Z, hZ⟩ : ∃ Z, Z = os.zip (t1.zip t2) := ⟨_, rfl⟩
  have hZl : Z.length = N := by rw [hZ]; simp [hl1, hl2, hN]
  have hWZ : W = (Z.map (fun x => if x.2.1.on = x.1.u then 1 else if x.2.2.on < x.1.u then 2 else 3), 0) := by rw [hW, promS, ← ht1, ← ht2, hZ]
  have hv2 : A.vlen ys = iLen N := by subst hA; simp [std, hys, hN]
  clear hW
  refine AGo_nilms 13 1 rfl ?_
  refine AGo_upE [9, 11, 43, 44] N (fun j (l : List Int) => l = (Z.take j).map (fun x => if x.2.1.on = x.1.u then 1 else if x.2.2.on < x.1.u then 2 else 3)) (fun j l i => [(13, .ms 1 3 j 0 j), (45, I i)])
    (fun j l => [.own 0 [I a, I b, I c, I d, .vs 2 xs, .vs 4 ys], .own 0 [I a, I b, I c, I d, .vs 2 xs, .vs 4 ys, I b, I c, .vs 1 zs], .own 0 [I a, I b, I c, I d, .vs 2 xs, .vs 4 ys, I a, I d, .vs 1 zs2], .own j (l.map I)]) [] rfl ⟨rfl, rfl, trivial⟩ (.inl rfl) fun j l i hi hj hP Bk hB => ?_
  have hlt : A.lt i (A.vlen ys) = decide (j < N) := by subst hA; exact lt_len (by simp [hys, hN]) hi
  have hadd : ∀ N, j < N → N ≤ 9223372036854775807 → A.add .i64 i 1 = iLen (j + 1) := fun N hj hN => by subst hA; exact add_one hi hj hN
  have hll : l.length = j := by rw [hP]; simp [hZl]; omega
  obtain ⟨cc, hcc⟩ : ∃ r, r = l.map I := ⟨_, rfl⟩
  rw [← hcc]
  refine SGo_run hA ⟨[3], [], [], []⟩ .nil .nil 200 fun T TD hT hTD => ?_
  cbv
  split <;> cbv
  · rename_i hk0
    have hk1 : j < N := by have hz := hlt.symm.trans hk0; simpa using hz
    clear hk0
    obtain ⟨⟨ou, od, ol, ol2⟩, hx⟩ : ∃ x, os[j]? = some x := ⟨_, List.getElem?_eq_getElem (hN ▸ hk1)⟩
    obtain ⟨⟨n1, n2, n3, n4⟩, hx1⟩ : ∃ x, t1[j]? = some x := ⟨_, List.getElem?_eq_getElem (by omega)⟩
    obtain ⟨⟨m1, m2, m3, m4⟩, hx2⟩ : ∃ x, t2[j]? = some x := ⟨_, List.getElem?_eq_getElem (by omega)⟩
    have hix : A.ix 4 4 ys i [I ou, I od, I ol, I ol2] := by subst hA; exact ix_map hys hi hx rfl
    have hi1 : A.ix 4 4 ds1 i [I n1, I n2, I n3, I n4] := by subst hA; exact ix_map hds1 hi hx1 rfl
    have hi2 : A.ix 4 4 ds2 i [I m1, I m2, I m3, I m4] := by subst hA; exact ix_map hds2 hi hx2 rfl
    have hzx : Z[j]? = some (⟨ou, od, ol, ol2⟩, ⟨n1, n2, n3, n4⟩, ⟨m1, m2, m3, m4⟩) := by rw [hZ, List.getElem?_zip_eq_some]; exact ⟨hx, by rw [List.getElem?_zip_eq_some]; exact ⟨hx1, hx2⟩⟩
    have htk := take_succ_mem hzx
    have hee : A.eq n1 ou = decide (n1 = ou) := by subst hA; simp only [std, iEq]; rw [Bool.eq_iff_iff]; simp
    have hll2 : A.lt m1 ou = decide (m1 < ou) := by subst hA; rfl
    have hend : ∀ (v : Int) (c2 : List AV) (e' : Env), v = (if n1 = ou then 1 else if m1 < ou then 2 else 3) → c2 = cc ++ [I v] → Fits e' [(13, .ms 1 3 (j + 1) 0 (j + 1)), (45, I (A.add .i64 i 1))] →
        Fits e' [(9, .vs 4 ds1), (11, .vs 4 ds2), (43, .vs 4 ys), (44, I (A.vlen ys))] → ∀ H', (∃ T, H' = [.own 0 [I a, I b, I c, I d, .vs 2 xs, .vs 4 ys], .own 0 [I a, I b, I c, I d, .vs 2 xs, .vs 4 ys, I b, I c, .vs 1 zs], .own 0 [I a, I b, I c, I d, .vs 2 xs, .vs 4 ys, I a, I d, .vs 1 zs2], .own (j + 1) c2] ++ T) → Bk e' H' := by
      intro v c2 e' hv hc9 hf1 hf2 H' hH
      rw [hadd _ hk1 (by omega)] at hf1
      refine hB (l ++ [v]) e' H' hk1 (by rw [htk, List.map_append, ← hP]; simp [hv]) hf1 hf2 (.inr ⟨?_, Nat.zero_le _, ?_, ?_⟩)
      · obtain ⟨T, rfl⟩ := hH
        exact ⟨T, by rw [hc9, hcc]; simp⟩
      · simp [ltG, keepS, look, gset, AV.lt, AV.ltL]
      · exact ⟨by simp [AObj.lt, AV.ltL, AV.lt], by simp [AObj.lt, AV.ltL, AV.lt], by simp [AObj.lt, AV.ltL, AV.lt], AV.ltL_nid (nidL_map (fun _ => rfl) _), trivial⟩
    refine Exists.intro _ (And.intro hix ?_); cbv
    refine Exists.intro _ (And.intro hi1 ?_); cbv
    split <;> cbv
    · rename_i hz
      have hz := hee.symm.trans hz
      simp only [decide_eq_true_eq] at hz
      refine And.intro (hsg _) (Exists.intro (cc ++ [I 1]) (Exists.intro (j + 1) (And.intro ?_ (And.intro rfl ?_))))
      · subst hA; exact app_one (by rw [hcc]; simp [hll]) rfl (by omega)
      generalize hc9 : cc ++ _ = c9
      cbv
      exact hend 1 c9 _ (by rw [if_pos hz]) hc9.symm ⟨rfl, rfl, trivial⟩ ⟨rfl, rfl, rfl, rfl, trivial⟩ _ ⟨_, rfl⟩
    rename_i hz
    have hz := hee.symm.trans hz
    simp only [decide_eq_false_iff_not] at hz
    refine Exists.intro _ (And.intro hi2 ?_); cbv
    split <;> cbv
    · rename_i hz2
      have hz2 := hll2.symm.trans hz2
      simp only [decide_eq_true_eq] at hz2
      refine And.intro (hsg _) (Exists.intro (cc ++ [I 2]) (Exists.intro (j + 1) (And.intro ?_ (And.intro rfl ?_))))
      · subst hA; exact app_one (by rw [hcc]; simp [hll]) rfl (by omega)
      generalize hc9 : cc ++ _ = c9
      cbv
      exact hend 2 c9 _ (by rw [if_neg hz, if_pos hz2]) hc9.symm ⟨rfl, rfl, trivial⟩ ⟨rfl, rfl, rfl, rfl, trivial⟩ _ ⟨_, rfl⟩
    · rename_i hz2
      have hz2 := hll2.symm.trans hz2
      simp only [decide_eq_false_iff_not] at hz2
      refine And.intro (hsg _) (Exists.intro (cc ++ [I 3]) (Exists.intro (j + 1) (And.intro ?_ (And.intro rfl ?_))))
      · subst hA; exact app_one (by rw [hcc]; simp [hll]) rfl (by omega)
      generalize hc9 : cc ++ _ = c9
      cbv
      exact hend 3 c9 _ (by rw [if_neg hz, if_neg hz2]) hc9.symm ⟨rfl, rfl, trivial⟩ ⟨rfl, rfl, rfl, rfl, trivial⟩ _ ⟨_, rfl⟩
  · rename_i hk0
    have hk1 : ¬ j < N := by have hz := hlt.symm.trans hk0; simpa using hz
    clear hk0
    rw [hF]
    rw [List.take_of_length_le (by omega)] at hP
    refine Frees.frz 3 j 1 (l.map I) rfl (by rw [hcc]; exact Elems_I l) (Frees.drop0 ?_ ?_)
    · have : AV.frz 3 j 1 (l.map I) (.ms 1 3 j 0 j) = .vs 1 (l.map I) := frz_self (by simp [hll])
      simp only [aTup, AV.frz, AV.frzL] at this ⊢
      rw [hWZ, ← hP] at h
      rw [this]; exact h
    · simp only [aTup, AV.frz, AV.frzL, AV.nid, AV.nidL, if_true]
      split <;> rfl
end Go.Sas
