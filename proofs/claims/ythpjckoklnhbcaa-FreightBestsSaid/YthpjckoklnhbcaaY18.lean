/-
Freight: what the laws on plans and winters call: contracts and entries of tables.
Conditions: none.
-/
import Derived.Test.YthpjckoklnhbcaaY17
import Derived.Test.YthpjckoklnhbcaaY14
import Derived.Test.YthpjckoklnhbcaaY15
import Derived.Test.YthpjckoklnhbcaaY21
import Derived.Test.YthpjckoklnhbcaaYM
set_option linter.unusedVariables false
set_option linter.unusedSimpArgs false
namespace Go.Sas
open Go.Proofs
set_option maxRecDepth 100000
theorem perm_plan {n : Nat} {p : List Nat} (h : p.Perm (List.range n)) : PlanP n (p.map iLen) ∧ planN (p.map iLen) = p ∧ p.map natI = (p.map iLen).map I := by
  refine ⟨⟨by simp [h.length_eq], fun k hk => ?_, ?_⟩, ?_, ?_⟩
  · obtain ⟨x, hx, rfl⟩ := List.mem_map.1 hk
    have := List.mem_range.1 (h.mem_iff.1 hx)
    unfold iLen; omega
  · have hnd : p.Nodup := h.nodup_iff.2 List.nodup_range
    clear h
    induction p with
    | nil => simp
    | cons x l ih =>
      obtain ⟨hx, hnd⟩ := List.nodup_cons.1 hnd
      rw [List.map_cons, List.nodup_cons]
      refine ⟨fun hm => ?_, ih hnd⟩
      obtain ⟨y, hy, he⟩ := List.mem_map.1 hm
      have : y = x := by unfold iLen at he; omega
      exact hx (this ▸ hy)
  · unfold planN; rw [List.map_map]; conv => rhs; rw [← List.map_id p]
    apply List.map_congr_left; intro x _; simp [iLen]
  · rw [List.map_map]; rfl
def eSeedF : List AV → AHeap → Option PT
  | [x], H => match asVs 1 x with
    | some xs => some fun K => ∃ l : List Int, (xs = l.map I ∧ l.length ≤ 9223372036854775807) ∧ ∀ w, K (.mp H.length 0 0) (H ++ [.own 0 [U w]])
    | none => none
  | _, _ => none
theorem eSeedF_ok : ∀ args H pt, eSeedF args H = some pt → ∀ (Kk : AV → AHeap → Prop), pt Kk → ACalls Try.prog 22 args H Kk := by
  intro args H pt h Kk hk
  unfold eSeedF at h
  split at h
  · split at h
    · rename_i xs hx
      cases h
      obtain ⟨l, ⟨rfl, b⟩, h1⟩ := hk
      exact (p22 l b H h1).wk ⟨asVs_wk hx, trivial⟩
    · cases h
  · cases h
def sFr : List AV → Option ((Unit → Prop) × (AV → Prop))
  | [.lit (.int .i64 days), .lit (.int .i64 orders)] => some (fun _ => (1 ≤ days ∧ days ≤ 200) ∧ (1 ≤ orders ∧ orders ≤ 6), FrQ days orders)
  | _ => none
theorem sFr_ok : ∀ rest pre Q, sFr rest = some (pre, Q) → pre () → Draws Try.prog 23 rest Q := by
  intro rest pre Q h hp
  unfold sFr at h
  split at h
  · cases h; exact d23 _ _ hp.1 hp.2
  · cases h
def ePlanOf : List AV → AHeap → Option PT
  | [.mp id 0 0, .lit (.int .i64 m)], H => match H[id]? with
    | some (.own 0 [.lit (.int .u64 _)]) => some fun K => ∃ n : Nat, (m = iLen n ∧ n ≤ 1000) ∧ ∀ w' r, PlanQ n r → K r (H.set id (.own 0 [U w']))
    | _ => none
  | _, _ => none
theorem ePlanOf_ok : ∀ args H pt, ePlanOf args H = some pt → ∀ (Kk : AV → AHeap → Prop), pt Kk → ACalls Try.prog 31 args H Kk := by
  intro args H pt h Kk hk
  unfold ePlanOf at h
  split at h
  · split at h
    · rename_i hX
      cases h
      obtain ⟨n, ⟨rfl, h1⟩, h2⟩ := hk
      exact d31 n h1 _ _ _ hX Kk h2
    · cases h
  · cases h
def eWinOf : List AV → AHeap → Option PT
  | [.mp id 0 0, .agg [.lit (.int .i64 a), .lit (.int .i64 b), .lit (.int .i64 c), .lit (.int .i64 d), .vs 2 xs, .vs 4 ys]], H => match H[id]? with
    | some (.own 0 [.lit (.int .u64 _)]) => some fun K => ∃ (cs : List (Int × Int)) (os : List Ord), (xs = cs.map sp ∧ ys = os.map orV ∧ checkF ⟨(a, b), (c, d), cs, os⟩ = 0) ∧ ∀ w' r, WinQ ⟨(a, b), (c, d), cs, os⟩ r → K r (H.set id (.own 0 [U w']))
    | _ => none
  | _, _ => none
theorem eWinOf_ok : ∀ args H pt, eWinOf args H = some pt → ∀ (Kk : AV → AHeap → Prop), pt Kk → ACalls Try.prog 35 args H Kk := by
  intro args H pt h Kk hk
  unfold eWinOf at h
  split at h
  · split at h
    · rename_i hX
      cases h
      obtain ⟨cs, os, ⟨rfl, rfl, h1⟩, h2⟩ := hk
      exact d35 _ _ _ _ cs _ os rfl (checkF_ok h1) _ _ _ hX Kk h2
    · cases h
  · cases h
def edF : ETab := (22, eSeedF) :: (23, eDraw sFr) :: (31, ePlanOf) :: (35, eWinOf) :: (54, eDraw sPart) :: []
theorem edF_ok : ETabOk Try.prog edF := .cons eSeedF_ok (.cons (eDraw_ok sFr_ok) (.cons ePlanOf_ok (.cons eWinOf_ok (.cons (eDraw_ok sPart_ok) .nil))))
def eDriven : List AV → Option ((AV → Prop) → Prop)
  | [.agg [.lit (.int .i64 a), .lit (.int .i64 b), .lit (.int .i64 c), .lit (.int .i64 d), .vs 2 xs, .vs 4 ys], .agg [.lit (.int .i64 u), .lit (.int .i64 v), .vs 1 zs], .vs 1 ps] =>
    some fun K => ∃ (cs : List (Int × Int)) (os : List Ord) (ws plan : List Int), (xs = cs.map sp ∧ ys = os.map orV ∧ zs = ws.map I ∧ ps = plan.map I) ∧ (checkF ⟨(a, b), (c, d), cs, os⟩ = 0 ∧ WinV ⟨(a, b), (c, d), cs, os⟩ ⟨u, v, ws⟩ ∧ PlanP os.length plan) ∧
      ∀ ds pn, ds = (tellW ⟨(a, b), (c, d), cs, os⟩ ⟨u, v, ws⟩ (planN plan)).map dlV → pn = costS os cs.length ⟨u, v, ws⟩ (planN plan) → K (.tup [.vs 4 ds, I pn, B true])
  | _ => none
theorem eDriven_ok : ∀ args pt, eDriven args = some pt → ∀ (H : AHeap) (Kk : AV → AHeap → Prop), pt (fun r => Kk r H) → ACalls Try.prog 50 args H Kk := by
  intro args pt h H Kk hk
  unfold eDriven at h
  split at h
  · cases h
    obtain ⟨cs, os, ws, plan, ⟨rfl, rfl, rfl, rfl⟩, ⟨h1, h2, h3⟩, h4⟩ := hk
    exact p50 _ _ _ _ _ _ _ _ _ _ h1 h2 h3 H (h4 _ _ rfl rfl)
  · cases h
theorem planS_of {f : Frt} {l : List Int} (h1 : checkF f = 0) (h2 : PlanP f.ords.length l) : checkPlanS f l = 0 := by
  unfold checkPlanS; rw [if_neg (by simp [h1]), if_pos h2]
def eRange : List AV → Option ((AV → Prop) → Prop)
  | [.agg [.lit (.int .i64 a), .lit (.int .i64 b), .lit (.int .i64 c), .lit (.int .i64 d), .vs 2 xs, .vs 4 ys], .vs 1 ps] =>
    some fun K => ∃ (cs : List (Int × Int)) (os : List Ord) (plan : List Int), (xs = cs.map sp ∧ ys = os.map orV ∧ ps = plan.map I) ∧ (checkF ⟨(a, b), (c, d), cs, os⟩ = 0 ∧ PlanP os.length plan) ∧
      ∀ lo hi, lo = costS os cs.length (bestW ⟨(a, b), (c, d), cs, os⟩) (planN plan) → hi = costS os cs.length (worstW ⟨(a, b), (c, d), cs, os⟩) (planN plan) → K (.tup [.agg [I lo, I hi], I 0])
  | _ => none
theorem FrtV.len {f : Frt} (h : checkF f = 0) : f.caps.length ≤ 9223372036854775807 ∧ f.ords.length ≤ 9223372036854775807 := by
  have hV := checkF_ok h
  have := hV.c2; have := hV.o2; omega
theorem eRange_ok : ∀ args pt, eRange args = some pt → ∀ (H : AHeap) (Kk : AV → AHeap → Prop), pt (fun r => Kk r H) → ACalls Try.prog 30 args H Kk := by
  intro args pt h H Kk hk
  unfold eRange at h
  split at h
  · cases h
    obtain ⟨cs, os, plan, ⟨rfl, rfl, rfl⟩, ⟨h1, h2⟩, h4⟩ := hk
    have hl := FrtV.len h1
    have h3 := planS_of h1 h2
    have h5 := h2.1
    dsimp only at hl
    refine p30 _ _ _ _ _ _ _ hl.1 hl.2 (by omega) H ?_
    simp only [rangeS, h3, ne_eq, not_true_eq_false, if_false]
    exact h4 _ _ rfl rfl
  · cases h
def ePromise : List AV → Option ((AV → Prop) → Prop)
  | [.agg [.lit (.int .i64 a), .lit (.int .i64 b), .lit (.int .i64 c), .lit (.int .i64 d), .vs 2 xs, .vs 4 ys], .vs 1 ps] =>
    some fun K => ∃ (cs : List (Int × Int)) (os : List Ord) (plan : List Int), (xs = cs.map sp ∧ ys = os.map orV ∧ ps = plan.map I) ∧ (checkF ⟨(a, b), (c, d), cs, os⟩ = 0 ∧ PlanP os.length plan) ∧
      ∀ ms, ms = (promS ⟨(a, b), (c, d), cs, os⟩ (planN plan)).map I → K (.tup [.vs 1 ms, I 0])
  | _ => none
theorem ePromise_ok : ∀ args pt, ePromise args = some pt → ∀ (H : AHeap) (Kk : AV → AHeap → Prop), pt (fun r => Kk r H) → ACalls Try.prog 33 args H Kk := by
  intro args pt h H Kk hk
  unfold ePromise at h
  split at h
  · cases h
    obtain ⟨cs, os, plan, ⟨rfl, rfl, rfl⟩, ⟨h1, h2⟩, h4⟩ := hk
    have hl := FrtV.len h1
    have h3 := planS_of h1 h2
    have h5 := h2.1
    dsimp only at hl
    refine p33 _ _ _ _ _ _ _ hl.1 hl.2 (by omega) H ?_
    simp only [promiseS, h3, ne_eq, not_true_eq_false, if_false]
    exact h4 _ rfl
  · cases h
theorem p51 (a b n : Int) (H : AHeap) {Kk : AV → AHeap → Prop} (h : Kk (B (decide (a ≤ n ∧ n ≤ b))) H) : ACalls Try.prog 51 [.agg [I a, I b], I n] H Kk := by
  refine (fun q => pureC (by rfl) (by rfl) q H h) ?_
  clear h
  intro Kk h
  obtain ⟨W, hW⟩ : ∃ W, W = decide (a ≤ n ∧ n ≤ b) := ⟨_, rfl⟩
  rw [← hW] at h
  obtain ⟨A, hA⟩ : ∃ A, A = std := ⟨_, rfl⟩
  have hle : ∀ x y, A.le x y = decide (x ≤ y) := by subst hA; intro x y; rfl
  refine go51 rfl (SGo_run hA ⟨[], [], [], []⟩ .nil .nil 200 fun T TD hT hTD => ?_)
  cbv
  split <;> cbv
  · rename_i hz
    have hz : a ≤ n := by have hz := (hle _ _).symm.trans hz; simpa using hz
    exact leaf h (congrArg B (((hle n b).trans (by simp [hz])).trans hW.symm).symm) rfl
  · rename_i hz
    have hz : ¬ a ≤ n := by have hz := (hle _ _).symm.trans hz; simpa using hz
    exact leaf h (congrArg B (by rw [hW]; simp [hz])) rfl
def eHas : List AV → Option ((AV → Prop) → Prop)
  | [.agg [.lit (.int .i64 a), .lit (.int .i64 b)], .lit (.int .i64 n)] => some fun K => ∀ q, q = decide (a ≤ n ∧ n ≤ b) → K (B q)
  | _ => none
theorem eHas_ok : ∀ args pt, eHas args = some pt → ∀ (H : AHeap) (Kk : AV → AHeap → Prop), pt (fun r => Kk r H) → ACalls Try.prog 51 args H Kk := by
  intro args pt h H Kk hk
  unfold eHas at h
  split at h
  · cases h; exact p51 _ _ _ H (hk _ rfl)
  · cases h
theorem p55 (a b c d : Int) (H : AHeap) {Kk : AV → AHeap → Prop} (h : Kk (B (decide (c ≤ a ∧ b ≤ d))) H) : ACalls Try.prog 55 [.agg [I a, I b], .agg [I c, I d]] H Kk := by
  refine (fun q => pureC (by rfl) (by rfl) q H h) ?_
  clear h
  intro Kk h
  obtain ⟨W, hW⟩ : ∃ W, W = decide (c ≤ a ∧ b ≤ d) := ⟨_, rfl⟩
  rw [← hW] at h
  obtain ⟨A, hA⟩ : ∃ A, A = std := ⟨_, rfl⟩
  have hle : ∀ x y, A.le x y = decide (x ≤ y) := by subst hA; intro x y; rfl
  refine go55 rfl (SGo_run hA ⟨[], [], [], []⟩ .nil .nil 200 fun T TD hT hTD => ?_)
  cbv
  split <;> cbv
  · rename_i hz
    have hz : c ≤ a := by have hz := (hle _ _).symm.trans hz; simpa using hz
    exact leaf h (congrArg B (((hle b d).trans (by simp [hz])).trans hW.symm).symm) rfl
  · rename_i hz
    have hz : ¬ c ≤ a := by have hz := (hle _ _).symm.trans hz; simpa using hz
    exact leaf h (congrArg B (by rw [hW]; simp [hz])) rfl
def eInS : List AV → Option ((AV → Prop) → Prop)
  | [.agg [.lit (.int .i64 a), .lit (.int .i64 b)], .agg [.lit (.int .i64 c), .lit (.int .i64 d)]] => some fun K => ∀ q, q = decide (c ≤ a ∧ b ≤ d) → K (B q)
  | _ => none
theorem eInS_ok : ∀ args pt, eInS args = some pt → ∀ (H : AHeap) (Kk : AV → AHeap → Prop), pt (fun r => Kk r H) → ACalls Try.prog 55 args H Kk := by
  intro args pt h H Kk hk
  unfold eInS at h
  split at h
  · cases h; exact p55 _ _ _ _ H (hk _ rfl)
  · cases h
theorem p53 (a b : Int) (H : AHeap) {Kk : AV → AHeap → Prop} (h : Kk (.agg [I a, I b]) H) : ACalls Try.prog 53 [I a, I b] H Kk := by
  refine (fun q => pureC (by rfl) (by rfl) q H h) ?_
  clear h
  intro Kk h
  obtain ⟨A, hA⟩ : ∃ A, A = std := ⟨_, rfl⟩
  refine go53 rfl (SGo_run hA ⟨[], [], [], []⟩ .nil .nil 200 fun T TD hT hTD => ?_)
  cbv
  exact h
def eSpan : List AV → Option ((AV → Prop) → Prop)
  | [.lit (.int .i64 a), .lit (.int .i64 b)] => some fun K => K (.agg [I a, I b])
  | _ => none
theorem eSpan_ok : ∀ args pt, eSpan args = some pt → ∀ (H : AHeap) (Kk : AV → AHeap → Prop), pt (fun r => Kk r H) → ACalls Try.prog 53 args H Kk := by
  intro args pt h H Kk hk
  unfold eSpan at h
  split at h
  · cases h; exact p53 _ _ H hk
  · cases h
end Go.Sas
