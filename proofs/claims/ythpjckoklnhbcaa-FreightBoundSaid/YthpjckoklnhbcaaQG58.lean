/-
Freight: the law FreightBound: its core.
Conditions: none.
-/
import Derived.Test.YthpjckoklnhbcaaHP
import Derived.Test.YthpjckoklnhbcaaQG57
import Derived.Test.YthpjckoklnhbcaaQG36
import Derived.Test.YthpjckoklnhbcaaQFL8
set_option linter.unusedVariables false
set_option linter.unusedSimpArgs false
namespace Go.Sas
open Go.Proofs
set_option maxRecDepth 100000
theorem way_check {f : Frt} {w : Win} {way : List (List Int)} (hc : checkWinterS f w = 0) (h : WayV f w way) : checkWayS f w way = 0 := by
  unfold checkWayS
  rw [if_neg (by simp [hc])]
  rw [if_neg (by
    rw [not_or, Bool.not_eq_true, List.any_eq_false]
    exact ⟨fun h9 => h9 h.n, fun r hr => by simp [h.d r hr]⟩)]
  rw [if_neg (by
    rw [Bool.not_eq_false, List.all_eq_true]
    intro r hr
    rw [List.all_eq_true]
    intro x hx
    exact decide_eq_true (h.b r hr x hx))]
  rw [if_neg (by
    rw [Bool.not_eq_false, List.all_eq_true]
    intro d hd
    exact decide_eq_true (h.c d (List.mem_range.1 hd)))]
  rw [if_neg (by
    rw [Bool.not_eq_false, List.all_eq_true]
    intro p hp
    exact decide_eq_true (h.u p hp))]
def eWayOf : List AV → AHeap → Option PT
  | [.mp id 0 0, .agg [.lit (.int .i64 a), .lit (.int .i64 b), .lit (.int .i64 c), .lit (.int .i64 d), .vs 2 xs, .vs 4 ys], .agg [.lit (.int .i64 u), .lit (.int .i64 v), .vs 1 zs]], H => match H[id]? with
    | some (.own 0 [.lit (.int .u64 _)]) => some fun K => ∃ (cs : List (Int × Int)) (os : List Ord) (ws : List Int), (xs = cs.map sp ∧ ys = os.map orV ∧ zs = ws.map I ∧ FrtV ⟨(a, b), (c, d), cs, os⟩ ∧ ws.length = cs.length ∧ ∀ x ∈ ws, 0 ≤ x ∧ x ≤ 1000000) ∧ ∀ w' r, WayQ ⟨(a, b), (c, d), cs, os⟩ ⟨u, v, ws⟩ r → K r (H.set id (.own 0 [U w']))
    | _ => none
  | _, _ => none
theorem eWayOf_ok : ∀ args H pt, eWayOf args H = some pt → ∀ (Kk : AV → AHeap → Prop), pt Kk → ACalls Try.prog 42 args H Kk := by
  intro args H pt h Kk hk
  unfold eWayOf at h
  split at h
  · split at h
    · rename_i hX
      cases h
      obtain ⟨cs, os, ws, ⟨h1, h2, h3, h4, h5, h6⟩, h7⟩ := hk
      exact d42 _ _ _ _ _ _ cs os ws _ _ _ h1 h2 h3 h4 h5 h6 _ _ _ hX Kk h7
    · cases h
  · cases h
set_option maxHeartbeats 4000000 in
theorem core8 (nums : List Int) (hn1 : nums.length ≤ 9223372036854775807) : ACalls Try.prog 8 [.vs 1 (nums.map I)] [] fun r _ => r = .lit (.bool true) := by
  obtain ⟨Kk, hKk⟩ : ∃ K : AV → AHeap → Prop, K = fun r _ => r = .lit (.bool true) := ⟨_, rfl⟩
  rw [← hKk]
  have h : ∀ H, Kk (B true) H := fun H => by rw [hKk]
  clear hKk
  obtain ⟨xn, hxn⟩ : ∃ ys, ys = nums.map I := ⟨_, rfl⟩
  rw [← hxn]
  obtain ⟨A, hA⟩ : ∃ A, A = std := ⟨_, rfl⟩
  have hne : ∀ x y, A.ne x y = decide (x ≠ y) := by subst hA; intro x y; simp only [std, iNe]; rw [Bool.eq_iff_iff]; simp
  have hee : ∀ x y, A.eq x y = decide (x = y) := by subst hA; intro x y; exact iEq_dec _ _
  have hll : ∀ x y, A.lt x y = decide (x < y) := by subst hA; intro x y; rfl
  have hle : ∀ x y, A.le x y = decide (x ≤ y) := by subst hA; intro x y; rfl
  have hnb : ∀ b, A.bnot b = !b := by subst hA; intro b; rfl
  have hbd : ∀ x y, A.band x y = (x && y) := by subst hA; intro x y; rfl
  have hsg : ∀ g, A.sg g g := by subst hA; exact fun _ => rfl
  refine go8 rfl (SGo_run hA ⟨[], [0], (17, eAwake) :: (24, eBestG) :: (26, eBoundG) :: (41, eWinE (fun _ b _ _ => b) (fun _ _ c _ => c) (·.1)) :: (43, eTell) :: [], (42, eWayOf) :: edF⟩ (.cons eAwake_ok (.cons (eBestG_ok p24) (.cons (eBoundG_ok p26) (.cons eWorstE_ok (.cons eTell_ok .nil))))) (.cons eWayOf_ok edF_ok) 200 fun T TD hT hTD => ?_)
  cbv
  refine Exists.intro nums (And.intro ⟨hxn, hn1⟩ ?_)
  intro w1
  cbv
  refine Exists.intro () (And.intro (by omega) ?_)
  rintro w2 _ ⟨a, b, c, d, xs, ys, cs, os, rfl, hxs, hys, hf, _⟩
  have hV := checkF_ok hf
  have ho2 := hV.o2
  have hc2 := hV.c2
  dsimp only at ho2 hc2
  have hww : WinV ⟨(a, b), (c, d), cs, os⟩ ⟨b, c, cs.map (·.1)⟩ := worst_win hV
  have hwo : ∀ x ∈ cs.map (·.1), 0 ≤ x ∧ x ≤ 1000000 := hV.worst
  have hcw := winS_of hf hww
  cbv
  refine Exists.intro cs (And.intro ⟨hxs, by omega⟩ ?_)
  intro zw hzw
  cbv
  refine Exists.intro cs (Exists.intro os (Exists.intro (cs.map (·.1)) (And.intro ⟨hxs, hys, hzw, hV, by rw [List.length_map], hwo⟩ ?_)))
  rintro w3 _ ⟨rs, way, rfl, hrs, hWV⟩
  have hwn := hWV.n
  dsimp only at hwn
  have hck := way_check hcw hWV
  have hbl := bound_le hV hWV
  obtain ⟨bb, ib, hb1, hb2, _, _⟩ := best_spec hV hf
  have hbp := plans_perm hV.o1 hV.o2 (List.mem_of_getElem? hb2)
  have hbn : bb.Nodup := hbp.nodup_iff.2 List.nodup_range
  have hbk : ∀ k ∈ bb, k < os.length := fun k hk => List.mem_range.1 (hbp.mem_iff.1 hk)
  have hbl2 := bound_le hV (checkWay_way (way_ok hV hww hcw hbn hbk))
  cbv
  refine Exists.intro cs (Exists.intro os (And.intro ⟨hxs, hys, by omega, by omega⟩ ?_))
  intro n1 q1 hb7 hq1; cbv
  refine Exists.intro cs (Exists.intro os (Exists.intro (cs.map (·.1)) (Exists.intro way (And.intro hxs (And.intro hys (And.intro hzw (And.intro hrs (And.intro (by omega) (And.intro (by omega) (And.intro (by rw [List.length_map]; omega) (And.intro (by omega) ?_)))))))))))
  intro ds pn q2 hds hpn hq2; cbv
  refine Exists.intro cs (Exists.intro os (And.intro ⟨hxs, hys, by omega, by omega⟩ ?_))
  intro rs2 n3 q3 hrs2 hn3 hq3; cbv
  have hbS : boundS ⟨(a, b), (c, d), cs, os⟩ = (boundV ⟨(a, b), (c, d), cs, os⟩, 0) := by unfold boundS; rw [if_neg (by simp [hf])]
  rw [hbS] at hb7 hq1
  rw [hb1] at hn3 hq3
  have hck : checkWayS ⟨(a, b), (c, d), cs, os⟩ ⟨b, c, cs.map (·.1)⟩ way = 0 := hck
  have hpn : pn = penS os way := by rw [hpn]; unfold tellP; rw [if_neg (by simp [hck])]
  have hq1 : q1 = 0 := hq1
  have hq2 : q2 = 0 := hq2.trans hck
  have hq3 : q3 = 0 := hq3
  have z1 : A.eq q1 0 = true := by rw [hq1, hee]; rfl
  have z2 : A.eq q2 0 = true := by rw [hq2, hee]; rfl
  have z3 : A.eq q3 0 = true := by rw [hq3, hee]; rfl
  have z4 : A.le n1 pn = true := by rw [hle, decide_eq_true_eq, hpn]; exact hb7 ▸ hbl
  have z5 : A.le n1 n3 = true := by rw [hle, decide_eq_true_eq, hn3]; exact hb7 ▸ hbl2
  split <;> first | (rename_i hz; exact Bool.noConfusion (hz.symm.trans z1)) | cbv
  split <;> first | (rename_i hz; exact Bool.noConfusion (hz.symm.trans z2)) | cbv
  split <;> first | (rename_i hz; exact Bool.noConfusion (hz.symm.trans z3)) | cbv
  split <;> first | (rename_i hz; exact Bool.noConfusion (hz.symm.trans z4)) | cbv
  split <;> first | (rename_i hz; exact Bool.noConfusion (hz.symm.trans z5)) | cbv
  exact h _
end Go.Sas
