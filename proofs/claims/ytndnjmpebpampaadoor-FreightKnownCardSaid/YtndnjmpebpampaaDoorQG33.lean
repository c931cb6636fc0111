/-
Freight: Tell, and what a plan does in a winter: contracts.
Conditions: none.
-/
import Derived.Test.YtndnjmpebpampaaDoorHGf
set_option linter.unusedVariables false
set_option linter.unusedSimpArgs false
namespace Go.Sas
open Go.Proofs
set_option maxRecDepth 100000
def eCheckWay : List AV → Option ((AV → Prop) → Prop)
  | [.agg [.lit (.int .i64 a), .lit (.int .i64 b), .lit (.int .i64 c), .lit (.int .i64 d), .vs 2 xs, .vs 4 ys], .agg [.lit (.int .i64 u), .lit (.int .i64 v), .vs 1 zs], .vs 1 rs] =>
    some fun K => ∃ (cs : List (Int × Int)) (os : List Ord) (ws : List Int) (way : List (List Int)), xs = cs.map sp ∧ ys = os.map orV ∧ zs = ws.map I ∧ (rs = way.map fun r => .vs 1 (r.map I)) ∧ cs.length ≤ 9223372036854775807 ∧ os.length ≤ 9223372036854775807 ∧ ws.length ≤ 9223372036854775807 ∧ way.length ≤ 9223372036854775807 ∧ ∀ q, q = checkWayS ⟨(a, b), (c, d), cs, os⟩ ⟨u, v, ws⟩ way → K (I q)
  | _ => none
theorem eCheckWay_ok : ∀ args pt, eCheckWay args = some pt → ∀ (H : AHeap) (Kk : AV → AHeap → Prop), pt (fun r => Kk r H) → ACalls Tryd.prog 25 args H Kk := by
  intro args pt h H Kk hk
  unfold eCheckWay at h
  split at h
  · cases h
    obtain ⟨cs, os, ws, way, rfl, rfl, rfl, rfl, h1, h2, h3, h4, h5⟩ := hk
    exact p25 _ _ _ _ _ _ _ _ _ _ h1 h2 h3 h4 H (h5 _ rfl)
  · cases h
theorem checkWayS_ok {f : Frt} {w : Win} {way : List (List Int)} (h : checkWayS f w way = 0) : checkWinterS f w = 0 ∧ RowsV f.ords.length f.caps.length way := by
  unfold checkWayS at h
  split at h
  · rename_i hz; exact absurd h hz
  rename_i hz
  split at h
  · omega
  rename_i h1
  split at h
  · omega
  rename_i h2
  simp only [not_or] at h1
  refine ⟨by simpa using hz, by omega, fun r hr => ⟨?_, fun x hx => ?_⟩⟩
  · have := h1.2
    rw [Bool.not_eq_true, List.any_eq_false] at this
    simpa using this r hr
  · rw [Bool.not_eq_false, List.all_eq_true] at h2
    have h3 := h2 r hr
    rw [List.all_eq_true] at h3
    exact okE_bnd (h3 x hx)
def tellL (f : Frt) (w : Win) (way : List (List Int)) : List Dlv := if checkWayS f w way ≠ 0 then [] else tellS f.ords way
def tellP (f : Frt) (w : Win) (way : List (List Int)) : Int := if checkWayS f w way ≠ 0 then 0 else penS f.ords way
theorem p10 (a b c d u v : Int) (cs : List (Int × Int)) (os : List Ord) (ws : List Int) (way : List (List Int)) (hc : cs.length ≤ 9223372036854775807) (ho : os.length ≤ 9223372036854775807) (hw : ws.length ≤ 9223372036854775807) (hy : way.length ≤ 9223372036854775807) (H : AHeap) {Kk : AV → AHeap → Prop}
    (h : Kk (.tup [.vs 4 ((tellL ⟨(a, b), (c, d), cs, os⟩ ⟨u, v, ws⟩ way).map dlV), I (tellP ⟨(a, b), (c, d), cs, os⟩ ⟨u, v, ws⟩ way), I (checkWayS ⟨(a, b), (c, d), cs, os⟩ ⟨u, v, ws⟩ way)]) H) :
    ACalls Tryd.prog 10 [frV a b c d (.vs 2 (cs.map sp)) (.vs 4 (os.map orV)), winV u v (.vs 1 (ws.map I)), .vs 1 (way.map fun r => .vs 1 (r.map I))] H Kk := by
  refine (fun q => pureF (by rfl) (by rfl) q H h) ?_
  clear h
  intro Kk h
  obtain ⟨xs, hxs⟩ : ∃ xs, xs = cs.map sp := ⟨_, rfl⟩
  obtain ⟨ys, hys⟩ : ∃ ys, ys = os.map orV := ⟨_, rfl⟩
  obtain ⟨zs, hzs⟩ : ∃ ys, ys = ws.map I := ⟨_, rfl⟩
  obtain ⟨rs, hrs⟩ : ∃ rs : List AV, rs = way.map fun r => .vs 1 (r.map I) := ⟨_, rfl⟩
  rw [← hxs, ← hys, ← hzs, ← hrs]
  obtain ⟨W, hW⟩ : ∃ W, W = checkWayS ⟨(a, b), (c, d), cs, os⟩ ⟨u, v, ws⟩ way := ⟨_, rfl⟩
  unfold tellL tellP at h
  rw [← hW] at h
  obtain ⟨A, hA⟩ : ∃ A, A = std := ⟨_, rfl⟩
  obtain ⟨F, hF⟩ : ∃ F, F = Frees 0 Kk := ⟨_, rfl⟩
  rw [← hF]
  have hne : ∀ x, A.ne x 0 = decide (x ≠ 0) := by subst hA; intro x; simp only [std, iNe]; rw [Bool.eq_iff_iff]; simp
  refine go10 rfl (SGo_run hA ⟨[], [], (25, eCheckWay) :: (26, eTellF) :: [], []⟩ (.cons eCheckWay_ok (.cons eTellF_ok .nil)) .nil 200 fun T TD hT hTD => ?_)
  cbv
  refine Exists.intro cs (Exists.intro os (Exists.intro ws (Exists.intro way (And.intro hxs (And.intro hys (And.intro hzs (And.intro hrs (And.intro hc (And.intro ho (And.intro hw (And.intro hy ?_)))))))))))
  intro q hq; cbv
  rw [← hq] at hW
  split <;> cbv
  · rename_i hz
    have hz : q ≠ 0 := by have hz := (hne q).symm.trans hz; simpa using hz
    rw [if_pos (by rw [hW]; exact hz), if_pos (by rw [hW]; exact hz), hW] at h
    rw [hF]
    exact Frees.wk (r' := .tup [.vs 4 [], I 0, I q]) (Wk.tup ⟨Wk.nil, Wk.rfl, Wk.rfl, trivial⟩) (Frees.drop0 h rfl)
  rename_i hz
  have hz : q = 0 := by have hz := (hne q).symm.trans hz; simpa using hz
  rw [hz] at hq hW
  obtain ⟨hcw, hrv⟩ := checkWayS_ok hq.symm
  obtain ⟨hV, hwv⟩ := checkWinterS_ok hcw
  rw [if_neg (by simp [hW]), if_neg (by simp [hW]), hW] at h
  refine Exists.intro cs (Exists.intro os (Exists.intro way (And.intro hxs (And.intro hys (And.intro hrs (And.intro hV.c2 (And.intro hV.o2 (And.intro hV.ords (And.intro hrv ?_)))))))))
  intro ds pn hds hpn; cbv
  rw [hF, hds, hpn]
  exact Frees.drop0 h rfl
end Go.Sas
