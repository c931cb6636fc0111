/-
Probe: big: contract.
Conditions: none.
-/
import Derived.Test.YtajegdbljldakaaPP
set_option linter.unusedVariables false
set_option linter.unusedSimpArgs false
namespace Go.Sas
open Go.Proofs
set_option maxRecDepth 100000
/-- more than the statements go through -/
def bigN (n k m : Int) : Bool := decide (30 < n) || (decide (12 < k) && decide (k ≤ 200)) || decide (209 < k) || (decide (12 < m) && decide (m ≤ 100)) || decide (109 < m)
def bigS (rs : List Rch) (a b c : Int) (k m : Int) : Bool := bigN (iLen rs.length) k m || (decide (checkV rs a b c = 0) && decide (24 < sumLg rs))
theorem p29 (rs : List Rch) (a b c : Int) (ls ms : List AV) (h1 : rs.length ≤ 9223372036854775807) (hl : AV.nidL ls = true) (hm : AV.nidL ms = true) (H : AHeap) {Kk : AV → AHeap → Prop} (h : Kk (B (bigS rs a b c (iLen ls.length) (iLen ms.length))) H) : ACalls Try.prog 29 [svV (.vs 5 (rs.map rcV)) a b c, .vs 5 ls, .vs 5 ms] H Kk := by
  have hnr := nidL_rc rs
  refine (fun q => pureC (by simp [AV.nidL, AV.nid, hnr, hl, hm]) (by rfl) q H h) ?_
  clear h
  intro Kk h
  obtain ⟨xs, hxs⟩ : ∃ xs, xs = rs.map rcV := ⟨_, rfl⟩
  rw [← hxs]
  obtain ⟨A, hA⟩ : ∃ A, A = std := ⟨_, rfl⟩
  have hne : ∀ x y, A.ne x y = decide (x ≠ y) := by subst hA; intro x y; simp only [std, iNe]; rw [Bool.eq_iff_iff]; simp
  have hee : ∀ x y, A.eq x y = decide (x = y) := by subst hA; intro x y; exact iEq_dec _ _
  have hll : ∀ x y, A.lt x y = decide (x < y) := by subst hA; intro x y; rfl
  have hle : ∀ x y, A.le x y = decide (x ≤ y) := by subst hA; intro x y; rfl
  have hnb : ∀ b, A.bnot b = !b := by subst hA; intro b; rfl
  have hbd : ∀ x y, A.band x y = (x && y) := by subst hA; intro x y; rfl
  have hsg : ∀ g, A.sg g g := by subst hA; exact fun _ => rfl
  have e1 : A.vlen xs = iLen rs.length := by subst hA; simp [std, hxs]
  have e2 : A.vlen ls = iLen ls.length := by subst hA; rfl
  have e3 : A.vlen ms = iLen ms.length := by subst hA; rfl
  obtain ⟨n, hn⟩ : ∃ n, n = iLen rs.length := ⟨_, rfl⟩
  obtain ⟨k, hk⟩ : ∃ n, n = iLen ls.length := ⟨_, rfl⟩
  obtain ⟨m, hm2⟩ : ∃ n, n = iLen ms.length := ⟨_, rfl⟩
  rw [← hn] at e1
  rw [← hk] at e2
  rw [← hm2] at e3
  have hT1 : bigN n k m = true → Kk (B true) [] := fun h0 => by unfold bigS at h; rw [← hn, ← hk, ← hm2, h0] at h; exact h
  have hT2 : bigN n k m = false → ∀ b2, b2 = (decide (checkV rs a b c = 0) && decide (24 < sumLg rs)) → Kk (B b2) [] := fun h0 b2 hb => by unfold bigS at h; rw [← hn, ← hk, ← hm2, h0, Bool.false_or, ← hb] at h; exact h
  clear h
  have f1 : A.lt 30 (A.vlen xs) = decide (30 < n) := by rw [hll, e1]
  have f2 : A.lt 12 (A.vlen ls) = decide (12 < k) := by rw [hll, e2]
  have f3 : A.le (A.vlen ls) 200 = decide (k ≤ 200) := by rw [hle, e2]
  have f4 : A.lt 209 (A.vlen ls) = decide (209 < k) := by rw [hll, e2]
  have f5 : A.lt 12 (A.vlen ms) = decide (12 < m) := by rw [hll, e3]
  have f6 : A.le (A.vlen ms) 100 = decide (m ≤ 100) := by rw [hle, e3]
  have f7 : A.lt 109 (A.vlen ms) = decide (109 < m) := by rw [hll, e3]
  obtain ⟨b1, hb1⟩ : ∃ b, b = decide (30 < n) := ⟨_, rfl⟩
  obtain ⟨b2, hb2⟩ : ∃ b, b = decide (12 < k) := ⟨_, rfl⟩
  obtain ⟨b3, hb3⟩ : ∃ b, b = decide (k ≤ 200) := ⟨_, rfl⟩
  obtain ⟨b4, hb4⟩ : ∃ b, b = decide (209 < k) := ⟨_, rfl⟩
  obtain ⟨b5, hb5⟩ : ∃ b, b = decide (12 < m) := ⟨_, rfl⟩
  obtain ⟨b6, hb6⟩ : ∃ b, b = decide (m ≤ 100) := ⟨_, rfl⟩
  obtain ⟨b7, hb7⟩ : ∃ b, b = decide (109 < m) := ⟨_, rfl⟩
  have hbn : bigN n k m = (b1 || (b2 && b3) || b4 || (b5 && b6) || b7) := by rw [hb1, hb2, hb3, hb4, hb5, hb6, hb7]; rfl
  rw [← hb1] at f1
  rw [← hb2] at f2
  rw [← hb3] at f3
  rw [← hb4] at f4
  rw [← hb5] at f5
  rw [← hb6] at f6
  rw [← hb7] at f7
  rw [hbn] at hT1 hT2
  clear hb1 hb2 hb3 hb4 hb5 hb6 hb7 hbn e1 e2 e3 hn hk hm2
  refine go29 rfl (SGo_run hA ⟨[], [], (34, eCheckV) :: (46, ePlaces) :: [], []⟩ (.cons (eCheckV_ok p34) (.cons (ePlaces_ok p46) .nil)) .nil 200 fun T TD hT hTD => ?_)
  cbv
  repeat' (split <;> cbv)
  all_goals
    first | (have q1 := f1.symm.trans (show A.lt 30 (A.vlen xs) = true by assumption)) | (have q1 := f1.symm.trans (show A.lt 30 (A.vlen xs) = false by assumption)) | (have q1 := trivial)
    first | (have q2 := f2.symm.trans (show A.lt 12 (A.vlen ls) = true by assumption)) | (have q2 := f2.symm.trans (show A.lt 12 (A.vlen ls) = false by assumption)) | (have q2 := trivial)
    first | (have q3 := f3.symm.trans (show A.le (A.vlen ls) 200 = true by assumption)) | (have q3 := f3.symm.trans (show A.le (A.vlen ls) 200 = false by assumption)) | (have q3 := trivial)
    first | (have q4 := f4.symm.trans (show A.lt 209 (A.vlen ls) = true by assumption)) | (have q4 := f4.symm.trans (show A.lt 209 (A.vlen ls) = false by assumption)) | (have q4 := trivial)
    first | (have q5 := f5.symm.trans (show A.lt 12 (A.vlen ms) = true by assumption)) | (have q5 := f5.symm.trans (show A.lt 12 (A.vlen ms) = false by assumption)) | (have q5 := trivial)
    first | (have q6 := f6.symm.trans (show A.le (A.vlen ms) 100 = true by assumption)) | (have q6 := f6.symm.trans (show A.le (A.vlen ms) 100 = false by assumption)) | (have q6 := trivial)
    first | (have q7 := f7.symm.trans (show A.lt 109 (A.vlen ms) = true by assumption)) | (have q7 := f7.symm.trans (show A.lt 109 (A.vlen ms) = false by assumption)) | (have q7 := trivial)
  all_goals try exact hT1 (by simp [q1, q2, q3, q4, q5, q6, q7])
  all_goals
    have hT3 := hT2 (by simp [q1, q2, q3, q4, q5, q6, q7])
    clear hT1 hT2 q1 q2 q3 q4 q5 q6 q7 f1 f2 f3 f4 f5 f6 f7
    refine Exists.intro rs (And.intro hxs (And.intro h1 ?_))
    intro q hq; cbv
    rw [← hq] at hT3
    have hq0 : A.eq q 0 = decide (q = 0) := hee q 0
    split <;> cbv
    · rename_i hz
      have hz := of_decide_eq_true (hq0.symm.trans hz)
      have ho := (checkV_ok.1 (hq.symm.trans hz)).1
      refine Exists.intro rs (And.intro hxs (And.intro (by have := ho.n2; omega) (And.intro ho.all ?_)))
      intro n hn; cbv
      rw [← hn] at hT3
      refine leaf (hT3 _ rfl) (congrArg B ?_) rfl
      rw [decide_eq_true hz, Bool.true_and]; exact (hll 24 n).symm
    · rename_i hz
      have hz := hq0.symm.trans hz
      exact hT3 false (by rw [hz]; rfl)
def eBig : List AV → Option ((AV → Prop) → Prop)
  | [.agg [.vs 5 xs, .lit (.int .i64 a), .lit (.int .i64 b), .lit (.int .i64 c)], .vs 5 ls, .vs 5 ms] => some fun K => ∃ rs : List Rch, xs = rs.map rcV ∧ rs.length ≤ 9223372036854775807 ∧ AV.nidL ls = true ∧ AV.nidL ms = true ∧ ∀ q, q = bigS rs a b c (iLen ls.length) (iLen ms.length) → K (B q)
  | _ => none
theorem eBig_ok : ∀ args pt, eBig args = some pt → ∀ (H : AHeap) (Kk : AV → AHeap → Prop), pt (fun r => Kk r H) → ACalls Try.prog 29 args H Kk := by
  intro args pt h H Kk hk
  unfold eBig at h
  split at h
  · cases h
    obtain ⟨rs, rfl, h1, h2, h3, h4⟩ := hk
    exact p29 _ _ _ _ _ _ h1 h2 h3 H (h4 _ rfl)
  · cases h
end Go.Sas
