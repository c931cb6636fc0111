/-
Freight: the reference's best plan: contract.
Conditions: none.
-/
import Derived.Test.YthpjckoklnhbcaaYR
import Derived.Test.YthpjckoklnhbcaaYN
import Derived.Test.YthpjckoklnhbcaaYA
set_option linter.unusedVariables false
set_option linter.unusedSimpArgs false
namespace Go.Sas
open Go.Proofs
set_option maxRecDepth 100000
def hF (j k : Nat) : Int := if k < j then iLen k else 0
theorem hF_zero : hF 0 = fun _ => 0 := by funext k; simp [hF]
theorem hF_succ {j : Nat} : updF (hF j) j (iLen j) = hF (j + 1) := by
  funext k; unfold updF hF
  by_cases h : k = j
  · subst h; rw [if_pos rfl, if_pos (by omega)]
  · rw [if_neg h]
    by_cases h2 : k < j
    · rw [if_pos h2, if_pos (by omega)]
    · rw [if_neg h2, if_neg (by omega)]
theorem hF_all {n : Nat} : rowF n (hF n) = (List.range n).map natI := by
  unfold rowF
  apply List.map_congr_left
  intro k hk
  simp only [hF, if_pos (List.mem_range.1 hk)]
theorem nidL_natI (l : List Nat) : AV.nidL (l.map natI) = true := by
  induction l with
  | nil => rfl
  | cons x l ih => simpa [AV.nidL, AV.nid] using ih
/-- the best of the first plans -/
def bstT (c : List Nat → Int) (L : List (List Nat)) (t : Nat) : List Nat × Int := match (L.take t).foldl (stpB c) none with
  | none => ([], 0)
  | some ((x, r), n) => (x :: r, n)
theorem bstT_succ {c : List Nat → Int} {L : List (List Nat)} {t : Nat} {p : List Nat} (hp : L[t]? = some p) (hne : p ≠ []) (h0 : 0 < t) (hL : ∀ p ∈ L, p ≠ []) :
    bstT c L (t + 1) = if c p < (bstT c L t).2 then (p, c p) else bstT c L t := by
  obtain ⟨hlt, hpe⟩ := List.getElem?_eq_some_iff.1 hp
  unfold bstT
  rw [List.take_succ_eq_append_getElem hlt, List.foldl_append, hpe]
  simp only [List.foldl_cons, List.foldl_nil]
  obtain ⟨x, r, rfl⟩ : ∃ x r, p = x :: r := by cases p with | nil => exact absurd rfl hne | cons x r => exact ⟨x, r, rfl⟩
  have hb := bestAt (c := c) hL t (by omega)
  rcases hs : (L.take t).foldl (stpB c) none with _ | ⟨⟨y, r2⟩, m⟩
  · rw [hs] at hb; have : t = 0 := hb; omega
  · simp only [stpB]
    by_cases hc : c (x :: r) < m
    · rw [if_pos hc, if_pos hc]
    · rw [if_neg hc, if_neg hc]
theorem bstT_one {c : List Nat → Int} {L : List (List Nat)} {p : List Nat} (hp : L[0]? = some p) (hne : p ≠ []) : bstT c L 1 = (p, c p) := by
  obtain ⟨x, r, rfl⟩ : ∃ x r, p = x :: r := by cases p with | nil => exact absurd rfl hne | cons x r => exact ⟨x, r, rfl⟩
  cases L with
  | nil => simp at hp
  | cons y L =>
    simp at hp; subst hp
    rfl
theorem best_bstT {f : Frt} (hf : checkF f = 0) : bestS f = ((bstT (costS f.ords f.caps.length (worstW f)) (plansS f.ords.length) (plansS f.ords.length).length).1, (bstT (costS f.ords f.caps.length (worstW f)) (plansS f.ords.length) (plansS f.ords.length).length).2, 0) := by
  unfold bestS bestO bstT
  rw [if_neg (by simp [hf]), List.take_length]
  rcases (plansS f.ords.length).foldl (stpB (costS f.ords f.caps.length (worstW f))) none with _ | ⟨⟨_, _⟩, _⟩ <;> rfl
set_option maxHeartbeats 4000000 in
theorem p25 (a b c d : Int) (cs : List (Int × Int)) (os : List Ord) (hc : cs.length ≤ 9223372036854775807) (ho : os.length ≤ 9223372036854775807) (H : AHeap) {Kk : AV → AHeap → Prop}
    (h : Kk (.tup [.vs 1 ((bestS ⟨(a, b), (c, d), cs, os⟩).1.map natI), I (bestS ⟨(a, b), (c, d), cs, os⟩).2.1, I (bestS ⟨(a, b), (c, d), cs, os⟩).2.2]) H) :
    ACalls Try.prog 25 [frV a b c d (.vs 2 (cs.map sp)) (.vs 4 (os.map orV))] H Kk := by
  refine (fun q => pureF (by rfl) (by rfl) q H h) ?_
  clear h
  intro Kk h
  obtain ⟨xs, hxs⟩ : ∃ xs, xs = cs.map sp := ⟨_, rfl⟩
  obtain ⟨ys, hys⟩ : ∃ ys, ys = os.map orV := ⟨_, rfl⟩
  rw [← hxs, ← hys]
  obtain ⟨W, hW⟩ : ∃ W, W = bestS ⟨(a, b), (c, d), cs, os⟩ := ⟨_, rfl⟩
  rw [← hW] at h
  obtain ⟨n, hn⟩ : ∃ n, n = os.length := ⟨_, rfl⟩
  obtain ⟨A, hA⟩ : ∃ A, A = std := ⟨_, rfl⟩
  obtain ⟨F, hF⟩ : ∃ F, F = Frees 0 Kk := ⟨_, rfl⟩
  rw [← hF]
  have hsg : ∀ g, A.sg g g := by subst hA; exact fun _ => rfl
  have hll : ∀ x y, A.lt x y = decide (x < y) := by subst hA; intro x y; rfl
  have hvl : A.vlen ys = iLen n := by subst hA; simp [std, hys, hn]
  have hne : ∀ x, A.ne x 0 = decide (x ≠ 0) := by subst hA; intro x; simp only [std, iNe]; rw [Bool.eq_iff_iff]; simp
  refine go25 rfl (SGo_run hA ⟨[2], [], (20, eCheckFr) :: (74, eWinR (fun _ b _ _ => b) (fun _ _ c _ => c) (·.1)) :: [], []⟩ (.cons (eCheckFr_ok p20) (.cons eWorstR_ok .nil)) .nil 200 fun T TD hT hTD => ?_)
  cbv
  refine Exists.intro cs (Exists.intro os (And.intro hxs (And.intro hys (And.intro hc (And.intro ho ?_)))))
  intro q hq; cbv
  split <;> cbv
  · rename_i hz
    have hz : q ≠ 0 := by have hz := (hne q).symm.trans hz; simpa using hz
    unfold bestS at hW
    rw [← hq, if_pos hz] at hW
    rw [hW] at h
    rw [hF]
    exact Frees.wk (r' := .tup [.vs 1 [], I 0, I q]) (Wk.tup ⟨Wk.nil, Wk.rfl, Wk.rfl, trivial⟩) (Frees.drop0 h rfl)
  rename_i hz
  have hz : q = 0 := by have hz := (hne q).symm.trans hz; simpa using hz
  rw [hz] at hq
  have hV := checkF_ok hq.symm
  have hn1 := hV.o1
  have hn2 := hV.o2
  have hc2 := hV.c2
  have hlo := hV.lo
  dsimp only at hn1 hn2 hc2 hlo
  rw [← hn] at hn1 hn2
  have hbt := best_bstT hq.symm
  rw [← hW] at hbt
  dsimp only at hbt
  obtain ⟨cst, hcst⟩ : ∃ q, q = costS os cs.length (worstW ⟨(a, b), (c, d), cs, os⟩) := ⟨_, rfl⟩
  rw [← hcst, ← hn] at hbt
  obtain ⟨L, hL⟩ : ∃ L, L = plansS n := ⟨_, rfl⟩
  rw [← hL] at hbt
  have hpm : ∀ p ∈ L, p.Perm (List.range n) := fun p hp => plans_perm hn1 hn2 (hL ▸ hp)
  have hpne : ∀ p ∈ L, p ≠ [] := fun p hp => plans_ne hn1 hn2 (hL ▸ hp)
  have hnx : ∀ (i : Nat) p, L[i]? = some p → nextF p = L[i + 1]? := fun i p hp => by rw [hL] at hp ⊢; exact plans_next hn1 hn2 hp
  have hL0 : L[0]? = some (List.range n) := by rw [hL]; exact plans_zero hn1 hn2
  refine Exists.intro cs (And.intro ⟨hxs, by omega⟩ ?_)
  intro zs hzs; cbv
  obtain ⟨z0, hz0⟩ : ∃ z, z = rowF n (Go.Sas.hF 0) := ⟨_, rfl⟩
  have hmk : A.mkz 1 8 [.int .i64 0] (A.vlen ys) (A.vlen ys) z0 n := by
    rw [hvl, hz0]; subst hA
    exact ⟨by unfold iLen; omega, Int.le_refl _, by unfold iLen; omega, by unfold iLen; omega, rfl, by unfold iLen; omega, by rw [hF_zero, ← zeros_row]; rfl⟩
  refine Exists.intro _ (Exists.intro _ (And.intro hmk ?_)); cbv
  rw [hT]
  refine AGo_upE [1, 6, 7] n (fun _ (_ : Unit) => True) (fun j _ i => [(8, I i)]) (fun j _ => [.own 0 [I a, I b, I c, I d, .vs 2 xs, .vs 4 ys], .own 0 [I b, I c, .vs 1 zs], .own 0 (rowF n (Go.Sas.hF j))]) () trivial ⟨rfl, trivial⟩ (.inl (by rw [hz0])) fun j _ i hi hj _ Bk hB => ?_
  clear hT hTD T TD
  have hlt : A.lt i (A.len n) = decide (j < n) := by rw [hll, hi]; subst hA; show decide (iLen j < iLen n) = _; simp [iLen]
  have hadd : ∀ N, j < N → N ≤ 9223372036854775807 → A.add .i64 i 1 = iLen (j + 1) := fun N hj hN => by subst hA; exact add_one hi hj hN
  obtain ⟨z1, hz1⟩ : ∃ z, z = rowF n (Go.Sas.hF j) := ⟨_, rfl⟩
  rw [← hz1]
  refine SGo_run hA ⟨[2], [1000035], [], []⟩ .nil .nil 200 fun T TD hT hTD => ?_
  cbv
  refine And.intro (hsg _) ?_
  split <;> cbv
  · rename_i hk0
    have hk1 : j < n := by have hz := hlt.symm.trans hk0; simpa using hz
    clear hk0
    obtain ⟨z2, hz2⟩ : ∃ z, z = rowF n (Go.Sas.hF (j + 1)) := ⟨_, rfl⟩
    have hix : A.ixm 1 1 0 n i j := by subst hA; exact ixm1 hi hk1
    have hup : A.upd 1 z1 j [I i] z2 := by rw [hz1, hz2, hi, ← hF_succ]; subst hA; exact updS_row hk1
    refine And.intro (hsg _) (Exists.intro _ (And.intro hix ?_)); cbv
    refine And.intro (hsg _) (Exists.intro _ (And.intro hup ?_)); cbv
    exact hB () _ _ hk1 trivial ⟨congrArg I (hadd _ hk1 (by omega)), trivial⟩ ⟨rfl, rfl, rfl, trivial⟩ (.inl (by rw [hz2]))
  rename_i hk0
  have hk1 : ¬ j < n := by have hz := hlt.symm.trans hk0; simpa using hz
  clear hk0
  have hjn : j = n := by omega
  rw [hTD]
  have hz1r : z1 = (List.range n).map natI := by rw [hz1, hjn, hF_all]
  have hEz : Elems 1 z1 z1 := by rw [hz1r]; exact Elems_nat _
  refine DGo_appMs (xs := z1) rfl rfl rfl (by rw [hz1r]; simp) rfl hEz (by omega) (.inr ⟨SubH.same (SubH.same (SubH.same trivial)), by simp [ResK], .inr fun _ => SubH.same (SubH.same (SubH.same trivial))⟩) ?_
  clear hT hTD T TD
  refine SD_run hA ⟨[], [], [], (75, eMut eCostR) :: []⟩ .nil (.cons (eMut_ok eCostR_ok) .nil) 200 200 (fun D' hD' => by cases hD'; exact SubH.same (SubH.same (SubH.same trivial))) fun T TD hT hTD => ?_
  cbv
  have hzl : z1.length = n := by rw [hz1r]; simp
  have hrn : (List.range n).Nodup := List.nodup_range
  have hWW : worstW ⟨(a, b), (c, d), cs, os⟩ = ⟨b, c, cs.map (·.1)⟩ := rfl
  refine Exists.intro z1 (And.intro ⟨rfl, hEz, hzl⟩ ?_); cbv
  refine Exists.intro cs (Exists.intro os (Exists.intro (cs.map (·.1)) (Exists.intro (List.range n) (And.intro ⟨hxs, hys, hzs, hz1r⟩ (And.intro ⟨hV, by simp, hlo, hrn, fun k hk => by rw [← hn]; exact List.mem_range.1 hk, by simp; omega⟩ ?_)))))
  intro q0 hq0
  rw [← hWW, ← hcst] at hq0
  cbv
  refine And.intro (by subst hA; exact .inr ⟨SubH.same (SubH.same (SubH.same trivial)), by simp [ResK], .inr fun _ => SubH.same (SubH.same (SubH.same trivial))⟩) ?_
  cbv
  rw [hT]
  have e9 : AV.frz 3 0 1 z1 (.ms 1 3 0 0 n) = .vs 1 z1 := frz_self hzl
  have e7 : AV.frz 3 0 1 z1 (.ms 1 2 0 0 n) = .ms 1 2 0 0 n := by simp [AV.frz]
  have hzn : AV.nidL z1 = true := by rw [hz1r]; exact nidL_natI _
  refine AGo_frz 3 0 1 z1 rfl hEz ?_
  show AGo _ _ _ _ ⟨[], [(8, I i), (1, .mp 0 0 0), (6, .mp 1 0 0), (7, AV.frz 3 0 1 z1 (.ms 1 2 0 0 n)), (26, B false), (9, AV.frz 3 0 1 z1 (.ms 1 3 0 0 n)), (10, I q0)]⟩ [.own 0 [I a, I b, I c, I d, .vs 2 xs, .vs 4 ys], .own 0 [I b, I c, .vs 1 zs], .own 0 (AV.frzL 3 0 1 z1 z1), .gone]
  rw [e9, e7, AV.frzL_nid hzn]
  have hL1 : 0 < L.length := (List.getElem?_eq_some_iff.1 hL0).1
  have hb1 := bstT_one (c := cst) hL0 (hpne _ (List.mem_of_getElem? hL0))
  refine AGo_whileE [1, 6, 7] (fun (s : Nat × List Nat) => L.length - s.1) (fun s => L[s.1]? = some s.2) (fun s => [(9, .vs 1 ((bstT cst L (s.1 + 1)).1.map natI)), (10, I (bstT cst L (s.1 + 1)).2)])
    (fun s => [.own 0 [I a, I b, I c, I d, .vs 2 xs, .vs 4 ys], .own 0 [I b, I c, .vs 1 zs], .own 0 (s.2.map natI)]) (0, List.range n) hL0 ⟨by rw [hb1, hz1r]; rfl, by rw [hb1, hq0]; rfl, trivial⟩
    (.inr ⟨⟨[.gone], by rw [hz1r]; rfl⟩, Nat.zero_le _, by simp [ltG, AV.lt, AV.ltL, keepS, look], by simp [ltH, AObj.lt, AV.lt, AV.ltL, AV.ltL_nid, nidL_natI]⟩) fun s hP Bk2 hB2 => ?_
  clear hT hTD T TD hB
  obtain ⟨t, p⟩ := s
  dsimp only at hP hB2 ⊢
  have hpp := hpm p (List.mem_of_getElem? hP)
  have hpl : p.length = n := by have := hpp.length_eq; simpa using this
  have htl := (List.getElem?_eq_some_iff.1 hP).1
  have hnxt := hnx t p hP
  obtain ⟨pc, hpc⟩ : ∃ r, r = p.map natI := ⟨_, rfl⟩
  obtain ⟨bv, hbv⟩ : ∃ r, r = (bstT cst L (t + 1)).1.map natI := ⟨_, rfl⟩
  obtain ⟨bn, hbn⟩ : ∃ r, r = (bstT cst L (t + 1)).2 := ⟨_, rfl⟩
  rw [← hpc, ← hbv, ← hbn]
  refine SGo_run hA ⟨[], [1000051], [], (29, eNext) :: (75, eMut eCostR) :: []⟩ .nil (.cons eNext_ok (.cons (eMut_ok eCostR_ok) .nil)) 200 fun T TD hT hTD => ?_
  cbv
  refine Exists.intro p (And.intro ⟨hpc, hpl.symm, hn1, by omega⟩ (And.intro ?_ ?_))
  · intro hno; cbv
    have htL : t + 1 = L.length := by
      rcases Nat.lt_or_ge (t + 1) L.length with h9 | h9
      · rw [hnxt, List.getElem?_eq_getElem h9] at hno; cases hno
      · omega
    rw [hF]
    rw [htL] at hbv hbn
    have e1 : W = ((bstT cst L L.length).1, (bstT cst L L.length).2, 0) := hbt
    refine Frees.drop0 ?_ rfl
    rw [e1] at h
    rw [hbv, hbn]; exact h
  · intro r qc hso hqc; cbv
    have hr1 : L[t + 1]? = some r := by rw [← hnxt]; exact hso
    have hrm := List.mem_of_getElem? hr1
    have hrp := hpm r hrm
    have hrl : r.length = n := by have := hrp.length_eq; simpa using this
    have hrnd : r.Nodup := hrp.nodup_iff.2 List.nodup_range
    have hrlt : ∀ k ∈ r, k < n := fun k hk => List.mem_range.1 (hrp.mem_iff.1 hk)
    have hEq : Elems 1 qc qc := by rw [hqc]; exact Elems_nat r
    have hql : qc.length = n := by rw [hqc]; simp [hrl]
    have hlt9 := (List.getElem?_eq_some_iff.1 hr1).1
    have hbs := bstT_succ (c := cst) hr1 (hpne r hrm) (by omega) hpne
    refine Exists.intro qc (And.intro ⟨rfl, hEq, hql⟩ ?_); cbv
    refine Exists.intro cs (Exists.intro os (Exists.intro (cs.map (·.1)) (Exists.intro r (And.intro ⟨hxs, hys, hzs, hqc⟩ (And.intro ⟨hV, by simp, hlo, hrnd, fun k hk => by rw [← hn]; exact hrlt k hk, by omega⟩ ?_)))))
    intro q1 hq1
    rw [← hWW, ← hcst] at hq1
    have hl9 := hll q1 bn
    cbv
    split <;> cbv
    · rename_i hz9
      have hz9 : cst r < (bstT cst L (t + 1)).2 := by have hz9 := hl9.symm.trans hz9; rw [decide_eq_true_eq, hq1, hbn] at hz9; exact hz9
      rw [if_pos hz9] at hbs
      rw [hT]
      refine AGo_appMs (xs := qc) rfl rfl rfl hql rfl hEq (by omega) ?_
      clear hT hTD T TD
      refine SGo_run hA ⟨[], [], [], []⟩ .nil .nil 200 fun T TD hT hTD => ?_
      cbv
      refine hB2 (t + 1, r) _ _ (by dsimp only; omega) hr1 ⟨by rw [hbs, hqc]; rfl, by rw [hbs, hq1]; rfl, trivial⟩ ⟨rfl, rfl, rfl, trivial⟩ (.inr ⟨⟨[.gone], by rw [hqc]; rfl⟩, Nat.zero_le _, by simp [ltG, AV.lt, AV.ltL, keepS, look], by simp [ltH, AObj.lt, AV.lt, AV.ltL, AV.ltL_nid, nidL_natI]⟩)
    · rename_i hz9
      have hz9 : ¬ cst r < (bstT cst L (t + 1)).2 := by have hz9 := hl9.symm.trans hz9; rw [decide_eq_false_iff_not, hq1, hbn] at hz9; exact hz9
      rw [if_neg hz9] at hbs
      refine hB2 (t + 1, r) _ _ (by dsimp only; omega) hr1 ⟨by rw [hbs, hbv]; rfl, by rw [hbs, hbn]; rfl, trivial⟩ ⟨rfl, rfl, rfl, trivial⟩ (.inl (by rw [hqc]))
end Go.Sas
