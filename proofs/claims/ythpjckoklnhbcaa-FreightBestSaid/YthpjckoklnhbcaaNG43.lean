/-
Freight: the law FreightBest: its core.
Conditions: none.
-/
import Derived.Test.YthpjckoklnhbcaaZ18
import Derived.Test.YthpjckoklnhbcaaZN
import Derived.Test.YthpjckoklnhbcaaZA
import Derived.Test.YthpjckoklnhbcaaNFL5
set_option linter.unusedVariables false
set_option linter.unusedSimpArgs false
namespace Go.Sas
open Go.Proofs
set_option maxRecDepth 100000
def eSameI : List AV → Option ((AV → Prop) → Prop)
  | [.vs 1 xs, .vs 1 ys] => some fun K => ∃ l l' : List Int, (xs = l.map I ∧ ys = l'.map I ∧ l.length ≤ 9223372036854775807 ∧ l'.length ≤ 9223372036854775807) ∧ ∀ q, q = decide (l = l') → K (B q)
  | _ => none
theorem eSameI_ok : ∀ args pt, eSameI args = some pt → ∀ (H : AHeap) (Kk : AV → AHeap → Prop), pt (fun r => Kk r H) → ACalls Try.prog 28 args H Kk := by
  intro args pt h H Kk hk
  unfold eSameI at h
  split at h
  · cases h
    obtain ⟨l, l', ⟨rfl, rfl, h1, h2⟩, h3⟩ := hk
    exact p28 _ _ h1 h2 H (h3 _ rfl)
  · cases h
def eBestP : List AV → Option ((AV → Prop) → Prop)
  | [.agg [.lit (.int .i64 a), .lit (.int .i64 b), .lit (.int .i64 c), .lit (.int .i64 d), .vs 2 xs, .vs 4 ys]] =>
    some fun K => ∃ (cs : List (Int × Int)) (os : List Ord), (xs = cs.map sp ∧ ys = os.map orV ∧ cs.length ≤ 9223372036854775807 ∧ os.length ≤ 9223372036854775807) ∧
      ∀ rs n q, rs = (bestS ⟨(a, b), (c, d), cs, os⟩).1.map natI → n = (bestS ⟨(a, b), (c, d), cs, os⟩).2.1 → q = (bestS ⟨(a, b), (c, d), cs, os⟩).2.2 → K (.tup [.vs 1 rs, I n, I q])
  | _ => none
theorem eBestP_ok : ∀ args pt, eBestP args = some pt → ∀ (H : AHeap) (Kk : AV → AHeap → Prop), pt (fun r => Kk r H) → ACalls Try.prog 24 args H Kk := by
  intro args pt h H Kk hk
  unfold eBestP at h
  split at h
  · cases h
    obtain ⟨cs, os, ⟨rfl, rfl, h1, h2⟩, h3⟩ := hk
    exact p24 _ _ _ _ _ _ h1 h2 H (h3 _ _ _ rfl rfl rfl)
  · cases h
theorem natI_map (p : List Nat) : p.map natI = (p.map iLen).map I := by rw [List.map_map]; rfl
theorem same_nat {p q : List Nat} : (p.map iLen = q.map iLen) ↔ p = q := by
  constructor
  · intro h
    have := List.map_inj_right (f := iLen) (l := p) (l' := q) (fun x y h => by unfold iLen at h; omega)
    exact this.1 h
  · intro h; rw [h]
def gF (j k : Nat) : Int := if k < j then iLen k else 0
theorem gF_zero : gF 0 = fun _ => 0 := by funext k; simp [gF]
theorem gF_succ {j : Nat} : updF (gF j) j (iLen j) = gF (j + 1) := by
  funext k; unfold updF gF
  by_cases h : k = j
  · subst h; rw [if_pos rfl, if_pos (by omega)]
  · rw [if_neg h]
    by_cases h2 : k < j
    · rw [if_pos h2, if_pos (by omega)]
    · rw [if_neg h2, if_neg (by omega)]
theorem gF_all {n : Nat} : rowF n (gF n) = (List.range n).map natI := by
  unfold rowF
  apply List.map_congr_left
  intro k hk
  simp only [gF, if_pos (List.mem_range.1 hk)]
theorem ltn_nat {n : Nat} (l : List Nat) : AV.ltL n (l.map natI) := by
  refine AV.ltL_nid ?_
  induction l with
  | nil => rfl
  | cons x l ih => simpa [AV.nidL, AV.nid] using ih
set_option maxHeartbeats 4000000 in
theorem core5 (nums : List Int) (hn1 : nums.length ≤ 9223372036854775807) : ACalls Try.prog 5 [.vs 1 (nums.map I)] [] fun r _ => r = .lit (.bool true) := by
  obtain ⟨Kk, hKk⟩ : ∃ K : AV → AHeap → Prop, K = fun r _ => r = .lit (.bool true) := ⟨_, rfl⟩
  rw [← hKk]
  have h : ∀ H, Kk (B true) H := fun H => by rw [hKk]
  clear hKk
  obtain ⟨xn, hxn⟩ : ∃ ys, ys = nums.map I := ⟨_, rfl⟩
  rw [← hxn]
  obtain ⟨A, hA⟩ : ∃ A, A = std := ⟨_, rfl⟩
  have hne0 : A.ne 0 0 = false := by subst hA; rfl
  have hnn : ∀ x y, A.ne x y = decide (x ≠ y) := by subst hA; intro x y; simp only [std, iNe]; rw [Bool.eq_iff_iff]; simp
  have hee : ∀ x y, A.eq x y = decide (x = y) := by subst hA; intro x y; simp only [std, iEq]; rw [Bool.eq_iff_iff]; simp
  have hll : ∀ x y, A.lt x y = decide (x < y) := by subst hA; intro x y; rfl
  have hnb : ∀ b, A.bnot b = !b := by subst hA; intro b; rfl
  have hsg : ∀ g, A.sg g g := by subst hA; exact fun _ => rfl
  refine go5 rfl (SGo_run hA ⟨[2], [0], (24, eBestP) :: [], edF⟩ (.cons eBestP_ok .nil) edF_ok 200 fun T TD hT hTD => ?_)
  cbv
  refine Exists.intro nums (And.intro ⟨hxn, hn1⟩ ?_)
  intro w1
  cbv
  refine Exists.intro () (And.intro (by omega) ?_)
  rintro w2 _ ⟨a, b, c, d, xs, ys, cs, os, rfl, hxs, hys, hf, _⟩
  have hV := checkF_ok hf
  have ho1 := hV.o1
  have ho2 := hV.o2
  have hc2 := hV.c2
  dsimp only at ho1 ho2 hc2
  obtain ⟨bp, ib, hbs, hbi, hbm, hbl⟩ := best_spec hV hf
  obtain ⟨cst, hcst⟩ : ∃ q, q = costS os cs.length (worstW ⟨(a, b), (c, d), cs, os⟩) := ⟨_, rfl⟩
  dsimp only at hbs hbi hbm hbl
  rw [← hcst] at hbs hbm hbl
  obtain ⟨n, hn⟩ : ∃ n, n = os.length := ⟨_, rfl⟩
  rw [← hn] at ho1 ho2 hbi hbm hbl
  obtain ⟨L, hL⟩ : ∃ L, L = plansS n := ⟨_, rfl⟩
  have hpm : ∀ p ∈ L, p.Perm (List.range n) := fun p hp => plans_perm ho1 ho2 (hL ▸ hp)
  have hnx : ∀ (i : Nat) p, L[i]? = some p → nextF p = L[i + 1]? := fun i p hp => by rw [hL] at hp ⊢; exact plans_next ho1 ho2 hp
  have hL0 : L[0]? = some (List.range n) := by rw [hL]; exact plans_zero ho1 ho2
  rw [← hL] at hbi hbm hbl
  have hvl : A.vlen ys = iLen n := by subst hA; simp [std, hys, hn]
  cbv
  refine Exists.intro cs (Exists.intro os (And.intro ⟨hxs, hys, by omega, by omega⟩ ?_))
  intro rs nb q hrs hnb2 hq
  rw [hbs] at hrs hnb2 hq
  dsimp only at hrs hnb2 hq
  subst hq
  cbv
  split <;> cbv
  · rename_i hz; exact Bool.noConfusion (hz.symm.trans hne0)
  obtain ⟨z0, hz0⟩ : ∃ z, z = rowF n (gF 0) := ⟨_, rfl⟩
  have hmk : A.mkz 1 8 [.int .i64 0] (A.vlen ys) (A.vlen ys) z0 n := by
    rw [hvl, hz0]; subst hA
    exact ⟨by unfold iLen; omega, Int.le_refl _, by unfold iLen; omega, by unfold iLen; omega, rfl, by unfold iLen; omega, by rw [gF_zero, ← zeros_row]; rfl⟩
  refine Exists.intro _ (Exists.intro _ (And.intro hmk ?_)); cbv
  rw [hT]
  refine AGo_upE [3, 4, 5, 7] n (fun _ (_ : Unit) => True) (fun j _ i => [(8, I i)]) (fun j _ => [.own 0 [U w2], .own 0 [I a, I b, I c, I d, .vs 2 xs, .vs 4 ys], .own 0 (rowF n (gF j))]) () trivial ⟨rfl, trivial⟩ (.inl (by rw [hz0])) fun j _ i hi hj _ Bk hB => ?_
  clear hT hTD T TD
  have hlt : A.lt i (A.len n) = decide (j < n) := by rw [hll, hi]; subst hA; show decide (iLen j < iLen n) = _; simp [iLen]
  have hadd : ∀ N, j < N → N ≤ 9223372036854775807 → A.add .i64 i 1 = iLen (j + 1) := fun N hj hN => by subst hA; exact add_one hi hj hN
  obtain ⟨z1, hz1⟩ : ∃ z, z = rowF n (gF j) := ⟨_, rfl⟩
  rw [← hz1]
  refine SGo_run hA ⟨[2], [0], [], []⟩ .nil .nil 200 fun T TD hT hTD => ?_
  cbv
  refine And.intro (hsg _) ?_
  split <;> cbv
  · rename_i hk0
    have hk1 : j < n := by have hz := hlt.symm.trans hk0; simpa using hz
    clear hk0
    obtain ⟨z2, hz2⟩ : ∃ z, z = rowF n (gF (j + 1)) := ⟨_, rfl⟩
    have hix : A.ixm 1 1 0 n i j := by subst hA; exact ixm1 hi hk1
    have hup : A.upd 1 z1 j [I i] z2 := by rw [hz1, hz2, hi, ← gF_succ]; subst hA; exact updS_row hk1
    refine And.intro (hsg _) (Exists.intro _ (And.intro hix ?_)); cbv
    refine And.intro (hsg _) (Exists.intro _ (And.intro hup ?_)); cbv
    exact hB () _ _ hk1 trivial ⟨congrArg I (hadd _ hk1 (by omega)), trivial⟩ ⟨rfl, rfl, rfl, rfl, trivial⟩ (.inl (by rw [hz2]))
  rename_i hk0
  have hk1 : ¬ j < n := by have hz := hlt.symm.trans hk0; simpa using hz
  clear hk0
  have hjn : j = n := by omega
  rw [hT]
  have hbp : bp.length = n := by have := (hpm bp (List.mem_of_getElem? hbi)).length_eq; simpa using this
  have hib := (List.getElem?_eq_some_iff.1 hbi).1
  have hL1 : 0 < L.length := (List.getElem?_eq_some_iff.1 hL0).1
  refine AGo_whileE [3, 4, 5, 7] (fun (s : Nat × List Nat × Bool) => L.length - s.1) (fun s => s.1 ≤ L.length ∧ s.2.1.length = n ∧ (s.1 < L.length → L[s.1]? = some s.2.1) ∧ (s.2.2 = true ↔ ∀ j, j < s.1 → L[j]? ≠ some bp))
    (fun s => [(9, B s.2.2), (10, B (decide (s.1 < L.length)))]) (fun s => [.own 0 [U w2], .own 0 [I a, I b, I c, I d, .vs 2 xs, .vs 4 ys], .own 0 (s.2.1.map natI)]) (0, List.range n, true)
    ⟨Nat.zero_le _, by simp, fun _ => hL0, ⟨fun _ j hj => absurd hj (by omega), fun _ => rfl⟩⟩ ⟨rfl, by simp [look, hL1], trivial⟩ (.inl (by rw [hz1, hjn, gF_all])) fun s hP Bk hB => ?_
  clear hT hTD T TD
  obtain ⟨t, p, bf⟩ := s
  obtain ⟨hP1, hP2, hP3, hP4⟩ := hP
  dsimp only at hP1 hP2 hP3 hP4 ⊢
  obtain ⟨mo, hmo⟩ : ∃ m, m = decide (t < L.length) := ⟨_, rfl⟩
  obtain ⟨pc, hpc⟩ : ∃ r, r = p.map natI := ⟨_, rfl⟩
  rw [← hmo, ← hpc]
  refine SGo_run hA ⟨[2], [0], (17, eAwake) :: [], (28, eMut eSameI) :: (29, eNext) :: (30, eMut eRange) :: []⟩ (.cons eAwake_ok .nil) (.cons (eMut_ok eSameI_ok) (.cons eNext_ok (.cons (eMut_ok eRange_ok) .nil))) 200 fun T TD hT hTD => ?_
  cbv
  have hEp : Elems 1 pc pc := by rw [hpc]; exact Elems_nat p
  cases mo <;> cbv
  · have htL : t = L.length := by have := of_decide_eq_false hmo.symm; omega
    have hbf : bf = false := by
      cases bf with
      | false => rfl
      | true => exact absurd hbi (hP4.1 rfl ib (by omega))
    have hz1 : A.bnot bf = true := by rw [hnb, hbf]; rfl
    split <;> cbv
    · exact h _
    · rename_i hz; exact Bool.noConfusion (hz.symm.trans hz1)
  · have htL : t < L.length := of_decide_eq_true hmo.symm
    have hpt := hP3 htL
    have hpp := hpm p (List.mem_of_getElem? hpt)
    obtain ⟨hP, hpn, hpm2⟩ := perm_plan hpp
    rw [hn] at hP
    have hpcI : pc = (p.map iLen).map I := by rw [hpc]; exact hpm2
    have hrsI : rs = (bp.map iLen).map I := by rw [hrs]; exact natI_map bp
    refine Exists.intro pc (And.intro ⟨rfl, hEp, by rw [hpc]; simp [hP2]⟩ ?_); cbv
    refine Exists.intro cs (Exists.intro os (Exists.intro (p.map iLen) (And.intro ⟨hxs, hys, hpcI⟩ (And.intro ⟨hf, hP⟩ ?_))))
    intro lo hi2 _ hhi
    rw [hpn, ← hcst] at hhi
    cbv
    refine Exists.intro pc (And.intro ⟨rfl, hEp, by rw [hpc]; simp [hP2]⟩ ?_); cbv
    refine Exists.intro (p.map iLen) (Exists.intro (bp.map iLen) (And.intro ⟨hpcI, hrsI, by simp; omega, by simp; omega⟩ ?_))
    intro q hq
    have hq : q = decide (p = bp) := by rw [hq]; exact decide_eq_decide.2 same_nat
    have hge : nb ≤ hi2 := by rw [hhi, hnb2]; exact hbm t p hpt
    have hz2 : A.lt hi2 nb = false := by rw [hll]; simp; omega
    have hz3 : q = true → A.ne hi2 nb = false := fun hqt => by
      have hpb : p = bp := of_decide_eq_true (hq.symm.trans hqt)
      rw [hnn, hhi, hnb2, hpb]; simp
    have hz4 : bf = true → q = false → A.eq hi2 nb = false := fun h1 h2 => by
      have hpb : p ≠ bp := of_decide_eq_false (hq.symm.trans h2)
      have hti : t < ib := by
        rcases Nat.lt_trichotomy t ib with h3 | h3 | h3
        · exact h3
        · subst h3; rw [hbi] at hpt; cases hpt; exact absurd rfl hpb
        · exact absurd hbi (hP4.1 h1 ib h3)
      have := hbl t p hti hpt
      rw [hee, decide_eq_false_iff_not, hhi, hnb2]; omega
    have hP4' : (bf && !q) = true ↔ ∀ j, j < t + 1 → L[j]? ≠ some bp := by
      rw [Bool.and_eq_true, hP4, hq]
      simp only [Bool.not_eq_true', decide_eq_false_iff_not]
      constructor
      · rintro ⟨h1, h2⟩ j hj hjb
        rcases Nat.lt_or_ge j t with h3 | h3
        · exact h1 j h3 hjb
        · have : j = t := by omega
          subst this; rw [hpt] at hjb; cases hjb; exact h2 rfl
      · intro h1
        exact ⟨fun j hj => h1 j (by omega), fun h2 => h1 t (by omega) (by rw [hpt, h2])⟩
    have hnxt := hnx t p hpt
    clear hhi hq hge
    have hbf1 : A.bnot true = false := by rw [hnb]; rfl
    have hbf2 : A.bnot false = true := by rw [hnb]; rfl
    cases bf <;> cases q <;> cbv
    · split <;> cbv
      · rename_i hz; exact Bool.noConfusion (hz.symm.trans hne0)
      split <;> cbv
      · rename_i hz; exact Bool.noConfusion (hz.symm.trans hz2)
      refine Exists.intro p (And.intro ⟨hpc, hP2.symm, ho1, by omega⟩ (And.intro ?_ ?_))
      · intro hno; cbv
        have hdn : decide (t + 1 < L.length) = false := by
          rw [decide_eq_false_iff_not]; intro h9
          rw [hnxt, List.getElem?_eq_getElem h9] at hno; cases hno
        exact hB (t + 1, p, false) _ _ (by dsimp only; omega) ⟨by dsimp only; omega, hP2, fun h9 => absurd h9 (of_decide_eq_false hdn), hP4'⟩ ⟨rfl, congrArg B hdn.symm, trivial⟩ ⟨rfl, rfl, rfl, rfl, trivial⟩ (.inr ⟨⟨[.own 0 [I lo, I hi2]], by rw [hpc]; rfl⟩, Nat.zero_le _, by simp [ltG, AV.lt, AV.ltL, keepS, look], by simp [ltH, AObj.lt, AV.lt, AV.ltL, AV.ltL_nid, ltn_nat]⟩)
      · intro r qc hso hqc; cbv
        have hr1 : L[t + 1]? = some r := by rw [← hnxt]; exact hso
        have hlt9 := (List.getElem?_eq_some_iff.1 hr1).1
        have hdn : decide (t + 1 < L.length) = true := decide_eq_true hlt9
        have hrl : r.length = n := by have := (hpm r (List.mem_of_getElem? hr1)).length_eq; simpa using this
        exact hB (t + 1, r, false) _ _ (by dsimp only; omega) ⟨by dsimp only; omega, hrl, fun _ => hr1, hP4'⟩ ⟨rfl, congrArg B hdn.symm, trivial⟩ ⟨rfl, rfl, rfl, rfl, trivial⟩ (.inr ⟨⟨[.own 0 [I lo, I hi2]], by rw [hqc]; rfl⟩, Nat.zero_le _, by simp [ltG, AV.lt, AV.ltL, keepS, look], by simp [ltH, AObj.lt, AV.lt, AV.ltL, AV.ltL_nid, ltn_nat]⟩)
    · split <;> cbv
      · rename_i hz; exact Bool.noConfusion (hz.symm.trans hne0)
      split <;> cbv
      · rename_i hz; exact Bool.noConfusion (hz.symm.trans (hz3 rfl))
      split <;> cbv
      · rename_i hz; exact Bool.noConfusion (hz.symm.trans hz2)
      refine Exists.intro p (And.intro ⟨hpc, hP2.symm, ho1, by omega⟩ (And.intro ?_ ?_))
      · intro hno; cbv
        have hdn : decide (t + 1 < L.length) = false := by
          rw [decide_eq_false_iff_not]; intro h9
          rw [hnxt, List.getElem?_eq_getElem h9] at hno; cases hno
        exact hB (t + 1, p, false) _ _ (by dsimp only; omega) ⟨by dsimp only; omega, hP2, fun h9 => absurd h9 (of_decide_eq_false hdn), hP4'⟩ ⟨rfl, congrArg B hdn.symm, trivial⟩ ⟨rfl, rfl, rfl, rfl, trivial⟩ (.inr ⟨⟨[.own 0 [I lo, I hi2]], by rw [hpc]; rfl⟩, Nat.zero_le _, by simp [ltG, AV.lt, AV.ltL, keepS, look], by simp [ltH, AObj.lt, AV.lt, AV.ltL, AV.ltL_nid, ltn_nat]⟩)
      · intro r qc hso hqc; cbv
        have hr1 : L[t + 1]? = some r := by rw [← hnxt]; exact hso
        have hlt9 := (List.getElem?_eq_some_iff.1 hr1).1
        have hdn : decide (t + 1 < L.length) = true := decide_eq_true hlt9
        have hrl : r.length = n := by have := (hpm r (List.mem_of_getElem? hr1)).length_eq; simpa using this
        exact hB (t + 1, r, false) _ _ (by dsimp only; omega) ⟨by dsimp only; omega, hrl, fun _ => hr1, hP4'⟩ ⟨rfl, congrArg B hdn.symm, trivial⟩ ⟨rfl, rfl, rfl, rfl, trivial⟩ (.inr ⟨⟨[.own 0 [I lo, I hi2]], by rw [hqc]; rfl⟩, Nat.zero_le _, by simp [ltG, AV.lt, AV.ltL, keepS, look], by simp [ltH, AObj.lt, AV.lt, AV.ltL, AV.ltL_nid, ltn_nat]⟩)
    · split <;> cbv
      · rename_i hz; exact Bool.noConfusion (hz.symm.trans hne0)
      split <;> cbv
      · rename_i hz; exact Bool.noConfusion (hz.symm.trans hz2)
      split <;> cbv
      · split <;> cbv
        · rename_i hz; exact Bool.noConfusion (hz.symm.trans (hz4 rfl rfl))
        refine Exists.intro p (And.intro ⟨hpc, hP2.symm, ho1, by omega⟩ (And.intro ?_ ?_))
        · intro hno; cbv
          have hdn : decide (t + 1 < L.length) = false := by
            rw [decide_eq_false_iff_not]; intro h9
            rw [hnxt, List.getElem?_eq_getElem h9] at hno; cases hno
          exact hB (t + 1, p, true) _ _ (by dsimp only; omega) ⟨by dsimp only; omega, hP2, fun h9 => absurd h9 (of_decide_eq_false hdn), hP4'⟩ ⟨congrArg B hbf2, congrArg B hdn.symm, trivial⟩ ⟨rfl, rfl, rfl, rfl, trivial⟩ (.inr ⟨⟨[.own 0 [I lo, I hi2]], by rw [hpc]; rfl⟩, Nat.zero_le _, by simp [ltG, AV.lt, AV.ltL, keepS, look], by simp [ltH, AObj.lt, AV.lt, AV.ltL, AV.ltL_nid, ltn_nat]⟩)
        · intro r qc hso hqc; cbv
          have hr1 : L[t + 1]? = some r := by rw [← hnxt]; exact hso
          have hlt9 := (List.getElem?_eq_some_iff.1 hr1).1
          have hdn : decide (t + 1 < L.length) = true := decide_eq_true hlt9
          have hrl : r.length = n := by have := (hpm r (List.mem_of_getElem? hr1)).length_eq; simpa using this
          exact hB (t + 1, r, true) _ _ (by dsimp only; omega) ⟨by dsimp only; omega, hrl, fun _ => hr1, hP4'⟩ ⟨congrArg B hbf2, congrArg B hdn.symm, trivial⟩ ⟨rfl, rfl, rfl, rfl, trivial⟩ (.inr ⟨⟨[.own 0 [I lo, I hi2]], by rw [hqc]; rfl⟩, Nat.zero_le _, by simp [ltG, AV.lt, AV.ltL, keepS, look], by simp [ltH, AObj.lt, AV.lt, AV.ltL, AV.ltL_nid, ltn_nat]⟩)
      · rename_i hz; exact Bool.noConfusion (hz.symm.trans hbf2)
    · split <;> cbv
      · rename_i hz; exact Bool.noConfusion (hz.symm.trans hne0)
      split <;> cbv
      · rename_i hz; exact Bool.noConfusion (hz.symm.trans (hz3 rfl))
      split <;> cbv
      · rename_i hz; exact Bool.noConfusion (hz.symm.trans hz2)
      split <;> cbv
      · rename_i hz; exact Bool.noConfusion (hz.symm.trans hbf1)
      refine Exists.intro p (And.intro ⟨hpc, hP2.symm, ho1, by omega⟩ (And.intro ?_ ?_))
      · intro hno; cbv
        have hdn : decide (t + 1 < L.length) = false := by
          rw [decide_eq_false_iff_not]; intro h9
          rw [hnxt, List.getElem?_eq_getElem h9] at hno; cases hno
        exact hB (t + 1, p, false) _ _ (by dsimp only; omega) ⟨by dsimp only; omega, hP2, fun h9 => absurd h9 (of_decide_eq_false hdn), hP4'⟩ ⟨congrArg B hbf1, congrArg B hdn.symm, trivial⟩ ⟨rfl, rfl, rfl, rfl, trivial⟩ (.inr ⟨⟨[.own 0 [I lo, I hi2]], by rw [hpc]; rfl⟩, Nat.zero_le _, by simp [ltG, AV.lt, AV.ltL, keepS, look], by simp [ltH, AObj.lt, AV.lt, AV.ltL, AV.ltL_nid, ltn_nat]⟩)
      · intro r qc hso hqc; cbv
        have hr1 : L[t + 1]? = some r := by rw [← hnxt]; exact hso
        have hlt9 := (List.getElem?_eq_some_iff.1 hr1).1
        have hdn : decide (t + 1 < L.length) = true := decide_eq_true hlt9
        have hrl : r.length = n := by have := (hpm r (List.mem_of_getElem? hr1)).length_eq; simpa using this
        exact hB (t + 1, r, false) _ _ (by dsimp only; omega) ⟨by dsimp only; omega, hrl, fun _ => hr1, hP4'⟩ ⟨congrArg B hbf1, congrArg B hdn.symm, trivial⟩ ⟨rfl, rfl, rfl, rfl, trivial⟩ (.inr ⟨⟨[.own 0 [I lo, I hi2]], by rw [hqc]; rfl⟩, Nat.zero_le _, by simp [ltG, AV.lt, AV.ltL, keepS, look], by simp [ltH, AObj.lt, AV.lt, AV.ltL, AV.ltL_nid, ltn_nat]⟩)
end Go.Sas
