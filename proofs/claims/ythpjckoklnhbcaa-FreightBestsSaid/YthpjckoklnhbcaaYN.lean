/-
Freight: the next list of the same numbers: plain functions.
Freight: the best plan is the first one of the least cost: plain laws.
Freight: the next list of the same numbers: contract.
Conditions: none.
-/
import Derived.Test.YthpjckoklnhbcaaY11
import Derived.Test.YthpjckoklnhbcaaY14
set_option linter.unusedVariables false
set_option linter.unusedSimpArgs false
namespace Go.Sas
def pivF (l : List Nat) : Nat → Option Nat
  | 0 => none
  | i + 1 => if l.getD (i + 1) 0 ≤ l.getD i 0 then pivF l i else some i
def lastF (l : List Nat) (x : Nat) : Nat → Nat
  | 0 => 0
  | k + 1 => if l.getD (k + 1) 0 ≤ x then lastF l x k else k + 1
def swapF (l : List Nat) (i k : Nat) : List Nat := (l.set i (l.getD k 0)).set k (l.getD i 0)
def revF : Nat → List Nat → Nat → Nat → List Nat
  | 0, l, _, _ => l
  | f + 1, l, a, b => if a < b then revF f (swapF l a b) (a + 1) (b - 1) else l
def nextF (l : List Nat) : Option (List Nat) := match pivF l (l.length - 1) with
  | none => none
  | some i => some (revF l.length (swapF l i (lastF l (l.getD i 0) (l.length - 1))) (i + 1) (l.length - 1))
theorem pivF_spec {l : List Nat} : ∀ {m i : Nat}, pivF l m = some i → i < m ∧ l.getD i 0 < l.getD (i + 1) 0
  | 0, i, h => by simp [pivF] at h
  | m + 1, i, h => by
    simp only [pivF] at h
    split at h
    · have := pivF_spec h; omega
    · cases h; omega
theorem swapF_len {l : List Nat} {i k : Nat} : (swapF l i k).length = l.length := by simp [swapF]
theorem revF_len : ∀ {f : Nat} {l : List Nat} {a b : Nat}, (revF f l a b).length = l.length
  | 0, l, a, b => rfl
  | f + 1, l, a, b => by
    simp only [revF]
    split
    · rw [revF_len, swapF_len]
    · rfl
def chainF : Nat → List Nat → List (List Nat)
  | 0, _ => []
  | f + 1, l => l :: match nextF l with
    | none => []
    | some r => chainF f r
theorem chainA : ∀ n, 1 ≤ n → n ≤ 6 → plansS n = chainF 800 (List.range n)
  | 1, _, _ => by decide +kernel
  | 2, _, _ => by decide +kernel
  | 3, _, _ => by decide +kernel
  | 4, _, _ => by decide +kernel
  | 5, _, _ => by decide +kernel
  | 6, _, _ => by decide +kernel
  | 0, h, _ => absurd h (by decide)
  | n + 7, _, h => absurd h (by omega)
theorem chainF_get : ∀ {f : Nat} {l : List Nat} {i : Nat} {p : List Nat}, (chainF f l)[i]? = some p → (chainF f l).length < f → nextF p = (chainF f l)[i + 1]?
  | 0, l, i, p, h, _ => by simp [chainF] at h
  | f + 1, l, i, p, h, hl => by
    simp only [chainF] at h hl ⊢
    rcases hq : nextF l with _ | r
    · rw [hq] at h
      cases i with
      | zero => simp only [List.getElem?_cons_zero, Option.some.injEq] at h; subst h; rw [hq]; simp
      | succ i => simp at h
    · rw [hq] at h hl
      simp only [List.length_cons] at hl
      cases i with
      | zero =>
        simp only [List.getElem?_cons_zero, Option.some.injEq] at h; subst h; rw [hq]
        cases f with
        | zero => simp [chainF] at hl
        | succ f => simp [chainF]
      | succ i =>
        simp only [List.getElem?_cons_succ] at h ⊢
        exact chainF_get h (by omega)
theorem plans_next {n i : Nat} {p : List Nat} (h1 : 1 ≤ n) (h2 : n ≤ 6) (hp : (plansS n)[i]? = some p) : nextF p = (plansS n)[i + 1]? := by
  have hl : (plansS n).length < 800 := by
    have : ∀ n, n ≤ 6 → (plansS n).length < 800 := by decide +kernel
    exact this n h2
  rw [chainA n h1 h2] at hp hl ⊢
  exact chainF_get hp hl
theorem plans_zero {n : Nat} (h1 : 1 ≤ n) (h2 : n ≤ 6) : (plansS n)[0]? = some (List.range n) := by
  rw [chainA n h1 h2]; rfl
end Go.Sas
namespace Go.Sas
theorem plans_perm {n : Nat} {p : List Nat} (h1 : 1 ≤ n) (h2 : n ≤ 6) (hp : p ∈ plansS n) : p.Perm (List.range n) := by
  have key : ∀ n, n ≤ 6 → ((plansS n).all fun p => p.isPerm (List.range n)) = true := by decide +kernel
  exact List.isPerm_iff.1 (List.all_eq_true.1 (key n h2) p hp)
theorem plans_ne {n : Nat} {p : List Nat} (h1 : 1 ≤ n) (h2 : n ≤ 6) (hp : p ∈ plansS n) : p ≠ [] := by
  have := (plans_perm h1 h2 hp).length_eq
  intro h; subst h; simp at this; omega
/-- the best so far -/
def BestAt (c : List Nat → Int) (L : List (List Nat)) (t : Nat) : Option ((Nat × List Nat) × Int) → Prop
  | none => t = 0
  | some ((x, r), m) => ∃ i, i < t ∧ L[i]? = some (x :: r) ∧ m = c (x :: r) ∧ (∀ (j : Nat) q, j < t → L[j]? = some q → m ≤ c q) ∧ ∀ (j : Nat) q, j < i → L[j]? = some q → m < c q
theorem bestAt {c : List Nat → Int} {L : List (List Nat)} (hne : ∀ p ∈ L, p ≠ []) : ∀ t, t ≤ L.length → BestAt c L t ((L.take t).foldl (stpB c) none)
  | 0, _ => rfl
  | t + 1, ht => by
    have ih := bestAt (c := c) hne t (by omega)
    obtain ⟨p, hp⟩ : ∃ p, L[t]? = some p := ⟨_, List.getElem?_eq_getElem (by omega)⟩
    obtain ⟨hlt, hpe⟩ := List.getElem?_eq_some_iff.1 hp
    rw [List.take_succ_eq_append_getElem hlt, List.foldl_append, hpe]
    simp only [List.foldl_cons, List.foldl_nil]
    obtain ⟨x, r, rfl⟩ : ∃ x r, p = x :: r := by
      cases p with
      | nil => exact absurd rfl (hne [] (List.mem_of_getElem? hp))
      | cons x r => exact ⟨x, r, rfl⟩
    rcases hs : (L.take t).foldl (stpB c) none with _ | ⟨⟨y, r2⟩, m⟩
    · rw [hs] at ih
      have ht0 : t = 0 := ih
      subst ht0
      refine ⟨0, by omega, hp, rfl, fun j q hj hq => ?_, fun j q hj hq => by omega⟩
      have : j = 0 := by omega
      subst this; rw [hp] at hq; cases hq; exact Int.le_refl _
    · rw [hs] at ih
      obtain ⟨i, h1, h2, h3, h4, h5⟩ := ih
      simp only [stpB]
      by_cases hc : c (x :: r) < m
      · rw [if_pos hc]
        refine ⟨t, by omega, hp, rfl, fun j q hj hq => ?_, fun j q hj hq => ?_⟩
        · rcases Nat.lt_or_ge j t with h6 | h6
          · have := h4 j q h6 hq; omega
          · have : j = t := by omega
            subst this; rw [hp] at hq; cases hq; exact Int.le_refl _
        · have := h4 j q hj hq; omega
      · rw [if_neg hc]
        refine ⟨i, by omega, h2, h3, fun j q hj hq => ?_, h5⟩
        rcases Nat.lt_or_ge j t with h6 | h6
        · exact h4 j q h6 hq
        · have : j = t := by omega
          subst this; rw [hp] at hq; cases hq; omega
/-- the best plan -/
theorem best_spec {f : Frt} (hV : FrtV f) (hf : checkF f = 0) : ∃ (b : List Nat) (i : Nat), bestS f = (b, costS f.ords f.caps.length (worstW f) b, 0) ∧ (plansS f.ords.length)[i]? = some b ∧
    (∀ (j : Nat) q, (plansS f.ords.length)[j]? = some q → costS f.ords f.caps.length (worstW f) b ≤ costS f.ords f.caps.length (worstW f) q) ∧
    (∀ (j : Nat) q, j < i → (plansS f.ords.length)[j]? = some q → costS f.ords f.caps.length (worstW f) b < costS f.ords f.caps.length (worstW f) q) := by
  have h1 := hV.o1
  have h2 := hV.o2
  have h := bestAt (c := costS f.ords f.caps.length (worstW f)) (fun p hp => plans_ne h1 h2 hp) (plansS f.ords.length).length (Nat.le_refl _)
  rw [List.take_length] at h
  have hb : bestS f = match bestO f with
    | none => ([], 0, 0)
    | some ((x, r), n) => (x :: r, n, 0) := by
    unfold bestS; rw [if_neg (by simp [hf])]
    rcases bestO f with _ | ⟨⟨_, _⟩, _⟩ <;> rfl
  rw [hb]
  unfold bestO
  rcases hs : (plansS f.ords.length).foldl (stpB (costS f.ords f.caps.length (worstW f))) none with _ | ⟨⟨y, r⟩, m⟩
  · rw [hs] at h
    exfalso
    have h3 : (plansS f.ords.length).length = 0 := h
    have h4 := plans_zero h1 h2
    rw [List.getElem?_eq_none (by omega)] at h4
    cases h4
  · rw [hs] at h
    obtain ⟨i, g1, g2, rfl, g4, g5⟩ := h
    exact ⟨y :: r, i, rfl, g2, fun j q hq => g4 j q (List.getElem?_eq_some_iff.1 hq).1 hq, g5⟩
end Go.Sas
namespace Go.Sas
open Go.Proofs
set_option maxRecDepth 100000
theorem p29l (l : List Nat) (h1 : 1 ≤ l.length) (h2 : l.length ≤ 1000000) (Kk : AV → AHeap → Prop) (hN : nextF l = none → Kk (B false) [.own 0 (l.map natI)]) (hS : ∀ r, nextF l = some r → Kk (B true) [.own 0 (r.map natI)]) :
    ACalls Try.prog 29 [.ms 1 0 0 0 l.length] [.own 0 (l.map natI)] Kk := by
  obtain ⟨pc, hpc⟩ : ∃ ys, ys = l.map natI := ⟨_, rfl⟩
  rw [← hpc] at hN ⊢
  obtain ⟨n, hn⟩ : ∃ n, n = l.length := ⟨_, rfl⟩
  rw [← hn] at h1 h2 ⊢
  obtain ⟨A, hA⟩ : ∃ A, A = std := ⟨_, rfl⟩
  have hln : A.len n = iLen n := by subst hA; rfl
  have hsg : ∀ g, A.sg g g := by subst hA; exact fun _ => rfl
  have hll : ∀ x y, A.lt x y = decide (x < y) := by subst hA; intro x y; rfl
  have hle : ∀ x y, A.le x y = decide (x ≤ y) := by subst hA; intro x y; rfl
  have hsub0 : A.sub .i64 (A.len n) 2 = iLen (n - 1) - 1 := by rw [hln]; subst hA; show iSub .i64 (iLen n) 2 = _; unfold iLen; rw [iSub_id (by omega) (by omega)]; omega
  have hsub1 : A.sub .i64 (A.len n) 1 = iLen (n - 1) := by rw [hln]; subst hA; show iSub .i64 (iLen n) 1 = _; unfold iLen; rw [iSub_id (by omega) (by omega)]; omega
  have hgetD : ∀ k, k < n → A.get none pc k (I (iLen (l.getD k 0))) := fun k hk => by
    subst hA; rw [hpc]; exact getS_map (by rw [List.getD_eq_getElem?_getD, List.getElem?_eq_getElem (by omega)]; rfl)
  refine go29 rfl (SGo_run hA ⟨[0], [], [], []⟩ .nil .nil 200 fun T TD hT hTD => ?_)
  cbv
  refine And.intro (hsg _) ?_
  rw [hT]
  refine AGo_whileE [0] (fun (m : Nat) => m) (fun m => pivF l (n - 1) = pivF l m ∧ m ≤ n - 1) (fun m => [(3, I (iLen m - 1))]) (fun _ => [.own 0 pc]) (n - 1) ⟨rfl, Nat.le_refl _⟩ ⟨congrArg I hsub0, trivial⟩ (.inl rfl) fun m hP Bk hB => ?_
  clear hT hTD T TD
  obtain ⟨i3, hi3⟩ : ∃ i, i = iLen m - 1 := ⟨_, rfl⟩
  obtain ⟨hP1, hP2⟩ := hP
  rw [← hi3]
  refine SGo_run hA ⟨[0], [], [], []⟩ .nil .nil 200 fun T TD hT hTD => ?_
  cbv
  have hzl := hll i3 0
  have hz0 := hle 0 i3
  split <;> cbv
  · rename_i hz
    have hz : 0 ≤ i3 := by have hz := hz0.symm.trans hz; simpa using hz
    obtain ⟨q, rfl⟩ : ∃ q, m = q + 1 := ⟨m - 1, by unfold iLen at hi3; omega⟩
    have hi3 : i3 = iLen q := by rw [hi3]; unfold iLen; omega
    have hqn : q + 1 < n := by omega
    have had : A.add .i64 i3 1 = iLen (q + 1) := by subst hA; rw [hi3]; exact add_one rfl (N := n) (by omega) (by omega)
    have hx1 : A.ixm 1 1 0 n i3 q := by subst hA; exact ixm1 hi3 (by omega)
    have hx2 : A.ixm 1 1 0 n (A.add .i64 i3 1) (q + 1) := by rw [had]; subst hA; exact ixm1 rfl (by omega)
    have hg1 := hgetD q (by omega)
    have hg2 := hgetD (q + 1) (by omega)
    obtain ⟨v1, hv1⟩ : ∃ v, v = iLen (l.getD q 0) := ⟨_, rfl⟩
    obtain ⟨v2, hv2⟩ : ∃ v, v = iLen (l.getD (q + 1) 0) := ⟨_, rfl⟩
    rw [← hv1] at hg1
    rw [← hv2] at hg2
    have hsq : A.sub .i64 i3 1 = iLen q - 1 := by subst hA; rw [hi3]; show iSub .i64 (iLen q) 1 = _; unfold iLen; rw [iSub_id (by omega) (by omega)]
    refine And.intro (hsg _) (Exists.intro _ (And.intro hx1 ?_)); cbv
    refine And.intro (hsg _) (Exists.intro _ (And.intro hg1 ?_)); cbv
    refine And.intro (hsg _) (Exists.intro _ (And.intro hx2 ?_)); cbv
    refine And.intro (hsg _) (Exists.intro _ (And.intro hg2 ?_)); cbv
    have hc := hle v2 v1
    split <;> cbv
    · rename_i hz9
      have hz9 : v2 ≤ v1 := by have hz9 := hc.symm.trans hz9; simpa using hz9
      exact hB q _ _ (by omega) ⟨hP1.trans (by simp only [pivF]; rw [if_pos (by rw [hv1, hv2] at hz9; unfold iLen at hz9; omega)]), by omega⟩ ⟨congrArg I hsq, trivial⟩ ⟨rfl, trivial⟩ (.inl rfl)
    rename_i hz9
    have hz9 : ¬ v2 ≤ v1 := by have hz9 := hc.symm.trans hz9; simpa using hz9
    have hlq : l.getD q 0 < l.getD (q + 1) 0 := by rw [hv1, hv2] at hz9; unfold iLen at hz9; omega
    have hpiv : pivF l (n - 1) = some q := hP1.trans (by simp only [pivF]; rw [if_neg (by omega)])
    clear hB hP1 hN hz9 hc hg2 hx2
    split <;> cbv
    · rename_i hz9; have hz9 := hzl.symm.trans hz9; simp at hz9; omega
    refine And.intro (hsg _) ?_
    rw [hT]
    obtain ⟨xq, hxq⟩ : ∃ x, x = l.getD q 0 := ⟨_, rfl⟩
    refine AGo_whileE [0, 3] (fun (k : Nat) => k) (fun k => lastF l xq (n - 1) = lastF l xq k ∧ q + 1 ≤ k ∧ k ≤ n - 1) (fun k => [(4, I (iLen k))]) (fun _ => [.own 0 pc]) (n - 1) ⟨rfl, by omega, Nat.le_refl _⟩ ⟨congrArg I hsub1, trivial⟩ (.inl rfl) fun k hP Bk hB => ?_
    clear hT hTD T TD
    obtain ⟨i4, hi4⟩ : ∃ i, i = iLen k := ⟨_, rfl⟩
    obtain ⟨hP1, hP2, hP3⟩ := hP
    rw [← hi4]
    have hx4 : A.ixm 1 1 0 n i4 k := by subst hA; exact ixm1 hi4 (by omega)
    have hg4 := hgetD k (by omega)
    obtain ⟨v4, hv4⟩ : ∃ v, v = iLen (l.getD k 0) := ⟨_, rfl⟩
    rw [← hv4] at hg4
    have hsk : A.sub .i64 i4 1 = iLen (k - 1) := by subst hA; rw [hi4]; show iSub .i64 (iLen k) 1 = _; unfold iLen; rw [iSub_id (by omega) (by omega)]; omega
    have hc := hle v4 v1
    obtain ⟨k', rfl⟩ : ∃ k', k = k' + 1 := ⟨k - 1, by omega⟩
    refine SGo_run hA ⟨[0], [2000000], [], []⟩ .nil .nil 200 fun T TD hT hTD => ?_
    cbv
    refine And.intro (hsg _) (Exists.intro _ (And.intro hx4 ?_)); cbv
    refine And.intro (hsg _) (Exists.intro _ (And.intro hg4 ?_)); cbv
    refine And.intro (hsg _) (Exists.intro _ (And.intro hx1 ?_)); cbv
    refine And.intro (hsg _) (Exists.intro _ (And.intro hg1 ?_)); cbv
    split <;> cbv
    · rename_i hz9
      have hz9 : v4 ≤ v1 := by have hz9 := hc.symm.trans hz9; simpa using hz9
      have hz8 : l.getD (k' + 1) 0 ≤ xq := by rw [hv4, hv1] at hz9; unfold iLen at hz9; omega
      have hne : q ≠ k' := fun e => by subst e; omega
      exact hB k' _ _ (by omega) ⟨hP1.trans (by simp only [lastF]; rw [if_pos hz8]), by omega, by omega⟩ ⟨congrArg I hsk, trivial⟩ ⟨rfl, rfl, trivial⟩ (.inl rfl)
    rename_i hz9
    have hz9 : ¬ v4 ≤ v1 := by have hz9 := hc.symm.trans hz9; simpa using hz9
    have hz8 : ¬ l.getD (k' + 1) 0 ≤ xq := by rw [hv4, hv1] at hz9; unfold iLen at hz9; omega
    have hlast : lastF l xq (n - 1) = k' + 1 := hP1.trans (by simp only [lastF]; rw [if_neg hz8])
    clear hB hP1 hz9 hz8 hc
    obtain ⟨l2, hl2⟩ : ∃ r, r = swapF l q (k' + 1) := ⟨_, rfl⟩
    obtain ⟨p1, hp1⟩ : ∃ r, r = (l.set q (l.getD (k' + 1) 0)).map natI := ⟨_, rfl⟩
    obtain ⟨p2, hp2⟩ : ∃ r, r = l2.map natI := ⟨_, rfl⟩
    have hu1 : A.upd 1 pc q [I v4] p1 := by subst hA; rw [hpc, hv4, hp1]; exact updS_map (by omega)
    have hu2 : A.upd 1 p1 (k' + 1) [I v1] p2 := by subst hA; rw [hp1, hp2, hv1, hl2]; exact updS_map (by simp; omega)
    refine And.intro (hsg _) (Exists.intro _ (And.intro hx4 ?_)); cbv
    refine And.intro (hsg _) (Exists.intro _ (And.intro hg4 ?_)); cbv
    refine And.intro (hsg _) (Exists.intro _ (And.intro hx1 ?_)); cbv
    refine And.intro (hsg _) (Exists.intro _ (And.intro hg1 ?_)); cbv
    refine And.intro (hsg _) (Exists.intro _ (And.intro hx1 ?_)); cbv
    refine And.intro (hsg _) (Exists.intro p1 (And.intro hu1 ?_)); cbv
    refine And.intro (by subst hA; exact .inr ⟨by simp [SubH], trivial, .inl rfl⟩) ?_; cbv
    refine And.intro (hsg _) (Exists.intro _ (And.intro hx4 ?_)); cbv
    refine And.intro (hsg _) (Exists.intro _ (And.intro hu2 ?_)); cbv
    refine And.intro (hsg _) ?_
    rw [hT]
    obtain ⟨RR, hRR⟩ : ∃ r, r = revF n l2 (q + 1) (n - 1) := ⟨_, rfl⟩
    have hnx : nextF l = some RR := by unfold nextF; rw [← hn, hpiv]; simp only; rw [← hxq, hlast, ← hl2, hRR]
    have hk2 := hS RR hnx
    have hl2n : l2.length = n := by rw [hl2, swapF_len, hn]
    refine AGo_whileE [0] (fun (s : List Nat × Nat × Nat) => s.2.2 - s.2.1) (fun s => s.1.length = n ∧ s.2.2 ≤ n - 1 ∧ s.2.1 ≤ n ∧ ∃ f, s.2.2 - s.2.1 ≤ f ∧ RR = revF f s.1 s.2.1 s.2.2) (fun s => [(5, I (iLen s.2.1)), (6, I (iLen s.2.2))]) (fun s => [.own 0 (s.1.map natI)]) (l2, q + 1, n - 1) ⟨hl2n, Nat.le_refl _, by dsimp only; omega, n, by dsimp only; omega, hRR⟩ ⟨congrArg I had, congrArg I hsub1, trivial⟩ (.inl (by rw [hp2])) fun s hP Bk hB => ?_
    clear hT hTD T TD hu1 hu2 hp1 hp2 hg1 hg4 hgetD hS
    obtain ⟨l3, a, b⟩ := s
    obtain ⟨hP1, hP2, hP3, f, hP4, hP5⟩ := hP
    dsimp only at hP1 hP2 hP3 hP4 hP5 hB ⊢
    obtain ⟨pa, hpa⟩ : ∃ r, r = l3.map natI := ⟨_, rfl⟩
    obtain ⟨ia, hia⟩ : ∃ i, i = iLen a := ⟨_, rfl⟩
    obtain ⟨ib, hib⟩ : ∃ i, i = iLen b := ⟨_, rfl⟩
    rw [← hpa, ← hia, ← hib]
    have hc := hll ia ib
    refine SGo_run hA ⟨[0], [2000000], [], []⟩ .nil .nil 200 fun T TD hT hTD => ?_
    cbv
    split <;> cbv
    · rename_i hz9
      have hab : a < b := by have hz9 := hc.symm.trans hz9; rw [decide_eq_true_eq, hia, hib] at hz9; unfold iLen at hz9; omega
      have hxa : A.ixm 1 1 0 n ia a := by subst hA; exact ixm1 hia (by omega)
      have hxb : A.ixm 1 1 0 n ib b := by subst hA; exact ixm1 hib (by omega)
      have hga : A.get none pa a (I (iLen (l3.getD a 0))) := by subst hA; rw [hpa]; exact getS_map (by rw [List.getD_eq_getElem?_getD, List.getElem?_eq_getElem (by omega)]; rfl)
      have hgb : A.get none pa b (I (iLen (l3.getD b 0))) := by subst hA; rw [hpa]; exact getS_map (by rw [List.getD_eq_getElem?_getD, List.getElem?_eq_getElem (by omega)]; rfl)
      obtain ⟨va, hva⟩ : ∃ v, v = iLen (l3.getD a 0) := ⟨_, rfl⟩
      obtain ⟨vb, hvb⟩ : ∃ v, v = iLen (l3.getD b 0) := ⟨_, rfl⟩
      rw [← hva] at hga
      rw [← hvb] at hgb
      obtain ⟨p1, hp1⟩ : ∃ r, r = (l3.set a (l3.getD b 0)).map natI := ⟨_, rfl⟩
      obtain ⟨p2, hp2⟩ : ∃ r, r = (swapF l3 a b).map natI := ⟨_, rfl⟩
      have hu1 : A.upd 1 pa a [I vb] p1 := by subst hA; rw [hpa, hvb, hp1]; exact updS_map (by omega)
      have hu2 : A.upd 1 p1 b [I va] p2 := by subst hA; rw [hp1, hp2, hva]; exact updS_map (by simp; omega)
      have ha1 : A.add .i64 ia 1 = iLen (a + 1) := by subst hA; exact add_one hia (N := n) (by omega) (by omega)
      have hb1 : A.sub .i64 ib 1 = iLen (b - 1) := by subst hA; rw [hib]; show iSub .i64 (iLen b) 1 = _; unfold iLen; rw [iSub_id (by omega) (by omega)]; omega
      refine And.intro (hsg _) (Exists.intro _ (And.intro hxb ?_)); cbv
      refine And.intro (hsg _) (Exists.intro _ (And.intro hgb ?_)); cbv
      refine And.intro (hsg _) (Exists.intro _ (And.intro hxa ?_)); cbv
      refine And.intro (hsg _) (Exists.intro _ (And.intro hga ?_)); cbv
      refine And.intro (hsg _) (Exists.intro _ (And.intro hxa ?_)); cbv
      refine And.intro (hsg _) (Exists.intro p1 (And.intro hu1 ?_)); cbv
      refine And.intro (by subst hA; exact .inr ⟨by simp [SubH], trivial, .inl rfl⟩) ?_; cbv
      refine And.intro (hsg _) (Exists.intro _ (And.intro hxb ?_)); cbv
      refine And.intro (hsg _) (Exists.intro _ (And.intro hu2 ?_)); cbv
      refine hB (swapF l3 a b, a + 1, b - 1) _ _ (by dsimp only; omega) ⟨by dsimp only; rw [swapF_len, hP1], by dsimp only; omega, by dsimp only; omega, ?_⟩ ⟨congrArg I ha1, congrArg I hb1, trivial⟩ ⟨rfl, trivial⟩ (.inl (by rw [hp2]))
      obtain ⟨f', rfl⟩ : ∃ f', f = f' + 1 := ⟨f - 1, by omega⟩
      simp only [revF, if_pos hab] at hP5
      exact ⟨f', by dsimp only; omega, hP5⟩
    · rename_i hz9
      have hab : ¬ a < b := by have hz9 := hc.symm.trans hz9; rw [decide_eq_false_iff_not, hia, hib] at hz9; unfold iLen at hz9; omega
      have : RR = l3 := by rw [hP5]; cases f <;> simp [revF, hab]
      rw [this, ← hpa] at hk2
      exact ite_both hk2
  · rename_i hz
    have hz : ¬ 0 ≤ i3 := by have hz := hz0.symm.trans hz; simpa using hz
    have hm : m = 0 := by unfold iLen at hi3; omega
    subst hm
    split <;> cbv
    · have hk2 := hN (by unfold nextF; rw [← hn, hP1]; rfl)
      exact ite_both hk2
    · rename_i hz9; have hz9 := hzl.symm.trans hz9; simp at hz9; omega
theorem p29 (l : List Nat) (h1 : 1 ≤ l.length) (h2 : l.length ≤ 1000000) (H : AHeap) {id : Nat} {pc : List AV} (hpc : pc = l.map natI) (hX : H[id]? = some (.own 0 pc)) {Kk : AV → AHeap → Prop} (hN : nextF l = none → Kk (B false) H)
    (hS : ∀ r qc, nextF l = some r → qc = r.map natI → Kk (B true) (H.set id (.own 0 qc))) : ACalls Try.prog 29 [.ms 1 id 0 0 l.length] H Kk := by
  subst hpc
  have hnd : ∀ l : List Nat, AV.nidL (l.map natI) = true := fun l => by
    induction l with
    | nil => rfl
    | cons x l ih => simpa [AV.nidL, AV.nid] using ih
  have h3 := p29l l h1 h2 (fun r H' => (nextF l = none ∧ r = B false ∧ H' = [.own 0 (l.map natI)]) ∨ ∃ q, nextF l = some q ∧ r = B true ∧ H' = [.own 0 (q.map natI)]) (fun h => .inl ⟨h, rfl, rfl⟩) (fun r h => .inr ⟨r, h, rfl, rfl⟩)
  have h4 := ACalls.frame (H := H) [id] h3 (by simp) (by simp) (by simp [AV.ltL, AV.lt]) (by simp [ltH, AObj.lt, AV.ltL_nid (hnd l)]) (fun k X hk => by
    cases k with
    | zero => simp at hk; subst hk; simpa [at_, AObj.ren, AV.renL_nid (hnd l)] using hX
    | succ k => simp at hk)
  have e : AV.renL [id] [.ms 1 0 0 0 l.length] = [.ms 1 id 0 0 l.length] := by simp [AV.renL, AV.ren, at_]
  rw [e] at h4
  have hset : H.set id (.own 0 (l.map natI)) = H := by
    apply List.ext_getElem?; intro i
    rw [List.getElem?_set]
    split
    · rename_i hi; subst hi
      rw [hX]; rw [if_pos (List.getElem?_eq_some_iff.1 hX).1]
    · rfl
  refine h4.mono fun r H' hx => ?_
  obtain ⟨r0, H1, h5, _, rfl, rfl⟩ := hx
  rcases h5 with ⟨h5, rfl, rfl⟩ | ⟨q, h5, rfl, rfl⟩
  · have := hN h5
    simpa [merge, updL, AObj.ren, AV.ren, AV.renL_nid (hnd l), hset] using this
  · have := hS q _ h5 rfl
    simpa [merge, updL, AObj.ren, AV.ren, AV.renL_nid (hnd q)] using this
def eNext : List AV → AHeap → Option PT
  | [.ms 1 id 0 0 n], H => match H[id]? with
    | some (.own 0 pc) => some fun K => ∃ l : List Nat, (pc = l.map natI ∧ n = l.length ∧ 1 ≤ n ∧ n ≤ 1000000) ∧ (nextF l = none → K (B false) H) ∧ ∀ r qc, nextF l = some r → qc = r.map natI → K (B true) (H.set id (.own 0 qc))
    | _ => none
  | _, _ => none
theorem eNext_ok : ∀ args H pt, eNext args H = some pt → ∀ (Kk : AV → AHeap → Prop), pt Kk → ACalls Try.prog 29 args H Kk := by
  intro args H pt h Kk hk
  unfold eNext at h
  split at h
  · split at h
    · rename_i hX
      cases h
      obtain ⟨l, ⟨hpc, rfl, h1, h2⟩, h3, h4⟩ := hk
      exact p29 l h1 h2 H hpc hX h3 h4
    · cases h
  · cases h
end Go.Sas
