/-
Probe: why a place is shut, and its verdict: contracts.
Conditions: none.
-/
import Derived.Test.YtajegdbljldakaaPK
import Derived.Test.YtajegdbljldakaaPS
import Derived.Test.YtajegdbljldakaaQRFg
import Derived.Test.YtajegdbljldakaaPC
set_option linter.unusedVariables false
set_option linter.unusedSimpArgs false
namespace Go.Sas
open Go.Proofs
set_option maxRecDepth 100000
/-- the value of the first run that has a place -/
def atS (l : List (Nat × Nat × Int)) (q : Nat) : Int := match l.find? (fun x => decide (x.1 ≤ q ∧ q ≤ x.2.1)) with
  | some x => x.2.2
  | none => 0
theorem p27 (l : List (Nat × Nat × Int)) (q : Nat) (hl : l.length ≤ 1000000) (H : AHeap) {Kk : AV → AHeap → Prop} (h : Kk (I (atS l q)) H) : ACalls Try.prog 27 [.vs 3 (l.map cloV), I (iLen q)] H Kk := by
  refine (fun z => pureC (by simp [AV.nidL, AV.nid, nidL_map (g := cloV) (fun _ => rfl) l]) (by rfl) z H h) ?_
  clear h
  intro Kk h
  obtain ⟨xs, hxs⟩ : ∃ xs, xs = l.map cloV := ⟨_, rfl⟩
  obtain ⟨iq, hiq⟩ : ∃ i, i = iLen q := ⟨_, rfl⟩
  rw [← hxs, ← hiq]
  obtain ⟨M, hM⟩ : ∃ M, M = l.length := ⟨_, rfl⟩
  obtain ⟨W, hW⟩ : ∃ W, W = atS l q := ⟨_, rfl⟩
  rw [← hW] at h
  obtain ⟨A, hA⟩ : ∃ A, A = std := ⟨_, rfl⟩
  have hne : ∀ x y, A.ne x y = decide (x ≠ y) := by subst hA; intro x y; simp only [std, iNe]; rw [Bool.eq_iff_iff]; simp
  have hee : ∀ x y, A.eq x y = decide (x = y) := by subst hA; intro x y; exact iEq_dec _ _
  have hll : ∀ x y, A.lt x y = decide (x < y) := by subst hA; intro x y; rfl
  have hle : ∀ x y, A.le x y = decide (x ≤ y) := by subst hA; intro x y; rfl
  have hnb : ∀ b, A.bnot b = !b := by subst hA; intro b; rfl
  have hbd : ∀ x y, A.band x y = (x && y) := by subst hA; intro x y; rfl
  have hsg : ∀ g, A.sg g g := by subst hA; exact fun _ => rfl
  have hvv : A.vlen xs = iLen M := by subst hA; rw [hxs, hM]; simp [std]
  refine go27 rfl (SGo_run hA ⟨[], [], [], []⟩ .nil .nil 200 fun T TD hT hTD => ?_)
  cbv
  rw [hT]
  refine AGo_upE [0, 1] M (fun j (_ : Unit) => W = atS (l.drop j) q) (fun j _ i => [(5, I i)]) (fun j _ => []) () hW ⟨rfl, trivial⟩ (.inl rfl) fun j _ i hi hj hP Bk hB => ?_
  have hlt : A.lt i (A.vlen xs) = decide (j < M) := by rw [hvv, hll, hi, decide_eq_decide]; unfold iLen; omega
  have hadd : ∀ N, j < N → N ≤ 9223372036854775807 → A.add .i64 i 1 = iLen (j + 1) := fun N hj hN => by subst hA; exact add_one hi hj hN
  refine SGo_run hA ⟨[], [], [], []⟩ .nil .nil 200 fun T TD hT hTD => ?_
  cbv
  split <;> cbv
  · rename_i hk0
    have hk1 : j < M := by have hz := hlt.symm.trans hk0; simpa using hz
    clear hk0
    obtain ⟨⟨u, v, w⟩, hx⟩ : ∃ x, l[j]? = some x := ⟨_, List.getElem?_eq_getElem (by omega)⟩
    have hd : l.drop j = (u, v, w) :: l.drop (j + 1) := drop_cons hx
    rw [hd] at hP
    obtain ⟨iu, hiu⟩ : ∃ i, i = iLen u := ⟨_, rfl⟩
    obtain ⟨iv, hiv⟩ : ∃ i, i = iLen v := ⟨_, rfl⟩
    have hix : A.ix 3 3 xs i [I iu, I iv, I w] := by subst hA hiu hiv; exact ix_map hxs hi hx rfl
    have hl1 : A.le iu iq = decide (u ≤ q) := by rw [hle, hiu, hiq, decide_eq_decide]; unfold iLen; omega
    have hl2 : A.le iq iv = decide (q ≤ v) := by rw [hle, hiv, hiq, decide_eq_decide]; unfold iLen; omega
    have hno : ¬ (u ≤ q ∧ q ≤ v) → W = atS (l.drop (j + 1)) q := fun hh => by rw [hP]; unfold atS; rw [List.find?_cons_of_neg (by simpa using hh)]
    have hyes : u ≤ q → q ≤ v → W = w := fun h1 h2 => by rw [hP]; unfold atS; rw [List.find?_cons_of_pos (by simp [h1, h2])]
    have hadj := hadd _ hk1 (by omega)
    refine Exists.intro _ (And.intro hix ?_); cbv
    split <;> cbv
    · rename_i hz1
      have hz1 := of_decide_eq_true (hl1.symm.trans hz1)
      refine Exists.intro _ (And.intro hix ?_); cbv
      split <;> cbv
      · rename_i hz2
        have hz2 := of_decide_eq_true (hl2.symm.trans hz2)
        refine Exists.intro _ (And.intro hix ?_); cbv
        exact leaf h (congrArg I (hyes hz1 hz2)) rfl
      · rename_i hz2
        have hz2 := of_decide_eq_false (hl2.symm.trans hz2)
        exact hB () _ _ hk1 (hno fun hh => hz2 hh.2) ⟨congrArg I hadj, trivial⟩ ⟨rfl, rfl, trivial⟩ (.inl rfl)
    · rename_i hz1
      have hz1 := of_decide_eq_false (hl1.symm.trans hz1)
      exact hB () _ _ hk1 (hno fun hh => hz1 hh.1) ⟨congrArg I hadj, trivial⟩ ⟨rfl, rfl, trivial⟩ (.inl rfl)
  · rename_i hk0
    have hk1 : ¬ j < M := by have hz := hlt.symm.trans hk0; simpa using hz
    clear hk0
    have : W = 0 := by rw [hP, List.drop_eq_nil_of_le (by omega)]; rfl
    exact leaf h (congrArg I this) rfl
theorem p45 (l : List (Nat × Nat × Int)) (q : Nat) (hl : l.length ≤ 1000000) (H : AHeap) {Kk : AV → AHeap → Prop} (h : Kk (I (atS l q)) H) : ACalls Try.prog 45 [.vs 3 (l.map cloV), I (iLen q)] H Kk := by
  refine (fun z => pureC (by simp [AV.nidL, AV.nid, nidL_map (g := cloV) (fun _ => rfl) l]) (by rfl) z H h) ?_
  clear h
  intro Kk h
  obtain ⟨xs, hxs⟩ : ∃ xs, xs = l.map cloV := ⟨_, rfl⟩
  obtain ⟨iq, hiq⟩ : ∃ i, i = iLen q := ⟨_, rfl⟩
  rw [← hxs, ← hiq]
  obtain ⟨M, hM⟩ : ∃ M, M = l.length := ⟨_, rfl⟩
  obtain ⟨W, hW⟩ : ∃ W, W = atS l q := ⟨_, rfl⟩
  rw [← hW] at h
  obtain ⟨A, hA⟩ : ∃ A, A = std := ⟨_, rfl⟩
  have hne : ∀ x y, A.ne x y = decide (x ≠ y) := by subst hA; intro x y; simp only [std, iNe]; rw [Bool.eq_iff_iff]; simp
  have hee : ∀ x y, A.eq x y = decide (x = y) := by subst hA; intro x y; exact iEq_dec _ _
  have hll : ∀ x y, A.lt x y = decide (x < y) := by subst hA; intro x y; rfl
  have hle : ∀ x y, A.le x y = decide (x ≤ y) := by subst hA; intro x y; rfl
  have hnb : ∀ b, A.bnot b = !b := by subst hA; intro b; rfl
  have hbd : ∀ x y, A.band x y = (x && y) := by subst hA; intro x y; rfl
  have hsg : ∀ g, A.sg g g := by subst hA; exact fun _ => rfl
  have hvv : A.vlen xs = iLen M := by subst hA; rw [hxs, hM]; simp [std]
  refine go45 rfl (SGo_run hA ⟨[], [], [], []⟩ .nil .nil 200 fun T TD hT hTD => ?_)
  cbv
  rw [hT]
  refine AGo_upE [0, 1] M (fun j (_ : Unit) => W = atS (l.drop j) q) (fun j _ i => [(5, I i)]) (fun j _ => []) () hW ⟨rfl, trivial⟩ (.inl rfl) fun j _ i hi hj hP Bk hB => ?_
  have hlt : A.lt i (A.vlen xs) = decide (j < M) := by rw [hvv, hll, hi, decide_eq_decide]; unfold iLen; omega
  have hadd : ∀ N, j < N → N ≤ 9223372036854775807 → A.add .i64 i 1 = iLen (j + 1) := fun N hj hN => by subst hA; exact add_one hi hj hN
  refine SGo_run hA ⟨[], [], [], []⟩ .nil .nil 200 fun T TD hT hTD => ?_
  cbv
  split <;> cbv
  · rename_i hk0
    have hk1 : j < M := by have hz := hlt.symm.trans hk0; simpa using hz
    clear hk0
    obtain ⟨⟨u, v, w⟩, hx⟩ : ∃ x, l[j]? = some x := ⟨_, List.getElem?_eq_getElem (by omega)⟩
    have hd : l.drop j = (u, v, w) :: l.drop (j + 1) := drop_cons hx
    rw [hd] at hP
    obtain ⟨iu, hiu⟩ : ∃ i, i = iLen u := ⟨_, rfl⟩
    obtain ⟨iv, hiv⟩ : ∃ i, i = iLen v := ⟨_, rfl⟩
    have hix : A.ix 3 3 xs i [I iu, I iv, I w] := by subst hA hiu hiv; exact ix_map hxs hi hx rfl
    have hl1 : A.le iu iq = decide (u ≤ q) := by rw [hle, hiu, hiq, decide_eq_decide]; unfold iLen; omega
    have hl2 : A.le iq iv = decide (q ≤ v) := by rw [hle, hiv, hiq, decide_eq_decide]; unfold iLen; omega
    have hno : ¬ (u ≤ q ∧ q ≤ v) → W = atS (l.drop (j + 1)) q := fun hh => by rw [hP]; unfold atS; rw [List.find?_cons_of_neg (by simpa using hh)]
    have hyes : u ≤ q → q ≤ v → W = w := fun h1 h2 => by rw [hP]; unfold atS; rw [List.find?_cons_of_pos (by simp [h1, h2])]
    have hadj := hadd _ hk1 (by omega)
    refine Exists.intro _ (And.intro hix ?_); cbv
    split <;> cbv
    · rename_i hz1
      have hz1 := of_decide_eq_true (hl1.symm.trans hz1)
      refine Exists.intro _ (And.intro hix ?_); cbv
      split <;> cbv
      · rename_i hz2
        have hz2 := of_decide_eq_true (hl2.symm.trans hz2)
        refine Exists.intro _ (And.intro hix ?_); cbv
        exact leaf h (congrArg I (hyes hz1 hz2)) rfl
      · rename_i hz2
        have hz2 := of_decide_eq_false (hl2.symm.trans hz2)
        exact hB () _ _ hk1 (hno fun hh => hz2 hh.2) ⟨congrArg I hadj, trivial⟩ ⟨rfl, rfl, trivial⟩ (.inl rfl)
    · rename_i hz1
      have hz1 := of_decide_eq_false (hl1.symm.trans hz1)
      exact hB () _ _ hk1 (hno fun hh => hz1 hh.1) ⟨congrArg I hadj, trivial⟩ ⟨rfl, rfl, trivial⟩ (.inl rfl)
  · rename_i hk0
    have hk1 : ¬ j < M := by have hz := hlt.symm.trans hk0; simpa using hz
    clear hk0
    have : W = 0 := by rw [hP, List.drop_eq_nil_of_le (by omega)]; rfl
    exact leaf h (congrArg I this) rfl
def eAt : List AV → Option ((AV → Prop) → Prop)
  | [.vs 3 xs, .lit (.int .i64 i)] => some fun K => ∃ (l : List (Nat × Nat × Int)) (q : Nat), (xs = l.map cloV ∧ i = iLen q ∧ l.length ≤ 1000000) ∧ ∀ v, v = atS l q → K (I v)
  | _ => none
theorem eAt_ok {f : Nat} (hf : ∀ (l : List (Nat × Nat × Int)) (q : Nat), l.length ≤ 1000000 → ∀ (H : AHeap) {Kk : AV → AHeap → Prop}, Kk (I (atS l q)) H → ACalls Try.prog f [.vs 3 (l.map cloV), I (iLen q)] H Kk) :
    ∀ args pt, eAt args = some pt → ∀ (H : AHeap) (Kk : AV → AHeap → Prop), pt (fun r => Kk r H) → ACalls Try.prog f args H Kk := by
  intro args pt h H Kk hk
  unfold eAt at h
  split at h
  · cases h
    obtain ⟨l, q, ⟨rfl, rfl, h1⟩, h2⟩ := hk
    exact hf l q h1 H (h2 _ rfl)
  · cases h
theorem at_runs {V : Nat → Int} {N p : Nat} (hp : p < N) : atS (runsN V N) p = V p := by
  unfold atS
  split
  · rename_i x hx
    have h1 := List.mem_of_find?_eq_some hx
    have h2 := List.find?_some hx
    simp only [decide_eq_true_eq] at h2
    exact ((runsN_mem h1).2.2 p h2.1 h2.2).symm
  · rename_i hx
    rw [List.find?_eq_none] at hx
    obtain ⟨x, h1, h2, h3⟩ := runsN_cov (V := V) hp
    exact absurd (show decide (x.1 ≤ p ∧ p ≤ x.2.1) = true by simp [h2, h3]) (hx x h1)
theorem at_clo {V : Nat → Int} {N p : Nat} (hp : p < N) : atS (cloS V N) p = V p := by
  unfold atS
  split
  · rename_i x hx
    have h1 := List.mem_of_find?_eq_some hx
    have h2 := List.find?_some hx
    simp only [decide_eq_true_eq] at h2
    exact ((runsN_mem (List.mem_filter.1 h1).1).2.2 p h2.1 h2.2).symm
  · rename_i hx
    rw [List.find?_eq_none] at hx
    obtain ⟨x, h1, h2, h3⟩ := runsN_cov (V := V) hp
    have h4 := (runsN_mem h1).2.2 p h2 h3
    by_cases h0 : V p = 0
    · exact h0.symm
    · exact absurd (show decide (x.1 ≤ p ∧ p ≤ x.2.1) = true by simp [h2, h3]) (hx x (List.mem_filter.2 ⟨h1, by rw [← h4]; simp [h0]⟩))
end Go.Sas
