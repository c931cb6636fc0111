/-
Probe: copies of numbers and of courses: contracts.
Conditions: none.
-/
import Derived.Test.YtajegdbljldakaaQR44
import Derived.Test.YtajegdbljldakaaPP
set_option linter.unusedVariables false
set_option linter.unusedSimpArgs false
namespace Go.Sas
open Go.Proofs
set_option maxRecDepth 100000
theorem p100 (r : List Int) (hc : r.length ≤ 1000000) (H : AHeap) {Kk : AV → AHeap → Prop} (h : Kk (.vs 1 (r.map I)) H) : ACalls Try.prog 100 [.vs 1 (r.map I)] H Kk := by
  refine (fun q => pureC (by rfl) (by rfl) q H h) ?_
  clear h
  intro Kk h
  have hfz : fzS 1 1 8 (r.map I) := ⟨rfl, by simp; omega, (Elems_I r).2⟩
  obtain ⟨xs, hxs⟩ : ∃ xs, xs = r.map I := ⟨_, rfl⟩
  rw [← hxs] at hfz h ⊢
  obtain ⟨A, hA⟩ : ∃ A, A = std := ⟨_, rfl⟩
  have hfz : A.fz 1 1 8 xs := by subst hA; exact hfz
  refine go100 rfl (SGo_run hA ⟨[], [], [], []⟩ .nil .nil 200 fun T TD hT hTD => ?_)
  cbv
  refine And.intro hfz ?_
  exact h
def eOwnI : List AV → Option ((AV → Prop) → Prop)
  | [.vs 1 xs] => some fun K => ∃ r : List Int, xs = r.map I ∧ r.length ≤ 1000000 ∧ K (.vs 1 xs)
  | _ => none
theorem eOwnI_ok : ∀ args pt, eOwnI args = some pt → ∀ (H : AHeap) (Kk : AV → AHeap → Prop), pt (fun r => Kk r H) → ACalls Try.prog 100 args H Kk := by
  intro args pt h H Kk hk
  unfold eOwnI at h
  split at h
  · cases h
    obtain ⟨r, rfl, h1, h2⟩ := hk
    exact p100 _ h1 H h2
  · cases h
theorem nidL_csV (cs : List (List Int)) : AV.nidL (csV cs) = true := nidL_map (fun _ => by simp [AV.nid]) _
theorem p64 (cs : List (List Int)) (hc : cs.length ≤ 1000000) (h4 : ∀ r ∈ cs, r.length ≤ 1000000) (H : AHeap) {Kk : AV → AHeap → Prop} (h : Kk (.vs 1 (csV cs)) H) : ACalls Try.prog 64 [.vs 1 (csV cs)] H Kk := by
  have hncs := nidL_csV cs
  refine (fun q => pureF (by simp [AV.nidL, AV.nid, hncs]) (by simp [AV.nid]) q H h) ?_
  clear h
  intro Kk h
  obtain ⟨vs, hvs⟩ : ∃ ys, ys = csV cs := ⟨_, rfl⟩
  rw [← hvs] at h ⊢
  obtain ⟨M, hM⟩ : ∃ M, M = cs.length := ⟨_, rfl⟩
  obtain ⟨F, hF⟩ : ∃ F, F = Frees 0 Kk := ⟨_, rfl⟩
  rw [← hF]
  obtain ⟨A, hA⟩ : ∃ A, A = std := ⟨_, rfl⟩
  have hsg : ∀ g, A.sg g g := by subst hA; exact fun _ => rfl
  have hvv : A.vlen vs = iLen M := by subst hA; rw [hvs, hM]; simp [std]
  have hll : ∀ x y, A.lt x y = decide (x < y) := by subst hA; exact fun _ _ => rfl
  have hMi : ∀ i q, q = iLen i → i < M → A.ix 1 1 vs q [.vs 1 ((cs.getD i []).map I)] := fun i q hq hi => by subst hA; exact ix_map (f := fun r : List Int => AV.vs 1 (r.map I)) hvs hq (cs_get (by omega)) rfl
  obtain ⟨CR, hCR⟩ : ∃ f : Nat → List AV, f = fun i => csV (cs.take i) := ⟨_, rfl⟩
  have hCRs : ∀ i, i < M → CR (i + 1) = CR i ++ [.vs 1 ((cs.getD i []).map I)] := fun i hi => by
    rw [hCR]; dsimp only
    have := cs_get (cs := cs) (i := i) (by omega)
    obtain ⟨h8, he⟩ := List.getElem?_eq_some_iff.1 this
    unfold csV
    rw [List.take_succ_eq_append_getElem h8, he, List.map_append]; rfl
  have hCRl : ∀ i, i ≤ M → (CR i).length = i * 1 := fun i hi => by rw [hCR]; simp; omega
  refine go64 rfl (SGo_run hA ⟨[], [], [], []⟩ .nil .nil 200 fun T TD hT hTD => ?_)
  cbv
  rw [hT]
  refine AGo_nilms 3 1 rfl ?_
  refine AGo_upE [0] M (fun _ (_ : Unit) => True) (fun j _ i => [(3, .ms 1 0 j 0 j), (4, I i)]) (fun j _ => [.own j (CR j)]) () trivial ⟨rfl, rfl, trivial⟩ (.inl (by rw [hCR]; rfl)) fun j _ i hi hj hP Bk hB => ?_
  have hlt : A.lt i (A.vlen vs) = decide (j < M) := by rw [hvv, hll, hi, decide_eq_decide]; unfold iLen; omega
  have hadd : ∀ N, j < N → N ≤ 9223372036854775807 → A.add .i64 i 1 = iLen (j + 1) := fun N hj hN => by subst hA; exact add_one hi hj hN
  obtain ⟨cr, hcr⟩ : ∃ x, x = CR j := ⟨_, rfl⟩
  rw [← hcr]
  refine SGo_run hA ⟨[0], [], (100, eOwnI) :: [], []⟩ (.cons eOwnI_ok .nil) .nil 200 fun T TD hT hTD => ?_
  cbv
  split <;> cbv
  · rename_i hk0
    have hk1 : j < M := by have hz := hlt.symm.trans hk0; simpa using hz
    clear hk0
    have hri := hMi j i hi hk1
    have hrl : (cs.getD j []).length ≤ 1000000 := h4 _ (List.mem_of_getElem? (cs_get (by omega)))
    have happ : A.app 1 1 24 cr 0 j [.vs 1 ((cs.getD j []).map I)] (CR (j + 1)) (j + 1) := by subst hA; rw [hCRs j hk1, ← hcr]; exact app_one (by rw [hcr]; exact hCRl j (by omega)) rfl (by omega)
    obtain ⟨cr1, hcr1⟩ : ∃ x, x = CR (j + 1) := ⟨_, rfl⟩
    rw [← hcr1] at happ
    obtain ⟨row, hrow⟩ : ∃ x, x = (cs.getD j []).map I := ⟨_, rfl⟩
    rw [← hrow] at hri happ
    refine Exists.intro _ (And.intro hri ?_); cbv
    refine Exists.intro _ (And.intro hrow (And.intro hrl ?_)); cbv
    refine And.intro (hsg _) (Exists.intro cr1 (Exists.intro (j + 1) (And.intro happ (And.intro rfl ?_)))); cbv
    exact hB () _ _ hk1 trivial ⟨rfl, congrArg I (hadd _ hk1 (by omega)), trivial⟩ ⟨rfl, trivial⟩ (.inl (by rw [hcr1]))
  · rename_i hk0
    have hk1 : ¬ j < M := by have hz := hlt.symm.trans hk0; simpa using hz
    clear hk0
    have hjM : j = M := by omega
    have hcv : cr = vs := by rw [hcr, hCR, hvs, hjM, hM]; simp
    have hE : Elems 1 vs cr := by rw [hcv, hvs]; exact Elems_one (F := fun r : List Int => AV.vs 1 (r.map I)) (fun _ => rfl) (fun _ => rfl) _
    rw [hF]
    refine Frees.frz 0 j 1 vs rfl hE ?_
    have e1 : AV.frz 0 j 1 vs (aTup [.ms 1 0 j 0 j]) = .vs 1 vs := frz_self (by rw [hvs]; simp; omega)
    rw [e1]
    exact Frees.drop0 h (by simp [AV.nid])
def eOwnCs : List AV → Option ((AV → Prop) → Prop)
  | [.vs 1 vs] => some fun K => ∃ cs : List (List Int), vs = csV cs ∧ cs.length ≤ 1000000 ∧ (∀ r ∈ cs, r.length ≤ 1000000) ∧ K (.vs 1 vs)
  | _ => none
theorem eOwnCs_ok : ∀ args pt, eOwnCs args = some pt → ∀ (H : AHeap) (Kk : AV → AHeap → Prop), pt (fun r => Kk r H) → ACalls Try.prog 64 args H Kk := by
  intro args pt h H Kk hk
  unfold eOwnCs at h
  split at h
  · cases h
    obtain ⟨cs, rfl, h1, h2, h3⟩ := hk
    exact p64 _ h1 h2 H h3
  · cases h
end Go.Sas
