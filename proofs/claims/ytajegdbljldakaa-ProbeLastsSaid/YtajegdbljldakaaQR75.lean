/-
sort.Search: contract.
Conditions: none.
-/
import Derived.Test.YtajegdbljldakaaPK
import Derived.Test.YtajegdbljldakaaQRFg
import Derived.Test.YtajegdbljldakaaPC
set_option linter.unusedVariables false
set_option linter.unusedSimpArgs false
namespace Go.Sas
open Go.Proofs
set_option maxRecDepth 100000
theorem mid_eq {i j : Nat} (hj : j ≤ 1000000) (hi : i < j) : iCv .i64 (iShr .u64 (iCv .u64 (iAdd .i64 (iLen i) (iLen j))) 1) = iLen ((i + j) / 2) := by
  have h1 : iAdd .i64 (iLen i) (iLen j) = ((i + j : Nat) : Int) := by
    rw [iAdd_id] <;> (unfold iLen; omega)
  rw [h1]
  have h2 : iCv .u64 ((i + j : Nat) : Int) = ((i + j : Nat) : Int) := by
    simp [iCv, IntKind.wrap, IntKind.signed, IntKind.bits]; omega
  rw [h2]
  have h3 : iShr .u64 ((i + j : Nat) : Int) 1 = (((i + j) / 2 : Nat) : Int) := by
    simp only [iShr]
    rw [show (min (1 : Int).toNat IntKind.u64.bits) = 1 from rfl]
    rw [Int.fdiv_eq_ediv_of_nonneg _ (by decide)]
    omega
  rw [h3]
  exact wrap_id (by omega) (by omega)
theorem p92 {f : Nat} {caps : List AV} (q : Nat → Bool) (N : Nat) (hN : N ≤ 1000000) (H : AHeap) (hf : ∀ n, n < N → ∀ Kk : AV → AHeap → Prop, Kk (B (q n)) H → ACalls Try.prog f (I (iLen n) :: caps) H Kk) {Kk : AV → AHeap → Prop}
    (h : ∀ r : Nat, r ≤ N → (∀ i, r = i + 1 → q i = false) → (r < N → q r = true) → Kk (I (iLen r)) H) : ACalls Try.prog 92 [I (iLen N), .fn f caps] H Kk := by
  obtain ⟨A, hA⟩ : ∃ A, A = std := ⟨_, rfl⟩
  obtain ⟨L, hL⟩ : ∃ L, L = iLen N := ⟨_, rfl⟩
  rw [← hL]
  refine go92 rfl ?_
  obtain ⟨R, hR⟩ : ∃ R, R = RetP [ARes.t (Od.g 4)] H.length Kk := ⟨_, rfl⟩
  rw [← hR]
  refine SGo_run hA ⟨[], [], [], []⟩ .nil .nil 200 fun T TD hT hTD => ?_
  cbv
  rw [hT]
  refine AGo_while (σ := { x : Nat × Nat // x.1 ≤ x.2 ∧ x.2 ≤ N ∧ (∀ i, x.1 = i + 1 → q i = false) ∧ (x.2 < N → q x.2 = true) }) (fun x => x.1.2 - x.1.1) (fun x => [(1, .fn f caps), (5, I (iLen x.1.1)), (6, I (iLen x.1.2))]) (fun _ => H) ⟨(0, N), by omega, by omega, fun i hi => by omega, fun h => by omega⟩ ⟨rfl, rfl, congrArg I hL, trivial⟩ (.inl rfl) ?_
  rintro ⟨⟨i, j⟩, h1, h2, h3, h4⟩ Bk hB
  simp only at h1 h2 h3 h4
  obtain ⟨a, ha⟩ : ∃ a, a = iLen i := ⟨_, rfl⟩
  obtain ⟨b, hb⟩ : ∃ b, b = iLen j := ⟨_, rfl⟩
  have hlt : A.lt a b = decide (i < j) := by subst hA; simp only [std, iLt, ha, hb]; unfold iLen; rw [decide_eq_decide]; omega
  simp only
  rw [← ha, ← hb]
  refine SGo_run hA ⟨[], [], [], []⟩ .nil .nil 200 fun T TD hT hTD => ?_
  cbv
  split <;> cbv
  · rename_i hq
    have hij : i < j := by have := hlt.symm.trans hq; simpa using this
    rw [hT]
    obtain ⟨c, hc⟩ : ∃ c, c = A.cv .i64 (A.shr .u64 (A.cv .u64 (A.add .i64 a b)) 1) := ⟨_, rfl⟩
    have hm : c = iLen ((i + j) / 2) := by rw [hc]; subst hA; rw [ha, hb]; exact mid_eq (by omega) hij
    have hadd : A.add .i64 c 1 = iLen ((i + j) / 2 + 1) := by subst hA; exact add_one hm (N := 1000001) (by omega) (by omega)
    refine AGo_call rfl rfl (fid := f) (caps := caps) ?_
    show ACalls _ f (I (A.cv .i64 (A.shr .u64 (A.cv .u64 (A.add .i64 a b)) 1)) :: caps) H _
    rw [← hc, hm]
    refine hf _ (by omega) _ ?_
    obtain ⟨qb, hqb⟩ : ∃ b, b = q ((i + j) / 2) := ⟨_, rfl⟩
    rw [← hqb]
    have hnb : ∀ b, A.bnot b = !b := by subst hA; intro b; rfl
    refine SGo_run hA ⟨[], [], [], []⟩ .nil .nil 200 fun T TD hT hTD => ?_
    cbv
    split <;> cbv
    · rename_i hz
      have hz : qb = false := by have := (hnb qb).symm.trans hz; simpa using this
      refine hB ⟨((i + j) / 2 + 1, j), by simp only; omega, h2, fun k hk => ?_, h4⟩ _ _ (by simp only; omega) ⟨rfl, congrArg I (by rw [← hadd, hc]), congrArg I hb, trivial⟩ (.inl rfl)
      simp only at hk
      rw [show k = (i + j) / 2 by omega, ← hqb, hz]
    · rename_i hz
      have hz : qb = true := by have := (hnb qb).symm.trans hz; simpa using this
      refine hB ⟨(i, (i + j) / 2), by simp only; omega, by simp only; omega, h3, fun _ => by simp only; rw [← hqb, hz]⟩ _ _ (by simp only; omega) ⟨rfl, congrArg I ha, congrArg I (by rw [← hm, hc]), trivial⟩ (.inl rfl)
  · rename_i hq
    have hij : ¬ i < j := by have := hlt.symm.trans hq; simpa using this
    rw [hR]
    refine RetP.same rfl rfl ?_
    rw [ha]
    have hj : j = i := by omega
    subst hj
    exact h _ h2 h3 h4
end Go.Sas
