/-
Probe: whether patches part a road: contract.
Conditions: none.
-/
import Derived.Test.YtajegdbljldakaaQR60
import Derived.Test.YtajegdbljldakaaQRM16
set_option linter.unusedVariables false
set_option linter.unusedSimpArgs false
namespace Go.Sas
open Go.Proofs
set_option maxRecDepth 100000
theorem p44 (rs : List Rch) (a b c : Int) (L : List (Nat × Nat × Int)) (ho : RoadOk rs) (hc : ChainR L) (hn : iLen (nxtR L) = sumLg rs) (hv : ∀ x ∈ L, x.2.2 = 1 ∨ x.2.2 = 2 ∨ x.2.2 = 3) (hl : L.length ≤ 1000000) (hb : ∀ x ∈ L, x.2.1 ≤ 1000000) (H : AHeap) {Kk : AV → AHeap → Prop} (h : Kk (B true) H) :
    ACalls Try.prog 44 [svV (.vs 5 (rs.map rcV)) a b c, .vs 3 (L.map cloV)] H Kk := by
  have hnr := nidL_rc rs
  refine (fun q => pureC (by simp [AV.nidL, AV.nid, hnr, nidL_map (g := cloV) (fun _ => rfl) L]) (by rfl) q H h) ?_
  clear h
  intro Kk h
  obtain ⟨xs, hxs⟩ : ∃ xs, xs = rs.map rcV := ⟨_, rfl⟩
  obtain ⟨ls, hls⟩ : ∃ ys, ys = L.map cloV := ⟨_, rfl⟩
  rw [← hxs, ← hls]
  obtain ⟨M, hM⟩ : ∃ M, M = L.length := ⟨_, rfl⟩
  obtain ⟨A, hA⟩ : ∃ A, A = std := ⟨_, rfl⟩
  have hne : ∀ x y, A.ne x y = decide (x ≠ y) := by subst hA; intro x y; simp only [std, iNe]; rw [Bool.eq_iff_iff]; simp
  have hee : ∀ x y, A.eq x y = decide (x = y) := by subst hA; intro x y; exact iEq_dec _ _
  have hll : ∀ x y, A.lt x y = decide (x < y) := by subst hA; intro x y; rfl
  have hle : ∀ x y, A.le x y = decide (x ≤ y) := by subst hA; intro x y; rfl
  have hnb : ∀ b, A.bnot b = !b := by subst hA; intro b; rfl
  have hbd : ∀ x y, A.band x y = (x && y) := by subst hA; intro x y; rfl
  have hsg : ∀ g, A.sg g g := by subst hA; exact fun _ => rfl
  have hvv : A.vlen ls = iLen M := by subst hA; rw [hls, hM]; simp [std]
  refine go44 rfl (SGo_run hA ⟨[], [], [], []⟩ .nil .nil 200 fun T TD hT hTD => ?_)
  cbv
  rw [hT]
  refine AGo_upE [1, 2] M (fun _ (_ : Unit) => True) (fun j _ i => [(5, I (iLen (nxtR (L.take j)))), (6, I i)]) (fun j _ => [.own 0 [.vs 5 xs, I a, I b, I c]]) () trivial ⟨rfl, rfl, trivial⟩ (.inl rfl) fun j _ i hi hj _ Bk hB => ?_
  have hlt : A.lt i (A.vlen ls) = decide (j < M) := by rw [hvv, hll, hi, decide_eq_decide]; unfold iLen; omega
  have hadd : ∀ N, j < N → N ≤ 9223372036854775807 → A.add .i64 i 1 = iLen (j + 1) := fun N hj hN => by subst hA; exact add_one hi hj hN
  obtain ⟨nx, hnx⟩ : ∃ x, x = iLen (nxtR (L.take j)) := ⟨_, rfl⟩
  rw [← hnx]
  refine SGo_run hA ⟨[], [], (46, ePlaces) :: [], []⟩ (.cons (ePlaces_ok p46) .nil) .nil 200 fun T TD hT hTD => ?_
  cbv
  split <;> cbv
  · rename_i hk0
    have hk1 : j < M := by have hz := hlt.symm.trans hk0; simpa using hz
    clear hk0
    obtain ⟨⟨u, v, w⟩, hx⟩ : ∃ x, L[j]? = some x := ⟨_, List.getElem?_eq_getElem (by omega)⟩
    obtain ⟨k1, k2, k3⟩ := hc j _ hx
    have hvw := hv _ (List.mem_of_getElem? hx)
    have hbv := hb _ (List.mem_of_getElem? hx)
    dsimp only at k1 k2 k3 hvw hbv
    have htk : nxtR (L.take (j + 1)) = v + 1 := by
      obtain ⟨h8, he⟩ := List.getElem?_eq_some_iff.1 hx
      rw [List.take_succ_eq_append_getElem h8, he, nxtR_snoc]
    obtain ⟨iu, hiu⟩ : ∃ i, i = iLen u := ⟨_, rfl⟩
    obtain ⟨iv, hiv⟩ : ∃ i, i = iLen v := ⟨_, rfl⟩
    have hix : A.ix 3 3 ls i [I iu, I iv, I w] := by subst hA hiu hiv; exact ix_map hls hi hx rfl
    have z1 : A.ne iu nx = false := by rw [hne, hiu, hnx, k1]; simp
    have z2 : A.lt iv iu = false := by rw [hll, hiu, hiv]; simp; unfold iLen; omega
    have z3 : A.lt w 1 = false := by rw [hll]; simp; omega
    have z4 : A.lt 3 w = false := by rw [hll]; simp; omega
    have hl0 : A.lt 0 i = decide (0 < j) := by rw [hll, hi, decide_eq_decide]; unfold iLen; omega
    have hadv : A.add .i64 iv 1 = iLen (nxtR (L.take (j + 1))) := by rw [htk]; subst hA; exact add_one (N := 1000001) hiv (by omega) (by omega)
    refine Exists.intro _ (And.intro hix ?_); cbv
    split <;> first | (rename_i hz; exact Bool.noConfusion (hz.symm.trans z1)) | cbv
    refine Exists.intro _ (And.intro hix ?_); cbv
    refine Exists.intro _ (And.intro hix ?_); cbv
    split <;> first | (rename_i hz; exact Bool.noConfusion (hz.symm.trans z2)) | cbv
    refine Exists.intro _ (And.intro hix ?_); cbv
    split <;> first | (rename_i hz; exact Bool.noConfusion (hz.symm.trans z3)) | cbv
    refine Exists.intro _ (And.intro hix ?_); cbv
    split <;> first | (rename_i hz; exact Bool.noConfusion (hz.symm.trans z4)) | cbv
    split <;> cbv
    · rename_i hz0
      have hj0 : 0 < j := of_decide_eq_true (hl0.symm.trans hz0)
      obtain ⟨⟨u', v', w'⟩, hy⟩ : ∃ x, L[j - 1]? = some x := ⟨_, List.getElem?_eq_getElem (by omega)⟩
      have hww := k3 _ hy hj0
      dsimp only at hww
      have hsm : A.sub .i64 i 1 = iLen (j - 1) := by subst hA; rw [hi]; show iSub .i64 (iLen j) 1 = _; unfold iLen; rw [iSub_id (by omega) (by omega)]; omega
      obtain ⟨iu', hiu'⟩ : ∃ i, i = iLen u' := ⟨_, rfl⟩
      obtain ⟨iv', hiv'⟩ : ∃ i, i = iLen v' := ⟨_, rfl⟩
      have hiy : A.ix 3 3 ls (A.sub .i64 i 1) [I iu', I iv', I w'] := by rw [hsm]; subst hA hiu' hiv'; exact ix_map hls rfl hy rfl
      have z5 : A.eq w w' = false := by rw [hee]; simpa using hww
      refine Exists.intro _ (And.intro hix ?_); cbv
      refine Exists.intro _ (And.intro hiy ?_); cbv
      split <;> first | (rename_i hz; exact Bool.noConfusion (hz.symm.trans z5)) | cbv
      refine Exists.intro _ (And.intro hix ?_); cbv
      exact hB () _ _ hk1 trivial ⟨congrArg I hadv, congrArg I (hadd _ hk1 (by omega)), trivial⟩ ⟨rfl, rfl, trivial⟩ (.inl rfl)
    · refine Exists.intro _ (And.intro hix ?_); cbv
      exact hB () _ _ hk1 trivial ⟨congrArg I hadv, congrArg I (hadd _ hk1 (by omega)), trivial⟩ ⟨rfl, rfl, trivial⟩ (.inl rfl)
  · rename_i hk0
    have hk1 : ¬ j < M := by have hz := hlt.symm.trans hk0; simpa using hz
    clear hk0
    refine Exists.intro rs (And.intro hxs (And.intro (by have := ho.n2; omega) (And.intro ho.all ?_)))
    intro q hq; cbv
    have hfin : A.eq nx q = true := by rw [hee, hnx, List.take_of_length_le (by omega), hn, hq]; simp
    exact leaf h (congrArg B hfin.symm) rfl
def eParted : List AV → Option ((AV → Prop) → Prop)
  | [.agg [.vs 5 xs, .lit (.int .i64 a), .lit (.int .i64 b), .lit (.int .i64 c)], .vs 3 ys] => some fun K => ∃ (rs : List Rch) (L : List (Nat × Nat × Int)), (xs = rs.map rcV ∧ ys = L.map cloV ∧ RoadOk rs ∧ ChainR L ∧ iLen (nxtR L) = sumLg rs ∧ (∀ x ∈ L, x.2.2 = 1 ∨ x.2.2 = 2 ∨ x.2.2 = 3) ∧ L.length ≤ 1000000 ∧ ∀ x ∈ L, x.2.1 ≤ 1000000) ∧ K (B true)
  | _ => none
theorem eParted_ok : ∀ args pt, eParted args = some pt → ∀ (H : AHeap) (Kk : AV → AHeap → Prop), pt (fun r => Kk r H) → ACalls Try.prog 44 args H Kk := by
  intro args pt h H Kk hk
  unfold eParted at h
  split at h
  · cases h
    obtain ⟨rs, L, ⟨rfl, rfl, h1, h2, h3, h4, h5, h6⟩, h7⟩ := hk
    exact p44 rs _ _ _ L h1 h2 h3 h4 h5 h6 H h7
  · cases h
end Go.Sas
