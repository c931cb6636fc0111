/-
Freight: what the laws on plans and winters call: contracts and entries of tables.
Freight: worst and best winters of the reference and of the kit: contracts.
Conditions: none.
-/
import Derived.Test.YtndnjmpebpampaaDoorQG33
import Derived.Test.YtndnjmpebpampaaDoorHFf
import Derived.Test.YtndnjmpebpampaaDoorHHf
import Derived.Test.YtndnjmpebpampaaDoorHVf
import Derived.Test.YtndnjmpebpampaaDoorQGM2
import Derived.Test.YtndnjmpebpampaaDoorHDf
import Derived.Test.YtndnjmpebpampaaDoorXFf
set_option linter.unusedVariables false
set_option linter.unusedSimpArgs false
namespace Go.Sas
open Go.Proofs
set_option maxRecDepth 100000
theorem FrtV.len {f : Frt} (h : checkF f = 0) : f.caps.length ≤ 9223372036854775807 ∧ f.ords.length ≤ 9223372036854775807 := by
  have hV := checkF_ok h
  have := hV.c2; have := hV.o2; omega
theorem p15 (a b : Int) (H : AHeap) {Kk : AV → AHeap → Prop} (h : Kk (.agg [I a, I b]) H) : ACalls Tryd.prog 15 [I a, I b] H Kk := by
  refine (fun q => pureC (by rfl) (by rfl) q H h) ?_
  clear h
  intro Kk h
  obtain ⟨A, hA⟩ : ∃ A, A = std := ⟨_, rfl⟩
  refine go15 rfl (SGo_run hA ⟨[], [], [], []⟩ .nil .nil 200 fun T TD hT hTD => ?_)
  cbv
  exact h
def eSpan : List AV → Option ((AV → Prop) → Prop)
  | [.lit (.int .i64 a), .lit (.int .i64 b)] => some fun K => K (.agg [I a, I b])
  | _ => none
theorem eSpan_ok : ∀ args pt, eSpan args = some pt → ∀ (H : AHeap) (Kk : AV → AHeap → Prop), pt (fun r => Kk r H) → ACalls Tryd.prog 15 args H Kk := by
  intro args pt h H Kk hk
  unfold eSpan at h
  split at h
  · cases h; exact p15 _ _ H hk
  · cases h
end Go.Sas
namespace Go.Sas
open Go.Proofs
set_option maxRecDepth 100000
theorem p9 (a b c d : Int) (cs : List (Int × Int)) (ys : List AV) (hc : cs.length ≤ 1000000) (H : AHeap) {Kk : AV → AHeap → Prop} (h : Kk (winV b c (.vs 1 (cs.map fun x => I (x.1)))) H) :
    ACalls Tryd.prog 9 [frV a b c d (.vs 2 (cs.map sp)) (.vs 4 ys)] H Kk := by
  refine (fun q => pureF (by rfl) (by rfl) q H h) ?_
  clear h
  intro Kk h
  obtain ⟨xs, hxs⟩ : ∃ xs, xs = cs.map sp := ⟨_, rfl⟩
  rw [← hxs]
  obtain ⟨D, hDD⟩ : ∃ D, D = cs.length := ⟨_, rfl⟩
  rw [← hDD] at hc
  obtain ⟨A, hA⟩ : ∃ A, A = std := ⟨_, rfl⟩
  obtain ⟨F, hF⟩ : ∃ F, F = Frees 0 Kk := ⟨_, rfl⟩
  rw [← hF]
  have hv1 : A.vlen xs = iLen D := by subst hA; simp [std, hxs, hDD]
  have hsg : ∀ g, A.sg g g := by subst hA; exact fun _ => rfl
  refine go9 rfl (SGo_run hA ⟨[], [], [], []⟩ .nil .nil 200 fun T TD hT hTD => ?_)
  cbv
  rw [hT]
  refine AGo_nilcell 2 2 1 rfl rfl ?_
  refine AGo_upE [1, 2, 3] D (fun j (_ : Unit) => True) (fun j _ i => [(4, I i)])
    (fun j _ => [.own 0 [I a, I b, I c, I d, .vs 2 xs, .vs 4 ys], .own 0 [I 0, I 0, .lit (.slice none 0 0)], .own 0 [I b, I c, .ms 1 3 j 0 j], .own j ((cs.take j).map fun x => I (x.1))]) () trivial ⟨rfl, trivial⟩ (.inl rfl) fun j _ i hi hj hP Bk hB => ?_
  have hlt : A.lt i (A.vlen xs) = decide (j < D) := by subst hA; exact lt_len (by simp [hxs, hDD]) hi
  have hadd : ∀ N, j < N → N ≤ 9223372036854775807 → A.add .i64 i 1 = iLen (j + 1) := fun N hj hN => by subst hA; exact add_one hi hj hN
  obtain ⟨cc, hcc⟩ : ∃ r, r = (cs.take j).map fun x => I (x.1) := ⟨_, rfl⟩
  have hcl : LenIs cc j := by unfold LenIs; rw [hcc]; simp; omega
  rw [← hcc]
  refine SGo_run hA ⟨[3], [1003], [], []⟩ .nil .nil 200 fun T TD hT hTD => ?_
  cbv
  split <;> cbv
  · rename_i hk0
    have hk1 : j < D := by have hz := hlt.symm.trans hk0; simpa using hz
    clear hk0
    obtain ⟨⟨x, y⟩, hx⟩ : ∃ x, cs[j]? = some x := ⟨_, List.getElem?_eq_getElem (hDD ▸ hk1)⟩
    have hix : A.ix 2 2 xs i [I x, I y] := by subst hA; exact ix_map hxs hi hx rfl
    refine Exists.intro _ (And.intro hix ?_); cbv
    refine And.intro (hsg _) (Exists.intro (cc ++ [I x]) (Exists.intro (j + 1) (And.intro ?_ (And.intro rfl ?_))))
    · subst hA; exact app_one (by unfold LenIs at hcl; omega) rfl (by omega)
    generalize hc2 : cc ++ _ = cc2
    refine And.intro (by subst hA; simp [std, Keep, SubH, ResK, mask, maskGo, hasN, weakO, kept, newsOf]) ?_
    cbv
    have htk : (cs.take (j + 1)).map (fun x => I (x.1)) = cc2 := by
      obtain ⟨h9, he⟩ := List.getElem?_eq_some_iff.1 hx
      rw [← hc2, hcc, List.take_succ_eq_append_getElem h9, he]; simp
    refine hB () _ _ hk1 trivial ⟨congrArg I (hadd _ hk1 (by omega)), trivial⟩ ⟨rfl, rfl, rfl, trivial⟩ (.inl (by rw [htk]))
  · rename_i hk0
    have hk1 : ¬ j < D := by have hz := hlt.symm.trans hk0; simpa using hz
    clear hk0
    rw [hF]
    have hts : cs.take j = cs := List.take_of_length_le (by omega)
    rw [hts] at hcc
    refine Frees.frz 3 j 1 (cs.map fun x => I (x.1)) rfl (by rw [hcc, ← show ((cs.map fun x => (x.1)).map I) = (cs.map fun x => I (x.1)) from by rw [List.map_map]; rfl]; exact Elems_I _) (Frees.drop0 ?_ ?_)
    · have : AV.frz 3 j 1 (cs.map fun x => I (x.1)) (.ms 1 3 j 0 j) = .vs 1 (cs.map fun x => I (x.1)) := frz_self (by simp; omega)
      simp only [aTup, AV.frz, AV.frzL] at this ⊢
      first | rw [this, hxs] | rw [this]
      exact h
    · simp only [aTup, AV.frz, AV.frzL, AV.nid, AV.nidL, if_true]
      split <;> rfl
theorem p8 (a b c d : Int) (cs : List (Int × Int)) (ys : List AV) (hc : cs.length ≤ 1000000) (H : AHeap) {Kk : AV → AHeap → Prop} (h : Kk (winV a d (.vs 1 (cs.map fun x => I (x.2)))) H) :
    ACalls Tryd.prog 8 [frV a b c d (.vs 2 (cs.map sp)) (.vs 4 ys)] H Kk := by
  refine (fun q => pureF (by rfl) (by rfl) q H h) ?_
  clear h
  intro Kk h
  obtain ⟨xs, hxs⟩ : ∃ xs, xs = cs.map sp := ⟨_, rfl⟩
  rw [← hxs]
  obtain ⟨D, hDD⟩ : ∃ D, D = cs.length := ⟨_, rfl⟩
  rw [← hDD] at hc
  obtain ⟨A, hA⟩ : ∃ A, A = std := ⟨_, rfl⟩
  obtain ⟨F, hF⟩ : ∃ F, F = Frees 0 Kk := ⟨_, rfl⟩
  rw [← hF]
  have hv1 : A.vlen xs = iLen D := by subst hA; simp [std, hxs, hDD]
  have hsg : ∀ g, A.sg g g := by subst hA; exact fun _ => rfl
  refine go8 rfl (SGo_run hA ⟨[], [], [], []⟩ .nil .nil 200 fun T TD hT hTD => ?_)
  cbv
  rw [hT]
  refine AGo_nilcell 2 2 1 rfl rfl ?_
  refine AGo_upE [1, 2, 3] D (fun j (_ : Unit) => True) (fun j _ i => [(4, I i)])
    (fun j _ => [.own 0 [I a, I b, I c, I d, .vs 2 xs, .vs 4 ys], .own 0 [I 0, I 0, .lit (.slice none 0 0)], .own 0 [I a, I d, .ms 1 3 j 0 j], .own j ((cs.take j).map fun x => I (x.2))]) () trivial ⟨rfl, trivial⟩ (.inl rfl) fun j _ i hi hj hP Bk hB => ?_
  have hlt : A.lt i (A.vlen xs) = decide (j < D) := by subst hA; exact lt_len (by simp [hxs, hDD]) hi
  have hadd : ∀ N, j < N → N ≤ 9223372036854775807 → A.add .i64 i 1 = iLen (j + 1) := fun N hj hN => by subst hA; exact add_one hi hj hN
  obtain ⟨cc, hcc⟩ : ∃ r, r = (cs.take j).map fun x => I (x.2) := ⟨_, rfl⟩
  have hcl : LenIs cc j := by unfold LenIs; rw [hcc]; simp; omega
  rw [← hcc]
  refine SGo_run hA ⟨[3], [1003], [], []⟩ .nil .nil 200 fun T TD hT hTD => ?_
  cbv
  split <;> cbv
  · rename_i hk0
    have hk1 : j < D := by have hz := hlt.symm.trans hk0; simpa using hz
    clear hk0
    obtain ⟨⟨x, y⟩, hx⟩ : ∃ x, cs[j]? = some x := ⟨_, List.getElem?_eq_getElem (hDD ▸ hk1)⟩
    have hix : A.ix 2 2 xs i [I x, I y] := by subst hA; exact ix_map hxs hi hx rfl
    refine Exists.intro _ (And.intro hix ?_); cbv
    refine And.intro (hsg _) (Exists.intro (cc ++ [I y]) (Exists.intro (j + 1) (And.intro ?_ (And.intro rfl ?_))))
    · subst hA; exact app_one (by unfold LenIs at hcl; omega) rfl (by omega)
    generalize hc2 : cc ++ _ = cc2
    refine And.intro (by subst hA; simp [std, Keep, SubH, ResK, mask, maskGo, hasN, weakO, kept, newsOf]) ?_
    cbv
    have htk : (cs.take (j + 1)).map (fun x => I (x.2)) = cc2 := by
      obtain ⟨h9, he⟩ := List.getElem?_eq_some_iff.1 hx
      rw [← hc2, hcc, List.take_succ_eq_append_getElem h9, he]; simp
    refine hB () _ _ hk1 trivial ⟨congrArg I (hadd _ hk1 (by omega)), trivial⟩ ⟨rfl, rfl, rfl, trivial⟩ (.inl (by rw [htk]))
  · rename_i hk0
    have hk1 : ¬ j < D := by have hz := hlt.symm.trans hk0; simpa using hz
    clear hk0
    rw [hF]
    have hts : cs.take j = cs := List.take_of_length_le (by omega)
    rw [hts] at hcc
    refine Frees.frz 3 j 1 (cs.map fun x => I (x.2)) rfl (by rw [hcc, ← show ((cs.map fun x => (x.2)).map I) = (cs.map fun x => I (x.2)) from by rw [List.map_map]; rfl]; exact Elems_I _) (Frees.drop0 ?_ ?_)
    · have : AV.frz 3 j 1 (cs.map fun x => I (x.2)) (.ms 1 3 j 0 j) = .vs 1 (cs.map fun x => I (x.2)) := frz_self (by simp; omega)
      simp only [aTup, AV.frz, AV.frzL] at this ⊢
      first | rw [this, hxs] | rw [this]
      exact h
    · simp only [aTup, AV.frz, AV.frzL, AV.nid, AV.nidL, if_true]
      split <;> rfl
end Go.Sas
