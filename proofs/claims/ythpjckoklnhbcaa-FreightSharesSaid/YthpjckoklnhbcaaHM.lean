/-
Freight: a copy of a row of spans, to be written to: contract.
Freight: a copy of a freight whose capacities may be written to: contract.
Freight: what the reference's bound calls: contracts.
Conditions: none.
-/
import Derived.Test.YthpjckoklnhbcaaHK
import Derived.Test.YthpjckoklnhbcaaHL
import Derived.Test.YthpjckoklnhbcaaHD
import Derived.Test.YthpjckoklnhbcaaHF
import Derived.Test.YthpjckoklnhbcaaHI
set_option linter.unusedVariables false
set_option linter.unusedSimpArgs false
namespace Go.Sas
open Go.Proofs
set_option maxRecDepth 100000
end Go.Sas
namespace Go.Sas
open Go.Proofs
set_option maxRecDepth 100000
theorem Frees.weak {m : Nat} {Kk : AV → AHeap → Prop} {r : AV} {H : AHeap} (q : Nat) {gg : Nat} {cs : List AV} (hX : H[q]? = some (.own gg cs)) (h : Frees m Kk r (H.set q (.own gg []))) : Frees m Kk r H :=
  fun st0 w0 st w v hm he hH hr => h st0 w0 st w v hm he (hH.weak hX) hr
end Go.Sas
namespace Go.Sas
open Go.Proofs
set_option maxRecDepth 100000
/-- numbers whose places from k on are moved up by one -/
def shF (l : List Nat) (k : Nat) : List Nat := l.take k ++ l.getD k 0 :: l.drop k
theorem shF_get {l : List Nat} {k : Nat} (h : k < l.length) : (shF l (k + 1))[k]? = some (l.getD k 0) := by
  unfold shF
  rw [List.getElem?_append_left (by simp; omega), List.getElem?_take, if_pos (by omega), List.getD_eq_getElem?_getD, List.getElem?_eq_getElem h]; rfl
theorem shF_set {l : List Nat} {k : Nat} (h : k < l.length) : (shF l (k + 1)).set (k + 1) (l.getD k 0) = shF l k := by
  unfold shF
  rw [List.set_append_right _ _ (by simp only [List.length_take]; omega)]
  have e1 : (l.take (k + 1)).length = k + 1 := by simp; omega
  rw [e1, Nat.sub_self, List.set_cons_zero]
  have e2 : l.take (k + 1) = l.take k ++ [l.getD k 0] := by
    rw [List.take_succ_eq_append_getElem h, List.getD_eq_getElem?_getD, List.getElem?_eq_getElem h]; rfl
  have e3 : l.drop k = l.getD k 0 :: l.drop (k + 1) := by
    rw [List.drop_eq_getElem_cons h, List.getD_eq_getElem?_getD, List.getElem?_eq_getElem h]; rfl
  rw [e2, List.append_assoc]
  rw [show l.take k ++ l.getD k 0 :: l.drop k = l.take k ++ (l.getD k 0 :: (l.getD k 0 :: l.drop (k + 1))) by rw [← e3]]
  rfl
theorem shF_end {l : List Nat} {k x : Nat} (h : k ≤ l.length) : (shF l k).set k x = l.take k ++ x :: l.drop k := by
  unfold shF
  rw [List.set_append_right _ _ (by simp only [List.length_take]; omega), show k - (l.take k).length = 0 by simp; omega, List.set_cons_zero]
theorem shF_len {l : List Nat} {k : Nat} : (shF l k).length = l.length + 1 := by unfold shF; simp; omega
theorem shF_top {l : List Nat} : shF l l.length = l ++ [0] := by unfold shF; simp
set_option maxHeartbeats 4000000 in
theorem p82 (vals : List Int) (hl : vals.length ≤ 1000) (H : AHeap) {Kk : AV → AHeap → Prop} (h : Kk (.vs 1 ((sortV (fun k => vals.getD k 0) (List.range vals.length)).map natI)) H) : ACalls Try.prog 82 [.vs 1 (vals.map I)] H Kk := by
  refine (fun q => pureF (by rfl) (by rfl) q H h) ?_
  clear h
  intro Kk h
  obtain ⟨vs, hvs⟩ : ∃ xs, xs = vals.map I := ⟨_, rfl⟩
  rw [← hvs]
  obtain ⟨n, hn⟩ : ∃ n, n = vals.length := ⟨_, rfl⟩
  rw [← hn] at h hl
  obtain ⟨key, hkey⟩ : ∃ k : Nat → Int, k = fun k => vals.getD k 0 := ⟨_, rfl⟩
  rw [← hkey] at h
  obtain ⟨A, hA⟩ : ∃ A, A = std := ⟨_, rfl⟩
  obtain ⟨F, hF⟩ : ∃ F, F = Frees 0 Kk := ⟨_, rfl⟩
  rw [← hF]
  have hsg : ∀ g, A.sg g g := by subst hA; exact fun _ => rfl
  have hll : ∀ x y, A.lt x y = decide (x < y) := by subst hA; intro x y; rfl
  have hkv : ∀ k, k < n → ∀ i : Int, i = iLen k → A.ix 1 1 vs i [I (key k)] := fun k hk i hi => by
    subst hA
    refine ix_map hvs hi (x := key k) ?_ rfl
    rw [hkey]; dsimp only; rw [List.getD_eq_getElem?_getD, List.getElem?_eq_getElem (by omega)]; rfl
  refine go82 rfl (SGo_run hA ⟨[0], [], [], []⟩ .nil .nil 200 fun T TD hT hTD => ?_)
  cbv
  rw [hT]
  refine AGo_nilms 3 1 rfl ?_
  refine AGo_upE [0] n (fun _ (_ : Unit) => True) (fun j _ i => [(3, .ms 1 0 j 0 j), (4, I i)]) (fun j _ => [.own j ((sortV key (List.range j)).map natI)]) () trivial ⟨rfl, rfl, trivial⟩ (.inl rfl) fun j _ i hi hj _ Bk hB => ?_
  clear hT hTD T TD
  have hlt : A.lt i (A.vlen vs) = decide (j < n) := by subst hA; exact lt_len (by simp [hvs, hn]) hi
  have hadd : ∀ N, j < N → N ≤ 9223372036854775807 → A.add .i64 i 1 = iLen (j + 1) := fun N hj hN => by subst hA; exact add_one hi hj hN
  obtain ⟨out, hout⟩ : ∃ r, r = sortV key (List.range j) := ⟨_, rfl⟩
  have holen : out.length = j := by rw [hout, sortV_len]; simp
  have homem : ∀ k ∈ out, k < j := fun k hk => by rw [hout, sortV_mem] at hk; exact List.mem_range.1 hk
  obtain ⟨oc, hoc⟩ : ∃ r, r = out.map natI := ⟨_, rfl⟩
  rw [← hout, ← hoc]
  refine SGo_run hA ⟨[0], [], [], []⟩ .nil .nil 200 fun T TD hT hTD => ?_
  cbv
  split <;> cbv
  · rename_i hk0
    have hk1 : j < n := by have hz := hlt.symm.trans hk0; simpa using hz
    clear hk0
    have hln : A.len j = iLen j := by subst hA; rfl
    have hij : i = iLen j := hi
    have hki := hkv j hk1 i hi
    have hi1 := hadd _ hk1 (by omega)
    obtain ⟨kj, hkj⟩ : ∃ q, q = key j := ⟨_, rfl⟩
    rw [← hkj] at hki
    obtain ⟨lt, hltf⟩ : ∃ f : Nat → Bool, f = fun y => decide (key y < key j) := ⟨_, rfl⟩
    obtain ⟨at0, hat0⟩ : ∃ q, q = posV lt out.reverse := ⟨_, rfl⟩
    have hat1 : at0 ≤ j := by rw [hat0]; have := posV_le (lt := lt) (l := out.reverse); simp at this; omega
    have hnew : sortV key (List.range (j + 1)) = out.take at0 ++ j :: out.drop at0 := by
      rw [hout] at hat0 ⊢
      have h9 := insV_pos (lt := lt) (x := j) (l := (sortV key (List.range j)).reverse)
      rw [← hat0, List.reverse_reverse] at h9
      rw [← h9]
      unfold sortV
      rw [List.range_succ, List.foldl_append, List.reverse_reverse]
      simp only [List.foldl_cons, List.foldl_nil]
      rw [hltf]
    have hgo : ∀ k, k < j → A.get none oc k (I (iLen (out.getD k 0))) := fun k hk => by
      subst hA; rw [hoc]; exact getS_map (by rw [List.getD_eq_getElem?_getD, List.getElem?_eq_getElem (by omega)]; rfl)
    refine And.intro (hsg _) ?_
    rw [hT]
    refine AGo_whileE [0, 3, 4] (fun (m : Nat) => m) (fun m => m ≤ j ∧ posV lt (out.take m).reverse = at0) (fun m => [(5, I (iLen m))]) (fun _ => [.own j oc]) j ⟨Nat.le_refl _, by rw [List.take_of_length_le (by omega), hat0]⟩ ⟨congrArg I hln, trivial⟩ (.inl rfl) fun m hP Bk2 hB2 => ?_
    clear hT hTD T TD
    obtain ⟨hP1, hP2⟩ := hP
    obtain ⟨im, him⟩ : ∃ q, q = iLen m := ⟨_, rfl⟩
    rw [← him]
    have hz0 := hll 0 im
    refine SGo_run hA ⟨[0], [], [], []⟩ .nil .nil 200 fun T TD hT hTD => ?_
    cbv
    split <;> cbv
    · rename_i hz
      have hz : 0 < im := by have hz := hz0.symm.trans hz; simpa using hz
      obtain ⟨m', rfl⟩ : ∃ m', m = m' + 1 := ⟨m - 1, by unfold iLen at him; omega⟩
      have hsm : A.sub .i64 im 1 = iLen m' := by subst hA; rw [him]; show iSub .i64 (iLen (m' + 1)) 1 = _; unfold iLen; rw [iSub_id (by omega) (by omega)]; omega
      have hxm : A.ixm 1 1 0 j (A.sub .i64 im 1) m' := by rw [hsm]; subst hA; exact ixm1 rfl (by omega)
      have hgm := hgo m' (by omega)
      obtain ⟨y, hy⟩ : ∃ y, y = out.getD m' 0 := ⟨_, rfl⟩
      obtain ⟨iy, hiy⟩ : ∃ q, q = iLen y := ⟨_, rfl⟩
      rw [← hy, ← hiy] at hgm
      have hyj : y < j := by
        rw [hy]; apply homem
        rw [List.getD_eq_getElem?_getD, List.getElem?_eq_getElem (by omega)]; exact List.getElem_mem _
      have hky := hkv y (by omega) iy hiy
      obtain ⟨ky, hkye⟩ : ∃ q, q = key y := ⟨_, rfl⟩
      rw [← hkye] at hky
      have htk : (out.take (m' + 1)).reverse = y :: (out.take m').reverse := by
        rw [List.take_succ_eq_append_getElem (by omega), List.reverse_append, hy, List.getD_eq_getElem?_getD, List.getElem?_eq_getElem (by omega)]; rfl
      rw [htk] at hP2
      simp only [posV] at hP2
      have hlty : lt y = decide (ky < kj) := by rw [hltf, hkye, hkj]
      have hc := hll ky kj
      refine And.intro (hsg _) (Exists.intro _ (And.intro hxm ?_)); cbv
      refine And.intro (hsg _) (Exists.intro _ (And.intro hgm ?_)); cbv
      refine Exists.intro _ (And.intro hky ?_); cbv
      refine Exists.intro _ (And.intro hki ?_); cbv
      split <;> cbv
      · rename_i hz9
        have hz9 := hc.symm.trans hz9
        rw [if_pos (by rw [hlty]; exact hz9)] at hP2
        exact hB2 m' _ _ (by omega) ⟨by omega, hP2⟩ ⟨congrArg I hsm, trivial⟩ ⟨rfl, rfl, rfl, trivial⟩ (.inl rfl)
      · rename_i hz9
        have hz9 := hc.symm.trans hz9
        rw [if_neg (by rw [hlty, hz9]; decide)] at hP2
        have hma : m' + 1 = at0 := by simp at hP2; omega
        have himA : im = iLen at0 := him.trans (congrArg iLen hma)
        clear hB2 hP2
        refine And.intro (hsg _) (Exists.intro (oc ++ [I 0]) (Exists.intro (j + 1) (And.intro ?_ (And.intro rfl ?_))))
        · subst hA; exact app_one (by rw [hoc]; simp [holen]) rfl (by omega)
        generalize hc9 : oc ++ _ = c9
        have hc9 : c9 = (shF out j).map natI := by rw [← hc9, hoc, ← holen, shF_top]; simp; rfl
        cbv
        refine And.intro (hsg _) ?_
        rw [hT]
        have hln1 : A.sub .i64 (A.len (j + 1)) 1 = iLen j := by subst hA; show iSub .i64 (iLen (j + 1)) 1 = _; unfold iLen; rw [iSub_id (by omega) (by omega)]; omega
        refine AGo_whileE [0, 3, 4, 5] (fun (k : Nat) => k) (fun k => at0 ≤ k ∧ k ≤ j) (fun k => [(6, I (iLen k))]) (fun k => [.own (j + 1) ((shF out k).map natI)]) j ⟨hat1, Nat.le_refl _⟩ ⟨congrArg I hln1, trivial⟩ (.inl (by rw [hc9])) fun k hP Bk3 hB3 => ?_
        clear hT hTD T TD
        obtain ⟨hk2, hk3⟩ := hP
        obtain ⟨ik, hik⟩ : ∃ q, q = iLen k := ⟨_, rfl⟩
        obtain ⟨kc, hkc⟩ : ∃ q, q = (shF out k).map natI := ⟨_, rfl⟩
        rw [← hik, ← hkc]
        have hc3 := hll im ik
        refine SGo_run hA ⟨[0], [], [], []⟩ .nil .nil 200 fun T TD hT hTD => ?_
        cbv
        split <;> cbv
        · rename_i hz9
          have hz9 : at0 < k := by have hz9 := hc3.symm.trans hz9; rw [decide_eq_true_eq, himA, hik] at hz9; unfold iLen at hz9; omega
          obtain ⟨k', hk'⟩ : ∃ k', k = k' + 1 := ⟨k - 1, by omega⟩
          subst hk'
          have hs9 : A.sub .i64 ik 1 = iLen k' := by subst hA; rw [hik]; show iSub .i64 (iLen (k' + 1)) 1 = _; unfold iLen; rw [iSub_id (by omega) (by omega)]; omega
          have hx9 : A.ixm 1 1 0 (j + 1) (A.sub .i64 ik 1) k' := by rw [hs9]; subst hA; exact ixm1 rfl (by omega)
          have hx8 : A.ixm 1 1 0 (j + 1) ik (k' + 1) := by subst hA; exact ixm1 hik (by omega)
          obtain ⟨y9, hy9⟩ : ∃ y, y = out.getD k' 0 := ⟨_, rfl⟩
          have hg9 : A.get none kc k' (I (iLen y9)) := by subst hA; rw [hkc, hy9]; exact getS_map (shF_get (l := out) (k := k') (by omega))
          obtain ⟨k9, hk9⟩ : ∃ q, q = (shF out k').map natI := ⟨_, rfl⟩
          have hu9 : A.upd 1 kc (k' + 1) [I (iLen y9)] k9 := by subst hA; rw [hkc, hk9, ← shF_set (l := out) (k := k') (by omega), hy9]; exact updS_map (by rw [shF_len]; omega)
          obtain ⟨iy9, hiy9⟩ : ∃ q, q = iLen y9 := ⟨_, rfl⟩
          rw [← hiy9] at hg9 hu9
          refine And.intro (hsg _) (Exists.intro _ (And.intro hx9 ?_)); cbv
          refine And.intro (hsg _) (Exists.intro _ (And.intro hg9 ?_)); cbv
          refine And.intro (hsg _) (Exists.intro _ (And.intro hx8 ?_)); cbv
          refine And.intro (hsg _) (Exists.intro _ (And.intro hu9 ?_)); cbv
          exact hB3 k' _ _ (by omega) ⟨by omega, by omega⟩ ⟨congrArg I hs9, trivial⟩ ⟨rfl, rfl, rfl, rfl, trivial⟩ (.inl (by rw [hk9]))
        · rename_i hz9
          have hz9 : ¬ at0 < k := by have hz9 := hc3.symm.trans hz9; rw [decide_eq_false_iff_not, himA, hik] at hz9; unfold iLen at hz9; omega
          have hka : k = at0 := by omega
          have hx8 : A.ixm 1 1 0 (j + 1) im at0 := by subst hA; exact ixm1 himA (by omega)
          obtain ⟨k9, hk9⟩ : ∃ q, q = (sortV key (List.range (j + 1))).map natI := ⟨_, rfl⟩
          have hu9 : A.upd 1 kc at0 [I i] k9 := by
            rw [hkc, hk9, hnew, ← shF_end (l := out) (k := at0) (by omega), hka, hij]; subst hA; exact updS_map (by rw [shF_len]; omega)
          refine And.intro (hsg _) (Exists.intro _ (And.intro hx8 ?_)); cbv
          refine And.intro (hsg _) (Exists.intro _ (And.intro hu9 ?_)); cbv
          exact hB () _ _ hk1 trivial ⟨rfl, congrArg I hi1, trivial⟩ ⟨rfl, trivial⟩ (.inl (by rw [hk9]))
    · rename_i hz
      have hz : ¬ 0 < im := by have hz := hz0.symm.trans hz; simpa using hz
      have hm0 : m = 0 := by unfold iLen at him; omega
      subst hm0
      have hma : 0 = at0 := by rw [← hP2]; rfl
      have himA : im = iLen at0 := him.trans (congrArg iLen hma)
      clear hB2 hP2
      refine And.intro (hsg _) (Exists.intro (oc ++ [I 0]) (Exists.intro (j + 1) (And.intro ?_ (And.intro rfl ?_))))
      · subst hA; exact app_one (by rw [hoc]; simp [holen]) rfl (by omega)
      generalize hc9 : oc ++ _ = c9
      have hc9 : c9 = (shF out j).map natI := by rw [← hc9, hoc, ← holen, shF_top]; simp; rfl
      cbv
      refine And.intro (hsg _) ?_
      rw [hT]
      have hln1 : A.sub .i64 (A.len (j + 1)) 1 = iLen j := by subst hA; show iSub .i64 (iLen (j + 1)) 1 = _; unfold iLen; rw [iSub_id (by omega) (by omega)]; omega
      refine AGo_whileE [0, 3, 4, 5] (fun (k : Nat) => k) (fun k => at0 ≤ k ∧ k ≤ j) (fun k => [(6, I (iLen k))]) (fun k => [.own (j + 1) ((shF out k).map natI)]) j ⟨hat1, Nat.le_refl _⟩ ⟨congrArg I hln1, trivial⟩ (.inl (by rw [hc9])) fun k hP Bk3 hB3 => ?_
      clear hT hTD T TD
      obtain ⟨hk2, hk3⟩ := hP
      obtain ⟨ik, hik⟩ : ∃ q, q = iLen k := ⟨_, rfl⟩
      obtain ⟨kc, hkc⟩ : ∃ q, q = (shF out k).map natI := ⟨_, rfl⟩
      rw [← hik, ← hkc]
      have hc3 := hll im ik
      refine SGo_run hA ⟨[0], [], [], []⟩ .nil .nil 200 fun T TD hT hTD => ?_
      cbv
      split <;> cbv
      · rename_i hz9
        have hz9 : at0 < k := by have hz9 := hc3.symm.trans hz9; rw [decide_eq_true_eq, himA, hik] at hz9; unfold iLen at hz9; omega
        obtain ⟨k', hk'⟩ : ∃ k', k = k' + 1 := ⟨k - 1, by omega⟩
        subst hk'
        have hs9 : A.sub .i64 ik 1 = iLen k' := by subst hA; rw [hik]; show iSub .i64 (iLen (k' + 1)) 1 = _; unfold iLen; rw [iSub_id (by omega) (by omega)]; omega
        have hx9 : A.ixm 1 1 0 (j + 1) (A.sub .i64 ik 1) k' := by rw [hs9]; subst hA; exact ixm1 rfl (by omega)
        have hx8 : A.ixm 1 1 0 (j + 1) ik (k' + 1) := by subst hA; exact ixm1 hik (by omega)
        obtain ⟨y9, hy9⟩ : ∃ y, y = out.getD k' 0 := ⟨_, rfl⟩
        have hg9 : A.get none kc k' (I (iLen y9)) := by subst hA; rw [hkc, hy9]; exact getS_map (shF_get (l := out) (k := k') (by omega))
        obtain ⟨k9, hk9⟩ : ∃ q, q = (shF out k').map natI := ⟨_, rfl⟩
        have hu9 : A.upd 1 kc (k' + 1) [I (iLen y9)] k9 := by subst hA; rw [hkc, hk9, ← shF_set (l := out) (k := k') (by omega), hy9]; exact updS_map (by rw [shF_len]; omega)
        obtain ⟨iy9, hiy9⟩ : ∃ q, q = iLen y9 := ⟨_, rfl⟩
        rw [← hiy9] at hg9 hu9
        refine And.intro (hsg _) (Exists.intro _ (And.intro hx9 ?_)); cbv
        refine And.intro (hsg _) (Exists.intro _ (And.intro hg9 ?_)); cbv
        refine And.intro (hsg _) (Exists.intro _ (And.intro hx8 ?_)); cbv
        refine And.intro (hsg _) (Exists.intro _ (And.intro hu9 ?_)); cbv
        exact hB3 k' _ _ (by omega) ⟨by omega, by omega⟩ ⟨congrArg I hs9, trivial⟩ ⟨rfl, rfl, rfl, rfl, trivial⟩ (.inl (by rw [hk9]))
      · rename_i hz9
        have hz9 : ¬ at0 < k := by have hz9 := hc3.symm.trans hz9; rw [decide_eq_false_iff_not, himA, hik] at hz9; unfold iLen at hz9; omega
        have hka : k = at0 := by omega
        have hx8 : A.ixm 1 1 0 (j + 1) im at0 := by subst hA; exact ixm1 himA (by omega)
        obtain ⟨k9, hk9⟩ : ∃ q, q = (sortV key (List.range (j + 1))).map natI := ⟨_, rfl⟩
        have hu9 : A.upd 1 kc at0 [I i] k9 := by
          rw [hkc, hk9, hnew, ← shF_end (l := out) (k := at0) (by omega), hka, hij]; subst hA; exact updS_map (by rw [shF_len]; omega)
        refine And.intro (hsg _) (Exists.intro _ (And.intro hx8 ?_)); cbv
        refine And.intro (hsg _) (Exists.intro _ (And.intro hu9 ?_)); cbv
        exact hB () _ _ hk1 trivial ⟨rfl, congrArg I hi1, trivial⟩ ⟨rfl, trivial⟩ (.inl (by rw [hk9]))
  · rename_i hk0
    have hk1 : ¬ j < n := by have hz := hlt.symm.trans hk0; simpa using hz
    clear hk0
    have hjn : j = n := by omega
    rw [hF]
    rw [hjn] at hout
    refine Frees.frz 0 j 1 (out.map natI) rfl (by rw [hoc]; exact Elems_nat out) (Frees.drop0 ?_ ?_)
    · have : AV.frz 0 j 1 (out.map natI) (.ms 1 0 j 0 j) = .vs 1 (out.map natI) := frz_self (by simp [holen])
      simp only [aTup] at this ⊢
      rw [this, hout]; exact h
    · simp only [aTup, AV.frz, AV.frzL, AV.nid, AV.nidL, if_true]
      split <;> rfl
end Go.Sas
