/-
Probe: the mends of a mark: contract.
Conditions: none.
-/
import Derived.Test.YtajegdbljldakaaQR50
set_option linter.unusedVariables false
set_option linter.unusedSimpArgs false
namespace Go.Sas
open Go.Proofs
set_option maxRecDepth 100000
theorem p120 (m : List Mrk) (k : Nat) (h0 : Int) (hm : m.length ≤ 19) (hk : k < m.length) (H : AHeap) {Kk : AV → AHeap → Prop} (h : Kk (.vs 5 ((mendS m k h0).map mkV)) H) : ACalls Try.prog 120 [.vs 5 (m.map mkV), I (iLen k), I h0] H Kk := by
  refine (fun q => pureF (by simp [AV.nidL, AV.nid, nidL_map (g := mkV) (fun _ => rfl) m]) (by simp [AV.nid]) q H h) ?_
  clear h
  intro Kk h
  obtain ⟨xs, hxs⟩ : ∃ xs, xs = m.map mkV := ⟨_, rfl⟩
  obtain ⟨ik, hik⟩ : ∃ i, i = iLen k := ⟨_, rfl⟩
  rw [← hxs, ← hik]
  obtain ⟨M, hM⟩ : ∃ M, M = m.length := ⟨_, rfl⟩
  obtain ⟨mk, hmk⟩ : ∃ x, x = m.getD k mk0 := ⟨_, rfl⟩
  have hmk' : m[k]? = some mk := by rw [hmk, List.getD_eq_getElem?_getD, List.getElem?_eq_getElem hk]; rfl
  obtain ⟨F, hF⟩ : ∃ F, F = Frees 0 Kk := ⟨_, rfl⟩
  rw [← hF]
  obtain ⟨A, hA⟩ : ∃ A, A = std := ⟨_, rfl⟩
  have hne : ∀ x y, A.ne x y = decide (x ≠ y) := by subst hA; intro x y; simp only [std, iNe]; rw [Bool.eq_iff_iff]; simp
  have hee : ∀ x y, A.eq x y = decide (x = y) := by subst hA; intro x y; exact iEq_dec _ _
  have hll : ∀ x y, A.lt x y = decide (x < y) := by subst hA; intro x y; rfl
  have hle : ∀ x y, A.le x y = decide (x ≤ y) := by subst hA; intro x y; rfl
  have hnb : ∀ b, A.bnot b = !b := by subst hA; intro b; rfl
  have hbd : ∀ x y, A.band x y = (x && y) := by subst hA; intro x y; rfl
  have hsg : ∀ g, A.sg g g := by subst hA; exact fun _ => rfl
  have hvv : A.vlen xs = iLen M := by subst hA; rw [hxs, hM]; simp [std]
  obtain ⟨ML, hML⟩ : ∃ f : Nat → List Mrk, f = fun j => ((m.zipIdx.take j).filter fun p => isMend m k h0 p.2 p.1).map (·.1) := ⟨_, rfl⟩
  have hMLs : ∀ j x, m[j]? = some x → ML (j + 1) = ML j ++ (if isMend m k h0 j x = true then [x] else []) := fun j x hx => by
    rw [hML]; dsimp only
    have hz : m.zipIdx[j]? = some (x, j) := by rw [List.getElem?_zipIdx, hx]; simp
    obtain ⟨h8, he⟩ := List.getElem?_eq_some_iff.1 hz
    rw [List.take_succ_eq_append_getElem h8, he, List.filter_append, List.map_append]
    congr 1
    by_cases hq : isMend m k h0 j x = true <;> simp [hq]
  have hMLl : ∀ j, (ML j).length ≤ j := fun j => by
    rw [hML]; simp only [List.length_map]
    refine Nat.le_trans (List.length_filter_le _ _) ?_
    rw [List.length_take]; omega
  have hMLe : ML M = mendL m k h0 := by rw [hML]; unfold mendL; dsimp only; rw [List.take_of_length_le (by simp; omega)]
  refine go120 rfl (SGo_run hA ⟨[], [], [], []⟩ .nil .nil 200 fun T TD hT hTD => ?_)
  cbv
  rw [hT]
  refine AGo_nilms 7 5 rfl ?_
  refine AGo_upE [0, 1, 2, 10, 11] M (fun _ (_ : Unit) => True) (fun j _ i => [(7, .ms 5 0 (ML j).length 0 (ML j).length), (12, I i)]) (fun j _ => [.own (ML j).length ((ML j).flatMap mkC)]) () trivial ⟨by rw [hML]; rfl, rfl, trivial⟩ (.inl (by rw [hML]; rfl)) fun j _ i hi hj _ Bk hB => ?_
  have hlt : A.lt i (A.vlen xs) = decide (j < M) := by rw [hvv, hll, hi, decide_eq_decide]; unfold iLen; omega
  have hadd : ∀ N, j < N → N ≤ 9223372036854775807 → A.add .i64 i 1 = iLen (j + 1) := fun N hj hN => by subst hA; exact add_one hi hj hN
  obtain ⟨n, hn⟩ : ∃ n, n = (ML j).length := ⟨_, rfl⟩
  obtain ⟨cc, hcc⟩ : ∃ c, c = (ML j).flatMap mkC := ⟨_, rfl⟩
  rw [← hn, ← hcc]
  have hcl : cc.length = n * 5 := by rw [hcc, hn, len_flat (k := 5) (fun _ => rfl)]
  have hn19 : n ≤ 19 := by have := hMLl j; omega
  refine SGo_run hA ⟨[0], [1000], [], (127, eSortM) :: []⟩ .nil (.cons eSortM_ok .nil) 200 fun T TD hT hTD => ?_
  cbv
  split <;> cbv
  · rename_i hk0
    have hk1 : j < M := by have hz := hlt.symm.trans hk0; simpa using hz
    clear hk0
    obtain ⟨x, hx⟩ : ∃ x, m[j]? = some x := ⟨_, List.getElem?_eq_getElem (by omega)⟩
    have hs := hMLs j x hx
    obtain ⟨xk, xf, xt, xh, xp⟩ := x
    obtain ⟨yk, yf, yt, yh, yp⟩ := mk
    have hix : A.ix 5 5 xs i (mkC ⟨xk, xf, xt, xh, xp⟩) := by subst hA; exact ix_map hxs hi hx rfl
    have hiy : A.ix 5 5 xs ik (mkC ⟨yk, yf, yt, yh, yp⟩) := by subst hA; exact ix_map hxs hik hmk' rfl
    have hIM : isMend m k h0 j ⟨xk, xf, xt, xh, xp⟩ = (decide (xk = 4) && (decide (xh ≤ h0) && (decide (yh < xh) || (decide (xh = yh) && decide (k < j))))) := by
      unfold isMend; rw [← hmk]; rw [Bool.eq_iff_iff]; simp
    refine Exists.intro _ (And.intro hix ?_); cbv
    have hq1 : A.eq xk 4 = decide (xk = 4) := hee _ _
    have hq2 : A.le xh h0 = decide (xh ≤ h0) := hle _ _
    have hq3 : A.lt yh xh = decide (yh < xh) := hll _ _
    have hq4 : A.eq xh yh = decide (xh = yh) := hee _ _
    have hq5 : A.lt ik i = decide (k < j) := by rw [hll, hik, hi, decide_eq_decide]; unfold iLen; omega
    have hadj := hadd _ hk1 (by omega)
    have hcn : ∀ q (l : List Mrk), AV.ltL q (l.flatMap mkC) := fun q l => AV.ltL_nid (mkC_nid l)
    split <;> cbv
    · rename_i z1
      have z1 := hq1.symm.trans z1
      split <;> cbv
      · rename_i z2
        have z2 := hq2.symm.trans z2
        refine Exists.intro _ (And.intro hiy ?_); cbv
        split <;> cbv
        · rename_i z3
          have z3 := hq3.symm.trans z3
          have hs' : ML (j + 1) = ML j ++ [⟨xk, xf, xt, xh, xp⟩] := by rw [hs, if_pos (by rw [hIM, z1, z2, z3]; rfl)]
          obtain ⟨c1, hc1⟩ : ∃ x, x = cc ++ mkC ⟨xk, xf, xt, xh, xp⟩ := ⟨_, rfl⟩
          refine And.intro (hsg _) (Exists.intro c1 (Exists.intro (n + 1) (And.intro (by subst hA; rw [hc1]; exact app_one hcl rfl (by omega)) (And.intro rfl ?_)))); cbv
          have hfin : c1 = (ML (j + 1)).flatMap mkC := by rw [hc1, hs', hcc]; simp
          have hlen : (ML (j + 1)).length = n + 1 := by rw [hs']; simp [hn]
          exact hB () _ _ hk1 trivial (by rw [hlen]; exact ⟨rfl, congrArg I hadj, trivial⟩) ⟨rfl, rfl, rfl, rfl, rfl, trivial⟩ (.inr ⟨⟨_, by rw [hlen, ← hfin]; rfl⟩, by simp, by simp [ltG, AV.lt, AV.ltL, keepS, look, gset], by simp [ltH, AObj.lt, AV.lt, AV.ltL, hcn, -List.flatMap_append]⟩)
        · rename_i z3
          have z3 := hq3.symm.trans z3
          refine Exists.intro _ (And.intro hiy ?_); cbv
          split <;> cbv
          · rename_i z4
            have z4 := hq4.symm.trans z4
            split <;> cbv
            · rename_i z5
              have z5 := hq5.symm.trans z5
              have hs' : ML (j + 1) = ML j ++ [⟨xk, xf, xt, xh, xp⟩] := by rw [hs, if_pos (by rw [hIM, z1, z2, z3, z4, z5]; rfl)]
              obtain ⟨c1, hc1⟩ : ∃ x, x = cc ++ mkC ⟨xk, xf, xt, xh, xp⟩ := ⟨_, rfl⟩
              refine And.intro (hsg _) (Exists.intro c1 (Exists.intro (n + 1) (And.intro (by subst hA; rw [hc1]; exact app_one hcl rfl (by omega)) (And.intro rfl ?_)))); cbv
              have hfin : c1 = (ML (j + 1)).flatMap mkC := by rw [hc1, hs', hcc]; simp
              have hlen : (ML (j + 1)).length = n + 1 := by rw [hs']; simp [hn]
              exact hB () _ _ hk1 trivial (by rw [hlen]; exact ⟨rfl, congrArg I hadj, trivial⟩) ⟨rfl, rfl, rfl, rfl, rfl, trivial⟩ (.inr ⟨⟨_, by rw [hlen, ← hfin]; rfl⟩, by simp, by simp [ltG, AV.lt, AV.ltL, keepS, look, gset], by simp [ltH, AObj.lt, AV.lt, AV.ltL, hcn, -List.flatMap_append]⟩)
            · rename_i z5
              have z5 := hq5.symm.trans z5
              have hs' : ML (j + 1) = ML j := by rw [hs, if_neg (by rw [hIM, z1, z2, z3, z4, z5]; simp), List.append_nil]
              have hfin : cc = (ML (j + 1)).flatMap mkC := by rw [hs', hcc]
              have hlen : (ML (j + 1)).length = n := by rw [hs', hn]
              exact hB () _ _ hk1 trivial (by rw [hlen]; exact ⟨rfl, congrArg I hadj, trivial⟩) ⟨rfl, rfl, rfl, rfl, rfl, trivial⟩ (.inr ⟨⟨_, by rw [hlen, ← hfin]; rfl⟩, by simp, by simp [ltG, AV.lt, AV.ltL, keepS, look, gset], by simp [ltH, AObj.lt, AV.lt, AV.ltL, hcn, -List.flatMap_append]⟩)
          · rename_i z4
            have z4 := hq4.symm.trans z4
            have hs' : ML (j + 1) = ML j := by rw [hs, if_neg (by rw [hIM, z1, z2, z3, z4]; simp), List.append_nil]
            have hfin : cc = (ML (j + 1)).flatMap mkC := by rw [hs', hcc]
            have hlen : (ML (j + 1)).length = n := by rw [hs', hn]
            exact hB () _ _ hk1 trivial (by rw [hlen]; exact ⟨rfl, congrArg I hadj, trivial⟩) ⟨rfl, rfl, rfl, rfl, rfl, trivial⟩ (.inr ⟨⟨_, by rw [hlen, ← hfin]; rfl⟩, by simp, by simp [ltG, AV.lt, AV.ltL, keepS, look, gset], by simp [ltH, AObj.lt, AV.lt, AV.ltL, hcn, -List.flatMap_append]⟩)
      · rename_i z2
        have z2 := hq2.symm.trans z2
        have hs' : ML (j + 1) = ML j := by rw [hs, if_neg (by rw [hIM, z1, z2]; simp), List.append_nil]
        have hfin : cc = (ML (j + 1)).flatMap mkC := by rw [hs', hcc]
        have hlen : (ML (j + 1)).length = n := by rw [hs', hn]
        exact hB () _ _ hk1 trivial (by rw [hlen]; exact ⟨rfl, congrArg I hadj, trivial⟩) ⟨rfl, rfl, rfl, rfl, rfl, trivial⟩ (.inr ⟨⟨_, by rw [hlen, ← hfin]; rfl⟩, by simp, by simp [ltG, AV.lt, AV.ltL, keepS, look, gset], by simp [ltH, AObj.lt, AV.lt, AV.ltL, hcn, -List.flatMap_append]⟩)
    · rename_i z1
      have z1 := hq1.symm.trans z1
      have hs' : ML (j + 1) = ML j := by rw [hs, if_neg (by rw [hIM, z1]; simp), List.append_nil]
      have hfin : cc = (ML (j + 1)).flatMap mkC := by rw [hs', hcc]
      have hlen : (ML (j + 1)).length = n := by rw [hs', hn]
      exact hB () _ _ hk1 trivial (by rw [hlen]; exact ⟨rfl, congrArg I hadj, trivial⟩) ⟨rfl, rfl, rfl, rfl, rfl, trivial⟩ (.inr ⟨⟨_, by rw [hlen, ← hfin]; rfl⟩, by simp, by simp [ltG, AV.lt, AV.ltL, keepS, look, gset], by simp [ltH, AObj.lt, AV.lt, AV.ltL, hcn, -List.flatMap_append]⟩)
  · rename_i hk0
    have hk1 : ¬ j < M := by have hz := hlt.symm.trans hk0; simpa using hz
    clear hk0
    have hjM : j = M := by omega
    refine Exists.intro (ML j) (And.intro ⟨rfl, hcc, hn, rfl, hn19⟩ ?_)
    intro cs hcs; cbv
    have hmv : sortV keyM (ML j) = mendS m k h0 := by rw [hjM, hMLe]; rfl
    rw [hmv] at hcs
    obtain ⟨zs, hzs⟩ : ∃ z, z = (mendS m k h0).map mkV := ⟨_, rfl⟩
    have hE : Elems 5 zs cs := by rw [hcs, hzs]; exact Elems_map (f := mkV) (g := mkC) (sz := 5) (fun _ => rfl) (fun _ => rfl) (fun _ => rfl) _
    have hzl : zs.length = n := by rw [hzs, hn, List.length_map, ← hmv, sortV_len]
    rw [← hzs] at h
    rw [hF]
    refine Frees.frz 0 n 5 zs rfl hE ?_
    have e1 : AV.frz 0 n 5 zs (aTup [.ms 5 0 n 0 n]) = .vs 5 zs := frz_self hzl
    rw [e1]
    exact Frees.drop0 h (by simp [AV.nid])
def eMends : List AV → Option ((AV → Prop) → Prop)
  | [.vs 5 xs, .lit (.int .i64 i), .lit (.int .i64 h)] => some fun K => ∃ (m : List Mrk) (k : Nat), (xs = m.map mkV ∧ i = iLen k ∧ m.length ≤ 19 ∧ k < m.length) ∧ ∀ ys, ys = (mendS m k h).map mkV → K (.vs 5 ys)
  | _ => none
theorem eMends_ok : ∀ args pt, eMends args = some pt → ∀ (H : AHeap) (Kk : AV → AHeap → Prop), pt (fun r => Kk r H) → ACalls Try.prog 120 args H Kk := by
  intro args pt h H Kk hk
  unfold eMends at h
  split at h
  · cases h
    obtain ⟨m, k, ⟨rfl, rfl, h1, h2⟩, h3⟩ := hk
    exact p120 m k _ h1 h2 H (h3 _ rfl)
  · cases h
end Go.Sas
