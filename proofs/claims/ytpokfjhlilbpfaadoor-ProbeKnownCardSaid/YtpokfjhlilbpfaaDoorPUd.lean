/-
Probe: places are taken out of spans: contract.
Probe: spans grow: contract of the closure of covered.
Probe: what a mark covers: contract.
Conditions: none.
-/
import Derived.Test.YtpokfjhlilbpfaaDoorPId
import Derived.Test.YtpokfjhlilbpfaaDoorPCd
import Derived.Test.YtpokfjhlilbpfaaDoorPTd
set_option linter.unusedVariables false
set_option linter.unusedSimpArgs false
namespace Go.Sas
open Go.Proofs
set_option maxRecDepth 100000
abbrev spC2 (x : Int × Int) : List AV := [I x.1, I x.2]
theorem withoutS_len {f t : Int} : ∀ {l : Sps}, (withoutS l f t).length ≤ 2 * l.length
  | [] => by simp [withoutS]
  | x :: l => by
    have ih := withoutS_len (f := f) (t := t) (l := l)
    unfold withoutS at ih ⊢
    rw [List.flatMap_cons, List.length_append, List.length_cons]
    have : ((if x.1 ≤ min x.2 (f - 1) then [(x.1, min x.2 (f - 1))] else []) ++ (if max x.1 (t + 1) ≤ x.2 then [(max x.1 (t + 1), x.2)] else []) : Sps).length ≤ 2 := by
      split <;> split <;> simp
    omega
theorem p70 (l : Sps) (f t : Int) (hl : l.length ≤ 1000000) (hb : ∀ s ∈ l, (-1000000000 ≤ s.1 ∧ s.1 ≤ 1000000000) ∧ -1000000000 ≤ s.2 ∧ s.2 ≤ 1000000000) (hf : 0 ≤ f ∧ f ≤ 1000000) (ht : 0 ≤ t ∧ t ≤ 1000000) (H : AHeap) {Kk : AV → AHeap → Prop}
    (h : Kk (.vs 2 ((withoutS l f t).map sp)) H) : ACalls Tryd.prog 70 [.vs 2 (l.map sp), I f, I t] H Kk := by
  refine (fun q => pureF (by simp [AV.nidL, AV.nid, nidL_map (g := sp) (fun _ => rfl) l]) (by simp [AV.nid]) q H h) ?_
  clear h
  intro Kk h
  obtain ⟨xs, hxs⟩ : ∃ xs, xs = l.map sp := ⟨_, rfl⟩
  rw [← hxs]
  obtain ⟨M, hM⟩ : ∃ M, M = l.length := ⟨_, rfl⟩
  obtain ⟨F, hF⟩ : ∃ F, F = Frees 0 Kk := ⟨_, rfl⟩
  rw [← hF]
  obtain ⟨A, hA⟩ : ∃ A, A = std := ⟨_, rfl⟩
  have hne : ∀ x y, A.ne x y = decide (x ≠ y) := by subst hA; intro x y; simp only [std, iNe]; rw [Bool.eq_iff_iff]; simp
  have hee : ∀ x y, A.eq x y = decide (x = y) := by subst hA; intro x y; exact iEq_dec _ _
  have hll : ∀ x y, A.lt x y = decide (x < y) := by subst hA; intro x y; rfl
  have hle : ∀ x y, A.le x y = decide (x ≤ y) := by subst hA; intro x y; rfl
  have hnb : ∀ b, A.bnot b = !b := by subst hA; intro b; rfl
  have hbd : ∀ x y, A.band x y = (x && y) := by subst hA; intro x y; rfl
  have hsg : ∀ g, A.sg g g := by subst hA; exact fun _ => rfl
  have hvv : A.vlen xs = iLen M := by subst hA; rw [hxs, hM]; simp [std]
  have hf1 : A.sub .i64 f 1 = f - 1 := by subst hA; exact iSub_id (by omega) (by omega)
  have ht1 : A.add .i64 t 1 = t + 1 := by subst hA; exact iAdd_id (by omega) (by omega)
  obtain ⟨ML, hML⟩ : ∃ g : Nat → Sps, g = fun j => withoutS (l.take j) f t := ⟨_, rfl⟩
  have hMLs : ∀ j x, l[j]? = some x → ML (j + 1) = ML j ++ ((if x.1 ≤ min x.2 (f - 1) then [(x.1, min x.2 (f - 1))] else []) ++ (if max x.1 (t + 1) ≤ x.2 then [(max x.1 (t + 1), x.2)] else [])) := fun j x hx => by
    rw [hML]; unfold withoutS; dsimp only
    obtain ⟨h8, he⟩ := List.getElem?_eq_some_iff.1 hx
    rw [List.take_succ_eq_append_getElem h8, he, List.flatMap_append]
    simp
  have hMLl : ∀ j, (ML j).length ≤ 2 * j := fun j => by
    rw [hML]; refine Nat.le_trans withoutS_len ?_
    rw [List.length_take]; omega
  have hMLe : ML M = withoutS l f t := by rw [hML]; dsimp only; rw [List.take_of_length_le (by omega)]
  refine go70 rfl (SGo_run hA ⟨[], [], [], []⟩ .nil .nil 200 fun T TD hT hTD => ?_)
  cbv
  rw [hT]
  refine AGo_nilms 7 2 rfl ?_
  refine AGo_upE [1, 2, 12, 13] M (fun _ (_ : Unit) => True) (fun j _ i => [(7, .ms 2 0 (ML j).length 0 (ML j).length), (14, I i)]) (fun j _ => [.own (ML j).length ((ML j).flatMap spC2)]) () trivial ⟨by rw [hML]; rfl, rfl, trivial⟩ (.inl (by rw [hML]; rfl)) fun j _ i hi hj _ Bk hB => ?_
  have hlt : A.lt i (A.vlen xs) = decide (j < M) := by rw [hvv, hll, hi, decide_eq_decide]; unfold iLen; omega
  have hadd : ∀ N, j < N → N ≤ 9223372036854775807 → A.add .i64 i 1 = iLen (j + 1) := fun N hj hN => by subst hA; exact add_one hi hj hN
  obtain ⟨n, hn⟩ : ∃ n, n = (ML j).length := ⟨_, rfl⟩
  obtain ⟨cc, hcc⟩ : ∃ c, c = (ML j).flatMap spC2 := ⟨_, rfl⟩
  rw [← hn, ← hcc]
  have hcl : cc.length = n * 2 := by rw [hcc, hn, len_flat (k := 2) (fun _ => rfl)]
  have hn2 : n ≤ 2000000 := by have := hMLl j; omega
  have hcn : ∀ q (l : Sps), AV.ltL q (l.flatMap spC2) := fun q l => AV.ltL_nid (nidL_flat (fun _ => rfl) l)
  refine SGo_run hA ⟨[0], [], [], []⟩ .nil .nil 200 fun T TD hT hTD => ?_
  cbv
  split <;> cbv
  · rename_i hk0
    have hk1 : j < M := by have hz := hlt.symm.trans hk0; simpa using hz
    clear hk0
    obtain ⟨⟨u, v⟩, hx⟩ : ∃ x, l[j]? = some x := ⟨_, List.getElem?_eq_getElem (by omega)⟩
    have hs := hMLs j _ hx
    have hbx := hb _ (List.mem_of_getElem? hx)
    dsimp only at hs hbx
    have hix : A.ix 2 2 xs i [I u, I v] := by subst hA; exact ix_map hxs hi hx rfl
    have hmn : A.min v (A.sub .i64 f 1) = min v (f - 1) := by rw [hf1]; subst hA; exact iMin_eq _ _
    have hmx : A.max u (A.add .i64 t 1) = max u (t + 1) := by rw [ht1]; subst hA; exact iMax_eq _ _
    have hl1 : A.le u (A.min v (A.sub .i64 f 1)) = decide (u ≤ min v (f - 1)) := by rw [hmn, hle]
    have hl2 : A.le (A.max u (A.add .i64 t 1)) v = decide (max u (t + 1) ≤ v) := by rw [hmx, hle]
    have hadj := hadd _ hk1 (by omega)
    refine Exists.intro _ (And.intro hix ?_); cbv
    split <;> cbv
    · rename_i hz1
      have hz1 := of_decide_eq_true (hl1.symm.trans hz1)
      rw [if_pos hz1] at hs
      obtain ⟨c1, hc1⟩ : ∃ x, x = cc ++ [I u, I (A.min v (A.sub .i64 f 1))] := ⟨_, rfl⟩
      refine And.intro (hsg _) (Exists.intro c1 (Exists.intro (n + 1) (And.intro (by subst hA; rw [hc1]; exact app_one hcl rfl (by omega)) (And.intro rfl ?_)))); cbv
      rw [hmn] at hc1
      have hcl1 : c1.length = (n + 1) * 2 := by rw [hc1]; simp [hcl]; omega
      split <;> cbv
      · rename_i hz2
        have hz2 := of_decide_eq_true (hl2.symm.trans hz2)
        rw [if_pos hz2] at hs
        obtain ⟨c2, hc2⟩ : ∃ x, x = c1 ++ [I (A.max u (A.add .i64 t 1)), I v] := ⟨_, rfl⟩
        refine And.intro (hsg _) (Exists.intro c2 (Exists.intro (n + 2) (And.intro (by subst hA; rw [hc2]; exact app_one hcl1 rfl (by omega)) (And.intro rfl ?_)))); cbv
        rw [hmx] at hc2
        have hfin : c2 = (ML (j + 1)).flatMap spC2 := by rw [hc2, hc1, hs, hcc]; simp
        have hlen : (ML (j + 1)).length = n + 2 := by rw [hs]; simp [hn]
        exact hB () _ _ hk1 trivial (by rw [hlen]; exact ⟨rfl, congrArg I hadj, trivial⟩) ⟨rfl, rfl, rfl, rfl, trivial⟩ (.inr ⟨⟨_, by rw [hlen, ← hfin]; rfl⟩, by simp, by simp [ltG, AV.lt, AV.ltL, keepS, look, gset], by simp [ltH, AObj.lt, AV.lt, AV.ltL, hcn, -List.flatMap_append]⟩)
      · rename_i hz2
        have hz2 := of_decide_eq_false (hl2.symm.trans hz2)
        rw [if_neg hz2] at hs
        have hfin : c1 = (ML (j + 1)).flatMap spC2 := by rw [hc1, hs, hcc]; simp
        have hlen : (ML (j + 1)).length = n + 1 := by rw [hs]; simp [hn]
        exact hB () _ _ hk1 trivial (by rw [hlen]; exact ⟨rfl, congrArg I hadj, trivial⟩) ⟨rfl, rfl, rfl, rfl, trivial⟩ (.inr ⟨⟨_, by rw [hlen, ← hfin]; rfl⟩, by simp, by simp [ltG, AV.lt, AV.ltL, keepS, look, gset], by simp [ltH, AObj.lt, AV.lt, AV.ltL, hcn, -List.flatMap_append]⟩)
    · rename_i hz1
      have hz1 := of_decide_eq_false (hl1.symm.trans hz1)
      rw [if_neg hz1] at hs
      split <;> cbv
      · rename_i hz2
        have hz2 := of_decide_eq_true (hl2.symm.trans hz2)
        rw [if_pos hz2] at hs
        obtain ⟨c2, hc2⟩ : ∃ x, x = cc ++ [I (A.max u (A.add .i64 t 1)), I v] := ⟨_, rfl⟩
        refine And.intro (hsg _) (Exists.intro c2 (Exists.intro (n + 1) (And.intro (by subst hA; rw [hc2]; exact app_one hcl rfl (by omega)) (And.intro rfl ?_)))); cbv
        rw [hmx] at hc2
        have hfin : c2 = (ML (j + 1)).flatMap spC2 := by rw [hc2, hs, hcc]; simp
        have hlen : (ML (j + 1)).length = n + 1 := by rw [hs]; simp [hn]
        exact hB () _ _ hk1 trivial (by rw [hlen]; exact ⟨rfl, congrArg I hadj, trivial⟩) ⟨rfl, rfl, rfl, rfl, trivial⟩ (.inr ⟨⟨_, by rw [hlen, ← hfin]; rfl⟩, by simp, by simp [ltG, AV.lt, AV.ltL, keepS, look, gset], by simp [ltH, AObj.lt, AV.lt, AV.ltL, hcn, -List.flatMap_append]⟩)
      · rename_i hz2
        have hz2 := of_decide_eq_false (hl2.symm.trans hz2)
        rw [if_neg hz2] at hs
        have hfin : cc = (ML (j + 1)).flatMap spC2 := by rw [hs, hcc]; simp
        have hlen : (ML (j + 1)).length = n := by rw [hs]; simp [hn]
        exact hB () _ _ hk1 trivial (by rw [hlen]; exact ⟨rfl, congrArg I hadj, trivial⟩) ⟨rfl, rfl, rfl, rfl, trivial⟩ (.inr ⟨⟨_, by rw [hlen, ← hfin]; rfl⟩, by simp, by simp [ltG, AV.lt, AV.ltL, keepS, look, gset], by simp [ltH, AObj.lt, AV.lt, AV.ltL, hcn, -List.flatMap_append]⟩)
  · rename_i hk0
    have hk1 : ¬ j < M := by have hz := hlt.symm.trans hk0; simpa using hz
    clear hk0
    have hjM : j = M := by omega
    have hcv : cc = (withoutS l f t).flatMap spC2 := by rw [hcc, hjM, hMLe]
    have hnv : n = (withoutS l f t).length := by rw [hn, hjM, hMLe]
    have hE : Elems 2 ((withoutS l f t).map sp) cc := by rw [hcv]; exact Elems_map (f := sp) (g := spC2) (sz := 2) (fun _ => rfl) (fun _ => rfl) (fun _ => rfl) _
    rw [hF]
    refine Frees.frz 0 n 2 ((withoutS l f t).map sp) rfl hE ?_
    have e1 : AV.frz 0 n 2 ((withoutS l f t).map sp) (aTup [.ms 2 0 n 0 n]) = .vs 2 ((withoutS l f t).map sp) := frz_self (by simp [hnv])
    rw [e1]
    exact Frees.drop0 h (by simp [AV.nid])
def eWithout : List AV → Option ((AV → Prop) → Prop)
  | [.vs 2 xs, .lit (.int .i64 f), .lit (.int .i64 t)] => some fun K => ∃ l : Sps, (xs = l.map sp ∧ l.length ≤ 1000000 ∧ ∀ s ∈ l, (-1000000000 ≤ s.1 ∧ s.1 ≤ 1000000000) ∧ -1000000000 ≤ s.2 ∧ s.2 ≤ 1000000000) ∧ (0 ≤ f ∧ f ≤ 1000000) ∧ (0 ≤ t ∧ t ≤ 1000000) ∧ ∀ ys, ys = (withoutS l f t).map sp → K (.vs 2 ys)
  | _ => none
theorem eWithout_ok : ∀ args pt, eWithout args = some pt → ∀ (H : AHeap) (Kk : AV → AHeap → Prop), pt (fun r => Kk r H) → ACalls Tryd.prog 70 args H Kk := by
  intro args pt h H Kk hk
  unfold eWithout at h
  split at h
  · cases h
    obtain ⟨l, ⟨rfl, h1, h2⟩, h3, h4, h5⟩ := hk
    exact p70 l _ _ h1 h2 h3 h4 H (h5 _ rfl)
  · cases h
end Go.Sas
namespace Go.Sas
open Go.Proofs
set_option maxRecDepth 100000
def SpB (N b : Int) (l : Sps) : Prop := ∀ s ∈ l, (0 ≤ s.1 ∧ s.1 ≤ b) ∧ -b ≤ s.2 ∧ s.2 ≤ N - 1
theorem SpB.spread {N b y : Int} {l : Sps} (h : SpB N b l) (hN : 1 ≤ N ∧ N ≤ 1000) (hb : 0 ≤ b) (hy : -1000000 ≤ y ∧ y ≤ 1000000) : SpB N (b + 1000000) (spreadS N y l) := by
  intro s hs
  unfold spreadS at hs
  obtain ⟨u, hu, rfl⟩ := List.mem_map.1 hs
  have := h u hu
  dsimp only
  omega
theorem SpB.without {N b f t : Int} {l : Sps} (h : SpB N b l) (hb : 1001 ≤ b) (hf : 0 ≤ f ∧ f ≤ 1000) (ht : 0 ≤ t ∧ t ≤ 1000) : SpB N b (withoutS l f t) := by
  intro s hs
  unfold withoutS at hs
  obtain ⟨u, hu, hs⟩ := List.mem_flatMap.1 hs
  have := h u hu
  rcases List.mem_append.1 hs with hs | hs
  · split at hs
    · simp only [List.mem_singleton] at hs; subst hs; dsimp only; omega
    · cases hs
  · split at hs
    · simp only [List.mem_singleton] at hs; subst hs; dsimp only; omega
    · cases hs
set_option maxHeartbeats 2000000 in
theorem p68b (to at0 N xk xf xt xh xs : Int) (l : Sps) (hl : l.length ≤ 1000000) (b : Int) (hb : 0 ≤ b ∧ b ≤ 100000000) (hB0 : SpB N b l) (hN : 1 ≤ N ∧ N ≤ 1000) (ht : (0 ≤ to ∧ to ≤ 10000) ∧ 0 ≤ at0 ∧ at0 ≤ 10000) (hs : 0 ≤ xs ∧ xs ≤ 100) {Kk : AV → AHeap → Prop}
    (h : Kk (.tup []) [.own 0 [I N], .own 0 [.vs 2 ((spreadS N ((to - at0) * xs) l).map sp)], .own 0 [I xk, I xf, I xt, I xh, I xs], .own 0 [I to]]) :
    ACalls Tryd.prog 68 [I to, .mp 3 0 0, .mp 2 0 0, .mp 1 0 0, .mp 0 0 0] [.own 0 [I N], .own 0 [.vs 2 (l.map sp)], .own 0 [I xk, I xf, I xt, I xh, I xs], .own 0 [I at0]] Kk := by
  refine ACalls.frees ?_
  obtain ⟨ys, hys⟩ : ∃ ys, ys = l.map sp := ⟨_, rfl⟩
  rw [← hys]
  obtain ⟨M, hM⟩ : ∃ M, M = l.length := ⟨_, rfl⟩
  obtain ⟨F, hF⟩ : ∃ F, F = Frees 4 Kk := ⟨_, rfl⟩
  show ACalls Tryd.prog 68 _ _ (Frees 4 Kk)
  rw [← hF]
  obtain ⟨A, hA⟩ : ∃ A, A = std := ⟨_, rfl⟩
  have hne : ∀ x y, A.ne x y = decide (x ≠ y) := by subst hA; intro x y; simp only [std, iNe]; rw [Bool.eq_iff_iff]; simp
  have hee : ∀ x y, A.eq x y = decide (x = y) := by subst hA; intro x y; exact iEq_dec _ _
  have hll : ∀ x y, A.lt x y = decide (x < y) := by subst hA; intro x y; rfl
  have hle : ∀ x y, A.le x y = decide (x ≤ y) := by subst hA; intro x y; rfl
  have hnb : ∀ b, A.bnot b = !b := by subst hA; intro b; rfl
  have hbd : ∀ x y, A.band x y = (x && y) := by subst hA; intro x y; rfl
  have hsg : ∀ g, A.sg g g := by subst hA; exact fun _ => rfl
  have hvv : A.vlen ys = iLen M := by subst hA; rw [hys, hM]; simp [std]
  have hs1 : A.sub .i64 to at0 = to - at0 := by subst hA; exact iSub_id (by omega) (by omega)
  have hmb : -1000000 ≤ (to - at0) * xs ∧ (to - at0) * xs ≤ 1000000 := by
    have h1 : (to - at0) * xs ≤ 10000 * xs := Int.mul_le_mul_of_nonneg_right (by omega) hs.1
    have h2 : -10000 * xs ≤ (to - at0) * xs := Int.mul_le_mul_of_nonneg_right (by omega) hs.1
    omega
  obtain ⟨y, hy⟩ : ∃ y, y = (to - at0) * xs := ⟨_, rfl⟩
  have hm1 : A.mul .i64 (A.sub .i64 to at0) xs = y := by rw [hs1, hy]; subst hA; exact iMul_id (by omega) (by omega)
  rw [← hy] at hmb h
  obtain ⟨ML, hML⟩ : ∃ g : Nat → Sps, g = fun j => spreadS N y (l.take j) := ⟨_, rfl⟩
  have hMLs : ∀ j x, l[j]? = some x → ML (j + 1) = ML j ++ [(max 0 (x.1 - y), min (N - 1) (x.2 + y))] := fun j x hx => by
    rw [hML]; unfold spreadS; dsimp only
    obtain ⟨h8, he⟩ := List.getElem?_eq_some_iff.1 hx
    rw [List.take_succ_eq_append_getElem h8, he, List.map_append]; rfl
  have hMLl : ∀ j, j ≤ M → (ML j).length = j := fun j hj => by
    rw [hML]; simp [spreadS]; omega
  have hMLe : ML M = spreadS N y l := by rw [hML]; dsimp only; rw [List.take_of_length_le (by omega)]
  refine go68 rfl (SGo_run hA ⟨[4], [], [], []⟩ .nil .nil 200 fun T TD hT hTD => ?_)
  cbv
  refine Exists.intro [] (Exists.intro 0 (And.intro (by show A.mkz 2 16 [.int .i64 0, .int .i64 0] 0 (A.vlen ys) [] 0; rw [hvv]; subst hA; exact ⟨by decide, by unfold iLen; omega, by unfold iLen; omega, by unfold iLen; omega, rfl, rfl, rfl⟩) ?_)); cbv
  rw [hT]
  refine AGo_upE [0, 1, 3, 4, 6, 19, 20] M (fun _ (_ : Unit) => True) (fun j _ i => [(7, .ms 2 4 j 0 j), (21, I i)]) (fun j _ => [.own 0 [I N], .own 0 [.vs 2 ys], .own 0 [I xk, I xf, I xt, I xh, I xs], .own 0 [I at0], .own j ((ML j).flatMap spC2)]) () trivial ⟨rfl, rfl, trivial⟩ (.inl (by rw [hML]; rfl)) fun j _ i hi hj _ Bk hB => ?_
  have hlt : A.lt i (A.vlen ys) = decide (j < M) := by rw [hvv, hll, hi, decide_eq_decide]; unfold iLen; omega
  have hadd : ∀ N, j < N → N ≤ 9223372036854775807 → A.add .i64 i 1 = iLen (j + 1) := fun N hj hN => by subst hA; exact add_one hi hj hN
  obtain ⟨cc, hcc⟩ : ∃ c, c = (ML j).flatMap spC2 := ⟨_, rfl⟩
  rw [← hcc]
  have hcl : cc.length = j * 2 := by rw [hcc, len_flat (k := 2) (fun _ => rfl), hMLl j hj]
  have hcn : ∀ q (l : Sps), AV.ltL q (l.flatMap spC2) := fun q l => AV.ltL_nid (nidL_flat (fun _ => rfl) l)
  refine SGo_run hA ⟨[4], [], [], []⟩ .nil .nil 200 fun T TD hT hTD => ?_
  cbv
  split <;> cbv
  · rename_i hk0
    have hk1 : j < M := by have hz := hlt.symm.trans hk0; simpa using hz
    clear hk0
    obtain ⟨⟨u, v⟩, hx⟩ : ∃ x, l[j]? = some x := ⟨_, List.getElem?_eq_getElem (by omega)⟩
    have hst := hMLs j _ hx
    have hbx := hB0 _ (List.mem_of_getElem? hx)
    dsimp only at hst hbx
    have hix : A.ix 2 2 ys i [I u, I v] := by subst hA; exact ix_map hys hi hx rfl
    have hadj := hadd _ hk1 (by omega)
    have e1 : A.sub .i64 u (A.mul .i64 (A.sub .i64 to at0) xs) = u - y := by rw [hm1]; subst hA; exact iSub_id (by omega) (by omega)
    have e2 : A.add .i64 v (A.mul .i64 (A.sub .i64 to at0) xs) = v + y := by rw [hm1]; subst hA; exact iAdd_id (by omega) (by omega)
    have e3 : A.sub .i64 N 1 = N - 1 := by subst hA; exact iSub_id (by omega) (by omega)
    have e4 : A.max 0 (A.sub .i64 u (A.mul .i64 (A.sub .i64 to at0) xs)) = max 0 (u - y) := by rw [e1]; subst hA; exact iMax_eq _ _
    have e5 : A.min (A.sub .i64 N 1) (A.add .i64 v (A.mul .i64 (A.sub .i64 to at0) xs)) = min (N - 1) (v + y) := by rw [e2, e3]; subst hA; exact iMin_eq _ _
    refine Exists.intro _ (And.intro hix ?_); cbv
    obtain ⟨c1, hc1⟩ : ∃ x, x = cc ++ [I (A.max 0 (A.sub .i64 u (A.mul .i64 (A.sub .i64 to at0) xs))), I (A.min (A.sub .i64 N 1) (A.add .i64 v (A.mul .i64 (A.sub .i64 to at0) xs)))] := ⟨_, rfl⟩
    refine And.intro (hsg _) (Exists.intro c1 (Exists.intro (j + 1) (And.intro (by subst hA; rw [hc1]; exact app_one hcl rfl (by omega)) (And.intro rfl ?_)))); cbv
    rw [e4, e5] at hc1
    have hfin : c1 = (ML (j + 1)).flatMap spC2 := by rw [hc1, hst, hcc]; simp
    have hyl : ∀ q, AV.ltL q ys := fun q => AV.ltL_nid (by rw [hys]; exact nidL_map (g := sp) (fun _ => rfl) _)
    exact hB () _ _ hk1 trivial ⟨rfl, congrArg I hadj, trivial⟩ ⟨rfl, rfl, rfl, rfl, rfl, rfl, rfl, trivial⟩ (.inr ⟨⟨_, by rw [← hfin]; rfl⟩, by simp, by simp [ltG, AV.lt, AV.ltL, keepS, look, gset], by simp [ltH, AObj.lt, AV.lt, AV.ltL, hyl, hcn, -List.flatMap_append]⟩)
  · rename_i hk0
    have hk1 : ¬ j < M := by have hz := hlt.symm.trans hk0; simpa using hz
    clear hk0
    have hjM : j = M := by omega
    have hcv : cc = (spreadS N y l).flatMap spC2 := by rw [hcc, hjM, hMLe]
    have hjv : j = (spreadS N y l).length := by rw [hjM, ← hMLe, hMLl M (Nat.le_refl _)]
    have hE : Elems 2 ((spreadS N y l).map sp) cc := by rw [hcv]; exact Elems_map (f := sp) (g := spC2) (sz := 2) (fun _ => rfl) (fun _ => rfl) (fun _ => rfl) _
    obtain ⟨zs, hzs⟩ : ∃ zs, zs = (spreadS N y l).map sp := ⟨_, rfl⟩
    have hzl : zs.length = j := by rw [hzs, hjv]; simp
    rw [← hzs] at hE h
    rw [hF]
    refine Frees.frz 4 j 2 zs rfl hE ?_
    have e1 : AV.frz 4 j 2 zs (.ms 2 4 j 0 j) = .vs 2 zs := frz_self hzl
    have hH : frzH 4 j 2 zs [.own 0 [I N], .own 0 [.ms 2 4 j 0 j], .own 0 [I xk, I xf, I xt, I xh, I xs], .own 0 [I to], .gone] = [.own 0 [I N], .own 0 [.vs 2 zs], .own 0 [I xk, I xf, I xt, I xh, I xs], .own 0 [I to]] ++ [.gone] := by
      simp only [frzH, AObj.frz, AV.frzL, e1]; simp [AV.frz]
    show Frees 4 Kk _ (frzH 4 j 2 zs [.own 0 [I N], .own 0 [.ms 2 4 j 0 j], .own 0 [I xk, I xf, I xt, I xh, I xs], .own 0 [I to], .gone])
    rw [hH]
    exact Frees.drop (by simp) (by rfl) (by simp [ltHB, AV.ltLB, AV.ltB]) (Frees.now h)
def eSpread : List AV → AHeap → Option PT
  | [.lit (.int .i64 to), .mp 3 0 0, .mp 2 0 0, .mp 1 0 0, .mp 0 0 0], .own 0 [.lit (.int .i64 N)] :: .own 0 [.vs 2 ys] :: .own 0 [.lit (.int .i64 xk), .lit (.int .i64 xf), .lit (.int .i64 xt), .lit (.int .i64 xh), .lit (.int .i64 xs)] :: .own 0 [.lit (.int .i64 at0)] :: rest =>
    some fun K => ∃ (l : Sps) (b : Int), (ys = l.map sp ∧ l.length ≤ 1000000 ∧ (0 ≤ b ∧ b ≤ 100000000) ∧ SpB N b l) ∧ (1 ≤ N ∧ N ≤ 1000) ∧ ((0 ≤ to ∧ to ≤ 10000) ∧ 0 ≤ at0 ∧ at0 ≤ 10000) ∧ (0 ≤ xs ∧ xs ≤ 100) ∧ ∀ zs, zs = (spreadS N ((to - at0) * xs) l).map sp →
      K (.tup []) (.own 0 [I N] :: .own 0 [.vs 2 zs] :: .own 0 [I xk, I xf, I xt, I xh, I xs] :: .own 0 [I to] :: rest)
  | _, _ => none
theorem eSpread_ok : ∀ args H pt, eSpread args H = some pt → ∀ (Kk : AV → AHeap → Prop), pt Kk → ACalls Tryd.prog 68 args H Kk := by
  intro args H pt h Kk hk
  unfold eSpread at h
  split at h
  · rename_i to N ys xk xf xt xh xs at0 rest
    cases h
    obtain ⟨l, b, ⟨rfl, h1, h2, h3⟩, h4, h5, h6, h7⟩ := hk
    have g1 := p68b to at0 N xk xf xt xh xs l h1 b h2 h3 h4 h5 h6 (Kk := fun r H' => r = .tup [] ∧ H' = [.own 0 [I N], .own 0 [.vs 2 ((spreadS N ((to - at0) * xs) l).map sp)], .own 0 [I xk, I xf, I xt, I xh, I xs], .own 0 [I to]]) ⟨rfl, rfl⟩
    have g2 := ACalls.frame (H := .own 0 [I N] :: .own 0 [.vs 2 (l.map sp)] :: .own 0 [I xk, I xf, I xt, I xh, I xs] :: .own 0 [I at0] :: rest) [0, 1, 2, 3] g1 (by decide) rfl (by simp [AV.ltL, AV.lt]) (by simp [ltH, AObj.lt, AV.ltL, AV.lt])
      (fun k X hX => by
        match k with
        | 0 => simp at hX; subst hX; simp [at_, AObj.ren, AV.renL, AV.ren]
        | 1 => simp at hX; subst hX; simp [at_, AObj.ren, AV.renL, AV.ren]
        | 2 => simp at hX; subst hX; simp [at_, AObj.ren, AV.renL, AV.ren]
        | 3 => simp at hX; subst hX; simp [at_, AObj.ren, AV.renL, AV.ren]
        | k + 4 => simp at hX)
    rw [show AV.renL [0, 1, 2, 3] [I to, .mp 3 0 0, .mp 2 0 0, .mp 1 0 0, .mp 0 0 0] = [I to, .mp 3 0 0, .mp 2 0 0, .mp 1 0 0, .mp 0 0 0] by simp [AV.renL, AV.ren, at_]] at g2
    refine g2.mono fun r H' hx => ?_
    obtain ⟨r0', H1, ⟨rfl, rfl⟩, _, rfl, rfl⟩ := hx
    have := h7 _ rfl
    simpa [merge, updL, AObj.ren, AV.renL, AV.ren, more, at_] using this
  · cases h
end Go.Sas
namespace Go.Sas
open Go.Proofs
set_option maxRecDepth 100000
/-- few marks that may be, on a road with so many places -/
def CovM (m : List Mrk) (h N : Int) : Prop := m.length ≤ 19 ∧ (∀ x ∈ m, MkOk N x) ∧ (0 ≤ h ∧ h ≤ 10000) ∧ 1 ≤ N ∧ N ≤ 1000
theorem mendS_mem {m : List Mrk} {k : Nat} {h : Int} {x : Mrk} (hx : x ∈ mendS m k h) : x ∈ m := by
  unfold mendS sortM at hx
  rw [sortV_mem] at hx
  unfold mendL at hx
  obtain ⟨p, hp, rfl⟩ := List.mem_map.1 hx
  have := (List.mem_filter.1 hp).1
  exact List.fst_mem_of_mem_zipIdx this
theorem mendS_len {m : List Mrk} {k : Nat} {h : Int} : (mendS m k h).length ≤ m.length := by
  unfold mendS sortM
  rw [sortV_len]
  unfold mendL
  rw [List.length_map]
  refine Nat.le_trans (List.length_filter_le _ _) ?_
  simp
abbrev Cst := Sps × Sps × Int
/-- what is known of may, sure and the hour after j mends -/
structure CovI (N : Int) (j : Nat) (s : Cst) : Prop where
  l1 : s.1.length ≤ 2 ^ j
  l2 : s.2.1.length ≤ 2 ^ j
  b1 : SpB N (1001 + 1000000 * iLen j) s.1
  b2 : SpB N 1001 s.2.1
  t : 0 ≤ s.2.2 ∧ s.2.2 ≤ 10000
theorem CovI.step {N sp0 : Int} {j : Nat} {s : Cst} (h : CovI N j s) (hN : 1 ≤ N ∧ N ≤ 1000) (hs : 0 ≤ sp0 ∧ sp0 ≤ 100) {y : Mrk} (hy : MkOk N y) : CovI N (j + 1) (covStep N sp0 s y) := by
  obtain ⟨h1, h2, h3, h4, h5⟩ := h
  obtain ⟨_, y1, y2, y3, y4, y5, y6⟩ := hy
  have hm : -1000000 ≤ (y.h - s.2.2) * sp0 ∧ (y.h - s.2.2) * sp0 ≤ 1000000 := by
    have e1 : (y.h - s.2.2) * sp0 ≤ 10000 * sp0 := Int.mul_le_mul_of_nonneg_right (by omega) hs.1
    have e2 : -10000 * sp0 ≤ (y.h - s.2.2) * sp0 := Int.mul_le_mul_of_nonneg_right (by omega) hs.1
    omega
  have hp : 2 ^ (j + 1) = 2 * 2 ^ j := by rw [Nat.pow_succ]; omega
  refine ⟨?_, ?_, ?_, ?_, y4⟩
  · refine Nat.le_trans withoutS_len ?_
    simp only [spreadS, List.length_map]; omega
  · refine Nat.le_trans withoutS_len ?_
    omega
  · have hj : (1001 : Int) + 1000000 * iLen (j + 1) = 1001 + 1000000 * iLen j + 1000000 := by unfold iLen; omega
    rw [hj]
    exact SpB.without (SpB.spread h3 hN (by unfold iLen; omega) hm) (by unfold iLen; omega) (by omega) (by omega)
  · exact SpB.without h4 (by omega) (by omega) (by omega)
theorem pow19 {j : Nat} (h : j ≤ 19) : 2 ^ j ≤ 524288 := by
  have : 2 ^ j ≤ 2 ^ 19 := Nat.pow_le_pow_right (by decide) h
  simpa using this
theorem SpB.big {N b : Int} {l : Sps} (h : SpB N b l) (hN : N ≤ 1000) (hb : b ≤ 100000000) : ∀ s ∈ l, (-1000000000 ≤ s.1 ∧ s.1 ≤ 1000000000) ∧ -1000000000 ≤ s.2 ∧ s.2 ≤ 1000000000 := fun s hs => by
  have := h s hs; omega
set_option maxHeartbeats 4000000 in
theorem p61 (m : List Mrk) (k : Nat) (h0 N : Int) (hC : CovM m h0 N) (hk : k < m.length) (H : AHeap) {Kk : AV → AHeap → Prop}
    (h : ∀ may sure, (may, sure) = covS m k h0 N → SpOk N may → SpOk N sure → ∀ ys zs, ys = may.map sp → zs = sure.map sp → Kk (.tup [.vs 2 ys, .vs 2 zs]) H) :
    ACalls Tryd.prog 61 [.vs 5 (m.map mkV), I (iLen k), I h0, I N] H Kk := by
  obtain ⟨hm, hmk, hh0, hN⟩ := hC
  obtain ⟨mk, hmk0⟩ : ∃ x, x = m.getD k mk0 := ⟨_, rfl⟩
  have hmk' : m[k]? = some mk := by rw [hmk0, List.getD_eq_getElem?_getD, List.getElem?_eq_getElem hk]; rfl
  have hmo := hmk _ (List.mem_of_getElem? hmk')
  obtain ⟨ms, hms⟩ : ∃ x, x = mendS m k h0 := ⟨_, rfl⟩
  have hmsl : ms.length ≤ 19 := by rw [hms]; exact Nat.le_trans mendS_len hm
  have hmso : ∀ x ∈ ms, MkOk N x := fun x hx => hmk x (mendS_mem (by rw [← hms]; exact hx))
  -- the states
  obtain ⟨ST, hST⟩ : ∃ f : Nat → Cst, f = fun j => (ms.take j).foldl (covStep N mk.s) ([(mk.f, mk.t)], [(mk.f, mk.t)], mk.h) := ⟨_, rfl⟩
  have hSTs : ∀ j y, ms[j]? = some y → ST (j + 1) = covStep N mk.s (ST j) y := fun j y hy => by
    rw [hST]; dsimp only
    obtain ⟨h8, he⟩ := List.getElem?_eq_some_iff.1 hy
    rw [List.take_succ_eq_append_getElem h8, he, List.foldl_append]; rfl
  have hI : ∀ j, j ≤ ms.length → CovI N j (ST j) := fun j => by
    induction j with
    | zero =>
      intro _
      obtain ⟨_, y1, y2, y3, y4, y5, y6⟩ := hmo
      rw [hST]
      refine ⟨by simp, by simp, fun s hs => ?_, fun s hs => ?_, y4⟩
      · simp only [List.take_zero, List.foldl_nil, List.mem_singleton] at hs; subst hs; dsimp only; unfold iLen; omega
      · simp only [List.take_zero, List.foldl_nil, List.mem_singleton] at hs; subst hs; dsimp only; omega
    | succ j ih =>
      intro hj
      obtain ⟨y, hy⟩ : ∃ y, ms[j]? = some y := ⟨_, List.getElem?_eq_getElem (by omega)⟩
      rw [hSTs j y hy]
      exact (ih (by omega)).step hN ⟨hmo.2.2.2.2.2.1, hmo.2.2.2.2.2.2⟩ (hmso _ (List.mem_of_getElem? hy))
  have hcov : covS m k h0 N = if mk.k = 4 ∨ h0 < mk.h then ([], []) else (spreadS N ((h0 - (ST ms.length).2.2) * mk.s) (ST ms.length).1, (ST ms.length).2.1) := by
    unfold covS; rw [← hmk0, ← hms, hST]; dsimp only; rw [List.take_length]
  obtain ⟨W, hW⟩ : ∃ W, W = covS m k h0 N := ⟨_, rfl⟩
  rw [← hW] at hcov
  have hok : SpOk N W.1 ∧ SpOk N W.2 := by
    rw [hcov]
    split
    · exact ⟨⟨by simp, by simp⟩, by simp, by simp⟩
    · have hi := hI _ (Nat.le_refl _)
      have hp := pow19 hmsl
      refine ⟨⟨?_, fun s hs => ?_⟩, ?_, fun s hs => ?_⟩
      · simp only [spreadS, List.length_map]; have := hi.l1; omega
      · unfold spreadS at hs
        obtain ⟨u, hu, rfl⟩ := List.mem_map.1 hs
        dsimp only; omega
      · have := hi.l2; dsimp only at this ⊢; omega
      · have := hi.b2 s hs; omega
  have h : Kk (.tup [.vs 2 (W.1.map sp), .vs 2 (W.2.map sp)]) H := h W.1 W.2 hW hok.1 hok.2 _ _ rfl rfl
  have hnw : AV.nidL (m.map mkV) = true := nidL_map (g := mkV) (fun _ => rfl) m
  refine (fun q => pureF (by simp [AV.nidL, AV.nid, hnw]) (by simp [AV.nid, AV.nidL]) q H h) ?_
  clear h hok
  intro Kk h
  obtain ⟨xs, hxs⟩ : ∃ xs, xs = m.map mkV := ⟨_, rfl⟩
  obtain ⟨ik, hik⟩ : ∃ i, i = iLen k := ⟨_, rfl⟩
  rw [← hxs, ← hik]
  obtain ⟨F, hF⟩ : ∃ F, F = Frees 0 Kk := ⟨_, rfl⟩
  rw [← hF]
  obtain ⟨A, hA⟩ : ∃ A, A = std := ⟨_, rfl⟩
  have hne : ∀ x y, A.ne x y = decide (x ≠ y) := by subst hA; intro x y; simp only [std, iNe]; rw [Bool.eq_iff_iff]; simp
  have hee : ∀ x y, A.eq x y = decide (x = y) := by subst hA; intro x y; exact iEq_dec _ _
  have hll : ∀ x y, A.lt x y = decide (x < y) := by subst hA; intro x y; rfl
  have hle : ∀ x y, A.le x y = decide (x ≤ y) := by subst hA; intro x y; rfl
  have hnb : ∀ b, A.bnot b = !b := by subst hA; intro b; rfl
  have hbd : ∀ x y, A.band x y = (x && y) := by subst hA; intro x y; rfl
  have hsg : ∀ g, A.sg g g := by subst hA; exact fun _ => rfl
  obtain ⟨xk, xf, xt, xh, xp⟩ := mk
  have hix : A.ix 5 5 xs ik (mkC ⟨xk, xf, xt, xh, xp⟩) := by subst hA; exact ix_map hxs hik hmk' rfl
  obtain ⟨_, y1, y2, y3, y4, y5, y6⟩ := hmo
  dsimp only at y1 y2 y3 y4 y5 y6 hcov hSTs hST
  refine go61 rfl (SGo_run hA ⟨[], [], (69, eMends) :: [], []⟩ (.cons eMends_ok .nil) .nil 200 fun T TD hT hTD => ?_)
  cbv
  refine Exists.intro _ (And.intro hix ?_); cbv
  have he4 : A.eq xk 4 = decide (xk = 4) := hee _ _
  have hl4 : A.lt h0 xh = decide (h0 < xh) := hll _ _
  have hno : (xk = 4 ∨ h0 < xh) → ∀ H1, F (.tup [NS, NS]) H1 := fun hq H1 => by
    rw [if_pos hq] at hcov
    rw [hF]
    rw [hcov] at h
    exact Frees.wk (r' := .tup [.vs 2 [], .vs 2 []]) (Wk.tup ⟨Wk.nil, Wk.nil, trivial⟩) (Frees.drop0 h rfl)
  split <;> cbv
  · rename_i z1
    exact hno (.inl (of_decide_eq_true (he4.symm.trans z1))) _
  rename_i z1
  have z1 := of_decide_eq_false (he4.symm.trans z1)
  split <;> cbv
  · rename_i z2
    exact hno (.inr (of_decide_eq_true (hl4.symm.trans z2))) _
  rename_i z2
  have z2 := of_decide_eq_false (hl4.symm.trans z2)
  clear hno he4 hl4
  rw [if_neg (fun hh => hh.elim z1 z2)] at hcov
  refine Exists.intro m (Exists.intro k (And.intro ⟨hxs, hik, hm, hk⟩ ?_))
  intro ys hys; cbv
  have hys : ys = ms.map mkV := by rw [hms]; exact hys
  have hvv : A.vlen ys = iLen ms.length := by subst hA; rw [hys]; simp [std]
  rw [hT]
  refine AGo_upE [2, 8, 12, 41, 42] ms.length (fun _ (_ : Unit) => True) (fun j _ i => [(9, .vs 2 ((ST j).2.1.map sp)), (43, I i)]) (fun j _ => [.own 0 [I N], .own 0 [.vs 2 ((ST j).1.map sp)], .own 0 [I xk, I xf, I xt, I xh, I xp], .own 0 [I (ST j).2.2]]) () trivial ⟨by rw [hST]; rfl, rfl, trivial⟩ (.inl (by rw [hST]; rfl)) fun j _ i hi hj _ Bk hB => ?_
  have hlt : A.lt i (A.vlen ys) = decide (j < ms.length) := by rw [hvv, hll, hi, decide_eq_decide]; unfold iLen; omega
  have hadd : ∀ N, j < N → N ≤ 9223372036854775807 → A.add .i64 i 1 = iLen (j + 1) := fun N hj hN => by subst hA; exact add_one hi hj hN
  obtain ⟨hi1, hi2, hi3, hi4, hi5⟩ := hI j hj
  have hS1 := hSTs j
  obtain ⟨s, hs⟩ : ∃ s, s = ST j := ⟨_, rfl⟩
  rw [← hs] at hi1 hi2 hi3 hi4 hi5 hS1
  rw [← hs]
  obtain ⟨may, sure, at0⟩ := s
  dsimp only at hi1 hi2 hi3 hi4 hi5
  have hpw := pow19 (j := j) (by omega)
  obtain ⟨bj, hbj⟩ : ∃ b : Int, b = 1001 + 1000000 * iLen j := ⟨_, rfl⟩
  have hbb : 1001 ≤ bj ∧ bj ≤ 20000000 := by rw [hbj]; unfold iLen; omega
  rw [← hbj] at hi3
  obtain ⟨vm, hvm⟩ : ∃ v, v = may.map sp := ⟨_, rfl⟩
  obtain ⟨vs, hvs⟩ : ∃ v, v = sure.map sp := ⟨_, rfl⟩
  rw [← hvm, ← hvs]
  refine SGo_run hA ⟨[], [2000001], (70, eWithout) :: [], (68, eSpread) :: []⟩ (.cons eWithout_ok .nil) (.cons eSpread_ok .nil) 200 fun T TD hT hTD => ?_
  cbv
  split <;> cbv
  · rename_i hk0
    have hk1 : j < ms.length := by have hz := hlt.symm.trans hk0; simpa using hz
    clear hk0
    obtain ⟨⟨yk, yf, yt, yh, yp⟩, hy⟩ : ∃ y, ms[j]? = some y := ⟨_, List.getElem?_eq_getElem (by omega)⟩
    have hS1 := hS1 _ hy
    obtain ⟨_, w1, w2, w3, w4, w5, w6⟩ := hmso _ (List.mem_of_getElem? hy)
    dsimp only at w1 w2 w3 w4 w5 w6
    have hiy : A.ix 5 5 ys i (mkC ⟨yk, yf, yt, yh, yp⟩) := by subst hA; exact ix_map hys hi hy rfl
    have hadj := hadd _ hk1 (by omega)
    have hmul : -1000000 ≤ (yh - at0) * xp ∧ (yh - at0) * xp ≤ 1000000 := by
      have e1 : (yh - at0) * xp ≤ 10000 * xp := Int.mul_le_mul_of_nonneg_right (by omega) y5
      have e2 : -10000 * xp ≤ (yh - at0) * xp := Int.mul_le_mul_of_nonneg_right (by omega) y5
      omega
    have hspr := SpB.spread hi3 hN (by omega) hmul
    have hspb := SpB.big hspr hN.2 (by omega)
    have hsub := SpB.big hi4 hN.2 (by omega)
    have hsl : (spreadS N ((yh - at0) * xp) may).length ≤ 1000000 := by simp only [spreadS, List.length_map]; omega
    refine Exists.intro _ (And.intro hiy ?_); cbv
    refine Exists.intro may (Exists.intro bj (And.intro ⟨hvm, by omega, by omega, hi3⟩ (And.intro hN (And.intro ⟨w4, hi5⟩ (And.intro ⟨y5, y6⟩ ?_)))))
    intro z hz; cbv
    refine Exists.intro _ (And.intro ⟨hz, hsl, hspb⟩ (And.intro ⟨by omega, by omega⟩ (And.intro ⟨by omega, by omega⟩ ?_)))
    intro u hu; cbv
    refine Exists.intro sure (And.intro ⟨hvs, by omega, hsub⟩ (And.intro ⟨by omega, by omega⟩ (And.intro ⟨by omega, by omega⟩ ?_)))
    intro v hv; cbv
    refine And.intro (by subst hA; first | (simp [std, Keep, SubH, ResK]; done) | exact .inr ⟨⟨rfl, SubH.self _⟩, trivial, .inr fun _ => ⟨rfl, SubH.self _⟩⟩ | exact .inr ⟨SubH.self _, trivial, .inr fun _ => SubH.self _⟩ | exact .inr ⟨by simp [SubH], trivial, .inl rfl⟩ | exact .inr ⟨by simp [SubH], trivial, .inr fun _ => by simp [SubH]⟩) ?_
    cbv
    unfold covStep at hS1
    dsimp only at hS1
    exact hB () _ _ hk1 trivial ⟨by rw [hS1, hv]; rfl, congrArg I hadj, trivial⟩ ⟨rfl, rfl, rfl, rfl, rfl, trivial⟩ (.inr ⟨⟨_, by rw [hS1]; dsimp only; rw [← hu]; rfl⟩, by simp, by simp [ltG, AV.lt, AV.ltL, keepS, look, gset], by simp [ltH, AObj.lt, AV.lt, AV.ltL]⟩)
  · rename_i hk0
    have hk1 : ¬ j < ms.length := by have hz := hlt.symm.trans hk0; simpa using hz
    clear hk0
    have hjM : j = ms.length := by omega
    rw [← hjM, ← hs] at hcov
    dsimp only at hcov
    refine Exists.intro may (Exists.intro bj (And.intro ⟨hvm, by omega, by omega, hi3⟩ (And.intro hN (And.intro ⟨hh0, hi5⟩ (And.intro ⟨y5, y6⟩ ?_)))))
    intro zs hzs; cbv
    rw [hcov] at h
    dsimp only at h
    rw [← hzs, ← hvs] at h
    rw [hF]
    exact Frees.drop0 h rfl
theorem CovM.ok : CovOk CovM := by
  intro args pt h H Kk hk
  unfold eCov at h
  split at h
  · cases h
    obtain ⟨m, k, rfl, rfl, h1, h2, h3⟩ := hk
    exact p61 m k _ _ h2 h1 H h3
  · cases h
end Go.Sas
