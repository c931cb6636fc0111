/-
Probe: places are taken out of spans: contract.
Conditions: none.
-/
import Derived.Test.YtajegdbljldakaaPI
import Derived.Test.YtajegdbljldakaaPC
set_option linter.unusedVariables false
set_option linter.unusedSimpArgs false
namespace Go.Sas
open Go.Proofs
set_option maxRecDepth 100000
abbrev spC2 (x : Int × Int) : List AV := [I x.1, I x.2]
theorem withoutS_len {f t : Int} : ∀ {l : Sps}, (withoutS l f t).length ≤ 2 * l.length
  | [] => by simp [withoutS]
  | x :: l => by
    have ih := withoutS_len (f := f) (t := t) (l := l)
    unfold withoutS at ih ⊢
    rw [List.flatMap_cons, List.length_append, List.length_cons]
    have : ((if x.1 ≤ min x.2 (f - 1) then [(x.1, min x.2 (f - 1))] else []) ++ (if max x.1 (t + 1) ≤ x.2 then [(max x.1 (t + 1), x.2)] else []) : Sps).length ≤ 2 := by
      split <;> split <;> simp
    omega
theorem p121 (l : Sps) (f t : Int) (hl : l.length ≤ 1000000) (hb : ∀ s ∈ l, (-1000000000 ≤ s.1 ∧ s.1 ≤ 1000000000) ∧ -1000000000 ≤ s.2 ∧ s.2 ≤ 1000000000) (hf : 0 ≤ f ∧ f ≤ 1000000) (ht : 0 ≤ t ∧ t ≤ 1000000) (H : AHeap) {Kk : AV → AHeap → Prop}
    (h : Kk (.vs 2 ((withoutS l f t).map sp)) H) : ACalls Try.prog 121 [.vs 2 (l.map sp), I f, I t] H Kk := by
  refine (fun q => pureF (by simp [AV.nidL, AV.nid, nidL_map (g := sp) (fun _ => rfl) l]) (by simp [AV.nid]) q H h) ?_
  clear h
  intro Kk h
  obtain ⟨xs, hxs⟩ : ∃ xs, xs = l.map sp := ⟨_, rfl⟩
  rw [← hxs]
  obtain ⟨M, hM⟩ : ∃ M, M = l.length := ⟨_, rfl⟩
  obtain ⟨F, hF⟩ : ∃ F, F = Frees 0 Kk := ⟨_, rfl⟩
  rw [← hF]
  obtain ⟨A, hA⟩ : ∃ A, A = std := ⟨_, rfl⟩
  have hne : ∀ x y, A.ne x y = decide (x ≠ y) := by subst hA; intro x y; simp only [std, iNe]; rw [Bool.eq_iff_iff]; simp
  have hee : ∀ x y, A.eq x y = decide (x = y) := by subst hA; intro x y; exact iEq_dec _ _
  have hll : ∀ x y, A.lt x y = decide (x < y) := by subst hA; intro x y; rfl
  have hle : ∀ x y, A.le x y = decide (x ≤ y) := by subst hA; intro x y; rfl
  have hnb : ∀ b, A.bnot b = !b := by subst hA; intro b; rfl
  have hbd : ∀ x y, A.band x y = (x && y) := by subst hA; intro x y; rfl
  have hsg : ∀ g, A.sg g g := by subst hA; exact fun _ => rfl
  have hvv : A.vlen xs = iLen M := by subst hA; rw [hxs, hM]; simp [std]
  have hf1 : A.sub .i64 f 1 = f - 1 := by subst hA; exact iSub_id (by omega) (by omega)
  have ht1 : A.add .i64 t 1 = t + 1 := by subst hA; exact iAdd_id (by omega) (by omega)
  obtain ⟨ML, hML⟩ : ∃ g : Nat → Sps, g = fun j => withoutS (l.take j) f t := ⟨_, rfl⟩
  have hMLs : ∀ j x, l[j]? = some x → ML (j + 1) = ML j ++ ((if x.1 ≤ min x.2 (f - 1) then [(x.1, min x.2 (f - 1))] else []) ++ (if max x.1 (t + 1) ≤ x.2 then [(max x.1 (t + 1), x.2)] else [])) := fun j x hx => by
    rw [hML]; unfold withoutS; dsimp only
    obtain ⟨h8, he⟩ := List.getElem?_eq_some_iff.1 hx
    rw [List.take_succ_eq_append_getElem h8, he, List.flatMap_append]
    simp
  have hMLl : ∀ j, (ML j).length ≤ 2 * j := fun j => by
    rw [hML]; refine Nat.le_trans withoutS_len ?_
    rw [List.length_take]; omega
  have hMLe : ML M = withoutS l f t := by rw [hML]; dsimp only; rw [List.take_of_length_le (by omega)]
  refine go121 rfl (SGo_run hA ⟨[], [], [], []⟩ .nil .nil 200 fun T TD hT hTD => ?_)
  cbv
  rw [hT]
  refine AGo_nilms 7 2 rfl ?_
  refine AGo_upE [1, 2, 12, 13] M (fun _ (_ : Unit) => True) (fun j _ i => [(7, .ms 2 0 (ML j).length 0 (ML j).length), (14, I i)]) (fun j _ => [.own (ML j).length ((ML j).flatMap spC2)]) () trivial ⟨by rw [hML]; rfl, rfl, trivial⟩ (.inl (by rw [hML]; rfl)) fun j _ i hi hj _ Bk hB => ?_
  have hlt : A.lt i (A.vlen xs) = decide (j < M) := by rw [hvv, hll, hi, decide_eq_decide]; unfold iLen; omega
  have hadd : ∀ N, j < N → N ≤ 9223372036854775807 → A.add .i64 i 1 = iLen (j + 1) := fun N hj hN => by subst hA; exact add_one hi hj hN
  obtain ⟨n, hn⟩ : ∃ n, n = (ML j).length := ⟨_, rfl⟩
  obtain ⟨cc, hcc⟩ : ∃ c, c = (ML j).flatMap spC2 := ⟨_, rfl⟩
  rw [← hn, ← hcc]
  have hcl : cc.length = n * 2 := by rw [hcc, hn, len_flat (k := 2) (fun _ => rfl)]
  have hn2 : n ≤ 2000000 := by have := hMLl j; omega
  have hcn : ∀ q (l : Sps), AV.ltL q (l.flatMap spC2) := fun q l => AV.ltL_nid (nidL_flat (fun _ => rfl) l)
  refine SGo_run hA ⟨[0], [], [], []⟩ .nil .nil 200 fun T TD hT hTD => ?_
  cbv
  split <;> cbv
  · rename_i hk0
    have hk1 : j < M := by have hz := hlt.symm.trans hk0; simpa using hz
    clear hk0
    obtain ⟨⟨u, v⟩, hx⟩ : ∃ x, l[j]? = some x := ⟨_, List.getElem?_eq_getElem (by omega)⟩
    have hs := hMLs j _ hx
    have hbx := hb _ (List.mem_of_getElem? hx)
    dsimp only at hs hbx
    have hix : A.ix 2 2 xs i [I u, I v] := by subst hA; exact ix_map hxs hi hx rfl
    have hmn : A.min v (A.sub .i64 f 1) = min v (f - 1) := by rw [hf1]; subst hA; exact iMin_eq _ _
    have hmx : A.max u (A.add .i64 t 1) = max u (t + 1) := by rw [ht1]; subst hA; exact iMax_eq _ _
    have hl1 : A.le u (A.min v (A.sub .i64 f 1)) = decide (u ≤ min v (f - 1)) := by rw [hmn, hle]
    have hl2 : A.le (A.max u (A.add .i64 t 1)) v = decide (max u (t + 1) ≤ v) := by rw [hmx, hle]
    have hadj := hadd _ hk1 (by omega)
    refine Exists.intro _ (And.intro hix ?_); cbv
    split <;> cbv
    · rename_i hz1
      have hz1 := of_decide_eq_true (hl1.symm.trans hz1)
      rw [if_pos hz1] at hs
      obtain ⟨c1, hc1⟩ : ∃ x, x = cc ++ [I u, I (A.min v (A.sub .i64 f 1))] := ⟨_, rfl⟩
      refine And.intro (hsg _) (Exists.intro c1 (Exists.intro (n + 1) (And.intro (by subst hA; rw [hc1]; exact app_one hcl rfl (by omega)) (And.intro rfl ?_)))); cbv
      rw [hmn] at hc1
      have hcl1 : c1.length = (n + 1) * 2 := by rw [hc1]; simp [hcl]; omega
      split <;> cbv
      · rename_i hz2
        have hz2 := of_decide_eq_true (hl2.symm.trans hz2)
        rw [if_pos hz2] at hs
        obtain ⟨c2, hc2⟩ : ∃ x, x = c1 ++ [I (A.max u (A.add .i64 t 1)), I v] := ⟨_, rfl⟩
        refine And.intro (hsg _) (Exists.intro c2 (Exists.intro (n + 2) (And.intro (by subst hA; rw [hc2]; exact app_one hcl1 rfl (by omega)) (And.intro rfl ?_)))); cbv
        rw [hmx] at hc2
        have hfin : c2 = (ML (j + 1)).flatMap spC2 := by rw [hc2, hc1, hs, hcc]; simp
        have hlen : (ML (j + 1)).length = n + 2 := by rw [hs]; simp [hn]
        exact hB () _ _ hk1 trivial (by rw [hlen]; exact ⟨rfl, congrArg I hadj, trivial⟩) ⟨rfl, rfl, rfl, rfl, trivial⟩ (.inr ⟨⟨_, by rw [hlen, ← hfin]; rfl⟩, by simp, by simp [ltG, AV.lt, AV.ltL, keepS, look, gset], by simp [ltH, AObj.lt, AV.lt, AV.ltL, hcn, -List.flatMap_append]⟩)
      · rename_i hz2
        have hz2 := of_decide_eq_false (hl2.symm.trans hz2)
        rw [if_neg hz2] at hs
        have hfin : c1 = (ML (j + 1)).flatMap spC2 := by rw [hc1, hs, hcc]; simp
        have hlen : (ML (j + 1)).length = n + 1 := by rw [hs]; simp [hn]
        exact hB () _ _ hk1 trivial (by rw [hlen]; exact ⟨rfl, congrArg I hadj, trivial⟩) ⟨rfl, rfl, rfl, rfl, trivial⟩ (.inr ⟨⟨_, by rw [hlen, ← hfin]; rfl⟩, by simp, by simp [ltG, AV.lt, AV.ltL, keepS, look, gset], by simp [ltH, AObj.lt, AV.lt, AV.ltL, hcn, -List.flatMap_append]⟩)
    · rename_i hz1
      have hz1 := of_decide_eq_false (hl1.symm.trans hz1)
      rw [if_neg hz1] at hs
      split <;> cbv
      · rename_i hz2
        have hz2 := of_decide_eq_true (hl2.symm.trans hz2)
        rw [if_pos hz2] at hs
        obtain ⟨c2, hc2⟩ : ∃ x, x = cc ++ [I (A.max u (A.add .i64 t 1)), I v] := ⟨_, rfl⟩
        refine And.intro (hsg _) (Exists.intro c2 (Exists.intro (n + 1) (And.intro (by subst hA; rw [hc2]; exact app_one hcl rfl (by omega)) (And.intro rfl ?_)))); cbv
        rw [hmx] at hc2
        have hfin : c2 = (ML (j + 1)).flatMap spC2 := by rw [hc2, hs, hcc]; simp
        have hlen : (ML (j + 1)).length = n + 1 := by rw [hs]; simp [hn]
        exact hB () _ _ hk1 trivial (by rw [hlen]; exact ⟨rfl, congrArg I hadj, trivial⟩) ⟨rfl, rfl, rfl, rfl, trivial⟩ (.inr ⟨⟨_, by rw [hlen, ← hfin]; rfl⟩, by simp, by simp [ltG, AV.lt, AV.ltL, keepS, look, gset], by simp [ltH, AObj.lt, AV.lt, AV.ltL, hcn, -List.flatMap_append]⟩)
      · rename_i hz2
        have hz2 := of_decide_eq_false (hl2.symm.trans hz2)
        rw [if_neg hz2] at hs
        have hfin : cc = (ML (j + 1)).flatMap spC2 := by rw [hs, hcc]; simp
        have hlen : (ML (j + 1)).length = n := by rw [hs]; simp [hn]
        exact hB () _ _ hk1 trivial (by rw [hlen]; exact ⟨rfl, congrArg I hadj, trivial⟩) ⟨rfl, rfl, rfl, rfl, trivial⟩ (.inr ⟨⟨_, by rw [hlen, ← hfin]; rfl⟩, by simp, by simp [ltG, AV.lt, AV.ltL, keepS, look, gset], by simp [ltH, AObj.lt, AV.lt, AV.ltL, hcn, -List.flatMap_append]⟩)
  · rename_i hk0
    have hk1 : ¬ j < M := by have hz := hlt.symm.trans hk0; simpa using hz
    clear hk0
    have hjM : j = M := by omega
    have hcv : cc = (withoutS l f t).flatMap spC2 := by rw [hcc, hjM, hMLe]
    have hnv : n = (withoutS l f t).length := by rw [hn, hjM, hMLe]
    have hE : Elems 2 ((withoutS l f t).map sp) cc := by rw [hcv]; exact Elems_map (f := sp) (g := spC2) (sz := 2) (fun _ => rfl) (fun _ => rfl) (fun _ => rfl) _
    rw [hF]
    refine Frees.frz 0 n 2 ((withoutS l f t).map sp) rfl hE ?_
    have e1 : AV.frz 0 n 2 ((withoutS l f t).map sp) (aTup [.ms 2 0 n 0 n]) = .vs 2 ((withoutS l f t).map sp) := frz_self (by simp [hnv])
    rw [e1]
    exact Frees.drop0 h (by simp [AV.nid])
def eWithout : List AV → Option ((AV → Prop) → Prop)
  | [.vs 2 xs, .lit (.int .i64 f), .lit (.int .i64 t)] => some fun K => ∃ l : Sps, (xs = l.map sp ∧ l.length ≤ 1000000 ∧ ∀ s ∈ l, (-1000000000 ≤ s.1 ∧ s.1 ≤ 1000000000) ∧ -1000000000 ≤ s.2 ∧ s.2 ≤ 1000000000) ∧ (0 ≤ f ∧ f ≤ 1000000) ∧ (0 ≤ t ∧ t ≤ 1000000) ∧ ∀ ys, ys = (withoutS l f t).map sp → K (.vs 2 ys)
  | _ => none
theorem eWithout_ok : ∀ args pt, eWithout args = some pt → ∀ (H : AHeap) (Kk : AV → AHeap → Prop), pt (fun r => Kk r H) → ACalls Try.prog 121 args H Kk := by
  intro args pt h H Kk hk
  unfold eWithout at h
  split at h
  · cases h
    obtain ⟨l, ⟨rfl, h1, h2⟩, h3, h4, h5⟩ := hk
    exact p121 l _ _ h1 h2 h3 h4 H (h5 _ rfl)
  · cases h
end Go.Sas
