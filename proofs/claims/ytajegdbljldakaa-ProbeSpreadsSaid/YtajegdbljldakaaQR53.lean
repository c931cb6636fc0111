/-
Probe: spans grow: contract of the closure of covered.
Conditions: none.
-/
import Derived.Test.YtajegdbljldakaaQR52
set_option linter.unusedVariables false
set_option linter.unusedSimpArgs false
namespace Go.Sas
open Go.Proofs
set_option maxRecDepth 100000
def SpB (N b : Int) (l : Sps) : Prop := ∀ s ∈ l, (0 ≤ s.1 ∧ s.1 ≤ b) ∧ -b ≤ s.2 ∧ s.2 ≤ N - 1
theorem SpB.spread {N b y : Int} {l : Sps} (h : SpB N b l) (hN : 1 ≤ N ∧ N ≤ 1000) (hb : 0 ≤ b) (hy : -1000000 ≤ y ∧ y ≤ 1000000) : SpB N (b + 1000000) (spreadS N y l) := by
  intro s hs
  unfold spreadS at hs
  obtain ⟨u, hu, rfl⟩ := List.mem_map.1 hs
  have := h u hu
  dsimp only
  omega
theorem SpB.without {N b f t : Int} {l : Sps} (h : SpB N b l) (hb : 1001 ≤ b) (hf : 0 ≤ f ∧ f ≤ 1000) (ht : 0 ≤ t ∧ t ≤ 1000) : SpB N b (withoutS l f t) := by
  intro s hs
  unfold withoutS at hs
  obtain ⟨u, hu, hs⟩ := List.mem_flatMap.1 hs
  have := h u hu
  rcases List.mem_append.1 hs with hs | hs
  · split at hs
    · simp only [List.mem_singleton] at hs; subst hs; dsimp only; omega
    · cases hs
  · split at hs
    · simp only [List.mem_singleton] at hs; subst hs; dsimp only; omega
    · cases hs
set_option maxHeartbeats 2000000 in
theorem p119b (to at0 N xk xf xt xh xs : Int) (l : Sps) (hl : l.length ≤ 1000000) (b : Int) (hb : 0 ≤ b ∧ b ≤ 100000000) (hB0 : SpB N b l) (hN : 1 ≤ N ∧ N ≤ 1000) (ht : (0 ≤ to ∧ to ≤ 10000) ∧ 0 ≤ at0 ∧ at0 ≤ 10000) (hs : 0 ≤ xs ∧ xs ≤ 100) {Kk : AV → AHeap → Prop}
    (h : Kk (.tup []) [.own 0 [I N], .own 0 [.vs 2 ((spreadS N ((to - at0) * xs) l).map sp)], .own 0 [I xk, I xf, I xt, I xh, I xs], .own 0 [I to]]) :
    ACalls Try.prog 119 [I to, .mp 3 0 0, .mp 2 0 0, .mp 1 0 0, .mp 0 0 0] [.own 0 [I N], .own 0 [.vs 2 (l.map sp)], .own 0 [I xk, I xf, I xt, I xh, I xs], .own 0 [I at0]] Kk := by
  refine ACalls.frees ?_
  obtain ⟨ys, hys⟩ : ∃ ys, ys = l.map sp := ⟨_, rfl⟩
  rw [← hys]
  obtain ⟨M, hM⟩ : ∃ M, M = l.length := ⟨_, rfl⟩
  obtain ⟨F, hF⟩ : ∃ F, F = Frees 4 Kk := ⟨_, rfl⟩
  show ACalls Try.prog 119 _ _ (Frees 4 Kk)
  rw [← hF]
  obtain ⟨A, hA⟩ : ∃ A, A = std := ⟨_, rfl⟩
  have hne : ∀ x y, A.ne x y = decide (x ≠ y) := by subst hA; intro x y; simp only [std, iNe]; rw [Bool.eq_iff_iff]; simp
  have hee : ∀ x y, A.eq x y = decide (x = y) := by subst hA; intro x y; exact iEq_dec _ _
  have hll : ∀ x y, A.lt x y = decide (x < y) := by subst hA; intro x y; rfl
  have hle : ∀ x y, A.le x y = decide (x ≤ y) := by subst hA; intro x y; rfl
  have hnb : ∀ b, A.bnot b = !b := by subst hA; intro b; rfl
  have hbd : ∀ x y, A.band x y = (x && y) := by subst hA; intro x y; rfl
  have hsg : ∀ g, A.sg g g := by subst hA; exact fun _ => rfl
  have hvv : A.vlen ys = iLen M := by subst hA; rw [hys, hM]; simp [std]
  have hs1 : A.sub .i64 to at0 = to - at0 := by subst hA; exact iSub_id (by omega) (by omega)
  have hmb : -1000000 ≤ (to - at0) * xs ∧ (to - at0) * xs ≤ 1000000 := by
    have h1 : (to - at0) * xs ≤ 10000 * xs := Int.mul_le_mul_of_nonneg_right (by omega) hs.1
    have h2 : -10000 * xs ≤ (to - at0) * xs := Int.mul_le_mul_of_nonneg_right (by omega) hs.1
    omega
  obtain ⟨y, hy⟩ : ∃ y, y = (to - at0) * xs := ⟨_, rfl⟩
  have hm1 : A.mul .i64 (A.sub .i64 to at0) xs = y := by rw [hs1, hy]; subst hA; exact iMul_id (by omega) (by omega)
  rw [← hy] at hmb h
  obtain ⟨ML, hML⟩ : ∃ g : Nat → Sps, g = fun j => spreadS N y (l.take j) := ⟨_, rfl⟩
  have hMLs : ∀ j x, l[j]? = some x → ML (j + 1) = ML j ++ [(max 0 (x.1 - y), min (N - 1) (x.2 + y))] := fun j x hx => by
    rw [hML]; unfold spreadS; dsimp only
    obtain ⟨h8, he⟩ := List.getElem?_eq_some_iff.1 hx
    rw [List.take_succ_eq_append_getElem h8, he, List.map_append]; rfl
  have hMLl : ∀ j, j ≤ M → (ML j).length = j := fun j hj => by
    rw [hML]; simp [spreadS]; omega
  have hMLe : ML M = spreadS N y l := by rw [hML]; dsimp only; rw [List.take_of_length_le (by omega)]
  refine go119 rfl (SGo_run hA ⟨[4], [], [], []⟩ .nil .nil 200 fun T TD hT hTD => ?_)
  cbv
  refine Exists.intro [] (Exists.intro 0 (And.intro (by show A.mkz 2 16 [.int .i64 0, .int .i64 0] 0 (A.vlen ys) [] 0; rw [hvv]; subst hA; exact ⟨by decide, by unfold iLen; omega, by unfold iLen; omega, by unfold iLen; omega, rfl, rfl, rfl⟩) ?_)); cbv
  rw [hT]
  refine AGo_upE [0, 1, 3, 4, 6, 19, 20] M (fun _ (_ : Unit) => True) (fun j _ i => [(7, .ms 2 4 j 0 j), (21, I i)]) (fun j _ => [.own 0 [I N], .own 0 [.vs 2 ys], .own 0 [I xk, I xf, I xt, I xh, I xs], .own 0 [I at0], .own j ((ML j).flatMap spC2)]) () trivial ⟨rfl, rfl, trivial⟩ (.inl (by rw [hML]; rfl)) fun j _ i hi hj _ Bk hB => ?_
  have hlt : A.lt i (A.vlen ys) = decide (j < M) := by rw [hvv, hll, hi, decide_eq_decide]; unfold iLen; omega
  have hadd : ∀ N, j < N → N ≤ 9223372036854775807 → A.add .i64 i 1 = iLen (j + 1) := fun N hj hN => by subst hA; exact add_one hi hj hN
  obtain ⟨cc, hcc⟩ : ∃ c, c = (ML j).flatMap spC2 := ⟨_, rfl⟩
  rw [← hcc]
  have hcl : cc.length = j * 2 := by rw [hcc, len_flat (k := 2) (fun _ => rfl), hMLl j hj]
  have hcn : ∀ q (l : Sps), AV.ltL q (l.flatMap spC2) := fun q l => AV.ltL_nid (nidL_flat (fun _ => rfl) l)
  refine SGo_run hA ⟨[4], [], [], []⟩ .nil .nil 200 fun T TD hT hTD => ?_
  cbv
  split <;> cbv
  · rename_i hk0
    have hk1 : j < M := by have hz := hlt.symm.trans hk0; simpa using hz
    clear hk0
    obtain ⟨⟨u, v⟩, hx⟩ : ∃ x, l[j]? = some x := ⟨_, List.getElem?_eq_getElem (by omega)⟩
    have hst := hMLs j _ hx
    have hbx := hB0 _ (List.mem_of_getElem? hx)
    dsimp only at hst hbx
    have hix : A.ix 2 2 ys i [I u, I v] := by subst hA; exact ix_map hys hi hx rfl
    have hadj := hadd _ hk1 (by omega)
    have e1 : A.sub .i64 u (A.mul .i64 (A.sub .i64 to at0) xs) = u - y := by rw [hm1]; subst hA; exact iSub_id (by omega) (by omega)
    have e2 : A.add .i64 v (A.mul .i64 (A.sub .i64 to at0) xs) = v + y := by rw [hm1]; subst hA; exact iAdd_id (by omega) (by omega)
    have e3 : A.sub .i64 N 1 = N - 1 := by subst hA; exact iSub_id (by omega) (by omega)
    have e4 : A.max 0 (A.sub .i64 u (A.mul .i64 (A.sub .i64 to at0) xs)) = max 0 (u - y) := by rw [e1]; subst hA; exact iMax_eq _ _
    have e5 : A.min (A.sub .i64 N 1) (A.add .i64 v (A.mul .i64 (A.sub .i64 to at0) xs)) = min (N - 1) (v + y) := by rw [e2, e3]; subst hA; exact iMin_eq _ _
    refine Exists.intro _ (And.intro hix ?_); cbv
    obtain ⟨c1, hc1⟩ : ∃ x, x = cc ++ [I (A.max 0 (A.sub .i64 u (A.mul .i64 (A.sub .i64 to at0) xs))), I (A.min (A.sub .i64 N 1) (A.add .i64 v (A.mul .i64 (A.sub .i64 to at0) xs)))] := ⟨_, rfl⟩
    refine And.intro (hsg _) (Exists.intro c1 (Exists.intro (j + 1) (And.intro (by subst hA; rw [hc1]; exact app_one hcl rfl (by omega)) (And.intro rfl ?_)))); cbv
    rw [e4, e5] at hc1
    have hfin : c1 = (ML (j + 1)).flatMap spC2 := by rw [hc1, hst, hcc]; simp
    have hyl : ∀ q, AV.ltL q ys := fun q => AV.ltL_nid (by rw [hys]; exact nidL_map (g := sp) (fun _ => rfl) _)
    exact hB () _ _ hk1 trivial ⟨rfl, congrArg I hadj, trivial⟩ ⟨rfl, rfl, rfl, rfl, rfl, rfl, rfl, trivial⟩ (.inr ⟨⟨_, by rw [← hfin]; rfl⟩, by simp, by simp [ltG, AV.lt, AV.ltL, keepS, look, gset], by simp [ltH, AObj.lt, AV.lt, AV.ltL, hyl, hcn, -List.flatMap_append]⟩)
  · rename_i hk0
    have hk1 : ¬ j < M := by have hz := hlt.symm.trans hk0; simpa using hz
    clear hk0
    have hjM : j = M := by omega
    have hcv : cc = (spreadS N y l).flatMap spC2 := by rw [hcc, hjM, hMLe]
    have hjv : j = (spreadS N y l).length := by rw [hjM, ← hMLe, hMLl M (Nat.le_refl _)]
    have hE : Elems 2 ((spreadS N y l).map sp) cc := by rw [hcv]; exact Elems_map (f := sp) (g := spC2) (sz := 2) (fun _ => rfl) (fun _ => rfl) (fun _ => rfl) _
    obtain ⟨zs, hzs⟩ : ∃ zs, zs = (spreadS N y l).map sp := ⟨_, rfl⟩
    have hzl : zs.length = j := by rw [hzs, hjv]; simp
    rw [← hzs] at hE h
    rw [hF]
    refine Frees.frz 4 j 2 zs rfl hE ?_
    have e1 : AV.frz 4 j 2 zs (.ms 2 4 j 0 j) = .vs 2 zs := frz_self hzl
    have hH : frzH 4 j 2 zs [.own 0 [I N], .own 0 [.ms 2 4 j 0 j], .own 0 [I xk, I xf, I xt, I xh, I xs], .own 0 [I to], .gone] = [.own 0 [I N], .own 0 [.vs 2 zs], .own 0 [I xk, I xf, I xt, I xh, I xs], .own 0 [I to]] ++ [.gone] := by
      simp only [frzH, AObj.frz, AV.frzL, e1]; simp [AV.frz]
    show Frees 4 Kk _ (frzH 4 j 2 zs [.own 0 [I N], .own 0 [.ms 2 4 j 0 j], .own 0 [I xk, I xf, I xt, I xh, I xs], .own 0 [I to], .gone])
    rw [hH]
    exact Frees.drop (by simp) (by rfl) (by simp [ltHB, AV.ltLB, AV.ltB]) (Frees.now h)
def eSpread : List AV → AHeap → Option PT
  | [.lit (.int .i64 to), .mp 3 0 0, .mp 2 0 0, .mp 1 0 0, .mp 0 0 0], .own 0 [.lit (.int .i64 N)] :: .own 0 [.vs 2 ys] :: .own 0 [.lit (.int .i64 xk), .lit (.int .i64 xf), .lit (.int .i64 xt), .lit (.int .i64 xh), .lit (.int .i64 xs)] :: .own 0 [.lit (.int .i64 at0)] :: rest =>
    some fun K => ∃ (l : Sps) (b : Int), (ys = l.map sp ∧ l.length ≤ 1000000 ∧ (0 ≤ b ∧ b ≤ 100000000) ∧ SpB N b l) ∧ (1 ≤ N ∧ N ≤ 1000) ∧ ((0 ≤ to ∧ to ≤ 10000) ∧ 0 ≤ at0 ∧ at0 ≤ 10000) ∧ (0 ≤ xs ∧ xs ≤ 100) ∧ ∀ zs, zs = (spreadS N ((to - at0) * xs) l).map sp →
      K (.tup []) (.own 0 [I N] :: .own 0 [.vs 2 zs] :: .own 0 [I xk, I xf, I xt, I xh, I xs] :: .own 0 [I to] :: rest)
  | _, _ => none
theorem eSpread_ok : ∀ args H pt, eSpread args H = some pt → ∀ (Kk : AV → AHeap → Prop), pt Kk → ACalls Try.prog 119 args H Kk := by
  intro args H pt h Kk hk
  unfold eSpread at h
  split at h
  · rename_i to N ys xk xf xt xh xs at0 rest
    cases h
    obtain ⟨l, b, ⟨rfl, h1, h2, h3⟩, h4, h5, h6, h7⟩ := hk
    have g1 := p119b to at0 N xk xf xt xh xs l h1 b h2 h3 h4 h5 h6 (Kk := fun r H' => r = .tup [] ∧ H' = [.own 0 [I N], .own 0 [.vs 2 ((spreadS N ((to - at0) * xs) l).map sp)], .own 0 [I xk, I xf, I xt, I xh, I xs], .own 0 [I to]]) ⟨rfl, rfl⟩
    have g2 := ACalls.frame (H := .own 0 [I N] :: .own 0 [.vs 2 (l.map sp)] :: .own 0 [I xk, I xf, I xt, I xh, I xs] :: .own 0 [I at0] :: rest) [0, 1, 2, 3] g1 (by decide) rfl (by simp [AV.ltL, AV.lt]) (by simp [ltH, AObj.lt, AV.ltL, AV.lt])
      (fun k X hX => by
        match k with
        | 0 => simp at hX; subst hX; simp [at_, AObj.ren, AV.renL, AV.ren]
        | 1 => simp at hX; subst hX; simp [at_, AObj.ren, AV.renL, AV.ren]
        | 2 => simp at hX; subst hX; simp [at_, AObj.ren, AV.renL, AV.ren]
        | 3 => simp at hX; subst hX; simp [at_, AObj.ren, AV.renL, AV.ren]
        | k + 4 => simp at hX)
    rw [show AV.renL [0, 1, 2, 3] [I to, .mp 3 0 0, .mp 2 0 0, .mp 1 0 0, .mp 0 0 0] = [I to, .mp 3 0 0, .mp 2 0 0, .mp 1 0 0, .mp 0 0 0] by simp [AV.renL, AV.ren, at_]] at g2
    refine g2.mono fun r H' hx => ?_
    obtain ⟨r0', H1, ⟨rfl, rfl⟩, _, rfl, rfl⟩ := hx
    have := h7 _ rfl
    simpa [merge, updL, AObj.ren, AV.renL, AV.ren, more, at_] using this
  · cases h
end Go.Sas
