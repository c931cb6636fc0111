/-
Probe: looks made of numbers whose row may still grow: contract.
Conditions: none.
-/
import Derived.Test.YtajegdbljldakaaPP
set_option linter.unusedVariables false
set_option linter.unusedSimpArgs false
namespace Go.Sas
open Go.Proofs
set_option maxRecDepth 100000
set_option maxHeartbeats 2000000 in
theorem d20u (R : List Rch) (TC : Nat → Nat → Int) (first most : Int) (hours : Nat) (hP : PlcOk R) (hT0 : CrsOk R TC hours) (hf : 0 ≤ first ∧ first ≤ 100) (hh : 1 ≤ hours ∧ hours ≤ 100) (hm : 0 ≤ most ∧ most ≤ 100) (w : Int) {Kk : AV → AHeap → Prop}
    (h : ∀ w' (l : List Lk), (l.length : Int) ≤ most → (∀ x ∈ l, LkFit R TC first hours x) → Kk (.ms 5 1 l.length 0 l.length) [.own 0 [U w'], .own l.length (l.flatMap lkC)]) :
    ACalls Try.prog 20 [.mp 0 0 0, I first, .vs 1 (crsV TC hours R.length), I most] [.own 0 [U w]] Kk := by
  obtain ⟨N, hN⟩ : ∃ N, N = R.length := ⟨_, rfl⟩
  rw [← hN]
  have hN1 : 1 ≤ N := by rw [hN]; exact hP.pos
  have hN2 : N ≤ 1000 := by rw [hN]; exact hP.le
  obtain ⟨cr, hcr⟩ : ∃ x, x = crsV TC hours N := ⟨_, rfl⟩
  rw [← hcr]
  obtain ⟨A, hA⟩ : ∃ A, A = std := ⟨_, rfl⟩
  have hsg : ∀ g, A.sg g g := by subst hA; exact fun _ => rfl
  have hm1 : A.add .i64 most 1 = most + 1 := by subst hA; exact iAdd_id (by omega) (by omega)
  have hcv : A.vlen cr = iLen hours := by subst hA; rw [hcr]; simp [std, crsV]
  refine go20 rfl (SGo_run hA ⟨[], [], [], ed2⟩ .nil ed2_ok 200 fun T TD hT hTD => ?_)
  cbv
  refine Exists.intro () (And.intro (by show A.add .i64 most 1 ≤ _; rw [hm1]; omega) ?_)
  rintro w1 _ ⟨d0, rfl, hd1, hd2⟩
  have hd2 : d0 < A.add .i64 most 1 ∨ d0 = 0 := hd2
  rw [hm1] at hd2
  cbv
  rw [hT]
  refine AGo_nilms 9 5 rfl ?_
  refine AGo_whileE (σ := Int × Int × List Lk) [0, 1, 2] (fun s => s.2.1.toNat) (fun s => 0 ≤ s.2.1 ∧ s.2.1 + iLen s.2.2.length ≤ most ∧ ∀ x ∈ s.2.2, LkFit R TC first hours x) (fun s => [(9, .ms 5 1 s.2.2.length 0 s.2.2.length), (10, I s.2.1)])
    (fun s => [.own 0 [U s.1], .own s.2.2.length (s.2.2.flatMap lkC)]) (w1, d0, []) ⟨by dsimp only; omega, by show d0 + iLen 0 ≤ most; unfold iLen; omega, by simp⟩ ⟨rfl, rfl, trivial⟩ (.inl rfl) fun s hP Bk hB => ?_
  obtain ⟨w2, d, l⟩ := s
  obtain ⟨hP1, hP2, hP3⟩ := hP
  dsimp only at hP1 hP2 hP3 ⊢
  obtain ⟨n, hn⟩ : ∃ n, n = l.length := ⟨_, rfl⟩
  obtain ⟨cc, hcc⟩ : ∃ c, c = l.flatMap lkC := ⟨_, rfl⟩
  rw [← hn, ← hcc]
  rw [← hn] at hP2
  have hn4 : n ≤ 100 := by unfold iLen at hP2; omega
  have hd4 : d ≤ 100 := by unfold iLen at hP2; omega
  have hcl : cc.length = n * 5 := by rw [hcc, hn, len_flat (k := 5) (fun _ => rfl)]
  have hgt : A.lt 0 d = decide (0 < d) := by subst hA; rfl
  refine SGo_run hA ⟨[1], [0, 1001], [], ed2⟩ .nil ed2_ok 200 fun T TD hT hTD => ?_
  cbv
  split <;> cbv
  · rename_i hz
    have hz : 0 < d := by have hz := hgt.symm.trans hz; simpa using hz
    refine Exists.intro () (And.intro (by show A.vlen cr ≤ _; rw [hcv]; unfold iLen; omega) ?_)
    rintro w3 _ ⟨q1, rfl, hq1, hq1'⟩
    have hq1' : q1 < A.vlen cr ∨ q1 = 0 := hq1'
    rw [hcv] at hq1'
    cbv
    obtain ⟨i, hi⟩ : ∃ i : Nat, q1 = iLen i := ⟨q1.toNat, by unfold iLen; omega⟩
    have hih : i < hours := by unfold iLen at hi hq1'; omega
    have hq1b : 0 ≤ q1 ∧ q1 ≤ 100 := by unfold iLen at hi; omega
    have hgc : (List.range hours)[i]? = some i := by simp [hih]
    obtain ⟨row, hrow⟩ : ∃ x, x = crsRow TC N i := ⟨_, rfl⟩
    have hixr : A.ix 1 1 cr q1 [.vs 1 row] := by subst hA; rw [hrow]; exact ix_map (f := fun i => AV.vs 1 (crsRow TC N i)) hcr hi hgc rfl
    refine Exists.intro _ (And.intro hixr ?_); cbv
    have hrv : A.vlen row = iLen N := by subst hA; rw [hrow]; simp [std, crsRow]
    refine Exists.intro () (And.intro (by show A.vlen row ≤ _; rw [hrv]; unfold iLen; omega) ?_)
    rintro w4 _ ⟨q2, rfl, hq2, hq2'⟩
    have hq2' : q2 < A.vlen row ∨ q2 = 0 := hq2'
    rw [hrv] at hq2'
    cbv
    obtain ⟨p, hp⟩ : ∃ p : Nat, q2 = iLen p := ⟨q2.toNat, by unfold iLen; omega⟩
    have hpN : p < N := by unfold iLen at hp hq2'; omega
    refine Exists.intro _ (And.intro hixr ?_); cbv
    have hixp : A.ix 1 1 row q2 [I (TC i p)] := by subst hA; exact ix_map hrow hp (by simp [hpN]) rfl
    have hTb := hT0.rng i p hih (by omega)
    obtain ⟨t, ht⟩ : ∃ t, t = TC i p := ⟨_, rfl⟩
    rw [← ht] at hixp hTb
    refine Exists.intro _ (And.intro hixp ?_); cbv
    refine Exists.intro () (And.intro (by omega) ?_)
    rintro w5 _ ⟨s1, rfl, hs1⟩
    cbv
    refine Exists.intro () (And.intro (by omega) ?_)
    rintro w6 _ ⟨s2, rfl, hs2⟩
    cbv
    refine Exists.intro () (And.intro ⟨by simp, by simp, by exact AllI_lits (l := [0, s1, s2])⟩ ?_)
    rintro w7 _ ⟨u, rfl, hu⟩
    simp at hu
    cbv
    refine Exists.intro () (And.intro (by omega) ?_)
    rintro w8 _ ⟨s3, rfl, hs3⟩
    cbv
    refine Exists.intro () (And.intro (by omega) ?_)
    rintro w9 _ ⟨s4, rfl, hs4⟩
    cbv
    refine Exists.intro () (And.intro ⟨by simp, by simp, by exact AllI_lits (l := [0, s3, s4])⟩ ?_)
    rintro w10 _ ⟨v, rfl, hv⟩
    simp at hv
    cbv
    refine Exists.intro () (And.intro (by omega) ?_)
    rintro w11 _ ⟨k, rfl, hk⟩
    cbv
    refine And.intro (by subst hA; first | (simp [std, Keep, SubH, ResK]; done) | exact .inr ⟨⟨rfl, SubH.self _⟩, trivial, .inr fun _ => ⟨rfl, SubH.self _⟩⟩ | exact .inr ⟨SubH.self _, trivial, .inr fun _ => SubH.self _⟩ | exact .inr ⟨by simp [SubH], trivial, .inl rfl⟩ | exact .inr ⟨by simp [SubH], trivial, .inr fun _ => by simp [SubH]⟩) ?_
    cbv
    have hsub : A.sub .i64 d 1 = d - 1 := by subst hA; exact iSub_id (by omega) (by omega)
    have hlo : A.max 0 (A.sub .i64 t u) = max 0 (t - u) := by subst hA; simp only [std, iMax_eq]; rw [iSub_id (by omega) (by omega)]
    have hhi : A.min 3000 (A.add .i64 t v) = min 3000 (t + v) := by subst hA; simp only [std, iMin_eq]; rw [iAdd_id (by omega) (by omega)]
    have hhr : A.add .i64 first q1 = first + q1 := by subst hA; exact iAdd_id (by omega) (by omega)
    obtain ⟨cc2, hcc2⟩ : ∃ x, x = cc ++ lkC ⟨k, q2, A.add .i64 first q1, A.max 0 (A.sub .i64 t u), A.min 3000 (A.add .i64 t v)⟩ := ⟨_, rfl⟩
    refine And.intro (hsg _) (Exists.intro cc2 (Exists.intro (n + 1) (And.intro (by subst hA; rw [hcc2]; exact app_one hcl rfl (by omega)) (And.intro rfl ?_))))
    cbv
    refine And.intro (by subst hA; first | (simp [std, Keep, SubH, ResK]; done) | exact .inr ⟨⟨rfl, SubH.self _⟩, trivial, .inr fun _ => ⟨rfl, SubH.self _⟩⟩ | exact .inr ⟨SubH.self _, trivial, .inr fun _ => SubH.self _⟩ | exact .inr ⟨by simp [SubH], trivial, .inl rfl⟩ | exact .inr ⟨by simp [SubH], trivial, .inr fun _ => by simp [SubH]⟩) ?_
    cbv
    rw [hlo, hhi, hhr] at hcc2
    have hcl2 : ∀ n (l : List Lk), AV.ltL n (l.flatMap lkC) := fun n l => AV.ltL_nid (nidL_flat (fun _ => rfl) l)
    refine hB (w11, d - 1, l ++ [⟨k, q2, first + q1, max 0 (t - u), min 3000 (t + v)⟩]) _ _ (by dsimp only; omega) ⟨by dsimp only; omega, by dsimp only; rw [List.length_append, ← hn]; unfold iLen at hP2 ⊢; simp; omega, ?_⟩ ?_ ⟨rfl, rfl, rfl, trivial⟩ (.inr ⟨⟨_, by dsimp only; rw [List.flatMap_append, List.length_append, ← hn, ← hcc]; rw [show cc ++ [Lk.mk k q2 (first + q1) (max 0 (t - u)) (min 3000 (t + v))].flatMap lkC = cc2 from hcc2.symm]; rfl⟩, by simp, by simp [ltG, AV.lt, AV.ltL, keepS, look, gset], by simp [ltH, AObj.lt, AV.lt, AV.ltL, hcl2, -List.flatMap_append]⟩)
    · intro x hx
      rcases List.mem_append.1 hx with hx | hx
      · exact hP3 x hx
      · simp only [List.mem_singleton] at hx; subst hx
        refine ⟨by dsimp only; omega, i, p, hih, by omega, hp, congrArg (first + ·) hi, ?_⟩
        dsimp only
        rw [← ht]; omega
    · rw [List.length_append, ← hn]; exact ⟨rfl, congrArg I hsub, trivial⟩
  · rename_i hz
    have hP5 : ((l.length : Nat) : Int) ≤ most := by rw [← hn]; unfold iLen at hP2; omega
    have hh := h w2 l hP5 hP3
    rw [← hn, ← hcc] at hh
    exact hh
theorem d20v (R : List Rch) (TC : Nat → Nat → Int) (first most : Int) (hours : Nat) (hP : PlcOk R) (hT0 : CrsOk R TC hours) (hf : 0 ≤ first ∧ first ≤ 100) (hh : 1 ≤ hours ∧ hours ≤ 100) (hm : 0 ≤ most ∧ most ≤ 100) (w : Int) (id : Nat) (H : AHeap) (hH : H[id]? = some (.own 0 [U w])) {Kk : AV → AHeap → Prop}
    (h : ∀ w' (l : List Lk), (l.length : Int) ≤ most → (∀ x ∈ l, LkFit R TC first hours x) → Kk (.ms 5 H.length l.length 0 l.length) (H.set id (.own 0 [U w']) ++ [.own l.length (l.flatMap lkC)])) :
    ACalls Try.prog 20 [.mp id 0 0, I first, .vs 1 (crsV TC hours R.length), I most] H Kk := by
  have h1 := d20u R TC first most hours hP hT0 hf hh hm w (Kk := fun r H' => ∃ w' l, (l.length : Int) ≤ most ∧ (∀ x ∈ l, LkFit R TC first hours x) ∧ r = .ms 5 1 l.length 0 l.length ∧ H' = [.own 0 [U w'], .own l.length (l.flatMap lkC)]) fun w' l e1 e2 => ⟨w', l, e1, e2, rfl, rfl⟩
  have h2 := ACalls.frame (H := H) [id] h1 (by simp) rfl (by simp [AV.ltL, AV.lt]) (by simp [ltH, AObj.lt, AV.ltL, AV.lt])
    (fun k X hX => by
      cases k with
      | zero => simp at hX; subst hX; simpa [at_, AObj.ren, AV.renL, AV.ren] using hH
      | succ k => simp at hX)
  rw [show AV.renL [id] [.mp 0 0 0, I first, .vs 1 (crsV TC hours R.length), I most] = [.mp id 0 0, I first, .vs 1 (crsV TC hours R.length), I most] by simp [AV.renL, AV.ren, at_]] at h2
  refine h2.mono fun r H' hx => ?_
  obtain ⟨r0, H1, ⟨w', l, e1, e2, rfl, rfl⟩, _, rfl, rfl⟩ := hx
  have := h w' l e1 e2
  have hn : AV.nidL (l.flatMap lkC) = true := nidL_flat (fun _ => rfl) l
  simpa [merge, updL, AObj.ren, AV.renL, AV.ren, more, at_, AV.renL_nid hn, List.range'] using this
/-- looks whose row may still grow, where at most so many are asked; else looks as ever -/
def eLooksU (n0 : Int) : List AV → AHeap → Option PT
  | .mp id 0 0 :: .lit (.int .i64 first) :: .vs 1 cr :: .lit (.int .i64 most) :: [], H => match most == n0 with
    | true => (match H[id]? with
      | some (.own 0 [.lit (.int .u64 _)]) => some fun K => ∃ (R : List Rch) (T : Nat → Nat → Int) (hours : Nat), (cr = crsV T hours R.length ∧ PlcOk R ∧ CrsOk R T hours ∧ (0 ≤ first ∧ first ≤ 100) ∧ (1 ≤ hours ∧ hours ≤ 100) ∧ 0 ≤ most ∧ most ≤ 100) ∧
          ∀ w' (l : List Lk) n cc, iLen l.length ≤ most → (∀ x ∈ l, LkFit R T first hours x) → n = l.length → cc = l.flatMap lkC → K (.ms 5 H.length n 0 n) (H.set id (.own 0 [U w']) ++ [.own n cc])
      | _ => none)
    | false => eDrawX sLooks [.mp id 0 0, .lit (.int .i64 first), .vs 1 cr, .lit (.int .i64 most)] H
  | _, _ => none
theorem eLooksU_ok {n0 : Int} : ∀ args H pt, eLooksU n0 args H = some pt → ∀ (Kk : AV → AHeap → Prop), pt Kk → ACalls Try.prog 20 args H Kk := by
  intro args H pt h Kk hk
  unfold eLooksU at h
  split at h
  · split at h
    · split at h
      · rename_i w hX
        cases h
        obtain ⟨R, T, hours, ⟨rfl, h1, h2, h3, h4, h5⟩, h6⟩ := hk
        exact d20v R T _ _ hours h1 h2 h3 h4 h5 w _ H hX fun w' l e1 e2 => h6 w' l _ _ e1 e2 rfl rfl
      · cases h
    · exact eDrawX_ok sLooks_ok _ _ _ h _ hk
  · cases h
end Go.Sas
