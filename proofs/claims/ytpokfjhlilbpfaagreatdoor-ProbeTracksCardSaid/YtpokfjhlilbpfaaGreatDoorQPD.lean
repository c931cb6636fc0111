/-
Radar files: tracks made of numbers; a track is the same as itself: contracts.
Conditions: none.
-/
import Derived.Test.YtpokfjhlilbpfaaGreatDoorQPN3
import Derived.Test.YtpokfjhlilbpfaaGreatDoorXCg
import Derived.Test.YtpokfjhlilbpfaaGreatDoorPLg
set_option linter.unusedVariables false
set_option linter.unusedSimpArgs false
namespace Go.Sas
open Go.Proofs
set_option maxRecDepth 100000
theorem d23 (a b : Int) (h0 : -1000000000 ≤ a ∧ a ≤ b ∧ b ≤ 1000000000) : Draws Tryz.prog 23 [I a, I b] (Spn a b) := by
  refine .of rfl (by rintro r ⟨n, m, rfl, _⟩; rfl) fun w Kk h => ?_
  obtain ⟨A, hA⟩ : ∃ A, A = std := ⟨_, rfl⟩
  refine go23 rfl (SGo_run hA ⟨[], [], [], ed2⟩ .nil ed2_ok 200 fun T TD hT hTD => ?_)
  clear hT hTD
  cbv
  refine Exists.intro () (And.intro (by omega) ?_)
  rintro w1 _ ⟨k, rfl, hk1, hk2⟩
  cbv
  refine Exists.intro () (And.intro (by omega) ?_)
  rintro w2 _ ⟨q, rfl, hq1, hq2⟩
  cbv
  have hmn : A.min b (A.add .i64 (A.add .i64 k 1) (A.quo .i64 (A.sub .i64 b a) 10)) = min b (k + 1 + (b - a) / 10) := by
    subst hA; simp only [std, iMin_eq]; simp (disch := omega) only [iAdd_id, iSub_id, iQuo_id]
  split <;> cbv
  · refine Exists.intro () (And.intro (by refine ⟨by omega, ?_⟩; show _ ≤ A.min b (A.add .i64 (A.add .i64 k 1) (A.quo .i64 (A.sub .i64 b a) 10)) ∧ A.min b (A.add .i64 (A.add .i64 k 1) (A.quo .i64 (A.sub .i64 b a) 10)) ≤ _; rw [hmn]; omega) ?_)
    rintro w3 _ ⟨t, rfl, ht1, ht2⟩
    cbv
    have ht2 : t ≤ A.min b (A.add .i64 (A.add .i64 k 1) (A.quo .i64 (A.sub .i64 b a) 10)) ∨ t = k := ht2
    rw [hmn] at ht2
    exact h _ _ ⟨_, _, rfl, by omega, by omega, by omega⟩
  split <;> cbv
  · refine Exists.intro () (And.intro (by omega) ?_)
    rintro w3 _ ⟨t, rfl, ht1, ht2⟩
    cbv
    exact h _ _ ⟨_, _, rfl, by omega, by omega, by omega⟩
  · exact h _ _ ⟨_, _, rfl, by omega, by omega, by omega⟩
theorem sSpan_ok : ∀ rest pre Q, sSpan rest = some (pre, Q) → pre () → Draws Tryz.prog 23 rest Q := by
  intro rest pre Q h hp
  unfold sSpan at h
  split at h
  · cases h; exact d23 _ _ hp
  · cases h
def edT : ETab := (23, eDraw sSpan) :: ed2
theorem edT_ok : ETabOk Tryz.prog edT := .cons (eDraw_ok sSpan_ok) ed2_ok
/-- a track made of numbers -/
def TkQ (most : Int) (r : AV) : Prop := ∃ (a b : Int) (xs : List AV) (es : List Ech), r = tkV a b (.vs 4 xs) ∧ xs = es.map ecV ∧ checkT ⟨(a, b), es⟩ = 0 ∧ iLen es.length ≤ most
def EchD (e : Ech) : Prop := (0 ≤ e.p ∧ e.p ≤ 19) ∧ (0 ≤ e.h ∧ e.h ≤ 29) ∧ 0 ≤ e.lo ∧ e.lo ≤ e.hi ∧ e.hi ≤ 50000
theorem d6 (most : Int) (hm : 0 ≤ most ∧ most ≤ 100) : Draws Tryz.prog 6 [I most] (TkQ most) := by
  refine .of rfl (by rintro r ⟨_, _, _, _, rfl, _⟩; rfl) fun w Kk h => ACalls.frees ?_
  obtain ⟨A, hA⟩ : ∃ A, A = std := ⟨_, rfl⟩
  have hsg : ∀ g, A.sg g g := by subst hA; exact fun _ => rfl
  have hadd1 : A.add .i64 most 1 = most + 1 := by subst hA; exact iAdd_id (by omega) (by omega)
  obtain ⟨F, hF⟩ : ∃ F, F = Frees 1 Kk := ⟨_, rfl⟩
  rw [show Frees [AObj.own 0 [U w]].length Kk = F from hF.symm]
  refine go6 rfl (SGo_run hA ⟨[], [], [], edT⟩ .nil edT_ok 200 fun T TD hT hTD => ?_)
  cbv
  refine Exists.intro () (And.intro (by omega) ?_)
  rintro w1 _ ⟨a, b, rfl, ha1, ha2, ha3⟩
  cbv
  refine Exists.intro () (And.intro (by show A.add .i64 most 1 ≤ _; rw [hadd1]; omega) ?_)
  rintro w2 _ ⟨nv, rfl, hn1, hn2⟩
  have hn2 : nv < A.add .i64 most 1 ∨ nv = 0 := hn2
  rw [hadd1] at hn2
  cbv
  rw [hT]
  refine AGo_nilcell 2 2 4 rfl rfl ?_
  obtain ⟨N, hN⟩ : ∃ N : Nat, nv = iLen N := ⟨nv.toNat, by unfold iLen; omega⟩
  have hNb : N ≤ 100 ∧ iLen N ≤ most := by unfold iLen at hN ⊢; omega
  refine AGo_upE [0, 1, 4, 5] N (fun j (s : Int × Int × List Ech) => s.2.1 = nv - iLen j ∧ s.2.2.length = j ∧ ∀ x ∈ s.2.2, EchD x) (fun j s _ => [(6, I s.2.1)])
    (fun j s => [.own 0 [U s.1], .own 0 [I 0, I 0, .lit (.slice none 0 0)], .own 0 [I a, I b, .ms 4 3 j 0 j], .own j (s.2.2.flatMap ecC)]) (w2, nv, []) ⟨by simp [iLen], rfl, by simp⟩ ⟨rfl, trivial⟩ (.inl rfl) fun j s i hi hj hP Bk hB => ?_
  obtain ⟨w3, c, es⟩ := s
  obtain ⟨hP1, hP2, hP3⟩ := hP
  dsimp only at hP1 hP2 hP3 ⊢
  have hlt : A.lt 0 c = decide (j < N) := by subst hA; simp only [std, iLt, hP1, hN]; rw [Bool.eq_iff_iff]; unfold iLen; simp only [decide_eq_true_eq]; omega
  have hsub : A.sub .i64 c 1 = c - 1 := by subst hA; exact iSub_id (by rw [hP1, hN]; unfold iLen; omega) (by rw [hP1, hN]; unfold iLen; omega)
  obtain ⟨cc, hcc⟩ : ∃ c, c = es.flatMap ecC := ⟨_, rfl⟩
  rw [← hcc]
  refine SGo_run hA ⟨[3], [0, 1003], [], edT⟩ .nil edT_ok 200 fun T TD hT hTD => ?_
  cbv
  split <;> cbv
  · rename_i hk0
    have hk1 : j < N := by have hz := hlt.symm.trans hk0; simpa using hz
    clear hk0
    refine Exists.intro () (And.intro (by omega) ?_)
    rintro w4 _ ⟨p, rfl, hp1, hp2⟩
    cbv
    refine And.intro (by subst hA; simp [std, Keep, SubH, ResK]) ?_; cbv
    refine Exists.intro () (And.intro (by omega) ?_)
    rintro w5 _ ⟨q, rfl, hq1, hq2⟩
    cbv
    refine And.intro (by subst hA; simp [std, Keep, SubH, ResK]) ?_; cbv
    refine Exists.intro () (And.intro ⟨by simp, by simp, by exact AllI_lits (l := [20000, 50000])⟩ ?_)
    rintro w6 _ ⟨t, rfl, ht⟩
    simp at ht
    cbv
    refine And.intro (by subst hA; simp [std, Keep, SubH, ResK]) ?_; cbv
    refine Exists.intro () (And.intro (by omega) ?_)
    rintro w7 _ ⟨u, v, rfl, hu1, hu2, hu3⟩
    cbv
    refine And.intro (by subst hA; simp [std, Keep, SubH, ResK]) ?_; cbv
    refine And.intro (hsg _) (Exists.intro (cc ++ [I p, I q, I u, I v]) (Exists.intro (j + 1) (And.intro ?_ (And.intro rfl ?_))))
    · subst hA; exact app_one (by rw [hcc, flen (f := ecC) (k := 4) (fun _ => rfl), hP2]) rfl (by omega)
    generalize hc2 : cc ++ _ = cc2
    refine And.intro (by subst hA; simp [std, Keep, SubH, ResK]) ?_
    cbv
    refine hB (w7, c - 1, es ++ [⟨p, q, u, v⟩]) _ _ hk1 ⟨?_, by simp [hP2], ?_⟩ ⟨congrArg I hsub, trivial⟩ ⟨rfl, rfl, rfl, rfl, trivial⟩ (.inl (by rw [← hc2, hcc]; simp))
    · show c - 1 = nv - iLen (j + 1)
      rw [hP1]; unfold iLen; omega
    intro x hx
    rcases List.mem_append.1 hx with hx | hx
    · exact hP3 x hx
    · simp at hx; subst hx; unfold EchD; dsimp only; omega
  · rename_i hk0
    have hk1 : ¬ j < N := by have hz := hlt.symm.trans hk0; simpa using hz
    clear hk0
    have hjN : j = N := by omega
    subst hjN
    clear hB hlt
    rw [hF]
    have hck : checkT ⟨(a, b), es⟩ = 0 := checkT_of ⟨by dsimp only; omega, by dsimp only; omega, by dsimp only; omega, by dsimp only; omega, fun e he => by have := hP3 e he; unfold EchD at this; omega⟩
    have hfin : Kk (tkV a b (.vs 4 (es.map ecV))) [.own 0 [U w3]] := h _ _ ⟨a, b, _, es, rfl, rfl, hck, by rw [hP2]; exact hNb.2⟩
    refine Frees.frz 3 j 4 (es.map ecV) rfl (by rw [hcc]; exact Elems_ec es) ?_
    have e1 : AV.frz 3 j 4 (es.map ecV) (.ms 4 3 j 0 j) = .vs 4 (es.map ecV) := frz_self (by simp [hP2])
    have e4 : AV.frz 3 j 4 (es.map ecV) (.agg [I a, I b, .ms 4 3 j 0 j]) = tkV a b (.vs 4 (es.map ecV)) := by
      simp only [AV.frz, AV.frzL] at e1 ⊢
      rw [e1]
    have e6 : ∀ T, Frees 1 Kk (AV.frz 3 j 4 (es.map ecV) (.agg [I a, I b, .ms 4 3 j 0 j])) (.own 0 [U w3] :: T) := fun T => by rw [e4]; exact Frees.drop1 rfl hfin
    exact e6 _
def sTrk : List AV → Option ((Unit → Prop) × (AV → Prop))
  | [.lit (.int .i64 most)] => some (fun _ => 0 ≤ most ∧ most ≤ 100, TkQ most)
  | _ => none
theorem sTrk_ok : ∀ rest pre Q, sTrk rest = some (pre, Q) → pre () → Draws Tryz.prog 6 rest Q := by
  intro rest pre Q h hp
  unfold sTrk at h
  split at h
  · cases h; exact d6 _ hp
  · cases h
/-- a track is the same as itself -/
theorem p10 (a b : Int) (es : List Ech) (ho : es.length ≤ 1000000) (H : AHeap) {Kk : AV → AHeap → Prop} (h : Kk (B true) H) :
    ACalls Tryz.prog 10 [tkV a b (.vs 4 (es.map ecV)), tkV a b (.vs 4 (es.map ecV))] H Kk := by
  refine (fun q => pureC (by rfl) (by rfl) q H h) ?_
  clear h
  intro Kk h
  obtain ⟨ys, hys⟩ : ∃ ys, ys = es.map ecV := ⟨_, rfl⟩
  rw [← hys]
  obtain ⟨A, hA⟩ : ∃ A, A = std := ⟨_, rfl⟩
  have hv : A.vlen ys = iLen es.length := by subst hA; simp [std, hys]
  have hee : ∀ x, A.eq x x = true := by subst hA; intro x; simp [std, iEq]
  have hne : ∀ x, A.ne x x = false := by subst hA; intro x; simp [std, iNe]
  have hnb : ∀ b, A.bnot b = !b := by subst hA; intro b; rfl
  have hba : ∀ b b', A.band b b' = (b && b') := by subst hA; intro b b'; rfl
  have hd1 : A.bnot (A.band (A.eq a a) (A.band (A.eq b b) true)) = false := by simp [hee, hnb, hba]
  refine go10 rfl (SGo_run hA ⟨[], [], [], []⟩ .nil .nil 200 fun T TD hT hTD => ?_)
  cbv
  split <;> cbv
  · rename_i hz; exact Bool.noConfusion (hz.symm.trans hd1)
  split <;> cbv
  · rename_i hz; exact Bool.noConfusion (hz.symm.trans (hne _))
  rw [hT]
  refine AGo_upE [2, 3] es.length (fun j (_ : Unit) => True) (fun j _ i => [(5, I i)]) (fun _ _ => [.own 0 [I a, I b, .vs 4 ys], .own 0 [I a, I b, .vs 4 ys]]) () trivial ⟨rfl, trivial⟩ (.inl rfl) fun j _ i hi hj hP Bk hB => ?_
  have hlt : A.lt i (A.vlen ys) = decide (j < es.length) := by subst hA; exact lt_len (by simp [hys]) hi
  have hadd : ∀ N, j < N → N ≤ 9223372036854775807 → A.add .i64 i 1 = iLen (j + 1) := fun N hj hN => by subst hA; exact add_one hi hj hN
  refine SGo_run hA ⟨[], [], [], []⟩ .nil .nil 200 fun T TD hT hTD => ?_
  cbv
  split <;> cbv
  · rename_i hk0
    have hk1 : j < es.length := by have hz := hlt.symm.trans hk0; simpa using hz
    clear hk0
    obtain ⟨⟨x1, x2, x3, x4⟩, hx⟩ : ∃ x, es[j]? = some x := ⟨_, List.getElem?_eq_getElem hk1⟩
    have hix : A.ix 4 4 ys i [I x1, I x2, I x3, I x4] := by subst hA; exact ix_map hys hi hx rfl
    refine Exists.intro _ (And.intro hix ?_); cbv
    refine Exists.intro _ (And.intro hix ?_); cbv
    have hd3 : A.bnot (A.band (A.eq x1 x1) (A.band (A.eq x2 x2) (A.band (A.band (A.eq x3 x3) (A.band (A.eq x4 x4) true)) true))) = false := by simp [hee, hnb, hba]
    split <;> cbv
    · rename_i hz; exact Bool.noConfusion (hz.symm.trans hd3)
    · exact hB () _ _ hk1 trivial ⟨congrArg I (hadd _ hk1 (by omega)), trivial⟩ ⟨rfl, rfl, trivial⟩ (.inl rfl)
  · exact h
def eSameT : List AV → Option ((AV → Prop) → Prop)
  | [.agg [.lit (.int .i64 a), .lit (.int .i64 b), .vs 4 ys], .agg [.lit (.int .i64 a'), .lit (.int .i64 b'), .vs 4 ys']] =>
    some fun K => ∃ (l : List Ech), a' = a ∧ b' = b ∧ ys' = ys ∧ ys = l.map ecV ∧ l.length ≤ 1000000 ∧ K (B true)
  | _ => none
theorem eSameT_ok : ∀ args pt, eSameT args = some pt → ∀ (H : AHeap) (Kk : AV → AHeap → Prop), pt (fun r => Kk r H) → ACalls Tryz.prog 10 args H Kk := by
  intro args pt h H Kk hk
  unfold eSameT at h
  split at h
  · cases h
    obtain ⟨l, rfl, rfl, rfl, rfl, h2, h3⟩ := hk
    exact p10 _ _ _ h2 H h3
  · cases h
end Go.Sas
