/-
Freight: the law FreightShared: its core.
Conditions: none.
-/
import Derived.Test.YthpjckoklnhbcaaHT
import Derived.Test.YthpjckoklnhbcaaHU
import Derived.Test.YthpjckoklnhbcaaQFL15
set_option linter.unusedVariables false
set_option linter.unusedSimpArgs false
namespace Go.Sas
open Go.Proofs
set_option maxRecDepth 100000
def eBills (f : Nat) : List AV → Option ((AV → Prop) → Prop)
  | [.agg [.lit (.int .i64 a), .lit (.int .i64 b), .lit (.int .i64 c), .lit (.int .i64 d), .vs 2 xs, .vs 4 ys], .agg [.lit (.int .i64 u), .lit (.int .i64 v), .vs 1 zs], .vs 1 rs, .lit (.int .i64 rate), .lit (.int .i64 road)] =>
    some fun K => ∃ (cs : List (Int × Int)) (os : List Ord) (ws : List Int) (way : List (List Int)), (xs = cs.map sp ∧ ys = os.map orV ∧ zs = ws.map I ∧ (rs = way.map fun r => .vs 1 (r.map I)) ∧ cs.length ≤ 9223372036854775807 ∧ os.length ≤ 9223372036854775807 ∧ ws.length ≤ 9223372036854775807 ∧ way.length ≤ 9223372036854775807) ∧
      ∀ bs e, bs = (billR ⟨(a, b), (c, d), cs, os⟩ ⟨u, v, ws⟩ way rate road).map I → e = billE ⟨(a, b), (c, d), cs, os⟩ ⟨u, v, ws⟩ way rate road → K (.tup [.vs 1 bs, I e])
  | _ => none
theorem eBills_ok {f : Nat} (hf : ∀ (a b c d u v rate road : Int) (cs : List (Int × Int)) (os : List Ord) (ws : List Int) (way : List (List Int)), cs.length ≤ 9223372036854775807 → os.length ≤ 9223372036854775807 → ws.length ≤ 9223372036854775807 → way.length ≤ 9223372036854775807 → ∀ (H : AHeap) {Kk : AV → AHeap → Prop},
    Kk (.tup [.vs 1 ((billR ⟨(a, b), (c, d), cs, os⟩ ⟨u, v, ws⟩ way rate road).map I), I (billE ⟨(a, b), (c, d), cs, os⟩ ⟨u, v, ws⟩ way rate road)]) H →
    ACalls Try.prog f [frV a b c d (.vs 2 (cs.map sp)) (.vs 4 (os.map orV)), winV u v (.vs 1 (ws.map I)), .vs 1 (way.map fun r => .vs 1 (r.map I)), I rate, I road] H Kk) :
    ∀ args pt, eBills f args = some pt → ∀ (H : AHeap) (Kk : AV → AHeap → Prop), pt (fun r => Kk r H) → ACalls Try.prog f args H Kk := by
  intro args pt h H Kk hk
  unfold eBills at h
  split at h
  · cases h
    obtain ⟨cs, os, ws, way, ⟨rfl, rfl, rfl, rfl, h1, h2, h3, h4⟩, h5⟩ := hk
    exact hf _ _ _ _ _ _ _ _ cs os ws way h1 h2 h3 h4 H (h5 _ _ rfl rfl)
  · cases h
def edS : ETab := (42, eWayOf) :: (22, eSeedF) :: (23, eDraw sFr) :: (35, eWinOf) :: ed2
theorem edS_ok : ETabOk Try.prog edS := .cons eWayOf_ok (.cons eSeedF_ok (.cons (eDraw_ok sFr_ok) (.cons eWinOf_ok ed2_ok)))
theorem sum_getD {l : List Int} {n : Nat} (hn : n = l.length) : sumI ((List.range n).map fun k => l.getD k 0) = sumI l := by
  subst hn
  congr 1
  apply List.ext_getElem?
  intro i
  rw [List.getElem?_map]
  by_cases hi : i < l.length
  · rw [List.getElem?_range hi, List.getElem?_eq_getElem hi]
    simp [List.getD_eq_getElem?_getD, hi]
  · rw [List.getElem?_eq_none (by simpa using hi), List.getElem?_eq_none (by omega)]; rfl
/-- what the bills are together -/
theorem bill_sum {rate : Int} {us sh : List Int} (h : us.length = sh.length) : sumI (billT rate us sh us.length) = sumI sh + rate * sumI us := by
  have e1 : billT rate us sh us.length = (List.range sh.length).map fun k => sh.getD k 0 + rate * us.getD k 0 := by
    unfold billT
    apply List.map_congr_left
    intro k hk
    rw [if_pos (by have := List.mem_range.1 hk; omega)]
  rw [e1, sumI_map_add, sumI_map_mul, sum_getD rfl, sum_getD h.symm]
set_option maxHeartbeats 8000000 in
theorem core15 (nums : List Int) (hn1 : nums.length ≤ 9223372036854775807) : ACalls Try.prog 15 [.vs 1 (nums.map I)] [] fun r _ => r = .lit (.bool true) := by
  obtain ⟨Kk, hKk⟩ : ∃ K : AV → AHeap → Prop, K = fun r _ => r = .lit (.bool true) := ⟨_, rfl⟩
  rw [← hKk]
  have h : ∀ H, Kk (B true) H := fun H => by rw [hKk]
  clear hKk
  obtain ⟨xn, hxn⟩ : ∃ ys, ys = nums.map I := ⟨_, rfl⟩
  rw [← hxn]
  obtain ⟨A, hA⟩ : ∃ A, A = std := ⟨_, rfl⟩
  have hne : ∀ x y, A.ne x y = decide (x ≠ y) := by subst hA; intro x y; simp only [std, iNe]; rw [Bool.eq_iff_iff]; simp
  have hee : ∀ x y, A.eq x y = decide (x = y) := by subst hA; intro x y; exact iEq_dec _ _
  have hll : ∀ x y, A.lt x y = decide (x < y) := by subst hA; intro x y; rfl
  have hle : ∀ x y, A.le x y = decide (x ≤ y) := by subst hA; intro x y; rfl
  have hnb : ∀ b, A.bnot b = !b := by subst hA; intro b; rfl
  have hbd : ∀ x y, A.band x y = (x && y) := by subst hA; intro x y; rfl
  have hsg : ∀ g, A.sg g g := by subst hA; exact fun _ => rfl
  refine go15 rfl (SGo_run hA ⟨[], [0], [], edS⟩ .nil edS_ok 200 fun T TD hT hTD => ?_)
  cbv
  refine Exists.intro nums (And.intro ⟨hxn, hn1⟩ ?_)
  intro w1
  cbv
  refine Exists.intro () (And.intro (by omega) ?_)
  rintro w2 _ ⟨q1, rfl, hq1, hq1'⟩
  cbv
  refine Exists.intro () (And.intro (by omega) ?_)
  rintro w3 _ ⟨q2, rfl, hq2, hq2'⟩
  cbv
  refine Exists.intro () (And.intro ⟨by simp, by simp, by exact AllI_lits (l := [0, q1, q2])⟩ ?_)
  rintro w4 _ ⟨am, rfl, ham⟩
  simp at ham
  have hamb : 0 ≤ am ∧ am ≤ 999999 := by omega
  cbv
  refine Exists.intro () (And.intro (by omega) ?_)
  rintro w5 _ ⟨q3, rfl, hq3⟩
  cbv
  rw [hT]
  refine AGo_nilms 6 1 rfl ?_
  refine AGo_whileE (σ := Int × Int × List Int) [3, 4] (fun s => s.2.1.toNat) (fun s => 0 ≤ s.2.1 ∧ s.2.1 + iLen s.2.2.length ≤ 9 ∧ (s.2.2 = [] → 1 ≤ s.2.1) ∧ ∀ x ∈ s.2.2, 0 ≤ x ∧ x ≤ 499) (fun s => [(5, I (sumI s.2.2)), (6, .ms 1 1 s.2.2.length 0 s.2.2.length), (7, I s.2.1)])
    (fun s => [.own 0 [U s.1], .own s.2.2.length (s.2.2.map I)]) (w5, q3, []) ⟨by dsimp only; omega, by show q3 + iLen 0 ≤ 9; unfold iLen; omega, fun _ => by dsimp only; omega, by simp⟩ ⟨rfl, rfl, rfl, trivial⟩ (.inl rfl) fun s hP Bk hB => ?_
  obtain ⟨w6, dd, wl⟩ := s
  obtain ⟨hP1, hP2, hP3, hP4⟩ := hP
  dsimp only at hP1 hP2 hP3 hP4 ⊢
  obtain ⟨n, hn⟩ : ∃ n, n = wl.length := ⟨_, rfl⟩
  obtain ⟨cc, hcc⟩ : ∃ c, c = wl.map I := ⟨_, rfl⟩
  obtain ⟨al, hal⟩ : ∃ c, c = sumI wl := ⟨_, rfl⟩
  rw [← hn, ← hcc, ← hal]
  rw [← hn] at hP2
  have hn9 : n ≤ 9 := by unfold iLen at hP2; omega
  have halb : 0 ≤ al ∧ al ≤ 4491 := by
    have := sumI_bnd (lo := 0) (hi := 499) hP4
    rw [← hal, ← hn] at this; omega
  have hgt : A.lt 0 dd = decide (0 < dd) := hll _ _
  clear hT hTD T TD
  refine SGo_run hA ⟨[1], [2000001, 1000059], [], ed2⟩ .nil ed2_ok 200 fun T TD hT hTD => ?_
  cbv
  split <;> cbv
  · rename_i hz
    have hz : 0 < dd := of_decide_eq_true (hgt.symm.trans hz)
    refine Exists.intro () (And.intro (by omega) ?_)
    rintro w7 _ ⟨q4, rfl, hq4, hq4'⟩
    cbv
    refine Exists.intro () (And.intro (by omega) ?_)
    rintro w8 _ ⟨q5, rfl, hq5, hq5'⟩
    cbv
    refine Exists.intro () (And.intro ⟨by simp, by simp, by exact AllI_lits (l := [0, q4, q5])⟩ ?_)
    rintro w9 _ ⟨x, rfl, hxx⟩
    simp at hxx
    have hxb : 0 ≤ x ∧ x ≤ 499 := by omega
    cbv
    obtain ⟨c2, hc2⟩ : ∃ r, r = (wl ++ [x]).map I := ⟨_, rfl⟩
    have happ : A.app 1 1 8 cc 0 n [I x] c2 (n + 1) := by
      rw [hc2, List.map_append, ← hcc]; subst hA; exact app_one (by rw [hcc, List.length_map, hn]; omega) rfl (by omega)
    refine And.intro (hsg _) (Exists.intro c2 (Exists.intro (n + 1) (And.intro happ (And.intro rfl ?_)))); cbv
    have hlen : A.len (n + 1) = iLen (n + 1) := by subst hA; rfl
    have hsub : A.sub .i64 (A.len (n + 1)) 1 = iLen n := by rw [hlen]; subst hA; show iSub .i64 _ 1 = _; rw [iSub_id (by unfold iLen; omega) (by unfold iLen; omega)]; unfold iLen; omega
    have hx2 : A.ixm 1 1 0 (n + 1) (A.sub .i64 (A.len (n + 1)) 1) n := by rw [hsub]; subst hA; exact ixm1 rfl (by omega)
    have hg2 : A.get none c2 n (I x) := by subst hA; rw [hc2]; exact getS_I (by rw [List.getElem?_append_right (by omega), hn]; simp)
    repeat refine And.intro (hsg _) ?_
    refine Exists.intro n (And.intro hx2 ?_); cbv
    refine And.intro (hsg _) (Exists.intro _ (And.intro hg2 ?_)); cbv
    have had : A.add .i64 al x = sumI (wl ++ [x]) := by rw [sumI_append]; subst hA; show iAdd .i64 al x = _; rw [iAdd_id (by omega) (by omega), hal]; simp [sumI]
    have hsd : A.sub .i64 dd 1 = dd - 1 := by subst hA; exact iSub_id (by omega) (by unfold iLen at hP2; omega)
    have hlen2 : (wl ++ [x]).length = n + 1 := by rw [List.length_append, ← hn]; rfl
    refine hB (w9, dd - 1, wl ++ [x]) _ _ (by dsimp only; omega) ⟨by dsimp only; omega, by dsimp only; rw [hlen2]; unfold iLen at hP2 ⊢; omega, fun h9 => by simp at h9, fun y hy => ?_⟩ (by rw [hlen2]; exact ⟨congrArg I had, rfl, congrArg I hsd, trivial⟩) ⟨rfl, rfl, trivial⟩ (.inl (by dsimp only; rw [hlen2, hc2]))
    rcases List.mem_append.1 hy with hy | hy
    · exact hP4 y hy
    · simp only [List.mem_singleton] at hy; subst hy; exact hxb
  rename_i hz
  have hz : ¬ 0 < dd := of_decide_eq_false (hgt.symm.trans hz)
  have hne0 : wl ≠ [] := fun h9 => by have := hP3 h9; omega
  have hn1' : 1 ≤ n := by
    cases wl with
    | nil => exact absurd rfl hne0
    | cons y wl => simp at hn; omega
  have hwts : WtsV wl := ⟨by omega, by omega, fun x hx => by have := hP4 x hx; omega⟩
  have hE : shareE am wl = 0 := shareE_ok.2 ⟨by omega, hwts⟩
  rw [hT]
  obtain ⟨xw, hxw⟩ : ∃ x, x = wl.map I := ⟨_, rfl⟩
  refine AGo_frzS 6 (id := 1) (g := n) (sz := 1) (n := n) (xs := xw) (cs := cc) rfl rfl (by rw [hxw, List.length_map, hn]) (by rw [hcc, hxw]; exact Elems_I _) ?_
  clear hT hTD T TD hB
  refine SGo_run hA ⟨[], [], (48, eShareF 48) :: [], []⟩ (.cons (eShareF_ok p48) .nil) .nil 200 fun T TD hT hTD => ?_
  cbv
  refine Exists.intro wl (And.intro ⟨hxw, by omega, fun _ => ⟨by omega, by omega⟩⟩ ?_)
  intro ys e hys he; cbv
  obtain ⟨L, hL⟩ : ∃ L, L = shareV am wl := ⟨_, rfl⟩
  have hys : ys = L.map I := by rw [hys, hL]; unfold shareR; rw [if_pos hE]
  have hLl : L.length = n := by rw [hL, shareV_len, hn]
  have he : e = 0 := he.trans hE
  have z1 : A.ne e 0 = false := by rw [he, hne]; rfl
  have hvy : A.vlen ys = iLen n := by subst hA; simp [std, hys, hLl]
  have hvw : A.vlen xw = iLen n := by subst hA; simp [std, hxw, hn]
  have z2 : A.ne (A.vlen ys) (A.vlen xw) = false := by rw [hvy, hvw, hne]; simp
  split <;> first | (rename_i hz; exact Bool.noConfusion (hz.symm.trans z1)) | cbv
  split <;> first | (rename_i hz; exact Bool.noConfusion (hz.symm.trans z2)) | cbv
  rw [hT]
  have hLb : ∀ k, k < n → 0 ≤ L.getD k 0 ∧ L.getD k 0 ≤ 1000001 := fun k hk => by
    rw [hL, share_get (by omega)]
    have := shB_bnd hwts hamb.1 ((shB am wl).getD k 0) (by rw [List.getD_eq_getElem?_getD, List.getElem?_eq_getElem (by rw [shB_len]; omega)]; exact List.getElem_mem _)
    split <;> omega
  have hLg : ∀ k, k < n → L[k]? = some (L.getD k 0) := fun k hk => by rw [List.getD_eq_getElem?_getD, List.getElem?_eq_getElem (by omega)]; rfl
  have hwg : ∀ k, k < n → wl[k]? = some (wl.getD k 0) := fun k hk => by rw [List.getD_eq_getElem?_getD, List.getElem?_eq_getElem (by omega)]; rfl
  refine AGo_upE [3, 4, 5, 6, 8, 9] n (fun _ (_ : Unit) => True) (fun j _ i => [(10, I (sumI (L.take j))), (11, I i)]) (fun _ _ => [.own 0 [U w6], .gone]) () trivial ⟨congrArg I (by simp [sumI]), rfl, trivial⟩ (.inl rfl) fun j _ i hi hj _ Bk hB => ?_
  have hlt : A.lt i (A.vlen ys) = decide (j < n) := by rw [hvy, hll, hi, decide_eq_decide]; unfold iLen; omega
  have hadd : ∀ N, j < N → N ≤ 9223372036854775807 → A.add .i64 i 1 = iLen (j + 1) := fun N hj hN => by subst hA; exact add_one hi hj hN
  obtain ⟨sm, hsm⟩ : ∃ x, x = sumI (L.take j) := ⟨_, rfl⟩
  have hsmb : 0 ≤ sm ∧ sm ≤ 9000009 := by
    have h1 := sumI_bnd (lo := 0) (hi := 1000001) (l := L.take j) fun x hx => by
      obtain ⟨k, hk⟩ := List.mem_iff_getElem?.1 (List.mem_of_mem_take hx)
      have hkl := (List.getElem?_eq_some_iff.1 hk).1
      have h2 := hLb k (by omega)
      rw [List.getD_eq_getElem?_getD, hk] at h2; exact h2
    rw [List.length_take] at h1
    rw [hsm]; omega
  rw [← hsm]
  clear hT hTD T TD
  refine SGo_run hA ⟨[], [0], (59, eBills 59) :: [], edS⟩ (.cons (eBills_ok p59) .nil) edS_ok 200 fun T TD hT hTD => ?_
  cbv
  split <;> cbv
  · rename_i hk0
    have hk1 : j < n := by have hz := hlt.symm.trans hk0; simpa using hz
    clear hk0
    obtain ⟨lv, hlv⟩ : ∃ x, x = L.getD j 0 := ⟨_, rfl⟩
    obtain ⟨wv, hwv⟩ : ∃ x, x = wl.getD j 0 := ⟨_, rfl⟩
    have hlvb := hLb j hk1
    rw [← hlv] at hlvb
    have hwvb := hP4 wv (by rw [hwv]; exact List.mem_of_getElem? (hwg j hk1))
    have hiy : A.ix 1 1 ys i [I lv] := by subst hA; rw [hlv]; exact ix_map hys hi (hLg j hk1) rfl
    have hiw : A.ix 1 1 xw i [I wv] := by subst hA; rw [hwv]; exact ix_map hxw hi (hwg j hk1) rfl
    have hp0 : 0 ≤ am * wv := Int.mul_nonneg hamb.1 hwvb.1
    have hp1 : am * wv ≤ 999999 * 499 := Int.mul_le_mul hamb.2 hwvb.2 hwvb.1 (by omega)
    have hmul : A.mul .i64 am wv = am * wv := by subst hA; exact iMul_id (by omega) (by omega)
    obtain ⟨ex, hex⟩ : ∃ x, x = am * wv := ⟨_, rfl⟩
    rw [← hex] at hp0 hp1 hmul
    have hsum : A.add .i64 sm lv = sumI (L.take (j + 1)) := by
      have e : L.take (j + 1) = L.take j ++ [lv] := by
        rw [List.take_succ_eq_append_getElem (by omega)]
        congr 2
        have := hLg j hk1
        rw [← hlv] at this
        exact (List.getElem?_eq_some_iff.1 this).2
      rw [e, sumI_append, ← hsm]; subst hA; show iAdd .i64 sm lv = _; rw [iAdd_id (by omega) (by omega)]; simp [sumI]
    refine Exists.intro _ (And.intro hiy ?_); cbv
    refine Exists.intro _ (And.intro hiw ?_); cbv
    have hal0 : A.lt 0 al = decide (0 < al) := hll _ _
    have hcase : 0 < al ∨ ¬ 0 < al := Decidable.em _
    rcases hcase with h0 | h0
    case' inl =>
      have z3 : A.lt 0 al = true := by rw [hal0, decide_eq_true_eq]; exact h0
      have hnz : A.nz al := by subst hA; show al ≠ 0; omega
      obtain ⟨r1, r2⟩ := share_round (am := am) (i := j) hwts hamb.1 (by rw [← hal]; exact h0) (by omega)
      rw [← hL, ← hlv, ← hwv, ← hal, ← hex] at r1 r2
      have hq1e : A.quo .i64 (A.mul .i64 am wv) al = ex / al := by rw [hmul]; subst hA; exact iQuo_id hp0 (by omega) h0
      have hq2e : A.quo .i64 (A.sub .i64 (A.add .i64 (A.mul .i64 am wv) al) 1) al = (ex + al - 1) / al := by
        rw [hmul]; subst hA
        show iQuo .i64 (iSub .i64 (iAdd .i64 ex al) 1) al = _
        rw [iAdd_id (by omega) (by omega), iSub_id (by omega) (by omega)]
        exact iQuo_id (by omega) (by omega) h0
      have z4 : A.lt lv (A.quo .i64 (A.mul .i64 am wv) al) = false := by rw [hq1e, hll, decide_eq_false_iff_not]; omega
      have z5 : A.lt (A.quo .i64 (A.sub .i64 (A.add .i64 (A.mul .i64 am wv) al) 1) al) lv = false := by rw [hq2e, hll, decide_eq_false_iff_not]; omega
      split <;> first | (rename_i hz; exact Bool.noConfusion (hz.symm.trans z3)) | cbv
      refine Exists.intro _ (And.intro hiy ?_); cbv
      refine And.intro hnz ?_; cbv
      split <;> first | (rename_i hz; exact Bool.noConfusion (hz.symm.trans z4)) | cbv
      refine Exists.intro _ (And.intro hiy ?_); cbv
      refine And.intro hnz ?_; cbv
      split <;> first | (rename_i hz; exact Bool.noConfusion (hz.symm.trans z5)) | cbv
    case' inr =>
      have z3 : A.lt 0 al = false := by rw [hal0, decide_eq_false_iff_not]; exact h0
      split <;> first | (rename_i hz; exact Bool.noConfusion (hz.symm.trans z3)) | cbv
    all_goals
      rw [hT]
      refine AGo_upE [3, 4, 5, 6, 8, 9, 10, 11] j (fun _ (_ : Unit) => True) (fun k _ i => [(13, I i)]) (fun _ _ => [.own 0 [U w6], .gone]) () trivial ⟨rfl, trivial⟩ (.inl rfl) fun k _ i2 hi2 hk _ Bk2 hB2 => ?_
      have hlt2 : A.lt i2 i = decide (k < j) := by rw [hll, hi2, hi, decide_eq_decide]; unfold iLen; omega
      have hadd2 : ∀ N, k < N → N ≤ 9223372036854775807 → A.add .i64 i2 1 = iLen (k + 1) := fun N hj hN => by subst hA; exact add_one hi2 hj hN
      clear hT hTD T TD
      refine SGo_run hA ⟨[], [0], [], []⟩ .nil .nil 200 fun T TD hT hTD => ?_
      cbv
      split <;> cbv
      · rename_i hz6
        have hkj : k < j := of_decide_eq_true (hlt2.symm.trans hz6)
        obtain ⟨lk, hlk⟩ : ∃ x, x = L.getD k 0 := ⟨_, rfl⟩
        obtain ⟨wk, hwk⟩ : ∃ x, x = wl.getD k 0 := ⟨_, rfl⟩
        have hlkb := hLb k (by omega)
        rw [← hlk] at hlkb
        have hiy2 : A.ix 1 1 ys i2 [I lk] := by subst hA; rw [hlk]; exact ix_map hys hi2 (hLg k (by omega)) rfl
        have hiw2 : A.ix 1 1 xw i2 [I wk] := by subst hA; rw [hwk]; exact ix_map hxw hi2 (hwg k (by omega)) rfl
        refine Exists.intro _ (And.intro hiw2 ?_); cbv
        refine Exists.intro _ (And.intro hiw ?_); cbv
        have heq : A.eq wk wv = decide (wk = wv) := hee _ _
        split <;> cbv
        · rename_i hz7
          have hz7 := of_decide_eq_true (heq.symm.trans hz7)
          obtain ⟨r3, r4⟩ := share_equal (am := am) (ws := wl) (i := j) (k := k) (by omega) hkj (by rw [← hwk, ← hwv, hz7])
          rw [← hL, ← hlk, ← hlv] at r3 r4
          have z6 : A.lt lk lv = false := by rw [hll, decide_eq_false_iff_not]; omega
          have hlv1 : A.add .i64 lv 1 = lv + 1 := by subst hA; exact iAdd_id (by omega) (by omega)
          have z7 : A.lt (A.add .i64 lv 1) lk = false := by rw [hlv1, hll, decide_eq_false_iff_not]; omega
          refine Exists.intro _ (And.intro hiy2 ?_); cbv
          refine Exists.intro _ (And.intro hiy ?_); cbv
          split <;> first | (rename_i hz; exact Bool.noConfusion (hz.symm.trans z6)) | cbv
          refine Exists.intro _ (And.intro hiy2 ?_); cbv
          refine Exists.intro _ (And.intro hiy ?_); cbv
          split <;> first | (rename_i hz; exact Bool.noConfusion (hz.symm.trans z7)) | cbv
          exact hB2 () _ _ hkj trivial ⟨congrArg I (hadd2 _ hkj (by omega)), trivial⟩ ⟨rfl, rfl, rfl, rfl, rfl, rfl, rfl, rfl, trivial⟩ (.inl rfl)
        · exact hB2 () _ _ hkj trivial ⟨congrArg I (hadd2 _ hkj (by omega)), trivial⟩ ⟨rfl, rfl, rfl, rfl, rfl, rfl, rfl, rfl, trivial⟩ (.inl rfl)
      · exact hB () _ _ hk1 trivial ⟨congrArg I hsum, congrArg I (hadd _ hk1 (by omega)), trivial⟩ ⟨rfl, rfl, rfl, rfl, rfl, rfl, trivial⟩ (.inl rfl)
  rename_i hk0
  have hk1 : ¬ j < n := by have hz := hlt.symm.trans hk0; simpa using hz
  clear hk0
  have hjn : j = n := by omega
  have hsma : sm = am := by rw [hsm, hjn, List.take_of_length_le (by omega), hL]; exact share_sum hwts
  clear hB hadd hlt
  refine Exists.intro () (And.intro (by omega) ?_)
  rintro w7 _ ⟨a, b, c, d, xs, os', cs, os, rfl, hxs, hos', hf, _⟩
  have hV := checkF_ok hf
  have ho2 := hV.o2
  have hc2 := hV.c2
  dsimp only at ho2 hc2
  cbv
  refine Exists.intro cs (Exists.intro os (And.intro ⟨hxs, hos', hf⟩ ?_))
  rintro w8 _ ⟨u, v, zs, ws, rfl, hzs, hwin⟩
  cbv
  have hwl := hwin.len
  dsimp only at hwl
  refine Exists.intro cs (Exists.intro os (Exists.intro ws (And.intro ⟨hxs, hos', hzs, hV, hwl, hwin.bnd hV⟩ ?_)))
  rintro w9 _ ⟨rs, way, rfl, hrs, hWV⟩
  cbv
  refine Exists.intro () (And.intro (by omega) ?_)
  rintro w10 _ ⟨rate, rfl, hrt0, hrt1⟩
  cbv
  refine Exists.intro () (And.intro (by omega) ?_)
  rintro w11 _ ⟨road, rfl, hrd0, hrd1⟩
  cbv
  have hwn := hWV.n
  dsimp only at hwn
  refine Exists.intro cs (Exists.intro os (Exists.intro ws (Exists.intro way (And.intro ⟨hxs, hos', hzs, hrs, by omega, by omega, by omega, by omega⟩ ?_))))
  intro bs e2 hbs he2; cbv
  have hck := way_check (winS_of hf hwin) hWV
  have hE2 : billE ⟨(a, b), (c, d), cs, os⟩ ⟨u, v, ws⟩ way rate road = 0 := by
    unfold billE; rw [if_neg (by simp [hck]), if_neg (by omega)]
  have he2 : e2 = 0 := he2.trans hE2
  obtain ⟨hwt2, hw6⟩ := way_wts hV hWV
  obtain ⟨us, hus⟩ : ∃ us, us = way.map sumI := ⟨_, rfl⟩
  rw [← hus] at hwt2 hw6
  obtain ⟨N, hN⟩ : ∃ N, N = way.length := ⟨_, rfl⟩
  have husl : us.length = N := by rw [hus, List.length_map, hN]
  obtain ⟨BL, hBL⟩ : ∃ l, l = billV way rate road := ⟨_, rfl⟩
  have hbs : bs = BL.map I := by rw [hbs, hBL]; unfold billR; rw [if_pos hE2]
  have hBLe : BL = billT rate us (shareV road us) us.length := by rw [hBL, hus]; unfold billV; rw [List.length_map]
  have hBLl : BL.length = N := by rw [hBLe, billT_len, shareV_len, husl]
  have hBLs : sumI BL = road + rate * sumI us := by rw [hBLe, bill_sum (by rw [shareV_len]), share_sum hwt2]
  have husb : ∀ x ∈ us, 0 ≤ x ∧ x ≤ 1000000 := hwt2.2.2
  have hmulb : ∀ x m : Int, 0 ≤ x → x ≤ m → 0 ≤ rate * x ∧ rate * x ≤ 49 * m := fun x m h0 h1 => ⟨Int.mul_nonneg hrt0 h0, Int.mul_le_mul (by omega) h1 h0 (by omega)⟩
  have hutb : ∀ j, 0 ≤ sumI (us.take j) ∧ sumI (us.take j) ≤ 6000000 := fun j => by
    have h1 := sumI_bnd (lo := 0) (hi := 1000000) (l := us.take j) fun x hx => husb x (List.mem_of_mem_take hx)
    rw [List.length_take] at h1; omega
  have hvr : A.vlen rs = iLen N := by subst hA; simp [std, hrs, hN]
  rw [hT]
  refine AGo_upE [4, 10, 14, 16, 17, 19, 20] N (fun _ (_ : Unit) => True) (fun j _ i => [(21, I (road + rate * sumI (us.take j))), (22, I i)]) (fun _ _ => [.own 0 [U w11], .gone, .own 0 [I a, I b, I c, I d, .vs 2 xs, .vs 4 os'], .own 0 [I u, I v, .vs 1 zs]]) () trivial ⟨congrArg I (by simp [sumI]), rfl, trivial⟩ (.inl rfl) fun y _ i1 hi1 hy _ Bk hB => ?_
  have hlt : A.lt i1 (A.vlen rs) = decide (y < N) := by rw [hvr, hll, hi1, decide_eq_decide]; unfold iLen; omega
  have hadd : ∀ N, y < N → N ≤ 9223372036854775807 → A.add .i64 i1 1 = iLen (y + 1) := fun N hj hN => by subst hA; exact add_one hi1 hj hN
  obtain ⟨du, hdu⟩ : ∃ x, x = road + rate * sumI (us.take y) := ⟨_, rfl⟩
  rw [← hdu]
  clear hT hTD T TD
  refine SGo_run hA ⟨[], [], [], []⟩ .nil .nil 200 fun T TD hT hTD => ?_
  cbv
  split <;> cbv
  · rename_i hz
    have hyN : y < N := of_decide_eq_true (hlt.symm.trans hz)
    obtain ⟨r, hx⟩ : ∃ x, way[y]? = some x := ⟨_, List.getElem?_eq_getElem (by omega)⟩
    have hrm := List.mem_of_getElem? hx
    have hrb := hWV.b r hrm
    have hrl : r.length ≤ 200 := by have h9 := hWV.d r hrm; dsimp only at h9; omega
    obtain ⟨rv, hrv⟩ : ∃ x, x = r.map I := ⟨_, rfl⟩
    have hir : A.ix 1 1 rs i1 [.vs 1 rv] := by subst hA; rw [hrv]; exact ix_map (f := fun r : List Int => AV.vs 1 (r.map I)) hrs hi1 hx rfl
    obtain ⟨Dr, hDr⟩ : ∃ n, n = r.length := ⟨_, rfl⟩
    have hvv : A.vlen rv = iLen Dr := by subst hA; simp [std, hrv, hDr]
    have hrtb : ∀ t, 0 ≤ sumI (r.take t) ∧ sumI (r.take t) ≤ 200000000 := fun t => by
      have h1 := sumI_bnd (lo := 0) (hi := 1000000) (l := r.take t) fun x hx => hrb x (List.mem_of_mem_take hx)
      rw [List.length_take] at h1; omega
    rw [hT]
    refine AGo_upE [4, 10, 14, 16, 17, 19, 20, 22] Dr (fun _ (_ : Unit) => True) (fun t _ i => [(21, I (du + rate * sumI (r.take t))), (23, I i)]) (fun _ _ => [.own 0 [U w11], .gone, .own 0 [I a, I b, I c, I d, .vs 2 xs, .vs 4 os'], .own 0 [I u, I v, .vs 1 zs]]) () trivial ⟨congrArg I (by simp [sumI]), rfl, trivial⟩ (.inl rfl) fun t _ i2 hi2 ht _ Bk2 hB2 => ?_
    have hlt2 : A.lt i2 (A.vlen rv) = decide (t < Dr) := by rw [hvv, hll, hi2, decide_eq_decide]; unfold iLen; omega
    have hadd2 : ∀ N, t < N → N ≤ 9223372036854775807 → A.add .i64 i2 1 = iLen (t + 1) := fun N hj hN => by subst hA; exact add_one hi2 hj hN
    obtain ⟨dv, hdv⟩ : ∃ x, x = du + rate * sumI (r.take t) := ⟨_, rfl⟩
    rw [← hdv]
    clear hT hTD T TD
    refine SGo_run hA ⟨[], [], [], []⟩ .nil .nil 200 fun T TD hT hTD => ?_
    cbv
    refine Exists.intro _ (And.intro hir ?_); cbv
    split <;> cbv
    · rename_i hz2
      have htD : t < Dr := of_decide_eq_true (hlt2.symm.trans hz2)
      obtain ⟨xv, hxv⟩ : ∃ x, r[t]? = some x := ⟨_, List.getElem?_eq_getElem (by omega)⟩
      have hxb := hrb xv (List.mem_of_getElem? hxv)
      have hixv : A.ix 1 1 rv i2 [I xv] := by subst hA; exact ix_map hrv hi2 hxv rfl
      have h1 := hmulb _ _ (hutb y).1 (hutb y).2
      have h2 := hmulb _ _ (hrtb t).1 (hrtb t).2
      have h3 := hmulb _ _ hxb.1 hxb.2
      have hmul : A.mul .i64 rate xv = rate * xv := by subst hA; exact iMul_id (by omega) (by omega)
      have hnew : A.add .i64 dv (A.mul .i64 rate xv) = du + rate * sumI (r.take (t + 1)) := by
        have e : r.take (t + 1) = r.take t ++ [xv] := by
          rw [List.take_succ_eq_append_getElem (by omega)]
          congr 2
          exact (List.getElem?_eq_some_iff.1 hxv).2
        rw [hmul, e, sumI_append]
        simp only [sumI]
        rw [Int.add_zero, Int.mul_add]
        subst hA; show iAdd .i64 dv _ = _
        rw [iAdd_id (by omega) (by omega)]; omega
      refine Exists.intro _ (And.intro hir ?_); cbv
      refine Exists.intro _ (And.intro hixv ?_); cbv
      exact hB2 () _ _ htD trivial ⟨congrArg I hnew, congrArg I (hadd2 _ htD (by omega)), trivial⟩ ⟨rfl, rfl, rfl, rfl, rfl, rfl, rfl, rfl, trivial⟩ (.inl rfl)
    · rename_i hz2
      have htD : ¬ t < Dr := of_decide_eq_false (hlt2.symm.trans hz2)
      have hend : dv = road + rate * sumI (us.take (y + 1)) := by
        have e : us.take (y + 1) = us.take y ++ [sumI r] := by
          rw [List.take_succ_eq_append_getElem (by omega)]
          congr 2
          have : us[y]? = some (sumI r) := by rw [hus, List.getElem?_map, hx]; rfl
          exact (List.getElem?_eq_some_iff.1 this).2
        have e9 : r.take t = r := List.take_of_length_le (by omega)
        rw [hdv, hdu, e, sumI_append, e9]
        simp only [sumI]
        rw [Int.add_zero, Int.mul_add]; omega
      exact hB () _ _ hyN trivial ⟨congrArg I hend, congrArg I (hadd _ hyN (by omega)), trivial⟩ ⟨rfl, rfl, rfl, rfl, rfl, rfl, rfl, trivial⟩ (.inl rfl)
  rename_i hz
  have hyN : ¬ y < N := of_decide_eq_false (hlt.symm.trans hz)
  have hduS : du = sumI BL := by rw [hdu, List.take_of_length_le (by omega), hBLs]
  have hBLb : ∀ x ∈ BL, 0 ≤ x ∧ x ≤ 100000000 := fun x hx => by
    have hshb := shB_bnd (am := road) hwt2 hrd0
    rw [hBLe] at hx
    unfold billT at hx
    obtain ⟨k, hk, rfl⟩ := List.mem_map.1 hx
    have hkl := List.mem_range.1 hk
    rw [shareV_len] at hkl
    rw [share_get hkl, if_pos hkl]
    have h1 := hshb ((shB road us).getD k 0) (by rw [List.getD_eq_getElem?_getD, List.getElem?_eq_getElem (by rw [shB_len]; omega)]; exact List.getElem_mem _)
    have h2 := husb (us.getD k 0) (by rw [List.getD_eq_getElem?_getD, List.getElem?_eq_getElem hkl]; exact List.getElem_mem _)
    have h3 := hmulb _ _ h2.1 h2.2
    split <;> omega
  have hBtb : ∀ j, 0 ≤ sumI (BL.take j) ∧ sumI (BL.take j) ≤ 600000000 := fun j => by
    have h1 := sumI_bnd (lo := 0) (hi := 100000000) (l := BL.take j) fun x hx => hBLb x (List.mem_of_mem_take hx)
    rw [List.length_take] at h1; omega
  have hdub : 0 ≤ du ∧ du ≤ 600000000 := by have := hBtb N; rw [List.take_of_length_le (by omega)] at this; omega
  have hvb : A.vlen bs = iLen N := by subst hA; simp [std, hbs, hBLl]
  clear hB hadd hlt
  rw [hT]
  refine AGo_upE [4, 10, 14, 19, 20] N (fun _ (_ : Unit) => True) (fun j _ i => [(21, I (du - sumI (BL.take j))), (24, I i)]) (fun _ _ => [.own 0 [U w11], .gone, .own 0 [I a, I b, I c, I d, .vs 2 xs, .vs 4 os'], .own 0 [I u, I v, .vs 1 zs]]) () trivial ⟨congrArg I (by simp [sumI]), rfl, trivial⟩ (.inl rfl) fun t _ i2 hi2 ht _ Bk hB => ?_
  have hlt : A.lt i2 (A.vlen bs) = decide (t < N) := by rw [hvb, hll, hi2, decide_eq_decide]; unfold iLen; omega
  have hadd : ∀ N, t < N → N ≤ 9223372036854775807 → A.add .i64 i2 1 = iLen (t + 1) := fun N hj hN => by subst hA; exact add_one hi2 hj hN
  obtain ⟨dv, hdv⟩ : ∃ x, x = du - sumI (BL.take t) := ⟨_, rfl⟩
  rw [← hdv]
  clear hT hTD T TD
  refine SGo_run hA ⟨[], [], (17, eAwake) :: [], []⟩ (.cons eAwake_ok .nil) .nil 200 fun T TD hT hTD => ?_
  cbv
  split <;> cbv
  · rename_i hz2
    have htN : t < N := of_decide_eq_true (hlt.symm.trans hz2)
    obtain ⟨xv, hxv⟩ : ∃ x, BL[t]? = some x := ⟨_, List.getElem?_eq_getElem (by omega)⟩
    have hxb := hBLb xv (List.mem_of_getElem? hxv)
    have hixv : A.ix 1 1 bs i2 [I xv] := by subst hA; exact ix_map hbs hi2 hxv rfl
    have hbt := hBtb t
    have hnew : A.sub .i64 dv xv = du - sumI (BL.take (t + 1)) := by
      have e : BL.take (t + 1) = BL.take t ++ [xv] := by
        rw [List.take_succ_eq_append_getElem (by omega)]
        congr 2
        exact (List.getElem?_eq_some_iff.1 hxv).2
      rw [e, sumI_append]
      simp only [sumI]
      subst hA; show iSub .i64 dv _ = _
      rw [iSub_id (by omega) (by omega)]; omega
    refine Exists.intro _ (And.intro hixv ?_); cbv
    exact hB () _ _ htN trivial ⟨congrArg I hnew, congrArg I (hadd _ htN (by omega)), trivial⟩ ⟨rfl, rfl, rfl, rfl, rfl, trivial⟩ (.inl rfl)
  · rename_i hz2
    have htN : ¬ t < N := of_decide_eq_false (hlt.symm.trans hz2)
    have hdv0 : dv = 0 := by rw [hdv, List.take_of_length_le (by omega), hduS]; omega
    have hvo : A.vlen os' = iLen N := by subst hA; simp [std, hos', hN, hwn]
    have z1 : A.eq e2 0 = true := by rw [hee, he2]; rfl
    have z2 : A.eq (A.vlen bs) (A.vlen os') = true := by rw [hvb, hvo, hee]; simp
    have z3 : A.eq sm am = true := by rw [hee, hsma]; simp
    have z4 : A.eq dv 0 = true := by rw [hee, hdv0]; rfl
    split <;> first | (rename_i hz; exact Bool.noConfusion (hz.symm.trans z1)) | cbv
    split <;> first | (rename_i hz; exact Bool.noConfusion (hz.symm.trans z2)) | cbv
    split <;> first | (rename_i hz; exact Bool.noConfusion (hz.symm.trans z3)) | cbv
    split <;> first | (rename_i hz; exact Bool.noConfusion (hz.symm.trans z4)) | cbv
    exact h _
end Go.Sas
