/-
ProbeLasts: the law's core.
Conditions: none.
-/
import Derived.Test.YtajegdbljldakaaQR76
import Derived.Test.YtajegdbljldakaaQRM19
import Derived.Test.YtajegdbljldakaaQR59
import Derived.Test.YtajegdbljldakaaPV
import Derived.Test.YtajegdbljldakaaPU
import Derived.Test.YtajegdbljldakaaPK
import Derived.Test.YtajegdbljldakaaQRL10
import Derived.Test.YtajegdbljldakaaP8
set_option linter.unusedVariables false
set_option linter.unusedSimpArgs false
namespace Go.Sas
open Go.Proofs
set_option maxRecDepth 100000
set_option maxHeartbeats 8000000 in
theorem core10 (nums : List Int) (hn1 : nums.length ≤ 9223372036854775807) : ACalls Try.prog 10 [.vs 1 (nums.map I)] [] fun r _ => r = .lit (.bool true) := by
  obtain ⟨Kk, hKk⟩ : ∃ K : AV → AHeap → Prop, K = fun r _ => r = .lit (.bool true) := ⟨_, rfl⟩
  rw [← hKk]
  have h : ∀ H, Kk (B true) H := fun H => by rw [hKk]
  clear hKk
  obtain ⟨xn, hxn⟩ : ∃ ys, ys = nums.map I := ⟨_, rfl⟩
  rw [← hxn]
  obtain ⟨A, hA⟩ : ∃ A, A = std := ⟨_, rfl⟩
  have hne : ∀ x y, A.ne x y = decide (x ≠ y) := by subst hA; intro x y; simp only [std, iNe]; rw [Bool.eq_iff_iff]; simp
  have hee : ∀ x y, A.eq x y = decide (x = y) := by subst hA; intro x y; exact iEq_dec _ _
  have hll : ∀ x y, A.lt x y = decide (x < y) := by subst hA; intro x y; rfl
  have hle : ∀ x y, A.le x y = decide (x ≤ y) := by subst hA; intro x y; rfl
  have hnb : ∀ b, A.bnot b = !b := by subst hA; intro b; rfl
  have hbd : ∀ x y, A.band x y = (x && y) := by subst hA; intro x y; rfl
  have hsg : ∀ g, A.sg g g := by subst hA; exact fun _ => rfl
  refine go10 rfl (SGo_run hA ⟨[], [0], [], edM⟩ .nil edM_ok 200 fun T TD hT hTD => ?_)
  cbv
  refine Exists.intro nums (And.intro ⟨hxn, hn1⟩ ?_)
  intro w1
  cbv
  refine Exists.intro () (And.intro (by omega) ?_)
  rintro w2 _ ⟨rs, a, b, c, TC, l, xs, cr, ls, rfl, hxs, hcr, hls, hD⟩
  cbv
  obtain ⟨ho, hs, hlo⟩ := hD.lks (by omega) (by omega)
  have hPl := ho.plc
  have hRl := ho.ilen
  obtain ⟨R, hR⟩ : ∃ R, R = plc rs := ⟨_, rfl⟩
  rw [← hR] at hcr hlo hPl hRl
  have hcrs : CrsOk R TC 6 := hR ▸ hD.crs
  have hfit : ∀ x ∈ l, LkFit R TC 3 6 x := hR ▸ hD.fit
  obtain ⟨N, hN⟩ : ∃ N, N = R.length := ⟨_, rfl⟩
  rw [← hN] at hcr hRl
  have hN1 : 1 ≤ N := by rw [hN]; exact hPl.pos
  have hN2 : N ≤ 1000 := by rw [hN]; exact hPl.le
  have hlb : l.length ≤ 200 := hlo.le
  have hrl : rs.length ≤ 20 := ho.n2
  have hcv : A.vlen cr = 6 := by subst hA; rw [hcr]; rfl
  have hrow : ∀ i q, q = iLen i → i < 6 → A.ix 1 1 cr q [.vs 1 (crsRow TC N i)] := fun i q hq hi => by subst hA; exact ix_map (f := fun i => AV.vs 1 (crsRow TC N i)) hcr hq (by simp [hi]) rfl
  have hrv : ∀ i, A.vlen (crsRow TC N i) = iLen N := fun i => by subst hA; simp [std, crsRow]
  have hcell : ∀ i p q, q = iLen p → p < N → A.ix 1 1 (crsRow TC N i) q [I (TC i p)] := fun i p q hq hp => by subst hA; exact ix_map (f := I) rfl hq (by simp [hp]) rfl
  have hsur : surE rs a b c l = 0 := surE_ok.2 ⟨ho, hs, hR ▸ hlo⟩
  have hkn : ∀ (p : Nat) (t : Int), p < N → (0 ≤ t ∧ t ≤ 10000) → knownR rs a b c l (iLen p) t = (knowS R l p t, 0) := fun p t hp ht => by
    have : knownE rs a b c l (iLen p) t = 0 := by
      unfold knownE orElse; rw [hsur, if_pos rfl, if_neg (by rw [← hRl]; unfold iLen; omega), if_neg (by omega)]
    unfold knownR; rw [if_pos this, ← hR]; rfl
  obtain ⟨row, hrowe⟩ : ∃ x, x = crsRow TC N 0 := ⟨_, rfl⟩
  have hri := hrow 0 0 rfl (by decide)
  have hrvi := hrv 0
  have hcelli := hcell 0
  rw [← hrowe] at hri hrvi
  refine Exists.intro _ (And.intro hri ?_); cbv
  refine Exists.intro () (And.intro (by omega) ?_)
  rintro w3 _ ⟨q1, rfl, hq1, hq1'⟩
  cbv
  refine And.intro (by subst hA; first | (simp [std, Keep, SubH, ResK]; done) | exact .inr ⟨⟨rfl, SubH.self _⟩, trivial, .inr fun _ => ⟨rfl, SubH.self _⟩⟩ | exact .inr ⟨SubH.self _, trivial, .inr fun _ => SubH.self _⟩ | exact .inr ⟨by simp [SubH], trivial, .inl rfl⟩ | exact .inr ⟨by simp [SubH], trivial, .inr fun _ => by simp [SubH]⟩) ?_
  cbv
  refine Exists.intro () (And.intro (by show A.vlen row ≤ _; rw [hrvi]; unfold iLen; omega) ?_)
  rintro w5 _ ⟨q2, rfl, hq2, hq2'⟩
  have hq2' : q2 < A.vlen row ∨ q2 = 0 := hq2'
  rw [hrvi] at hq2'
  cbv
  refine And.intro (by subst hA; first | (simp [std, Keep, SubH, ResK]; done) | exact .inr ⟨⟨rfl, SubH.self _⟩, trivial, .inr fun _ => ⟨rfl, SubH.self _⟩⟩ | exact .inr ⟨SubH.self _, trivial, .inr fun _ => SubH.self _⟩ | exact .inr ⟨by simp [SubH], trivial, .inl rfl⟩ | exact .inr ⟨by simp [SubH], trivial, .inr fun _ => by simp [SubH]⟩) ?_
  cbv
  obtain ⟨p0, hp0⟩ : ∃ p : Nat, q2 = iLen p := ⟨q2.toNat, by unfold iLen; omega⟩
  have hp0N : p0 < N := by unfold iLen at hp0 hq2'; omega
  have hci0 : A.ix 1 1 row q2 [I (TC 0 p0)] := by rw [hrowe]; exact hcelli p0 q2 hp0 hp0N
  have hTb := hcrs.rng 0 p0 (by decide) (by omega)
  obtain ⟨t0, ht0⟩ : ∃ t, t = TC 0 p0 := ⟨_, rfl⟩
  rw [← ht0] at hci0 hTb
  refine Exists.intro _ (And.intro hri ?_); cbv
  refine Exists.intro _ (And.intro hci0 ?_); cbv
  refine Exists.intro () (And.intro (by omega) ?_)
  rintro w6 _ ⟨q3, rfl, hq3, hq3'⟩
  cbv
  refine And.intro (by subst hA; first | (simp [std, Keep, SubH, ResK]; done) | exact .inr ⟨⟨rfl, SubH.self _⟩, trivial, .inr fun _ => ⟨rfl, SubH.self _⟩⟩ | exact .inr ⟨SubH.self _, trivial, .inr fun _ => SubH.self _⟩ | exact .inr ⟨by simp [SubH], trivial, .inl rfl⟩ | exact .inr ⟨by simp [SubH], trivial, .inr fun _ => by simp [SubH]⟩) ?_
  cbv
  obtain ⟨nd, hnd⟩ : ∃ x, x = max 0 (t0 - q3) := ⟨_, rfl⟩
  obtain ⟨th, hthe⟩ : ∃ x, x = 3 + q1 := ⟨_, rfl⟩
  have hmx : A.max 0 (A.sub .i64 t0 q3) = nd := by rw [hnd]; subst hA; simp only [std, iMax_eq]; rw [iSub_id (by omega) (by omega)]
  have hth : A.add .i64 3 q1 = th := by rw [hthe]; subst hA; exact iAdd_id (by omega) (by omega)
  have hndb : 0 ≤ nd ∧ nd ≤ 3000 := by rw [hnd]; omega
  have hthb : 3 ≤ th ∧ th ≤ 10 := by rw [hthe]; omega
  rw [hT]
  refine AGo_forget [(3, .mp 0 0 0), (4, .mp 1 0 0), (6, .vs 5 ls), (7, I th), (8, I q2), (9, I nd), (10, .lit (.slice none 0 0)), (11, I 0)] _ ⟨rfl, rfl, rfl, congrArg I hth, rfl, congrArg I hmx, rfl, rfl, trivial⟩ (.inl rfl) ?_ (by simp)
  refine AGo_nilms 10 5 rfl ?_
  refine AGo_upE [3, 4, 6, 7, 8, 9] l.length (fun j (L : List Lk) => L = pastL (l.take j) th) (fun j L i => [(10, .ms 5 2 L.length 0 L.length), (11, I i)]) (fun j L => [.own 0 [U w6], .own 0 [.vs 5 xs, I a, I b, I c], .own L.length (L.flatMap lkC)]) [] rfl ⟨rfl, rfl, trivial⟩ (.inl rfl) fun j L i hi hj hP Bk hB => ?_
  have hlt : A.lt i (A.vlen ls) = decide (j < l.length) := by subst hA; exact lt_len (by simp [hls]) hi
  have hadd : ∀ N, j < N → N ≤ 9223372036854775807 → A.add .i64 i 1 = iLen (j + 1) := fun N hj hN => by subst hA; exact add_one hi hj hN
  have hLj : L.length ≤ j := by
    rw [hP]; unfold pastL
    exact Nat.le_trans (List.length_filter_le _ _) (by rw [List.length_take]; omega)
  obtain ⟨n, hn⟩ : ∃ n, n = L.length := ⟨_, rfl⟩
  obtain ⟨cs, hcs⟩ : ∃ c, c = L.flatMap lkC := ⟨_, rfl⟩
  have hcl : cs.length = n * 5 := by rw [hcs, hn, len_flat (k := 5) (fun _ => rfl)]
  rw [← hn, ← hcs]
  rw [← hn] at hLj
  refine SGo_run hA ⟨[2], [0], [], edM⟩ .nil edM_ok 200 fun T TD hT hTD => ?_
  cbv
  split <;> cbv
  · rename_i hk0
    have hk1 : j < l.length := by have hz := hlt.symm.trans hk0; simpa using hz
    clear hk0
    obtain ⟨⟨k', q', g', u', v'⟩, hx⟩ : ∃ x, l[j]? = some x := ⟨_, List.getElem?_eq_getElem hk1⟩
    have hix : A.ix 5 5 ls i (lkC ⟨k', q', g', u', v'⟩) := by subst hA; exact ix_map hls hi hx rfl
    have hlh : A.le g' th = decide (g' ≤ th) := hle _ _
    have htk : pastL (l.take (j + 1)) th = if g' ≤ th then L ++ [⟨k', q', g', u', v'⟩] else L := by
      obtain ⟨h8, he⟩ := List.getElem?_eq_some_iff.1 hx
      rw [hP, List.take_succ_eq_append_getElem h8, he]
      unfold pastL
      rw [List.filter_append]
      split
      · rename_i h9; congr 1; simp only [List.filter_cons, List.filter_nil]; rw [if_pos (by simpa using h9)]
      · rename_i h9; simp only [List.filter_cons, List.filter_nil]; rw [if_neg (by simpa using h9), List.append_nil]
    refine Exists.intro _ (And.intro hix ?_); cbv
    split <;> cbv
    · rename_i hz
      have hz := of_decide_eq_true (hlh.symm.trans hz)
      rw [if_pos hz] at htk
      obtain ⟨cs2, hcs2⟩ : ∃ x, x = cs ++ lkC ⟨k', q', g', u', v'⟩ := ⟨_, rfl⟩
      have happ : A.app 5 5 40 cs 0 n [.agg (lkC ⟨k', q', g', u', v'⟩)] cs2 (n + 1) := by subst hA; rw [hcs2]; exact app_one hcl rfl (by omega)
      refine Exists.intro _ (And.intro hix ?_); cbv
      refine And.intro (hsg _) (Exists.intro cs2 (Exists.intro (n + 1) (And.intro happ (And.intro rfl ?_))))
      cbv
      have hLn : ∀ x, (L ++ [x]).length = n + 1 := fun x => by rw [List.length_append, ← hn]; rfl
      refine hB _ _ _ hk1 htk.symm ?_ ⟨rfl, rfl, rfl, rfl, rfl, rfl, trivial⟩ (.inl ?_)
      · rw [hLn]; exact And.intro rfl (And.intro (congrArg I (hadd _ hk1 (by omega))) trivial)
      · rw [hLn, List.flatMap_append, ← hcs, hcs2]; rfl
    · rename_i hz
      have hz := of_decide_eq_false (hlh.symm.trans hz)
      rw [if_neg hz] at htk
      refine hB _ _ _ hk1 htk.symm ?_ ⟨rfl, rfl, rfl, rfl, rfl, rfl, trivial⟩ (.inl ?_)
      · rw [← hn]; exact ⟨rfl, congrArg I (hadd _ hk1 (by omega)), trivial⟩
      · rw [← hn, ← hcs]
  rename_i hk0
  have hk1 : ¬ j < l.length := by have hz := hlt.symm.trans hk0; simpa using hz
  clear hk0
  rw [List.take_of_length_le (by omega)] at hP
  clear hB hadd hlt
  refine Exists.intro (rs, 2, 12) (And.intro ⟨hxs, rfl, rfl, ho, by omega, by omega⟩ ?_)
  rintro w7 _ ⟨m, ms, rfl, hms, hml, hmk⟩
  cbv
  have hmo : ∀ x ∈ m, MkOk (sumLg rs) x := fun x hx => (hmk x hx).1
  have hml2 : m.length ≤ 2 := by
    have h9 : iLen m.length ≤ 2 := hml
    unfold iLen at h9; omega
  have hsumb := sumLg_bnd' ho
  rw [hT]
  obtain ⟨la, hla⟩ : ∃ x, x = L.map lkV := ⟨_, rfl⟩
  refine AGo_frzS 10 (id := 2) (g := n) (sz := 5) (n := n) (xs := la) (cs := cs) rfl rfl (by rw [hla, List.length_map, hn]) (by rw [hla, hcs]; exact Elems_map (f := lkV) (g := lkC) (sz := 5) (fun _ => rfl) (fun _ => rfl) (fun _ => rfl) L) ?_
  refine AGo_nilms 12 5 rfl ?_
  refine AGo_forget [(4, .mp 1 0 0), (6, .vs 5 ls), (7, I th), (8, I q2), (9, I nd), (10, .vs 5 la), (12, .ms 5 3 0 0 0), (13, .vs 5 ms), (14, I 0)] [.own 0 [U w7], .own 0 [.vs 5 xs, I a, I b, I c], .gone, .own 0 []] ⟨rfl, rfl, rfl, rfl, rfl, rfl, rfl, rfl, rfl, trivial⟩ (.inl rfl) ?_ (by simp)
  obtain ⟨LA, hLA⟩ : ∃ x, x = L := ⟨_, rfl⟩
  rw [← hLA] at hla hP hn
  clear hcs hcl hLj hT hTD hLA
  refine AGo_upE [4, 6, 7, 8, 9, 10, 13] m.length (fun j (L : List Mrk) => L = pastM (m.take j) th) (fun j L i => [(12, .ms 5 3 L.length 0 L.length), (14, I i)]) (fun j L => [.own 0 [U w7], .own 0 [.vs 5 xs, I a, I b, I c], .gone, .own L.length (L.flatMap mkC)]) [] rfl ⟨rfl, rfl, trivial⟩ (.inl rfl) fun j L i hi hj hP2 Bk hB => ?_
  have hlt : A.lt i (A.vlen ms) = decide (j < m.length) := by subst hA; exact lt_len (by simp [hms]) hi
  have hadd : ∀ N, j < N → N ≤ 9223372036854775807 → A.add .i64 i 1 = iLen (j + 1) := fun N hj hN => by subst hA; exact add_one hi hj hN
  have hLj : L.length ≤ j := by
    rw [hP2]; unfold pastM
    exact Nat.le_trans (List.length_filter_le _ _) (by rw [List.length_take]; omega)
  obtain ⟨n, hn⟩ : ∃ n, n = L.length := ⟨_, rfl⟩
  obtain ⟨cs, hcs⟩ : ∃ c, c = L.flatMap mkC := ⟨_, rfl⟩
  have hcl : cs.length = n * 5 := by rw [hcs, hn, len_flat (k := 5) (fun _ => rfl)]
  rw [← hn, ← hcs]
  rw [← hn] at hLj
  obtain ⟨LP, hLP⟩ : ∃ x, x = LA := ⟨_, rfl⟩
  have hPL := hP
  have hP := hP2
  refine SGo_run hA ⟨[3], [], (54, eLasts 54) :: [], []⟩ (.cons (eLasts_ok p54) .nil) .nil 200 fun T TD hT hTD => ?_
  cbv
  split <;> cbv
  · rename_i hk0
    have hk1 : j < m.length := by have hz := hlt.symm.trans hk0; simpa using hz
    clear hk0
    obtain ⟨⟨k', q', g', u', v'⟩, hx⟩ : ∃ x, m[j]? = some x := ⟨_, List.getElem?_eq_getElem hk1⟩
    have hix : A.ix 5 5 ms i (mkC ⟨k', q', g', u', v'⟩) := by subst hA; exact ix_map hms hi hx rfl
    have hlh : A.le u' th = decide (u' ≤ th) := hle _ _
    have htk : pastM (m.take (j + 1)) th = if u' ≤ th then L ++ [⟨k', q', g', u', v'⟩] else L := by
      obtain ⟨h8, he⟩ := List.getElem?_eq_some_iff.1 hx
      rw [hP, List.take_succ_eq_append_getElem h8, he]
      unfold pastM
      rw [List.filter_append]
      split
      · rename_i h9; congr 1; simp only [List.filter_cons, List.filter_nil]; rw [if_pos (by simpa using h9)]
      · rename_i h9; simp only [List.filter_cons, List.filter_nil]; rw [if_neg (by simpa using h9), List.append_nil]
    refine Exists.intro _ (And.intro hix ?_); cbv
    split <;> cbv
    · rename_i hz
      have hz := of_decide_eq_true (hlh.symm.trans hz)
      rw [if_pos hz] at htk
      obtain ⟨cs2, hcs2⟩ : ∃ x, x = cs ++ mkC ⟨k', q', g', u', v'⟩ := ⟨_, rfl⟩
      have happ : A.app 5 5 40 cs 0 n [.agg (mkC ⟨k', q', g', u', v'⟩)] cs2 (n + 1) := by subst hA; rw [hcs2]; exact app_one hcl rfl (by omega)
      refine Exists.intro _ (And.intro hix ?_); cbv
      refine And.intro (hsg _) (Exists.intro cs2 (Exists.intro (n + 1) (And.intro happ (And.intro rfl ?_))))
      cbv
      have hLn : ∀ x, (L ++ [x]).length = n + 1 := fun x => by rw [List.length_append, ← hn]; rfl
      refine hB _ _ _ hk1 htk.symm ?_ ⟨rfl, rfl, rfl, rfl, rfl, rfl, rfl, trivial⟩ (.inl ?_)
      · rw [hLn]; exact And.intro rfl (And.intro (congrArg I (hadd _ hk1 (by omega))) trivial)
      · rw [hLn, List.flatMap_append, ← hcs, hcs2]; rfl
    · rename_i hz
      have hz := of_decide_eq_false (hlh.symm.trans hz)
      rw [if_neg hz] at htk
      refine hB _ _ _ hk1 htk.symm ?_ ⟨rfl, rfl, rfl, rfl, rfl, rfl, rfl, trivial⟩ (.inl ?_)
      · rw [← hn]; exact ⟨rfl, congrArg I (hadd _ hk1 (by omega)), trivial⟩
      · rw [← hn, ← hcs]
  rename_i hk0
  have hk1 : ¬ j < m.length := by have hz := hlt.symm.trans hk0; simpa using hz
  clear hk0
  clear hP
  rw [List.take_of_length_le (by omega)] at hP2
  clear hB hadd hlt
  refine Exists.intro rs (Exists.intro l (Exists.intro m (And.intro ⟨hxs, hls, hms, by omega, by omega, by omega, .inl (by omega)⟩ ?_)))
  intro v e hLQ; cbv
  obtain ⟨_, _, hq5⟩ := hLQ
  have hask : askE rs a b c l m nd th = 0 := askE_ok.2 ⟨ho, hs, hR ▸ hlo, by omega, hmo, hndb, by omega, by omega⟩
  obtain ⟨he, r, hr, hv⟩ := hq5 hask ⟨by rw [hp0]; unfold iLen; omega, by rw [hp0, ← hR, ← hN]; unfold iLen; omega⟩
  subst he
  have hn0 : A.ne 0 0 = false := by rw [hne]; rfl
  have hp0t : q2.toNat = p0 := by rw [hp0]; rfl
  rw [hp0t, ← hR] at hr
  have hr15 : r ≤ 15 := fst_le hr (by rw [hR]; exact plc_ev (fun x hx => by have h9 : RchD x := hD.sv.all x hx; unfold RchD at h9; omega) (by rw [← hR, ← hN]; exact hp0N))
  obtain ⟨Q, hQ⟩ : ∃ Q, Q = shutQ R a b c l m nd th p0 := ⟨_, rfl⟩
  rw [← hQ] at hr
  obtain ⟨hr1, hr2, hr3⟩ := hr
  have hr3 := hr3 (by omega)
  obtain ⟨MA, hMA⟩ : ∃ x, x = pastM m th := ⟨_, rfl⟩
  obtain ⟨ma, hma⟩ : ∃ x, x = MA.map mkV := ⟨_, rfl⟩
  rw [← hMA] at hP2
  have hE2 : Elems 5 ma cs := by rw [hma, hcs, hP2]; exact Elems_map (f := mkV) (g := mkC) (sz := 5) (fun _ => rfl) (fun _ => rfl) (fun _ => rfl) MA
  have hQi : ∀ i, Q i = decide (whyS R a b c (pastL LA (th + iLen i)) (pastM MA (th + iLen i)) nd (th + iLen i) p0 ≠ 0) := fun i => by
    rw [hQ, hPL, hMA, pastL_self (by unfold iLen; omega), pastM_self (by unfold iLen; omega)]; rfl
  have hmoA : ∀ x ∈ MA, MkOk (sumLg rs) x := fun x hx => hmo x (pastM_mem (by rw [← hMA]; exact hx))
  have hMAl : MA.length ≤ 2 := by have := pastM_len (l := m) (h := th); rw [hMA]; omega
  have hLAl : LA.length ≤ 5 := by
    have h9 := pastL_len (l := l) (h := th)
    have h8 := hD.len
    rw [hPL]; omega
  have hloA : LksOk R LA := LksOk.fits hcrs (by omega) (by decide) (by omega) (fun x hx => hfit x (pastL_mem (by rw [← hPL]; exact hx)))
  split <;> first | (rename_i hz; exact Bool.noConfusion (hz.symm.trans hn0)) | cbv
  have hrest : v = th + iLen r - 1 ∨ (v = -1 ∧ r = 0) := by
    by_cases h0 : r = 0
    · rw [if_pos h0] at hv; exact .inr ⟨hv, h0⟩
    · rw [if_neg h0] at hv; exact .inl hv
  rcases hrest with hv2 | ⟨hv2, h0⟩
  · have hr0 : r ≠ 0 := fun h0 => by rw [if_pos h0] at hv; rw [h0] at hv2; unfold iLen at hv2; omega
    have hvb : th ≤ v ∧ v ≤ th + 14 := by rw [hv2]; unfold iLen; omega
    have z1 : A.ne v (-1) = true := by rw [hne, decide_eq_true_eq]; omega
    have z2 : A.eq v (-1) = false := by rw [hee, decide_eq_false_iff_not]; omega
    have z3 : A.lt v th = false := by rw [hll, decide_eq_false_iff_not]; omega
    have z4 : A.lt (A.add .i64 th 20) v = false := by subst hA; show decide (iAdd .i64 th 20 < v) = _; rw [iAdd_id (by omega) (by omega), decide_eq_false_iff_not]; omega
    split <;> first | (rename_i hz; exact Bool.noConfusion (hz.symm.trans z1)) | cbv
    split <;> first | (rename_i hz; exact Bool.noConfusion (hz.symm.trans z3)) | cbv
    split <;> first | (rename_i hz; exact Bool.noConfusion (hz.symm.trans z4)) | cbv
    split <;> first | (rename_i hz; exact Bool.noConfusion (hz.symm.trans z2)) | cbv
    rw [hT]
    refine AGo_frzS 12 (id := 3) (g := n) (sz := 5) (n := n) (xs := ma) (cs := cs) rfl rfl (by rw [hma, List.length_map, hn, hP2]) hE2 ?_
    refine AGo_forget [(4, .mp 1 0 0), (8, I q2), (9, I nd), (10, .vs 5 la), (12, .vs 5 ma), (15, I (th + iLen r - 1)), (17, I th)] _ ⟨rfl, rfl, rfl, rfl, rfl, congrArg I hv2, rfl, trivial⟩ (.inl rfl) ?_ (by simp)
    refine AGo_whileE (σ := Nat) [4, 8, 9, 10, 12, 15] (fun i => r + 1 - i) (fun i => i ≤ r + 1) (fun i => [(17, I (th + iLen i))]) (fun _ => [.own 0 [U w7], .own 0 [.vs 5 xs, I a, I b, I c], .gone, .gone]) 0 (Nat.zero_le _) ⟨congrArg I (by unfold iLen; omega), trivial⟩ (.inl rfl) fun i hi Bk hB => ?_
    obtain ⟨hh, hhe⟩ : ∃ x, x = th + iLen i := ⟨_, rfl⟩
    obtain ⟨lst, hlst⟩ : ∃ x, x = th + iLen r - 1 := ⟨_, rfl⟩
    rw [← hhe, ← hlst]
    have hlb1 : A.add .i64 lst 1 = th + iLen r := by subst hA; rw [hlst]; show iAdd .i64 _ 1 = _; rw [iAdd_id (by unfold iLen; omega) (by unfold iLen; omega)]; omega
    have hle1 : A.le hh (A.add .i64 lst 1) = decide (i ≤ r) := by rw [hlb1, hle, decide_eq_decide, hhe]; unfold iLen; omega
    have hle2 : A.le hh lst = decide (i < r) := by rw [hle, decide_eq_decide, hhe, hlst]; unfold iLen; omega
    have hadh : i ≤ r → A.add .i64 hh 1 = th + iLen (i + 1) := fun h9 => by subst hA; rw [hhe]; show iAdd .i64 _ 1 = _; rw [iAdd_id (by unfold iLen; omega) (by unfold iLen; omega)]; unfold iLen; omega
    refine SGo_run hA ⟨[], [], (24, eClose CovM) :: (27, eAt) :: (28, eAwake) :: [], []⟩ (.cons (eClose_ok CovM.ok) (.cons (eAt_ok p27) (.cons eAwake_ok .nil))) .nil 200 fun T TD hT hTD => ?_
    cbv
    split <;> cbv
    · rename_i hz
      have hir : i ≤ r := of_decide_eq_true (hle1.symm.trans hz)
      have hhb : 3 ≤ hh ∧ hh ≤ 10000 := by rw [hhe]; unfold iLen; omega
      have hask2 : askE rs a b c LA MA nd hh = 0 := askE_ok.2 ⟨ho, hs, hR ▸ hloA, by omega, hmoA, hndb, by omega, by omega⟩
      have hcov2 : CovM (pastM MA hh) hh (sumLg rs) := ⟨by have := pastM_len (l := MA) (h := hh); omega, fun x hx => hmoA x (pastM_mem hx), by omega, by omega, by omega⟩
      refine Exists.intro rs (Exists.intro LA (Exists.intro MA (And.intro hxs (And.intro hla (And.intro hma (And.intro (by omega) (And.intro (by omega) (And.intro (by omega) (And.intro (fun _ => hcov2) ?_)))))))))
      intro e1 y1 he1 hy1; cbv
      have he1 : e1 = 0 := he1.trans hask2
      subst he1
      obtain ⟨CL, hCL⟩ : ∃ x, x = cloS (whyS (plc rs) a b c (pastL LA hh) (pastM MA hh) nd hh) N := ⟨_, rfl⟩
      have hY1 : y1 = CL.map cloV := by rw [hy1, hCL]; unfold closeL; rw [if_pos hask2, hN, hR]
      have hCLl : CL.length ≤ 1000000 := by rw [hCL]; exact Nat.le_trans (List.length_filter_le _ _) (Nat.le_trans runsN_len (by omega))
      split <;> first | (rename_i hz; exact Bool.noConfusion (hz.symm.trans hn0)) | cbv
      refine Exists.intro CL (Exists.intro p0 (And.intro ⟨hY1, hp0, hCLl⟩ ?_))
      intro wy hwy; cbv
      have hwy : wy = whyS R a b c (pastL LA hh) (pastM MA hh) nd hh p0 := hwy.trans (by rw [hCL, at_clo hp0N, hR])
      have hwQ : Q i = decide (wy ≠ 0) := by rw [hwy, hhe]; exact hQi i
      have hew : A.eq wy 0 = !(Q i) := by rw [hwQ, hee]; by_cases h0 : wy = 0 <;> simp [h0]
      have hqr : (!(Q i)) = decide (i < r) := by
        by_cases hlt : i < r
        · rw [hr2 i hlt, decide_eq_true hlt]; rfl
        · have hie : i = r := by omega
          rw [hie, hr3]; simp
      have zz : A.bnot (A.beq (A.eq wy 0) (A.le hh lst)) = false := by rw [hew, hle2, hqr, hnb]; subst hA; show (!(_ == _)) = false; simp
      split <;> first | (rename_i hz; exact Bool.noConfusion (hz.symm.trans zz)) | cbv
      exact hB (i + 1) _ _ (by omega) (by omega) ⟨congrArg I (hadh hir), trivial⟩ ⟨rfl, rfl, rfl, rfl, rfl, congrArg I hlst, trivial⟩ (.inl rfl)
    · exact h _
  · have z1 : A.ne v (-1) = false := by rw [hne, hv2]; rfl
    have z2 : A.eq v (-1) = true := by rw [hee, hv2]; rfl
    split <;> first | (rename_i hz; exact Bool.noConfusion (hz.symm.trans z1)) | cbv
    split <;> first | (rename_i hz; exact Bool.noConfusion (hz.symm.trans z2)) | cbv
    have hv3 : A.sub .i64 th 1 = th + iLen r - 1 := by subst hA; rw [h0]; show iSub .i64 th 1 = _; rw [iSub_id (by omega) (by omega)]; unfold iLen; omega
    rw [hT]
    refine AGo_frzS 12 (id := 3) (g := n) (sz := 5) (n := n) (xs := ma) (cs := cs) rfl rfl (by rw [hma, List.length_map, hn, hP2]) hE2 ?_
    refine AGo_forget [(4, .mp 1 0 0), (8, I q2), (9, I nd), (10, .vs 5 la), (12, .vs 5 ma), (15, I (th + iLen r - 1)), (17, I th)] _ ⟨rfl, rfl, rfl, rfl, rfl, congrArg I hv3, rfl, trivial⟩ (.inl rfl) ?_ (by simp)
    refine AGo_whileE (σ := Nat) [4, 8, 9, 10, 12, 15] (fun i => r + 1 - i) (fun i => i ≤ r + 1) (fun i => [(17, I (th + iLen i))]) (fun _ => [.own 0 [U w7], .own 0 [.vs 5 xs, I a, I b, I c], .gone, .gone]) 0 (Nat.zero_le _) ⟨congrArg I (by unfold iLen; omega), trivial⟩ (.inl rfl) fun i hi Bk hB => ?_
    obtain ⟨hh, hhe⟩ : ∃ x, x = th + iLen i := ⟨_, rfl⟩
    obtain ⟨lst, hlst⟩ : ∃ x, x = th + iLen r - 1 := ⟨_, rfl⟩
    rw [← hhe, ← hlst]
    have hlb1 : A.add .i64 lst 1 = th + iLen r := by subst hA; rw [hlst]; show iAdd .i64 _ 1 = _; rw [iAdd_id (by unfold iLen; omega) (by unfold iLen; omega)]; omega
    have hle1 : A.le hh (A.add .i64 lst 1) = decide (i ≤ r) := by rw [hlb1, hle, decide_eq_decide, hhe]; unfold iLen; omega
    have hle2 : A.le hh lst = decide (i < r) := by rw [hle, decide_eq_decide, hhe, hlst]; unfold iLen; omega
    have hadh : i ≤ r → A.add .i64 hh 1 = th + iLen (i + 1) := fun h9 => by subst hA; rw [hhe]; show iAdd .i64 _ 1 = _; rw [iAdd_id (by unfold iLen; omega) (by unfold iLen; omega)]; unfold iLen; omega
    refine SGo_run hA ⟨[], [], (24, eClose CovM) :: (27, eAt) :: (28, eAwake) :: [], []⟩ (.cons (eClose_ok CovM.ok) (.cons (eAt_ok p27) (.cons eAwake_ok .nil))) .nil 200 fun T TD hT hTD => ?_
    cbv
    split <;> cbv
    · rename_i hz
      have hir : i ≤ r := of_decide_eq_true (hle1.symm.trans hz)
      have hhb : 3 ≤ hh ∧ hh ≤ 10000 := by rw [hhe]; unfold iLen; omega
      have hask2 : askE rs a b c LA MA nd hh = 0 := askE_ok.2 ⟨ho, hs, hR ▸ hloA, by omega, hmoA, hndb, by omega, by omega⟩
      have hcov2 : CovM (pastM MA hh) hh (sumLg rs) := ⟨by have := pastM_len (l := MA) (h := hh); omega, fun x hx => hmoA x (pastM_mem hx), by omega, by omega, by omega⟩
      refine Exists.intro rs (Exists.intro LA (Exists.intro MA (And.intro hxs (And.intro hla (And.intro hma (And.intro (by omega) (And.intro (by omega) (And.intro (by omega) (And.intro (fun _ => hcov2) ?_)))))))))
      intro e1 y1 he1 hy1; cbv
      have he1 : e1 = 0 := he1.trans hask2
      subst he1
      obtain ⟨CL, hCL⟩ : ∃ x, x = cloS (whyS (plc rs) a b c (pastL LA hh) (pastM MA hh) nd hh) N := ⟨_, rfl⟩
      have hY1 : y1 = CL.map cloV := by rw [hy1, hCL]; unfold closeL; rw [if_pos hask2, hN, hR]
      have hCLl : CL.length ≤ 1000000 := by rw [hCL]; exact Nat.le_trans (List.length_filter_le _ _) (Nat.le_trans runsN_len (by omega))
      split <;> first | (rename_i hz; exact Bool.noConfusion (hz.symm.trans hn0)) | cbv
      refine Exists.intro CL (Exists.intro p0 (And.intro ⟨hY1, hp0, hCLl⟩ ?_))
      intro wy hwy; cbv
      have hwy : wy = whyS R a b c (pastL LA hh) (pastM MA hh) nd hh p0 := hwy.trans (by rw [hCL, at_clo hp0N, hR])
      have hwQ : Q i = decide (wy ≠ 0) := by rw [hwy, hhe]; exact hQi i
      have hew : A.eq wy 0 = !(Q i) := by rw [hwQ, hee]; by_cases h0 : wy = 0 <;> simp [h0]
      have hqr : (!(Q i)) = decide (i < r) := by
        by_cases hlt : i < r
        · rw [hr2 i hlt, decide_eq_true hlt]; rfl
        · have hie : i = r := by omega
          rw [hie, hr3]; simp
      have zz : A.bnot (A.beq (A.eq wy 0) (A.le hh lst)) = false := by rw [hew, hle2, hqr, hnb]; subst hA; show (!(_ == _)) = false; simp
      split <;> first | (rename_i hz; exact Bool.noConfusion (hz.symm.trans zz)) | cbv
      exact hB (i + 1) _ _ (by omega) (by omega) ⟨congrArg I (hadh hir), trivial⟩ ⟨rfl, rfl, rfl, rfl, rfl, congrArg I hlst, trivial⟩ (.inl rfl)
    · exact h _
end Go.Sas
