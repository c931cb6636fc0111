/-
ProbeNarrows: the law's core.
Conditions: none.
-/
import Derived.Test.YtajegdbljldakaaQR59
import Derived.Test.YtajegdbljldakaaQR60
import Derived.Test.YtajegdbljldakaaQRM15
import Derived.Test.YtajegdbljldakaaPK
import Derived.Test.YtajegdbljldakaaQRL3
set_option linter.unusedVariables false
set_option linter.unusedSimpArgs false
namespace Go.Sas
open Go.Proofs
set_option maxRecDepth 100000
theorem SubH_ownN {g : Nat} {cs : List AV} {M H : AHeap} : SubH (.own g cs :: M) (.own g cs :: H) = SubH M H := by
  cases cs <;> simp [SubH]
theorem lk_len (l : List Lk) : (l.flatMap lkC).length = l.length * 5 := len_flat (k := 5) (fun _ => rfl) l
theorem lk_get {a r : List Lk} {y : Lk} {j o i : Nat} {v : Int} (ha : a.length = j) (ho : o = j * 5 + i) (hv : (lkC y)[i]? = some (I v)) : getS none ((a ++ y :: r).flatMap lkC) o (I v) := by
  have hl := lk_len a
  have hi : i < (lkC y).length := (List.getElem?_eq_some_iff.1 hv).1
  unfold getS getN
  simp only
  rw [List.flatMap_append, List.flatMap_cons, List.getElem?_append_right (by omega), hl, List.getElem?_append_left (by omega), ho, ha, Nat.add_sub_cancel_left]
  exact hv
theorem lk_upd {a r : List Lk} {y : Lk} {j o : Nat} {v1 v2 : Int} (ha : a.length = j) (ho : o = j * 5 + 3) : updS 2 ((a ++ y :: r).flatMap lkC) o [I v1, I v2] ((a ++ ⟨y.k, y.p, y.h, v1, v2⟩ :: r).flatMap lkC) := by
  have hl := lk_len a
  rw [ha] at hl
  have e : (a ++ y :: r).flatMap lkC = (a.flatMap lkC ++ [I y.k, I y.p, I y.h]) ++ ([I y.lo, I y.hi] ++ r.flatMap lkC) := by simp
  have e2 : (a ++ (⟨y.k, y.p, y.h, v1, v2⟩ : Lk) :: r).flatMap lkC = (a.flatMap lkC ++ [I y.k, I y.p, I y.h]) ++ [I v1, I v2] ++ r.flatMap lkC := by simp
  have ho2 : o = (a.flatMap lkC ++ [I y.k, I y.p, I y.h]).length := by rw [List.length_append, hl, ho]; rfl
  refine ⟨rfl, ?_, ?_⟩
  · rw [e, List.length_append, ← ho2, List.length_append]; simp
  · rw [e2, e, ho2, List.take_left]
    congr 1
    rw [List.drop_length_add_append]; rfl
theorem ixm5L {len j o : Nat} {i : Int} (hi : i = iLen j) (h : j < len) (ho : o = j * 5) : ixmS 5 5 0 len i o := by
  subst hi ho; unfold ixmS iLen; refine ⟨rfl, by omega, by omega, by omega⟩
/-- the first looks are narrower, and fit too -/
def NarA (R : List Rch) (T : Nat → Nat → Int) (a l : List Lk) : Prop := (∀ (q : Nat) (x y : Lk), a[q]? = some x → l[q]? = some y → Nar y x) ∧ ∀ x ∈ a, LkFit R T 3 6 x
set_option maxHeartbeats 8000000 in
theorem core3 (nums : List Int) (hn1 : nums.length ≤ 9223372036854775807) : ACalls Try.prog 3 [.vs 1 (nums.map I)] [] fun r _ => r = .lit (.bool true) := by
  obtain ⟨Kk, hKk⟩ : ∃ K : AV → AHeap → Prop, K = fun r _ => r = .lit (.bool true) := ⟨_, rfl⟩
  rw [← hKk]
  have h : ∀ H, Kk (B true) H := fun H => by rw [hKk]
  clear hKk
  obtain ⟨xn, hxn⟩ : ∃ ys, ys = nums.map I := ⟨_, rfl⟩
  rw [← hxn]
  obtain ⟨A, hA⟩ : ∃ A, A = std := ⟨_, rfl⟩
  have hne : ∀ x y, A.ne x y = decide (x ≠ y) := by subst hA; intro x y; simp only [std, iNe]; rw [Bool.eq_iff_iff]; simp
  have hee : ∀ x y, A.eq x y = decide (x = y) := by subst hA; intro x y; exact iEq_dec _ _
  have hll : ∀ x y, A.lt x y = decide (x < y) := by subst hA; intro x y; rfl
  have hle : ∀ x y, A.le x y = decide (x ≤ y) := by subst hA; intro x y; rfl
  have hnb : ∀ b, A.bnot b = !b := by subst hA; intro b; rfl
  have hbd : ∀ x y, A.band x y = (x && y) := by subst hA; intro x y; rfl
  have hsg : ∀ g, A.sg g g := by subst hA; exact fun _ => rfl
  refine go3 rfl (SGo_run hA ⟨[2], [0], [], edM⟩ .nil edM_ok 200 fun T TD hT hTD => ?_)
  cbv
  refine Exists.intro nums (And.intro ⟨hxn, hn1⟩ ?_)
  intro w1
  cbv
  refine Exists.intro () (And.intro (by omega) ?_)
  rintro w2 _ ⟨rs, a, b, c, TC, l, xs, cr, ls, rfl, hxs, hcr, hls, hD⟩
  cbv
  obtain ⟨ho, hs, hlo⟩ := hD.lks (by omega) (by omega)
  have hPl := ho.plc
  have hRl := ho.ilen
  obtain ⟨R, hR⟩ : ∃ R, R = plc rs := ⟨_, rfl⟩
  rw [← hR] at hcr hlo hPl hRl
  have hcrs : CrsOk R TC 6 := hR ▸ hD.crs
  have hfit : ∀ x ∈ l, LkFit R TC 3 6 x := hR ▸ hD.fit
  obtain ⟨N, hN⟩ : ∃ N, N = R.length := ⟨_, rfl⟩
  rw [← hN] at hcr hRl
  have hN1 : 1 ≤ N := by rw [hN]; exact hPl.pos
  have hN2 : N ≤ 1000 := by rw [hN]; exact hPl.le
  have hlb : l.length ≤ 200 := hlo.le
  have hrl : rs.length ≤ 20 := ho.n2
  have hcv : A.vlen cr = 6 := by subst hA; rw [hcr]; rfl
  have hrow : ∀ i q, q = iLen i → i < 6 → A.ix 1 1 cr q [.vs 1 (crsRow TC N i)] := fun i q hq hi => by subst hA; exact ix_map (f := fun i => AV.vs 1 (crsRow TC N i)) hcr hq (by simp [hi]) rfl
  have hrv : ∀ i, A.vlen (crsRow TC N i) = iLen N := fun i => by subst hA; simp [std, crsRow]
  have hcell : ∀ i p q, q = iLen p → p < N → A.ix 1 1 (crsRow TC N i) q [I (TC i p)] := fun i p q hq hp => by subst hA; exact ix_map (f := I) rfl hq (by simp [hp]) rfl
  have hsur : surE rs a b c l = 0 := surE_ok.2 ⟨ho, hs, hR ▸ hlo⟩
  have hkn : ∀ (p : Nat) (t : Int), p < N → (0 ≤ t ∧ t ≤ 10000) → knownR rs a b c l (iLen p) t = (knowS R l p t, 0) := fun p t hp ht => by
    have : knownE rs a b c l (iLen p) t = 0 := by
      unfold knownE orElse; rw [hsur, if_pos rfl, if_neg (by rw [← hRl]; unfold iLen; omega), if_neg (by omega)]
    unfold knownR; rw [if_pos this, ← hR]; rfl
  have hll4 : l.length ≤ 4 := by have := hD.len; omega
  refine Exists.intro (rs, 2, 9) (And.intro ⟨hxs, rfl, rfl, ho, by omega, by omega⟩ ?_)
  rintro w3 _ ⟨m, ms, rfl, hms, hml, hmk⟩
  cbv
  have hml2 : m.length ≤ 2 := by
    have h9 : iLen m.length ≤ 2 := hml
    unfold iLen at h9; omega
  have hE1 := Elems_map (f := lkV) (g := lkC) (sz := 5) (fun _ => rfl) (fun _ => rfl) (fun _ => rfl) l
  rw [← hls] at hE1
  have hlsl : ls.length = l.length := by rw [hls]; simp
  obtain ⟨c1, hc1⟩ : ∃ c, c = l.flatMap lkC := ⟨_, rfl⟩
  rw [← hc1] at hE1
  obtain ⟨n1, hn1'⟩ : ∃ n, n = 0 + ls.length := ⟨_, rfl⟩
  have happ1 : A.app 5 5 40 [] 0 0 ls c1 n1 := by subst hA; rw [hn1']; exact app_all rfl hE1.1 (by omega)
  refine Exists.intro c1 (Exists.intro n1 (And.intro happ1 (And.intro rfl ?_))); cbv
  refine Exists.intro (plc rs, TC, 6) (And.intro ⟨by rw [hcr, hN, hR], ho.plc, hD.crs, by omega, ⟨show (1 : Nat) ≤ 6 by decide, show (6 : Nat) ≤ 100 by decide⟩, by omega⟩ ?_)
  rintro w4 _ ⟨l2, ls2, rfl, hls2, hll2, hfit2⟩
  have hl23 : l2.length ≤ 3 := by omega
  cbv
  have hE2 := Elems_map (f := lkV) (g := lkC) (sz := 5) (fun _ => rfl) (fun _ => rfl) (fun _ => rfl) l2
  rw [← hls2] at hE2
  have hls2l : ls2.length = l2.length := by rw [hls2]; simp
  obtain ⟨c2, hc2⟩ : ∃ c, c = c1 ++ l2.flatMap lkC := ⟨_, rfl⟩
  obtain ⟨n2, hn2⟩ : ∃ n, n = n1 + ls2.length := ⟨_, rfl⟩
  have hn2l : n2 = l.length + l2.length := by omega
  have happ2 : A.app 5 5 40 c1 0 n1 ls2 c2 n2 := by subst hA; rw [hc2, hn2]; exact app_all (by rw [hc1, lk_len]; omega) hE2.1 (by omega)
  refine And.intro (hsg _) (Exists.intro c2 (Exists.intro n2 (And.intro happ2 (And.intro rfl ?_)))); cbv
  rw [hT]
  have hxl : ∀ n, AV.ltL n xs := fun n => AV.ltL_nid (by rw [hxs]; exact nidL_rc rs)
  have hlv : A.vlen ls = iLen l.length := by subst hA; rw [hls]; simp [std]
  refine AGo_whileE (σ := Int × List Lk) [3, 4, 5, 6, 7, 8] (fun s => l.length - s.2.length) (fun s => s.2.length ≤ l.length ∧ NarA R TC s.2 l) (fun s => [(9, I (iLen s.2.length))])
    (fun s => [.own 0 [U s.1], .own 0 [.vs 5 xs, I a, I b, I c], .own 1 ((s.2 ++ (l.drop s.2.length ++ l2)).flatMap lkC)]) (w4, []) ⟨Nat.zero_le _, fun q x y h1 _ => by simp at h1, fun x hx => by simp at hx⟩ ⟨rfl, trivial⟩ (.inl (by rw [hc2, hc1]; simp)) fun s hP Bk hB => ?_
  obtain ⟨w5, av⟩ := s
  obtain ⟨hPl2, hPn⟩ := hP
  dsimp only at hPl2 hPn ⊢
  obtain ⟨j, hj⟩ : ∃ j, j = av.length := ⟨_, rfl⟩
  obtain ⟨ij, hij⟩ : ∃ i, i = iLen j := ⟨_, rfl⟩
  obtain ⟨cc, hcc⟩ : ∃ x, x = (av ++ (l.drop j ++ l2)).flatMap lkC := ⟨_, rfl⟩
  rw [← hj, ← hij, ← hcc]
  rw [← hj] at hPl2
  have hlt : A.lt ij (A.vlen ls) = decide (j < l.length) := by rw [hlv, hll, hij, decide_eq_decide]; unfold iLen; omega
  refine SGo_run hA ⟨[2], [0, 2000002, 1000085], (21, eSpn) :: [], edM⟩ (.cons eSpn_ok .nil) edM_ok 200 fun T TD hT hTD => ?_
  cbv
  split <;> cbv
  · rename_i hz
    have hjl : j < l.length := of_decide_eq_true (hlt.symm.trans hz)
    obtain ⟨⟨yk, yp, yh, ylo, yhi⟩, hy⟩ : ∃ y, l[j]? = some y := ⟨_, List.getElem?_eq_getElem hjl⟩
    have hdr : l.drop j = ⟨yk, yp, yh, ylo, yhi⟩ :: l.drop (j + 1) := drop_cons hy
    obtain ⟨rest, hrest⟩ : ∃ r, r = l.drop (j + 1) ++ l2 := ⟨_, rfl⟩
    rw [hdr, List.cons_append, ← hrest] at hcc
    obtain ⟨hyk, i, p, hi6, hpR, hyp, hyh, hlo0, hlo1, hhi1, hhi2⟩ := hfit _ (List.mem_of_getElem? hy)
    dsimp only at hyk hyp hyh hlo0 hlo1 hhi1 hhi2
    have hpN : p < N := by omega
    obtain ⟨o, hoe⟩ : ∃ o, o = j * 5 := ⟨_, rfl⟩
    have hixm : A.ixm 5 5 0 n2 ij o := by subst hA; exact ixm5L hij (by omega) hoe
    have hof : ∀ q k, A.off q k (q + k) := fun q k => by subst hA; rfl
    have hg2 : A.get none cc (o + 2) (I yh) := by subst hA; rw [hcc]; exact lk_get hj.symm (by rw [hoe]) rfl
    have hg1 : A.get none cc (o + 1) (I yp) := by subst hA; rw [hcc]; exact lk_get hj.symm (by rw [hoe]) rfl
    have hg3 : A.get none cc (o + 3) (I ylo) := by subst hA; rw [hcc]; exact lk_get hj.symm (by rw [hoe]) rfl
    have hg4 : A.get none cc (o + 3 + 1) (I yhi) := by subst hA; rw [hcc]; exact lk_get hj.symm (i := 4) (by rw [hoe]) rfl
    have hs3 : A.sub .i64 yh 3 = iLen i := by subst hA; show iSub .i64 yh 3 = _; rw [iSub_id (by omega) (by omega), hyh]; unfold iLen; omega
    have hri := hrow i (A.sub .i64 yh 3) hs3 hi6
    have hci := hcell i p yp hyp hpN
    obtain ⟨row, hrowe⟩ : ∃ x, x = crsRow TC N i := ⟨_, rfl⟩
    rw [← hrowe] at hri hci
    obtain ⟨t, ht⟩ : ∃ t, t = TC i p := ⟨_, rfl⟩
    rw [← ht] at hci hlo1 hhi1
    have hadj : A.add .i64 ij 1 = iLen (j + 1) := by subst hA; exact add_one (N := l.length) hij hjl (by omega)
    refine And.intro (hsg _) (Exists.intro o (And.intro hixm ?_)); cbv
    refine And.intro (hsg _) (Exists.intro (o + 2) (And.intro (hof _ _) ?_)); cbv
    refine And.intro (hsg _) (Exists.intro _ (And.intro hg2 ?_)); cbv
    refine Exists.intro _ (And.intro hri ?_); cbv
    refine And.intro (hsg _) (Exists.intro o (And.intro hixm ?_)); cbv
    refine And.intro (hsg _) (Exists.intro (o + 1) (And.intro (hof _ _) ?_)); cbv
    refine And.intro (hsg _) (Exists.intro _ (And.intro hg1 ?_)); cbv
    refine Exists.intro _ (And.intro hci ?_); cbv
    refine And.intro (hsg _) (Exists.intro o (And.intro hixm ?_)); cbv
    refine And.intro (hsg _) (Exists.intro (o + 3) (And.intro (hof _ _) ?_)); cbv
    refine And.intro (hsg _) (Exists.intro (o + 3) (And.intro (hof _ 0) ?_)); cbv
    refine And.intro (hsg _) (Exists.intro _ (And.intro hg3 ?_)); cbv
    refine And.intro (hsg _) (Exists.intro o (And.intro hixm ?_)); cbv
    refine And.intro (hsg _) (Exists.intro (o + 3) (And.intro (hof _ _) ?_)); cbv
    refine And.intro (hsg _) (Exists.intro (o + 3 + 1) (And.intro (hof _ 1) ?_)); cbv
    refine And.intro (hsg _) (Exists.intro _ (And.intro hg4 ?_)); cbv
    refine Exists.intro () (And.intro (by omega) ?_)
    rintro w6 _ ⟨v1, rfl, hv1, hv1'⟩
    cbv
    refine And.intro (by subst hA; exact .inr ⟨by simp [SubH, SubH_ownN], trivial, .inr fun _ => by simp [SubH, SubH_ownN]⟩) ?_; cbv
    refine Exists.intro () (And.intro (by omega) ?_)
    rintro w7 _ ⟨v2, rfl, hv2, hv2'⟩
    cbv
    refine And.intro (by subst hA; exact .inr ⟨by simp [SubH, SubH_ownN], trivial, .inr fun _ => by simp [SubH, SubH_ownN]⟩) ?_; cbv
    refine And.intro (hsg _) (Exists.intro o (And.intro hixm ?_)); cbv
    refine And.intro (hsg _) (Exists.intro (o + 3) (And.intro (hof _ _) ?_)); cbv
    obtain ⟨cc2, hcc2⟩ : ∃ x, x = (av ++ (⟨yk, yp, yh, v1, v2⟩ : Lk) :: rest).flatMap lkC := ⟨_, rfl⟩
    have hup : A.upd 2 cc (o + 3) [I v1, I v2] cc2 := by subst hA; rw [hcc, hcc2]; exact lk_upd (y := ⟨yk, yp, yh, ylo, yhi⟩) hj.symm (by rw [hoe])
    refine And.intro (hsg _) (Exists.intro cc2 (And.intro hup ?_)); cbv
    have hal : (av ++ [(⟨yk, yp, yh, v1, v2⟩ : Lk)]).length = j + 1 := by rw [List.length_append, ← hj]; rfl
    refine hB (w7, av ++ [⟨yk, yp, yh, v1, v2⟩]) _ _ (by dsimp only; omega) ⟨by dsimp only; omega, fun q x y h1 h2 => ?_, fun x hx => ?_⟩ (by dsimp only; rw [hal]; exact ⟨congrArg I hadj, trivial⟩) ⟨rfl, rfl, rfl, rfl, rfl, rfl, trivial⟩ (.inl (by dsimp only; rw [hal, ← hrest, List.append_assoc, hcc2]; rfl))
    · by_cases hq : q < j
      · exact hPn.1 q x y (by rw [List.getElem?_append_left (by omega)] at h1; exact h1) h2
      · rw [List.getElem?_append_right (by omega)] at h1
        have hq0 : q = j := by
          have := (List.getElem?_eq_some_iff.1 h1).1
          simp at this; omega
        subst hq0
        rw [hy] at h2; cases h2
        rw [hj] at h1; simp at h1; subst h1
        exact ⟨rfl, rfl, rfl, by dsimp only; omega, by dsimp only; omega⟩
    · rcases List.mem_append.1 hx with hx | hx
      · exact hPn.2 x hx
      · simp only [List.mem_singleton] at hx; subst hx
        exact ⟨hyk, i, p, hi6, hpR, hyp, hyh, by dsimp only; omega, by dsimp only; omega, by dsimp only; omega, by dsimp only; omega⟩
  · rename_i hz
    have hjl : ¬ j < l.length := of_decide_eq_false (hlt.symm.trans hz)
    clear hB
    obtain ⟨lN, hlN⟩ : ∃ x, x = av ++ l2 := ⟨_, rfl⟩
    have hccN : cc = lN.flatMap lkC := by rw [hcc, hlN, List.drop_eq_nil_of_le (by omega)]; rfl
    have hlNn : lN.length = n2 := by rw [hlN, List.length_append]; omega
    have hE3 : Elems 5 (lN.map lkV) cc := by rw [hccN]; exact Elems_map (f := lkV) (g := lkC) (sz := 5) (fun _ => rfl) (fun _ => rfl) (fun _ => rfl) lN
    obtain ⟨lsN, hlsN⟩ : ∃ x, x = lN.map lkV := ⟨_, rfl⟩
    rw [← hlsN] at hE3
    rw [hT]
    refine AGo_frzS 8 (id := 2) (g := 1) (sz := 5) (n := n2) (xs := lsN) (cs := cc) rfl rfl (by rw [hlsN]; simp [hlNn]) hE3 ?_
    have hfitN : ∀ x ∈ lN, LkFit R TC 3 6 x := by
      rw [hlN]; intro x hx
      rcases List.mem_append.1 hx with hx | hx
      · exact hPn.2 x hx
      · rw [hR]; exact hfit2 x hx
    have hnar : NarL l lN := by rw [hlN]; exact narL_app (by omega) hPn.1
    have hlN7 : lN.length ≤ 7 := by omega
    have hloN : LksOk R lN := LksOk.fits hcrs (by omega) (by decide) (by omega) hfitN
    have hsurN : surE rs a b c lN = 0 := surE_ok.2 ⟨ho, hs, hR ▸ hloN⟩
    have hknN : ∀ (p : Nat) (t : Int), p < N → (0 ≤ t ∧ t ≤ 10000) → knownR rs a b c lN (iLen p) t = (knowS R lN p t, 0) := fun p t hp ht => by
      have : knownE rs a b c lN (iLen p) t = 0 := by
        unfold knownE orElse; rw [hsurN, if_pos rfl, if_neg (by rw [← hRl]; unfold iLen; omega), if_neg (by omega)]
      unfold knownR; rw [if_pos this, ← hR]; rfl
    refine SGo_run hA ⟨[], [0], (24, eClose CovM) :: [], edM⟩ (.cons (eClose_ok CovM.ok) .nil) edM_ok 200 fun T TD hT hTD => ?_
    cbv
    refine Exists.intro () (And.intro (by omega) ?_)
    rintro w6 _ ⟨q1, rfl, hq1, hq1'⟩
    cbv
    have hr0 := hrow 0 0 rfl (by omega)
    have hr0v := hrv 0
    have hc00 := hcell 0 0 0 rfl (by omega)
    have hTb := hcrs.rng 0 0 (by omega) (by omega)
    obtain ⟨row0, hrow0e⟩ : ∃ x, x = crsRow TC N 0 := ⟨_, rfl⟩
    rw [← hrow0e] at hr0 hr0v hc00
    obtain ⟨t0, ht0⟩ : ∃ t, t = TC 0 0 := ⟨_, rfl⟩
    rw [← ht0] at hc00 hTb
    refine Exists.intro _ (And.intro hr0 ?_); cbv
    refine Exists.intro _ (And.intro hc00 ?_); cbv
    refine Exists.intro () (And.intro (by omega) ?_)
    rintro w7 _ ⟨d, rfl, hd, hd'⟩
    cbv
    refine And.intro (by subst hA; first | (simp [std, Keep, SubH, ResK]; done) | exact .inr ⟨⟨rfl, SubH.self _⟩, trivial, .inr fun _ => ⟨rfl, SubH.self _⟩⟩ | exact .inr ⟨SubH.self _, trivial, .inr fun _ => SubH.self _⟩ | exact .inr ⟨by simp [SubH], trivial, .inl rfl⟩ | exact .inr ⟨by simp [SubH], trivial, .inr fun _ => by simp [SubH]⟩) ?_
    cbv
    obtain ⟨nd, hnd⟩ : ∃ x, x = max 0 (min 3000 (t0 - d)) := ⟨_, rfl⟩
    obtain ⟨th, hthe⟩ : ∃ x, x = 3 + q1 := ⟨_, rfl⟩
    have hmx : A.max 0 (A.min 3000 (A.sub .i64 t0 d)) = nd := by rw [hnd]; subst hA; simp only [std, iMax_eq, iMin_eq]; rw [iSub_id (by omega) (by omega)]
    have hth : A.add .i64 3 q1 = th := by rw [hthe]; subst hA; exact iAdd_id (by omega) (by omega)
    have hndb : 0 ≤ nd ∧ nd ≤ 3000 := by rw [hnd]; omega
    have hthb : 3 ≤ th ∧ th ≤ 11 := by rw [hthe]; omega
    have hmo : ∀ x ∈ m, MkOk (sumLg rs) x := fun x hx => (hmk x hx).1
    have hsumb := sumLg_bnd' ho
    have hask : askE rs a b c l m nd th = 0 := askE_ok.2 ⟨ho, hs, hR ▸ hlo, by omega, hmo, hndb, by omega, by omega⟩
    have haskN : askE rs a b c lN m nd th = 0 := askE_ok.2 ⟨ho, hs, hR ▸ hloN, by omega, hmo, hndb, by omega, by omega⟩
    have hcov : CovM (pastM m th) th (sumLg rs) := ⟨by have := pastM_len (l := m) (h := th); omega, fun x hx => hmo x (pastM_mem hx), by omega, by omega, by omega⟩
    refine Exists.intro rs (Exists.intro l (Exists.intro m (And.intro hxs (And.intro hls (And.intro hms (And.intro (by omega) (And.intro (by omega) (And.intro (by omega) (And.intro (fun _ => by show CovM (pastM m (A.add .i64 3 q1)) (A.add .i64 3 q1) (sumLg rs); rw [hth]; exact hcov) ?_)))))))))
    intro e1 y1 he1 hy1; cbv
    have he1 : e1 = 0 := by
      have : e1 = askE rs a b c l m nd th := by rw [← hmx, ← hth]; exact he1
      rw [this, hask]
    obtain ⟨CL, hCL⟩ : ∃ x, x = cloS (whyS R a b c (pastL l th) (pastM m th) nd th) N := ⟨_, rfl⟩
    have hY1 : y1 = CL.map cloV := by
      have : y1 = (closeL rs a b c l m nd th).map cloV := by rw [← hmx, ← hth]; exact hy1
      rw [this, hCL]; unfold closeL; rw [if_pos hask, hN, hR]
    subst he1
    refine Exists.intro rs (Exists.intro lN (Exists.intro m (And.intro hxs (And.intro hlsN (And.intro hms (And.intro (by omega) (And.intro (by omega) (And.intro (by omega) (And.intro (fun _ => by show CovM (pastM m (A.add .i64 3 q1)) (A.add .i64 3 q1) (sumLg rs); rw [hth]; exact hcov) ?_)))))))))
    intro e2 y2 he2 hy2; cbv
    have he2 : e2 = 0 := by
      have : e2 = askE rs a b c lN m nd th := by rw [← hmx, ← hth]; exact he2
      rw [this, haskN]
    obtain ⟨CN, hCN⟩ : ∃ x, x = cloS (whyS R a b c (pastL lN th) (pastM m th) nd th) N := ⟨_, rfl⟩
    have hY2 : y2 = CN.map cloV := by
      have : y2 = (closeL rs a b c lN m nd th).map cloV := by rw [← hmx, ← hth]; exact hy2
      rw [this, hCN]; unfold closeL; rw [if_pos haskN, hN, hR]
    subst he2
    have hn0 : A.ne 0 0 = false := by subst hA; rfl
    split <;> first | (rename_i hz; exact Bool.noConfusion (hz.symm.trans hn0)) | cbv
    split <;> first | (rename_i hz; exact Bool.noConfusion (hz.symm.trans hn0)) | cbv
    have hCLl : CL.length ≤ 1000000 := by rw [hCL]; exact Nat.le_trans (List.length_filter_le _ _) (Nat.le_trans runsN_len (by omega))
    have hCNl : CN.length ≤ 1000000 := by rw [hCN]; exact Nat.le_trans (List.length_filter_le _ _) (Nat.le_trans runsN_len (by omega))
    rw [hT]
    refine AGo_whileE (σ := Nat) [4, 5, 6, 8, 11, 13, 15] (fun p => N - p) (fun p => p ≤ N) (fun p => [(17, I (iLen p))]) (fun _ => [.own 0 [U w7], .own 0 [.vs 5 xs, I a, I b, I c], .gone]) 0 (Nat.zero_le _) ⟨rfl, trivial⟩ (.inl rfl) fun p hp Bk hB => ?_
    obtain ⟨ip, hip⟩ : ∃ q, q = iLen p := ⟨_, rfl⟩
    rw [← hip]
    have hlt2 : A.lt ip (A.vlen row0) = decide (p < N) := by rw [hr0v, hll, hip]; rw [decide_eq_decide]; unfold iLen; omega
    refine SGo_run hA ⟨[], [], (25, eKnown) :: (26, eWithin) :: (27, eAt) :: (28, eAwake) :: [], []⟩ (.cons (eKnown_ok p25) (.cons eWithin_ok (.cons (eAt_ok p27) (.cons eAwake_ok .nil)))) .nil 200 fun T TD hT hTD => ?_
    cbv
    refine Exists.intro _ (And.intro hr0 ?_); cbv
    split <;> cbv
    · rename_i hz2
      have hpN : p < N := of_decide_eq_true (hlt2.symm.trans hz2)
      have hadp : A.add .i64 ip 1 = iLen (p + 1) := by subst hA; exact add_one (N := 1000) hip (by omega) (by omega)
      refine Exists.intro rs (Exists.intro l (And.intro hxs (And.intro hls (And.intro (by omega) (And.intro (by omega) ?_)))))
      intro u1 v1 e1 hk1; cbv
      have hk1 : ((u1, v1), e1) = (knowS R l p th, 0) := by rw [← hkn p th hpN (by omega), ← hip, ← hth]; exact hk1
      refine Exists.intro rs (Exists.intro lN (And.intro hxs (And.intro hlsN (And.intro (by omega) (And.intro (by omega) ?_)))))
      intro u2 v2 e2 hk2; cbv
      have hk2 : ((u2, v2), e2) = (knowS R lN p th, 0) := by rw [← hknN p th hpN (by omega), ← hip, ← hth]; exact hk2
      have hkm := know_more (R := R) (p := p) (h := th) hnar
      rw [← (Prod.mk.inj hk1).1, ← (Prod.mk.inj hk2).1] at hkm
      dsimp only at hkm
      obtain rfl := (Prod.mk.inj hk1).2
      obtain rfl := (Prod.mk.inj hk2).2
      split <;> first | (rename_i hz; exact Bool.noConfusion (hz.symm.trans hn0)) | cbv
      split <;> first | (rename_i hz; exact Bool.noConfusion (hz.symm.trans hn0)) | cbv
      intro q hq; cbv
      have hq : q = true := by rw [hq, decide_eq_true_eq]; omega
      subst hq
      have hbt : A.bnot true = false := by rw [hnb]; rfl
      split <;> first | (rename_i hz; exact Bool.noConfusion (hz.symm.trans hbt)) | cbv
      refine Exists.intro CL (Exists.intro p (And.intro ⟨hY1, hip, hCLl⟩ ?_))
      intro wy hwy; cbv
      have hwy : wy = whyS R a b c (pastL l th) (pastM m th) nd th p := hwy.trans (by rw [hCL]; exact at_clo hpN)
      have hqe : A.eq wy 0 = decide (wy = 0) := hee _ _
      have hjunk : ∀ x y : AObj, x = .own 0 [I u1, I v1] → y = .own 0 [I u2, I v2] → ∀ e', Fits e' [(17, I (A.add .i64 ip 1))] → Fits e' (keepS [4, 5, 6, 8, 11, 13, 15] [(17, I ip), (4, .mp 1 0 0), (5, .vs 1 cr), (6, .vs 5 ls), (8, .vs 5 lsN), (11, I (A.add .i64 3 q1)), (13, .vs 3 y1), (15, .vs 3 y2)]) → Bk e' [.own 0 [U w7], .own 0 [.vs 5 xs, I a, I b, I c], .gone, x, y] := fun x y h1 h2 e' hf hk => by
        subst h1 h2
        rw [hadp] at hf
        exact hB (p + 1) _ _ (by omega) (by omega) hf hk (.inr ⟨⟨[.own 0 [I u1, I v1], .own 0 [I u2, I v2]], rfl⟩, by simp, by simp [ltG, AV.lt, AV.ltL, keepS, look, gset], by simp [ltH, AObj.lt, AV.lt, AV.ltL, hxl]⟩)
      split <;> cbv
      · rename_i hw0
        have hw0 : wy = 0 := of_decide_eq_true (hqe.symm.trans hw0)
        refine Exists.intro CN (Exists.intro p (And.intro ⟨hY2, hip, hCNl⟩ ?_))
        intro wz hwz; cbv
        have hwz : wz = 0 := by
          rw [hwz, hCN, at_clo hpN]
          exact why_more (NarL.past hnar) (hwy.symm.trans hw0)
        have hz9 : A.ne wz 0 = false := by rw [hne, hwz]; rfl
        split <;> first | (rename_i hz; exact Bool.noConfusion (hz.symm.trans hz9)) | cbv
        exact hjunk _ _ rfl rfl _ ⟨rfl, trivial⟩ ⟨rfl, rfl, rfl, rfl, rfl, rfl, rfl, trivial⟩
      · exact hjunk _ _ rfl rfl _ ⟨rfl, trivial⟩ ⟨rfl, rfl, rfl, rfl, rfl, rfl, rfl, trivial⟩
    · exact h _
end Go.Sas
