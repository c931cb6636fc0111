/-
TopLane: the law's core.
Conditions: none.
-/
import Derived.Test.YtndnjmpebpampaaGreatDoorWL
import Derived.Test.YtndnjmpebpampaaGreatDoorWM
import Derived.Test.YtndnjmpebpampaaGreatDoorQLD
import Derived.Test.YtndnjmpebpampaaGreatDoorJD
set_option linter.unusedVariables false
set_option linter.unusedSimpArgs false
namespace Go.Sas
open Go.Proofs
set_option maxRecDepth 100000
def eOnL : List AV → Option ((AV → Prop) → Prop)
  | [.agg [.lit (.int .i64 L), .lit (.int .i64 _), .lit (.int .i64 _), .vs 5 _], .agg [.lit (.int .i64 w), .lit (.int .i64 s), .lit (.int .i64 _), .lit (.int .i64 _), .vs 2 ys], .lit (.bool f), .lit (.int .i64 g), .lit (.int .i64 m)] =>
    some fun K => ∃ hs : List Hld, (ys = hs.map hdV ∧ (-1000000000 ≤ L ∧ L ≤ 1000000000) ∧ HldS hs ∧ hs.length ≤ 1000) ∧ ∀ q, q = lanB L w s g m (frH f hs) → K (B q)
  | _ => none
theorem eOnL_ok : ∀ args pt, eOnL args = some pt → ∀ (H : AHeap) (Kk : AV → AHeap → Prop), pt (fun r => Kk r H) → ACalls Tryz.prog 15 args H Kk := by
  intro args pt h H Kk hk
  unfold eOnL at h
  split at h
  · cases h
    obtain ⟨hs, ⟨rfl, h1, h2, h4⟩, h3⟩ := hk
    exact p15 _ _ _ _ _ _ _ _ _ _ hs _ h1 h2 h4 H (h3 _ rfl)
  · cases h
def eOnRo : List AV → Option ((AV → Prop) → Prop)
  | [.agg [.lit (.int .i64 L), .lit (.int .i64 _), .lit (.int .i64 _), .vs 5 _], .agg [.lit (.int .i64 w), .lit (.int .i64 _), .lit (.int .i64 _), .lit (.int .i64 _), .vs 2 _], .lit (.int .i64 g)] =>
    some fun K => ∃ _u : Unit, ((-1000000000 ≤ L ∧ L ≤ 1000000000) ∧ (-1000000000 ≤ g ∧ g ≤ 1000000000)) ∧ ∀ q, q = aloC L w g → K (I q)
  | _ => none
theorem eOnRo_ok : ∀ args pt, eOnRo args = some pt → ∀ (H : AHeap) (Kk : AV → AHeap → Prop), pt (fun r => Kk r H) → ACalls Tryz.prog 16 args H Kk := by
  intro args pt h H Kk hk
  unfold eOnRo at h
  split at h
  · cases h
    obtain ⟨_, ⟨h1, h2⟩, h3⟩ := hk
    exact p16 _ _ _ _ _ _ _ _ _ _ h1 h2 H (h3 _ rfl)
  · cases h
def tbL : PTab := (10, eOneT) :: (16, eOnRo) :: (15, eOnL) :: (17, eHolds) :: (11, eGapA) :: (12, eAwk4) :: []
theorem tbL_ok : PTabOk Tryz.prog tbL := .cons eOneT_ok (.cons eOnRo_ok (.cons eOnL_ok (.cons (eHolds_ok p17) (.cons (eGapA_ok p11) (.cons eAwk4_ok .nil)))))
def edL : ETab := (9, eMeets) :: edt
theorem edL_ok : ETabOk Tryz.prog edL := .cons eMeets_ok edt_ok
theorem subX {X : AObj} {M H : AHeap} (h : SubH M H) : SubH (X :: M) (X :: H) := by
  rcases X with _ | ⟨g, _ | ⟨c, cs⟩⟩ | _ <;> simp [SubH, h]
theorem gap_ok {p : Plate} (hc : checkS p = 0) {t W a e : Int} {n : Nat} (ht : 0 ≤ t ∧ t ≤ 5000) (hW : 0 ≤ W ∧ W ≤ 12000) (hn : n ≤ 5) (h : (a, e) = gapS p t (List.replicate n (W, W))) : e = 0 := by
  have hfs : faultsS (List.replicate n (W, W)) 30 200000 = 0 := faultsS_of (by rw [List.length_replicate]; omega) fun x hx => by rw [(List.mem_replicate.1 hx).2]; dsimp only; omega
  unfold gapS at h
  rw [if_neg (by simp [hc]), if_neg (by omega), if_neg (by simp [hfs])] at h
  split at h
  · exact (Prod.mk.inj h).2
  · exact (Prod.mk.inj h).2
abbrev cvC (L f : Int) (ys : List AV) : List AV := [I L, I 70, I f, .vs 5 ys]
abbrev goA (gs : List Int) : AV := .vs 1 (gs.map I)
abbrev mtC : List AV := [I 0, I 0, I 0, B false, B false, I 0, I 0]
def rpC (n : Nat) (x : Int × Int) : List AV := (List.replicate n x).flatMap fun x : Int × Int => [I x.1, I x.2]
theorem rp_app {n N : Nat} {x : Int} (hN : n < N) (hb : N ≤ 1000) {A : Ar} (hA : A = std) : A.app 2 2 16 (rpC n (x, x)) 0 n [.agg [I x, I x]] (rpC (n + 1) (x, x)) (n + 1) := by
  subst hA
  rw [show rpC (n + 1) (x, x) = (List.replicate n (x, x) ++ [(x, x)]).flatMap fun x : Int × Int => [I x.1, I x.2] by unfold rpC; rw [List.replicate_succ']]
  exact app_map rfl (by simp) (fun _ => rfl) rfl rfl (by omega)
set_option maxHeartbeats 16000000 in
theorem core3 (nums : List Int) (hn1 : BigL nums) : ACalls Tryz.prog 3 [.vs 1 (nums.map I)] [rawP] fun r _ => r = B true := by
  obtain ⟨Kk, hKk⟩ : ∃ K : AV → AHeap → Prop, K = fun r _ => r = B true := ⟨_, rfl⟩
  rw [← hKk]
  have hk : Kk (B true) [rawP] := by rw [hKk]
  clear hKk
  obtain ⟨xn, hxn⟩ : ∃ ys, ys = nums.map I := ⟨_, rfl⟩
  rw [← hxn]
  obtain ⟨X, hX⟩ : ∃ X, X = rawP := ⟨_, rfl⟩
  rw [← hX] at hk ⊢
  have hlt0 : ltHB 1 [X] = true := by subst hX; rfl
  have hlX : ∀ n, X.lt (n + 1) := fun n => by subst hX; simp [AObj.lt, rawP, rawC, AV.ltL, AV.lt]
  have hCh : ∀ T, CasH (X :: T) := fun T => ⟨T, .inl (by rw [hX])⟩
  have hXk : (∃ a b c d, X = .raw a b c d) := ⟨_, _, _, _, hX⟩
  clear hX
  obtain ⟨A, hA⟩ : ∃ A, A = std := ⟨_, rfl⟩
  have hsg : ∀ g, A.sg g g := by subst hA; exact fun _ => rfl
  have hN7 : A.ne 7 7 = false := by subst hA; rfl
  have hN0 : A.ne 0 0 = false := by subst hA; rfl
  have hll : ∀ x y, A.lt x y = decide (x < y) := by subst hA; intro x y; rfl
  refine go3 rfl (AGo.weaken (SGo_run (R := RetH _ [X] Kk) hA ⟨[], [1], tbL, edL⟩ tbL_ok edL_ok 200 fun T TD hT hTD => ?_) (fun _ _ _ h => RetH.p hlt0 h) (by simp))
  cbv
  refine Exists.intro nums (And.intro ⟨hxn, hn1⟩ ?_)
  intro w1
  cbv
  refine Exists.intro () (And.intro (by omega) ?_)
  rintro w2 _ ⟨L, f, trs, ys, rfl, hys, hL, hf, hacc, hlen⟩
  cbv
  refine Exists.intro () (And.intro trivial ?_)
  rintro w3 _ ⟨p2, a2, b2, xs2, ec2, ne2, ed2, gr2, lo2, hi2, sh2, wi2, rfl, hp2, hv2⟩
  cbv
  refine Exists.intro () (And.intro (by omega) ?_)
  rintro w4 _ ⟨t, rfl, ht1, ht2⟩
  cbv
  refine Exists.intro () (And.intro (by omega) ?_)
  rintro w5 _ ⟨W, rfl, hW1, hW2⟩
  cbv
  refine Exists.intro trs (And.intro ⟨hys, hacc, hCh _⟩ ?_)
  cbv
  split <;> cbv
  · rename_i hz; exact Bool.noConfusion (hz.symm.trans hN7)
  have hV := checkS_ok hv2
  have hb21 : Big p2.shares := by have := hV.sh.len; unfold Big; omega
  have hb22 : Big p2.creep := by have := hV.cr.len; unfold Big; omega
  have hN5 : trs.length ≤ 5 := by unfold iLen at hlen; omega
  have htb : 0 ≤ t ∧ t ≤ 5000 := by omega
  have hWb : 0 ≤ W ∧ W ≤ 12000 := by omega
  have hyl : ys.length = trs.length := by rw [hys, List.length_map]
  rw [hT]
  refine AGo_nilms 10 2 rfl ?_
  refine AGo_upE [3, 4, 5, 6, 7] trs.length (fun _ (_ : Unit) => True) (fun j _ i => [(11, I i), (10, .ms 2 5 j 0 j)]) (fun j _ => [X, .own 0 [U w5], .own 0 (cvC L f ys), .own 0 (plC a2 b2 xs2 ec2 ne2 ed2 gr2 lo2 hi2 sh2 wi2), .own 0 mtC, .own j (rpC j (W, W))]) () trivial ⟨rfl, rfl, trivial⟩ (.inl rfl) fun j _ i hij hj hP Bk hB => ?_
  have hlt : A.lt i (A.vlen ys) = decide (j < trs.length) := by subst hA; exact lt_len hyl hij
  have hadd : ∀ N, j < N → N ≤ 9223372036854775807 → A.add .i64 i 1 = iLen (j + 1) := fun N hj hN => by subst hA; exact add_one hij hj hN
  obtain ⟨cs, hcs⟩ : ∃ cs, cs = rpC j (W, W) := ⟨_, rfl⟩
  rw [← hcs]
  refine SGo_run hA ⟨[5], [1000056], tbL, []⟩ tbL_ok .nil 200 fun T TD hT hTD => ?_
  cbv
  split <;> cbv
  · rename_i hk0
    have hk1 : j < trs.length := by have hz := hlt.symm.trans hk0; simpa using hz
    clear hk0
    have happ := rp_app (x := W) hk1 (by omega) hA
    rw [← hcs] at happ
    obtain ⟨c2, hc2⟩ : ∃ c, c = rpC (j + 1) (W, W) := ⟨_, rfl⟩
    rw [← hc2] at happ
    refine And.intro (hsg _) (Exists.intro _ (Exists.intro _ (And.intro happ (And.intro rfl ?_)))); cbv
    refine hB () _ _ hk1 trivial ⟨congrArg I (hadd _ hk1 (by omega)), rfl, trivial⟩ ⟨rfl, rfl, rfl, rfl, rfl, trivial⟩ (.inl (by rw [hc2]))
  rename_i hk0
  have hk1 : ¬ j < trs.length := by have hz := hlt.symm.trans hk0; simpa using hz
  clear hk0
  have hjN : j = trs.length := by omega
  clear hB hlt hadd hP
  subst hjN
  rw [hT]
  obtain ⟨xw, hxw⟩ : ∃ v, v = (List.replicate trs.length (W, W)).map sp := ⟨_, rfl⟩
  refine AGo_frz1 10 (id := 5) (g := trs.length) (sz := 2) (n := trs.length) (xs := xw) (cs := cs) rfl rfl (by rw [hxw]; simp) (by rw [hcs, hxw]; exact Elems_sp _) ?_
  refine SGo_run hA ⟨[], [1], tbL, edL⟩ tbL_ok edL_ok 200 fun T TD hT hTD => ?_
  cbv
  refine Exists.intro p2 (Exists.intro (List.replicate trs.length (W, W)) (And.intro hp2 (And.intro hb21 (And.intro hb22 (And.intro ⟨hxw, by simp; omega⟩ ?_)))))
  rintro gv e0 hg
  obtain rfl := gap_ok hv2 htb hWb hN5 hg
  cbv
  split <;> cbv
  · rename_i hz; exact Bool.noConfusion (hz.symm.trans hN0)
  split <;> cbv
  · exact hk
  rename_i hz0
  split <;> cbv
  · exact hk
  rename_i hz1
  have hgv : 0 ≤ gv ∧ gv ≤ 70 := by
    have h1 : ¬ gv < 0 := by have z := (hll _ _).symm.trans hz0; simpa using z
    have h2 : ¬ 70 < gv := by have z := (hll _ _).symm.trans hz1; simpa using z
    omega
  clear hz0 hz1 hcs hxw hij
  obtain ⟨M, hM⟩ : ∃ M, M = (L / 100 + 1).toNat := ⟨_, rfl⟩
  have hM5 : M ≤ 4 := by omega
  rw [hT]
  refine AGo_nilms 14 2 rfl ?_
  refine AGo_upE [3, 4, 5, 6, 7] M (fun _ (_ : Unit) => True) (fun j _ i => [(15, I i), (14, .ms 2 6 j 0 j)]) (fun j _ => [X, .own 0 [U w5], .own 0 (cvC L f ys), .own 0 (plC a2 b2 xs2 ec2 ne2 ed2 gr2 lo2 hi2 sh2 wi2), .own 0 mtC, .gone, .own j (rpC j (t, t))]) () trivial ⟨rfl, rfl, trivial⟩ (.inl rfl) fun j _ i hij hj hP Bk hB => ?_
  have hle : A.le i (A.quo .i64 L 100) = decide (j < M) := by
    subst hA
    show decide (i ≤ iQuo .i64 L 100) = decide (j < M)
    rw [iQuo_id (by omega) (by omega) (by omega), decide_eq_decide, hij]
    unfold iLen
    omega
  have hadd : ∀ N, j < N → N ≤ 9223372036854775807 → A.add .i64 i 1 = iLen (j + 1) := fun N hj hN => by subst hA; exact add_one hij hj hN
  obtain ⟨cs, hcs⟩ : ∃ cs, cs = rpC j (t, t) := ⟨_, rfl⟩
  rw [← hcs]
  refine SGo_run hA ⟨[6], [1000085], tbL, []⟩ tbL_ok .nil 200 fun T TD hT hTD => ?_
  cbv
  split <;> cbv
  · rename_i hk0
    have hk1 : j < M := by have z := hle.symm.trans hk0; simpa using z
    have happ := rp_app (x := t) hk1 (by omega) hA
    rw [← hcs] at happ
    obtain ⟨c2, hc2⟩ : ∃ c, c = rpC (j + 1) (t, t) := ⟨_, rfl⟩
    rw [← hc2] at happ
    refine And.intro (hsg _) (Exists.intro _ (Exists.intro _ (And.intro happ (And.intro rfl ?_)))); cbv
    refine hB () _ _ hk1 trivial ⟨congrArg I (hadd _ hk1 (by omega)), rfl, trivial⟩ ⟨rfl, rfl, rfl, rfl, rfl, trivial⟩ (.inl (by rw [hc2]))
  rename_i hk0
  have hjN : j = M := by have z := hle.symm.trans hk0; simp at z; omega
  clear hB hle hadd hP hk0
  subst hjN
  rw [hT]
  obtain ⟨xi, hxi⟩ : ∃ v, v = (List.replicate j (t, t)).map sp := ⟨_, rfl⟩
  refine AGo_frz1 14 (id := 6) (g := j) (sz := 2) (n := j) (xs := xi) (cs := cs) rfl rfl (by rw [hxi]; simp) (by rw [hcs, hxi]; exact Elems_sp _) ?_
  clear hcs hij
  have hvl : A.vlen ys = iLen trs.length := by subst hA; show iLen ys.length = _; rw [hyl]
  refine SGo_run hA ⟨[], [1], tbL, edL⟩ tbL_ok edL_ok 200 fun T TD hT hTD => ?_
  cbv
  refine Exists.intro () (And.intro ⟨⟨by show 0 ≤ A.vlen ys; rw [hvl]; unfold iLen; omega, by show A.vlen ys ≤ 100; rw [hvl]; unfold iLen; omega⟩, by omega⟩ ?_)
  rintro w6 _ ⟨bs, xb, rfl, hxb, hbl, hbc⟩
  have hbl : bs.length = trs.length := by have z := hbl.trans hvl; unfold iLen at z; omega
  cbv
  rw [hT]
  refine AGo_nilms 18 1 rfl ?_
  refine AGo_upE [3, 4, 5, 7, 14, 16, 17] trs.length (fun j (s : Int × List (List Int)) => s.2.length = j ∧ ∀ (i : Nat) (t : Tck) (b : Bool) (gs : List Int), trs[i]? = some t → bs[i]? = some b → s.2[i]? = some gs → gs.length = 700 + 1 ∧ ∀ m, m ≤ 700 → (waysT L (freeT b t) m).1 ≤ gs.getD m 0 ∧ gs.getD m 0 ≤ (waysT L (freeT b t) m).2)
    (fun j _ i => [(19, I i), (18, .ms 1 7 j 0 j)]) (fun j s => [X, .own 0 [U s.1], .own 0 (cvC L f ys), .own 0 (plC a2 b2 xs2 ec2 ne2 ed2 gr2 lo2 hi2 sh2 wi2), .own 0 mtC, .gone, .gone, .own j (s.2.flatMap fun gs => [goA gs])]) (w6, []) ⟨rfl, fun i t b gs _ _ h => by simp at h⟩ ⟨rfl, rfl, trivial⟩ (.inl rfl) fun j s i hij hj hP Bk hB => ?_
  obtain ⟨w7, gss⟩ := s
  dsimp only at hP hB ⊢
  obtain ⟨hP1, hP2⟩ := hP
  have hlt : A.lt i (A.vlen ys) = decide (j < trs.length) := by subst hA; exact lt_len hyl hij
  have hadd : ∀ N, j < N → N ≤ 9223372036854775807 → A.add .i64 i 1 = iLen (j + 1) := fun N hj hN => by subst hA; exact add_one hij hj hN
  obtain ⟨cs, hcs⟩ : ∃ cs, cs = gss.flatMap fun gs => [goA gs] := ⟨_, rfl⟩
  rw [← hcs]
  refine SGo_run hA ⟨[7], [1, 1007], tbL, edL⟩ tbL_ok edL_ok 200 fun T TD hT hTD => ?_
  cbv
  split <;> cbv
  · rename_i hk0
    have hk1 : j < trs.length := by have hz := hlt.symm.trans hk0; simpa using hz
    clear hk0
    obtain ⟨⟨w, st, lo, hi, hs⟩, hx⟩ : ∃ x, trs[j]? = some x := ⟨_, List.getElem?_eq_getElem hk1⟩
    obtain ⟨b, hbx⟩ : ∃ x, bs[j]? = some x := ⟨_, List.getElem?_eq_getElem (by omega)⟩
    have hTV : TckV L 70 ⟨w, st, lo, hi, hs⟩ := hacc.v.all _ (List.mem_of_getElem? hx)
    obtain ⟨zh, hzh⟩ : ∃ z, z = hs.map hdV := ⟨_, rfl⟩
    have hix : A.ix 5 5 ys i [I w, I st, I lo, I hi, .vs 2 zh] := by subst hA; rw [hzh]; exact ix_map hys hij hx rfl
    have hib : A.ix 1 1 xb i [B b] := by subst hA; exact ix_map hxb hij hbx rfl
    refine Exists.intro _ (And.intro hix ?_); cbv
    refine Exists.intro _ (And.intro hib ?_); cbv
    refine Exists.intro () (And.intro ⟨hs, 700, hzh, rfl, hTV, by omega, by omega⟩ ?_)
    rintro w8 _ ⟨hs', n', e1, e2, gs, xs, rfl, hxs, hgl, hgb⟩
    obtain rfl := hdV_inj (hzh.symm.trans e1)
    obtain rfl : n' = 700 := by unfold iLen at e2; omega
    cbv
    refine And.intro (by subst hA; exact .inr ⟨subX (by simp [SubH]), by first | (simp [ResK]; done) | (simp [ResK]; exact .inr fun _ => subX (by simp [SubH]))⟩) ?_; cbv
    have hne : gss.length = j := hP1
    obtain ⟨c2, hc2⟩ : ∃ c, c = (gss ++ [gs]).flatMap fun gs => [goA gs] := ⟨_, rfl⟩
    have happ : A.app 1 1 24 cs 0 j [.vs 1 xs] c2 (j + 1) := by
      subst hA
      rw [hc2, hxs]
      exact app_map hcs hne (fun _ => rfl) rfl rfl (by omega)
    refine And.intro (hsg _) (Exists.intro _ (Exists.intro _ (And.intro happ (And.intro rfl ?_)))); cbv
    refine And.intro (by subst hA; exact .inr ⟨subX (by simp [SubH]), by first | (simp [ResK]; done) | (simp [ResK]; exact .inr fun _ => subX (by simp [SubH]))⟩) ?_; cbv
    refine hB (w8, gss ++ [gs]) _ _ hk1 ⟨by simp [hne], fun i' t' b' gs' h1 h2 h3 => ?_⟩ ⟨congrArg I (hadd _ hk1 (by omega)), rfl, trivial⟩ ⟨rfl, rfl, rfl, rfl, rfl, rfl, rfl, trivial⟩ (.inl (by rw [hc2]))
    rcases Nat.lt_or_ge i' j with h4 | h4
    · rw [List.getElem?_append_left (by omega)] at h3
      exact hP2 i' t' b' gs' h1 h2 h3
    · rw [List.getElem?_append_right (by omega)] at h3
      have h5 : i' = j := by
        have := (List.getElem?_eq_some_iff.1 h3).1
        simp at this; omega
      subst h5
      rw [hne, Nat.sub_self] at h3
      rw [hx] at h1
      rw [hbx] at h2
      cases h1
      cases h2
      cases h3
      exact ⟨hgl, hgb⟩
  rename_i hk0
  have hk1 : ¬ j < trs.length := by have hz := hlt.symm.trans hk0; simpa using hz
  clear hk0
  have hjN : j = trs.length := by omega
  clear hB hlt hadd
  subst hjN
  have hQ : CrsQ L f trs bs gss 700 := ⟨hL, hacc, hbl, hbc, hP1, hP2⟩
  rw [hT]
  obtain ⟨xg, hxg⟩ : ∃ v, v = gss.map goA := ⟨_, rfl⟩
  refine AGo_frz1 18 (id := 7) (g := trs.length) (sz := 1) (n := trs.length) (xs := xg) (cs := cs) rfl rfl (by rw [hxg, List.length_map]; exact hP1) (by rw [hcs, hxg]; exact Elems_map (f := goA) (g := fun gs => [goA gs]) (sz := 1) (fun _ => rfl) (fun _ => rfl) (fun _ => rfl) gss) ?_
  clear hcs hij hP1 hP2
  refine AGo_upE [3, 4, 5, 7, 14, 16, 17, 18] 701 (fun _ (_ : Int) => True) (fun j _ i => [(20, I i)]) (fun j s => [X, .own 0 [U s], .own 0 (cvC L f ys), .own 0 (plC a2 b2 xs2 ec2 ne2 ed2 gr2 lo2 hi2 sh2 wi2), .own 0 mtC, .gone, .gone, .gone]) w7 trivial ⟨rfl, trivial⟩ (.inl rfl) fun m w8 i hij hj _ Bk hB => ?_
  have hle : A.le i 700 = decide (m < 701) := by
    subst hA
    show decide (i ≤ 700) = decide (m < 701)
    rw [decide_eq_decide, hij]
    unfold iLen
    omega
  have hadd : ∀ N, m < N → N ≤ 9223372036854775807 → A.add .i64 i 1 = iLen (m + 1) := fun N hj hN => by subst hA; exact add_one hij hj hN
  refine SGo_run hA ⟨[], [1], tbL, edL⟩ tbL_ok edL_ok 200 fun T TD hT hTD => ?_
  cbv
  split <;> cbv
  rotate_left
  · exact hk
  rename_i hk0
  have hm1 : m < 701 := by have z := hle.symm.trans hk0; simpa using z
  clear hk0 hle
  rw [hT]
  refine AGo_nilms 21 4 rfl ?_
  refine AGo_upE [3, 4, 5, 7, 14, 16, 17, 18, 20] trs.length (fun k (s : Int × List Load) => LdsQ W (posL L trs bs gss m k) s.2) (fun _ s i => [(22, I i), (21, .ms 4 8 s.2.length 0 s.2.length)]) (fun _ s => [X, .own 0 [U s.1], .own 0 (cvC L f ys), .own 0 (plC a2 b2 xs2 ec2 ne2 ed2 gr2 lo2 hi2 sh2 wi2), .own 0 mtC, .gone, .gone, .gone, .own s.2.length (s.2.flatMap ldC)]) (w8, []) LdsQ.nil ⟨rfl, rfl, trivial⟩ (.inl rfl) fun k s i2 hij2 hk2 hP Bk2 hB2 => ?_
  obtain ⟨w9, ls⟩ := s
  dsimp only at hP hB2 ⊢
  have hlt : A.lt i2 (A.vlen ys) = decide (k < trs.length) := by subst hA; exact lt_len hyl hij2
  have hadd2 : ∀ N, k < N → N ≤ 9223372036854775807 → A.add .i64 i2 1 = iLen (k + 1) := fun N hj hN => by subst hA; exact add_one hij2 hj hN
  obtain ⟨n, hn⟩ : ∃ n, n = ls.length := ⟨_, rfl⟩
  obtain ⟨cs, hcs⟩ : ∃ cs, cs = ls.flatMap ldC := ⟨_, rfl⟩
  rw [← hn, ← hcs]
  refine SGo_run hA ⟨[8], [1, 1008, 1000179], tbL, edL⟩ tbL_ok edL_ok 200 fun T TD hT hTD => ?_
  cbv
  split <;> cbv
  · rename_i hk0
    have hk1 : k < trs.length := by have z := hlt.symm.trans hk0; simpa using z
    clear hk0
    obtain ⟨⟨w, st, lo, hi, hs⟩, b, gs, hx, hbx, hgx, hgl, hTV, hgo⟩ := hQ.at_ hk1
    have hgo := hgo m (by omega)
    obtain ⟨g, hg2⟩ : ∃ g, gs[m]? = some g := ⟨_, List.getElem?_eq_getElem (by omega)⟩
    have hgd : gs.getD m 0 = g := by rw [List.getD_eq_getElem?_getD, hg2]; rfl
    rw [hgd] at hgo
    obtain ⟨zh, hzh⟩ : ∃ z, z = hs.map hdV := ⟨_, rfl⟩
    obtain ⟨zg, hzg⟩ : ∃ z, z = gs.map I := ⟨_, rfl⟩
    have hix : A.ix 5 5 ys i2 [I w, I st, I lo, I hi, .vs 2 zh] := by subst hA; rw [hzh]; exact ix_map hys hij2 hx rfl
    have hib : A.ix 1 1 xb i2 [B b] := by subst hA; exact ix_map hxb hij2 hbx rfl
    have hig : A.ix 1 1 xg i2 [.vs 1 zg] := by subst hA; rw [hzg]; exact ix_map hxg hij2 hgx rfl
    have him : A.ix 1 1 zg i [I g] := by subst hA; exact ix_map hzg hij hg2 rfl
    have hon : onF L trs bs gss m k = lanB L w st g m (frH b hs) := by
      unfold onF
      rw [show trs.getD k ⟨0, 0, 0, 0, []⟩ = ⟨w, st, lo, hi, hs⟩ by rw [List.getD_eq_getElem?_getD, hx]; rfl, show bs.getD k false = b by rw [List.getD_eq_getElem?_getD, hbx]; rfl, show gss.getD k [] = gs by rw [List.getD_eq_getElem?_getD, hgx]; rfl, hgd]
    have hpo : posF L trs gss m k = aloC L w g := by
      unfold posF
      rw [show trs.getD k ⟨0, 0, 0, 0, []⟩ = ⟨w, st, lo, hi, hs⟩ by rw [List.getD_eq_getElem?_getD, hx]; rfl, show gss.getD k [] = gs by rw [List.getD_eq_getElem?_getD, hgx]; rfl, hgd]
    have hps : posL L trs bs gss m (k + 1) = if lanB L w st g m (frH b hs) then posL L trs bs gss m k ++ [aloC L w g] else posL L trs bs gss m k := by rw [posL_succ, hon, hpo]
    have hst : ∀ x, A.le x i = decide (x ≤ (m : Int)) := by subst hA; intro x; show decide (x ≤ i) = _; rw [hij]; rfl
    have hskip : lanB L w st g m (frH b hs) = false → LdsQ W (posL L trs bs gss m (k + 1)) ls := fun h => by rw [hps, h]; exact hP
    refine Exists.intro _ (And.intro hix ?_); cbv
    split <;> cbv
    rotate_left
    · rename_i hz
      have hz : ¬ st ≤ (m : Int) := by have z := (hst _).symm.trans hz; simpa using z
      refine hB2 (w9, ls) _ _ hk1 (hskip ?_) ⟨congrArg I (hadd2 _ hk1 (by omega)), by rw [hn]; rfl, trivial⟩ ⟨rfl, rfl, rfl, rfl, rfl, rfl, rfl, rfl, rfl, trivial⟩ (.inl (by rw [hn, hcs]))
      rw [Bool.eq_false_iff]
      intro h
      exact hz (lanB_iff.1 h).1
    refine Exists.intro _ (And.intro hix ?_); cbv
    refine Exists.intro _ (And.intro hib ?_); cbv
    refine Exists.intro _ (And.intro hig ?_); cbv
    refine Exists.intro _ (And.intro him ?_); cbv
    have hHS : HldS hs := fun x hx => by have := (hTV.hs.all x hx).1; omega
    have hhl : hs.length ≤ 1000 := by have := hTV.hs.n; dsimp only at this; omega
    have hgb : -1000000000 ≤ g ∧ g ≤ 1000000000 := by
      have b1 := waysT_bnd (hTV.free b) (show 1 ≤ L by omega) m
      have b3 := stopT_bnd (hTV.free b) (show 1 ≤ L by omega) m
      omega
    refine Exists.intro hs (And.intro ⟨hzh, by omega, hHS, hhl⟩ ?_)
    intro q hq
    have hq : lanB L w st g m (frH b hs) = q := by rw [hq, hij]; rfl
    cases q with
    | false =>
      cbv
      refine hB2 (w9, ls) _ _ hk1 (hskip hq) ⟨congrArg I (hadd2 _ hk1 (by omega)), by rw [hn]; rfl, trivial⟩ ⟨rfl, rfl, rfl, rfl, rfl, rfl, rfl, rfl, rfl, trivial⟩ (.inl (by rw [hn, hcs]))
    | true =>
      cbv
      refine Exists.intro _ (And.intro hix ?_); cbv
      refine Exists.intro _ (And.intro hig ?_); cbv
      refine Exists.intro _ (And.intro him ?_); cbv
      have hnk : n ≤ k := by
        have h1 := congrArg List.length hP.at_
        rw [List.length_map] at h1
        have h2 := posL_len (L := L) (trs := trs) (bs := bs) (gss := gss) (m := m) (k := k)
        omega
      refine Exists.intro () (And.intro ⟨by omega, hgb⟩ ?_)
      intro q hq0; cbv
      refine Exists.intro () (And.intro (by omega) ?_)
      rintro w10 _ ⟨r, rfl, hr1, hr2⟩
      cbv
      repeat (first | (refine And.intro (by subst hA; exact .inr ⟨subX (by simp [SubH]), by first | (simp [ResK]; done) | (simp [ResK]; exact .inr fun _ => subX (by simp [SubH]))⟩) ?_; cbv))
      obtain ⟨c2, hc2⟩ : ∃ c, c = (ls ++ [(⟨aloC L w g, (r, r), 0⟩ : Load)]).flatMap ldC := ⟨_, rfl⟩
      have happ : A.app 4 4 32 cs 0 n [.agg [I q, I r, I r, I 0]] c2 (n + 1) := by
        subst hA
        rw [hc2, hq0]
        exact app_map hcs hn.symm (fun _ => rfl) rfl rfl (by omega)
      refine And.intro (hsg _) (Exists.intro _ (Exists.intro _ (And.intro happ (And.intro rfl ?_)))); cbv
      repeat (first | (refine And.intro (by subst hA; exact .inr ⟨subX (by simp [SubH]), by first | (simp [ResK]; done) | (simp [ResK]; exact .inr fun _ => subX (by simp [SubH]))⟩) ?_; cbv))
      have hrW : 0 ≤ r ∧ r ≤ W := by omega
      refine hB2 (w10, ls ++ [⟨aloC L w g, (r, r), 0⟩]) _ _ hk1 (by rw [hps, if_pos hq]; exact hP.snoc hrW) ⟨congrArg I (hadd2 _ hk1 (by omega)), by rw [List.length_append, ← hn]; rfl, trivial⟩ ⟨rfl, rfl, rfl, rfl, rfl, rfl, rfl, rfl, rfl, trivial⟩ (.inl (by rw [hc2, List.length_append, ← hn]; rfl))
  rename_i hk0
  have hkN : k = trs.length := by have z := hlt.symm.trans hk0; simp at z; omega
  clear hk0 hlt hadd2 hB2
  subst hkN
  rw [hT]
  obtain ⟨xl, hxl⟩ : ∃ v, v = ls.map ldV := ⟨_, rfl⟩
  refine AGo_frz1 21 (id := 8) (g := n) (sz := 4) (n := n) (xs := xl) (cs := cs) rfl rfl (by rw [hxl, List.length_map, hn]) (by rw [hcs, hxl]; exact Elems_ldC _) ?_
  have hho := lane_holds hv2 htb hWb hQ hN5 (show m ≤ 700 by omega) hg.symm hgv hP
  have hnN : n ≤ 5 := by
    have h1 := congrArg List.length hP.at_
    rw [List.length_map] at h1
    have h2 := posL_len (L := L) (trs := trs) (bs := bs) (gss := gss) (m := m) (k := trs.length)
    omega
  rw [← hM] at hho
  clear hcs hij2 hP
  refine SGo_run hA ⟨[], [1], tbL, edL⟩ tbL_ok edL_ok 200 fun T TD hT hTD => ?_
  cbv
  refine Exists.intro p2 (Exists.intro (List.replicate j (t, t)) (Exists.intro [] (Exists.intro ls (And.intro hp2 (And.intro hb21 (And.intro hb22 (And.intro ⟨hxi, by simp; omega⟩ (And.intro ⟨rfl, by simp⟩ (And.intro ⟨hxl, by omega⟩ ?_)))))))))
  rintro rr ee zs hre hzs
  rw [hho] at hre
  obtain ⟨rfl, rfl⟩ := Prod.mk.inj hre
  have hzl : zs.length = n := by rw [hzs, hn]; simp
  have hzn : A.ne (A.vlen zs) (A.vlen xl) = false := by subst hA; simp [std, iNe, hzl, hxl, hn]
  cbv
  split <;> cbv
  · rename_i hq; exact Bool.noConfusion (hq.symm.trans hN0)
  split <;> cbv
  · rename_i hq; exact Bool.noConfusion (hq.symm.trans hzn)
  clear hzn hho hn hre
  rw [hT]
  refine AGo_upE [3, 4, 5, 7, 14, 16, 17, 18, 20, 23] n (fun _ (_ : Unit) => True) (fun _ _ i => [(25, I i)]) (fun _ _ => [X, .own 0 [U w9], .own 0 (cvC L f ys), .own 0 (plC a2 b2 xs2 ec2 ne2 ed2 gr2 lo2 hi2 sh2 wi2), .own 0 mtC, .gone, .gone, .gone, .gone]) () trivial ⟨rfl, trivial⟩ (.inl rfl) fun k _ i3 hij3 hk3 _ Bk3 hB3 => ?_
  have hlt3 : A.lt i3 (A.vlen zs) = decide (k < n) := by subst hA; exact lt_len hzl hij3
  have hadd3 : ∀ N, k < N → N ≤ 9223372036854775807 → A.add .i64 i3 1 = iLen (k + 1) := fun N hj hN => by subst hA; exact add_one hij3 hj hN
  have hN1 : A.ne 1 1 = false := by subst hA; rfl
  refine SGo_run hA ⟨[], [], [], []⟩ .nil .nil 200 fun T TD hT hTD => ?_
  cbv
  split <;> cbv
  · rename_i hk0
    have hk1 : k < n := by have z := hlt3.symm.trans hk0; simpa using z
    have hzk : (ls.map fun _ => (1 : Int))[k]? = some 1 := by
      have h1 : k < (ls.map fun _ => (1 : Int)).length := by
        have h2 := congrArg List.length hzs
        simp at h2 ⊢
        omega
      rw [List.getElem?_eq_getElem h1]; simp
    have hix : A.ix 1 1 zs i3 [I 1] := by subst hA; exact ix_map hzs hij3 hzk rfl
    refine Exists.intro _ (And.intro hix ?_); cbv
    split <;> cbv
    · rename_i hq; exact Bool.noConfusion (hq.symm.trans hN1)
    refine hB3 () _ _ hk1 trivial ⟨congrArg I (hadd3 _ hk1 (by omega)), trivial⟩ ⟨rfl, rfl, rfl, rfl, rfl, rfl, rfl, rfl, rfl, rfl, trivial⟩ (.inl rfl)
  · refine hB w9 _ _ hm1 trivial ⟨congrArg I (hadd _ hm1 (by omega)), trivial⟩ ⟨rfl, rfl, rfl, rfl, rfl, rfl, rfl, rfl, trivial⟩ (.inr ⟨⟨_, rfl⟩, by simp, by simp [ltG, AV.lt, AV.ltL, keepS, look, gset], ⟨hlX 7, by simp [ltH, AObj.lt, AV.ltL, AV.lt]⟩⟩)
end Go.Sas
