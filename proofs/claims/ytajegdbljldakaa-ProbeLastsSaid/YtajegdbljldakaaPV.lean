/-
Probe: why a place is shut, and its verdict: contracts.
Probe: patches of the road by marks: contracts.
Conditions: none.
-/
import Derived.Test.YtajegdbljldakaaPK
import Derived.Test.YtajegdbljldakaaPS
import Derived.Test.YtajegdbljldakaaQRFg
import Derived.Test.YtajegdbljldakaaPC
import Derived.Test.YtajegdbljldakaaPU
set_option linter.unusedVariables false
set_option linter.unusedSimpArgs false
namespace Go.Sas
open Go.Proofs
set_option maxRecDepth 100000
/-- the value of the first run that has a place -/
def atS (l : List (Nat × Nat × Int)) (q : Nat) : Int := match l.find? (fun x => decide (x.1 ≤ q ∧ q ≤ x.2.1)) with
  | some x => x.2.2
  | none => 0
theorem p27 (l : List (Nat × Nat × Int)) (q : Nat) (hl : l.length ≤ 1000000) (H : AHeap) {Kk : AV → AHeap → Prop} (h : Kk (I (atS l q)) H) : ACalls Try.prog 27 [.vs 3 (l.map cloV), I (iLen q)] H Kk := by
  refine (fun z => pureC (by simp [AV.nidL, AV.nid, nidL_map (g := cloV) (fun _ => rfl) l]) (by rfl) z H h) ?_
  clear h
  intro Kk h
  obtain ⟨xs, hxs⟩ : ∃ xs, xs = l.map cloV := ⟨_, rfl⟩
  obtain ⟨iq, hiq⟩ : ∃ i, i = iLen q := ⟨_, rfl⟩
  rw [← hxs, ← hiq]
  obtain ⟨M, hM⟩ : ∃ M, M = l.length := ⟨_, rfl⟩
  obtain ⟨W, hW⟩ : ∃ W, W = atS l q := ⟨_, rfl⟩
  rw [← hW] at h
  obtain ⟨A, hA⟩ : ∃ A, A = std := ⟨_, rfl⟩
  have hne : ∀ x y, A.ne x y = decide (x ≠ y) := by subst hA; intro x y; simp only [std, iNe]; rw [Bool.eq_iff_iff]; simp
  have hee : ∀ x y, A.eq x y = decide (x = y) := by subst hA; intro x y; exact iEq_dec _ _
  have hll : ∀ x y, A.lt x y = decide (x < y) := by subst hA; intro x y; rfl
  have hle : ∀ x y, A.le x y = decide (x ≤ y) := by subst hA; intro x y; rfl
  have hnb : ∀ b, A.bnot b = !b := by subst hA; intro b; rfl
  have hbd : ∀ x y, A.band x y = (x && y) := by subst hA; intro x y; rfl
  have hsg : ∀ g, A.sg g g := by subst hA; exact fun _ => rfl
  have hvv : A.vlen xs = iLen M := by subst hA; rw [hxs, hM]; simp [std]
  refine go27 rfl (SGo_run hA ⟨[], [], [], []⟩ .nil .nil 200 fun T TD hT hTD => ?_)
  cbv
  rw [hT]
  refine AGo_upE [0, 1] M (fun j (_ : Unit) => W = atS (l.drop j) q) (fun j _ i => [(5, I i)]) (fun j _ => []) () hW ⟨rfl, trivial⟩ (.inl rfl) fun j _ i hi hj hP Bk hB => ?_
  have hlt : A.lt i (A.vlen xs) = decide (j < M) := by rw [hvv, hll, hi, decide_eq_decide]; unfold iLen; omega
  have hadd : ∀ N, j < N → N ≤ 9223372036854775807 → A.add .i64 i 1 = iLen (j + 1) := fun N hj hN => by subst hA; exact add_one hi hj hN
  refine SGo_run hA ⟨[], [], [], []⟩ .nil .nil 200 fun T TD hT hTD => ?_
  cbv
  split <;> cbv
  · rename_i hk0
    have hk1 : j < M := by have hz := hlt.symm.trans hk0; simpa using hz
    clear hk0
    obtain ⟨⟨u, v, w⟩, hx⟩ : ∃ x, l[j]? = some x := ⟨_, List.getElem?_eq_getElem (by omega)⟩
    have hd : l.drop j = (u, v, w) :: l.drop (j + 1) := drop_cons hx
    rw [hd] at hP
    obtain ⟨iu, hiu⟩ : ∃ i, i = iLen u := ⟨_, rfl⟩
    obtain ⟨iv, hiv⟩ : ∃ i, i = iLen v := ⟨_, rfl⟩
    have hix : A.ix 3 3 xs i [I iu, I iv, I w] := by subst hA hiu hiv; exact ix_map hxs hi hx rfl
    have hl1 : A.le iu iq = decide (u ≤ q) := by rw [hle, hiu, hiq, decide_eq_decide]; unfold iLen; omega
    have hl2 : A.le iq iv = decide (q ≤ v) := by rw [hle, hiv, hiq, decide_eq_decide]; unfold iLen; omega
    have hno : ¬ (u ≤ q ∧ q ≤ v) → W = atS (l.drop (j + 1)) q := fun hh => by rw [hP]; unfold atS; rw [List.find?_cons_of_neg (by simpa using hh)]
    have hyes : u ≤ q → q ≤ v → W = w := fun h1 h2 => by rw [hP]; unfold atS; rw [List.find?_cons_of_pos (by simp [h1, h2])]
    have hadj := hadd _ hk1 (by omega)
    refine Exists.intro _ (And.intro hix ?_); cbv
    split <;> cbv
    · rename_i hz1
      have hz1 := of_decide_eq_true (hl1.symm.trans hz1)
      refine Exists.intro _ (And.intro hix ?_); cbv
      split <;> cbv
      · rename_i hz2
        have hz2 := of_decide_eq_true (hl2.symm.trans hz2)
        refine Exists.intro _ (And.intro hix ?_); cbv
        exact leaf h (congrArg I (hyes hz1 hz2)) rfl
      · rename_i hz2
        have hz2 := of_decide_eq_false (hl2.symm.trans hz2)
        exact hB () _ _ hk1 (hno fun hh => hz2 hh.2) ⟨congrArg I hadj, trivial⟩ ⟨rfl, rfl, trivial⟩ (.inl rfl)
    · rename_i hz1
      have hz1 := of_decide_eq_false (hl1.symm.trans hz1)
      exact hB () _ _ hk1 (hno fun hh => hz1 hh.1) ⟨congrArg I hadj, trivial⟩ ⟨rfl, rfl, trivial⟩ (.inl rfl)
  · rename_i hk0
    have hk1 : ¬ j < M := by have hz := hlt.symm.trans hk0; simpa using hz
    clear hk0
    have : W = 0 := by rw [hP, List.drop_eq_nil_of_le (by omega)]; rfl
    exact leaf h (congrArg I this) rfl
def eAt : List AV → Option ((AV → Prop) → Prop)
  | [.vs 3 xs, .lit (.int .i64 i)] => some fun K => ∃ (l : List (Nat × Nat × Int)) (q : Nat), (xs = l.map cloV ∧ i = iLen q ∧ l.length ≤ 1000000) ∧ ∀ v, v = atS l q → K (I v)
  | _ => none
theorem eAt_ok {f : Nat} (hf : ∀ (l : List (Nat × Nat × Int)) (q : Nat), l.length ≤ 1000000 → ∀ (H : AHeap) {Kk : AV → AHeap → Prop}, Kk (I (atS l q)) H → ACalls Try.prog f [.vs 3 (l.map cloV), I (iLen q)] H Kk) :
    ∀ args pt, eAt args = some pt → ∀ (H : AHeap) (Kk : AV → AHeap → Prop), pt (fun r => Kk r H) → ACalls Try.prog f args H Kk := by
  intro args pt h H Kk hk
  unfold eAt at h
  split at h
  · cases h
    obtain ⟨l, q, ⟨rfl, rfl, h1⟩, h2⟩ := hk
    exact hf l q h1 H (h2 _ rfl)
  · cases h
theorem at_clo {V : Nat → Int} {N p : Nat} (hp : p < N) : atS (cloS V N) p = V p := by
  unfold atS
  split
  · rename_i x hx
    have h1 := List.mem_of_find?_eq_some hx
    have h2 := List.find?_some hx
    simp only [decide_eq_true_eq] at h2
    exact ((runsN_mem (List.mem_filter.1 h1).1).2.2 p h2.1 h2.2).symm
  · rename_i hx
    rw [List.find?_eq_none] at hx
    obtain ⟨x, h1, h2, h3⟩ := runsN_cov (V := V) hp
    have h4 := (runsN_mem h1).2.2 p h2 h3
    by_cases h0 : V p = 0
    · exact h0.symm
    · exact absurd (show decide (x.1 ≤ p ∧ p ≤ x.2.1) = true by simp [h2, h3]) (hx x (List.mem_filter.2 ⟨h1, by rw [← h4]; simp [h0]⟩))
end Go.Sas
namespace Go.Sas
open Go.Proofs
set_option maxRecDepth 100000
theorem p85 (f t v : Int) (n : Nat) (cs : List AV) (hl : cs.length = n * 3) (hn : n ≤ 1000000) {Kk : AV → AHeap → Prop} (h : Kk (.tup []) [.own 0 [.ms 3 1 (n + 1) 0 (n + 1)], .own (n + 1) (cs ++ [I f, I t, I v])]) : ACalls Try.prog 85 [I f, I t, I v, .mp 0 0 0] [.own 0 [.ms 3 1 n 0 n], .own n cs] Kk := by
  obtain ⟨A, hA⟩ : ∃ A, A = std := ⟨_, rfl⟩
  have hsg : ∀ g, A.sg g g := by subst hA; exact fun _ => rfl
  obtain ⟨cs2, hcs2⟩ : ∃ x, x = cs ++ [I f, I t, I v] := ⟨_, rfl⟩
  rw [← hcs2] at h
  have happ : A.app 3 3 24 cs 0 n [.agg [I f, I t, I v]] cs2 (n + 1) := by subst hA; rw [hcs2]; exact app_one hl rfl (by omega)
  refine go85 rfl ?_
  refine AGo_opq fun RR hRR => ?_
  refine SGo_run hA ⟨[1], [], [], []⟩ .nil .nil 200 fun T TD hT hTD => ?_
  cbv
  refine And.intro (hsg _) (Exists.intro cs2 (Exists.intro (n + 1) (And.intro happ (And.intro rfl ?_))))
  cbv
  exact hRR _ _ (RetP.same (vs := []) rfl rfl h)
def ePat : List AV → AHeap → Option PT
  | [.lit (.int .i64 f), .lit (.int .i64 t), .lit (.int .i64 v), .mp 0 0 0], [.own 0 [.ms 3 1 n 0 n'], .own n'' cs] => some fun K => ∃ k : Nat, n = k ∧ n' = k ∧ n'' = k ∧ cs.length = k * 3 ∧ k ≤ 1000000 ∧ (∀ cs2, cs2 = cs ++ [I f, I t, I v] → K (.tup []) [.own 0 [.ms 3 1 (k + 1) 0 (k + 1)], .own (k + 1) cs2])
  | _, _ => none
theorem ePat_ok : ∀ args H pt, ePat args H = some pt → ∀ (Kk : AV → AHeap → Prop), pt Kk → ACalls Try.prog 85 args H Kk := by
  intro args H pt h Kk hk
  unfold ePat at h
  split at h
  · cases h
    obtain ⟨k, rfl, rfl, rfl, h1, h2, h3⟩ := hk
    exact p85 _ _ _ _ _ h1 h2 (h3 _ rfl)
  · cases h
theorem p71_85 (V : Nat → Int) (N : Nat) (hN : N ≤ 1000) {Kk : AV → AHeap → Prop} (h : Kk (.tup []) [.own 0 [.ms 3 1 (runsN V N).length 0 (runsN V N).length], .own (runsN V N).length ((runsN V N).flatMap cloC)]) :
    ACalls Try.prog 71 [.vs 1 (((List.range N).map V).map I), .fn 85 [.mp 0 0 0]] [.own 0 [.ms 3 1 0 0 0], .own 0 []] Kk := by
  obtain ⟨xs, hxs⟩ : ∃ xs, xs = ((List.range N).map V).map I := ⟨_, rfl⟩
  rw [← hxs]
  have hget : ∀ p, p < N → ((List.range N).map V)[p]? = some (V p) := fun p hp => by simp [hp]
  obtain ⟨A, hA⟩ : ∃ A, A = std := ⟨_, rfl⟩
  have hsg : ∀ g, A.sg g g := by subst hA; exact fun _ => rfl
  have hv : A.vlen xs = iLen N := by subst hA; simp [std, hxs]
  obtain ⟨G, hG⟩ : ∃ G : List (Nat × Nat × Int) → AHeap, G = fun l => [.own 0 [.ms 3 1 l.length 0 l.length], .own l.length (l.flatMap cloC)] := ⟨_, rfl⟩
  have hs0 : (runsN V 0).length = 0 ∧ (runsN V 0).flatMap cloC = [] := ⟨rfl, rfl⟩
  refine go71 rfl ?_
  refine AGo_opq fun RR hRR => ?_
  refine SGo_run hA ⟨[], [], [], []⟩ .nil .nil 200 fun T TD hT hTD => ?_
  cbv
  rw [hT]
  refine AGo_whileE (σ := Nat) [0, 1] (fun f => N - f) (fun f => f ≤ N ∧ (f = 0 ∨ f = N ∨ V (f - 1) ≠ V f)) (fun f => [(4, I (iLen f))]) (fun f => G (runsN V f)) 0 ⟨Nat.zero_le _, .inl rfl⟩ ⟨rfl, trivial⟩ (.inl (by rw [hG]; dsimp only; rw [hs0.1, hs0.2])) fun f hP Bk hB => ?_
  obtain ⟨hf, hP⟩ := hP
  obtain ⟨iq, hiq⟩ : ∃ q, q = iLen f := ⟨_, rfl⟩
  rw [← hiq]
  obtain ⟨L, hL⟩ : ∃ L, L = runsN V f := ⟨_, rfl⟩
  rw [← hL]
  have hLl : L.length ≤ f := by rw [hL]; exact runsN_len
  obtain ⟨n, hn⟩ : ∃ n, n = L.length := ⟨_, rfl⟩
  obtain ⟨cs, hcs⟩ : ∃ x, x = L.flatMap cloC := ⟨_, rfl⟩
  have hcl : cs.length = n * 3 := by rw [hcs, hn, len_flat (k := 3) (fun _ => rfl)]
  have hGL : G L = [.own 0 [.ms 3 1 n 0 n], .own n cs] := by rw [hG, hn, hcs]
  rw [hGL]
  have hlt : A.lt iq (A.vlen xs) = decide (f < N) := by rw [hv]; subst hA; simp only [std, iLt]; rw [decide_eq_decide, hiq]; unfold iLen; omega
  refine SGo_run hA ⟨[], [], [], []⟩ .nil .nil 200 fun T TD hT hTD => ?_
  cbv
  split <;> cbv
  · rename_i hz
    have hf1 : f < N := by have hz := hlt.symm.trans hz; simpa using hz
    rw [hT]
    refine AGo_whileE (σ := Nat) [0, 1, 4] (fun t => N - t) (fun t => f ≤ t ∧ t < N ∧ runsN V (t + 1) = runsN V f ++ [(f, t, V f)]) (fun t => [(5, I (iLen t))]) (fun t => [.own 0 [.ms 3 1 n 0 n], .own n cs]) f ⟨Nat.le_refl _, hf1, runsN_new (by rcases hP with h | h | h <;> first | exact .inl h | omega | exact .inr h)⟩ ⟨congrArg I hiq, trivial⟩ (.inl rfl) fun t hP2 Bk2 hB2 => ?_
    obtain ⟨q1, q2, q3⟩ := hP2
    obtain ⟨it, hit⟩ : ∃ q, q = iLen t := ⟨_, rfl⟩
    have hVt : V t = V f := by
      obtain ⟨l2, f2, h5, _⟩ := runsN_last (V := V) (n := t)
      rw [q3] at h5
      have := congrArg List.getLast? h5
      simp only [List.getLast?_append, List.getLast?_singleton, Option.some_or, Option.some.injEq, Prod.mk.injEq] at this
      exact this.2.2.symm
    rw [← hit]
    have hadd : A.add .i64 it 1 = iLen (t + 1) := by subst hA; exact add_one (N := 1000) hit (by omega) (by omega)
    have hlt2 : A.lt (A.add .i64 it 1) (A.vlen xs) = decide (t + 1 < N) := by rw [hv, hadd]; subst hA; simp only [std, iLt]; rw [decide_eq_decide]; unfold iLen; omega
    refine SGo_run hA ⟨[], [], [], (85, ePat) :: []⟩ .nil (.cons ePat_ok .nil) 200 fun T TD hT hTD => ?_
    cbv
    split <;> cbv
    · rename_i hz
      have ht1 : t + 1 < N := by have hz := hlt2.symm.trans hz; simpa using hz
      have hix1 : A.ix 1 1 xs (A.add .i64 it 1) [I (V (t + 1))] := by rw [hadd]; subst hA; exact ix_map hxs rfl (hget _ ht1) rfl
      have hix2 : A.ix 1 1 xs iq [I (V f)] := by subst hA; exact ix_map hxs hiq (hget _ hf1) rfl
      have heq : A.eq (V (t + 1)) (V f) = decide (V (t + 1) = V f) := by subst hA; exact iEq_dec _ _
      obtain ⟨v1, hv1⟩ : ∃ v, v = V (t + 1) := ⟨_, rfl⟩
      obtain ⟨v2, hv2⟩ : ∃ v, v = V f := ⟨_, rfl⟩
      rw [← hv1] at hix1 heq
      rw [← hv2] at hix2 heq q3
      refine Exists.intro _ (And.intro hix1 ?_); cbv
      refine Exists.intro _ (And.intro hix2 ?_); cbv
      split <;> cbv
      · rename_i hz
        have hz := of_decide_eq_true (heq.symm.trans hz)
        exact hB2 (t + 1) _ _ (by omega) ⟨by omega, ht1, by rw [← hv2]; exact runsN_more q3 (hz.symm.trans hv1)⟩ ⟨congrArg I hadd, trivial⟩ ⟨rfl, rfl, rfl, trivial⟩ (.inl rfl)
      · rename_i hz
        have hz := of_decide_eq_false (heq.symm.trans hz)
        have hnx : t + 1 = 0 ∨ t + 1 = N ∨ V (t + 1 - 1) ≠ V (t + 1) := .inr (.inr (by rw [Nat.add_sub_cancel, hVt, ← hv1, ← hv2]; exact Ne.symm hz))
        refine Exists.intro _ (And.intro hix2 ?_); cbv
        refine Exists.intro n (And.intro rfl (And.intro rfl (And.intro rfl (And.intro hcl (And.intro (by omega) ?_)))))
        intro cs3 hcs3; cbv
        have hLn : runsN V (t + 1) = L ++ [(f, t, v2)] := by rw [q3, hL]
        refine hB (t + 1) _ _ (by omega) ⟨by omega, hnx⟩ ⟨congrArg I hadd, trivial⟩ ⟨rfl, rfl, trivial⟩ (.inl ?_)
        rw [hLn, hG]; dsimp only
        rw [List.length_append, List.flatMap_append, ← hn, ← hcs, hcs3, hiq, hit]; rfl
    · rename_i hz
      have ht1 : ¬ t + 1 < N := by have hz := hlt2.symm.trans hz; simpa using hz
      have hnx : t + 1 = 0 ∨ t + 1 = N ∨ V (t + 1 - 1) ≠ V (t + 1) := .inr (.inl (by omega))
      have hix2 : A.ix 1 1 xs iq [I (V f)] := by subst hA; exact ix_map hxs hiq (hget _ hf1) rfl
      obtain ⟨v2, hv2⟩ : ∃ v, v = V f := ⟨_, rfl⟩
      rw [← hv2] at hix2 q3
      refine Exists.intro _ (And.intro hix2 ?_); cbv
      refine Exists.intro n (And.intro rfl (And.intro rfl (And.intro rfl (And.intro hcl (And.intro (by omega) ?_)))))
      intro cs3 hcs3; cbv
      have hLn : runsN V (t + 1) = L ++ [(f, t, v2)] := by rw [q3, hL]
      refine hB (t + 1) _ _ (by omega) ⟨by omega, hnx⟩ ⟨congrArg I hadd, trivial⟩ ⟨rfl, rfl, trivial⟩ (.inl ?_)
      rw [hLn, hG]; dsimp only
      rw [List.length_append, List.flatMap_append, ← hn, ← hcs, hcs3, hiq, hit]; rfl
  · rename_i hz
    have hf1 : ¬ f < N := by have hz := hlt.symm.trans hz; simpa using hz
    refine hRR _ _ (RetP.same (vs := []) rfl rfl ?_)
    rw [hn, hcs, hL, show f = N by omega]
    exact h
def eJoinP : List AV → AHeap → Option PT
  | [.vs 1 xs, .fn 85 [.mp i 0 0]], H => match H[i]? with
    | some (.own 0 [.ms 3 j 0 0 0]) => match H[j]? with
      | some (.own 0 []) => some fun K => ∃ (V : Nat → Int) (N : Nat), xs = ((List.range N).map V).map I ∧ N ≤ 1000 ∧ i ≠ j ∧ ∀ n cs, n = (runsN V N).length → cs = (runsN V N).flatMap cloC → K (.tup []) ((H.set i (.own 0 [.ms 3 j n 0 n])).set j (.own n cs))
      | _ => none
    | _ => none
  | _, _ => none
theorem eJoinP_ok : ∀ args H pt, eJoinP args H = some pt → ∀ (Kk : AV → AHeap → Prop), pt Kk → ACalls Try.prog 71 args H Kk := by
  intro args H pt h Kk hk
  unfold eJoinP at h
  split at h
  · rename_i xs i
    split at h
    · rename_i j hX
      split at h
      · rename_i hY
        cases h
        obtain ⟨V, N, rfl, hN, hij, hk⟩ := hk
        have hnl : AV.nidL (((List.range N).map V).map I) = true := nidL_map (g := I) (fun _ => rfl) _
        obtain ⟨n, hn⟩ : ∃ n, n = (runsN V N).length := ⟨_, rfl⟩
        obtain ⟨cs, hcs⟩ : ∃ cs, cs = (runsN V N).flatMap cloC := ⟨_, rfl⟩
        have hcn : AV.nidL cs = true := by rw [hcs]; exact nidL_flat (fun _ => rfl) _
        have hk := hk n cs hn hcs
        have h1 := p71_85 V N hN (Kk := fun r H' => r = .tup [] ∧ H' = [.own 0 [.ms 3 1 n 0 n], .own n cs]) (by rw [hn, hcs]; exact ⟨rfl, rfl⟩)
        have h2 := ACalls.frame (H := H) [i, j] h1 (by simp [hij]) rfl (by simp [AV.ltL, AV.lt, AV.ltL_nid hnl]) (by simp [ltH, AObj.lt, AV.ltL, AV.lt]) (fun k X hX2 => by
          match k with
          | 0 => simp at hX2; subst hX2; simpa [at_, AObj.ren, AV.renL, AV.ren] using hX
          | 1 => simp at hX2; subst hX2; simpa [at_, AObj.ren, AV.renL, AV.ren] using hY
          | k + 2 => simp at hX2)
        rw [show AV.renL [i, j] [.vs 1 (((List.range N).map V).map I), .fn 85 [.mp 0 0 0]] = [.vs 1 (((List.range N).map V).map I), .fn 85 [.mp i 0 0]] by simp [AV.renL, AV.ren, at_, AV.renL_nid hnl]] at h2
        refine h2.mono fun r H' hx => ?_
        obtain ⟨r0, H1, ⟨rfl, rfl⟩, _, rfl, rfl⟩ := hx
        have hre : ∀ m0, AV.renL m0 cs = cs := fun m0 => AV.renL_nid hcn
        simpa [merge, updL, AObj.ren, AV.renL, AV.ren, more, at_, hre] using hk
      · cases h
    · cases h
  · cases h
def coverE (rs : List Rch) (a b c : Int) (m : List Mrk) (h : Int) : Int := orElse (marksS rs a b c m) (if ¬(0 ≤ h ∧ h ≤ 10000) then 2 else 0)
def coverL (rs : List Rch) (a b c : Int) (m : List Mrk) (h : Int) : List (Nat × Nat × Int) :=
  if coverE rs a b c m h = 0 then runsN (verdS m h (sumLg rs)) (plc rs).length else []
theorem marksS_ok {rs : List Rch} {a b c : Int} {m : List Mrk} : marksS rs a b c m = 0 ↔ (RoadOk rs ∧ SgtOk a b c) ∧ m.length ≤ 100 ∧ ∀ x ∈ m, MkOk (sumLg rs) x := by
  unfold marksS orElse
  constructor
  · intro h
    by_cases h1 : checkV rs a b c = 0
    · rw [if_pos h1] at h
      exact ⟨checkV_ok.1 h1, marksE_ok.1 h⟩
    · rw [if_neg h1] at h; exact absurd h h1
  · rintro ⟨h1, h2⟩
    rw [if_pos (checkV_ok.2 h1)]; exact marksE_ok.2 h2
theorem p41 (C : List Mrk → Int → Int → Prop) (hC : CovOk C) (rs : List Rch) (a b c : Int) (m : List Mrk) (h0 : Int) (h1 : rs.length ≤ 9223372036854775807) (h3 : m.length ≤ 9223372036854775807) (hCm : coverE rs a b c m h0 = 0 → C m h0 (sumLg rs)) (H : AHeap) {Kk : AV → AHeap → Prop}
    (h : Kk (.tup [.vs 3 ((coverL rs a b c m h0).map cloV), I (coverE rs a b c m h0)]) H) : ACalls Try.prog 41 [svV (.vs 5 (rs.map rcV)) a b c, .vs 5 (m.map mkV), I h0] H Kk := by
  have hnr := nidL_rc rs
  refine (fun q => pureF (by simp [AV.nidL, AV.nid, hnr, nidL_map (g := mkV) (fun _ => rfl) m]) (by simp [AV.nidL, AV.nid, nidL_map (g := cloV) (fun _ => rfl)]) q H h) ?_
  clear h
  intro Kk h
  obtain ⟨xs, hxs⟩ : ∃ xs, xs = rs.map rcV := ⟨_, rfl⟩
  rw [← hxs]
  obtain ⟨ms, hms⟩ : ∃ ys, ys = m.map mkV := ⟨_, rfl⟩
  rw [← hms]
  obtain ⟨E, hE⟩ : ∃ E, E = coverE rs a b c m h0 := ⟨_, rfl⟩
  rw [← hE] at h hCm
  obtain ⟨F, hF⟩ : ∃ F, F = Frees 0 Kk := ⟨_, rfl⟩
  rw [← hF]
  have hw : ∀ e H1, E = e → e ≠ 0 → F (.tup [NS, I e]) H1 := fun e H1 he h0 => by
    unfold coverL at h; rw [← hE, he, if_neg h0] at h
    rw [hF]
    exact Frees.wk (r' := .tup [.vs 3 [], I e]) (Wk.tup ⟨Wk.nil, Wk.rfl, trivial⟩) (Frees.drop0 h rfl)
  have hg : E = 0 → ∀ n cs V L, V = verdS m h0 (sumLg rs) → L = runsN V (plc rs).length → n = L.length → cs = L.flatMap cloC → ∀ X0, F (.tup [.ms 3 2 n 0 n, I 0]) [X0, .own 0 [.ms 3 2 n 0 n], .own n cs] := fun h0 n cs V L hV hL hn hcs X0 => by
    unfold coverL at h; rw [← hE, if_pos h0, h0, ← hV, ← hL] at h
    rw [hF, hcs]
    refine Frees.frz 2 n 3 (L.map cloV) rfl (Elems_map (f := cloV) (g := cloC) (sz := 3) (fun _ => rfl) (fun _ => rfl) (fun _ => rfl) _) ?_
    have e : AV.frz 2 n 3 (L.map cloV) (.ms 3 2 n 0 n) = .vs 3 (L.map cloV) := frz_self (by simp [hn])
    have e2 : AV.frz 2 n 3 (L.map cloV) (.tup [.ms 3 2 n 0 n, I 0]) = .tup [.vs 3 (L.map cloV), I 0] := by
      show AV.tup [AV.frz 2 n 3 (L.map cloV) (.ms 3 2 n 0 n), I 0] = _
      rw [e]
    rw [e2]
    exact Frees.drop0 h (by simp [AV.nidL, AV.nid, nidL_map (g := cloV) (fun _ => rfl)])
  obtain ⟨A, hA⟩ : ∃ A, A = std := ⟨_, rfl⟩
  have hne : ∀ x y, A.ne x y = decide (x ≠ y) := by subst hA; intro x y; simp only [std, iNe]; rw [Bool.eq_iff_iff]; simp
  have hee : ∀ x y, A.eq x y = decide (x = y) := by subst hA; intro x y; exact iEq_dec _ _
  have hll : ∀ x y, A.lt x y = decide (x < y) := by subst hA; intro x y; rfl
  have hle : ∀ x y, A.le x y = decide (x ≤ y) := by subst hA; intro x y; rfl
  have hnb : ∀ b, A.bnot b = !b := by subst hA; intro b; rfl
  have hbd : ∀ x y, A.band x y = (x && y) := by subst hA; intro x y; rfl
  have hsg : ∀ g, A.sg g g := by subst hA; exact fun _ => rfl
  refine go41 rfl (SGo_run hA ⟨[], [], (37, eMarksS) :: (75, eIn) :: [], []⟩ (.cons (eMarksS_ok p37) (.cons (eIn_ok p75) .nil)) .nil 200 fun T TD hT hTD => ?_)
  cbv
  refine Exists.intro rs (Exists.intro m (And.intro hxs (And.intro hms (And.intro h1 (And.intro h3 ?_)))))
  intro q hq; cbv
  split <;> cbv
  · rename_i hz
    have hz : q ≠ 0 := of_decide_eq_true ((hne q 0).symm.trans hz)
    refine hw q _ ?_ hz
    rw [hE]; unfold coverE orElse; rw [← hq, if_neg hz]
  rename_i hz
  have hz : q = 0 := by have hz := of_decide_eq_false ((hne q 0).symm.trans hz); simpa using hz
  obtain ⟨⟨ho, hs⟩, hml, hmo⟩ := marksS_ok.1 (hq.symm.trans hz)
  have hE1 : E = if ¬(0 ≤ h0 ∧ h0 ≤ 10000) then 2 else 0 := by rw [hE]; unfold coverE orElse; rw [marksS_ok.2 ⟨⟨ho, hs⟩, hml, hmo⟩, if_pos rfl]
  clear hz hq
  intro q1 hq1; cbv
  split <;> cbv
  · rename_i hz
    have hz : q1 = false := by have hz := (hnb q1).symm.trans hz; simpa using hz
    rw [hq1, decide_eq_false_iff_not] at hz
    exact hw 2 _ (by rw [hE1, if_pos hz]) (by decide)
  rename_i hz
  have hz : q1 = true := by have hz := (hnb q1).symm.trans hz; simpa using hz
  rw [hq1, decide_eq_true_eq] at hz
  rw [if_neg (fun h => h hz)] at hE1
  have hg := hg hE1
  have hCm := hCm hE1
  have hpn := ho.le'
  have hpos := ho.plc.pos
  have hRl := ho.ilen
  clear hw
  rw [hT]
  refine AGo_nilcell 1 0 3 rfl rfl ?_
  refine SGo_run hA ⟨[], [], (79, ePlaces) :: (84, eVerd C) :: [], (71, eJoinP) :: []⟩ (.cons (ePlaces_ok p79) (.cons (eVerd_ok hC) .nil)) (.cons eJoinP_ok .nil) 200 fun T TD hT hTD => ?_
  cbv
  refine Exists.intro rs (And.intro hxs (And.intro (by have := ho.n2; omega) (And.intro ho.all ?_)))
  intro nn hnn; cbv
  refine Exists.intro m (Exists.intro (plc rs).length (And.intro hms (And.intro (hnn.trans hRl.symm) (And.intro (by rw [hnn]; exact hCm) (And.intro (by omega) (And.intro hpn (And.intro hpos ?_)))))))
  intro ys hys; cbv
  refine Exists.intro _ (Exists.intro (plc rs).length (And.intro hys (And.intro hpn (And.intro (by decide) ?_))))
  intro n cs hn hcs; cbv
  exact hg n cs _ _ (by rw [hnn]) rfl hn hcs _
def eCover (C : List Mrk → Int → Int → Prop) : List AV → Option ((AV → Prop) → Prop)
  | [.agg [.vs 5 xs, .lit (.int .i64 a), .lit (.int .i64 b), .lit (.int .i64 c)], .vs 5 ms, .lit (.int .i64 h)] =>
    some fun K => ∃ (rs : List Rch) (m : List Mrk), (xs = rs.map rcV ∧ ms = m.map mkV ∧ rs.length ≤ 9223372036854775807 ∧ m.length ≤ 9223372036854775807) ∧ (coverE rs a b c m h = 0 → C m h (sumLg rs)) ∧ ∀ e ys, e = coverE rs a b c m h → ys = (coverL rs a b c m h).map cloV → K (.tup [.vs 3 ys, I e])
  | _ => none
theorem eCover_ok {C : List Mrk → Int → Int → Prop} (hC : CovOk C) : ∀ args pt, eCover C args = some pt → ∀ (H : AHeap) (Kk : AV → AHeap → Prop), pt (fun r => Kk r H) → ACalls Try.prog 41 args H Kk := by
  intro args pt h H Kk hk
  unfold eCover at h
  split at h
  · cases h
    obtain ⟨rs, m, ⟨rfl, rfl, h1, h2⟩, h3, h4⟩ := hk
    exact p41 C hC _ _ _ _ _ _ h1 h2 h3 H (h4 _ _ rfl rfl)
  · cases h
end Go.Sas
