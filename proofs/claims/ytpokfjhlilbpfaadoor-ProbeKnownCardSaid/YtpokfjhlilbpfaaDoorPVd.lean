/-
Probe: why a place is shut, and its verdict: contracts.
Probe: patches of the road by marks: contracts.
Conditions: none.
-/
import Derived.Test.YtpokfjhlilbpfaaDoorPKd
import Derived.Test.YtpokfjhlilbpfaaDoorPSd
import Derived.Test.YtpokfjhlilbpfaaDoorQRFg
import Derived.Test.YtpokfjhlilbpfaaDoorPCd
import Derived.Test.YtpokfjhlilbpfaaDoorPUd
set_option linter.unusedVariables false
set_option linter.unusedSimpArgs false
namespace Go.Sas
open Go.Proofs
set_option maxRecDepth 100000
end Go.Sas
namespace Go.Sas
open Go.Proofs
set_option maxRecDepth 100000
theorem p39 (f t v : Int) (n : Nat) (cs : List AV) (hl : cs.length = n * 3) (hn : n ≤ 1000000) {Kk : AV → AHeap → Prop} (h : Kk (.tup []) [.own 0 [.ms 3 1 (n + 1) 0 (n + 1)], .own (n + 1) (cs ++ [I f, I t, I v])]) : ACalls Tryd.prog 39 [I f, I t, I v, .mp 0 0 0] [.own 0 [.ms 3 1 n 0 n], .own n cs] Kk := by
  obtain ⟨A, hA⟩ : ∃ A, A = std := ⟨_, rfl⟩
  have hsg : ∀ g, A.sg g g := by subst hA; exact fun _ => rfl
  obtain ⟨cs2, hcs2⟩ : ∃ x, x = cs ++ [I f, I t, I v] := ⟨_, rfl⟩
  rw [← hcs2] at h
  have happ : A.app 3 3 24 cs 0 n [.agg [I f, I t, I v]] cs2 (n + 1) := by subst hA; rw [hcs2]; exact app_one hl rfl (by omega)
  refine go39 rfl ?_
  refine AGo_opq fun RR hRR => ?_
  refine SGo_run hA ⟨[1], [], [], []⟩ .nil .nil 200 fun T TD hT hTD => ?_
  cbv
  refine And.intro (hsg _) (Exists.intro cs2 (Exists.intro (n + 1) (And.intro happ (And.intro rfl ?_))))
  cbv
  exact hRR _ _ (RetP.same (vs := []) rfl rfl h)
def ePat : List AV → AHeap → Option PT
  | [.lit (.int .i64 f), .lit (.int .i64 t), .lit (.int .i64 v), .mp 0 0 0], [.own 0 [.ms 3 1 n 0 n'], .own n'' cs] => some fun K => ∃ k : Nat, n = k ∧ n' = k ∧ n'' = k ∧ cs.length = k * 3 ∧ k ≤ 1000000 ∧ (∀ cs2, cs2 = cs ++ [I f, I t, I v] → K (.tup []) [.own 0 [.ms 3 1 (k + 1) 0 (k + 1)], .own (k + 1) cs2])
  | _, _ => none
theorem ePat_ok : ∀ args H pt, ePat args H = some pt → ∀ (Kk : AV → AHeap → Prop), pt Kk → ACalls Tryd.prog 39 args H Kk := by
  intro args H pt h Kk hk
  unfold ePat at h
  split at h
  · cases h
    obtain ⟨k, rfl, rfl, rfl, h1, h2, h3⟩ := hk
    exact p39 _ _ _ _ _ h1 h2 (h3 _ rfl)
  · cases h
theorem p36_85 (V : Nat → Int) (N : Nat) (hN : N ≤ 1000) {Kk : AV → AHeap → Prop} (h : Kk (.tup []) [.own 0 [.ms 3 1 (runsN V N).length 0 (runsN V N).length], .own (runsN V N).length ((runsN V N).flatMap cloC)]) :
    ACalls Tryd.prog 36 [.vs 1 (((List.range N).map V).map I), .fn 39 [.mp 0 0 0]] [.own 0 [.ms 3 1 0 0 0], .own 0 []] Kk := by
  obtain ⟨xs, hxs⟩ : ∃ xs, xs = ((List.range N).map V).map I := ⟨_, rfl⟩
  rw [← hxs]
  have hget : ∀ p, p < N → ((List.range N).map V)[p]? = some (V p) := fun p hp => by simp [hp]
  obtain ⟨A, hA⟩ : ∃ A, A = std := ⟨_, rfl⟩
  have hsg : ∀ g, A.sg g g := by subst hA; exact fun _ => rfl
  have hv : A.vlen xs = iLen N := by subst hA; simp [std, hxs]
  obtain ⟨G, hG⟩ : ∃ G : List (Nat × Nat × Int) → AHeap, G = fun l => [.own 0 [.ms 3 1 l.length 0 l.length], .own l.length (l.flatMap cloC)] := ⟨_, rfl⟩
  have hs0 : (runsN V 0).length = 0 ∧ (runsN V 0).flatMap cloC = [] := ⟨rfl, rfl⟩
  refine go36 rfl ?_
  refine AGo_opq fun RR hRR => ?_
  refine SGo_run hA ⟨[], [], [], []⟩ .nil .nil 200 fun T TD hT hTD => ?_
  cbv
  rw [hT]
  refine AGo_whileE (σ := Nat) [0, 1] (fun f => N - f) (fun f => f ≤ N ∧ (f = 0 ∨ f = N ∨ V (f - 1) ≠ V f)) (fun f => [(4, I (iLen f))]) (fun f => G (runsN V f)) 0 ⟨Nat.zero_le _, .inl rfl⟩ ⟨rfl, trivial⟩ (.inl (by rw [hG]; dsimp only; rw [hs0.1, hs0.2])) fun f hP Bk hB => ?_
  obtain ⟨hf, hP⟩ := hP
  obtain ⟨iq, hiq⟩ : ∃ q, q = iLen f := ⟨_, rfl⟩
  rw [← hiq]
  obtain ⟨L, hL⟩ : ∃ L, L = runsN V f := ⟨_, rfl⟩
  rw [← hL]
  have hLl : L.length ≤ f := by rw [hL]; exact runsN_len
  obtain ⟨n, hn⟩ : ∃ n, n = L.length := ⟨_, rfl⟩
  obtain ⟨cs, hcs⟩ : ∃ x, x = L.flatMap cloC := ⟨_, rfl⟩
  have hcl : cs.length = n * 3 := by rw [hcs, hn, len_flat (k := 3) (fun _ => rfl)]
  have hGL : G L = [.own 0 [.ms 3 1 n 0 n], .own n cs] := by rw [hG, hn, hcs]
  rw [hGL]
  have hlt : A.lt iq (A.vlen xs) = decide (f < N) := by rw [hv]; subst hA; simp only [std, iLt]; rw [decide_eq_decide, hiq]; unfold iLen; omega
  refine SGo_run hA ⟨[], [], [], []⟩ .nil .nil 200 fun T TD hT hTD => ?_
  cbv
  split <;> cbv
  · rename_i hz
    have hf1 : f < N := by have hz := hlt.symm.trans hz; simpa using hz
    rw [hT]
    refine AGo_whileE (σ := Nat) [0, 1, 4] (fun t => N - t) (fun t => f ≤ t ∧ t < N ∧ runsN V (t + 1) = runsN V f ++ [(f, t, V f)]) (fun t => [(5, I (iLen t))]) (fun t => [.own 0 [.ms 3 1 n 0 n], .own n cs]) f ⟨Nat.le_refl _, hf1, runsN_new (by rcases hP with h | h | h <;> first | exact .inl h | omega | exact .inr h)⟩ ⟨congrArg I hiq, trivial⟩ (.inl rfl) fun t hP2 Bk2 hB2 => ?_
    obtain ⟨q1, q2, q3⟩ := hP2
    obtain ⟨it, hit⟩ : ∃ q, q = iLen t := ⟨_, rfl⟩
    have hVt : V t = V f := by
      obtain ⟨l2, f2, h5, _⟩ := runsN_last (V := V) (n := t)
      rw [q3] at h5
      have := congrArg List.getLast? h5
      simp only [List.getLast?_append, List.getLast?_singleton, Option.some_or, Option.some.injEq, Prod.mk.injEq] at this
      exact this.2.2.symm
    rw [← hit]
    have hadd : A.add .i64 it 1 = iLen (t + 1) := by subst hA; exact add_one (N := 1000) hit (by omega) (by omega)
    have hlt2 : A.lt (A.add .i64 it 1) (A.vlen xs) = decide (t + 1 < N) := by rw [hv, hadd]; subst hA; simp only [std, iLt]; rw [decide_eq_decide]; unfold iLen; omega
    refine SGo_run hA ⟨[], [], [], (39, ePat) :: []⟩ .nil (.cons ePat_ok .nil) 200 fun T TD hT hTD => ?_
    cbv
    split <;> cbv
    · rename_i hz
      have ht1 : t + 1 < N := by have hz := hlt2.symm.trans hz; simpa using hz
      have hix1 : A.ix 1 1 xs (A.add .i64 it 1) [I (V (t + 1))] := by rw [hadd]; subst hA; exact ix_map hxs rfl (hget _ ht1) rfl
      have hix2 : A.ix 1 1 xs iq [I (V f)] := by subst hA; exact ix_map hxs hiq (hget _ hf1) rfl
      have heq : A.eq (V (t + 1)) (V f) = decide (V (t + 1) = V f) := by subst hA; exact iEq_dec _ _
      obtain ⟨v1, hv1⟩ : ∃ v, v = V (t + 1) := ⟨_, rfl⟩
      obtain ⟨v2, hv2⟩ : ∃ v, v = V f := ⟨_, rfl⟩
      rw [← hv1] at hix1 heq
      rw [← hv2] at hix2 heq q3
      refine Exists.intro _ (And.intro hix1 ?_); cbv
      refine Exists.intro _ (And.intro hix2 ?_); cbv
      split <;> cbv
      · rename_i hz
        have hz := of_decide_eq_true (heq.symm.trans hz)
        exact hB2 (t + 1) _ _ (by omega) ⟨by omega, ht1, by rw [← hv2]; exact runsN_more q3 (hz.symm.trans hv1)⟩ ⟨congrArg I hadd, trivial⟩ ⟨rfl, rfl, rfl, trivial⟩ (.inl rfl)
      · rename_i hz
        have hz := of_decide_eq_false (heq.symm.trans hz)
        have hnx : t + 1 = 0 ∨ t + 1 = N ∨ V (t + 1 - 1) ≠ V (t + 1) := .inr (.inr (by rw [Nat.add_sub_cancel, hVt, ← hv1, ← hv2]; exact Ne.symm hz))
        refine Exists.intro _ (And.intro hix2 ?_); cbv
        refine Exists.intro n (And.intro rfl (And.intro rfl (And.intro rfl (And.intro hcl (And.intro (by omega) ?_)))))
        intro cs3 hcs3; cbv
        have hLn : runsN V (t + 1) = L ++ [(f, t, v2)] := by rw [q3, hL]
        refine hB (t + 1) _ _ (by omega) ⟨by omega, hnx⟩ ⟨congrArg I hadd, trivial⟩ ⟨rfl, rfl, trivial⟩ (.inl ?_)
        rw [hLn, hG]; dsimp only
        rw [List.length_append, List.flatMap_append, ← hn, ← hcs, hcs3, hiq, hit]; rfl
    · rename_i hz
      have ht1 : ¬ t + 1 < N := by have hz := hlt2.symm.trans hz; simpa using hz
      have hnx : t + 1 = 0 ∨ t + 1 = N ∨ V (t + 1 - 1) ≠ V (t + 1) := .inr (.inl (by omega))
      have hix2 : A.ix 1 1 xs iq [I (V f)] := by subst hA; exact ix_map hxs hiq (hget _ hf1) rfl
      obtain ⟨v2, hv2⟩ : ∃ v, v = V f := ⟨_, rfl⟩
      rw [← hv2] at hix2 q3
      refine Exists.intro _ (And.intro hix2 ?_); cbv
      refine Exists.intro n (And.intro rfl (And.intro rfl (And.intro rfl (And.intro hcl (And.intro (by omega) ?_)))))
      intro cs3 hcs3; cbv
      have hLn : runsN V (t + 1) = L ++ [(f, t, v2)] := by rw [q3, hL]
      refine hB (t + 1) _ _ (by omega) ⟨by omega, hnx⟩ ⟨congrArg I hadd, trivial⟩ ⟨rfl, rfl, trivial⟩ (.inl ?_)
      rw [hLn, hG]; dsimp only
      rw [List.length_append, List.flatMap_append, ← hn, ← hcs, hcs3, hiq, hit]; rfl
  · rename_i hz
    have hf1 : ¬ f < N := by have hz := hlt.symm.trans hz; simpa using hz
    refine hRR _ _ (RetP.same (vs := []) rfl rfl ?_)
    rw [hn, hcs, hL, show f = N by omega]
    exact h
def eJoinP : List AV → AHeap → Option PT
  | [.vs 1 xs, .fn 39 [.mp i 0 0]], H => match H[i]? with
    | some (.own 0 [.ms 3 j 0 0 0]) => match H[j]? with
      | some (.own 0 []) => some fun K => ∃ (V : Nat → Int) (N : Nat), xs = ((List.range N).map V).map I ∧ N ≤ 1000 ∧ i ≠ j ∧ ∀ n cs, n = (runsN V N).length → cs = (runsN V N).flatMap cloC → K (.tup []) ((H.set i (.own 0 [.ms 3 j n 0 n])).set j (.own n cs))
      | _ => none
    | _ => none
  | _, _ => none
theorem eJoinP_ok : ∀ args H pt, eJoinP args H = some pt → ∀ (Kk : AV → AHeap → Prop), pt Kk → ACalls Tryd.prog 36 args H Kk := by
  intro args H pt h Kk hk
  unfold eJoinP at h
  split at h
  · rename_i xs i
    split at h
    · rename_i j hX
      split at h
      · rename_i hY
        cases h
        obtain ⟨V, N, rfl, hN, hij, hk⟩ := hk
        have hnl : AV.nidL (((List.range N).map V).map I) = true := nidL_map (g := I) (fun _ => rfl) _
        obtain ⟨n, hn⟩ : ∃ n, n = (runsN V N).length := ⟨_, rfl⟩
        obtain ⟨cs, hcs⟩ : ∃ cs, cs = (runsN V N).flatMap cloC := ⟨_, rfl⟩
        have hcn : AV.nidL cs = true := by rw [hcs]; exact nidL_flat (fun _ => rfl) _
        have hk := hk n cs hn hcs
        have h1 := p36_85 V N hN (Kk := fun r H' => r = .tup [] ∧ H' = [.own 0 [.ms 3 1 n 0 n], .own n cs]) (by rw [hn, hcs]; exact ⟨rfl, rfl⟩)
        have h2 := ACalls.frame (H := H) [i, j] h1 (by simp [hij]) rfl (by simp [AV.ltL, AV.lt, AV.ltL_nid hnl]) (by simp [ltH, AObj.lt, AV.ltL, AV.lt]) (fun k X hX2 => by
          match k with
          | 0 => simp at hX2; subst hX2; simpa [at_, AObj.ren, AV.renL, AV.ren] using hX
          | 1 => simp at hX2; subst hX2; simpa [at_, AObj.ren, AV.renL, AV.ren] using hY
          | k + 2 => simp at hX2)
        rw [show AV.renL [i, j] [.vs 1 (((List.range N).map V).map I), .fn 39 [.mp 0 0 0]] = [.vs 1 (((List.range N).map V).map I), .fn 39 [.mp i 0 0]] by simp [AV.renL, AV.ren, at_, AV.renL_nid hnl]] at h2
        refine h2.mono fun r H' hx => ?_
        obtain ⟨r0, H1, ⟨rfl, rfl⟩, _, rfl, rfl⟩ := hx
        have hre : ∀ m0, AV.renL m0 cs = cs := fun m0 => AV.renL_nid hcn
        simpa [merge, updL, AObj.ren, AV.renL, AV.ren, more, at_, hre] using hk
      · cases h
    · cases h
  · cases h
def coverE (rs : List Rch) (a b c : Int) (m : List Mrk) (h : Int) : Int := orElse (marksS rs a b c m) (if ¬(0 ≤ h ∧ h ≤ 10000) then 2 else 0)
def coverL (rs : List Rch) (a b c : Int) (m : List Mrk) (h : Int) : List (Nat × Nat × Int) :=
  if coverE rs a b c m h = 0 then runsN (verdS m h (sumLg rs)) (plc rs).length else []
theorem marksS_ok {rs : List Rch} {a b c : Int} {m : List Mrk} : marksS rs a b c m = 0 ↔ (RoadOk rs ∧ SgtOk a b c) ∧ m.length ≤ 100 ∧ ∀ x ∈ m, MkOk (sumLg rs) x := by
  unfold marksS orElse
  constructor
  · intro h
    by_cases h1 : checkV rs a b c = 0
    · rw [if_pos h1] at h
      exact ⟨checkV_ok.1 h1, marksE_ok.1 h⟩
    · rw [if_neg h1] at h; exact absurd h h1
  · rintro ⟨h1, h2⟩
    rw [if_pos (checkV_ok.2 h1)]; exact marksE_ok.2 h2
theorem p18 (C : List Mrk → Int → Int → Prop) (hC : CovOk C) (rs : List Rch) (a b c : Int) (m : List Mrk) (h0 : Int) (h1 : rs.length ≤ 9223372036854775807) (h3 : m.length ≤ 9223372036854775807) (hCm : coverE rs a b c m h0 = 0 → C m h0 (sumLg rs)) (H : AHeap) {Kk : AV → AHeap → Prop}
    (h : Kk (.tup [.vs 3 ((coverL rs a b c m h0).map cloV), I (coverE rs a b c m h0)]) H) : ACalls Tryd.prog 18 [svV (.vs 5 (rs.map rcV)) a b c, .vs 5 (m.map mkV), I h0] H Kk := by
  have hnr := nidL_rc rs
  refine (fun q => pureF (by simp [AV.nidL, AV.nid, hnr, nidL_map (g := mkV) (fun _ => rfl) m]) (by simp [AV.nidL, AV.nid, nidL_map (g := cloV) (fun _ => rfl)]) q H h) ?_
  clear h
  intro Kk h
  obtain ⟨xs, hxs⟩ : ∃ xs, xs = rs.map rcV := ⟨_, rfl⟩
  rw [← hxs]
  obtain ⟨ms, hms⟩ : ∃ ys, ys = m.map mkV := ⟨_, rfl⟩
  rw [← hms]
  obtain ⟨E, hE⟩ : ∃ E, E = coverE rs a b c m h0 := ⟨_, rfl⟩
  rw [← hE] at h hCm
  obtain ⟨F, hF⟩ : ∃ F, F = Frees 0 Kk := ⟨_, rfl⟩
  rw [← hF]
  have hw : ∀ e H1, E = e → e ≠ 0 → F (.tup [NS, I e]) H1 := fun e H1 he h0 => by
    unfold coverL at h; rw [← hE, he, if_neg h0] at h
    rw [hF]
    exact Frees.wk (r' := .tup [.vs 3 [], I e]) (Wk.tup ⟨Wk.nil, Wk.rfl, trivial⟩) (Frees.drop0 h rfl)
  have hg : E = 0 → ∀ n cs V L, V = verdS m h0 (sumLg rs) → L = runsN V (plc rs).length → n = L.length → cs = L.flatMap cloC → ∀ X0, F (.tup [.ms 3 2 n 0 n, I 0]) [X0, .own 0 [.ms 3 2 n 0 n], .own n cs] := fun h0 n cs V L hV hL hn hcs X0 => by
    unfold coverL at h; rw [← hE, if_pos h0, h0, ← hV, ← hL] at h
    rw [hF, hcs]
    refine Frees.frz 2 n 3 (L.map cloV) rfl (Elems_map (f := cloV) (g := cloC) (sz := 3) (fun _ => rfl) (fun _ => rfl) (fun _ => rfl) _) ?_
    have e : AV.frz 2 n 3 (L.map cloV) (.ms 3 2 n 0 n) = .vs 3 (L.map cloV) := frz_self (by simp [hn])
    have e2 : AV.frz 2 n 3 (L.map cloV) (.tup [.ms 3 2 n 0 n, I 0]) = .tup [.vs 3 (L.map cloV), I 0] := by
      show AV.tup [AV.frz 2 n 3 (L.map cloV) (.ms 3 2 n 0 n), I 0] = _
      rw [e]
    rw [e2]
    exact Frees.drop0 h (by simp [AV.nidL, AV.nid, nidL_map (g := cloV) (fun _ => rfl)])
  obtain ⟨A, hA⟩ : ∃ A, A = std := ⟨_, rfl⟩
  have hne : ∀ x y, A.ne x y = decide (x ≠ y) := by subst hA; intro x y; simp only [std, iNe]; rw [Bool.eq_iff_iff]; simp
  have hee : ∀ x y, A.eq x y = decide (x = y) := by subst hA; intro x y; exact iEq_dec _ _
  have hll : ∀ x y, A.lt x y = decide (x < y) := by subst hA; intro x y; rfl
  have hle : ∀ x y, A.le x y = decide (x ≤ y) := by subst hA; intro x y; rfl
  have hnb : ∀ b, A.bnot b = !b := by subst hA; intro b; rfl
  have hbd : ∀ x y, A.band x y = (x && y) := by subst hA; intro x y; rfl
  have hsg : ∀ g, A.sg g g := by subst hA; exact fun _ => rfl
  refine go18 rfl (SGo_run hA ⟨[], [], (35, eMarksS) :: (16, eIn) :: [], []⟩ (.cons (eMarksS_ok p35) (.cons (eIn_ok p16) .nil)) .nil 200 fun T TD hT hTD => ?_)
  cbv
  refine Exists.intro rs (Exists.intro m (And.intro hxs (And.intro hms (And.intro h1 (And.intro h3 ?_)))))
  intro q hq; cbv
  split <;> cbv
  · rename_i hz
    have hz : q ≠ 0 := of_decide_eq_true ((hne q 0).symm.trans hz)
    refine hw q _ ?_ hz
    rw [hE]; unfold coverE orElse; rw [← hq, if_neg hz]
  rename_i hz
  have hz : q = 0 := by have hz := of_decide_eq_false ((hne q 0).symm.trans hz); simpa using hz
  obtain ⟨⟨ho, hs⟩, hml, hmo⟩ := marksS_ok.1 (hq.symm.trans hz)
  have hE1 : E = if ¬(0 ≤ h0 ∧ h0 ≤ 10000) then 2 else 0 := by rw [hE]; unfold coverE orElse; rw [marksS_ok.2 ⟨⟨ho, hs⟩, hml, hmo⟩, if_pos rfl]
  clear hz hq
  intro q1 hq1; cbv
  split <;> cbv
  · rename_i hz
    have hz : q1 = false := by have hz := (hnb q1).symm.trans hz; simpa using hz
    rw [hq1, decide_eq_false_iff_not] at hz
    exact hw 2 _ (by rw [hE1, if_pos hz]) (by decide)
  rename_i hz
  have hz : q1 = true := by have hz := (hnb q1).symm.trans hz; simpa using hz
  rw [hq1, decide_eq_true_eq] at hz
  rw [if_neg (fun h => h hz)] at hE1
  have hg := hg hE1
  have hCm := hCm hE1
  have hpn := ho.le'
  have hpos := ho.plc.pos
  have hRl := ho.ilen
  clear hw
  rw [hT]
  refine AGo_nilcell 1 0 3 rfl rfl ?_
  refine SGo_run hA ⟨[], [], (38, ePlaces) :: (37, eVerd C) :: [], (36, eJoinP) :: []⟩ (.cons (ePlaces_ok p38) (.cons (eVerd_ok hC) .nil)) (.cons eJoinP_ok .nil) 200 fun T TD hT hTD => ?_
  cbv
  refine Exists.intro rs (And.intro hxs (And.intro (by have := ho.n2; omega) (And.intro ho.all ?_)))
  intro nn hnn; cbv
  refine Exists.intro m (Exists.intro (plc rs).length (And.intro hms (And.intro (hnn.trans hRl.symm) (And.intro (by rw [hnn]; exact hCm) (And.intro (by omega) (And.intro hpn (And.intro hpos ?_)))))))
  intro ys hys; cbv
  refine Exists.intro _ (Exists.intro (plc rs).length (And.intro hys (And.intro hpn (And.intro (by decide) ?_))))
  intro n cs hn hcs; cbv
  exact hg n cs _ _ (by rw [hnn]) rfl hn hcs _
end Go.Sas
