/-
Probe: spans put together; stale places; where to look: contracts.
Probe: Stale, Plan: contracts.
Probe: Plan: contract.
Probe: runs of places; the fewest looks.
Conditions: none.
-/
import Derived.Test.YtpokfjhlilbpfaaDoorPKd
import Derived.Test.YtpokfjhlilbpfaaDoorQRFg
import Derived.Test.YtpokfjhlilbpfaaDoorPOd
set_option linter.unusedVariables false
set_option linter.unusedSimpArgs false
namespace Go.Sas
open Go.Proofs
set_option maxRecDepth 100000
theorem p42 (f t : Int) (v : Bool) (n : Nat) (cs : List AV) (hl : cs.length = n * 2) (hn : n ≤ 1000000) {Kk : AV → AHeap → Prop} (h : Kk (.tup []) (if v = true then [.own 0 [.ms 2 1 (n + 1) 0 (n + 1)], .own (n + 1) (cs ++ [I f, I t])] else [.own 0 [.ms 2 1 n 0 n], .own n cs])) : ACalls Tryd.prog 42 [I f, I t, B v, .mp 0 0 0] [.own 0 [.ms 2 1 n 0 n], .own n cs] Kk := by
  obtain ⟨A, hA⟩ : ∃ A, A = std := ⟨_, rfl⟩
  have hsg : ∀ g, A.sg g g := by subst hA; exact fun _ => rfl
  obtain ⟨cs2, hcs2⟩ : ∃ x, x = cs ++ [I f, I t] := ⟨_, rfl⟩
  rw [← hcs2] at h
  have happ : A.app 2 2 16 cs 0 n [.agg [I f, I t]] cs2 (n + 1) := by subst hA; rw [hcs2]; exact app_one hl rfl (by omega)
  refine go42 rfl ?_
  refine AGo_opq fun RR hRR => ?_
  refine SGo_run hA ⟨[1], [], [], []⟩ .nil .nil 200 fun T TD hT hTD => ?_
  cbv
  cases v with
  | true =>
    rw [if_pos rfl] at h
    cbv
    refine And.intro (hsg _) (Exists.intro cs2 (Exists.intro (n + 1) (And.intro happ (And.intro rfl ?_))))
    cbv
    exact hRR _ _ (RetP.same (vs := []) rfl rfl h)
  | false =>
    rw [if_neg (by simp)] at h
    cbv
    exact hRR _ _ (RetP.same (vs := []) rfl rfl h)
def eSpa : List AV → AHeap → Option PT
  | [.lit (.int .i64 f), .lit (.int .i64 t), .lit (.bool v), .mp 0 0 0], [.own 0 [.ms 2 1 n 0 n'], .own n'' cs] => some fun K => ∃ k : Nat, n = k ∧ n' = k ∧ n'' = k ∧ cs.length = k * 2 ∧ k ≤ 1000000 ∧ (v = true → ∀ cs2, cs2 = cs ++ [I f, I t] → K (.tup []) [.own 0 [.ms 2 1 (k + 1) 0 (k + 1)], .own (k + 1) cs2]) ∧ (v = false → K (.tup []) [.own 0 [.ms 2 1 k 0 k], .own k cs])
  | _, _ => none
theorem eSpa_ok : ∀ args H pt, eSpa args H = some pt → ∀ (Kk : AV → AHeap → Prop), pt Kk → ACalls Tryd.prog 42 args H Kk := by
  intro args H pt h Kk hk
  unfold eSpa at h
  split at h
  · cases h
    obtain ⟨k, rfl, rfl, rfl, h1, h2, h3, h4⟩ := hk
    refine p42 _ _ _ _ _ h1 h2 ?_
    split
    · rename_i h0; exact h3 h0 _ rfl
    · rename_i h0; exact h4 (by simpa using h0)
  · cases h
abbrev spaC (x : Nat × Nat × Bool) : List AV := [I (iLen x.1), I (iLen x.2.1)]
def spaS (V : Nat → Bool) (n : Nat) : List (Nat × Nat × Bool) := (runsN V n).filter fun x => x.2.2
theorem p40_99 (V : Nat → Bool) (N : Nat) (hN : N ≤ 1000) {Kk : AV → AHeap → Prop} (h : Kk (.tup []) [.own 0 [.ms 2 1 (spaS V N).length 0 (spaS V N).length], .own (spaS V N).length ((spaS V N).flatMap spaC)]) :
    ACalls Tryd.prog 40 [.vs 1 (((List.range N).map V).map B), .fn 42 [.mp 0 0 0]] [.own 0 [.ms 2 1 0 0 0], .own 0 []] Kk := by
  obtain ⟨xs, hxs⟩ : ∃ xs, xs = ((List.range N).map V).map B := ⟨_, rfl⟩
  rw [← hxs]
  have hget : ∀ p, p < N → ((List.range N).map V)[p]? = some (V p) := fun p hp => by simp [hp]
  obtain ⟨A, hA⟩ : ∃ A, A = std := ⟨_, rfl⟩
  have hsg : ∀ g, A.sg g g := by subst hA; exact fun _ => rfl
  have hv : A.vlen xs = iLen N := by subst hA; simp [std, hxs]
  obtain ⟨G, hG⟩ : ∃ G : List (Nat × Nat × Bool) → AHeap, G = fun l => [.own 0 [.ms 2 1 l.length 0 l.length], .own l.length (l.flatMap spaC)] := ⟨_, rfl⟩
  obtain ⟨sel, hsel⟩ : ∃ f : List (Nat × Nat × Bool) → List (Nat × Nat × Bool), f = fun l => l.filter fun x => x.2.2 := ⟨_, rfl⟩
  have hs0 : (sel []).length = 0 ∧ (sel []).flatMap spaC = [] := by rw [hsel]; exact ⟨rfl, rfl⟩
  have hs1 : ∀ l f t v, v = true → sel (l ++ [(f, t, v)]) = sel l ++ [(f, t, v)] := by
    intro l f t v hv0
    rw [hsel]; dsimp only
    rw [List.filter_append]; congr 1
    simp only [List.filter_cons, List.filter_nil]; rw [if_pos (by simpa using hv0)]
  have hs2 : ∀ l f t v, ¬ v = true → sel (l ++ [(f, t, v)]) = sel l := by
    intro l f t v hv0
    rw [hsel]; dsimp only
    rw [List.filter_append]
    simp only [List.filter_cons, List.filter_nil]; rw [if_neg (by simpa using hv0), List.append_nil]
  have hsl : ∀ l, (sel l).length ≤ l.length := fun l => by rw [hsel]; exact List.length_filter_le _ _
  have hss : ∀ n, sel (runsN V n) = spaS V n := fun n => by rw [hsel]; rfl
  clear hsel
  refine go40 rfl ?_
  refine AGo_opq fun RR hRR => ?_
  refine SGo_run hA ⟨[], [], [], []⟩ .nil .nil 200 fun T TD hT hTD => ?_
  cbv
  rw [hT]
  refine AGo_whileE (σ := Nat) [0, 1] (fun f => N - f) (fun f => f ≤ N ∧ (f = 0 ∨ f = N ∨ V (f - 1) ≠ V f)) (fun f => [(4, I (iLen f))]) (fun f => G (sel (runsN V f))) 0 ⟨Nat.zero_le _, .inl rfl⟩ ⟨rfl, trivial⟩ (.inl (by rw [hG]; dsimp only; rw [show runsN V 0 = [] from rfl, hs0.1, hs0.2])) fun f hP Bk hB => ?_
  obtain ⟨hf, hP⟩ := hP
  obtain ⟨iq, hiq⟩ : ∃ q, q = iLen f := ⟨_, rfl⟩
  rw [← hiq]
  obtain ⟨L, hL⟩ : ∃ L, L = sel (runsN V f) := ⟨_, rfl⟩
  rw [← hL]
  have hLl : L.length ≤ f := by rw [hL]; exact Nat.le_trans (hsl _) runsN_len
  obtain ⟨n, hn⟩ : ∃ n, n = L.length := ⟨_, rfl⟩
  obtain ⟨cs, hcs⟩ : ∃ x, x = L.flatMap spaC := ⟨_, rfl⟩
  have hcl : cs.length = n * 2 := by rw [hcs, hn, len_flat (k := 2) (fun _ => rfl)]
  have hGL : G L = [.own 0 [.ms 2 1 n 0 n], .own n cs] := by rw [hG, hn, hcs]
  rw [hGL]
  have hlt : A.lt iq (A.vlen xs) = decide (f < N) := by rw [hv]; subst hA; simp only [std, iLt]; rw [decide_eq_decide, hiq]; unfold iLen; omega
  refine SGo_run hA ⟨[], [], [], []⟩ .nil .nil 200 fun T TD hT hTD => ?_
  cbv
  split <;> cbv
  · rename_i hz
    have hf1 : f < N := by have hz := hlt.symm.trans hz; simpa using hz
    rw [hT]
    refine AGo_whileE (σ := Nat) [0, 1, 4] (fun t => N - t) (fun t => f ≤ t ∧ t < N ∧ runsN V (t + 1) = runsN V f ++ [(f, t, V f)]) (fun t => [(5, I (iLen t))]) (fun t => [.own 0 [.ms 2 1 n 0 n], .own n cs]) f ⟨Nat.le_refl _, hf1, runsN_new (by rcases hP with h | h | h <;> first | exact .inl h | omega | exact .inr h)⟩ ⟨congrArg I hiq, trivial⟩ (.inl rfl) fun t hP2 Bk2 hB2 => ?_
    obtain ⟨q1, q2, q3⟩ := hP2
    obtain ⟨it, hit⟩ : ∃ q, q = iLen t := ⟨_, rfl⟩
    have hVt : V t = V f := by
      obtain ⟨l2, f2, h5, _⟩ := runsN_last (V := V) (n := t)
      rw [q3] at h5
      have := congrArg List.getLast? h5
      simp only [List.getLast?_append, List.getLast?_singleton, Option.some_or, Option.some.injEq, Prod.mk.injEq] at this
      exact this.2.2.symm
    rw [← hit]
    have hadd : A.add .i64 it 1 = iLen (t + 1) := by subst hA; exact add_one (N := 1000) hit (by omega) (by omega)
    have hlt2 : A.lt (A.add .i64 it 1) (A.vlen xs) = decide (t + 1 < N) := by rw [hv, hadd]; subst hA; simp only [std, iLt]; rw [decide_eq_decide]; unfold iLen; omega
    refine SGo_run hA ⟨[], [], [], (42, eSpa) :: []⟩ .nil (.cons eSpa_ok .nil) 200 fun T TD hT hTD => ?_
    cbv
    split <;> cbv
    · rename_i hz
      have ht1 : t + 1 < N := by have hz := hlt2.symm.trans hz; simpa using hz
      have hix1 : A.ix 1 1 xs (A.add .i64 it 1) [B (V (t + 1))] := by rw [hadd]; subst hA; exact ix_map hxs rfl (hget _ ht1) rfl
      have hix2 : A.ix 1 1 xs iq [B (V f)] := by subst hA; exact ix_map hxs hiq (hget _ hf1) rfl
      have heq : A.beq (V (t + 1)) (V f) = decide (V (t + 1) = V f) := by subst hA; simp only [std]; rw [Bool.eq_iff_iff]; simp
      obtain ⟨v1, hv1⟩ : ∃ v, v = V (t + 1) := ⟨_, rfl⟩
      obtain ⟨v2, hv2⟩ : ∃ v, v = V f := ⟨_, rfl⟩
      rw [← hv1] at hix1 heq
      rw [← hv2] at hix2 heq q3
      refine Exists.intro _ (And.intro hix1 ?_); cbv
      refine Exists.intro _ (And.intro hix2 ?_); cbv
      split <;> cbv
      · rename_i hz
        have hz := of_decide_eq_true (heq.symm.trans hz)
        exact hB2 (t + 1) _ _ (by omega) ⟨by omega, ht1, by rw [← hv2]; exact runsN_more q3 (hz.symm.trans hv1)⟩ ⟨congrArg I hadd, trivial⟩ ⟨rfl, rfl, rfl, trivial⟩ (.inl rfl)
      · rename_i hz
        have hz := of_decide_eq_false (heq.symm.trans hz)
        have hnx : t + 1 = 0 ∨ t + 1 = N ∨ V (t + 1 - 1) ≠ V (t + 1) := .inr (.inr (by rw [Nat.add_sub_cancel, hVt, ← hv1, ← hv2]; exact Ne.symm hz))
        refine Exists.intro _ (And.intro hix2 ?_); cbv
        refine Exists.intro n (And.intro rfl (And.intro rfl (And.intro rfl (And.intro hcl (And.intro (by omega) (And.intro ?_ ?_))))))
        · intro hv0 cs3 hcs3; cbv
          have hLn : sel (runsN V (t + 1)) = L ++ [(f, t, v2)] := by rw [q3, hL]; exact hs1 _ _ _ _ hv0
          refine hB (t + 1) _ _ (by omega) ⟨by omega, hnx⟩ ⟨congrArg I hadd, trivial⟩ ⟨rfl, rfl, trivial⟩ (.inl ?_)
          rw [hLn, hG]; dsimp only
          rw [List.length_append, List.flatMap_append, ← hn, ← hcs, hcs3, hiq, hit]; rfl
        · intro hv0; cbv
          have hLn : sel (runsN V (t + 1)) = L := by rw [q3, hL]; exact hs2 _ _ _ _ (by rw [hv0]; simp)
          refine hB (t + 1) _ _ (by omega) ⟨by omega, hnx⟩ ⟨congrArg I hadd, trivial⟩ ⟨rfl, rfl, trivial⟩ (.inl ?_)
          rw [hLn, hG]; dsimp only
          rw [← hn, ← hcs]
    · rename_i hz
      have ht1 : ¬ t + 1 < N := by have hz := hlt2.symm.trans hz; simpa using hz
      have hnx : t + 1 = 0 ∨ t + 1 = N ∨ V (t + 1 - 1) ≠ V (t + 1) := .inr (.inl (by omega))
      have hix2 : A.ix 1 1 xs iq [B (V f)] := by subst hA; exact ix_map hxs hiq (hget _ hf1) rfl
      obtain ⟨v2, hv2⟩ : ∃ v, v = V f := ⟨_, rfl⟩
      rw [← hv2] at hix2 q3
      refine Exists.intro _ (And.intro hix2 ?_); cbv
      refine Exists.intro n (And.intro rfl (And.intro rfl (And.intro rfl (And.intro hcl (And.intro (by omega) (And.intro ?_ ?_))))))
      · intro hv0 cs3 hcs3; cbv
        have hLn : sel (runsN V (t + 1)) = L ++ [(f, t, v2)] := by rw [q3, hL]; exact hs1 _ _ _ _ hv0
        refine hB (t + 1) _ _ (by omega) ⟨by omega, hnx⟩ ⟨congrArg I hadd, trivial⟩ ⟨rfl, rfl, trivial⟩ (.inl ?_)
        rw [hLn, hG]; dsimp only
        rw [List.length_append, List.flatMap_append, ← hn, ← hcs, hcs3, hiq, hit]; rfl
      · intro hv0; cbv
        have hLn : sel (runsN V (t + 1)) = L := by rw [q3, hL]; exact hs2 _ _ _ _ (by rw [hv0]; simp)
        refine hB (t + 1) _ _ (by omega) ⟨by omega, hnx⟩ ⟨congrArg I hadd, trivial⟩ ⟨rfl, rfl, trivial⟩ (.inl ?_)
        rw [hLn, hG]; dsimp only
        rw [← hn, ← hcs]
  · rename_i hz
    have hf1 : ¬ f < N := by have hz := hlt.symm.trans hz; simpa using hz
    refine hRR _ _ (RetP.same (vs := []) rfl rfl ?_)
    rw [hn, hcs, hL, hss, show f = N by omega]
    exact h
def eJoinS : List AV → AHeap → Option PT
  | [.vs 1 xs, .fn 42 [.mp i 0 0]], H => match H[i]? with
    | some (.own 0 [.ms 2 j 0 0 0]) => match H[j]? with
      | some (.own 0 []) => some fun K => ∃ (V : Nat → Bool) (N : Nat), xs = ((List.range N).map V).map B ∧ N ≤ 1000 ∧ i ≠ j ∧ ∀ n cs, n = (spaS V N).length → cs = (spaS V N).flatMap spaC → K (.tup []) ((H.set i (.own 0 [.ms 2 j n 0 n])).set j (.own n cs))
      | _ => none
    | _ => none
  | _, _ => none
theorem eJoinS_ok : ∀ args H pt, eJoinS args H = some pt → ∀ (Kk : AV → AHeap → Prop), pt Kk → ACalls Tryd.prog 40 args H Kk := by
  intro args H pt h Kk hk
  unfold eJoinS at h
  split at h
  · rename_i xs i
    split at h
    · rename_i j hX
      split at h
      · rename_i hY
        cases h
        obtain ⟨V, N, rfl, hN, hij, hk⟩ := hk
        have hnl : AV.nidL (((List.range N).map V).map B) = true := nidL_map (g := B) (fun _ => rfl) _
        obtain ⟨n, hn⟩ : ∃ n, n = (spaS V N).length := ⟨_, rfl⟩
        obtain ⟨cs, hcs⟩ : ∃ cs, cs = (spaS V N).flatMap spaC := ⟨_, rfl⟩
        have hcn : AV.nidL cs = true := by rw [hcs]; exact nidL_flat (fun _ => rfl) _
        have hk := hk n cs hn hcs
        have h1 := p40_99 V N hN (Kk := fun r H' => r = .tup [] ∧ H' = [.own 0 [.ms 2 1 n 0 n], .own n cs]) (by rw [hn, hcs]; exact ⟨rfl, rfl⟩)
        have h2 := ACalls.frame (H := H) [i, j] h1 (by simp [hij]) rfl (by simp [AV.ltL, AV.lt, AV.ltL_nid hnl]) (by simp [ltH, AObj.lt, AV.ltL, AV.lt]) (fun k X hX2 => by
          match k with
          | 0 => simp at hX2; subst hX2; simpa [at_, AObj.ren, AV.renL, AV.ren] using hX
          | 1 => simp at hX2; subst hX2; simpa [at_, AObj.ren, AV.renL, AV.ren] using hY
          | k + 2 => simp at hX2)
        rw [show AV.renL [i, j] [.vs 1 (((List.range N).map V).map B), .fn 42 [.mp 0 0 0]] = [.vs 1 (((List.range N).map V).map B), .fn 42 [.mp i 0 0]] by simp [AV.renL, AV.ren, at_, AV.renL_nid hnl]] at h2
        refine h2.mono fun r H' hx => ?_
        obtain ⟨r0, H1, ⟨rfl, rfl⟩, _, rfl, rfl⟩ := hx
        have hre : ∀ m0, AV.renL m0 cs = cs := fun m0 => AV.renL_nid hcn
        simpa [merge, updL, AObj.ren, AV.renL, AV.ren, more, at_, hre] using hk
      · cases h
    · cases h
  · cases h
end Go.Sas
namespace Go.Sas
open Go.Proofs
set_option maxRecDepth 100000
abbrev spaV (x : Nat × Nat × Bool) : AV := .agg [I (iLen x.1), I (iLen x.2.1)]
def staleE (rs : List Rch) (a b c : Int) (l : List Lk) (t : Int) : Int := orElse (surE rs a b c l) (if ¬(0 ≤ t ∧ t ≤ 10000) then 2 else 0)
def stalR (rs : List Rch) (a b c : Int) (l : List Lk) (t : Int) : List (Nat × Nat × Bool) := if staleE rs a b c l t = 0 then spaS (staleS (plc rs) a b c l t) (plc rs).length else []
theorem p20 (rs : List Rch) (a b c : Int) (l : List Lk) (t : Int) (h1 : rs.length ≤ 9223372036854775807) (h2 : l.length ≤ 9223372036854775807) (H : AHeap) {Kk : AV → AHeap → Prop}
    (h : Kk (.tup [.vs 2 ((stalR rs a b c l t).map spaV), I (staleE rs a b c l t)]) H) : ACalls Tryd.prog 20 [svV (.vs 5 (rs.map rcV)) a b c, .vs 5 (l.map lkV), I t] H Kk := by
  have hnr := nidL_rc rs
  refine (fun q => pureF (by simp [AV.nidL, AV.nid, hnr, nidL_map (g := lkV) (fun _ => rfl) l]) (by simp [AV.nidL, AV.nid, nidL_map (g := spaV) (fun _ => rfl)]) q H h) ?_
  clear h
  intro Kk h
  obtain ⟨xs, hxs⟩ : ∃ xs, xs = rs.map rcV := ⟨_, rfl⟩
  rw [← hxs]
  obtain ⟨ls, hls⟩ : ∃ ys, ys = l.map lkV := ⟨_, rfl⟩
  rw [← hls]
  obtain ⟨E, hE⟩ : ∃ E, E = staleE rs a b c l t := ⟨_, rfl⟩
  rw [← hE] at h
  obtain ⟨F, hF⟩ : ∃ F, F = Frees 0 Kk := ⟨_, rfl⟩
  rw [← hF]
  have hw : ∀ e H1, E = e → e ≠ 0 → F (.tup [NS, I e]) H1 := fun e H1 he h0 => by
    unfold stalR at h; rw [← hE, he, if_neg h0] at h
    rw [hF]
    exact Frees.wk (r' := .tup [.vs 2 [], I e]) (Wk.tup ⟨Wk.nil, Wk.rfl, trivial⟩) (Frees.drop0 h rfl)
  have hg : E = 0 → ∀ n cs V, V = staleS (plc rs) a b c l t → n = (spaS V (plc rs).length).length → cs = (spaS V (plc rs).length).flatMap spaC → ∀ X0 X1, F (.tup [.ms 2 3 n 0 n, I 0]) [X0, X1, .own 0 [.ms 2 3 n 0 n], .own n cs] := fun h0 n cs V hV hn hcs X0 X1 => by
    unfold stalR at h; rw [← hE, if_pos h0, h0, ← hV] at h
    rw [hF, hcs]
    refine Frees.frz 3 n 2 ((spaS V (plc rs).length).map spaV) rfl (Elems_map (f := spaV) (g := spaC) (sz := 2) (fun _ => rfl) (fun _ => rfl) (fun _ => rfl) _) ?_
    have e : AV.frz 3 n 2 ((spaS V (plc rs).length).map spaV) (.ms 2 3 n 0 n) = .vs 2 ((spaS V (plc rs).length).map spaV) := frz_self (by simp [hn])
    have e2 : AV.frz 3 n 2 ((spaS V (plc rs).length).map spaV) (.tup [.ms 2 3 n 0 n, I 0]) = .tup [.vs 2 ((spaS V (plc rs).length).map spaV), I 0] := by
      show AV.tup [AV.frz 3 n 2 ((spaS V (plc rs).length).map spaV) (.ms 2 3 n 0 n), I 0] = _
      rw [e]
    rw [e2]
    exact Frees.drop0 h (by simp [AV.nidL, AV.nid, nidL_map (g := spaV) (fun _ => rfl)])
  obtain ⟨A, hA⟩ : ∃ A, A = std := ⟨_, rfl⟩
  have hne : ∀ x y, A.ne x y = decide (x ≠ y) := by subst hA; intro x y; simp only [std, iNe]; rw [Bool.eq_iff_iff]; simp
  have hee : ∀ x y, A.eq x y = decide (x = y) := by subst hA; intro x y; exact iEq_dec _ _
  have hll : ∀ x y, A.lt x y = decide (x < y) := by subst hA; intro x y; rfl
  have hle : ∀ x y, A.le x y = decide (x ≤ y) := by subst hA; intro x y; rfl
  have hnb : ∀ b, A.bnot b = !b := by subst hA; intro b; rfl
  have hbd : ∀ x y, A.band x y = (x && y) := by subst hA; intro x y; rfl
  have hsg : ∀ g, A.sg g g := by subst hA; exact fun _ => rfl
  refine go20 rfl (SGo_run hA ⟨[], [], (15, eLooked) :: (16, eIn) :: [], []⟩ (.cons eLooked_ok (.cons (eIn_ok p16) .nil)) .nil 200 fun T TD hT hTD => ?_)
  cbv
  refine Exists.intro rs (Exists.intro l (And.intro hxs (And.intro hls (And.intro h1 (And.intro h2 (And.intro ?_ ?_))))))
  · intro e w a' b' c' y z he h0 _ _ _; cbv
    split <;> cbv
    · refine hw e _ ?_ h0
      rw [hE]; unfold staleE orElse; rw [← he, if_neg h0]
    · rename_i hz; exact absurd (of_decide_eq_false ((hne e 0).symm.trans hz)) (fun h => h h0)
  intro ho hs2 hlo sl zs hgr; cbv
  have hn0 : A.ne 0 0 = false := by subst hA; rfl
  split <;> first | (rename_i hz; exact Bool.noConfusion (hz.symm.trans hn0)) | cbv
  have hE1 : E = if ¬(0 ≤ t ∧ t ≤ 10000) then 2 else 0 := by rw [hE]; unfold staleE orElse; rw [surE_ok.2 ⟨ho, hs2, hlo⟩, if_pos rfl]
  intro q1 hq1; cbv
  split <;> cbv
  · rename_i hz
    have hz : q1 = false := by have hz := (hnb q1).symm.trans hz; simpa using hz
    rw [hq1, decide_eq_false_iff_not] at hz
    exact hw 2 _ (by rw [hE1, if_pos hz]) (by decide)
  rename_i hz
  have hz : q1 = true := by have hz := (hnb q1).symm.trans hz; simpa using hz
  rw [hq1, decide_eq_true_eq] at hz
  rw [if_neg (fun h => h hz)] at hE1
  have hg := hg hE1
  have hlb := hlo.le
  have hpn := ho.le'
  clear hw
  rw [hT]
  refine AGo_nilcell 2 0 2 rfl rfl ?_
  refine SGo_run hA ⟨[], [], (41, eStale) :: [], (40, eJoinS) :: []⟩ (.cons eStale_ok .nil) (.cons eJoinS_ok .nil) 200 fun T TD hT hTD => ?_
  cbv
  refine Exists.intro rs (Exists.intro l (And.intro hgr (And.intro hls (And.intro ho (And.intro hs2 (And.intro (by omega) (And.intro (hlo.all' ho) (And.intro hz ?_))))))))
  intro vs hvs; cbv
  obtain ⟨V, hV⟩ : ∃ V, V = staleS (plc rs) a b c l t := ⟨_, rfl⟩
  obtain ⟨N, hN⟩ : ∃ N, N = (plc rs).length := ⟨_, rfl⟩
  have hvs : vs = ((List.range N).map V).map B := by rw [hvs, hV, hN]; rfl
  rw [← hN] at hpn
  refine Exists.intro V (Exists.intro N (And.intro hvs (And.intro hpn (And.intro (by decide) ?_))))
  intro n cs hn hcs; cbv
  rw [hN] at hn hcs
  exact hg n cs V hV hn hcs _ _
/-- where to look: by one place more -/
def planG (V : Nat → Bool) (s n : Int) : Nat → Int × List Int × List Int
  | 0 => (-1, [], [])
  | p + 1 => if V p = true ∧ (planG V s n p).1 < iLen p then (iLen p + 2 * s, (planG V s n p).2.1 ++ [min (iLen p + s) (n - 1)], (planG V s n p).2.2 ++ [iLen p]) else planG V s n p
theorem planG_len {V : Nat → Bool} {s n : Int} : ∀ {p : Nat}, (planG V s n p).2.1.length ≤ p ∧ (planG V s n p).2.2.length = (planG V s n p).2.1.length
  | 0 => ⟨Nat.le_refl _, rfl⟩
  | p + 1 => by
    obtain ⟨h1, h2⟩ := planG_len (V := V) (s := s) (n := n) (p := p)
    simp only [planG]
    split
    · simp; omega
    · omega
theorem planG_bnd {V : Nat → Bool} {s n : Int} (hs : 0 ≤ s ∧ s ≤ 50) : ∀ {p : Nat}, -1 ≤ (planG V s n p).1 ∧ (planG V s n p).1 ≤ iLen p + 100
  | 0 => by simp [planG, iLen]
  | p + 1 => by
    have := planG_bnd (V := V) (n := n) hs (p := p)
    simp only [planG]
    unfold iLen at *
    split
    · dsimp only; omega
    · omega
def planE (rs : List Rch) (a b c : Int) (l : List Lk) (t k : Int) : Int := orElse (surE rs a b c l) (if ¬(0 ≤ t ∧ t ≤ 10000) then 2 else if ¬(1 ≤ k ∧ k ≤ 3) then 4 else 0)
def planR (rs : List Rch) (a b c : Int) (l : List Lk) (t k : Int) : List Int × List Int := if planE rs a b c l t k = 0 then (planG (staleS (plc rs) a b c l t) (sgtS a b c k) (sumLg rs) (plc rs).length).2 else ([], [])
end Go.Sas
namespace Go.Sas
open Go.Proofs
set_option maxRecDepth 100000
theorem p21 (rs : List Rch) (a b c : Int) (l : List Lk) (t k : Int) (h1 : rs.length ≤ 9223372036854775807) (h2 : l.length ≤ 9223372036854775807) (H : AHeap) {Kk : AV → AHeap → Prop}
    (h : Kk (.tup [.vs 1 ((planR rs a b c l t k).1.map I), .vs 1 ((planR rs a b c l t k).2.map I), I (planE rs a b c l t k)]) H) : ACalls Tryd.prog 21 [svV (.vs 5 (rs.map rcV)) a b c, .vs 5 (l.map lkV), I t, I k] H Kk := by
  have hnr := nidL_rc rs
  have hni : ∀ l : List Int, AV.nidL (l.map I) = true := nidL_map (g := I) (fun _ => rfl)
  refine (fun q => pureF (by simp [AV.nidL, AV.nid, hnr, nidL_map (g := lkV) (fun _ => rfl) l]) (by simp [AV.nidL, AV.nid, hni]) q H h) ?_
  clear h
  intro Kk h
  obtain ⟨xs, hxs⟩ : ∃ xs, xs = rs.map rcV := ⟨_, rfl⟩
  rw [← hxs]
  obtain ⟨ls, hls⟩ : ∃ ys, ys = l.map lkV := ⟨_, rfl⟩
  rw [← hls]
  obtain ⟨E, hE⟩ : ∃ E, E = planE rs a b c l t k := ⟨_, rfl⟩
  rw [← hE] at h
  obtain ⟨F, hF⟩ : ∃ F, F = Frees 0 Kk := ⟨_, rfl⟩
  rw [← hF]
  have hw : ∀ e H1, E = e → e ≠ 0 → F (.tup [NS, NS, I e]) H1 := fun e H1 he h0 => by
    unfold planR at h; rw [← hE, he, if_neg h0] at h
    rw [hF]
    exact Frees.wk (r' := .tup [.vs 1 [], .vs 1 [], I e]) (Wk.tup ⟨Wk.nil, Wk.nil, Wk.rfl, trivial⟩) (Frees.drop0 h rfl)
  have hg : E = 0 → ∀ n cs1 cs2 u, (u : Int × List Int × List Int) = planG (staleS (plc rs) a b c l t) (sgtS a b c k) (sumLg rs) (plc rs).length → n = u.2.1.length → u.2.2.length = n → cs1 = u.2.1.map I → cs2 = u.2.2.map I → ∀ X0 X1, F (.tup [.ms 1 2 n 0 n, .ms 1 3 n 0 n, I 0]) [X0, X1, .own n cs1, .own n cs2] := fun h0 n cs1 cs2 u hu hn hn2 hc1 hc2 X0 X1 => by
    unfold planR at h; rw [← hE, if_pos h0, h0, ← hu] at h
    rw [hF, hc1, hc2]
    refine Frees.frz 2 n 1 (u.2.1.map I) rfl (Elems_I _) ?_
    refine Frees.frz 3 n 1 (u.2.2.map I) (cs := u.2.2.map I) ?_ (Elems_I _) ?_
    · have : AV.frzL 2 n 1 (u.2.1.map I) (u.2.2.map I) = u.2.2.map I := AV.frzL_nid (hni _)
      simp [frzH, AObj.frz, this]
    have e1 : AV.frz 2 n 1 (u.2.1.map I) (.ms 1 2 n 0 n) = .vs 1 (u.2.1.map I) := frz_self (by simp [hn])
    have e2 : AV.frz 3 n 1 (u.2.2.map I) (.ms 1 3 n 0 n) = .vs 1 (u.2.2.map I) := frz_self (by simp [hn2])
    have e3 : AV.frz 2 n 1 (u.2.1.map I) (.ms 1 3 n 0 n) = .ms 1 3 n 0 n := by simp [AV.frz]
    have e4 : AV.frz 3 n 1 (u.2.2.map I) (.vs 1 (u.2.1.map I)) = .vs 1 (u.2.1.map I) := AV.frz_nid (by simp only [AV.nid])
    have e5 : AV.frz 3 n 1 (u.2.2.map I) (AV.frz 2 n 1 (u.2.1.map I) (.tup [.ms 1 2 n 0 n, .ms 1 3 n 0 n, I 0])) = .tup [.vs 1 (u.2.1.map I), .vs 1 (u.2.2.map I), I 0] := by
      show AV.tup [AV.frz 3 n 1 (u.2.2.map I) (AV.frz 2 n 1 (u.2.1.map I) (.ms 1 2 n 0 n)), AV.frz 3 n 1 (u.2.2.map I) (AV.frz 2 n 1 (u.2.1.map I) (.ms 1 3 n 0 n)), I 0] = _
      rw [e1, e3, e2, e4]
    rw [e5]
    exact Frees.drop0 h (by simp [AV.nidL, AV.nid, hni])
  obtain ⟨A, hA⟩ : ∃ A, A = std := ⟨_, rfl⟩
  have hne : ∀ x y, A.ne x y = decide (x ≠ y) := by subst hA; intro x y; simp only [std, iNe]; rw [Bool.eq_iff_iff]; simp
  have hee : ∀ x y, A.eq x y = decide (x = y) := by subst hA; intro x y; exact iEq_dec _ _
  have hll : ∀ x y, A.lt x y = decide (x < y) := by subst hA; intro x y; rfl
  have hle : ∀ x y, A.le x y = decide (x ≤ y) := by subst hA; intro x y; rfl
  have hnb : ∀ b, A.bnot b = !b := by subst hA; intro b; rfl
  have hbd : ∀ x y, A.band x y = (x && y) := by subst hA; intro x y; rfl
  have hsg : ∀ g, A.sg g g := by subst hA; exact fun _ => rfl
  refine go21 rfl (SGo_run hA ⟨[], [1000036], (15, eLooked) :: (16, eIn) :: [], []⟩ (.cons eLooked_ok (.cons (eIn_ok p16) .nil)) .nil 200 fun T TD hT hTD => ?_)
  cbv
  refine Exists.intro rs (Exists.intro l (And.intro hxs (And.intro hls (And.intro h1 (And.intro h2 (And.intro ?_ ?_))))))
  · intro e w a' b' c' y z he h0 _ _ _; cbv
    split <;> cbv
    · refine hw e _ ?_ h0
      rw [hE]; unfold planE orElse; rw [← he, if_neg h0]
    · rename_i hz; exact absurd (of_decide_eq_false ((hne e 0).symm.trans hz)) (fun h => h h0)
  intro ho hs2 hlo sl zs hgr; cbv
  have hn0 : A.ne 0 0 = false := by subst hA; rfl
  split <;> first | (rename_i hz; exact Bool.noConfusion (hz.symm.trans hn0)) | cbv
  have hE1 : E = if ¬(0 ≤ t ∧ t ≤ 10000) then 2 else if ¬(1 ≤ k ∧ k ≤ 3) then 4 else 0 := by rw [hE]; unfold planE orElse; rw [surE_ok.2 ⟨ho, hs2, hlo⟩, if_pos rfl]
  intro q1 hq1; cbv
  split <;> cbv
  · rename_i hz
    have hz : q1 = false := by have hz := (hnb q1).symm.trans hz; simpa using hz
    rw [hq1, decide_eq_false_iff_not] at hz
    exact hw 2 _ (by rw [hE1, if_pos hz]) (by decide)
  rename_i hz
  have hz : q1 = true := by have hz := (hnb q1).symm.trans hz; simpa using hz
  rw [hq1, decide_eq_true_eq] at hz
  rw [if_neg (fun h => h hz)] at hE1
  intro q2 hq2; cbv
  split <;> cbv
  · rename_i hz2
    have hz2 : q2 = false := by have hz := (hnb q2).symm.trans hz2; simpa using hz
    rw [hq2, decide_eq_false_iff_not] at hz2
    exact hw 4 _ (by rw [hE1, if_pos hz2]) (by decide)
  rename_i hz2
  have hz2 : q2 = true := by have hz := (hnb q2).symm.trans hz2; simpa using hz
  rw [hq2, decide_eq_true_eq] at hz2
  rw [if_neg (fun h => h hz2)] at hE1
  have hg := hg hE1
  have hlb := hlo.le
  have hpn := ho.le'
  have hRl := ho.ilen
  clear hw
  have hkk : A.sub .i64 k 1 = iLen (k - 1).toNat := by subst hA; show iSub .i64 k 1 = _; rw [iSub_id (by omega) (by omega)]; unfold iLen; omega
  obtain ⟨o, ho3⟩ : ∃ o, o = 1 + (k - 1).toNat := ⟨_, rfl⟩
  have hixo : A.ixm 1 1 1 3 (A.sub .i64 k 1) o := by rw [hkk]; subst hA ho3; exact ⟨rfl, by unfold iLen; omega, by unfold iLen; omega, by unfold iLen; simp⟩
  obtain ⟨sx, hsx⟩ : ∃ x, x = sgtS a b c k := ⟨_, rfl⟩
  have hsb := sgtS_bnd hs2 (k := k)
  rw [← hsx] at hsb
  have hge : A.get none [.vs 5 xs, I a, I b, I c] o (I sx) := by
    subst hA
    have : k = 1 ∨ k = 2 ∨ k = 3 := by omega
    rcases this with rfl | rfl | rfl <;> subst ho3 hsx <;> rfl
  rw [hT]
  refine SGo_run hA ⟨[0], [1000039], [], []⟩ .nil .nil 200 fun T TD hT hTD => ?_
  cbv
  refine And.intro (hsg _) (Exists.intro 1 (And.intro (by subst hA; rfl) ?_)); cbv
  refine And.intro (hsg _) (Exists.intro o (And.intro hixo ?_)); cbv
  refine And.intro (hsg _) (Exists.intro _ (And.intro hge ?_)); cbv
  rw [hT]
  refine AGo_nilms 8 1 rfl ?_
  refine AGo_nilms 9 1 rfl ?_
  refine SGo_run hA ⟨[], [], (41, eStale) :: [], []⟩ (.cons eStale_ok .nil) .nil 200 fun T TD hT hTD => ?_
  cbv
  refine Exists.intro rs (Exists.intro l (And.intro hgr (And.intro hls (And.intro ho (And.intro hs2 (And.intro (by omega) (And.intro (hlo.all' ho) (And.intro hz ?_))))))))
  intro vs hvs; cbv
  obtain ⟨V, hV⟩ : ∃ V, V = staleS (plc rs) a b c l t := ⟨_, rfl⟩
  obtain ⟨N, hN⟩ : ∃ N, N = (plc rs).length := ⟨_, rfl⟩
  have hvs2 : vs = ((List.range N).map V).map B := by rw [hvs, hV, hN]; rfl
  rw [← hN] at hpn hRl
  rw [← hV, ← hsx, ← hN, ← hRl] at hg
  have hvz : A.vlen zs = iLen N := by subst hA; rw [hgr.2.2, hN]; simp [std]
  have hvn : A.vlen vs = iLen N := by subst hA; rw [hvs2]; simp [std]
  have hN1 : 1 ≤ N := by rw [hN]; exact ho.pos
  have hz1 : A.sub .i64 (A.vlen zs) 1 = iLen N - 1 := by rw [hvz]; subst hA; exact iSub_id (by unfold iLen; omega) (by unfold iLen; omega)
  clear hvs
  rw [hT]
  refine AGo_upE [11, 12, 42, 43] N (fun j (s : Int × List Int × List Int) => s = planG V sx (iLen N) j) (fun j s i => [(8, .ms 1 2 s.2.1.length 0 s.2.1.length), (9, .ms 1 3 s.2.1.length 0 s.2.1.length), (13, I s.1), (44, I i)])
    (fun j s => [.own 0 [.vs 5 xs, I a, I b, I c], .own 0 [.vs 5 xs, I a, I b, I c, .vs 1 sl, .vs 5 zs], .own s.2.1.length (s.2.1.map I), .own s.2.1.length (s.2.2.map I)]) (-1, [], []) rfl ⟨rfl, rfl, rfl, rfl, trivial⟩ (.inl rfl) fun j s i hi hj hP Bk hB => ?_
  have hlt : A.lt i (A.vlen vs) = decide (j < N) := by rw [hvn, hll, hi, decide_eq_decide]; unfold iLen; omega
  have hadd : ∀ N, j < N → N ≤ 9223372036854775807 → A.add .i64 i 1 = iLen (j + 1) := fun N hj hN => by subst hA; exact add_one hi hj hN
  have hpl := planG_len (V := V) (s := sx) (n := iLen N) (p := j)
  have hpb := planG_bnd (V := V) (n := iLen N) hsb (p := j)
  have hstp : planG V sx (iLen N) (j + 1) = if V j = true ∧ s.1 < i then (i + 2 * sx, s.2.1 ++ [min (i + sx) (iLen N - 1)], s.2.2 ++ [i]) else s := by
    simp only [planG]; rw [← hP, ← hi]
  rw [← hP] at hpl hpb
  obtain ⟨se, pl, pf⟩ := s
  dsimp only at hpl hpb hstp ⊢
  obtain ⟨n, hn⟩ : ∃ n, n = pl.length := ⟨_, rfl⟩
  obtain ⟨c1, hc1⟩ : ∃ c, c = pl.map I := ⟨_, rfl⟩
  obtain ⟨c2, hc2⟩ : ∃ c, c = pf.map I := ⟨_, rfl⟩
  rw [← hn, ← hc1, ← hc2]
  rw [← hn] at hpl
  have hcl1 : c1.length = n * 1 := by rw [hc1, hn]; simp
  have hcl2 : c2.length = n * 1 := by rw [hc2]; simp; omega
  refine SGo_run hA ⟨[2, 3], [], [], []⟩ .nil .nil 200 fun T TD hT hTD => ?_
  cbv
  split <;> cbv
  · rename_i hk0
    have hk1 : j < N := by have hz := hlt.symm.trans hk0; simpa using hz
    clear hk0
    have hib : 0 ≤ i ∧ i ≤ 1000 := by rw [hi]; unfold iLen; omega
    obtain ⟨vj, hvj⟩ : ∃ v, v = V j := ⟨_, rfl⟩
    have hix : A.ix 1 1 vs i [B vj] := by subst hA; exact ix_map hvs2 hi (by rw [hvj]; simp [hk1]) rfl
    rw [← hvj] at hstp
    have hgt : A.lt se i = decide (se < i) := by rw [hll]
    refine Exists.intro _ (And.intro hix ?_); cbv
    clear hix
    have hno : ¬ (vj = true ∧ se < i) → ∀ e', Fits e' [(8, .ms 1 2 n 0 n), (9, .ms 1 3 n 0 n), (13, I se), (44, I (A.add .i64 i 1))] → Fits e' (keepS [11, 12, 42, 43] [(8, .ms 1 2 n 0 n), (9, .ms 1 3 n 0 n), (13, I se), (44, I i), (11, .mp 1 0 0), (12, I sx), (42, .vs 1 vs), (43, I (A.vlen vs))]) → Bk e' [.own 0 [.vs 5 xs, I a, I b, I c], .own 0 [.vs 5 xs, I a, I b, I c, .vs 1 sl, .vs 5 zs], .own n c1, .own n c2] := fun h0 e' hf hk => by
      rw [if_neg h0] at hstp
      rw [hadd _ hk1 (by omega)] at hf
      rw [hn] at hf
      refine hB (se, pl, pf) _ _ hk1 hstp.symm hf hk (.inl ?_)
      dsimp only; rw [← hn, ← hc1, ← hc2]
    cases vj with
    | false =>
      cbv
      exact hno (by simp) _ ⟨rfl, rfl, rfl, rfl, trivial⟩ ⟨rfl, rfl, rfl, rfl, trivial⟩
    | true =>
      cbv
      split <;> cbv
      · rename_i hz4
        have hz4 := of_decide_eq_true (hgt.symm.trans hz4)
        rw [if_pos ⟨rfl, hz4⟩] at hstp
        have ha1 : A.add .i64 i sx = i + sx := by subst hA; exact iAdd_id (by omega) (by omega)
        have hmn : A.min (A.add .i64 i sx) (A.sub .i64 (A.vlen zs) 1) = min (i + sx) (iLen N - 1) := by rw [ha1, hz1]; subst hA; simp only [std, iMin_eq]
        have hm2 : A.mul .i64 2 sx = 2 * sx := by subst hA; exact iMul_id (by omega) (by omega)
        have ha2 : A.add .i64 i (A.mul .i64 2 sx) = i + 2 * sx := by rw [hm2]; subst hA; exact iAdd_id (by omega) (by omega)
        obtain ⟨d1, hd1⟩ : ∃ x, x = c1 ++ [I (A.min (A.add .i64 i sx) (A.sub .i64 (A.vlen zs) 1))] := ⟨_, rfl⟩
        obtain ⟨d2, hd2⟩ : ∃ x, x = c2 ++ [I i] := ⟨_, rfl⟩
        refine And.intro (hsg _) (Exists.intro d1 (Exists.intro (n + 1) (And.intro (by subst hA; rw [hd1]; exact app_one hcl1 rfl (by omega)) (And.intro rfl ?_))))
        cbv
        refine And.intro (hsg _) (Exists.intro d2 (Exists.intro (n + 1) (And.intro (by subst hA; rw [hd2]; exact app_one hcl2 rfl (by omega)) (And.intro rfl ?_))))
        cbv
        rw [hmn] at hd1
        have hln : ∀ x, (pl ++ [x]).length = n + 1 := fun x => by rw [List.length_append, ← hn]; rfl
        refine hB (i + 2 * sx, pl ++ [min (i + sx) (iLen N - 1)], pf ++ [i]) _ _ hk1 hstp.symm ?_ ⟨rfl, rfl, rfl, rfl, trivial⟩ (.inl ?_)
        · dsimp only; rw [hln]; exact ⟨rfl, rfl, congrArg I ha2, congrArg I (hadd _ hk1 (by omega)), trivial⟩
        · dsimp only; rw [hln, List.map_append, List.map_append, ← hc1, ← hc2, hd1, hd2]; rfl
      · rename_i hz4
        have hz4 := of_decide_eq_false (hgt.symm.trans hz4)
        exact hno (fun h => hz4 h.2) _ ⟨rfl, rfl, rfl, rfl, trivial⟩ ⟨rfl, rfl, rfl, rfl, trivial⟩
  · rename_i hk0
    have hk1 : ¬ j < N := by have hz := hlt.symm.trans hk0; simpa using hz
    clear hk0
    rw [show j = N by omega] at hP
    exact hg n c1 c2 _ hP hn (by dsimp only; omega) hc1 hc2 _ _
end Go.Sas
namespace Go.Sas
section
variable {α : Type} [DecidableEq α]
end
/-- what a plan of looks says -/
structure PlanV (V : Nat → Bool) (s n : Int) (j : Nat) (u : Int × List Int × List Int) : Prop where
  len : u.2.2.length = u.2.1.length
  prf : ∀ (i : Nat) q, u.2.2[i]? = some q → ∃ p : Nat, q = iLen p ∧ p < j ∧ V p = true ∧ u.2.1[i]? = some (min (q + s) (n - 1)) ∧ q + 2 * s ≤ u.1
  nxt : ∀ (i : Nat) q q', u.2.2[i]? = some q → u.2.2[i + 1]? = some q' → q + 2 * s < q'
  cov : ∀ p : Nat, p < j → V p = true → ∃ x ∈ u.2.1, x - s ≤ p ∧ (p : Int) ≤ x + s
  see : u.1 = -1 ∨ ∃ q : Nat, q < j ∧ u.1 = iLen q + 2 * s ∧ min (iLen q + s) (n - 1) ∈ u.2.1
end Go.Sas
