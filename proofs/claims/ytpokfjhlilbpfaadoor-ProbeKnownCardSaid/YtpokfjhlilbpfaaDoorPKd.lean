/-
Probe: why places are shut: contract.
Probe: Close: contract.
Probe: the chapter's examples that every statement asks: contract.
Probe: awake: contract.
Conditions: none.
-/
import Derived.Test.YtpokfjhlilbpfaaDoorPJd
import Derived.Test.YtpokfjhlilbpfaaDoorPBd
set_option linter.unusedVariables false
set_option linter.unusedSimpArgs false
namespace Go.Sas
open Go.Proofs
set_option maxRecDepth 100000
def eVerd (C : List Mrk → Int → Int → Prop) : List AV → Option ((AV → Prop) → Prop)
  | [.vs 5 xs, .lit (.int .i64 h), .lit (.int .i64 n)] => some fun K => ∃ (m : List Mrk) (N : Nat), xs = m.map mkV ∧ n = iLen N ∧ C m h n ∧ m.length ≤ 1000000 ∧ N ≤ 1000 ∧ 1 ≤ N ∧ ∀ ys, ys = ((List.range N).map (verdS m h n)).map I → K (.vs 1 ys)
  | _ => none
theorem eVerd_ok {C : List Mrk → Int → Int → Prop} (hC : CovOk C) : ∀ args pt, eVerd C args = some pt → ∀ (H : AHeap) (Kk : AV → AHeap → Prop), pt (fun r => Kk r H) → ACalls Tryd.prog 37 args H Kk := by
  intro args pt h H Kk hk
  unfold eVerd at h
  split at h
  · cases h
    obtain ⟨m, N, rfl, rfl, h1, h2, h3, h4, h5⟩ := hk
    exact p37 C hC _ _ _ h1 h2 h3 h4 H (h5 _ rfl)
  · cases h
theorem p44 (C : List Mrk → Int → Int → Prop) (hC : CovOk C) (rs : List Rch) (a b c need h0 : Int) (l : List Lk) (m : List Mrk) (ho : RoadOk rs) (hs : SgtOk a b c) (hl : l.length ≤ 1000000) (hL : ∀ x ∈ l, LkOk (sumLg rs) x) (hm : m.length ≤ 1000000) (hCm : C m h0 (sumLg rs)) (hh : 0 ≤ h0 ∧ h0 ≤ 10000) (H : AHeap) {Kk : AV → AHeap → Prop}
    (h : Kk (.vs 1 (((List.range (plc rs).length).map (whyS (plc rs) a b c l m need h0)).map I)) H) : ACalls Tryd.prog 44 [grV (.vs 5 (rs.map rcV)) a b c (.vs 1 ((slL (plc rs)).map I)) (.vs 5 ((plc rs).map rcV)), .vs 5 (l.map lkV), .vs 5 (m.map mkV), I need, I h0] H Kk := by
  refine (fun q => pureF (by rfl) (by rfl) q H h) ?_
  clear h
  intro Kk h
  have hg := grIs rs
  obtain ⟨xs, hxs⟩ : ∃ xs, xs = rs.map rcV := ⟨_, rfl⟩
  obtain ⟨ws, hws⟩ : ∃ ys, ys = (slL (plc rs)).map I := ⟨_, rfl⟩
  obtain ⟨zs, hzs⟩ : ∃ zs, zs = (plc rs).map rcV := ⟨_, rfl⟩
  rw [← hxs, ← hws, ← hzs] at hg ⊢
  obtain ⟨ls, hls⟩ : ∃ ys, ys = l.map lkV := ⟨_, rfl⟩
  rw [← hls]
  obtain ⟨ms, hms⟩ : ∃ ys, ys = m.map mkV := ⟨_, rfl⟩
  rw [← hms]
  have hRl := ho.ilen
  have hpos := ho.pos
  have hle := ho.le'
  obtain ⟨R, hR⟩ : ∃ R, R = plc rs := ⟨_, rfl⟩
  rw [← hR] at h hRl hpos hle
  obtain ⟨N, hN⟩ : ∃ N, N = R.length := ⟨_, rfl⟩
  rw [← hN] at hRl h hpos hle
  obtain ⟨W, hW⟩ : ∃ W, W = whyS R a b c l m need h0 := ⟨_, rfl⟩
  rw [← hW] at h
  obtain ⟨VS, hVS⟩ : ∃ v, v = verdS m h0 (iLen N) := ⟨_, rfl⟩
  obtain ⟨SS, hSS⟩ : ∃ v, v = staleS R a b c l h0 := ⟨_, rfl⟩
  have hWp : ∀ p, W p = if (knowS R l p h0).1 < need then 1 else if VS p ≠ 2 then 2 else if SS p = true then 3 else 0 := fun p => by rw [hW, hVS, hSS, hN]; rfl
  clear hW
  obtain ⟨F, hF⟩ : ∃ F, F = Frees 0 Kk := ⟨_, rfl⟩
  rw [← hF]
  obtain ⟨WF, hWF⟩ : ∃ f : Nat → List AV, f = fun k => rowI N fun q => if q < k then W q else 0 := ⟨_, rfl⟩
  have hend : ∀ X, F (aTup [.ms 1 1 0 0 N]) [X, .own 0 (WF N)] := by
    intro X
    rw [hF, hWF]
    have e : (rowI N fun q => if q < N then W q else 0) = ((List.range N).map W).map I := by
      rw [show (rowI N fun q => if q < N then W q else 0) = rowI N W from rowA_congr fun q hq => by dsimp only; rw [if_pos hq]]; exact rowA_map
    dsimp only
    rw [e]
    refine Frees.frz 1 0 1 (((List.range N).map W).map I) rfl (Elems_I _) ?_
    have e2 : AV.frz 1 0 1 (((List.range N).map W).map I) (aTup [.ms 1 1 0 0 N]) = .vs 1 (((List.range N).map W).map I) := frz_self (by simp)
    rw [e2]
    exact Frees.drop0 h rfl
  obtain ⟨A, hA⟩ : ∃ A, A = std := ⟨_, rfl⟩
  have hsg : ∀ g, A.sg g g := by subst hA; exact fun _ => rfl
  have hv : A.vlen zs = iLen N := by subst hA; rw [hzs, hN, hR]; simp [std]
  have hmk : A.mkz 1 8 [.int .i64 0] (A.vlen zs) (A.vlen zs) (WF 0) N := by
    rw [hv]; subst hA; rw [hWF]
    have := mkS_rowA (by_ := 8) (z := .int .i64 0) (ln := iLen N) (D := N) rfl (by omega) (by omega)
    have e : (rowI N fun q => if q < 0 then W q else 0) = rowA N fun _ => I 0 := rowA_congr fun q hq => by dsimp only; rw [if_neg (Nat.not_lt_zero _)]
    dsimp only; rw [e]
    exact this
  obtain ⟨c0, hc0⟩ : ∃ x, x = WF 0 := ⟨_, rfl⟩
  rw [← hc0] at hmk
  refine go44 rfl (SGo_run hA ⟨[1], [], (41, eStale) :: (37, eVerd C) :: [], []⟩ (.cons eStale_ok (.cons (eVerd_ok hC) .nil)) .nil 200 fun T TD hT hTD => ?_)
  cbv
  refine Exists.intro c0 (Exists.intro N (And.intro hmk ?_)); cbv
  refine Exists.intro rs (Exists.intro l (And.intro hg (And.intro hls (And.intro ho (And.intro hs (And.intro hl (And.intro hL (And.intro hh ?_)))))))) 
  intro sl hsl; cbv
  have hlen : A.len N = iLen N := by subst hA; rfl
  refine And.intro (hsg _) (Exists.intro m (Exists.intro N (And.intro hms (And.intro hlen (And.intro ?_ (And.intro hm (And.intro hle (And.intro hpos ?_))))))))
  · show C m h0 (A.len N); rw [hlen, hRl]; exact hCm
  intro vl hvl; cbv
  have hvl3 : vl = ((List.range N).map VS).map I := by rw [hVS, ← hlen]; exact hvl
  clear hvl
  have hsl3 : sl = ((List.range N).map SS).map B := by rw [hsl, hSS, hN, hR]; rfl
  clear hsl
  refine And.intro (hsg _) ?_
  rw [hT]
  refine AGo_upE [1, 3, 4, 5, 11, 12, 13, 29] N (fun j (_ : Unit) => True) (fun j _ i => [(30, I i)]) (fun j _ => [.own 0 [.vs 5 xs, I a, I b, I c, .vs 1 ws, .vs 5 zs], .own 0 (WF j)]) () trivial ⟨rfl, trivial⟩ (.inl (by rw [hc0])) fun j _ i hi hj hP Bk hB => ?_
  have hlt : A.lt i (A.len N) = decide (j < N) := by rw [hlen]; subst hA; simp only [std, iLt]; rw [decide_eq_decide, hi]; unfold iLen; omega
  have hadd : ∀ N, j < N → N ≤ 9223372036854775807 → A.add .i64 i 1 = iLen (j + 1) := fun N hj hN => by subst hA; exact add_one hi hj hN
  obtain ⟨c1, hc1⟩ : ∃ x, x = WF j := ⟨_, rfl⟩
  rw [← hc1]
  refine SGo_run hA ⟨[1], [], (17, eKnowG) :: [], []⟩ (.cons eKnowG_ok .nil) .nil 200 fun T TD hT hTD => ?_
  cbv
  split <;> cbv
  · rename_i hk0
    have hk1 : j < N := by have hz := hlt.symm.trans hk0; simpa using hz
    clear hk0
    have hib : 0 ≤ i ∧ i < sumLg rs := by rw [← hRl, hi]; unfold iLen; omega
    have hij : i.toNat = j := by rw [hi]; rfl
    refine Exists.intro rs (Exists.intro l (And.intro hg (And.intro hls (And.intro ho (And.intro hl (And.intro hL (And.intro hib (And.intro hh ?_))))))))
    intro u v huv; cbv
    have hu : (knowS R l j h0).1 = u := by rw [← hij, hR, ← huv]
    have hlt2 : A.lt u need = decide (u < need) := by subst hA; rfl
    have hixj : A.ixm 1 1 0 N i j := by subst hA; exact ixm1 hi hk1
    have hWj := hWp j
    rw [hu] at hWj
    obtain ⟨c2, hc2⟩ : ∃ x, x = WF (j + 1) := ⟨_, rfl⟩
    have hup : ∀ y, W j = y → A.upd 1 c1 j [I y] c2 := fun y hy => by
      subst hA; rw [hc1, hc2, hWF]
      refine updS_rowA hk1 fun q _ => ?_
      dsimp only
      by_cases h1 : q = j
      · subst h1; rw [if_pos rfl, if_pos (by omega), hy]
      · rw [if_neg h1]
        by_cases h2 : q < j
        · rw [if_pos h2, if_pos (by omega)]
        · rw [if_neg h2, if_neg (by omega)]
    have hsame : W j = 0 → c1 = c2 := fun hy => by
      rw [hc1, hc2, hWF]
      refine rowA_congr fun q _ => ?_
      dsimp only
      by_cases h1 : q = j
      · subst h1; rw [if_neg (Nat.lt_irrefl _), if_pos (by omega), hy]
      · by_cases h2 : q < j
        · rw [if_pos h2, if_pos (by omega)]
        · rw [if_neg h2, if_neg (by omega)]
    have hfin : ∀ e', Fits e' [(30, I (A.add .i64 i 1))] → Fits e' (keepS [1, 3, 4, 5, 11, 12, 13, 29] [(30, I i), (1, .vs 5 ls), (3, I need), (4, I h0), (5, .mp 0 0 0), (11, .ms 1 1 0 0 N), (12, .vs 1 sl), (13, .vs 1 vl), (29, I (A.len N))]) →
        Bk e' [.own 0 [.vs 5 xs, I a, I b, I c, .vs 1 ws, .vs 5 zs], .own 0 c2] := fun e' hf hk => by
      rw [hadd _ hk1 (by omega)] at hf
      exact hB () _ _ hk1 trivial hf hk (.inl (by rw [hc2]))
    clear hB
    split <;> cbv
    · rename_i hz
      have hz := of_decide_eq_true (hlt2.symm.trans hz)
      rw [if_pos hz] at hWj
      refine And.intro (hsg _) (Exists.intro j (And.intro hixj ?_)); cbv
      refine And.intro (hsg _) (Exists.intro c2 (And.intro (hup _ hWj) ?_)); cbv
      exact hfin _ ⟨rfl, trivial⟩ ⟨rfl, rfl, rfl, rfl, rfl, rfl, rfl, rfl, trivial⟩
    rename_i hz
    have hz := of_decide_eq_false (hlt2.symm.trans hz)
    rw [if_neg hz] at hWj
    obtain ⟨v1, hv1⟩ : ∃ v, v = VS j := ⟨_, rfl⟩
    obtain ⟨s1, hs1⟩ : ∃ v, v = SS j := ⟨_, rfl⟩
    rw [← hv1, ← hs1] at hWj
    have hixv : A.ix 1 1 vl i [I v1] := by subst hA; exact ix_map hvl3 hi (by rw [hv1]; simp [hk1]) rfl
    have hixs : A.ix 1 1 sl i [B s1] := by subst hA; exact ix_map hsl3 hi (by rw [hs1]; simp [hk1]) rfl
    have hne2 : A.ne v1 2 = decide (v1 ≠ 2) := by subst hA; simp only [std, iNe]; rw [Bool.eq_iff_iff]; simp
    refine Exists.intro _ (And.intro hixv ?_); cbv
    split <;> cbv
    · rename_i hz2
      have hz2 := of_decide_eq_true (hne2.symm.trans hz2)
      rw [if_pos hz2] at hWj
      refine And.intro (hsg _) (Exists.intro j (And.intro hixj ?_)); cbv
      refine And.intro (hsg _) (Exists.intro c2 (And.intro (hup _ hWj) ?_)); cbv
      exact hfin _ ⟨rfl, trivial⟩ ⟨rfl, rfl, rfl, rfl, rfl, rfl, rfl, rfl, trivial⟩
    rename_i hz2
    have hz2 := of_decide_eq_false (hne2.symm.trans hz2)
    rw [if_neg hz2] at hWj
    refine Exists.intro _ (And.intro hixs ?_); cbv
    clear hixs hs1
    cases s1 with
    | true =>
      cbv
      refine And.intro (hsg _) (Exists.intro j (And.intro hixj ?_)); cbv
      refine And.intro (hsg _) (Exists.intro c2 (And.intro (hup _ hWj) ?_)); cbv
      exact hfin _ ⟨rfl, trivial⟩ ⟨rfl, rfl, rfl, rfl, rfl, rfl, rfl, rfl, trivial⟩
    | false =>
      cbv
      rw [hsame hWj]
      exact hfin _ ⟨rfl, trivial⟩ ⟨rfl, rfl, rfl, rfl, rfl, rfl, rfl, rfl, trivial⟩
  · rename_i hk0
    have hk1 : ¬ j < N := by have hz := hlt.symm.trans hk0; simpa using hz
    clear hk0
    rw [hc1, show j = N by omega]
    exact hend _
end Go.Sas
namespace Go.Sas
open Go.Proofs
set_option maxRecDepth 100000
def eReasons (C : List Mrk → Int → Int → Prop) : List AV → Option ((AV → Prop) → Prop)
  | [.agg [.vs 5 xs, .lit (.int .i64 a), .lit (.int .i64 b), .lit (.int .i64 c), .vs 1 ws, .vs 5 zs], .vs 5 ls, .vs 5 ms, .lit (.int .i64 need), .lit (.int .i64 t)] =>
    some fun K => ∃ (rs : List Rch) (l : List Lk) (m : List Mrk), GrIs rs xs ws zs ∧ ls = l.map lkV ∧ ms = m.map mkV ∧ RoadOk rs ∧ SgtOk a b c ∧ l.length ≤ 1000000 ∧ (∀ x ∈ l, LkOk (sumLg rs) x) ∧ m.length ≤ 1000000 ∧ C m t (sumLg rs) ∧ (0 ≤ t ∧ t ≤ 10000) ∧
      ∀ N V ys, N = (plc rs).length → V = whyS (plc rs) a b c l m need t → ys = ((List.range N).map V).map I → K (.vs 1 ys)
  | _ => none
theorem eReasons_ok {C : List Mrk → Int → Int → Prop} (hC : CovOk C) : ∀ args pt, eReasons C args = some pt → ∀ (H : AHeap) (Kk : AV → AHeap → Prop), pt (fun r => Kk r H) → ACalls Tryd.prog 44 args H Kk := by
  intro args pt h H Kk hk
  unfold eReasons at h
  split at h
  · cases h
    obtain ⟨rs, l, m, ⟨rfl, rfl, rfl⟩, rfl, rfl, h1, h2, h3, h4, h5, h6, h7, h8⟩ := hk
    exact p44 C hC _ _ _ _ _ _ _ _ h1 h2 h3 h4 h5 h6 h7 H (h8 _ _ _ rfl rfl rfl)
  · cases h
abbrev cloV (x : Nat × Nat × Int) : AV := .agg [I (iLen x.1), I (iLen x.2.1), I x.2.2]
def closeL (rs : List Rch) (a b c : Int) (l : List Lk) (m : List Mrk) (need h : Int) : List (Nat × Nat × Int) :=
  if askE rs a b c l m need h = 0 then cloS (whyS (plc rs) a b c (pastL l h) (pastM m h) need h) (plc rs).length else []
theorem p22 (C : List Mrk → Int → Int → Prop) (hC : CovOk C) (rs : List Rch) (a b c : Int) (l : List Lk) (m : List Mrk) (need h0 : Int) (h1 : rs.length ≤ 9223372036854775807) (h2 : l.length ≤ 9223372036854775807) (h3 : m.length ≤ 9223372036854775807) (hCm : askE rs a b c l m need h0 = 0 → C (pastM m h0) h0 (sumLg rs)) (H : AHeap) {Kk : AV → AHeap → Prop}
    (h : Kk (.tup [.vs 3 ((closeL rs a b c l m need h0).map cloV), I (askE rs a b c l m need h0)]) H) : ACalls Tryd.prog 22 [svV (.vs 5 (rs.map rcV)) a b c, .vs 5 (l.map lkV), .vs 5 (m.map mkV), I need, I h0] H Kk := by
  have hnr := nidL_rc rs
  refine (fun q => pureF (by simp [AV.nidL, AV.nid, hnr, nidL_map (g := lkV) (fun _ => rfl) l, nidL_map (g := mkV) (fun _ => rfl) m]) (by simp [AV.nidL, AV.nid, nidL_map (g := cloV) (fun _ => rfl)]) q H h) ?_
  clear h
  intro Kk h
  obtain ⟨xs, hxs⟩ : ∃ xs, xs = rs.map rcV := ⟨_, rfl⟩
  rw [← hxs]
  obtain ⟨ls, hls⟩ : ∃ ys, ys = l.map lkV := ⟨_, rfl⟩
  rw [← hls]
  obtain ⟨ms, hms⟩ : ∃ ys, ys = m.map mkV := ⟨_, rfl⟩
  rw [← hms]
  obtain ⟨E, hE⟩ : ∃ E, E = askE rs a b c l m need h0 := ⟨_, rfl⟩
  rw [← hE] at h
  obtain ⟨F, hF⟩ : ∃ F, F = Frees 0 Kk := ⟨_, rfl⟩
  rw [← hF]
  have hw : ∀ H1, E ≠ 0 → F (.tup [NS, I E]) H1 := fun H1 h0 => by
    unfold closeL at h; rw [← hE, if_neg h0] at h
    rw [hF]
    exact Frees.wk (r' := .tup [.vs 3 [], I E]) (Wk.tup ⟨Wk.nil, Wk.rfl, trivial⟩) (Frees.drop0 h rfl)
  have hg : E = 0 → ∀ n cs V, V = whyS (plc rs) a b c (pastL l h0) (pastM m h0) need h0 → n = (cloS V (plc rs).length).length → cs = (cloS V (plc rs).length).flatMap cloC → ∀ X0 X1, F (.tup [.ms 3 3 n 0 n, I 0]) [X0, X1, .own 0 [.ms 3 3 n 0 n], .own n cs] := fun h0 n cs V hV hn hcs X0 X1 => by
    unfold closeL at h; rw [← hE, if_pos h0, h0, ← hV] at h
    rw [hF, hcs]
    refine Frees.frz 3 n 3 ((cloS V (plc rs).length).map cloV) rfl (Elems_map (f := cloV) (g := cloC) (sz := 3) (fun _ => rfl) (fun _ => rfl) (fun _ => rfl) _) ?_
    have e : AV.frz 3 n 3 ((cloS V (plc rs).length).map cloV) (.ms 3 3 n 0 n) = .vs 3 ((cloS V (plc rs).length).map cloV) := frz_self (by simp [hn])
    have e2 : AV.frz 3 n 3 ((cloS V (plc rs).length).map cloV) (.tup [.ms 3 3 n 0 n, I 0]) = .tup [.vs 3 ((cloS V (plc rs).length).map cloV), I 0] := by
      show AV.tup [AV.frz 3 n 3 ((cloS V (plc rs).length).map cloV) (.ms 3 3 n 0 n), I 0] = _
      rw [e]
    rw [e2]
    exact Frees.drop0 h (by simp [AV.nidL, AV.nid, nidL_map (g := cloV) (fun _ => rfl)])
  obtain ⟨A, hA⟩ : ∃ A, A = std := ⟨_, rfl⟩
  have hsg : ∀ g, A.sg g g := by subst hA; exact fun _ => rfl
  have hne : ∀ x, A.ne x 0 = decide (x ≠ 0) := by subst hA; intro x; simp only [std, iNe]; rw [Bool.eq_iff_iff]; simp
  refine go22 rfl (SGo_run hA ⟨[], [], (43, eAsked) :: [], []⟩ (.cons eAsked_ok .nil) .nil 200 fun T TD hT hTD => ?_)
  cbv
  refine Exists.intro rs (Exists.intro l (Exists.intro m (And.intro hxs (And.intro hls (And.intro hms (And.intro h1 (And.intro h2 (And.intro h3 (And.intro ?_ ?_)))))))))
  · intro e a1 a2 a3 a4 a5 a6 x y he h0 _ _ _; cbv
    split <;> cbv
    · rw [← hE] at he; rw [he] at h0 ⊢; exact hw _ h0
    · rename_i hz; exact absurd (of_decide_eq_false ((hne e).symm.trans hz)) (fun h => h h0)
  intro hE0 ys zs la ma hgr hla hma; cbv
  split <;> cbv
  · rename_i hz; exact absurd rfl (of_decide_eq_true ((hne 0).symm.trans hz))
  obtain ⟨ho, hs, hlo, hm1, hm2, _, hh⟩ := askE_ok.1 hE0
  have hll := hlo.le
  have hpn := ho.le'
  have hE3 : E = 0 := hE.trans hE0
  have hg := hg hE3
  clear hw
  rw [hT]
  refine AGo_nilcell 2 0 3 rfl rfl ?_
  refine SGo_run hA ⟨[], [], (44, eReasons C) :: [], (36, eJoinC) :: []⟩ (.cons (eReasons_ok hC) .nil) (.cons eJoinC_ok .nil) 200 fun T TD hT hTD => ?_
  cbv
  refine Exists.intro rs (Exists.intro (pastL l h0) (Exists.intro (pastM m h0) (And.intro hgr (And.intro hla (And.intro hma (And.intro ho (And.intro hs (And.intro ?_ (And.intro ?_ (And.intro ?_ (And.intro (hCm hE0) (And.intro hh ?_))))))))))))
  · have := pastL_len (l := l) (h := h0); omega
  · exact fun x hx => hlo.all' ho x (pastL_mem hx)
  · have := pastM_len (l := m) (h := h0); omega
  intro N V vs hN hV hvs; cbv
  rw [← hN] at hpn
  refine Exists.intro V (Exists.intro N (And.intro hvs (And.intro hpn (And.intro (by decide) ?_))))
  intro n cs hn hcs; cbv
  rw [hN] at hn hcs
  exact hg n cs V hV hn hcs _ _
end Go.Sas
namespace Go.Sas
open Go.Proofs
set_option maxRecDepth 100000
abbrev t3V (x : Int × Int × Int) : AV := .agg [I x.1, I x.2.1, I x.2.2]
theorem p26 (l l' : List (Int × Int × Int)) (hl : l.length ≤ 9223372036854775807) (hl' : l'.length ≤ 9223372036854775807) (H : AHeap) {Kk : AV → AHeap → Prop} (h : Kk (B (decide (l = l'))) H) : ACalls Tryd.prog 26 [.vs 3 (l.map t3V), .vs 3 (l'.map t3V)] H Kk := by
  refine (fun q => pureC (by rfl) (by rfl) q H h) ?_
  clear h
  intro Kk h
  obtain ⟨A, hA⟩ : ∃ A, A = std := ⟨_, rfl⟩
  obtain ⟨xs, hxs⟩ : ∃ xs, xs = l.map t3V := ⟨_, rfl⟩
  obtain ⟨ys, hys⟩ : ∃ xs, xs = l'.map t3V := ⟨_, rfl⟩
  rw [← hxs, ← hys]
  obtain ⟨W, hW⟩ : ∃ W, W = decide (l = l') := ⟨_, rfl⟩
  rw [← hW] at h
  have hn : A.ne (A.vlen xs) (A.vlen ys) = decide (l.length ≠ l'.length) := by
    subst hA hxs hys
    show (((l.map t3V).length : Int) != ((l'.map t3V).length : Int)) = _
    rw [Bool.eq_iff_iff]; simp only [List.length_map, bne_iff_ne, ne_eq, decide_eq_true_eq]; omega
  refine go26 rfl (SGo_run hA ⟨[], [], [], []⟩ .nil .nil 200 fun T TD hT hTD => ?_)
  cbv
  split <;> cbv
  · rename_i hq
    have hq := hn.symm.trans hq
    simp only [ne_eq, decide_eq_true_eq] at hq
    refine leaf h (congrArg B ?_) rfl
    rw [hW, decide_eq_false_iff_not]
    rintro rfl; exact hq rfl
  rename_i hq
  have hq := hn.symm.trans hq
  simp only [ne_eq, decide_eq_false_iff_not, Decidable.not_not] at hq
  rw [hT]
  refine AGo_up l.length (fun j => W = decide (l.drop j = l'.drop j)) (fun _ i => [(0, .vs 3 xs), (1, .vs 3 ys), (4, B false), (5, I i)]) (fun _ => []) hW ⟨rfl, rfl, rfl, rfl, trivial⟩ (.inl rfl) fun j i hi hj hP Bk hB => ?_
  have hlt : A.lt i (A.vlen xs) = decide (j < l.length) := by subst hA; exact lt_len (by simp [hxs]) hi
  have hadd : ∀ N, j < N → N ≤ 9223372036854775807 → A.add .i64 i 1 = iLen (j + 1) := fun N hj hN => by subst hA; exact add_one hi hj hN
  refine SGo_run hA ⟨[], [], [], []⟩ .nil .nil 200 fun T TD hT hTD => ?_
  cbv
  split <;> cbv
  · rename_i hk1
    have hk1 : j < l.length := by have := hlt.symm.trans hk1; simpa using this
    obtain ⟨⟨x, x', x''⟩, hx⟩ : ∃ x, l[j]? = some x := ⟨_, List.getElem?_eq_getElem hk1⟩
    obtain ⟨⟨y, y', y''⟩, hy⟩ : ∃ y, l'[j]? = some y := ⟨_, List.getElem?_eq_getElem (by omega)⟩
    have hix : A.ix 3 3 xs i [I x, I x', I x''] := by subst hA; exact ix_map hxs hi hx rfl
    have hiy : A.ix 3 3 ys i [I y, I y', I y''] := by subst hA; exact ix_map hys hi hy rfl
    rw [drop_cons hx, drop_cons hy] at hP
    refine Exists.intro _ (And.intro hix ?_)
    cbv
    refine Exists.intro _ (And.intro hiy ?_)
    cbv
    split <;> cbv
    · rename_i hz
      refine leaf h (congrArg B ?_) rfl
      rw [hP, decide_eq_false_iff_not]
      intro he
      injection he with he _
      clear hP hadd hlt hix hiy hB
      subst hA
      simp [std, iNe, iEq] at hz
      try simp at he
      first | exact hz he | exact hz.elim (fun h => h he.1) (fun h => h he.2) | omega
    · rename_i hz
      refine hB _ _ hk1 ?_ ⟨rfl, rfl, rfl, congrArg I (hadd _ hk1 (by omega)), trivial⟩ (.inl rfl)
      clear hadd hlt hix hiy hB
      subst hA
      simp [std, iNe, iEq] at hz
      rw [hP]
      simp [hz]
  · rename_i hk1
    have hk1 : ¬ j < l.length := by have := hlt.symm.trans hk1; simpa using this
    refine leaf h (congrArg B ?_) rfl
    rw [hP, List.drop_eq_nil_of_le (by omega), List.drop_eq_nil_of_le (by omega)]; rfl
theorem p4 (a b : Int) (H : AHeap) {Kk : AV → AHeap → Prop} (h : Kk (.agg [I a, I b]) H) : ACalls Tryd.prog 4 [I a, I b] H Kk := by
  refine (fun q => pureC (by rfl) (by rfl) q H h) ?_
  clear h
  intro Kk h
  obtain ⟨A, hA⟩ : ∃ A, A = std := ⟨_, rfl⟩
  refine go4 rfl (SGo_run hA ⟨[], [], [], []⟩ .nil .nil 200 fun T TD hT hTD => ?_)
  cbv
  exact h
def eSpn : List AV → Option ((AV → Prop) → Prop)
  | [.lit (.int .i64 a), .lit (.int .i64 b)] => some fun K => K (.agg [I a, I b])
  | _ => none
theorem eSpn_ok : ∀ args pt, eSpn args = some pt → ∀ (H : AHeap) (Kk : AV → AHeap → Prop), pt (fun r => Kk r H) → ACalls Tryd.prog 4 args H Kk := by
  intro args pt h H Kk hk
  unfold eSpn at h
  split at h
  · cases h; exact p4 _ _ H hk
  · cases h
theorem p10 (a t v : Int) (H : AHeap) {Kk : AV → AHeap → Prop} (h : Kk (.agg [I 1, I a, I t, I v, I v]) H) : ACalls Tryd.prog 10 [I a, I t, I v] H Kk := by
  refine (fun q => pureC (by rfl) (by rfl) q H h) ?_
  clear h
  intro Kk h
  obtain ⟨A, hA⟩ : ∃ A, A = std := ⟨_, rfl⟩
  refine go10 rfl (SGo_run hA ⟨[], [], (4, eSpn) :: [], []⟩ (.cons eSpn_ok .nil) .nil 200 fun T TD hT hTD => ?_)
  cbv
  exact h
def eCore : List AV → Option ((AV → Prop) → Prop)
  | [.lit (.int .i64 a), .lit (.int .i64 t), .lit (.int .i64 v)] => some fun K => K (.agg [I 1, I a, I t, I v, I v])
  | _ => none
theorem eCore_ok : ∀ args pt, eCore args = some pt → ∀ (H : AHeap) (Kk : AV → AHeap → Prop), pt (fun r => Kk r H) → ACalls Tryd.prog 10 args H Kk := by
  intro args pt h H Kk hk
  unfold eCore at h
  split at h
  · cases h; exact p10 _ _ _ H hk
  · cases h
def exR : List Rch := [⟨3, 10, 2, 1, 24⟩, ⟨2, 50, 5, 0, 12⟩]
def exL : List Lk := [⟨1, 0, 10, 500, 500⟩]
theorem p6 (H : AHeap) {Kk : AV → AHeap → Prop} (h : Kk (svV (.vs 5 (exR.map rcV)) 0 1 2) H) : ACalls Tryd.prog 6 [] H Kk := by
  refine (fun q => pureC (by rfl) (by rfl) q H h) ?_
  clear h
  intro Kk h
  obtain ⟨A, hA⟩ : ∃ A, A = std := ⟨_, rfl⟩
  refine go6 rfl (SGo_run hA ⟨[], [], [], []⟩ .nil .nil 200 fun T TD hT hTD => ?_)
  cbv
  exact h
theorem p7 (H : AHeap) {Kk : AV → AHeap → Prop} (h : Kk (.vs 5 (exL.map lkV)) H) : ACalls Tryd.prog 7 [] H Kk := by
  refine (fun q => pureC (by rfl) (by rfl) q H h) ?_
  clear h
  intro Kk h
  obtain ⟨A, hA⟩ : ∃ A, A = std := ⟨_, rfl⟩
  refine go7 rfl (SGo_run hA ⟨[], [], (10, eCore) :: [], []⟩ (.cons eCore_ok .nil) .nil 200 fun T TD hT hTD => ?_)
  cbv
  exact h
end Go.Sas
namespace Go.Sas
open Go.Proofs
set_option maxRecDepth 100000
end Go.Sas
