/-
Probe: the ground of a road.
Probe: the cost of a way: contract.
Conditions: none.
-/
import Derived.Test.YtpokfjhlilbpfaaDoorPEd
import Derived.Test.YtpokfjhlilbpfaaDoorP6d
import Derived.Test.YtpokfjhlilbpfaaDoorP7d
import Derived.Test.YtpokfjhlilbpfaaDoorPMd
set_option linter.unusedVariables false
set_option linter.unusedSimpArgs false
namespace Go.Sas
open Go.Proofs
set_option maxRecDepth 100000
def eRoad : List AV → AHeap → Option PT
  | [.agg [.vs 5 xs, .lit (.int .i64 a), .lit (.int .i64 b), .lit (.int .i64 c)]], H => some fun K => ∃ rs : List Rch, xs = rs.map rcV ∧ K (.fn 64 [.mp H.length 0 0]) (H ++ [.own 0 [.vs 5 xs, I a, I b, I c]])
  | _, _ => none
theorem nidL_rc : ∀ (rs : List Rch), AV.nidL (rs.map rcV) = true
  | [] => rfl
  | r :: rs => by show (AV.nid _ && AV.nidL (rs.map rcV)) = true; rw [nidL_rc rs]; rfl
theorem p54 (rs : List Rch) (a b c : Int) (H : AHeap) {Kk : AV → AHeap → Prop} (h : Kk (.fn 64 [.mp H.length 0 0]) (H ++ [.own 0 [.vs 5 (rs.map rcV), I a, I b, I c]])) : ACalls Tryd.prog 54 [svV (.vs 5 (rs.map rcV)) a b c] H Kk := by
  have hnl := nidL_rc rs
  have h1 : ACalls Tryd.prog 54 [svV (.vs 5 (rs.map rcV)) a b c] [] fun r H' => r = .fn 64 [.mp 0 0 0] ∧ H' = [.own 0 [.vs 5 (rs.map rcV), I a, I b, I c]] := by
    clear h Kk
    obtain ⟨xs, hxs⟩ : ∃ xs, xs = rs.map rcV := ⟨_, rfl⟩
    rw [← hxs]
    obtain ⟨Kk, hKk⟩ : ∃ K : AV → AHeap → Prop, K = fun r H' => r = .fn 64 [.mp 0 0 0] ∧ H' = [.own 0 [.vs 5 xs, I a, I b, I c]] := ⟨_, rfl⟩
    rw [← hKk]
    obtain ⟨A, hA⟩ : ∃ A, A = std := ⟨_, rfl⟩
    refine go54 rfl (SGo_run hA ⟨[], [], [], []⟩ .nil .nil 200 fun T TD hT hTD => ?_)
    cbv
    rw [hKk]; exact ⟨rfl, rfl⟩
  have hn2 : (svV (.vs 5 (rs.map rcV)) a b c).nid = true := by simp [AV.nid, AV.nidL, hnl]
  have h2 := ACalls.frame (H := H) [] h1 List.nodup_nil rfl (AV.ltL_nid (by simp only [AV.nidL, hn2, Bool.and_true])) (by simp [ltH]) (fun k X hk => by simp at hk)
  rw [AV.renL_nid (by simp only [AV.nidL, hn2, Bool.and_true])] at h2
  refine h2.mono fun r H' hx => ?_
  obtain ⟨r0, H1, ⟨rfl, rfl⟩, _, rfl, rfl⟩ := hx
  have hren : ∀ m0, AV.renL m0 (rs.map rcV) = rs.map rcV := fun m0 => AV.renL_nid hnl
  simpa [merge, updL, more, AV.ren, AV.renL, at_, AObj.ren, List.range', hren] using h
theorem eRoad_ok : ∀ args H pt, eRoad args H = some pt → ∀ (Kk : AV → AHeap → Prop), pt Kk → ACalls Tryd.prog 54 args H Kk := by
  intro args H pt h Kk hk
  unfold eRoad at h
  split at h
  · cases h
    obtain ⟨rs, rfl, hk⟩ := hk
    exact p54 _ _ _ _ H hk
  · cases h
abbrev rcC (r : Rch) : List AV := [I r.lg, I r.sl, I r.th, I r.gr, I r.ev]
abbrev NS : AV := .lit (.slice none 0 0)
abbrev grH (a b c : Int) (xs : List AV) (p : Nat) (sm : Int) (sc rc : List AV) : AHeap :=
  [.own 0 [.vs 5 xs, I a, I b, I c], .own 0 [NS, I 0, I 0, I 0, NS, NS], .own 0 [.vs 5 xs, I a, I b, I c, .ms 1 5 p 0 p, .ms 5 6 p 0 p], .own 0 [I sm], .own 0 [.vs 5 xs, I a, I b, I c], .own p sc, .own p rc]
abbrev grV (xs : AV) (a b c : Int) (sl rc : AV) : AV := .agg [xs, I a, I b, I c, sl, rc]
theorem p31 (rs : List Rch) (a b c : Int) (ho : RoadOk rs) (H : AHeap) {Kk : AV → AHeap → Prop} (h : Kk (grV (.vs 5 (rs.map rcV)) a b c (.vs 1 ((slL (plc rs)).map I)) (.vs 5 ((plc rs).map rcV))) H) : ACalls Tryd.prog 31 [svV (.vs 5 (rs.map rcV)) a b c] H Kk := by
  refine (fun q => pureF (by rfl) (by rfl) q H h) ?_
  clear h
  intro Kk h
  obtain ⟨xs, hxs⟩ : ∃ xs, xs = rs.map rcV := ⟨_, rfl⟩
  rw [← hxs]
  rw [← hxs] at h
  have hRl := ho.ilen
  obtain ⟨R, hR⟩ : ∃ R, R = plc rs := ⟨_, rfl⟩
  have hPl : PlcOk R := hR ▸ ho.plc
  rw [← hR] at h hRl
  obtain ⟨F, hF⟩ : ∃ F, F = Frees 0 Kk := ⟨_, rfl⟩
  rw [← hF]
  obtain ⟨A, hA⟩ : ∃ A, A = std := ⟨_, rfl⟩
  have hsg : ∀ g, A.sg g g := by subst hA; exact fun _ => rfl
  refine go31 rfl (SGo_run hA ⟨[], [], [], (54, eRoad) :: []⟩ .nil (.cons eRoad_ok .nil) 200 fun T TD hT hTD => ?_)
  cbv
  refine Exists.intro rs (And.intro hxs ?_); cbv
  rw [hT]
  refine AGo_nilcell 2 4 1 rfl rfl ?_
  refine AGo_nilcell 2 5 5 rfl rfl ?_
  refine AGo_range (fid := 64) (caps := [.mp 4 0 0]) rfl rfl [(3, .mp 2 0 0), (4, .mp 3 0 0)] ⟨rfl, rfl, trivial⟩ rfl ?_
  intro lp lb us hY
  obtain ⟨Q, hQ⟩ : ∃ Q : Nat → Nat, Q = fun j => (plc (rs.take j)).length := ⟨_, rfl⟩
  obtain ⟨SM, hSM⟩ : ∃ f : Nat → Int, f = slp R := ⟨_, rfl⟩
  obtain ⟨SC, hSC⟩ : ∃ f : Nat → List AV, f = fun p => (List.range p).map fun q => I (slp R q) := ⟨_, rfl⟩
  obtain ⟨RC, hRC⟩ : ∃ f : Nat → List AV, f = fun p => (R.take p).flatMap rcC := ⟨_, rfl⟩
  have hQ0 : Q 0 = 0 := by rw [hQ]; rfl
  have hH0 : grH a b c xs 0 0 [] [] = grH a b c xs (Q 0) (SM (Q 0)) (SC (Q 0)) (RC (Q 0)) := by rw [hQ0, hSM, hSC, hRC]; rfl
  have hQs : ∀ j (r : Rch), rs[j]? = some r → Q (j + 1) = Q j + r.lg.toNat ∧ ∀ k, k < r.lg.toNat → R[Q j + k]? = some r := by
    intro j r hx
    obtain ⟨h1, rfl⟩ := List.getElem?_eq_some_iff.1 hx
    have e1 : plc (rs.take (j + 1)) = plc (rs.take j) ++ List.replicate rs[j].lg.toNat rs[j] := by
      rw [List.take_succ_eq_append_getElem h1, plc_append]; congr 1; simp [plc]
    constructor
    · rw [hQ]; dsimp only; rw [e1, List.length_append, List.length_replicate]
    · intro k hk
      have e2 : R = plc (rs.take (j + 1)) ++ plc (rs.drop (j + 1)) := by rw [hR, ← plc_append, List.take_append_drop]
      rw [e2, e1, List.append_assoc, hQ]; dsimp only
      rw [List.getElem?_append_right (by omega), List.getElem?_append_left (by rw [List.length_replicate]; omega), List.getElem?_replicate, if_pos (by omega)]
  have hQe : ∀ j, rs.length ≤ j → Q j = R.length := fun j hj => by rw [hQ, hR]; dsimp only; rw [List.take_of_length_le hj]
  have hSs : ∀ p r, R[p]? = some r → SM (p + 1) = SM p + r.sl ∧ SC (p + 1) = SC p ++ [I (SM p)] ∧ RC (p + 1) = RC p ++ rcC r ∧ (SC p).length = p * 1 ∧ (RC p).length = p * 5 ∧ p < 1000 ∧ (0 ≤ SM p ∧ SM p ≤ 3000000) ∧ (0 ≤ r.sl ∧ r.sl ≤ 3000) := by
    intro p r hx
    obtain ⟨h1, rfl⟩ := List.getElem?_eq_some_iff.1 hx
    have hle := hPl.le
    have hb := slp_bnd' hPl.all (p := p) (by omega)
    have hr := (hPl.all _ (List.getElem_mem h1)).2.1
    rw [hSM, hSC, hRC]
    refine ⟨?_, ?_, ?_, by simp, ?_, by omega, hb, hr⟩
    · simp only [slp]; rw [List.getD_eq_getElem?_getD, List.getElem?_eq_getElem h1]; rfl
    · simp [List.range_succ]
    · dsimp only; rw [List.take_succ_eq_append_getElem h1, List.flatMap_append]; simp
    · dsimp only; rw [len_flat (k := 5) (fun _ => rfl), List.length_take, Nat.min_eq_left (by omega)]
  obtain ⟨N, hN⟩ : ∃ N, N = R.length := ⟨_, rfl⟩
  have hend : ∀ X0 X1 X2 X3 X4 T1, F (aTup [.agg [.vs 5 xs, I a, I b, I c, .ms 1 5 N 0 N, .ms 5 6 N 0 N]]) (X0 :: X1 :: X2 :: X3 :: X4 :: .own N (SC N) :: .own N (RC N) :: T1) := by
    intro X0 X1 X2 X3 X4 T1
    rw [hF]
    have hE1 : Elems 1 ((slL R).map I) (SC N) := by rw [show SC N = (slL R).map I by rw [hSC, hN]; simp [slL]]; exact Elems_I _
    have hRN : RC N = R.flatMap rcC := by rw [hRC, hN]; simp
    have hE2 : Elems 5 (R.map rcV) (RC N) := by rw [hRN]; exact Elems_map (f := rcV) (g := rcC) (sz := 5) (fun _ => rfl) (fun _ => rfl) (fun _ => rfl) R
    have e5 : ∀ i g s l, AV.frz i g s l (.vs 5 xs) = .vs 5 xs := fun i g s l => AV.frz_nid (by simp only [AV.nid])
    refine Frees.frz 5 N 1 ((slL R).map I) rfl hE1 ?_
    refine Frees.frz 6 N 5 (R.map rcV) (cs := RC N) ?_ hE2 ?_
    · have : AV.frzL 5 N 1 ((slL R).map I) (RC N) = RC N := AV.frzL_nid (by rw [hRN]; exact nidL_flat (fun _ => rfl) _)
      simp [frzH, AObj.frz, this]
    have e1 : AV.frz 5 N 1 ((slL R).map I) (.ms 1 5 N 0 N) = .vs 1 ((slL R).map I) := frz_self (by simp [slL, hN])
    have e2 : AV.frz 6 N 5 (R.map rcV) (.ms 5 6 N 0 N) = .vs 5 (R.map rcV) := frz_self (by simp [hN])
    have e3 : AV.frz 5 N 1 ((slL R).map I) (.ms 5 6 N 0 N) = .ms 5 6 N 0 N := by simp [AV.frz]
    have e6 : AV.frz 6 N 5 (R.map rcV) (.vs 1 ((slL R).map I)) = .vs 1 ((slL R).map I) := AV.frz_nid (by simp only [AV.nid])
    have e4 : AV.frz 6 N 5 (R.map rcV) (AV.frz 5 N 1 ((slL R).map I) (aTup [.agg [.vs 5 xs, I a, I b, I c, .ms 1 5 N 0 N, .ms 5 6 N 0 N]])) = grV (.vs 5 xs) a b c (.vs 1 ((slL R).map I)) (.vs 5 (R.map rcV)) := by
      show AV.agg [AV.frz 6 N 5 (R.map rcV) (AV.frz 5 N 1 ((slL R).map I) (.vs 5 xs)), I a, I b, I c, AV.frz 6 N 5 (R.map rcV) (AV.frz 5 N 1 ((slL R).map I) (.ms 1 5 N 0 N)), AV.frz 6 N 5 (R.map rcV) (AV.frz 5 N 1 ((slL R).map I) (.ms 5 6 N 0 N))] = _
      rw [e5, e5, e1, e6, e3, e2]
    rw [e4]
    refine Frees.drop0 h ?_
    simp only [AV.nid, AV.nidL, nidL_map (g := I) (fun _ => rfl) (slL R), nidL_rc R, hxs, nidL_rc rs]; rfl
  have hxl : ∀ n, AV.ltL n xs := fun n => AV.ltL_nid (by rw [hxs]; exact nidL_rc rs)
  have hSl : ∀ p n, AV.ltL n (SC p) := fun p n => AV.ltL_nid (by rw [hSC]; exact nidL_map (g := fun q => I (slp R q)) (fun _ => rfl) (List.range p))
  have hRl2 : ∀ p n, AV.ltL n (RC p) := fun p n => AV.ltL_nid (by rw [hRC]; exact nidL_flat (fun _ => rfl) _)
  show ACalls Tryd.prog 64 [.yl 7 0, .mp 4 0 0] (grH a b c xs 0 0 [] [] ++ [.raw 0 lp [.mp 2 0 0, .mp 3 0 0] us]) _
  rw [hH0]
  refine go64 rfl ?_
  refine AGo_opq fun RR hRR => ?_
  refine SGo_run hA ⟨[], [], [], []⟩ .nil .nil 200 fun T TD hT hTD => ?_
  cbv
  rw [hT]
  refine AGo_upE [0, 1, 7, 8] rs.length (fun j (_ : Unit) => True) (fun j _ i => [(3, I (iLen (Q j))), (9, I i)]) (fun j _ => grH a b c xs (Q j) (SM (Q j)) (SC (Q j)) (RC (Q j)) ++ [.raw 0 lp [.mp 2 0 0, .mp 3 0 0] us]) () trivial ⟨by rw [hQ0]; rfl, rfl, trivial⟩ (.inl rfl) fun j _ i hi hj hP Bk hB => ?_
  have hlt : A.lt i (A.vlen xs) = decide (j < rs.length) := by subst hA; exact lt_len (by simp [hxs]) hi
  have hadd : ∀ N, j < N → N ≤ 9223372036854775807 → A.add .i64 i 1 = iLen (j + 1) := fun N hj hN => by subst hA; exact add_one hi hj hN
  obtain ⟨ip, hip⟩ : ∃ q, q = iLen (Q j) := ⟨_, rfl⟩
  rw [← hip]
  refine SGo_run hA ⟨[], [], [], []⟩ .nil .nil 200 fun T TD hT hTD => ?_
  cbv
  split <;> cbv
  · rename_i hk0
    have hk1 : j < rs.length := by have hz := hlt.symm.trans hk0; simpa using hz
    clear hk0
    obtain ⟨r, hx⟩ : ∃ x, rs[j]? = some x := ⟨_, List.getElem?_eq_getElem hk1⟩
    have hix : A.ix 5 5 xs i (rcC r) := by subst hA; exact ix_map hxs hi hx rfl
    obtain ⟨hq1, hq2⟩ := hQs j r hx
    have hrb := (ho.all _ (List.mem_of_getElem? hx)).1
    refine Exists.intro _ (And.intro hix ?_); cbv
    rw [hT]
    refine AGo_upE [0, 1, 5, 7, 8, 9, 14] r.lg.toNat (fun k (_ : Unit) => True) (fun k _ i => [(3, I (iLen (Q j + k))), (15, I i)]) (fun k _ => grH a b c xs (Q j + k) (SM (Q j + k)) (SC (Q j + k)) (RC (Q j + k)) ++ [.raw 0 lp [.mp 2 0 0, .mp 3 0 0] us, .own 0 (rcC r)]) () trivial ⟨congrArg I hip, rfl, trivial⟩ (.inl rfl) fun k _ i2 hi2 hk hP2 Bk2 hB2 => ?_
    have hlt2 : A.lt i2 r.lg = decide (k < r.lg.toNat) := by subst hA; simp only [std, iLt, hi2]; rw [decide_eq_decide]; unfold iLen; omega
    have hadd2 : ∀ N, k < N → N ≤ 9223372036854775807 → A.add .i64 i2 1 = iLen (k + 1) := fun N hj hN => by subst hA; exact add_one hi2 hj hN
    obtain ⟨p, hp⟩ : ∃ p, p = Q j + k := ⟨_, rfl⟩
    rw [← hp]
    obtain ⟨iq, hiq⟩ : ∃ q, q = iLen p := ⟨_, rfl⟩
    rw [← hiq]
    refine SGo_run hA ⟨[], [], [], []⟩ .nil .nil 200 fun T TD hT hTD => ?_
    cbv
    split <;> cbv
    · rename_i hz
      have hk1' : k < r.lg.toNat := by have hz := hlt2.symm.trans hz; simpa using hz
      have hRp := hq2 k hk1'
      rw [← hp] at hRp
      obtain ⟨s1, s2, s3, s4, s5, s6, s7, s8⟩ := hSs p r hRp
      rw [hT]
      refine AGo_yield (id := 7) (gg := 0) rfl rfl rfl rfl ?_
      show AYields Tryd.prog 7 [I iq, rcV r] (grH a b c xs p (SM p) (SC p) (RC p) ++ [.raw 0 lp [.mp 2 0 0, .mp 3 0 0] us, .own 0 (rcC r)]) _
      obtain ⟨HX, hHX⟩ : ∃ HX, HX = grH a b c xs p (SM p) (SC p) (RC p) ++ [.raw 0 lp [.mp 2 0 0, .mp 3 0 0] us, .own 0 (rcC r), .own 0 (rcC r)] := ⟨_, rfl⟩
      obtain ⟨R1, hR1⟩ : ∃ R1 : Env → AHeap → Prop, R1 = fun e1 H2 => Fits e1 [(3, .mp 2 0 0), (4, .mp 3 0 0), (6, .mp 9 0 0)] ∧ H2 = HX := ⟨_, rfl⟩
      refine hY [I iq, rcV r] _ _ R1 rfl rfl (fun roo => ?_) (fun roo e1 H2 hr1 => ?_)
      · refine SGo_run hA ⟨[], [], [], []⟩ .nil .nil 200 fun T TD hT hTD => ?_
        cbv
        rw [hR1]
        exact ⟨⟨rfl, rfl, rfl, trivial⟩, hHX.symm⟩
      · rw [hR1] at hr1
        obtain ⟨hf1, rfl⟩ := hr1
        rw [hHX]
        refine ⟨rfl, ?_⟩
        refine AGo_forget [(3, .mp 2 0 0), (4, .mp 3 0 0), (6, .mp 9 0 0)] _ hf1 (.inl rfl) ?_ (by simp)
        refine AGo_opq fun R2 hR2 => ?_
        refine SGo_run hA ⟨[5, 6], [2000002, 1005, 1006], [], []⟩ .nil .nil 200 fun T TD hT hTD => ?_
        cbv
        obtain ⟨sc1, hsc1⟩ : ∃ x, x = SC (p + 1) := ⟨_, rfl⟩
        obtain ⟨rc1, hrc1⟩ : ∃ x, x = RC (p + 1) := ⟨_, rfl⟩
        refine And.intro (hsg _) (Exists.intro sc1 (Exists.intro (p + 1) (And.intro (by rw [hsc1, s2]; subst hA; exact app_one s4 rfl (by omega)) (And.intro rfl ?_))))
        cbv
        refine And.intro (by subst hA; first | (simp [std, Keep, SubH, ResK]; done) | exact .inr ⟨⟨rfl, SubH.self _⟩, trivial, .inr fun _ => ⟨rfl, SubH.self _⟩⟩ | exact .inr ⟨SubH.self _, trivial, .inr fun _ => SubH.self _⟩ | exact .inr ⟨by simp [SubH], trivial, .inl rfl⟩ | exact .inr ⟨by simp [SubH], trivial, .inr fun _ => by simp [SubH]⟩) ?_
        cbv
        refine And.intro (hsg _) (Exists.intro rc1 (Exists.intro (p + 1) (And.intro (by rw [hrc1, s3]; subst hA; exact app_one s5 rfl (by omega)) (And.intro rfl ?_))))
        cbv
        refine And.intro (by subst hA; first | (simp [std, Keep, SubH, ResK]; done) | exact .inr ⟨⟨rfl, SubH.self _⟩, trivial, .inr fun _ => ⟨rfl, SubH.self _⟩⟩ | exact .inr ⟨SubH.self _, trivial, .inr fun _ => SubH.self _⟩ | exact .inr ⟨by simp [SubH], trivial, .inl rfl⟩ | exact .inr ⟨by simp [SubH], trivial, .inr fun _ => by simp [SubH]⟩) ?_
        cbv
        refine And.intro (by subst hA; first | (simp [std, Keep, SubH, ResK]; done) | exact .inr ⟨⟨rfl, SubH.self _⟩, trivial, .inr fun _ => ⟨rfl, SubH.self _⟩⟩ | exact .inr ⟨SubH.self _, trivial, .inr fun _ => SubH.self _⟩ | exact .inr ⟨by simp [SubH], trivial, .inl rfl⟩ | exact .inr ⟨by simp [SubH], trivial, .inr fun _ => by simp [SubH]⟩) ?_
        cbv
        have hsm : A.add .i64 (SM p) r.sl = SM (p + 1) := by rw [s1]; subst hA; exact iAdd_id (by omega) (by omega)
        refine hR2 _ _ ⟨rfl, ?_⟩
        have hb : A.bnot true = false := by subst hA; rfl
        refine SGo_run hA ⟨[], [], [], []⟩ .nil .nil 200 fun T TD hT hTD => ?_
        cbv
        split <;> cbv
        · rename_i hq; exact Bool.noConfusion (hq.symm.trans hb)
        have hq1 : A.add .i64 iq 1 = iLen (Q j + (k + 1)) := by
          subst hA; rw [hiq]; rw [← Nat.add_assoc, ← hp]; exact add_one (N := 1000) rfl (by omega) (by omega)
        refine hB2 () _ _ hk1' trivial ⟨congrArg I hq1, congrArg I (hadd2 _ hk1' (by omega)), trivial⟩ ⟨rfl, rfl, rfl, rfl, rfl, rfl, rfl, trivial⟩ (.inr ⟨⟨[.own 0 (rcC r)], ?_⟩, by simp, by simp [ltG, AV.lt, AV.ltL, keepS, look], ?_⟩)
        · rw [← Nat.add_assoc, ← hp, ← hsm, ← hsc1, ← hrc1]; rfl
        · simp [ltH, AObj.lt, AV.lt, AV.ltL, hxl, hSl, hRl2]
    · rename_i hz
      have hk1' : ¬ k < r.lg.toNat := by have hz := hlt2.symm.trans hz; simpa using hz
      refine hB () _ _ hk1 trivial ⟨congrArg I (by rw [hiq, hq1, hp, show k = r.lg.toNat by omega]), congrArg I (hadd _ hk1 (by have := ho.n2; omega)), trivial⟩ ⟨rfl, rfl, rfl, rfl, trivial⟩ (.inr ⟨⟨[.own 0 (rcC r)], ?_⟩, by simp, by simp [ltG, AV.lt, AV.ltL, keepS, look], ?_⟩)
      · rw [hq1, show r.lg.toNat = k by omega, ← hp]; rfl
      · simp [ltH, AObj.lt, AV.lt, AV.ltL, hxl, hSl, hRl2]
  · rename_i hk0
    have hk1 : ¬ j < rs.length := by have hz := hlt.symm.trans hk0; simpa using hz
    clear hk0
    refine hRR _ _ (RetP.same (vs := []) rfl rfl ⟨rfl, ?_⟩)
    have hQj := hQe j (by omega)
    rw [hQj, ← hN]
    refine SGo_run hA ⟨[], [], [], []⟩ .nil .nil 200 fun T TD hT hTD => ?_
    cbv
    exact hend _ _ _ _ _ _
end Go.Sas
namespace Go.Sas
open Go.Proofs
set_option maxRecDepth 100000
theorem p56 (r : Rch) (H : AHeap) {Kk : AV → AHeap → Prop} (h : Kk (I r.th) H) : ACalls Tryd.prog 56 [rcV r] H Kk := by
  refine (fun q => pureC (by rfl) (by rfl) q H h) ?_
  clear h
  intro Kk h
  obtain ⟨A, hA⟩ : ∃ A, A = std := ⟨_, rfl⟩
  refine go56 rfl (SGo_run hA ⟨[], [], [], []⟩ .nil .nil 200 fun T TD hT hTD => ?_)
  cbv
  exact h
theorem p57 (r : Rch) (H : AHeap) {Kk : AV → AHeap → Prop} (h : Kk (I r.gr) H) : ACalls Tryd.prog 57 [rcV r] H Kk := by
  refine (fun q => pureC (by rfl) (by rfl) q H h) ?_
  clear h
  intro Kk h
  obtain ⟨A, hA⟩ : ∃ A, A = std := ⟨_, rfl⟩
  refine go57 rfl (SGo_run hA ⟨[], [], [], []⟩ .nil .nil 200 fun T TD hT hTD => ?_)
  cbv
  exact h
def eTh : List AV → Option ((AV → Prop) → Prop)
  | [.agg [.lit (.int .i64 _), .lit (.int .i64 _), .lit (.int .i64 t), .lit (.int .i64 _), .lit (.int .i64 _)]] => some fun K => K (I t)
  | _ => none
theorem eTh_ok : ∀ args pt, eTh args = some pt → ∀ (H : AHeap) (Kk : AV → AHeap → Prop), pt (fun r => Kk r H) → ACalls Tryd.prog 56 args H Kk := by
  intro args pt h H Kk hk
  unfold eTh at h
  split at h
  · cases h; rename_i a b t d e; exact p56 ⟨a, b, t, d, e⟩ H hk
  · cases h
def eGr : List AV → Option ((AV → Prop) → Prop)
  | [.agg [.lit (.int .i64 _), .lit (.int .i64 _), .lit (.int .i64 _), .lit (.int .i64 t), .lit (.int .i64 _)]] => some fun K => K (I t)
  | _ => none
theorem eGr_ok : ∀ args pt, eGr args = some pt → ∀ (H : AHeap) (Kk : AV → AHeap → Prop), pt (fun r => Kk r H) → ACalls Tryd.prog 57 args H Kk := by
  intro args pt h H Kk hk
  unfold eGr at h
  split at h
  · cases h; rename_i a b d t e; exact p57 ⟨a, b, d, t, e⟩ H hk
  · cases h
theorem slL_get {R : List Rch} {p : Nat} (hp : p < R.length) : (slL R)[p]? = some (slp R p) := by
  unfold slL; rw [List.getElem?_map, List.getElem?_range hp]; rfl
theorem p66 (ws : AV) (a b c : Int) (rc : AV) (R : List Rch) (hP : PlcOk R) (u v : Int) (hu : 0 ≤ u ∧ u < iLen R.length) (hv : 0 ≤ v ∧ v < iLen R.length) (hw : ws.nid = true) (hr : rc.nid = true) (H : AHeap) {Kk : AV → AHeap → Prop} (h : Kk (I (farS R u.toNat v.toNat)) H) :
    ACalls Tryd.prog 66 [grV ws a b c (.vs 1 ((slL R).map I)) rc, I u, I v] H Kk := by
  refine (fun q => pureC (by simp [AV.nidL, AV.nid, hw, hr]) (by rfl) q H h) ?_
  clear h
  intro Kk h
  obtain ⟨ys, hys⟩ : ∃ ys, ys = (slL R).map I := ⟨_, rfl⟩
  rw [← hys]
  have hu1 : u.toNat < R.length := by unfold iLen at hu; omega
  have hv1 : v.toNat < R.length := by unfold iLen at hv; omega
  have hle := hP.le
  have b1 := slp_bnd' hP.all (p := u.toNat) (by omega)
  have b2 := slp_bnd' hP.all (p := v.toNat) (by omega)
  obtain ⟨x, hx⟩ : ∃ x, x = slp R u.toNat := ⟨_, rfl⟩
  obtain ⟨y, hy⟩ : ∃ x, x = slp R v.toNat := ⟨_, rfl⟩
  rw [← hx] at b1
  rw [← hy] at b2
  unfold farS at h
  rw [← hx, ← hy] at h
  obtain ⟨A, hA⟩ : ∃ A, A = std := ⟨_, rfl⟩
  have hix : A.ix 1 1 ys u [I x] := by subst hA; exact ix_map (j := u.toNat) hys (by unfold iLen; omega) (by rw [hx]; exact slL_get hu1) rfl
  have hiy : A.ix 1 1 ys v [I y] := by subst hA; exact ix_map (j := v.toNat) hys (by unfold iLen; omega) (by rw [hy]; exact slL_get hv1) rfl
  refine go66 rfl (SGo_run hA ⟨[], [], [], []⟩ .nil .nil 200 fun T TD hT hTD => ?_)
  cbv
  repeat (first | (refine Exists.intro _ (And.intro hix ?_); cbv) | (refine Exists.intro _ (And.intro hiy ?_); cbv))
  refine leaf h (congrArg I ?_) rfl
  subst hA
  simp only [std, iMax_eq]
  rw [iSub_id (by omega) (by omega), iSub_id (by omega) (by omega)]
def eApart : List AV → Option ((AV → Prop) → Prop)
  | [.agg [ws, .lit (.int .i64 _), .lit (.int .i64 _), .lit (.int .i64 _), .vs 1 ys, rc], .lit (.int .i64 u), .lit (.int .i64 v)] =>
    some fun K => ∃ R : List Rch, ys = (slL R).map I ∧ PlcOk R ∧ (0 ≤ u ∧ u < iLen R.length) ∧ (0 ≤ v ∧ v < iLen R.length) ∧ ws.nid = true ∧ rc.nid = true ∧ ∀ q, q = farS R u.toNat v.toNat → K (I q)
  | _ => none
theorem eApart_ok : ∀ args pt, eApart args = some pt → ∀ (H : AHeap) (Kk : AV → AHeap → Prop), pt (fun r => Kk r H) → ACalls Tryd.prog 66 args H Kk := by
  intro args pt h H Kk hk
  unfold eApart at h
  split at h
  · cases h
    obtain ⟨R, rfl, h1, h2, h3, h4, h5, h6⟩ := hk
    exact p66 _ _ _ _ _ R h1 _ _ h2 h3 h4 h5 H (h6 _ rfl)
  · cases h
theorem p65_116 (ws : AV) (a b c : Int) (R : List Rch) (hP : PlcOk R) (hw : ws.nid = true) (x f t h0 : Int) (hx : 0 ≤ x ∧ x < iLen R.length) (hf : 0 ≤ f ∧ f < iLen R.length) (ht : 0 ≤ t ∧ t < iLen R.length) (hh : 0 ≤ h0 ∧ h0 ≤ 10000) (T0 : AHeap) {Kk : AV → AHeap → Prop}
    (h : Kk (I (costV R f.toNat t.toNat h0 (·.th) x.toNat)) (.own 0 [ws, I a, I b, I c, .vs 1 ((slL R).map I), .vs 5 (R.map rcV)] :: .own 0 [I f] :: .own 0 [I t] :: .own 0 [I h0] :: .own 0 [.fn 56 []] :: T0)) :
    ACalls Tryd.prog 65 [I x, .mp 0 0 0, .mp 1 0 0, .mp 2 0 0, .mp 3 0 0, .mp 4 0 0] (.own 0 [ws, I a, I b, I c, .vs 1 ((slL R).map I), .vs 5 (R.map rcV)] :: .own 0 [I f] :: .own 0 [I t] :: .own 0 [I h0] :: .own 0 [.fn 56 []] :: T0) Kk := by
  obtain ⟨ys, hys⟩ : ∃ ys, ys = (slL R).map I := ⟨_, rfl⟩
  obtain ⟨zs, hzs⟩ : ∃ zs, zs = R.map rcV := ⟨_, rfl⟩
  rw [← hys, ← hzs] at h ⊢
  have hx1 : x.toNat < R.length := by unfold iLen at hx; omega
  have hf1 : f.toNat < R.length := by unfold iLen at hf; omega
  have ht1 : t.toNat < R.length := by unfold iLen at ht; omega
  have hle := hP.le
  have b1 := farS_bnd hP.all (a := f.toNat) (b := x.toNat) (by omega) (by omega)
  have b2 := farS_bnd hP.all (a := x.toNat) (b := t.toNat) (by omega) (by omega)
  have b3 := costV_bnd hP hf1 ht1 hx1 hh (g := (·.th)) (fun r hr => by have := (hP.all r hr).2.2.1; omega)
  obtain ⟨r, hr⟩ : ∃ r, R[x.toNat]? = some r := ⟨_, List.getElem?_eq_getElem hx1⟩
  have hrd : R.getD x.toNat rc0 = r := by rw [List.getD_eq_getElem?_getD, hr]; rfl
  obtain ⟨V, hV⟩ : ∃ V, V = costV R f.toNat t.toNat h0 (·.th) x.toNat := ⟨_, rfl⟩
  have hV2 : V = farS R f.toNat x.toNat + farS R x.toNat t.toNat + h0 * r.th := by rw [hV, costV, hrd]
  rw [← hV] at h b3
  rw [hrd] at b3
  clear hV
  obtain ⟨A, hA⟩ : ∃ A, A = std := ⟨_, rfl⟩
  have hix : A.ix 5 5 zs x (rcC r) := by subst hA; exact ix_map (j := x.toNat) hzs (by unfold iLen; omega) hr rfl
  refine go65 rfl ?_
  refine AGo_opq fun RR hRR => ?_
  refine SGo_run hA ⟨[], [], (66, eApart) :: (56, eTh) :: [], []⟩ (.cons eApart_ok (.cons eTh_ok .nil)) .nil 200 fun T TD hT hTD => ?_
  cbv
  refine Exists.intro _ (And.intro hix ?_); cbv
  refine Exists.intro R (And.intro hys (And.intro hP (And.intro hf (And.intro hx (And.intro hw (And.intro rfl ?_))))))
  intro q1 hq1; cbv
  refine Exists.intro R (And.intro hys (And.intro hP (And.intro hx (And.intro ht (And.intro hw (And.intro rfl ?_))))))
  intro q2 hq2; cbv
  have he : A.add .i64 (A.add .i64 q1 q2) (A.mul .i64 h0 r.th) = V := by
    rw [hV2, hq1, hq2]; subst hA; show iAdd .i64 (iAdd .i64 _ _) (iMul .i64 _ _) = _
    rw [iMul_id (by omega) (by omega), iAdd_id (a := farS R f.toNat x.toNat) (by omega) (by omega), iAdd_id (by omega) (by omega)]
  split
  · exact hRR _ _ (RetP.same (vs := [I V]) (by rw [← he]; rfl) rfl h)
  · simp only [List.append_eq, List.append_nil]
    exact hRR _ _ (RetP.same (vs := [I V]) (by rw [← he]; rfl) rfl h)
def eAt_116 : List AV → AHeap → Option PT
  | [.lit (.int .i64 x), .mp 0 0 0, .mp 1 0 0, .mp 2 0 0, .mp 3 0 0, .mp 4 0 0], .own 0 [ws, .lit (.int .i64 a), .lit (.int .i64 b), .lit (.int .i64 c), .vs 1 ys, .vs 5 zs] :: .own 0 [.lit (.int .i64 f)] :: .own 0 [.lit (.int .i64 t)] :: .own 0 [.lit (.int .i64 h0)] :: .own 0 [.fn 56 []] :: T0 =>
    some fun K => ∃ R : List Rch, ys = (slL R).map I ∧ zs = R.map rcV ∧ PlcOk R ∧ ws.nid = true ∧ (0 ≤ x ∧ x < iLen R.length) ∧ (0 ≤ f ∧ f < iLen R.length) ∧ (0 ≤ t ∧ t < iLen R.length) ∧ (0 ≤ h0 ∧ h0 ≤ 10000) ∧
      ∀ v, v = costV R f.toNat t.toNat h0 (·.th) x.toNat → K (I v) (.own 0 [ws, I a, I b, I c, .vs 1 ys, .vs 5 zs] :: .own 0 [I f] :: .own 0 [I t] :: .own 0 [I h0] :: .own 0 [.fn 56 []] :: T0)
  | _, _ => none
theorem eAt_116_ok : ∀ args H pt, eAt_116 args H = some pt → ∀ (Kk : AV → AHeap → Prop), pt Kk → ACalls Tryd.prog 65 args H Kk := by
  intro args H pt h Kk hk
  unfold eAt_116 at h
  split at h
  · cases h
    obtain ⟨R, rfl, rfl, h1, h2, h3, h4, h5, h6, h7⟩ := hk
    exact p65_116 _ _ _ _ R h1 h2 _ _ _ _ h3 h4 h5 h6 _ (h7 _ rfl)
  · cases h
theorem p65_117 (ws : AV) (a b c : Int) (R : List Rch) (hP : PlcOk R) (hw : ws.nid = true) (x f t h0 : Int) (hx : 0 ≤ x ∧ x < iLen R.length) (hf : 0 ≤ f ∧ f < iLen R.length) (ht : 0 ≤ t ∧ t < iLen R.length) (hh : 0 ≤ h0 ∧ h0 ≤ 10000) (T0 : AHeap) {Kk : AV → AHeap → Prop}
    (h : Kk (I (costV R f.toNat t.toNat h0 (·.gr) x.toNat)) (.own 0 [ws, I a, I b, I c, .vs 1 ((slL R).map I), .vs 5 (R.map rcV)] :: .own 0 [I f] :: .own 0 [I t] :: .own 0 [I h0] :: .own 0 [.fn 57 []] :: T0)) :
    ACalls Tryd.prog 65 [I x, .mp 0 0 0, .mp 1 0 0, .mp 2 0 0, .mp 3 0 0, .mp 4 0 0] (.own 0 [ws, I a, I b, I c, .vs 1 ((slL R).map I), .vs 5 (R.map rcV)] :: .own 0 [I f] :: .own 0 [I t] :: .own 0 [I h0] :: .own 0 [.fn 57 []] :: T0) Kk := by
  obtain ⟨ys, hys⟩ : ∃ ys, ys = (slL R).map I := ⟨_, rfl⟩
  obtain ⟨zs, hzs⟩ : ∃ zs, zs = R.map rcV := ⟨_, rfl⟩
  rw [← hys, ← hzs] at h ⊢
  have hx1 : x.toNat < R.length := by unfold iLen at hx; omega
  have hf1 : f.toNat < R.length := by unfold iLen at hf; omega
  have ht1 : t.toNat < R.length := by unfold iLen at ht; omega
  have hle := hP.le
  have b1 := farS_bnd hP.all (a := f.toNat) (b := x.toNat) (by omega) (by omega)
  have b2 := farS_bnd hP.all (a := x.toNat) (b := t.toNat) (by omega) (by omega)
  have b3 := costV_bnd hP hf1 ht1 hx1 hh (g := (·.gr)) (fun r hr => by have := (hP.all r hr).2.2.2.1; omega)
  obtain ⟨r, hr⟩ : ∃ r, R[x.toNat]? = some r := ⟨_, List.getElem?_eq_getElem hx1⟩
  have hrd : R.getD x.toNat rc0 = r := by rw [List.getD_eq_getElem?_getD, hr]; rfl
  obtain ⟨V, hV⟩ : ∃ V, V = costV R f.toNat t.toNat h0 (·.gr) x.toNat := ⟨_, rfl⟩
  have hV2 : V = farS R f.toNat x.toNat + farS R x.toNat t.toNat + h0 * r.gr := by rw [hV, costV, hrd]
  rw [← hV] at h b3
  rw [hrd] at b3
  clear hV
  obtain ⟨A, hA⟩ : ∃ A, A = std := ⟨_, rfl⟩
  have hix : A.ix 5 5 zs x (rcC r) := by subst hA; exact ix_map (j := x.toNat) hzs (by unfold iLen; omega) hr rfl
  refine go65 rfl ?_
  refine AGo_opq fun RR hRR => ?_
  refine SGo_run hA ⟨[], [], (66, eApart) :: (57, eGr) :: [], []⟩ (.cons eApart_ok (.cons eGr_ok .nil)) .nil 200 fun T TD hT hTD => ?_
  cbv
  refine Exists.intro _ (And.intro hix ?_); cbv
  refine Exists.intro R (And.intro hys (And.intro hP (And.intro hf (And.intro hx (And.intro hw (And.intro rfl ?_))))))
  intro q1 hq1; cbv
  refine Exists.intro R (And.intro hys (And.intro hP (And.intro hx (And.intro ht (And.intro hw (And.intro rfl ?_))))))
  intro q2 hq2; cbv
  have he : A.add .i64 (A.add .i64 q1 q2) (A.mul .i64 h0 r.gr) = V := by
    rw [hV2, hq1, hq2]; subst hA; show iAdd .i64 (iAdd .i64 _ _) (iMul .i64 _ _) = _
    rw [iMul_id (by omega) (by omega), iAdd_id (a := farS R f.toNat x.toNat) (by omega) (by omega), iAdd_id (by omega) (by omega)]
  split
  · exact hRR _ _ (RetP.same (vs := [I V]) (by rw [← he]; rfl) rfl h)
  · simp only [List.append_eq, List.append_nil]
    exact hRR _ _ (RetP.same (vs := [I V]) (by rw [← he]; rfl) rfl h)
def eAt_117 : List AV → AHeap → Option PT
  | [.lit (.int .i64 x), .mp 0 0 0, .mp 1 0 0, .mp 2 0 0, .mp 3 0 0, .mp 4 0 0], .own 0 [ws, .lit (.int .i64 a), .lit (.int .i64 b), .lit (.int .i64 c), .vs 1 ys, .vs 5 zs] :: .own 0 [.lit (.int .i64 f)] :: .own 0 [.lit (.int .i64 t)] :: .own 0 [.lit (.int .i64 h0)] :: .own 0 [.fn 57 []] :: T0 =>
    some fun K => ∃ R : List Rch, ys = (slL R).map I ∧ zs = R.map rcV ∧ PlcOk R ∧ ws.nid = true ∧ (0 ≤ x ∧ x < iLen R.length) ∧ (0 ≤ f ∧ f < iLen R.length) ∧ (0 ≤ t ∧ t < iLen R.length) ∧ (0 ≤ h0 ∧ h0 ≤ 10000) ∧
      ∀ v, v = costV R f.toNat t.toNat h0 (·.gr) x.toNat → K (I v) (.own 0 [ws, I a, I b, I c, .vs 1 ys, .vs 5 zs] :: .own 0 [I f] :: .own 0 [I t] :: .own 0 [I h0] :: .own 0 [.fn 57 []] :: T0)
  | _, _ => none
theorem eAt_117_ok : ∀ args H pt, eAt_117 args H = some pt → ∀ (Kk : AV → AHeap → Prop), pt Kk → ACalls Tryd.prog 65 args H Kk := by
  intro args H pt h Kk hk
  unfold eAt_117 at h
  split at h
  · cases h
    obtain ⟨R, rfl, rfl, h1, h2, h3, h4, h5, h6, h7⟩ := hk
    exact p65_117 _ _ _ _ R h1 h2 _ _ _ _ h3 h4 h5 h6 _ (h7 _ rfl)
  · cases h
theorem p55_116 (rs : List Rch) (a b c : Int) (ho : RoadOk rs) (f t h0 : Int) (hf : 0 ≤ f ∧ f < sumLg rs) (ht : 0 ≤ t ∧ t < sumLg rs) (hh : 0 ≤ h0 ∧ h0 ≤ 10000) (H : AHeap) {Kk : AV → AHeap → Prop}
    (h : Kk (I (costS (plc rs) f.toNat t.toNat h0 (·.th))) H) : ACalls Tryd.prog 55 [grV (.vs 5 (rs.map rcV)) a b c (.vs 1 ((slL (plc rs)).map I)) (.vs 5 ((plc rs).map rcV)), I f, I t, I h0, .fn 56 []] H Kk := by
  refine (fun q => pureC (by rfl) (by rfl) q H h) ?_
  clear h
  intro Kk h
  have hRl := ho.ilen
  obtain ⟨R, hR⟩ : ∃ R, R = plc rs := ⟨_, rfl⟩
  have hP : PlcOk R := hR ▸ ho.plc
  rw [← hR] at h hRl ⊢
  rw [← hRl] at hf ht
  have hf1 : f.toNat < R.length := by unfold iLen at hf; omega
  have ht1 : t.toNat < R.length := by unfold iLen at ht; omega
  have hle := hP.le
  have hpo := hP.pos
  have hg : ∀ r ∈ R, 0 ≤ (fun r : Rch => r.th) r ∧ (fun r : Rch => r.th) r ≤ 1000 := fun r hr => by have := (hP.all r hr).2.2.1; dsimp only; omega
  obtain ⟨xs, hxs⟩ : ∃ xs, xs = rs.map rcV := ⟨_, rfl⟩
  obtain ⟨ys, hys⟩ : ∃ ys, ys = (slL R).map I := ⟨_, rfl⟩
  obtain ⟨zs, hzs⟩ : ∃ zs, zs = R.map rcV := ⟨_, rfl⟩
  rw [← hxs, ← hys, ← hzs]
  obtain ⟨V, hV⟩ : ∃ V, V = costV R f.toNat t.toNat h0 (·.th) := ⟨_, rfl⟩
  unfold costS at h
  rw [← hV] at h
  have hVb : ∀ p, p < R.length → 0 ≤ V p ∧ V p ≤ 16000000 := fun p hp => by have := costV_bnd hP hf1 ht1 hp hh hg; rw [hV]; omega
  obtain ⟨Q, hQ⟩ : ∃ Q : Nat → Nat, Q = fun j => (plc (rs.take j)).length := ⟨_, rfl⟩
  have hQ0 : Q 0 = 0 := by rw [hQ]; rfl
  have hQs : ∀ j (r : Rch), rs[j]? = some r → Q (j + 1) = Q j + r.lg.toNat ∧ (Q (j + 1) ≤ R.length) ∧ ∀ k, k < r.lg.toNat → R[Q j + k]? = some r := by
    intro j r hx
    obtain ⟨h1, rfl⟩ := List.getElem?_eq_some_iff.1 hx
    have e1 : plc (rs.take (j + 1)) = plc (rs.take j) ++ List.replicate rs[j].lg.toNat rs[j] := by
      rw [List.take_succ_eq_append_getElem h1, plc_append]; congr 1; simp [plc]
    have e2 : R = plc (rs.take (j + 1)) ++ plc (rs.drop (j + 1)) := by rw [hR, ← plc_append, List.take_append_drop]
    refine ⟨?_, ?_, ?_⟩
    · rw [hQ]; dsimp only; rw [e1, List.length_append, List.length_replicate]
    · rw [hQ]; dsimp only; rw [e2, List.length_append]; omega
    · intro k hk
      rw [e2, e1, List.append_assoc, hQ]; dsimp only
      rw [List.getElem?_append_right (by omega), List.getElem?_append_left (by rw [List.length_replicate]; omega), List.getElem?_replicate, if_pos (by omega)]
  have hQe : ∀ j, rs.length ≤ j → Q j = R.length := fun j hj => by rw [hQ, hR]; dsimp only; rw [List.take_of_length_le hj]
  obtain ⟨A, hA⟩ : ∃ A, A = std := ⟨_, rfl⟩
  obtain ⟨lw, hlw⟩ : ∃ x, x = A.min f t := ⟨_, rfl⟩
  have hlw2 : lw = iLen (min f.toNat t.toNat) := by rw [hlw]; subst hA; simp only [std, iMin_eq]; unfold iLen; omega
  refine go55 rfl (SGo_run hA ⟨[], [], [], (65, eAt_116) :: []⟩ .nil (.cons eAt_116_ok .nil) 200 fun T TD hT hTD => ?_)
  cbv
  refine Exists.intro R (And.intro hys (And.intro hzs (And.intro hP (And.intro rfl (And.intro hf (And.intro hf (And.intro ht (And.intro hh ?_))))))))
  intro v0 hv0; cbv
  have hv0 : v0 = V f.toNat := by rw [hv0, hV]
  rw [hT]
  refine AGo_upE [10, 11, 12, 26, 27] rs.length (fun j (s : Int) => (∀ p, p < Q j → s ≤ V p) ∧ s ≤ V f.toNat ∧ ∃ p, p < R.length ∧ s = V p) (fun j s i => [(13, I s), (14, I (iLen (Q j))), (28, I i)]) (fun _ _ => [.own 0 [.vs 5 xs, I a, I b, I c, .vs 1 ys, .vs 5 zs], .own 0 [I f], .own 0 [I t], .own 0 [I h0], .own 0 [.fn 56 []]]) v0 ⟨fun p hp => by rw [hQ0] at hp; omega, by rw [hv0]; exact Int.le_refl _, ⟨f.toNat, hf1, hv0⟩⟩ ⟨rfl, by rw [hQ0]; rfl, rfl, trivial⟩ (.inl rfl) fun j s i hi hj hPj Bk hB => ?_
  obtain ⟨q1, q2, q3⟩ := hPj
  have hlt : A.lt i (A.vlen xs) = decide (j < rs.length) := by subst hA; exact lt_len (by simp [hxs]) hi
  have hadd : ∀ N, j < N → N ≤ 9223372036854775807 → A.add .i64 i 1 = iLen (j + 1) := fun N hj hN => by subst hA; exact add_one hi hj hN
  obtain ⟨fi, hfi⟩ : ∃ q, q = iLen (Q j) := ⟨_, rfl⟩
  rw [← hfi]
  refine SGo_run hA ⟨[], [], [], (65, eAt_116) :: []⟩ .nil (.cons eAt_116_ok .nil) 200 fun T TD hT hTD => ?_
  cbv
  split <;> cbv
  · rename_i hk0
    have hk1 : j < rs.length := by have hz := hlt.symm.trans hk0; simpa using hz
    clear hk0
    obtain ⟨r, hx⟩ : ∃ x, rs[j]? = some x := ⟨_, List.getElem?_eq_getElem hk1⟩
    have hix : A.ix 5 5 xs i (rcC r) := by subst hA; exact ix_map hxs hi hx rfl
    obtain ⟨hq1, hq2, hq3⟩ := hQs j r hx
    have hrb := (ho.all _ (List.mem_of_getElem? hx)).1
    obtain ⟨x, hx1⟩ : ∃ x, x = min (max (min f.toNat t.toNat) (Q j)) (Q j + r.lg.toNat - 1) := ⟨_, rfl⟩
    have hxn : x < R.length := by omega
    have hs1 : A.add .i64 fi r.lg = iLen (Q (j + 1)) := by rw [hfi, hq1]; subst hA; show iAdd .i64 _ _ = _; unfold iLen; rw [iAdd_id (by omega) (by omega)]; omega
    have hxi : A.min (A.max lw fi) (A.sub .i64 (A.add .i64 fi r.lg) 1) = iLen x := by
      rw [hs1, hlw2, hfi, hx1, hq1]; subst hA; simp only [std, iMin_eq, iMax_eq]; unfold iLen; rw [iSub_id (by omega) (by omega)]; omega
    rw [hlw] at hxi
    have hxt : (iLen x).toNat = x := by unfold iLen; omega
    have hxr : 0 ≤ iLen x ∧ iLen x < iLen R.length := by unfold iLen; omega
    rw [← hxi] at hxt hxr
    refine Exists.intro _ (And.intro hix ?_); cbv
    refine Exists.intro R (And.intro hys (And.intro hzs (And.intro hP (And.intro rfl (And.intro hxr (And.intro hf (And.intro ht (And.intro hh ?_))))))))
    intro v hv; cbv
    have hv : v = V x := by rw [hv, hV]; congr 1
    have hmn : A.min s v = min s v := by subst hA; exact iMin_eq _ _
    refine hB (A.min s v) _ _ hk1 ?_ ⟨rfl, congrArg I hs1, congrArg I (hadd _ hk1 (by have := ho.n2; omega)), trivial⟩ ⟨rfl, rfl, rfl, rfl, rfl, trivial⟩ (.inr ⟨⟨_, rfl⟩, Nat.zero_le _, by simp [ltG, AV.lt, AV.ltL, keepS, look], ?_⟩)
    · rw [hmn]
      refine ⟨fun p hp => ?_, by omega, ?_⟩
      · by_cases hpq : p < Q j
        · have := q1 p hpq; omega
        · have e1 := near hP.all (f := f.toNat) (t := t.toNat) (a := Q j) (k := r.lg.toNat) (p := p) (x := x) (by omega) (by omega) hx1
          have e2 : ∀ p, Q j ≤ p → p < Q (j + 1) → R.getD p rc0 = r := fun p h1 h2 => by
            have := hq3 (p - Q j) (by omega)
            rw [show Q j + (p - Q j) = p by omega] at this
            rw [List.getD_eq_getElem?_getD, this]; rfl
          have e3 : V x ≤ V p := by rw [hV]; unfold costV; rw [e2 p (by omega) (by omega), e2 x (by omega) (by omega)]; omega
          omega
      · by_cases hsv : s ≤ v
        · obtain ⟨p, hp1, hp2⟩ := q3
          exact ⟨p, hp1, by omega⟩
        · exact ⟨x, hxn, by omega⟩
    · simp [ltH, AObj.lt, AV.lt, AV.ltL, show ∀ n, AV.ltL n xs from fun n => AV.ltL_nid (by rw [hxs]; exact nidL_rc rs), show ∀ n, AV.ltL n ys from fun n => AV.ltL_nid (by rw [hys]; exact nidL_map (g := I) (fun _ => rfl) _), show ∀ n, AV.ltL n zs from fun n => AV.ltL_nid (by rw [hzs]; exact nidL_rc R)]
  · rename_i hk0
    have hk1 : ¬ j < rs.length := by have hz := hlt.symm.trans hk0; simpa using hz
    clear hk0
    have hQj := hQe j (by omega)
    rw [hQj] at q1
    refine leaf h (congrArg I ?_) rfl
    obtain ⟨p, hp1, hp2⟩ := q3
    exact minN_eq (fun p hp => q1 p (by omega)) ⟨p, by omega, hp2⟩
theorem p55_117 (rs : List Rch) (a b c : Int) (ho : RoadOk rs) (f t h0 : Int) (hf : 0 ≤ f ∧ f < sumLg rs) (ht : 0 ≤ t ∧ t < sumLg rs) (hh : 0 ≤ h0 ∧ h0 ≤ 10000) (H : AHeap) {Kk : AV → AHeap → Prop}
    (h : Kk (I (costS (plc rs) f.toNat t.toNat h0 (·.gr))) H) : ACalls Tryd.prog 55 [grV (.vs 5 (rs.map rcV)) a b c (.vs 1 ((slL (plc rs)).map I)) (.vs 5 ((plc rs).map rcV)), I f, I t, I h0, .fn 57 []] H Kk := by
  refine (fun q => pureC (by rfl) (by rfl) q H h) ?_
  clear h
  intro Kk h
  have hRl := ho.ilen
  obtain ⟨R, hR⟩ : ∃ R, R = plc rs := ⟨_, rfl⟩
  have hP : PlcOk R := hR ▸ ho.plc
  rw [← hR] at h hRl ⊢
  rw [← hRl] at hf ht
  have hf1 : f.toNat < R.length := by unfold iLen at hf; omega
  have ht1 : t.toNat < R.length := by unfold iLen at ht; omega
  have hle := hP.le
  have hpo := hP.pos
  have hg : ∀ r ∈ R, 0 ≤ (fun r : Rch => r.gr) r ∧ (fun r : Rch => r.gr) r ≤ 1000 := fun r hr => by have := (hP.all r hr).2.2.2.1; dsimp only; omega
  obtain ⟨xs, hxs⟩ : ∃ xs, xs = rs.map rcV := ⟨_, rfl⟩
  obtain ⟨ys, hys⟩ : ∃ ys, ys = (slL R).map I := ⟨_, rfl⟩
  obtain ⟨zs, hzs⟩ : ∃ zs, zs = R.map rcV := ⟨_, rfl⟩
  rw [← hxs, ← hys, ← hzs]
  obtain ⟨V, hV⟩ : ∃ V, V = costV R f.toNat t.toNat h0 (·.gr) := ⟨_, rfl⟩
  unfold costS at h
  rw [← hV] at h
  have hVb : ∀ p, p < R.length → 0 ≤ V p ∧ V p ≤ 16000000 := fun p hp => by have := costV_bnd hP hf1 ht1 hp hh hg; rw [hV]; omega
  obtain ⟨Q, hQ⟩ : ∃ Q : Nat → Nat, Q = fun j => (plc (rs.take j)).length := ⟨_, rfl⟩
  have hQ0 : Q 0 = 0 := by rw [hQ]; rfl
  have hQs : ∀ j (r : Rch), rs[j]? = some r → Q (j + 1) = Q j + r.lg.toNat ∧ (Q (j + 1) ≤ R.length) ∧ ∀ k, k < r.lg.toNat → R[Q j + k]? = some r := by
    intro j r hx
    obtain ⟨h1, rfl⟩ := List.getElem?_eq_some_iff.1 hx
    have e1 : plc (rs.take (j + 1)) = plc (rs.take j) ++ List.replicate rs[j].lg.toNat rs[j] := by
      rw [List.take_succ_eq_append_getElem h1, plc_append]; congr 1; simp [plc]
    have e2 : R = plc (rs.take (j + 1)) ++ plc (rs.drop (j + 1)) := by rw [hR, ← plc_append, List.take_append_drop]
    refine ⟨?_, ?_, ?_⟩
    · rw [hQ]; dsimp only; rw [e1, List.length_append, List.length_replicate]
    · rw [hQ]; dsimp only; rw [e2, List.length_append]; omega
    · intro k hk
      rw [e2, e1, List.append_assoc, hQ]; dsimp only
      rw [List.getElem?_append_right (by omega), List.getElem?_append_left (by rw [List.length_replicate]; omega), List.getElem?_replicate, if_pos (by omega)]
  have hQe : ∀ j, rs.length ≤ j → Q j = R.length := fun j hj => by rw [hQ, hR]; dsimp only; rw [List.take_of_length_le hj]
  obtain ⟨A, hA⟩ : ∃ A, A = std := ⟨_, rfl⟩
  obtain ⟨lw, hlw⟩ : ∃ x, x = A.min f t := ⟨_, rfl⟩
  have hlw2 : lw = iLen (min f.toNat t.toNat) := by rw [hlw]; subst hA; simp only [std, iMin_eq]; unfold iLen; omega
  refine go55 rfl (SGo_run hA ⟨[], [], [], (65, eAt_117) :: []⟩ .nil (.cons eAt_117_ok .nil) 200 fun T TD hT hTD => ?_)
  cbv
  refine Exists.intro R (And.intro hys (And.intro hzs (And.intro hP (And.intro rfl (And.intro hf (And.intro hf (And.intro ht (And.intro hh ?_))))))))
  intro v0 hv0; cbv
  have hv0 : v0 = V f.toNat := by rw [hv0, hV]
  rw [hT]
  refine AGo_upE [10, 11, 12, 26, 27] rs.length (fun j (s : Int) => (∀ p, p < Q j → s ≤ V p) ∧ s ≤ V f.toNat ∧ ∃ p, p < R.length ∧ s = V p) (fun j s i => [(13, I s), (14, I (iLen (Q j))), (28, I i)]) (fun _ _ => [.own 0 [.vs 5 xs, I a, I b, I c, .vs 1 ys, .vs 5 zs], .own 0 [I f], .own 0 [I t], .own 0 [I h0], .own 0 [.fn 57 []]]) v0 ⟨fun p hp => by rw [hQ0] at hp; omega, by rw [hv0]; exact Int.le_refl _, ⟨f.toNat, hf1, hv0⟩⟩ ⟨rfl, by rw [hQ0]; rfl, rfl, trivial⟩ (.inl rfl) fun j s i hi hj hPj Bk hB => ?_
  obtain ⟨q1, q2, q3⟩ := hPj
  have hlt : A.lt i (A.vlen xs) = decide (j < rs.length) := by subst hA; exact lt_len (by simp [hxs]) hi
  have hadd : ∀ N, j < N → N ≤ 9223372036854775807 → A.add .i64 i 1 = iLen (j + 1) := fun N hj hN => by subst hA; exact add_one hi hj hN
  obtain ⟨fi, hfi⟩ : ∃ q, q = iLen (Q j) := ⟨_, rfl⟩
  rw [← hfi]
  refine SGo_run hA ⟨[], [], [], (65, eAt_117) :: []⟩ .nil (.cons eAt_117_ok .nil) 200 fun T TD hT hTD => ?_
  cbv
  split <;> cbv
  · rename_i hk0
    have hk1 : j < rs.length := by have hz := hlt.symm.trans hk0; simpa using hz
    clear hk0
    obtain ⟨r, hx⟩ : ∃ x, rs[j]? = some x := ⟨_, List.getElem?_eq_getElem hk1⟩
    have hix : A.ix 5 5 xs i (rcC r) := by subst hA; exact ix_map hxs hi hx rfl
    obtain ⟨hq1, hq2, hq3⟩ := hQs j r hx
    have hrb := (ho.all _ (List.mem_of_getElem? hx)).1
    obtain ⟨x, hx1⟩ : ∃ x, x = min (max (min f.toNat t.toNat) (Q j)) (Q j + r.lg.toNat - 1) := ⟨_, rfl⟩
    have hxn : x < R.length := by omega
    have hs1 : A.add .i64 fi r.lg = iLen (Q (j + 1)) := by rw [hfi, hq1]; subst hA; show iAdd .i64 _ _ = _; unfold iLen; rw [iAdd_id (by omega) (by omega)]; omega
    have hxi : A.min (A.max lw fi) (A.sub .i64 (A.add .i64 fi r.lg) 1) = iLen x := by
      rw [hs1, hlw2, hfi, hx1, hq1]; subst hA; simp only [std, iMin_eq, iMax_eq]; unfold iLen; rw [iSub_id (by omega) (by omega)]; omega
    rw [hlw] at hxi
    have hxt : (iLen x).toNat = x := by unfold iLen; omega
    have hxr : 0 ≤ iLen x ∧ iLen x < iLen R.length := by unfold iLen; omega
    rw [← hxi] at hxt hxr
    refine Exists.intro _ (And.intro hix ?_); cbv
    refine Exists.intro R (And.intro hys (And.intro hzs (And.intro hP (And.intro rfl (And.intro hxr (And.intro hf (And.intro ht (And.intro hh ?_))))))))
    intro v hv; cbv
    have hv : v = V x := by rw [hv, hV]; congr 1
    have hmn : A.min s v = min s v := by subst hA; exact iMin_eq _ _
    refine hB (A.min s v) _ _ hk1 ?_ ⟨rfl, congrArg I hs1, congrArg I (hadd _ hk1 (by have := ho.n2; omega)), trivial⟩ ⟨rfl, rfl, rfl, rfl, rfl, trivial⟩ (.inr ⟨⟨_, rfl⟩, Nat.zero_le _, by simp [ltG, AV.lt, AV.ltL, keepS, look], ?_⟩)
    · rw [hmn]
      refine ⟨fun p hp => ?_, by omega, ?_⟩
      · by_cases hpq : p < Q j
        · have := q1 p hpq; omega
        · have e1 := near hP.all (f := f.toNat) (t := t.toNat) (a := Q j) (k := r.lg.toNat) (p := p) (x := x) (by omega) (by omega) hx1
          have e2 : ∀ p, Q j ≤ p → p < Q (j + 1) → R.getD p rc0 = r := fun p h1 h2 => by
            have := hq3 (p - Q j) (by omega)
            rw [show Q j + (p - Q j) = p by omega] at this
            rw [List.getD_eq_getElem?_getD, this]; rfl
          have e3 : V x ≤ V p := by rw [hV]; unfold costV; rw [e2 p (by omega) (by omega), e2 x (by omega) (by omega)]; omega
          omega
      · by_cases hsv : s ≤ v
        · obtain ⟨p, hp1, hp2⟩ := q3
          exact ⟨p, hp1, by omega⟩
        · exact ⟨x, hxn, by omega⟩
    · simp [ltH, AObj.lt, AV.lt, AV.ltL, show ∀ n, AV.ltL n xs from fun n => AV.ltL_nid (by rw [hxs]; exact nidL_rc rs), show ∀ n, AV.ltL n ys from fun n => AV.ltL_nid (by rw [hys]; exact nidL_map (g := I) (fun _ => rfl) _), show ∀ n, AV.ltL n zs from fun n => AV.ltL_nid (by rw [hzs]; exact nidL_rc R)]
  · rename_i hk0
    have hk1 : ¬ j < rs.length := by have hz := hlt.symm.trans hk0; simpa using hz
    clear hk0
    have hQj := hQe j (by omega)
    rw [hQj] at q1
    refine leaf h (congrArg I ?_) rfl
    obtain ⟨p, hp1, hp2⟩ := q3
    exact minN_eq (fun p hp => q1 p (by omega)) ⟨p, by omega, hp2⟩
end Go.Sas
