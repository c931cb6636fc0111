/-
Probe: the places that are stale: contract.
Probe: closures put together: contracts.
Conditions: none.
-/
import Derived.Test.YtpokfjhlilbpfaaDoorPGd
import Derived.Test.YtpokfjhlilbpfaaDoorPMd
import Derived.Test.YtpokfjhlilbpfaaDoorPNd
import Derived.Test.YtpokfjhlilbpfaaDoorPCd
set_option linter.unusedVariables false
set_option linter.unusedSimpArgs false
namespace Go.Sas
open Go.Proofs
set_option maxRecDepth 100000
abbrev stH (a b c h : Int) (xs ws zs ls cs : List AV) (N : Nat) : AHeap :=
  [.own 0 [.vs 5 xs, I a, I b, I c, .vs 1 ws, .vs 5 zs], .own 0 [.vs 5 ls], .own 0 [I h], .own 0 cs, .own 0 [.ms 1 3 0 0 N], .own 0 [.vs 5 xs, I a, I b, I c]]
theorem p41 (rs : List Rch) (a b c h0 : Int) (l : List Lk) (ho : RoadOk rs) (hs : SgtOk a b c) (hl : l.length ≤ 1000000) (hL : ∀ x ∈ l, LkOk (sumLg rs) x) (hh : 0 ≤ h0 ∧ h0 ≤ 10000) (H : AHeap) {Kk : AV → AHeap → Prop}
    (h : Kk (.vs 1 ((staleL (plc rs) a b c l h0).map B)) H) : ACalls Tryd.prog 41 [grV (.vs 5 (rs.map rcV)) a b c (.vs 1 ((slL (plc rs)).map I)) (.vs 5 ((plc rs).map rcV)), .vs 5 (l.map lkV), I h0] H Kk := by
  refine (fun q => pureF (by rfl) (by rfl) q H h) ?_
  clear h
  intro Kk h
  obtain ⟨xs, hxs⟩ : ∃ xs, xs = rs.map rcV := ⟨_, rfl⟩
  obtain ⟨ws, hws⟩ : ∃ ys, ys = (slL (plc rs)).map I := ⟨_, rfl⟩
  obtain ⟨zs, hzs⟩ : ∃ zs, zs = (plc rs).map rcV := ⟨_, rfl⟩
  obtain ⟨ls, hls⟩ : ∃ ys, ys = l.map lkV := ⟨_, rfl⟩
  rw [← hxs, ← hws, ← hzs, ← hls]
  have hRl := ho.ilen
  obtain ⟨R, hR⟩ : ∃ R, R = plc rs := ⟨_, rfl⟩
  have hPl : PlcOk R := hR ▸ ho.plc
  rw [← hR] at h hRl hzs
  obtain ⟨F, hF⟩ : ∃ F, F = Frees 0 Kk := ⟨_, rfl⟩
  rw [← hF]
  obtain ⟨N, hN⟩ : ∃ N, N = R.length := ⟨_, rfl⟩
  have hN1 : N ≤ 1000 := by rw [hN]; exact hPl.le
  obtain ⟨SS, hSS⟩ : ∃ f : Nat → Bool, f = staleS R a b c l h0 := ⟨_, rfl⟩
  obtain ⟨CS, hCS⟩ : ∃ f : Nat → List AV, f = fun p => rowA N fun q => B (if q < p then SS q else false) := ⟨_, rfl⟩
  obtain ⟨Q, hQ⟩ : ∃ Q : Nat → Nat, Q = fun j => (plc (rs.take j)).length := ⟨_, rfl⟩
  have hQ0 : Q 0 = 0 := by rw [hQ]; rfl
  obtain ⟨A, hA⟩ : ∃ A, A = std := ⟨_, rfl⟩
  have hsg : ∀ g, A.sg g g := by subst hA; exact fun _ => rfl
  have hv : A.vlen zs = iLen N := by subst hA; rw [hzs, hN]; simp [std]
  have hmk : A.mkz 1 1 [.bool false] (A.vlen zs) (A.vlen zs) (CS (Q 0)) N := by
    rw [hv]; subst hA; rw [hQ0, hCS]; exact mkS_rowA rfl (by omega) (by omega)
  refine go41 rfl (SGo_run hA ⟨[3], [], [], (54, eRoad) :: []⟩ .nil (.cons eRoad_ok .nil) 200 fun T TD hT hTD => ?_)
  cbv
  refine Exists.intro _ (Exists.intro _ (And.intro hmk ?_)); cbv
  refine Exists.intro rs (And.intro hxs ?_); cbv
  rw [hT]
  refine AGo_range (fid := 64) (caps := [.mp 5 0 0]) rfl rfl [(3, .mp 0 0 0), (4, .mp 1 0 0), (5, .mp 2 0 0), (7, .mp 4 0 0)] ⟨rfl, rfl, rfl, rfl, trivial⟩ rfl ?_
  intro lp lb us hY
  have hQs : ∀ j (r : Rch), rs[j]? = some r → Q (j + 1) = Q j + r.lg.toNat ∧ ∀ k, k < r.lg.toNat → R[Q j + k]? = some r := by
    intro j r hx
    obtain ⟨h1, rfl⟩ := List.getElem?_eq_some_iff.1 hx
    have e1 : plc (rs.take (j + 1)) = plc (rs.take j) ++ List.replicate rs[j].lg.toNat rs[j] := by
      rw [List.take_succ_eq_append_getElem h1, plc_append]; congr 1; simp [plc]
    constructor
    · rw [hQ]; dsimp only; rw [e1, List.length_append, List.length_replicate]
    · intro k hk
      have e2 : R = plc (rs.take (j + 1)) ++ plc (rs.drop (j + 1)) := by rw [hR, ← plc_append, List.take_append_drop]
      rw [e2, e1, List.append_assoc, hQ]; dsimp only
      rw [List.getElem?_append_right (by omega), List.getElem?_append_left (by rw [List.length_replicate]; omega), List.getElem?_replicate, if_pos (by omega)]
  have hQe : ∀ j, rs.length ≤ j → Q j = R.length := fun j hj => by rw [hQ, hR]; dsimp only; rw [List.take_of_length_le hj]
  have hlk0 : ∀ p r, R[p]? = some r → p < N ∧ R.getD p rc0 = r := by
    intro p r hx
    obtain ⟨h1, rfl⟩ := List.getElem?_eq_some_iff.1 hx
    exact ⟨by omega, by rw [List.getD_eq_getElem?_getD, hx]; rfl⟩
  have hend : ∀ X0 X1 X2 X4 T1, F (aTup [.ms 1 3 0 0 N]) (X0 :: X1 :: X2 :: .own 0 (CS N) :: X4 :: T1) := by
    intro X0 X1 X2 X4 T1
    rw [hF]
    have hc : CS N = (staleL R a b c l h0).map B := by
      rw [hCS]; dsimp only
      rw [rowA_congr (g := fun q => B (SS q)) (fun q hq => by rw [if_pos hq]), rowA_map, hN, hSS]; rfl
    rw [hc]
    refine Frees.frz 3 0 1 ((staleL R a b c l h0).map B) rfl (Elems_one (F := B) (fun _ => rfl) (fun _ => rfl) _) ?_
    have e : AV.frz 3 0 1 ((staleL R a b c l h0).map B) (aTup [.ms 1 3 0 0 N]) = .vs 1 ((staleL R a b c l h0).map B) := frz_self (by simp [staleL, hN])
    rw [e]
    exact Frees.drop0 h rfl
  have hxl : ∀ n, AV.ltL n xs := fun n => AV.ltL_nid (by rw [hxs]; exact nidL_rc rs)
  have hwl : ∀ n, AV.ltL n ws := fun n => AV.ltL_nid (by rw [hws]; exact nidL_map (g := I) (fun _ => rfl) _)
  have hzl : ∀ n, AV.ltL n zs := fun n => AV.ltL_nid (by rw [hzs]; exact nidL_rc R)
  have hll : ∀ n, AV.ltL n ls := fun n => AV.ltL_nid (by rw [hls]; exact nidL_map (g := lkV) (fun _ => rfl) _)
  have hcl : ∀ p n, AV.ltL n (CS p) := fun p n => AV.ltL_nid (by rw [hCS]; exact nidL_rowA (fun _ => rfl))
  show ACalls Tryd.prog 64 [.yl 6 0, .mp 5 0 0] (stH a b c h0 xs ws zs ls (CS (Q 0)) N ++ [.raw 0 lp [.mp 0 0 0, .mp 1 0 0, .mp 2 0 0, .mp 4 0 0] us]) _
  refine go64 rfl ?_
  refine AGo_opq fun RR hRR => ?_
  refine SGo_run hA ⟨[], [], [], []⟩ .nil .nil 200 fun T TD hT hTD => ?_
  cbv
  rw [hT]
  refine AGo_upE [0, 1, 7, 8] rs.length (fun j (_ : Unit) => True) (fun j _ i => [(3, I (iLen (Q j))), (9, I i)]) (fun j _ => stH a b c h0 xs ws zs ls (CS (Q j)) N ++ [.raw 0 lp [.mp 0 0 0, .mp 1 0 0, .mp 2 0 0, .mp 4 0 0] us]) () trivial ⟨by rw [hQ0]; rfl, rfl, trivial⟩ (.inl rfl) fun j _ i hi hj hP Bk hB => ?_
  have hlt : A.lt i (A.vlen xs) = decide (j < rs.length) := by subst hA; exact lt_len (by simp [hxs]) hi
  have hadd : ∀ N, j < N → N ≤ 9223372036854775807 → A.add .i64 i 1 = iLen (j + 1) := fun N hj hN => by subst hA; exact add_one hi hj hN
  obtain ⟨ip, hip⟩ : ∃ q, q = iLen (Q j) := ⟨_, rfl⟩
  rw [← hip]
  refine SGo_run hA ⟨[], [], [], []⟩ .nil .nil 200 fun T TD hT hTD => ?_
  cbv
  split <;> cbv
  · rename_i hk0
    have hk1 : j < rs.length := by have hz := hlt.symm.trans hk0; simpa using hz
    clear hk0
    obtain ⟨r, hx⟩ : ∃ x, rs[j]? = some x := ⟨_, List.getElem?_eq_getElem hk1⟩
    have hix : A.ix 5 5 xs i (rcC r) := by subst hA; exact ix_map hxs hi hx rfl
    obtain ⟨hq1, hq2⟩ := hQs j r hx
    have hrb := (ho.all _ (List.mem_of_getElem? hx)).1
    refine Exists.intro _ (And.intro hix ?_); cbv
    rw [hT]
    refine AGo_upE [0, 1, 5, 7, 8, 9, 14] r.lg.toNat (fun k (_ : Unit) => True) (fun k _ i => [(3, I (iLen (Q j + k))), (15, I i)]) (fun k _ => stH a b c h0 xs ws zs ls (CS (Q j + k)) N ++ [.raw 0 lp [.mp 0 0 0, .mp 1 0 0, .mp 2 0 0, .mp 4 0 0] us, .own 0 (rcC r)]) () trivial ⟨congrArg I hip, rfl, trivial⟩ (.inl rfl) fun k _ i2 hi2 hk hP2 Bk2 hB2 => ?_
    have hlt2 : A.lt i2 r.lg = decide (k < r.lg.toNat) := by subst hA; simp only [std, iLt, hi2]; rw [decide_eq_decide]; unfold iLen; omega
    have hadd2 : ∀ N, k < N → N ≤ 9223372036854775807 → A.add .i64 i2 1 = iLen (k + 1) := fun N hj hN => by subst hA; exact add_one hi2 hj hN
    obtain ⟨p, hp⟩ : ∃ p, p = Q j + k := ⟨_, rfl⟩
    rw [← hp]
    obtain ⟨iq, hiq⟩ : ∃ q, q = iLen p := ⟨_, rfl⟩
    rw [← hiq]
    refine SGo_run hA ⟨[], [], [], []⟩ .nil .nil 200 fun T TD hT hTD => ?_
    cbv
    split <;> cbv
    · rename_i hz
      have hk1' : k < r.lg.toNat := by have hz := hlt2.symm.trans hz; simpa using hz
      have hRp := hq2 k hk1'
      rw [← hp] at hRp
      obtain ⟨hpN, hRr⟩ := hlk0 p r hRp
      have hrok := hPl.all _ (List.mem_of_getElem? hRp)
      rw [hT]
      refine AGo_yield (id := 6) (gg := 0) rfl rfl rfl rfl ?_
      show AYields Tryd.prog 6 [I iq, rcV r] (stH a b c h0 xs ws zs ls (CS p) N ++ [.raw 0 lp [.mp 0 0 0, .mp 1 0 0, .mp 2 0 0, .mp 4 0 0] us, .own 0 (rcC r)]) _
      obtain ⟨HX, hHX⟩ : ∃ HX, HX = stH a b c h0 xs ws zs ls (CS p) N ++ [.raw 0 lp [.mp 0 0 0, .mp 1 0 0, .mp 2 0 0, .mp 4 0 0] us, .own 0 (rcC r), .own 0 (rcC r)] := ⟨_, rfl⟩
      obtain ⟨R1, hR1⟩ : ∃ R1 : Env → AHeap → Prop, R1 = fun e1 H2 => Fits e1 [(3, .mp 0 0 0), (4, .mp 1 0 0), (5, .mp 2 0 0), (7, .mp 4 0 0), (8, I iq), (9, .mp 8 0 0)] ∧ H2 = HX := ⟨_, rfl⟩
      refine hY [I iq, rcV r] _ _ R1 rfl rfl (fun roo => ?_) (fun roo e1 H2 hr1 => ?_)
      · refine SGo_run hA ⟨[], [], [], []⟩ .nil .nil 200 fun T TD hT hTD => ?_
        cbv
        rw [hR1]
        exact ⟨⟨rfl, rfl, rfl, rfl, rfl, rfl, trivial⟩, hHX.symm⟩
      · rw [hR1] at hr1
        obtain ⟨hf1, rfl⟩ := hr1
        rw [hHX]
        refine ⟨rfl, ?_⟩
        refine AGo_forget [(3, .mp 0 0 0), (4, .mp 1 0 0), (5, .mp 2 0 0), (7, .mp 4 0 0), (8, I iq), (9, .mp 8 0 0)] _ hf1 (.inl rfl) ?_ (by simp)
        refine AGo_opq fun R2 hR2 => ?_
        obtain ⟨C1, hC1⟩ : ∃ f : Nat → List AV, f = fun j => rowA N fun q => B (if q < p then SS q else if q = p then !((l.take j).any (seenS a b c r.ev p h0)) else false) := ⟨_, rfl⟩
        have hixp : A.ixm 1 1 0 N iq p := by subst hA; exact ixm1 hiq hpN
        have hup : A.upd 1 (CS p) p [B true] (C1 0) := by
          subst hA; rw [hCS, hC1]
          exact updS_rowA hpN fun q _ => by
            by_cases h1 : q = p
            · subst h1; rw [if_pos rfl, if_neg (Nat.lt_irrefl _), if_pos rfl]; rfl
            · rw [if_neg h1, if_neg h1]
        obtain ⟨cs0, hcs0⟩ : ∃ r, r = CS p := ⟨_, rfl⟩
        obtain ⟨cs1, hcs1⟩ : ∃ r, r = C1 0 := ⟨_, rfl⟩
        rw [← hcs0, ← hcs1] at hup
        rw [← hcs0]
        refine SGo_run hA ⟨[3], [], [], []⟩ .nil .nil 200 fun T TD hT hTD => ?_
        cbv
        refine And.intro (hsg _) (Exists.intro p (And.intro hixp ?_)); cbv
        refine And.intro (hsg _) (Exists.intro cs1 (And.intro hup ?_)); cbv
        rw [hT]
        refine AGo_upE [3, 4, 5, 7, 8, 9, 25, 26] l.length (fun j (_ : Unit) => True) (fun j _ i => [(27, I i)]) (fun j _ => stH a b c h0 xs ws zs ls (C1 j) N ++ [.raw 0 lb [.mp 0 0 0, .mp 1 0 0, .mp 2 0 0, .mp 4 0 0] us, .own 0 (rcC r), .own 0 (rcC r)]) () trivial ⟨rfl, trivial⟩ (.inl (by rw [hcs1]; rfl)) fun j3 _ i3 hi3 hj3 _ Bk3 hB3 => ?_
        have hlt3 : A.lt i3 (A.vlen ls) = decide (j3 < l.length) := by subst hA; exact lt_len (by simp [hls]) hi3
        have hadd3 : ∀ N, j3 < N → N ≤ 9223372036854775807 → A.add .i64 i3 1 = iLen (j3 + 1) := fun N hj hN => by subst hA; exact add_one hi3 hj hN
        obtain ⟨cs2, hcs2⟩ : ∃ r, r = C1 j3 := ⟨_, rfl⟩
        rw [← hcs2]
        refine SGo_run hA ⟨[3, 10], [], (16, eIn) :: [], []⟩ (.cons (eIn_ok p16) .nil) .nil 200 fun T TD hT hTD => ?_
        cbv
        split <;> cbv
        · rename_i hz
          have hk3 : j3 < l.length := by have hz := hlt3.symm.trans hz; simpa using hz
          obtain ⟨⟨k', q', g', u', v'⟩, hx3⟩ : ∃ x, l[j3]? = some x := ⟨_, List.getElem?_eq_getElem hk3⟩
          have hiy : A.ix 5 5 ls i3 [I k', I q', I g', I u', I v'] := by subst hA; exact ix_map hls hi3 hx3 rfl
          obtain ⟨d0, d1, d2, d3, d4, d5⟩ := hL _ (List.mem_of_getElem? hx3)
          dsimp only at d0 d1 d2 d3 d4 d5
          refine Exists.intro _ (And.intro hiy ?_); cbv
          refine And.intro (hsg _) (Exists.intro [I a, I b, I c] (And.intro (by subst hA; exact ⟨rfl, by decide, rfl⟩) ?_)); cbv
          have hkk : A.sub .i64 k' 1 = iLen (k' - 1).toNat := by subst hA; show iSub .i64 k' 1 = _; rw [iSub_id (by omega) (by omega)]; unfold iLen; omega
          obtain ⟨o, ho3⟩ : ∃ o, o = (k' - 1).toNat := ⟨_, rfl⟩
          have hixo : A.ixm 1 1 0 3 (A.sub .i64 k' 1) o := by subst hA; exact ixm1 (hkk.trans (congrArg iLen ho3.symm)) (by omega)
          obtain ⟨sx, hsx⟩ : ∃ x, x = sgtS a b c k' := ⟨_, rfl⟩
          have hsb := sgtS_bnd hs (k := k')
          rw [← hsx] at hsb
          have hge : A.get none [I a, I b, I c] o (I sx) := by
            subst hA
            have : k' = 1 ∨ k' = 2 ∨ k' = 3 := by omega
            rcases this with rfl | rfl | rfl <;> subst ho3 hsx <;> rfl
          repeat (first | (refine And.intro (hsg _) (Exists.intro o (And.intro hixo ?_)); cbv) | (refine And.intro (hsg _) (Exists.intro _ (And.intro hge ?_)); cbv))
          intro b1 hb1; cbv
          have hlg : sumLg rs ≤ 1000 := ho.le
          have hsb1 : A.sub .i64 q' sx = q' - sx := by subst hA; exact iSub_id (by omega) (by omega)
          have hsb2 : A.add .i64 q' sx = q' + sx := by subst hA; exact iAdd_id (by omega) (by omega)
          have hsb3 : A.sub .i64 h0 r.ev = h0 - r.ev := by
            obtain ⟨_, _, _, _, h9⟩ := hrok
            subst hA; exact iSub_id (by omega) (by omega)
          have hb4 : b1 = decide (q' - sx ≤ p ∧ (p : Int) ≤ q' + sx) := by rw [← hsb1, ← hsb2]; rw [hiq] at hb1; exact hb1
          clear hb1
          have htk : ∀ q, ((l.take (j3 + 1)).any q) = ((l.take j3).any q || q ⟨k', q', g', u', v'⟩) := fun q => by
            obtain ⟨h1, he⟩ := List.getElem?_eq_some_iff.1 hx3
            rw [List.take_succ_eq_append_getElem h1, he, List.any_append]; simp
          have hno : seenS a b c r.ev p h0 ⟨k', q', g', u', v'⟩ = false → C1 (j3 + 1) = cs2 := fun hs => by
            rw [hcs2, hC1]; dsimp only
            refine rowA_congr fun q hq => ?_
            rw [htk, hs, Bool.or_false]
          have hyes : seenS a b c r.ev p h0 ⟨k', q', g', u', v'⟩ = true → A.upd 1 cs2 p [B false] (C1 (j3 + 1)) := fun hs => by
            rw [hcs2, hC1]; subst hA
            refine updS_rowA hpN fun q _ => ?_
            by_cases h1 : q = p
            · subst h1; rw [if_pos rfl, if_neg (Nat.lt_irrefl _), if_pos rfl, htk, hs]; simp
            · rw [if_neg h1, if_neg h1, if_neg h1]
          have hsn : seenS a b c r.ev p h0 ⟨k', q', g', u', v'⟩ = (decide (q' - sx ≤ p ∧ (p : Int) ≤ q' + sx) && decide (h0 - r.ev ≤ g' ∧ g' ≤ h0)) := by rw [hsx]; rfl
          rw [← hb4] at hsn
          clear hb4
          obtain ⟨cs3, hcs3⟩ : ∃ r, r = C1 (j3 + 1) := ⟨_, rfl⟩
          rw [← hcs3] at hno hyes
          have hfin : ∀ e', Fits e' [(27, I (A.add .i64 i3 1))] → Fits e' (keepS [3, 4, 5, 7, 8, 9, 25, 26] [(27, I i3), (3, .mp 0 0 0), (4, .mp 1 0 0), (5, .mp 2 0 0), (7, .mp 4 0 0), (8, I iq), (9, .mp 8 0 0), (25, .vs 5 ls), (26, I (A.vlen ls))]) →
              Bk3 e' (stH a b c h0 xs ws zs ls cs3 N ++ [.raw 0 lb [.mp 0 0 0, .mp 1 0 0, .mp 2 0 0, .mp 4 0 0] us, .own 0 (rcC r), .own 0 (rcC r), .own 0 [I k', I q', I g', I u', I v'], .own 0 [I a, I b, I c]]) := fun e' hf hk => by
            rw [hadd3 _ hk3 (by omega)] at hf
            refine hB3 () _ _ hk3 trivial hf hk (.inr ⟨⟨[.own 0 [I k', I q', I g', I u', I v'], .own 0 [I a, I b, I c]], by rw [hcs3]; rfl⟩, by simp, by simp [ltG, AV.lt, AV.ltL, keepS, look], ?_⟩)
            have hc3 : ∀ n, AV.ltL n (C1 (j3 + 1)) := fun n => AV.ltL_nid (by rw [hC1]; exact nidL_rowA (fun _ => rfl))
            simp [ltH, AObj.lt, AV.lt, AV.ltL, hxl, hwl, hzl, hll, hc3]
          split <;> cbv
          · intro b2 hb2; cbv
            have hb5 : b2 = decide (h0 - r.ev ≤ g' ∧ g' ≤ h0) := by rw [← hsb3]; exact hb2
            clear hb2
            rw [← hb5] at hsn
            clear hb5
            split <;> cbv
            · refine And.intro (hsg _) (Exists.intro p (And.intro hixp ?_)); cbv
              refine And.intro (hsg _) (Exists.intro cs3 (And.intro (hyes hsn) ?_)); cbv
              exact hfin _ ⟨rfl, trivial⟩ ⟨rfl, rfl, rfl, rfl, rfl, rfl, rfl, rfl, trivial⟩
            · have := hno hsn
              rw [← this]
              exact hfin _ ⟨rfl, trivial⟩ ⟨rfl, rfl, rfl, rfl, rfl, rfl, rfl, rfl, trivial⟩
          · have := hno hsn
            rw [← this]
            exact hfin _ ⟨rfl, trivial⟩ ⟨rfl, rfl, rfl, rfl, rfl, rfl, rfl, rfl, trivial⟩
        · rename_i hz
          have hk3 : ¬ j3 < l.length := by have hz := hlt3.symm.trans hz; simpa using hz
          have hcN : cs2 = CS (p + 1) := by
            rw [hcs2, hC1, hCS]; dsimp only
            refine rowA_congr fun q hq => ?_
            by_cases h1 : q < p
            · rw [if_pos h1, if_pos (by omega)]
            · rw [if_neg h1]
              by_cases h2 : q = p
              · rw [if_pos h2, if_pos (by omega), h2, hSS, staleS, hRr, List.take_of_length_le (by omega)]
              · rw [if_neg h2, if_neg (by omega)]
          refine hR2 _ _ ⟨rfl, ?_⟩
          have hb : A.bnot true = false := by subst hA; rfl
          refine SGo_run hA ⟨[], [], [], []⟩ .nil .nil 200 fun T TD hT hTD => ?_
          cbv
          split <;> cbv
          · rename_i hq; exact Bool.noConfusion (hq.symm.trans hb)
          have hq1 : A.add .i64 iq 1 = iLen (Q j + (k + 1)) := by
            subst hA; rw [hiq]; rw [← Nat.add_assoc, ← hp]; exact add_one (N := 1000) rfl (by omega) (by omega)
          refine hB2 () _ _ hk1' trivial ⟨congrArg I hq1, congrArg I (hadd2 _ hk1' (by omega)), trivial⟩ ⟨rfl, rfl, rfl, rfl, rfl, rfl, rfl, trivial⟩ (.inr ⟨⟨[.own 0 (rcC r)], ?_⟩, by simp, by simp [ltG, AV.lt, AV.ltL, keepS, look], ?_⟩)
          · rw [← Nat.add_assoc, ← hp, ← hcN]; rfl
          · simp [ltH, AObj.lt, AV.lt, AV.ltL, hxl, hwl, hzl, hll, hcl]
    · rename_i hz
      have hk1' : ¬ k < r.lg.toNat := by have hz := hlt2.symm.trans hz; simpa using hz
      refine hB () _ _ hk1 trivial ⟨congrArg I (by rw [hiq, hq1, hp, show k = r.lg.toNat by omega]), congrArg I (hadd _ hk1 (by have := ho.n2; omega)), trivial⟩ ⟨rfl, rfl, rfl, rfl, trivial⟩ (.inr ⟨⟨[.own 0 (rcC r)], ?_⟩, by simp, by simp [ltG, AV.lt, AV.ltL, keepS, look], ?_⟩)
      · rw [hq1, show r.lg.toNat = k by omega, ← hp]; rfl
      · simp [ltH, AObj.lt, AV.lt, AV.ltL, hxl, hwl, hzl, hll, hcl]
  · rename_i hk0
    have hk1 : ¬ j < rs.length := by have hz := hlt.symm.trans hk0; simpa using hz
    clear hk0
    refine hRR _ _ (RetP.same (vs := []) rfl rfl ⟨rfl, ?_⟩)
    have hQj := hQe j (by omega)
    rw [hQj, ← hN]
    refine SGo_run hA ⟨[], [], [], []⟩ .nil .nil 200 fun T TD hT hTD => ?_
    cbv
    exact hend _ _ _ _ _
def eStale : List AV → Option ((AV → Prop) → Prop)
  | [.agg [.vs 5 xs, .lit (.int .i64 a), .lit (.int .i64 b), .lit (.int .i64 c), .vs 1 ws, .vs 5 zs], .vs 5 ys, .lit (.int .i64 t)] =>
    some fun K => ∃ (rs : List Rch) (l : List Lk), GrIs rs xs ws zs ∧ ys = l.map lkV ∧ RoadOk rs ∧ SgtOk a b c ∧ l.length ≤ 1000000 ∧ (∀ x ∈ l, LkOk (sumLg rs) x) ∧ (0 ≤ t ∧ t ≤ 10000) ∧ ∀ zs, zs = (staleL (plc rs) a b c l t).map B → K (.vs 1 zs)
  | _ => none
theorem eStale_ok : ∀ args pt, eStale args = some pt → ∀ (H : AHeap) (Kk : AV → AHeap → Prop), pt (fun r => Kk r H) → ACalls Tryd.prog 41 args H Kk := by
  intro args pt h H Kk hk
  unfold eStale at h
  split at h
  · cases h
    obtain ⟨rs, l, ⟨rfl, rfl, rfl⟩, rfl, h1, h2, h3, h4, h5, h6⟩ := hk
    exact p41 _ _ _ _ _ _ h1 h2 h3 h4 h5 H (h6 _ rfl)
  · cases h
end Go.Sas
namespace Go.Sas
open Go.Proofs
set_option maxRecDepth 100000
theorem p45 (f t v : Int) (n : Nat) (cs : List AV) (hl : cs.length = n * 3) (hn : n ≤ 1000000) {Kk : AV → AHeap → Prop} (h : Kk (.tup []) (if v ≠ 0 then [.own 0 [.ms 3 1 (n + 1) 0 (n + 1)], .own (n + 1) (cs ++ [I f, I t, I v])] else [.own 0 [.ms 3 1 n 0 n], .own n cs])) : ACalls Tryd.prog 45 [I f, I t, I v, .mp 0 0 0] [.own 0 [.ms 3 1 n 0 n], .own n cs] Kk := by
  obtain ⟨A, hA⟩ : ∃ A, A = std := ⟨_, rfl⟩
  have hsg : ∀ g, A.sg g g := by subst hA; exact fun _ => rfl
  have hne : A.ne v 0 = decide (v ≠ 0) := by subst hA; simp only [std, iNe]; rw [Bool.eq_iff_iff]; simp
  obtain ⟨cs2, hcs2⟩ : ∃ x, x = cs ++ [I f, I t, I v] := ⟨_, rfl⟩
  rw [← hcs2] at h
  have happ : A.app 3 3 24 cs 0 n [.agg [I f, I t, I v]] cs2 (n + 1) := by subst hA; rw [hcs2]; exact app_one hl rfl (by omega)
  refine go45 rfl ?_
  refine AGo_opq fun RR hRR => ?_
  refine SGo_run hA ⟨[1], [], [], []⟩ .nil .nil 200 fun T TD hT hTD => ?_
  cbv
  split <;> cbv
  · rename_i hz
    have hz := of_decide_eq_true (hne.symm.trans hz)
    rw [if_pos hz] at h
    refine And.intro (hsg _) (Exists.intro cs2 (Exists.intro (n + 1) (And.intro happ (And.intro rfl ?_))))
    cbv
    exact hRR _ _ (RetP.same (vs := []) rfl rfl h)
  · rename_i hz
    have hz := of_decide_eq_false (hne.symm.trans hz)
    rw [if_neg hz] at h
    exact hRR _ _ (RetP.same (vs := []) rfl rfl h)
theorem iEq_dec (x y : Int) : iEq x y = decide (x = y) := by unfold iEq; rw [Bool.eq_iff_iff]; simp
def eClo : List AV → AHeap → Option PT
  | [.lit (.int .i64 f), .lit (.int .i64 t), .lit (.int .i64 v), .mp 0 0 0], [.own 0 [.ms 3 1 n 0 n'], .own n'' cs] => some fun K => ∃ k : Nat, n = k ∧ n' = k ∧ n'' = k ∧ cs.length = k * 3 ∧ k ≤ 1000000 ∧ (v ≠ 0 → ∀ cs2, cs2 = cs ++ [I f, I t, I v] → K (.tup []) [.own 0 [.ms 3 1 (k + 1) 0 (k + 1)], .own (k + 1) cs2]) ∧ (v = 0 → K (.tup []) [.own 0 [.ms 3 1 k 0 k], .own k cs])
  | _, _ => none
theorem eClo_ok : ∀ args H pt, eClo args H = some pt → ∀ (Kk : AV → AHeap → Prop), pt Kk → ACalls Tryd.prog 45 args H Kk := by
  intro args H pt h Kk hk
  unfold eClo at h
  split at h
  · cases h
    obtain ⟨k, rfl, rfl, rfl, h1, h2, h3, h4⟩ := hk
    refine p45 _ _ _ _ _ h1 h2 ?_
    split
    · rename_i h0; exact h3 h0 _ rfl
    · rename_i h0; exact h4 (by omega)
  · cases h
abbrev cloC (x : Nat × Nat × Int) : List AV := [I (iLen x.1), I (iLen x.2.1), I x.2.2]
def cloS (V : Nat → Int) (n : Nat) : List (Nat × Nat × Int) := (runsN V n).filter fun x => decide (x.2.2 ≠ 0)
theorem p36_73 (V : Nat → Int) (N : Nat) (hN : N ≤ 1000) {Kk : AV → AHeap → Prop} (h : Kk (.tup []) [.own 0 [.ms 3 1 (cloS V N).length 0 (cloS V N).length], .own (cloS V N).length ((cloS V N).flatMap cloC)]) :
    ACalls Tryd.prog 36 [.vs 1 (((List.range N).map V).map I), .fn 45 [.mp 0 0 0]] [.own 0 [.ms 3 1 0 0 0], .own 0 []] Kk := by
  obtain ⟨xs, hxs⟩ : ∃ xs, xs = ((List.range N).map V).map I := ⟨_, rfl⟩
  rw [← hxs]
  have hget : ∀ p, p < N → ((List.range N).map V)[p]? = some (V p) := fun p hp => by simp [hp]
  obtain ⟨A, hA⟩ : ∃ A, A = std := ⟨_, rfl⟩
  have hsg : ∀ g, A.sg g g := by subst hA; exact fun _ => rfl
  have hv : A.vlen xs = iLen N := by subst hA; simp [std, hxs]
  obtain ⟨G, hG⟩ : ∃ G : List (Nat × Nat × Int) → AHeap, G = fun l => [.own 0 [.ms 3 1 l.length 0 l.length], .own l.length (l.flatMap cloC)] := ⟨_, rfl⟩
  obtain ⟨sel, hsel⟩ : ∃ f : List (Nat × Nat × Int) → List (Nat × Nat × Int), f = fun l => l.filter fun x => decide (x.2.2 ≠ 0) := ⟨_, rfl⟩
  have hs0 : (sel []).length = 0 ∧ (sel []).flatMap cloC = [] := by rw [hsel]; exact ⟨rfl, rfl⟩
  have hs1 : ∀ l f t v, v ≠ 0 → sel (l ++ [(f, t, v)]) = sel l ++ [(f, t, v)] := by
    intro l f t v hv0
    rw [hsel]; dsimp only
    rw [List.filter_append]; congr 1
    simp only [List.filter_cons, List.filter_nil]; rw [if_pos (by simpa using hv0)]
  have hs2 : ∀ l f t v, ¬ v ≠ 0 → sel (l ++ [(f, t, v)]) = sel l := by
    intro l f t v hv0
    rw [hsel]; dsimp only
    rw [List.filter_append]
    simp only [List.filter_cons, List.filter_nil]; rw [if_neg (by simpa using hv0), List.append_nil]
  have hsl : ∀ l, (sel l).length ≤ l.length := fun l => by rw [hsel]; exact List.length_filter_le _ _
  have hss : ∀ n, sel (runsN V n) = cloS V n := fun n => by rw [hsel]; rfl
  clear hsel
  refine go36 rfl ?_
  refine AGo_opq fun RR hRR => ?_
  refine SGo_run hA ⟨[], [], [], []⟩ .nil .nil 200 fun T TD hT hTD => ?_
  cbv
  rw [hT]
  refine AGo_whileE (σ := Nat) [0, 1] (fun f => N - f) (fun f => f ≤ N ∧ (f = 0 ∨ f = N ∨ V (f - 1) ≠ V f)) (fun f => [(4, I (iLen f))]) (fun f => G (sel (runsN V f))) 0 ⟨Nat.zero_le _, .inl rfl⟩ ⟨rfl, trivial⟩ (.inl (by rw [hG]; dsimp only; rw [show runsN V 0 = [] from rfl, hs0.1, hs0.2])) fun f hP Bk hB => ?_
  obtain ⟨hf, hP⟩ := hP
  obtain ⟨iq, hiq⟩ : ∃ q, q = iLen f := ⟨_, rfl⟩
  rw [← hiq]
  obtain ⟨L, hL⟩ : ∃ L, L = sel (runsN V f) := ⟨_, rfl⟩
  rw [← hL]
  have hLl : L.length ≤ f := by rw [hL]; exact Nat.le_trans (hsl _) runsN_len
  obtain ⟨n, hn⟩ : ∃ n, n = L.length := ⟨_, rfl⟩
  obtain ⟨cs, hcs⟩ : ∃ x, x = L.flatMap cloC := ⟨_, rfl⟩
  have hcl : cs.length = n * 3 := by rw [hcs, hn, len_flat (k := 3) (fun _ => rfl)]
  have hGL : G L = [.own 0 [.ms 3 1 n 0 n], .own n cs] := by rw [hG, hn, hcs]
  rw [hGL]
  have hlt : A.lt iq (A.vlen xs) = decide (f < N) := by rw [hv]; subst hA; simp only [std, iLt]; rw [decide_eq_decide, hiq]; unfold iLen; omega
  refine SGo_run hA ⟨[], [], [], []⟩ .nil .nil 200 fun T TD hT hTD => ?_
  cbv
  split <;> cbv
  · rename_i hz
    have hf1 : f < N := by have hz := hlt.symm.trans hz; simpa using hz
    rw [hT]
    refine AGo_whileE (σ := Nat) [0, 1, 4] (fun t => N - t) (fun t => f ≤ t ∧ t < N ∧ runsN V (t + 1) = runsN V f ++ [(f, t, V f)]) (fun t => [(5, I (iLen t))]) (fun t => [.own 0 [.ms 3 1 n 0 n], .own n cs]) f ⟨Nat.le_refl _, hf1, runsN_new (by rcases hP with h | h | h <;> first | exact .inl h | omega | exact .inr h)⟩ ⟨congrArg I hiq, trivial⟩ (.inl rfl) fun t hP2 Bk2 hB2 => ?_
    obtain ⟨q1, q2, q3⟩ := hP2
    obtain ⟨it, hit⟩ : ∃ q, q = iLen t := ⟨_, rfl⟩
    have hVt : V t = V f := by
      obtain ⟨l2, f2, h5, _⟩ := runsN_last (V := V) (n := t)
      rw [q3] at h5
      have := congrArg List.getLast? h5
      simp only [List.getLast?_append, List.getLast?_singleton, Option.some_or, Option.some.injEq, Prod.mk.injEq] at this
      exact this.2.2.symm
    rw [← hit]
    have hadd : A.add .i64 it 1 = iLen (t + 1) := by subst hA; exact add_one (N := 1000) hit (by omega) (by omega)
    have hlt2 : A.lt (A.add .i64 it 1) (A.vlen xs) = decide (t + 1 < N) := by rw [hv, hadd]; subst hA; simp only [std, iLt]; rw [decide_eq_decide]; unfold iLen; omega
    refine SGo_run hA ⟨[], [], [], (45, eClo) :: []⟩ .nil (.cons eClo_ok .nil) 200 fun T TD hT hTD => ?_
    cbv
    split <;> cbv
    · rename_i hz
      have ht1 : t + 1 < N := by have hz := hlt2.symm.trans hz; simpa using hz
      have hix1 : A.ix 1 1 xs (A.add .i64 it 1) [I (V (t + 1))] := by rw [hadd]; subst hA; exact ix_map hxs rfl (hget _ ht1) rfl
      have hix2 : A.ix 1 1 xs iq [I (V f)] := by subst hA; exact ix_map hxs hiq (hget _ hf1) rfl
      have heq : A.eq (V (t + 1)) (V f) = decide (V (t + 1) = V f) := by subst hA; exact iEq_dec _ _
      obtain ⟨v1, hv1⟩ : ∃ v, v = V (t + 1) := ⟨_, rfl⟩
      obtain ⟨v2, hv2⟩ : ∃ v, v = V f := ⟨_, rfl⟩
      rw [← hv1] at hix1 heq
      rw [← hv2] at hix2 heq q3
      refine Exists.intro _ (And.intro hix1 ?_); cbv
      refine Exists.intro _ (And.intro hix2 ?_); cbv
      split <;> cbv
      · rename_i hz
        have hz := of_decide_eq_true (heq.symm.trans hz)
        exact hB2 (t + 1) _ _ (by omega) ⟨by omega, ht1, by rw [← hv2]; exact runsN_more q3 (hz.symm.trans hv1)⟩ ⟨congrArg I hadd, trivial⟩ ⟨rfl, rfl, rfl, trivial⟩ (.inl rfl)
      · rename_i hz
        have hz := of_decide_eq_false (heq.symm.trans hz)
        have hnx : t + 1 = 0 ∨ t + 1 = N ∨ V (t + 1 - 1) ≠ V (t + 1) := .inr (.inr (by rw [Nat.add_sub_cancel, hVt, ← hv1, ← hv2]; exact Ne.symm hz))
        refine Exists.intro _ (And.intro hix2 ?_); cbv
        refine Exists.intro n (And.intro rfl (And.intro rfl (And.intro rfl (And.intro hcl (And.intro (by omega) (And.intro ?_ ?_))))))
        · intro hv0 cs3 hcs3; cbv
          have hLn : sel (runsN V (t + 1)) = L ++ [(f, t, v2)] := by rw [q3, hL]; exact hs1 _ _ _ _ hv0
          refine hB (t + 1) _ _ (by omega) ⟨by omega, hnx⟩ ⟨congrArg I hadd, trivial⟩ ⟨rfl, rfl, trivial⟩ (.inl ?_)
          rw [hLn, hG]; dsimp only
          rw [List.length_append, List.flatMap_append, ← hn, ← hcs, hcs3, hiq, hit]; rfl
        · intro hv0; cbv
          have hLn : sel (runsN V (t + 1)) = L := by rw [q3, hL]; exact hs2 _ _ _ _ (fun h => h hv0)
          refine hB (t + 1) _ _ (by omega) ⟨by omega, hnx⟩ ⟨congrArg I hadd, trivial⟩ ⟨rfl, rfl, trivial⟩ (.inl ?_)
          rw [hLn, hG]; dsimp only
          rw [← hn, ← hcs]
    · rename_i hz
      have ht1 : ¬ t + 1 < N := by have hz := hlt2.symm.trans hz; simpa using hz
      have hnx : t + 1 = 0 ∨ t + 1 = N ∨ V (t + 1 - 1) ≠ V (t + 1) := .inr (.inl (by omega))
      have hix2 : A.ix 1 1 xs iq [I (V f)] := by subst hA; exact ix_map hxs hiq (hget _ hf1) rfl
      obtain ⟨v2, hv2⟩ : ∃ v, v = V f := ⟨_, rfl⟩
      rw [← hv2] at hix2 q3
      refine Exists.intro _ (And.intro hix2 ?_); cbv
      refine Exists.intro n (And.intro rfl (And.intro rfl (And.intro rfl (And.intro hcl (And.intro (by omega) (And.intro ?_ ?_))))))
      · intro hv0 cs3 hcs3; cbv
        have hLn : sel (runsN V (t + 1)) = L ++ [(f, t, v2)] := by rw [q3, hL]; exact hs1 _ _ _ _ hv0
        refine hB (t + 1) _ _ (by omega) ⟨by omega, hnx⟩ ⟨congrArg I hadd, trivial⟩ ⟨rfl, rfl, trivial⟩ (.inl ?_)
        rw [hLn, hG]; dsimp only
        rw [List.length_append, List.flatMap_append, ← hn, ← hcs, hcs3, hiq, hit]; rfl
      · intro hv0; cbv
        have hLn : sel (runsN V (t + 1)) = L := by rw [q3, hL]; exact hs2 _ _ _ _ (fun h => h hv0)
        refine hB (t + 1) _ _ (by omega) ⟨by omega, hnx⟩ ⟨congrArg I hadd, trivial⟩ ⟨rfl, rfl, trivial⟩ (.inl ?_)
        rw [hLn, hG]; dsimp only
        rw [← hn, ← hcs]
  · rename_i hz
    have hf1 : ¬ f < N := by have hz := hlt.symm.trans hz; simpa using hz
    refine hRR _ _ (RetP.same (vs := []) rfl rfl ?_)
    rw [hn, hcs, hL, hss, show f = N by omega]
    exact h
def eJoinC : List AV → AHeap → Option PT
  | [.vs 1 xs, .fn 45 [.mp i 0 0]], H => match H[i]? with
    | some (.own 0 [.ms 3 j 0 0 0]) => match H[j]? with
      | some (.own 0 []) => some fun K => ∃ (V : Nat → Int) (N : Nat), xs = ((List.range N).map V).map I ∧ N ≤ 1000 ∧ i ≠ j ∧ ∀ n cs, n = (cloS V N).length → cs = (cloS V N).flatMap cloC → K (.tup []) ((H.set i (.own 0 [.ms 3 j n 0 n])).set j (.own n cs))
      | _ => none
    | _ => none
  | _, _ => none
theorem eJoinC_ok : ∀ args H pt, eJoinC args H = some pt → ∀ (Kk : AV → AHeap → Prop), pt Kk → ACalls Tryd.prog 36 args H Kk := by
  intro args H pt h Kk hk
  unfold eJoinC at h
  split at h
  · rename_i xs i
    split at h
    · rename_i j hX
      split at h
      · rename_i hY
        cases h
        obtain ⟨V, N, rfl, hN, hij, hk⟩ := hk
        have hnl : AV.nidL (((List.range N).map V).map I) = true := nidL_map (g := I) (fun _ => rfl) _
        obtain ⟨n, hn⟩ : ∃ n, n = (cloS V N).length := ⟨_, rfl⟩
        obtain ⟨cs, hcs⟩ : ∃ cs, cs = (cloS V N).flatMap cloC := ⟨_, rfl⟩
        have hcn : AV.nidL cs = true := by rw [hcs]; exact nidL_flat (fun _ => rfl) _
        have hk := hk n cs hn hcs
        have h1 := p36_73 V N hN (Kk := fun r H' => r = .tup [] ∧ H' = [.own 0 [.ms 3 1 n 0 n], .own n cs]) (by rw [hn, hcs]; exact ⟨rfl, rfl⟩)
        have h2 := ACalls.frame (H := H) [i, j] h1 (by simp [hij]) rfl (by simp [AV.ltL, AV.lt, AV.ltL_nid hnl]) (by simp [ltH, AObj.lt, AV.ltL, AV.lt]) (fun k X hX2 => by
          match k with
          | 0 => simp at hX2; subst hX2; simpa [at_, AObj.ren, AV.renL, AV.ren] using hX
          | 1 => simp at hX2; subst hX2; simpa [at_, AObj.ren, AV.renL, AV.ren] using hY
          | k + 2 => simp at hX2)
        rw [show AV.renL [i, j] [.vs 1 (((List.range N).map V).map I), .fn 45 [.mp 0 0 0]] = [.vs 1 (((List.range N).map V).map I), .fn 45 [.mp i 0 0]] by simp [AV.renL, AV.ren, at_, AV.renL_nid hnl]] at h2
        refine h2.mono fun r H' hx => ?_
        obtain ⟨r0, H1, ⟨rfl, rfl⟩, _, rfl, rfl⟩ := hx
        have hre : ∀ m0, AV.renL m0 cs = cs := fun m0 => AV.renL_nid hcn
        simpa [merge, updL, AObj.ren, AV.renL, AV.ren, more, at_, hre] using hk
      · cases h
    · cases h
  · cases h
end Go.Sas
