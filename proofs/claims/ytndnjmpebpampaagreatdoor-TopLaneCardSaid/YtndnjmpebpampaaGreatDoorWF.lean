/-
A truck's way, minute by minute until it has surely arrived: contracts of the program's functions.
A truck of the program in a minute: where it may be: contracts.
Where a truck of the program may be on the lane, and whether two are too near: contracts.
Conditions: none.
-/
import Derived.Test.YtndnjmpebpampaaGreatDoorWE
import Derived.Test.YtndnjmpebpampaaGreatDoorWC
import Derived.Test.YtndnjmpebpampaaGreatDoorP6
import Derived.Test.YtndnjmpebpampaaGreatDoorP7
set_option linter.unusedVariables false
set_option linter.unusedSimpArgs false
namespace Go.Sas
open Go.Proofs
set_option maxRecDepth 100000
theorem least_of {P : Nat → Prop} : ∀ n, P n → ∃ k, P k ∧ ∀ j, j < k → ¬ P j := by
  intro n
  induction n using Nat.strongRecOn with
  | ind n ih =>
    intro hn
    by_cases h : ∃ j, j < n ∧ P j
    · obtain ⟨j, h1, h2⟩ := h; exact ih j h1 h2
    · exact ⟨n, hn, fun j hj hp => h ⟨j, hj, hp⟩⟩
theorem arr_ex {L gap : Int} {t : Tck} (hV : TckV L gap t) (hL : 1 ≤ L) : ∃ n, Arr L t n := by
  obtain ⟨k, h1, h2⟩ := least_of (P := fun n => (waysT L t n).1 = L) 11001 (waysT_end hV hL (Nat.le_refl _))
  refine ⟨k, h1, fun j hj => ?_⟩
  have h3 := h2 j hj
  have h4 := waysT_bnd hV hL j
  have h5 := stopT_bnd hV hL j
  have h6 : (waysT L t j).1 ≠ L := h3
  omega
/-- the minute of arrival -/
noncomputable def arrN (L : Int) (t : Tck) : Nat := (open Classical in if h : ∃ n, Arr L t n then Classical.choose h else 0)
theorem arrN_arr {L gap : Int} {t : Tck} (hV : TckV L gap t) (hL : 1 ≤ L) : Arr L t (arrN L t) := by
  unfold arrN
  rw [dif_pos (arr_ex hV hL)]
  exact Classical.choose_spec (arr_ex hV hL)
theorem arrN_le {L gap : Int} {t : Tck} (hV : TckV L gap t) (hL : 1 ≤ L) : arrN L t ≤ 11001 := by
  have h := arrN_arr hV hL
  rcases Nat.lt_or_ge 11001 (arrN L t) with h1 | h1
  · have := h.2 _ h1; have := waysT_end hV hL (Nat.le_refl 11001); omega
  · exact h1
theorem arrN_st {L gap : Int} {t : Tck} (hV : TckV L gap t) (hL : 1 ≤ L) : t.st < (arrN L t : Int) := by
  have h := arrN_arr hV hL
  rcases Int.lt_or_le t.st (arrN L t : Int) with h1 | h1
  · exact h1
  · have h2 := h.1; rw [waysT_wait h1] at h2; simp at h2; omega
/-- from the start on -/
def goL (L : Int) (t : Tck) (n : Nat) : List (Int × Int) := (List.range n).map fun k => waysT L t (t.st.toNat + k)
theorem goL_succ {L : Int} {t : Tck} {n : Nat} : goL L t (n + 1) = goL L t n ++ [waysT L t (t.st.toNat + n)] := by unfold goL; rw [List.range_succ, List.map_append]; rfl
theorem goL_len {L : Int} {t : Tck} {n : Nat} : (goL L t n).length = n := by simp [goL]
noncomputable def gonN (L : Int) (t : Tck) : Nat := arrN L t - t.st.toNat + 1
noncomputable def gonL (L : Int) (t : Tck) : List (Int × Int) := goL L t (gonN L t)
noncomputable abbrev tkC (L : Int) (t : Tck) : List AV := [I t.way, I t.st, I t.lo, I t.hi, .vs 2 (t.hs.map hdV), I L, .vs 2 ((gonL L t).map sp2)]
noncomputable abbrev tkT (L : Int) (t : Tck) : AV := .agg (tkC L t)
theorem goT_step {L gap : Int} {t : Tck} (hV : TckV L gap t) (j : Nat) : waysT L t (t.st.toNat + (j + 1)) = (min ((waysT L t (t.st.toNat + j)).1 + t.lo) (stopP L t.way (t.st + (j : Int)) t.hs), min ((waysT L t (t.st.toNat + j)).2 + t.hi) (stopP L t.way (t.st + (j : Int)) t.hs)) := by
  have h0 := hV.st
  rw [show t.st.toNat + (j + 1) = t.st.toNat + j + 1 by omega]
  simp only [waysT]
  rw [if_pos (by omega)]
  simp only [nxtT, stopT]
  rw [show ((t.st.toNat + j : Nat) : Int) = t.st + (j : Int) by omega]
def eMin : List AV → AHeap → Option PT
  | [.agg [.lit (.int .i64 w), .lit (.int .i64 s), .lit (.int .i64 lo), .lit (.int .i64 hi), .vs 2 ys, .lit (.int .i64 L)]], H => some fun K => ∃ hs : List Hld, ys = hs.map hdV ∧ K (.fn 88 [.mp H.length 0 0]) (H ++ [.own 0 [I w, I s, I lo, I hi, .vs 2 ys, I L]])
  | _, _ => none
theorem nidL_hd : ∀ (hs : List Hld), AV.nidL (hs.map hdV) = true
  | [] => rfl
  | r :: rs => by show (AV.nid _ && AV.nidL (rs.map hdV)) = true; rw [nidL_hd rs]; rfl
theorem p79 (w s lo hi L : Int) (hs : List Hld) (H : AHeap) {Kk : AV → AHeap → Prop} (h : Kk (.fn 88 [.mp H.length 0 0]) (H ++ [.own 0 [I w, I s, I lo, I hi, .vs 2 (hs.map hdV), I L]])) : ACalls Tryz.prog 79 [rdV w s lo hi (.vs 2 (hs.map hdV)) L] H Kk := by
  have hnl := nidL_hd hs
  have h1 : ACalls Tryz.prog 79 [rdV w s lo hi (.vs 2 (hs.map hdV)) L] [] fun r H' => r = .fn 88 [.mp 0 0 0] ∧ H' = [.own 0 [I w, I s, I lo, I hi, .vs 2 (hs.map hdV), I L]] := by
    clear h Kk
    obtain ⟨xs, hxs⟩ : ∃ xs, xs = hs.map hdV := ⟨_, rfl⟩
    rw [← hxs]
    obtain ⟨Kk, hKk⟩ : ∃ K : AV → AHeap → Prop, K = fun r H' => r = .fn 88 [.mp 0 0 0] ∧ H' = [.own 0 [I w, I s, I lo, I hi, .vs 2 xs, I L]] := ⟨_, rfl⟩
    rw [← hKk]
    obtain ⟨A, hA⟩ : ∃ A, A = std := ⟨_, rfl⟩
    refine go79 rfl (SGo_run hA ⟨[], [], [], []⟩ .nil .nil 200 fun T TD hT hTD => ?_)
    cbv
    rw [hKk]; exact ⟨rfl, rfl⟩
  have hn2 : (rdV w s lo hi (.vs 2 (hs.map hdV)) L).nid = true := by simp [AV.nid, AV.nidL, hnl]
  have h2 := ACalls.frame (H := H) [] h1 List.nodup_nil rfl (AV.ltL_nid (by simp only [AV.nidL, hn2, Bool.and_true])) (by simp [ltH]) (fun k X hk => by simp at hk)
  rw [AV.renL_nid (by simp only [AV.nidL, hn2, Bool.and_true])] at h2
  refine h2.mono fun r H' hx => ?_
  obtain ⟨r0, H1, ⟨rfl, rfl⟩, _, rfl, rfl⟩ := hx
  have hren : ∀ m0, AV.renL m0 (hs.map hdV) = hs.map hdV := fun m0 => AV.renL_nid hnl
  simpa [merge, updL, more, AV.ren, AV.renL, at_, AObj.ren, List.range', hren, fnV, fnI, fnA] using h
theorem eMin_ok : ∀ args H pt, eMin args H = some pt → ∀ (Kk : AV → AHeap → Prop), pt Kk → ACalls Tryz.prog 79 args H Kk := by
  intro args H pt h Kk hk
  unfold eMin at h
  split at h
  · cases h
    obtain ⟨rs, rfl, hk⟩ := hk
    exact p79 _ _ _ _ _ _ H hk
  · cases h
abbrev tkH (w s lo hi L : Int) (ys : List AV) (p : Nat) (cs : List AV) : AHeap :=
  [.own 0 [I w, I s, I lo, I hi, .vs 2 ys, I L], .own 0 [I 0, I 0, I 0, I 0, .lit (.slice none 0 0), I 0, .lit (.slice none 0 0)], .own 0 [I w, I s, I lo, I hi, .vs 2 ys, I L, .ms 2 4 p 0 p], .own 0 [I w, I s, I lo, I hi, .vs 2 ys, I L], .own p cs]
theorem RetP.two {rs : List ARes} {m : Nat} {Kk : AV → AHeap → Prop} {e : Env} {H : AHeap} {vs : List AV} (h1 : aResL e H rs = some vs) (h : Kk (aTup vs) H) (h' : Kk (aTup vs) (H.take m)) : RetP rs m Kk e H := by
  unfold RetP
  rw [h1]
  simp only
  split
  · exact h'
  · exact h
set_option maxHeartbeats 4000000 in
theorem p68 (L gp : Int) (t : Tck) (hV : TckV L gp t) (hL : 1 ≤ L ∧ L ≤ 100000) (H : AHeap) {Kk : AV → AHeap → Prop} (h : Kk (tkT L t) H) : ACalls Tryz.prog 68 [rdV t.way t.st t.lo t.hi (.vs 2 (t.hs.map hdV)) L] H Kk := by
  refine (fun q => pureF (by rfl) (by rfl) q H h) ?_
  clear h
  intro Kk h
  have hS := hV.hldS hL.2
  have hl8 := hV.hs.n
  have hlo := hV.lo
  have hhi := hV.hi
  have hst := hV.st
  have hstep := goT_step hV
  have hbn := fun m => waysT_bnd hV hL.1 m
  have hsb := fun m => stopT_bnd hV hL.1 m
  have hA1 := arrN_arr hV hL.1
  have hA2 := arrN_le hV hL.1
  have hA3 := arrN_st hV hL.1
  obtain ⟨GO, hGO⟩ : ∃ f : Nat → List AV, f = fun n => (goL L t n).flatMap sp2C := ⟨_, rfl⟩
  obtain ⟨GN, hGN⟩ : ∃ N, N = gonN L t := ⟨_, rfl⟩
  have hGN1 : GN = arrN L t - t.st.toNat + 1 := hGN
  obtain ⟨XS, hXS⟩ : ∃ X, X = (gonL L t).map sp2 := ⟨_, rfl⟩
  have hXl : XS.length = GN := by rw [hXS, List.length_map, hGN]; exact goL_len
  have hXe : Elems 2 XS (GO GN) := by rw [hXS, hGO, hGN]; exact Elems_sp2 _
  have hXn : AV.nidL XS = true := by rw [hXS]; exact nidL_map (fun _ => rfl) _
  have hGn : ∀ p, AV.nidL (GO p) = true := fun p => by rw [hGO]; exact sp2C_nid _
  have hG0 : GO 0 = [] := by rw [hGO]; rfl
  have hGs : ∀ j, GO (j + 1) = GO j ++ [I (waysT L t (t.st.toNat + j)).1, I (waysT L t (t.st.toNat + j)).2] := fun j => by rw [hGO]; dsimp only; rw [goL_succ, List.flatMap_append]; rfl
  have hGl : ∀ j, (GO j).length = j * 2 := fun j => by rw [hGO]; dsimp only; rw [sp2C_len, goL_len]
  obtain ⟨WY, hWY⟩ : ∃ f : Nat → Int × Int, f = fun j => waysT L t (t.st.toNat + j) := ⟨_, rfl⟩
  have hW0 : WY 0 = (0, 0) := by rw [hWY]; exact waysT_wait (by omega)
  have hWs : ∀ j, WY (j + 1) = (min ((WY j).1 + t.lo) (stopP L t.way (t.st + (j : Int)) t.hs), min ((WY j).2 + t.hi) (stopP L t.way (t.st + (j : Int)) t.hs)) := fun j => by rw [hWY]; exact hstep j
  have hWb : ∀ j, 0 ≤ (WY j).1 ∧ (WY j).1 ≤ (WY j).2 ∧ (WY j).2 ≤ L := fun j => by
    rw [hWY]; have h1 := hbn (t.st.toNat + j); have h2 := hsb ((t.st.toNat + j : Nat) : Int); dsimp only; omega
  have hGw : ∀ j, GO (j + 1) = GO j ++ [I (WY j).1, I (WY j).2] := fun j => by rw [hWY]; exact hGs j
  have hWa : ∀ j, ¬ (WY j).1 < L → (∀ k, k < j → (WY k).1 < L) → j + 1 = GN := fun j h1 h2 => by
    have hb := hWb j
    have h1 : (WY j).1 = L := by omega
    have e : Arr L t (t.st.toNat + j) := by
      refine ⟨by rw [hWY] at h1; exact h1, fun k hk => ?_⟩
      rcases Nat.lt_or_ge k t.st.toNat with h3 | h3
      · rw [waysT_wait (by omega)]; show (0 : Int) < L; omega
      · have := h2 (k - t.st.toNat) (by omega)
        rw [hWY] at this
        dsimp only at this
        rwa [show t.st.toNat + (k - t.st.toNat) = k by omega] at this
    have := e.uniq hA1
    omega
  have hWn : ∀ j, (∀ k, k < j → (WY k).1 < L) → j ≤ 11002 → (WY j).1 < L → j < 11002 := fun j _ hj h3 => by
    rcases Nat.lt_or_ge j 11002 with h4 | h4
    · exact h4
    · rw [hWY] at h3; have := waysT_end hV hL.1 (m := t.st.toNat + j) (by omega); dsimp only at h3; omega
  have hr : tkT L t = .agg [I t.way, I t.st, I t.lo, I t.hi, .vs 2 (t.hs.map hdV), I L, .vs 2 XS] := by rw [hXS]
  rw [hr] at h
  clear hr hGs hGO hWY hXS hGN hstep hbn hsb hA1 hA2 hA3
  obtain ⟨w, s, lo, hi, hs⟩ := t
  dsimp only at hS hl8 hlo hhi hst hWs hGN1 h ⊢
  obtain ⟨ys, hys⟩ : ∃ ys, ys = hs.map hdV := ⟨_, rfl⟩
  have hyn : AV.nidL ys = true := by rw [hys]; exact nidL_hd hs
  rw [← hys] at h ⊢
  obtain ⟨F, hF⟩ : ∃ F, F = Frees 0 Kk := ⟨_, rfl⟩
  rw [← hF]
  obtain ⟨A, hA⟩ : ∃ A, A = std := ⟨_, rfl⟩
  have hsg : ∀ g, A.sg g g := by subst hA; exact fun _ => rfl
  have hll : ∀ x y, A.lt x y = decide (x < y) := by subst hA; intro x y; rfl
  have hmn : ∀ x y, A.min x y = min x y := by subst hA; intro x y; exact iMinE _ _
  refine go68 rfl (SGo_run hA ⟨[], [], [], (79, eMin) :: []⟩ .nil (.cons eMin_ok .nil) 200 fun T TD hT hTD => ?_)
  cbv
  refine Exists.intro hs (And.intro hys ?_); cbv
  rw [hT]
  refine AGo_nilcell 2 6 2 rfl rfl ?_
  refine AGo_range (fid := 88) (caps := [.mp 3 0 0]) rfl rfl [(2, .mp 1 0 0), (3, .mp 2 0 0)] ⟨rfl, rfl, trivial⟩ rfl ?_
  intro lp lb us hY
  have hend : ∀ X0 X1 X2 X3 T1, F (aTup [.agg [I w, I s, I lo, I hi, .vs 2 ys, I L, .ms 2 4 GN 0 GN]]) (X0 :: X1 :: X2 :: X3 :: .own GN (GO GN) :: T1) := by
    intro X0 X1 X2 X3 T1
    rw [hF]
    refine Frees.frz 4 GN 2 XS rfl hXe ?_
    have e5 : AV.frz 4 GN 2 XS (.vs 2 ys) = .vs 2 ys := AV.frz_nid (by simp only [AV.nid])
    have e1 : AV.frz 4 GN 2 XS (.ms 2 4 GN 0 GN) = .vs 2 XS := frz_self hXl
    show Frees 0 Kk (AV.agg [I w, I s, I lo, I hi, AV.frz 4 GN 2 XS (.vs 2 ys), I L, AV.frz 4 GN 2 XS (.ms 2 4 GN 0 GN)]) _
    rw [e5, e1]
    refine Frees.drop0 h ?_
    simp only [AV.nid, AV.nidL]; rfl
  have hyl : ∀ n, AV.ltL n ys := fun n => AV.ltL_nid hyn
  have hGl2 : ∀ p n, AV.ltL n (GO p) := fun p n => AV.ltL_nid (hGn p)
  show ACalls Tryz.prog 88 [.yl 5 0, .mp 3 0 0] (tkH w s lo hi L ys 0 [] ++ [.raw 0 lp [.mp 1 0 0, .mp 2 0 0] us]) _
  rw [show tkH w s lo hi L ys 0 [] = tkH w s lo hi L ys 0 (GO 0) by rw [hG0]]
  refine go88 rfl ?_
  refine AGo_opq fun RR hRR => ?_
  refine SGo_run hA ⟨[4], [], [], []⟩ .nil .nil 200 fun T TD hT hTD => ?_
  cbv
  rw [hT]
  refine AGo_upE [0, 1, 3] 11002 (fun j (_ : Unit) => ∀ k, k < j → (WY k).1 < L) (fun j _ i => [(4, I (s + (j : Int)))]) (fun j _ => tkH w s lo hi L ys j (GO j) ++ [.raw 0 lp [.mp 1 0 0, .mp 2 0 0] us, .own 0 [I (WY j).1, I (WY j).2]]) () (fun k hk => by omega) ⟨congrArg I (show s = s + ((0 : Nat) : Int) by simp), trivial⟩ (.inl (by rw [hW0]; rfl)) fun j _ i hi2 hj hP Bk hB => ?_
  obtain ⟨M, hM⟩ : ∃ M : Int, M = s + ((j : Nat) : Int) := ⟨_, rfl⟩
  have hM3 : ∀ n, n < 11002 → j = n → M = s + (n : Int) ∧ 0 ≤ M ∧ M ≤ 22000 := fun n h1 h2 => by subst h2; rw [hM]; refine ⟨rfl, ?_, ?_⟩ <;> omega
  rw [← hM]
  obtain ⟨⟨g1, g2⟩, hg⟩ : ∃ g, g = WY j := ⟨_, rfl⟩
  have hgs := hGw j
  have hws := hWs j
  have hwb := hWb j
  have hwa := hWa j
  have hwn := hWn j hP hj
  rw [← hg] at hgs hws hwb hwa hwn ⊢
  dsimp only at hgs hws hwb hwa hwn ⊢
  rw [← hM] at hws
  refine SGo_run hA ⟨[4], [], [], []⟩ .nil .nil 200 fun T TD hT hTD => ?_
  cbv
  rw [hT]
  refine AGo_yield (id := 5) (gg := 0) rfl rfl rfl rfl ?_
  show AYields Tryz.prog 5 [I M, .agg [I g1, I g2]] (tkH w s lo hi L ys j (GO j) ++ [.raw 0 lp [.mp 1 0 0, .mp 2 0 0] us, .own 0 [I g1, I g2]]) _
  obtain ⟨HX, hHX⟩ : ∃ HX, HX = tkH w s lo hi L ys j (GO j) ++ [.raw 0 lp [.mp 1 0 0, .mp 2 0 0] us, .own 0 [I g1, I g2], .own 0 [I g1, I g2]] := ⟨_, rfl⟩
  obtain ⟨R1, hR1⟩ : ∃ R1 : Env → AHeap → Prop, R1 = fun e1 H2 => Fits e1 [(2, .mp 1 0 0), (3, .mp 2 0 0), (5, .mp 7 0 0)] ∧ H2 = HX := ⟨_, rfl⟩
  refine hY [I M, .agg [I g1, I g2]] _ _ R1 rfl rfl (fun roo => ?_) (fun roo e1 H2 hr1 => ?_)
  · refine SGo_run hA ⟨[4], [], [], []⟩ .nil .nil 200 fun T TD hT hTD => ?_
    cbv
    rw [hR1]
    exact ⟨⟨rfl, rfl, rfl, trivial⟩, hHX.symm⟩
  · rw [hR1] at hr1
    obtain ⟨hf1, rfl⟩ := hr1
    rw [hHX]
    refine ⟨rfl, ?_⟩
    refine AGo_forget [(2, .mp 1 0 0), (3, .mp 2 0 0), (5, .mp 7 0 0)] _ hf1 (.inl rfl) ?_ (by simp)
    refine AGo_opq fun R2 hR2 => ?_
    obtain ⟨c1, hc1⟩ : ∃ x, x = GO (j + 1) := ⟨_, rfl⟩
    have happ : A.app 2 2 16 (GO j) 0 j [.agg [I g1, I g2]] c1 (j + 1) := by rw [hc1, hgs]; subst hA; exact app_one (hGl j) rfl (by omega)
    refine SGo_run hA ⟨[4], [], [], []⟩ .nil .nil 200 fun T TD hT hTD => ?_
    cbv
    refine And.intro (hsg _) (Exists.intro c1 (Exists.intro (j + 1) (And.intro happ (And.intro rfl ?_)))); cbv
    refine hR2 _ _ ⟨rfl, ?_⟩
    refine SGo_run hA ⟨[4], [], (89, eStop) :: [], []⟩ (.cons eStop_ok .nil) .nil 200 fun T TD hT hTD => ?_
    cbv
    split <;> cbv
    · rename_i hz
      have hz : g1 < L := by simpa using (hll _ _).symm.trans hz
      have hjn := hwn hz
      refine Exists.intro hs (And.intro ⟨hys, ⟨by omega, by omega⟩, hS, by omega⟩ ?_)
      intro q1 hq1; cbv
      have a1 : A.add .i64 g1 lo = g1 + lo := by subst hA; exact iAdd_id (by omega) (by omega)
      have a2 : A.add .i64 g2 hi = g2 + hi := by subst hA; exact iAdd_id (by omega) (by omega)
      have a3 : A.add .i64 M 1 = s + ((j + 1 : Nat) : Int) := by subst hA; obtain ⟨m5, m6, m7⟩ := hM3 j hjn rfl; show iAdd .i64 M 1 = _; rw [iAdd_id (by omega) (by omega), m5, Int.natCast_add, Int.add_assoc]; rfl
      have m1 : A.min (A.add .i64 g1 lo) q1 = (WY (j + 1)).1 := by rw [hmn, a1, hws, hq1]
      have m2 : A.min (A.add .i64 g2 hi) q1 = (WY (j + 1)).2 := by rw [hmn, a2, hws, hq1]
      refine hB () _ _ hjn (fun k hk => ?_) ⟨congrArg I a3, trivial⟩ ⟨rfl, rfl, rfl, trivial⟩ (.inr ⟨⟨[.own 0 [I g1, I g2]], ?_⟩, by simp, by simp [ltG, AV.lt, AV.ltL, keepS, look], ?_⟩)
      · rcases Nat.lt_or_ge k j with h1 | h1
        · exact hP k h1
        · rw [show k = j by omega, ← hg]; exact hz
      · rw [← m1, ← m2, ← hc1]; rfl
      · simp [ltH, AObj.lt, AV.lt, AV.ltL, hyl, hGl2]
    · rename_i hz
      have hz : ¬ g1 < L := by simpa using (hll _ _).symm.trans hz
      have hjg := hwa hz hP
      have hgc : GO GN = c1 := by rw [hc1, hjg]
      rw [← hgc]
      refine hRR _ _ (RetP.two (vs := []) rfl ⟨rfl, ?_⟩ ⟨rfl, ?_⟩)
      · refine SGo_run hA ⟨[4], [], [], []⟩ .nil .nil 200 fun T TD hT hTD => ?_
        cbv
        rw [show Nat.succ j = GN from hjg]
        exact hend _ _ _ _ _
      · refine SGo_run hA ⟨[4], [], [], []⟩ .nil .nil 200 fun T TD hT hTD => ?_
        cbv
        rw [show Nat.succ j = GN from hjg]
        exact hend _ _ _ _ _
end Go.Sas
namespace Go.Sas
open Go.Proofs
set_option maxRecDepth 100000
theorem waysT_full {L gap : Int} {t : Tck} (hV : TckV L gap t) (hL : 1 ≤ L) {m : Nat} (h : (waysT L t m).1 = L) : waysT L t m = (L, L) := by
  have h1 := waysT_bnd hV hL m
  have h2 := stopT_bnd hV hL m
  refine Prod.ext h ?_
  show (waysT L t m).2 = L
  omega
theorem gon_at {L gap : Int} {t : Tck} (hV : TckV L gap t) (hL : 1 ≤ L) {m k : Nat} (hm : t.st ≤ m) (hk : (k : Int) = min ((m : Int) - t.st) ((gonN L t : Int) - 1)) : (gonL L t)[k]? = some (waysT L t m) := by
  have h0 := hV.st
  have h1 := arrN_arr hV hL
  have h3 := arrN_st hV hL
  have hg : gonN L t = arrN L t - t.st.toNat + 1 := rfl
  have hlt : k < gonN L t := by omega
  unfold gonL goL
  rw [List.getElem?_map, List.getElem?_range hlt]
  show some (waysT L t (t.st.toNat + k)) = _
  by_cases hc : m ≤ arrN L t
  · rw [show t.st.toNat + k = m by omega]
  · rw [show t.st.toNat + k = arrN L t by omega]
    have h4 : (waysT L t m).1 = L := by
      have a1 := waysT_up hV hL (show arrN L t ≤ m by omega)
      have a2 := waysT_bnd hV hL m
      have a3 := stopT_bnd hV hL m
      have a4 := h1.1
      omega
    rw [waysT_full hV hL h4, waysT_full hV hL h1.1]
theorem gonN_bnd {L gap : Int} {t : Tck} (hV : TckV L gap t) (hL : 1 ≤ L) : 1 ≤ gonN L t ∧ gonN L t ≤ 11002 := by
  have h2 := arrN_le hV hL
  unfold gonN
  omega
abbrev tkX (w s lo hi L : Int) (ys xs : List AV) : AV := .agg [I w, I s, I lo, I hi, .vs 2 ys, I L, .vs 2 xs]
/-- what is to be known of a track's value -/
structure TrkV (L : Int) (t : Tck) (w s lo hi : Int) (ys xs : List AV) : Prop where
  w : w = t.way
  s : s = t.st
  ys : ys = t.hs.map hdV
  xs : xs = (gonL L t).map sp2
  v : ∃ gp, TckV L gp t
  L : 1 ≤ L ∧ L ≤ 100000
theorem p52 (L : Int) (t : Tck) (w s lo hi : Int) (ys xs : List AV) (hT : TrkV L t w s lo hi ys xs) (H : AHeap) {Kk : AV → AHeap → Prop} (h : Kk (I (iLen (arrN L t))) H) : ACalls Tryz.prog 52 [tkX w s lo hi L ys xs] H Kk := by
  refine (fun q => pureC (by rfl) (by rfl) q H h) ?_
  clear h
  intro Kk h
  obtain ⟨a1, a2, a3, a4, ⟨gp, hV⟩, hL⟩ := hT
  have h1 := gonN_bnd hV hL.1
  have h2 := arrN_st hV hL.1
  have h3 := hV.st
  have hg : gonN L t = arrN L t - t.st.toNat + 1 := rfl
  have hxl : xs.length = gonN L t := by rw [a4, List.length_map]; exact goL_len
  obtain ⟨A, hA⟩ : ∃ A, A = std := ⟨_, rfl⟩
  have hs : A.sub .i64 (A.add .i64 s (A.vlen xs)) 1 = iLen (arrN L t) := by
    subst hA
    show iSub .i64 (iAdd .i64 s (iLen xs.length)) 1 = _
    rw [hxl]
    unfold iLen
    rw [iAdd_id (by omega) (by omega), iSub_id (by omega) (by omega)]
    omega
  refine go52 rfl (SGo_run hA ⟨[], [], [], []⟩ .nil .nil 200 fun T TD hT hTD => ?_)
  cbv
  exact leaf h (congrArg I hs.symm) rfl
theorem p90 (L : Int) (t : Tck) (w s lo hi : Int) (ys xs : List AV) (m : Nat) (hT : TrkV L t w s lo hi ys xs) (hm : s ≤ m ∧ m ≤ 100000) (M : Int) (hM : M = iLen m) (H : AHeap) {Kk : AV → AHeap → Prop} (h : Kk (sp2 (waysT L t m)) H) : ACalls Tryz.prog 90 [tkX w s lo hi L ys xs, I M] H Kk := by
  refine (fun q => pureC (by rfl) (by rfl) q H h) ?_
  clear h
  intro Kk h
  obtain ⟨a1, a2, a3, a4, ⟨gp, hV⟩, hL⟩ := hT
  have h1 := gonN_bnd hV hL.1
  have h3 := hV.st
  have hxl : xs.length = gonN L t := by rw [a4, List.length_map]; exact goL_len
  obtain ⟨k, hk⟩ : ∃ k : Nat, (k : Int) = min ((m : Int) - t.st) ((gonN L t : Int) - 1) := ⟨(min ((m : Int) - t.st) ((gonN L t : Int) - 1)).toNat, by omega⟩
  have hga := gon_at hV hL.1 (by omega) hk
  obtain ⟨⟨g1, g2⟩, hg⟩ : ∃ g, g = waysT L t m := ⟨_, rfl⟩
  rw [← hg] at hga h
  obtain ⟨A, hA⟩ : ∃ A, A = std := ⟨_, rfl⟩
  have hll : ∀ x y, A.lt x y = decide (x < y) := by subst hA; intro x y; rfl
  have hi : A.min (A.sub .i64 M s) (A.sub .i64 (A.vlen xs) 1) = iLen k := by
    subst hA
    show iMin (iSub .i64 M s) (iSub .i64 (iLen xs.length) 1) = _
    rw [hxl, hM]
    unfold iLen
    rw [iSub_id (by omega) (by omega), iSub_id (by omega) (by omega), iMinE]
    omega
  have hix : A.ix 2 2 xs (A.min (A.sub .i64 M s) (A.sub .i64 (A.vlen xs) 1)) [I g1, I g2] := by subst hA; exact ix_map a4 hi hga rfl
  refine go90 rfl (SGo_run hA ⟨[], [], [], []⟩ .nil .nil 200 fun T TD hT hTD => ?_)
  cbv
  split <;> cbv
  · rename_i hz
    exfalso
    have hz : A.lt (A.min (A.sub .i64 M s) (A.sub .i64 (A.vlen xs) 1)) 0 = true := hz
    rw [hi, hll] at hz
    unfold iLen at hz
    simp only [decide_eq_true_eq] at hz
    omega
  · refine Exists.intro _ (And.intro hix ?_); cbv
    exact leaf h rfl rfl
theorem p91 (L : Int) (t : Tck) (w s lo hi : Int) (ys xs : List AV) (x1 x2 : Int) (hT : TrkV L t w s lo hi ys xs) (hx : (0 ≤ x1 ∧ x1 ≤ x2) ∧ x2 ≤ L) (H : AHeap) {Kk : AV → AHeap → Prop} (h : Kk (.agg [I (roadC L t.way (x1, x2)).1, I (roadC L t.way (x1, x2)).2]) H) : ACalls Tryz.prog 91 [tkX w s lo hi L ys xs, .agg [I x1, I x2]] H Kk := by
  refine (fun q => pureC (by rfl) (by rfl) q H h) ?_
  clear h
  intro Kk h
  obtain ⟨a1, a2, a3, a4, ⟨gp, hV⟩, hL⟩ := hT
  obtain ⟨⟨W1, W2⟩, hW⟩ : ∃ W, W = roadC L t.way (x1, x2) := ⟨_, rfl⟩
  rw [← hW] at h
  dsimp only at h
  unfold roadC at hW
  rw [← a1] at hW
  have hw := hV.way
  rw [← a1] at hw
  obtain ⟨A, hA⟩ : ∃ A, A = std := ⟨_, rfl⟩
  have hmn : ∀ x y, A.min x y = min x y := by subst hA; intro x y; exact iMinE _ _
  have hmx : ∀ x y, A.max x y = max x y := by subst hA; intro x y; exact iMaxE _ _
  refine go91 rfl (SGo_run hA ⟨[], [], (67, eAloP) :: [], []⟩ (.cons eAloP_ok .nil) .nil 200 fun T TD hT hTD => ?_)
  cbv
  repeat (first | (refine Exists.intro () (And.intro ⟨by omega, by omega⟩ ?_); intro qq hqq; cbv) | (refine And.intro (by subst hA; simp [std, Keep, SubH, ResK]) ?_; cbv))
  rename_i q1 hq1
  obtain ⟨q2, hq2⟩ : ∃ q, q = qq := ⟨_, rfl⟩
  rw [← hq2] at hqq ⊢
  refine leaf h ?_ rfl
  show AV.agg [I W1, I W2] = AV.agg [I (A.min q1 q2), I (A.max q1 q2)]
  have e1 : A.min q1 q2 = W1 := by
    rw [hmn, hq1, hqq]
    unfold aloC
    rcases hw with hw | hw
    · rw [if_neg (by omega)] at hW; cases hW; rw [if_neg (by omega), if_neg (by omega)]; omega
    · rw [if_pos hw] at hW; cases hW; rw [if_pos hw, if_pos hw]; omega
  have e2 : A.max q1 q2 = W2 := by
    rw [hmx, hq1, hqq]
    unfold aloC
    rcases hw with hw | hw
    · rw [if_neg (by omega)] at hW; cases hW; rw [if_neg (by omega), if_neg (by omega)]; omega
    · rw [if_pos hw] at hW; cases hW; rw [if_pos hw, if_pos hw]; omega
  rw [e1, e2]
end Go.Sas
namespace Go.Sas
open Go.Proofs
set_option maxRecDepth 100000
def eAt : List AV → Option ((AV → Prop) → Prop)
  | [.agg [.lit (.int .i64 w), .lit (.int .i64 s), .lit (.int .i64 lo), .lit (.int .i64 hi), .vs 2 ys, .lit (.int .i64 L), .vs 2 xs], .lit (.int .i64 M)] =>
    some fun K => ∃ (t : Tck) (m : Nat), (TrkV L t w s lo hi ys xs ∧ (s ≤ m ∧ m ≤ 100000) ∧ M = iLen m) ∧ ∀ a b, (a, b) = waysT L t m → K (.agg [I a, I b])
  | _ => none
theorem eAt_ok : ∀ args pt, eAt args = some pt → ∀ (H : AHeap) (Kk : AV → AHeap → Prop), pt (fun r => Kk r H) → ACalls Tryz.prog 90 args H Kk := by
  intro args pt h H Kk hk
  unfold eAt at h
  split at h
  · cases h
    obtain ⟨t, m, ⟨h1, h2, h4⟩, h3⟩ := hk
    exact p90 _ t _ _ _ _ _ _ m h1 h2 _ h4 H (h3 _ _ rfl)
  · cases h
def eRoadP : List AV → Option ((AV → Prop) → Prop)
  | [.agg [.lit (.int .i64 w), .lit (.int .i64 s), .lit (.int .i64 lo), .lit (.int .i64 hi), .vs 2 ys, .lit (.int .i64 L), .vs 2 xs], .agg [.lit (.int .i64 x1), .lit (.int .i64 x2)]] =>
    some fun K => ∃ (t : Tck), (TrkV L t w s lo hi ys xs ∧ (0 ≤ x1 ∧ x1 ≤ x2) ∧ x2 ≤ L) ∧ ∀ a b, (a, b) = roadC L t.way (x1, x2) → K (.agg [I a, I b])
  | _ => none
theorem eRoadP_ok : ∀ args pt, eRoadP args = some pt → ∀ (H : AHeap) (Kk : AV → AHeap → Prop), pt (fun r => Kk r H) → ACalls Tryz.prog 91 args H Kk := by
  intro args pt h H Kk hk
  unfold eRoadP at h
  split at h
  · cases h
    obtain ⟨t, ⟨h1, h2⟩, h3⟩ := hk
    exact p91 _ t _ _ _ _ _ _ _ _ h1 h2 H (h3 _ _ rfl)
  · cases h
def lnI (L : Int) (t : Tck) (m : Nat) : Int := if isT L t m = true then (if (waysT L t m).2 < stopT L t m then 1 else 3) else 2
def lnS (L : Int) (t : Tck) (m : Nat) : Int × Int := if isT L t m = true then roadC L t.way (laneT L t m) else (0, 0)
theorem lnI_two {L : Int} {t : Tck} {m : Nat} : lnI L t m = 2 ↔ isT L t m = false := by
  unfold lnI
  split
  · rename_i h; rw [h]; split <;> simp
  · rename_i h; simpa using h
theorem p80 (L : Int) (t : Tck) (w s lo hi : Int) (ys xs : List AV) (m : Nat) (hT : TrkV L t w s lo hi ys xs) (hm : m ≤ 100000) (M : Int) (hM : M = iLen m) (H : AHeap) {Kk : AV → AHeap → Prop} (h : Kk (.tup [sp2 (lnS L t m), I (lnI L t m)]) H) : ACalls Tryz.prog 80 [tkX w s lo hi L ys xs, I M] H Kk := by
  refine (fun q => pureC (by rfl) (by rfl) q H h) ?_
  clear h
  intro Kk h
  have hK := hT
  obtain ⟨a1, a2, a3, a4, ⟨gp, hV⟩, hL⟩ := hT
  have hb1 := waysT_bnd hV hL.1 m
  have hb2 := stopT_bnd hV hL.1 m
  have hS := hV.hldS hL.2
  have hl8 := hV.hs.n
  have hM1 : M = (m : Int) := hM
  have hst : stopP L w M t.hs = stopT L t m := by rw [hM1, a1]; rfl
  have h0 : M < s → lnS L t m = (0, 0) ∧ lnI L t m = 2 := fun hh => by
    have : isT L t m = false := by unfold isT; exact decide_eq_false (by omega)
    unfold lnS lnI; rw [this]; exact ⟨rfl, rfl⟩
  have h1 : ¬ M < s → (waysT L t m).2 < stopT L t m → lnS L t m = roadC L t.way (waysT L t m) ∧ lnI L t m = 1 := fun hh h2 => by
    have e : laneT L t m = waysT L t m := Prod.ext rfl (by show min (waysT L t m).2 (stopT L t m - 1) = _; omega)
    have : isT L t m = true := by unfold isT; rw [e]; exact decide_eq_true (by omega)
    unfold lnS lnI; rw [this, e, if_pos rfl, if_pos rfl, if_pos h2]; exact ⟨rfl, rfl⟩
  have h2 : ¬ M < s → ¬ (waysT L t m).2 < stopT L t m → stopT L t m ≤ (waysT L t m).1 → lnS L t m = (0, 0) ∧ lnI L t m = 2 := fun hh h2 h3 => by
    have : isT L t m = false := by unfold isT laneT; exact decide_eq_false (by dsimp only; omega)
    unfold lnS lnI; rw [this]; exact ⟨rfl, rfl⟩
  have h3 : ¬ M < s → ¬ (waysT L t m).2 < stopT L t m → ¬ stopT L t m ≤ (waysT L t m).1 → lnS L t m = roadC L t.way ((waysT L t m).1, stopT L t m - 1) ∧ lnI L t m = 3 := fun hh h2 h3 => by
    have e : laneT L t m = ((waysT L t m).1, stopT L t m - 1) := Prod.ext rfl (by show min (waysT L t m).2 (stopT L t m - 1) = _; dsimp only; omega)
    have : isT L t m = true := by unfold isT; rw [e]; exact decide_eq_true (by dsimp only; omega)
    unfold lnS lnI; rw [this, e, if_pos rfl, if_pos rfl, if_neg h2]; exact ⟨rfl, rfl⟩
  obtain ⟨ST, hST⟩ : ∃ x, x = stopT L t m := ⟨_, rfl⟩
  obtain ⟨LS, hLS⟩ : ∃ x, x = lnS L t m := ⟨_, rfl⟩
  obtain ⟨LI, hLI⟩ : ∃ x, x = lnI L t m := ⟨_, rfl⟩
  obtain ⟨⟨g1, g2⟩, hg⟩ : ∃ g, g = waysT L t m := ⟨_, rfl⟩
  rw [← hST, ← hg] at hb1
  rw [← hST] at hb2 hst
  rw [← hLS, ← hLI] at h h0 h1 h2 h3
  rw [← hg, ← hST] at h1 h2 h3
  clear hLS hLI
  dsimp only at h1 h2 h3 hb1
  obtain ⟨A, hA⟩ : ∃ A, A = std := ⟨_, rfl⟩
  have hll : ∀ x y, A.lt x y = decide (x < y) := by subst hA; intro x y; rfl
  have hle : ∀ x y, A.le x y = decide (x ≤ y) := by subst hA; intro x y; rfl
  have hs1 : A.sub .i64 ST 1 = ST - 1 := by subst hA; exact iSub_id (by omega) (by omega)
  refine go80 rfl (SGo_run hA ⟨[], [], (90, eAt) :: (89, eStop) :: (91, eRoadP) :: [], []⟩ (.cons eAt_ok (.cons eStop_ok (.cons eRoadP_ok .nil))) .nil 200 fun T TD hT hTD => ?_)
  cbv
  split <;> cbv
  · rename_i hz
    have hz : M < s := by simpa using (hll _ _).symm.trans hz
    obtain ⟨e1, e2⟩ := h0 hz
    subst e1 e2
    exact leaf h rfl rfl
  rename_i hz0
  have hz0 : ¬ M < s := by simpa using (hll _ _).symm.trans hz0
  refine Exists.intro t (Exists.intro m (And.intro ⟨hK, ⟨by omega, hm⟩, hM⟩ ?_))
  intro b1 b2 hb
  rw [← hg] at hb
  cases hb
  cbv
  repeat (first | (refine Exists.intro t.hs (And.intro ⟨a3, ⟨by omega, by omega⟩, hS, by omega⟩ ?_); intro qq hqq; cbv) | (refine And.intro (by subst hA; simp [std, Keep, SubH, ResK]) ?_; cbv))
  rw [hst] at hqq
  subst hqq
  split <;> cbv
  · rename_i hz
    have hz : g2 < qq := by simpa using (hll _ _).symm.trans hz
    obtain ⟨e1, e2⟩ := h1 hz0 hz
    refine Exists.intro t (And.intro ⟨hK, ⟨by omega, by omega⟩, by omega⟩ ?_)
    intro b1 b2 hb
    rw [← hb] at e1
    subst e1 e2
    cbv
    exact leaf h rfl rfl
  rename_i hz1
  have hz1 : ¬ g2 < qq := by simpa using (hll _ _).symm.trans hz1
  split <;> cbv
  · rename_i hz
    have hz : qq ≤ g1 := by simpa using (hle _ _).symm.trans hz
    obtain ⟨e1, e2⟩ := h2 hz0 hz1 hz
    subst e1 e2
    exact leaf h rfl rfl
  rename_i hz2
  have hz2 : ¬ qq ≤ g1 := by simpa using (hle _ _).symm.trans hz2
  obtain ⟨e1, e2⟩ := h3 hz0 hz1 hz2
  refine Exists.intro t (And.intro ⟨hK, ⟨by omega, ?_⟩, ?_⟩ ?_)
  · show g1 ≤ A.sub .i64 qq 1
    rw [hs1]; omega
  · show A.sub .i64 qq 1 ≤ L
    rw [hs1]; omega
  intro b1 b2 hb
  have hb : (b1, b2) = roadC L t.way (g1, A.sub .i64 qq 1) := hb
  rw [hs1] at hb
  rw [← hb] at e1
  subst e1 e2
  cbv
  exact leaf h rfl rfl
def eLane : List AV → Option ((AV → Prop) → Prop)
  | [.agg [.lit (.int .i64 w), .lit (.int .i64 s), .lit (.int .i64 lo), .lit (.int .i64 hi), .vs 2 ys, .lit (.int .i64 L), .vs 2 xs], .lit (.int .i64 M)] =>
    some fun K => ∃ (t : Tck) (m : Nat), (TrkV L t w s lo hi ys xs ∧ m ≤ 100000 ∧ M = iLen m) ∧ ∀ a b v, ((a, b) = lnS L t m ∧ v = lnI L t m) → K (.tup [.agg [I a, I b], I v])
  | _ => none
theorem eLane_ok : ∀ args pt, eLane args = some pt → ∀ (H : AHeap) (Kk : AV → AHeap → Prop), pt (fun r => Kk r H) → ACalls Tryz.prog 80 args H Kk := by
  intro args pt h H Kk hk
  unfold eLane at h
  split at h
  · cases h
    obtain ⟨t, m, ⟨h1, h2, h4⟩, h3⟩ := hk
    exact p80 _ t _ _ _ _ _ _ m h1 h2 _ h4 H (h3 _ _ _ ⟨rfl, rfl⟩)
  · cases h
def nrX (a b : Int × Int) (gap : Int) : Int := max a.1 (b.1 - gap + 1)
def nrY (a b : Int × Int) (gap : Int) : Int := max b.1 (nrX a b gap - gap + 1)
theorem lnS_bnd {L gap : Int} {t : Tck} (hV : TckV L gap t) (hL : 1 ≤ L) (m : Nat) : (0 ≤ (lnS L t m).1 ∧ (lnS L t m).1 ≤ L) ∧ 0 ≤ (lnS L t m).2 ∧ (lnS L t m).2 ≤ L := by
  have h1 := waysT_bnd hV hL m
  have h2 := stopT_bnd hV hL m
  unfold lnS
  split
  · unfold roadC laneT
    dsimp only
    split <;> dsimp only <;> omega
  · dsimp only; omega
theorem p70 (L gap f : Int) (t u : Tck) (w s lo hi w' s' lo' hi' : Int) (ys xs ys' xs' : List AV) (m : Nat) (hTt : TrkV L t w s lo hi ys xs) (hU : TrkV L u w' s' lo' hi' ys' xs') (hg : 1 ≤ gap ∧ gap ≤ 100000) (hm : m ≤ 100000) (M : Int) (hM : M = iLen m) (H : AHeap) {Kk : AV → AHeap → Prop}
    (h : ∀ x y, Kk (.tup [I x, I y, B (meetT L gap t u m)]) H) : ACalls Tryz.prog 70 [.agg [I gap, I f], tkX w s lo hi L ys xs, tkX w' s' lo' hi' L ys' xs', I M] H Kk := by
  obtain ⟨Q, hQ⟩ : ∃ Q, Q = meetT L gap t u m := ⟨_, rfl⟩
  rw [← hQ] at h
  obtain ⟨X, hX⟩ : ∃ X, X = (if isT L t m && isT L u m then nrX (lnS L t m) (lnS L u m) gap else 0) := ⟨_, rfl⟩
  obtain ⟨Y, hY⟩ : ∃ Y, Y = (if isT L t m && isT L u m then nrY (lnS L t m) (lnS L u m) gap else 0) := ⟨_, rfl⟩
  have h1 := h X Y
  clear h
  have h := h1
  clear h1
  refine (fun q => pureC (by rfl) (by rfl) q H h) ?_
  clear h
  intro Kk h
  have i1 := lnI_two (L := L) (t := t) (m := m)
  have i2 := lnI_two (L := L) (t := u) (m := m)
  obtain ⟨gp, hV⟩ := hTt.v
  obtain ⟨gp', hV'⟩ := hU.v
  have hL := hTt.L
  have hb := lnS_bnd hV hL.1 m
  have hb' := lnS_bnd hV' hL.1 m
  have hno : isT L t m = false ∨ isT L u m = false → X = 0 ∧ Y = 0 ∧ Q = false := fun hh => by
    unfold meetT at hQ
    rcases hh with hh | hh <;> rw [hh] at hX hY hQ <;> simp at hX hY hQ <;> exact ⟨hX, hY, hQ⟩
  have hye : isT L t m = true → isT L u m = true → X = nrX (lnS L t m) (lnS L u m) gap ∧ Y = nrY (lnS L t m) (lnS L u m) gap ∧ Q = nearC (lnS L t m) (lnS L u m) gap := fun h1 h2 => by
    unfold meetT at hQ
    rw [h1, h2] at hX hY hQ
    have e1 : lnS L t m = roadC L t.way (laneT L t m) := by unfold lnS; rw [if_pos h1]
    have e2 : lnS L u m = roadC L u.way (laneT L u m) := by unfold lnS; rw [if_pos h2]
    simp only [Bool.and_self, if_true, Bool.true_and] at hX hY hQ
    rw [e1, e2] at *
    exact ⟨hX, hY, hQ⟩
  clear hX hY hQ
  obtain ⟨b1, hb1⟩ : ∃ b, b = isT L t m := ⟨_, rfl⟩
  obtain ⟨b2, hb2⟩ : ∃ b, b = isT L u m := ⟨_, rfl⟩
  rw [← hb1] at i1 hno hye
  rw [← hb2] at i2 hno hye
  obtain ⟨⟨c1, c2⟩, hc⟩ : ∃ c, c = lnS L t m := ⟨_, rfl⟩
  obtain ⟨⟨d1, d2⟩, hd⟩ : ∃ c, c = lnS L u m := ⟨_, rfl⟩
  rw [← hc] at hye hb
  rw [← hd] at hye hb'
  unfold nrX nrY nearC nrX at hye
  dsimp only at hye hb hb'
  obtain ⟨A, hA⟩ : ∃ A, A = std := ⟨_, rfl⟩
  have hee : ∀ x y, A.eq x y = decide (x = y) := by subst hA; intro x y; exact iEqd _ _
  have hle : ∀ x y, A.le x y = decide (x ≤ y) := by subst hA; intro x y; rfl
  have hmx : ∀ x y, A.max x y = max x y := by subst hA; intro x y; exact iMaxE _ _
  obtain ⟨P, hP⟩ : ∃ P, P = max c1 (d1 - gap + 1) := ⟨_, rfl⟩
  rw [← hP] at hye
  have f1 : A.max c1 (A.add .i64 (A.sub .i64 d1 gap) 1) = P := by
    subst hA; show iMax c1 (iAdd .i64 (iSub .i64 d1 gap) 1) = P; rw [iSub_id (by omega) (by omega), iAdd_id (by omega) (by omega), iMaxE, hP]
  have f2 : A.max d1 (A.add .i64 (A.sub .i64 P gap) 1) = max d1 (P - gap + 1) := by
    subst hA; show iMax d1 (iAdd .i64 (iSub .i64 P gap) 1) = _; rw [iSub_id (by omega) (by omega), iAdd_id (by omega) (by omega), iMaxE]
  refine go70 rfl (SGo_run hA ⟨[], [], (80, eLane) :: [], []⟩ (.cons eLane_ok .nil) .nil 200 fun T TD hT hTD => ?_)
  cbv
  refine Exists.intro t (Exists.intro m (And.intro ⟨hTt, hm, hM⟩ ?_))
  rintro x1 x2 v1 ⟨hx, hv1⟩
  rw [← hc] at hx
  cases hx
  cbv
  refine Exists.intro u (Exists.intro m (And.intro ⟨hU, hm, hM⟩ ?_))
  rintro x1 x2 v2 ⟨hx, hv2⟩
  rw [← hd] at hx
  cases hx
  cbv
  rw [← hv1] at i1
  rw [← hv2] at i2
  split <;> cbv
  · rename_i hz
    have hz : v1 = 2 := by simpa using (hee _ _).symm.trans hz
    obtain ⟨e1, e2, e3⟩ := hno (.inl (i1.1 hz))
    subst e1 e2 e3
    exact leaf h rfl rfl
  rename_i hz1
  have hz1 : ¬ v1 = 2 := by simpa using (hee _ _).symm.trans hz1
  split <;> cbv
  · rename_i hz
    have hz : v2 = 2 := by simpa using (hee _ _).symm.trans hz
    obtain ⟨e1, e2, e3⟩ := hno (.inr (i2.1 hz))
    subst e1 e2 e3
    exact leaf h rfl rfl
  rename_i hz2
  have hz2 : ¬ v2 = 2 := by simpa using (hee _ _).symm.trans hz2
  have g1 : b1 = true := by cases b1 with | true => rfl | false => exact absurd (i1.2 rfl) hz1
  have g2 : b2 = true := by cases b2 with | true => rfl | false => exact absurd (i2.2 rfl) hz2
  obtain ⟨e1, e2, e3⟩ := hye g1 g2
  rw [← f2, ← f1] at e2 e3
  rw [← f1] at e1
  split <;> cbv
  · rename_i hz
    have hz : A.le (A.max c1 (A.add .i64 (A.sub .i64 d1 gap) 1)) c2 = true := hz
    repeat (refine And.intro (by subst hA; simp [std, Keep, SubH, ResK]) ?_; cbv)
    rw [hle] at hz
    have hz := of_decide_eq_true hz
    refine leaf h ?_ rfl
    show AV.tup [I X, I Y, B Q] = AV.tup [I (A.max c1 (A.add .i64 (A.sub .i64 d1 gap) 1)), I (A.max d1 (A.add .i64 (A.sub .i64 (A.max c1 (A.add .i64 (A.sub .i64 d1 gap) 1)) gap) 1)), B (A.le (A.max d1 (A.add .i64 (A.sub .i64 (A.max c1 (A.add .i64 (A.sub .i64 d1 gap) 1)) gap) 1)) d2)]
    rw [e1, e2, e3, hle]
    simp only [hz, true_and]
  · rename_i hz
    have hz : A.le (A.max c1 (A.add .i64 (A.sub .i64 d1 gap) 1)) c2 = false := hz
    repeat (refine And.intro (by subst hA; simp [std, Keep, SubH, ResK]) ?_; cbv)
    rw [hle] at hz
    have hz := of_decide_eq_false hz
    refine leaf h ?_ rfl
    show AV.tup [I X, I Y, B Q] = AV.tup [I (A.max c1 (A.add .i64 (A.sub .i64 d1 gap) 1)), I (A.max d1 (A.add .i64 (A.sub .i64 (A.max c1 (A.add .i64 (A.sub .i64 d1 gap) 1)) gap) 1)), B false]
    rw [e1, e2, e3]
    simp only [hz, false_and, decide_false]
end Go.Sas
