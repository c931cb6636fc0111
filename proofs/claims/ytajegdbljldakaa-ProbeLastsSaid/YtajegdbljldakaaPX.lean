/-
Probe: the reference's rows of places: cover 86.
Probe: the reference's Cover: contract.
Conditions: none.
-/
import Derived.Test.YtajegdbljldakaaPW
import Derived.Test.YtajegdbljldakaaPV
set_option linter.unusedVariables false
set_option linter.unusedSimpArgs false
namespace Go.Sas
open Go.Proofs
set_option maxRecDepth 100000
def covR (N : Nat) (f : Nat → Bool) : List AV := ((List.range N).map f).map B
def eCovR : List AV → Option ((AV → Prop) → Prop)
  | [.lit (.int .i64 n), .vs 5 xs, .lit (.int .i64 i), .lit (.int .i64 h)] => some fun K => ∃ (m : List Mrk) (k N : Nat), (n = iLen N ∧ xs = m.map mkV ∧ i = iLen k ∧ (1 ≤ N ∧ N ≤ 1000) ∧ k < m.length ∧ m.length ≤ 1000 ∧ (∀ x ∈ m, MkOk (iLen N) x) ∧ (0 ≤ h ∧ h ≤ 10000)) ∧
      ∀ ys zs, ys = covR N (covB m k h N).1 → zs = covR N (covB m k h N).2 → K (.tup [.vs 1 ys, .vs 1 zs])
  | _ => none
theorem eCovR_ok : ∀ args pt, eCovR args = some pt → ∀ (H : AHeap) (Kk : AV → AHeap → Prop), pt (fun r => Kk r H) → ACalls Try.prog 94 args H Kk := by
  intro args pt h H Kk hk
  unfold eCovR at h
  split at h
  · cases h
    obtain ⟨m, k, N, ⟨rfl, rfl, rfl, h1, h2, h3, h4, h5⟩, h6⟩ := hk
    exact p94 m k _ N h1 h2 h3 h4 h5 H (h6 _ _ rfl rfl)
  · cases h
theorem covR_ix {A : Ar} (hA : A = std) {N p : Nat} {f : Nat → Bool} {cs : List AV} {ip : Int} (hcs : cs = covR N f) (hip : ip = iLen p) (hp : p < N) : A.ix 1 1 cs ip [B (f p)] := by
  subst hA; refine ix_map (l := (List.range N).map f) (f := B) hcs hip (x := f p) ?_ rfl
  rw [List.getElem?_map, List.getElem?_range hp]; rfl
theorem stays_mk {us : List Nat} {H : AHeap} {n : Nat} {nw : List Nat} {M1 : AHeap} {cs : List AV} {nn : Nat} {T : AHeap} : Stays (some ⟨mask (lateU us) H, n, nw, M1, cs, nn⟩) (H ++ T) := fun D' hD => by cases hD; exact mask_sub
theorem p86 (rs : List Rch) (a b c : Int) (m : List Mrk) (h0 : Int) (ho : RoadOk rs) (hl : m.length ≤ 1000) (hm : ∀ x ∈ m, MkOk (sumLg rs) x) (hh : 0 ≤ h0 ∧ h0 ≤ 10000) (H : AHeap) {Kk : AV → AHeap → Prop}
    (h : Kk (.tup [.vs 1 (covR (plc rs).length (mayB m h0 (plc rs).length m.length)), .vs 1 (covR (plc rs).length (sureB m h0 (plc rs).length m.length))]) H) : ACalls Try.prog 86 [svV (.vs 5 (rs.map rcV)) a b c, .vs 5 (m.map mkV), I h0] H Kk := by
  refine (fun q => pureF (by rfl) (by rfl) q H h) ?_
  clear h
  intro Kk h
  have hRl := ho.ilen
  have hpn := ho.le'
  have hrl := ho.n2
  have hall := ho.all
  have hp1 : 1 ≤ (plc rs).length := ho.plc.pos
  obtain ⟨xs, hxs⟩ : ∃ xs, xs = rs.map rcV := ⟨_, rfl⟩
  obtain ⟨ms, hms⟩ : ∃ xs, xs = m.map mkV := ⟨_, rfl⟩
  rw [← hxs, ← hms]
  obtain ⟨N, hN⟩ : ∃ N, N = (plc rs).length := ⟨_, rfl⟩
  rw [← hN] at hRl hpn h hp1
  rw [← hRl] at hm
  obtain ⟨F, hF⟩ : ∃ F, F = Frees 0 Kk := ⟨_, rfl⟩
  rw [← hF]
  obtain ⟨A, hA⟩ : ∃ A, A = std := ⟨_, rfl⟩
  have hsg : ∀ g, A.sg g g := by subst hA; exact fun _ => rfl
  have hll : ∀ a b, A.lt a b = decide (a < b) := by subst hA; intro a b; rfl
  obtain ⟨RW, hRW⟩ : ∃ F : (Nat → Bool) → List AV, F = fun f => rowB N f := ⟨_, rfl⟩
  have hmk : ∀ iN, iN = iLen N → A.mkz 1 1 [.bool false] iN iN (RW fun _ => false) N := fun iN hiN => by
    rw [hiN]; subst hA; rw [hRW]; exact mkS_rowA rfl (by omega) (by omega)
  refine go86 rfl ?_
  refine AGo_opq fun RR hRR => ?_
  refine SGo_run hA ⟨[1, 2], [], (46, ePlaces) :: [], []⟩ (.cons (ePlaces_ok p46) .nil) .nil 200 fun T TD hT hTD => ?_
  cbv
  refine Exists.intro rs (And.intro hxs (And.intro (by omega) (And.intro hall ?_)))
  intro iN hiN
  have hiN : iN = iLen N := hiN.trans hRl.symm
  cbv
  rw [hT]
  refine AGo_drwN [] (RW fun _ => false) N ?_
  refine SD_run hA ⟨[1, 2], [], [], []⟩ .nil .nil 200 200 stays_mk fun T TD hT hTD => ?_
  cbv
  refine And.intro (hmk _ hiN) (And.intro (hmk _ hiN) ?_); cbv
  rw [hT]
  obtain ⟨MB, hMB⟩ : ∃ f, f = mayB m h0 N := ⟨_, rfl⟩
  obtain ⟨SB, hSB⟩ : ∃ f, f = sureB m h0 N := ⟨_, rfl⟩
  rw [← hMB, ← hSB] at h
  have hM0 : RW (fun _ => false) = RW (MB 0) := by rw [hMB]; rfl
  have hS0 : RW (fun _ => false) = RW (SB 0) := by rw [hSB]; rfl
  have hMs : ∀ i p, MB (i + 1) p = (MB i p || (covB m i h0 N).1 p) := fun i p => by rw [hMB]; unfold mayB; rw [List.range_succ, List.any_append]; simp
  have hSs : ∀ i p, SB (i + 1) p = (SB i p || (covB m i h0 N).2 p) := fun i p => by rw [hSB]; unfold sureB; rw [List.range_succ, List.any_append]; simp
  refine AGo_upE [1, 2, 8, 9, 10] m.length (fun j (_ : Unit) => True) (fun j _ i => [(11, I i)]) (fun j _ => [.own 0 [.vs 5 xs, I a, I b, I c], .own 0 (RW (MB j)), .own 0 (RW (SB j))]) () trivial ⟨rfl, trivial⟩ (.inl (by rw [← hM0, ← hS0])) fun j _ i hi hj hP Bk hB => ?_
  have hlt : A.lt i (A.vlen ms) = decide (j < m.length) := by subst hA; exact lt_len (by simp [hms]) hi
  have hadd : ∀ N, j < N → N ≤ 9223372036854775807 → A.add .i64 i 1 = iLen (j + 1) := fun N hj hN => by subst hA; exact add_one hi hj hN
  obtain ⟨c1, hc1⟩ : ∃ r, r = RW (MB j) := ⟨_, rfl⟩
  obtain ⟨c2, hc2⟩ : ∃ r, r = RW (SB j) := ⟨_, rfl⟩
  rw [← hc1, ← hc2]
  refine SGo_run hA ⟨[1, 2], [], (94, eCovR) :: [], []⟩ (.cons eCovR_ok .nil) .nil 200 fun T TD hT hTD => ?_
  cbv
  split <;> cbv
  · rename_i hk0
    have hk1 : j < m.length := by have hz := hlt.symm.trans hk0; simpa using hz
    clear hk0
    refine Exists.intro m (Exists.intro j (Exists.intro N (And.intro ⟨hiN, hms, hi, ⟨hp1, by omega⟩, hk1, hl, hm, hh⟩ ?_)))
    intro ys zs hys hzs; cbv
    rw [hT]
    obtain ⟨CM, hCM⟩ : ∃ f : Nat → List AV, f = fun p => RW fun r => if r < p then MB (j + 1) r else MB j r := ⟨_, rfl⟩
    obtain ⟨CS, hCS⟩ : ∃ f : Nat → List AV, f = fun p => RW fun r => if r < p then SB (j + 1) r else SB j r := ⟨_, rfl⟩
    have hCM0 : c1 = CM 0 := by rw [hc1, hCM]; dsimp only; congr 1
    have hCS0 : c2 = CS 0 := by rw [hc2, hCS]; dsimp only; congr 1
    have hCMn : CM N = RW (MB (j + 1)) := by rw [hCM, hRW]; dsimp only; exact rowA_congr fun q hq => by dsimp only; rw [if_pos hq]
    have hCSn : CS N = RW (SB (j + 1)) := by rw [hCS, hRW]; dsimp only; exact rowA_congr fun q hq => by dsimp only; rw [if_pos hq]
    refine AGo_upE [1, 2, 8, 9, 10, 11, 12, 13] N (fun j (_ : Unit) => True) (fun j _ i => [(14, I i)]) (fun j _ => [.own 0 [.vs 5 xs, I a, I b, I c], .own 0 (CM j), .own 0 (CS j)]) () trivial ⟨rfl, trivial⟩ (.inl (by rw [hCM0, hCS0])) fun p _ ip hip hp hP2 Bk2 hB2 => ?_
    obtain ⟨c3, hc3⟩ : ∃ r, r = CM p := ⟨_, rfl⟩
    obtain ⟨c4, hc4⟩ : ∃ r, r = CS p := ⟨_, rfl⟩
    rw [← hc3, ← hc4]
    have hlt2 : A.lt ip iN = decide (p < N) := by rw [hll, hiN, hip, decide_eq_decide]; unfold iLen; omega
    refine SGo_run hA ⟨[1, 2], [2000001, 2000002], [], []⟩ .nil .nil 200 fun T TD hT hTD => ?_
    cbv
    split <;> cbv
    · rename_i hz
      have hpN : p < N := of_decide_eq_true (hlt2.symm.trans hz)
      have hadp : A.add .i64 ip 1 = iLen (p + 1) := by subst hA; exact add_one (N := 1000) hip (by omega) (by omega)
      have hixp : A.ixm 1 1 0 N ip p := by subst hA; exact ixm1 hip hpN
      obtain ⟨b1, hb1⟩ : ∃ b, b = MB j p := ⟨_, rfl⟩
      obtain ⟨b2, hb2⟩ : ∃ b, b = SB j p := ⟨_, rfl⟩
      obtain ⟨a1, ha1⟩ : ∃ b, b = (covB m j h0 N).1 p := ⟨_, rfl⟩
      obtain ⟨a2, ha2⟩ : ∃ b, b = (covB m j h0 N).2 p := ⟨_, rfl⟩
      have hm1 : MB (j + 1) p = (b1 || a1) := by rw [hMs, hb1, ha1]
      have hs1 : SB (j + 1) p = (b2 || a2) := by rw [hSs, hb2, ha2]
      have hg1 : A.get none c3 p (B b1) := by subst hA; rw [hc3, hCM, hRW]; exact getS_rowA hpN (congrArg B (by dsimp only; rw [if_neg (by omega), hb1]))
      have hg2 : A.get none c4 p (B b2) := by subst hA; rw [hc4, hCS, hRW]; exact getS_rowA hpN (congrArg B (by dsimp only; rw [if_neg (by omega), hb2]))
      have hx1 : A.ix 1 1 ys ip [B a1] := by rw [ha1]; exact covR_ix hA hys hip hpN
      have hx2 : A.ix 1 1 zs ip [B a2] := by rw [ha2]; exact covR_ix hA hzs hip hpN
      obtain ⟨c5, hc5⟩ : ∃ r, r = CM (p + 1) := ⟨_, rfl⟩
      obtain ⟨c6, hc6⟩ : ∃ r, r = CS (p + 1) := ⟨_, rfl⟩
      have hu1 : A.upd 1 c3 p [B (b1 || a1)] c5 := by
        subst hA; rw [hc3, hc5, hCM, hRW]
        refine updS_rowA hpN fun q _ => ?_
        dsimp only
        by_cases hq : q = p
        · rw [if_pos hq, if_pos (by omega), hq, hm1]
        · rw [if_neg hq]; simp only [show q < p + 1 ↔ q < p by omega]
      have hu2 : A.upd 1 c4 p [B (b2 || a2)] c6 := by
        subst hA; rw [hc4, hc6, hCS, hRW]
        refine updS_rowA hpN fun q _ => ?_
        dsimp only
        by_cases hq : q = p
        · rw [if_pos hq, if_pos (by omega), hq, hs1]
        · rw [if_neg hq]; simp only [show q < p + 1 ↔ q < p by omega]
      refine And.intro (hsg _) (Exists.intro p (And.intro hixp ?_)); cbv
      refine And.intro (hsg _) (Exists.intro _ (And.intro hg1 ?_)); cbv
      cases b1 with
      | true =>
        cbv
        refine And.intro (hsg _) (Exists.intro p (And.intro hixp ?_)); cbv
        refine And.intro (hsg _) (Exists.intro _ (And.intro hg2 ?_)); cbv
        cases b2 with
        | true =>
          cbv
          refine And.intro (hsg _) (Exists.intro p (And.intro hixp ?_)); cbv
          refine And.intro (hsg _) (Exists.intro _ (And.intro hu1 ?_)); cbv
          refine And.intro (by subst hA; exact .inr ⟨by simp [SubH], trivial, .inl rfl⟩) ?_; cbv
          refine And.intro (hsg _) (Exists.intro p (And.intro hixp ?_)); cbv
          refine And.intro (hsg _) (Exists.intro _ (And.intro hu2 ?_)); cbv
          exact hB2 () _ _ hpN trivial ⟨congrArg I hadp, trivial⟩ ⟨rfl, rfl, rfl, rfl, rfl, rfl, rfl, rfl, trivial⟩ (.inl (by rw [hc5, hc6]))
        | false =>
          cbv
          refine Exists.intro _ (And.intro hx2 ?_); cbv
          refine And.intro (hsg _) (Exists.intro p (And.intro hixp ?_)); cbv
          refine And.intro (hsg _) (Exists.intro _ (And.intro hu1 ?_)); cbv
          refine And.intro (by subst hA; exact .inr ⟨by simp [SubH], trivial, .inl rfl⟩) ?_; cbv
          refine And.intro (hsg _) (Exists.intro p (And.intro hixp ?_)); cbv
          refine And.intro (hsg _) (Exists.intro _ (And.intro hu2 ?_)); cbv
          exact hB2 () _ _ hpN trivial ⟨congrArg I hadp, trivial⟩ ⟨rfl, rfl, rfl, rfl, rfl, rfl, rfl, rfl, trivial⟩ (.inl (by rw [hc5, hc6]))
      | false =>
        cbv
        refine Exists.intro _ (And.intro hx1 ?_); cbv
        refine And.intro (hsg _) (Exists.intro p (And.intro hixp ?_)); cbv
        refine And.intro (hsg _) (Exists.intro _ (And.intro hg2 ?_)); cbv
        cases b2 with
        | true =>
          cbv
          refine And.intro (hsg _) (Exists.intro p (And.intro hixp ?_)); cbv
          refine And.intro (hsg _) (Exists.intro _ (And.intro hu1 ?_)); cbv
          refine And.intro (by subst hA; exact .inr ⟨by simp [SubH], trivial, .inl rfl⟩) ?_; cbv
          refine And.intro (hsg _) (Exists.intro p (And.intro hixp ?_)); cbv
          refine And.intro (hsg _) (Exists.intro _ (And.intro hu2 ?_)); cbv
          exact hB2 () _ _ hpN trivial ⟨congrArg I hadp, trivial⟩ ⟨rfl, rfl, rfl, rfl, rfl, rfl, rfl, rfl, trivial⟩ (.inl (by rw [hc5, hc6]))
        | false =>
          cbv
          refine Exists.intro _ (And.intro hx2 ?_); cbv
          refine And.intro (hsg _) (Exists.intro p (And.intro hixp ?_)); cbv
          refine And.intro (hsg _) (Exists.intro _ (And.intro hu1 ?_)); cbv
          refine And.intro (by subst hA; exact .inr ⟨by simp [SubH], trivial, .inl rfl⟩) ?_; cbv
          refine And.intro (hsg _) (Exists.intro p (And.intro hixp ?_)); cbv
          refine And.intro (hsg _) (Exists.intro _ (And.intro hu2 ?_)); cbv
          exact hB2 () _ _ hpN trivial ⟨congrArg I hadp, trivial⟩ ⟨rfl, rfl, rfl, rfl, rfl, rfl, rfl, rfl, trivial⟩ (.inl (by rw [hc5, hc6]))
    · rename_i hz
      have hpN : ¬ p < N := of_decide_eq_false (hlt2.symm.trans hz)
      exact hB () _ _ hk1 trivial ⟨congrArg I (hadd _ hk1 (by omega)), trivial⟩ ⟨rfl, rfl, rfl, rfl, rfl, trivial⟩ (.inl (by rw [hc3, hc4, show p = N by omega, hCMn, hCSn]))
  · rename_i hk0
    have hk1 : ¬ j < m.length := by have hz := hlt.symm.trans hk0; simpa using hz
    clear hk0
    refine hRR _ _ ?_
    cbv
    rw [hc1, hc2, show j = m.length by omega, hF]
    have w : ∀ f : Nat → Bool, RW f = covR N f := fun f => by rw [hRW]; exact rowA_map
    rw [w, w]
    exact Frees.two (by decide) (by simp [covR]) (by simp [covR]) (nidL_map (g := B) (fun _ => rfl) _) (nidL_map (g := B) (fun _ => rfl) _) (Elems_one (F := B) (fun _ => rfl) (fun _ => rfl) _) (Elems_one (F := B) (fun _ => rfl) (fun _ => rfl) _) rfl rfl h
end Go.Sas
namespace Go.Sas
open Go.Proofs
set_option maxRecDepth 100000
def eCover86 : List AV → Option ((AV → Prop) → Prop)
  | [.agg [.vs 5 xs, .lit (.int .i64 _), .lit (.int .i64 _), .lit (.int .i64 _)], .vs 5 ms, .lit (.int .i64 h)] => some fun K => ∃ (rs : List Rch) (m : List Mrk), (xs = rs.map rcV ∧ ms = m.map mkV ∧ RoadOk rs ∧ m.length ≤ 1000 ∧ (∀ x ∈ m, MkOk (sumLg rs) x) ∧ (0 ≤ h ∧ h ≤ 10000)) ∧
      ∀ ys zs, ys = covR (plc rs).length (mayB m h (plc rs).length m.length) → zs = covR (plc rs).length (sureB m h (plc rs).length m.length) → K (.tup [.vs 1 ys, .vs 1 zs])
  | _ => none
theorem eCover86_ok : ∀ args pt, eCover86 args = some pt → ∀ (H : AHeap) (Kk : AV → AHeap → Prop), pt (fun r => Kk r H) → ACalls Try.prog 86 args H Kk := by
  intro args pt h H Kk hk
  unfold eCover86 at h
  split at h
  · cases h
    obtain ⟨rs, m, ⟨rfl, rfl, h1, h2, h3, h4⟩, h5⟩ := hk
    exact p86 rs _ _ _ m _ h1 h2 h3 h4 H (h5 _ _ rfl rfl)
  · cases h
theorem runs_new' {V : Nat → Int} {j : Nat} {v : Int} {L : List (Nat × Nat × Int)} (hP : L = runsN V j) (hv : V j = v) (h : ∀ L0 f t u, L = L0 ++ [(f, t, u)] → u ≠ v) : runsN V (j + 1) = L ++ [(j, j, v)] := by
  subst hv
  have : j = 0 ∨ V (j - 1) ≠ V j := by
    rcases j with _ | t
    · exact .inl rfl
    · right
      obtain ⟨l, f, h1, _⟩ := runsN_last (V := V) (n := t)
      exact fun he => h l f t (V t) (hP.trans h1) he
  rw [runsN_new this, hP]
theorem runs_more' {V : Nat → Int} {j : Nat} {v : Int} {L0 : List (Nat × Nat × Int)} {f t : Nat} {u : Int} (hP : L0 ++ [(f, t, u)] = runsN V j) (hv : V j = v) (hu : u = v) : runsN V (j + 1) = L0 ++ [(f, j, u)] := by
  rcases j with _ | n
  · exact absurd hP (by simp [runsN])
  · obtain ⟨l, f', h1, _⟩ := runsN_last (V := V) (n := n)
    have h9 := List.append_inj' (hP.trans h1) (by simp)
    have h10 := h9.2
    simp at h10
    obtain ⟨rfl, rfl, rfl⟩ := h10
    rw [h9.1, runsN_more h1 (hu.trans hv.symm), hu]
theorem p42 (rs : List Rch) (a b c : Int) (m : List Mrk) (t : Int) (h1 : rs.length ≤ 9223372036854775807) (h2 : m.length ≤ 9223372036854775807) (H : AHeap) {Kk : AV → AHeap → Prop}
    (h : Kk (.tup [.vs 3 ((coverL rs a b c m t).map cloV), I (coverE rs a b c m t)]) H) : ACalls Try.prog 42 [svV (.vs 5 (rs.map rcV)) a b c, .vs 5 (m.map mkV), I t] H Kk := by
  have hnr := nidL_rc rs
  refine (fun q => pureF (by simp [AV.nidL, AV.nid, hnr, nidL_map (g := mkV) (fun _ => rfl) m]) (by simp [AV.nidL, AV.nid, nidL_map (g := cloV) (fun _ => rfl)]) q H h) ?_
  clear h
  intro Kk h
  obtain ⟨xs, hxs⟩ : ∃ xs, xs = rs.map rcV := ⟨_, rfl⟩
  rw [← hxs]
  obtain ⟨ls, hls⟩ : ∃ ys, ys = m.map mkV := ⟨_, rfl⟩
  rw [← hls]
  obtain ⟨E, hE⟩ : ∃ E, E = coverE rs a b c m t := ⟨_, rfl⟩
  rw [← hE] at h
  obtain ⟨F, hF⟩ : ∃ F, F = Frees 0 Kk := ⟨_, rfl⟩
  rw [← hF]
  have hw : ∀ e H1, E = e → e ≠ 0 → F (.tup [NS, I e]) H1 := fun e H1 he h0 => by
    unfold coverL at h; rw [← hE, he, if_neg h0] at h
    rw [hF]
    exact Frees.wk (r' := .tup [.vs 3 [], I e]) (Wk.tup ⟨Wk.nil, Wk.rfl, trivial⟩) (Frees.drop0 h rfl)
  have hg : E = 0 → ∀ n cs V L, V = verdS m t (sumLg rs) → L = runsN V (plc rs).length → n = L.length → cs = L.flatMap cloC → ∀ X0, F (.tup [.ms 3 1 n 0 n, I 0]) [X0, .own n cs] := fun h0 n cs V L hV hL hn hcs X0 => by
    unfold coverL at h; rw [← hE, if_pos h0, h0, ← hV, ← hL] at h
    rw [hF, hcs]
    refine Frees.frz 1 n 3 (L.map cloV) rfl (Elems_map (f := cloV) (g := cloC) (sz := 3) (fun _ => rfl) (fun _ => rfl) (fun _ => rfl) _) ?_
    have e : AV.frz 1 n 3 (L.map cloV) (.ms 3 1 n 0 n) = .vs 3 (L.map cloV) := frz_self (by simp [hn])
    have e2 : AV.frz 1 n 3 (L.map cloV) (.tup [.ms 3 1 n 0 n, I 0]) = .tup [.vs 3 (L.map cloV), I 0] := by
      show AV.tup [AV.frz 1 n 3 (L.map cloV) (.ms 3 1 n 0 n), I 0] = _
      rw [e]
    rw [e2]
    exact Frees.drop0 h (by simp [AV.nidL, AV.nid, nidL_map (g := cloV) (fun _ => rfl)])
  obtain ⟨A, hA⟩ : ∃ A, A = std := ⟨_, rfl⟩
  have hne : ∀ x y, A.ne x y = decide (x ≠ y) := by subst hA; intro x y; simp only [std, iNe]; rw [Bool.eq_iff_iff]; simp
  have hee : ∀ x y, A.eq x y = decide (x = y) := by subst hA; intro x y; exact iEq_dec _ _
  have hll : ∀ x y, A.lt x y = decide (x < y) := by subst hA; intro x y; rfl
  have hle : ∀ x y, A.le x y = decide (x ≤ y) := by subst hA; intro x y; rfl
  have hnb : ∀ b, A.bnot b = !b := by subst hA; intro b; rfl
  have hbd : ∀ x y, A.band x y = (x && y) := by subst hA; intro x y; rfl
  have hsg : ∀ g, A.sg g g := by subst hA; exact fun _ => rfl
  refine go42 rfl (SGo_run hA ⟨[], [], (38, eMarksS) :: (80, eIn) :: (86, eCover86) :: [], []⟩ (.cons (eMarksS_ok p38) (.cons (eIn_ok p80) (.cons eCover86_ok .nil))) .nil 200 fun T TD hT hTD => ?_)
  cbv
  refine Exists.intro rs (Exists.intro m (And.intro hxs (And.intro hls (And.intro h1 (And.intro h2 ?_)))))
  intro q hq; cbv
  split <;> cbv
  · rename_i hz
    have hz : q ≠ 0 := of_decide_eq_true ((hne q 0).symm.trans hz)
    refine hw q _ ?_ hz
    rw [hE]; unfold coverE orElse; rw [← hq, if_neg hz]
  rename_i hz
  have hz : q = 0 := by have hz := of_decide_eq_false ((hne q 0).symm.trans hz); simpa using hz
  have hmS := hq.symm.trans hz
  obtain ⟨⟨ho, hs2⟩, hml, hmo⟩ := marksS_ok.1 hmS
  have hE1 : E = if ¬(0 ≤ t ∧ t ≤ 10000) then 2 else 0 := by rw [hE]; unfold coverE orElse; rw [hmS, if_pos rfl]
  clear hz hq
  intro q1 hq1; cbv
  split <;> cbv
  · rename_i hz
    have hz : q1 = false := by have hz := (hnb q1).symm.trans hz; simpa using hz
    rw [hq1, decide_eq_false_iff_not] at hz
    exact hw 2 _ (by rw [hE1, if_pos hz]) (by decide)
  rename_i hz
  have hz : q1 = true := by have hz := (hnb q1).symm.trans hz; simpa using hz
  rw [hq1, decide_eq_true_eq] at hz
  rw [if_neg (fun h => h hz)] at hE1
  have hg := hg hE1
  have hpn := ho.le'
  have hRl := ho.ilen
  have hsl := sumLg_bnd' ho
  clear hw
  obtain ⟨V, hV⟩ : ∃ V, V = verdS m t (sumLg rs) := ⟨_, rfl⟩
  obtain ⟨N, hN⟩ : ∃ N, N = (plc rs).length := ⟨_, rfl⟩
  have hRl2 : sumLg rs = iLen N := by rw [← hRl, hN]
  rw [← hN] at hpn hg
  obtain ⟨MB, hMB⟩ : ∃ f, f = mayB m t N m.length := ⟨_, rfl⟩
  obtain ⟨SB, hSB⟩ : ∃ f, f = sureB m t N m.length := ⟨_, rfl⟩
  have hVv : ∀ p, p < N → V p = vofB (MB p) (SB p) := fun p hp => by
    rw [hV, hMB, hSB, hRl2]; exact verd_eq (by rw [hRl2] at hmo; exact hmo) hp
  refine Exists.intro rs (Exists.intro m (And.intro ⟨hxs, hls, ho, by omega, hmo, hz⟩ ?_))
  rw [← hN, ← hMB, ← hSB]
  intro ys zs hys hzs; cbv
  rw [hT]
  refine AGo_nilms 11 3 rfl ?_
  refine AGo_upE [9, 10] N (fun j (L : List (Nat × Nat × Int)) => L = runsN V j) (fun j L i => [(11, .ms 3 1 L.length 0 L.length), (12, I i)]) (fun j L => [.own 0 [.vs 5 xs, I a, I b, I c], .own L.length (L.flatMap cloC)]) [] rfl ⟨rfl, rfl, trivial⟩ (.inl rfl) fun j L i hi hj hP Bk hB => ?_
  have hadd : ∀ N, j < N → N ≤ 9223372036854775807 → A.add .i64 i 1 = iLen (j + 1) := fun N hj hN => by subst hA; exact add_one hi hj hN
  have hLj : L.length ≤ j := by rw [hP]; exact runsN_len
  obtain ⟨n, hn⟩ : ∃ n, n = L.length := ⟨_, rfl⟩
  obtain ⟨cs, hcs⟩ : ∃ c, c = L.flatMap cloC := ⟨_, rfl⟩
  have hcl : cs.length = n * 3 := by rw [hcs, hn, len_flat (k := 3) (fun _ => rfl)]
  rw [← hn, ← hcs]
  rw [← hn] at hLj
  have hyl : A.vlen ys = iLen N := by subst hA; rw [hys]; simp [std, covR]
  have hlt : A.lt i (A.vlen ys) = decide (j < N) := by rw [hyl, hll, hi, decide_eq_decide]; unfold iLen; omega
  refine SGo_run hA ⟨[1], [], [], []⟩ .nil .nil 200 fun T TD hT hTD => ?_
  cbv
  split <;> cbv
  · rename_i hk0
    have hk1 : j < N := by have hz := hlt.symm.trans hk0; simpa using hz
    clear hk0
    have hib : 0 ≤ i ∧ i ≤ 1000 := by rw [hi]; unfold iLen; omega
    obtain ⟨v, hv⟩ : ∃ v, v = V j := ⟨_, rfl⟩
    have hvv := hVv j hk1
    rw [← hv] at hvv
    have hx1 : A.ix 1 1 ys i [B (MB j)] := covR_ix hA hys hi hk1
    have hx2 : A.ix 1 1 zs i [B (SB j)] := covR_ix hA hzs hi hk1
    obtain ⟨mb, hmb⟩ : ∃ b, b = MB j := ⟨_, rfl⟩
    obtain ⟨sb, hsb⟩ : ∃ b, b = SB j := ⟨_, rfl⟩
    rw [← hmb] at hx1 hvv
    rw [← hsb] at hx2 hvv
    refine Exists.intro _ (And.intro hx2 ?_); cbv
    cases sb with
    | true =>
      cbv
      have hv1 : v = 1 := hvv
      have hVj : V j = 1 := hv.symm.trans hv1
      have hl0 : A.lt 0 (A.len n) = decide (0 < n) := by subst hA; show decide ((0 : Int) < iLen n) = _; rw [decide_eq_decide]; unfold iLen; omega
      have hla : A.sub .i64 (A.len n) 1 = iLen n - 1 := by subst hA; exact iSub_id (by show _ ≤ iLen n - 1; unfold iLen; omega) (by show iLen n - 1 ≤ _; unfold iLen; omega)
      obtain ⟨d, hd⟩ : ∃ x, x = cs ++ [I i, I i, I 1] := ⟨_, rfl⟩
      have happ : A.app 3 3 24 cs 0 n [.agg [I i, I i, I 1]] d (n + 1) := by subst hA; rw [hd]; exact app_one hcl rfl (by omega)
      have hnew : (∀ L0 f t' u, L = L0 ++ [(f, t', u)] → u ≠ 1) → ∀ e', Fits e' [(11, .ms 3 1 (n + 1) 0 (n + 1)), (12, I (A.add .i64 i 1))] → Fits e' (keepS [9, 10] [(11, .ms 3 1 n 0 n), (12, I i), (9, .vs 1 ys), (10, .vs 1 zs)]) → Bk e' [.own 0 [.vs 5 xs, I a, I b, I c], .own (n + 1) d] := fun h0 e' hf hk => by
        rw [hadd _ hk1 (by omega)] at hf
        have hln : (L ++ [(j, j, (1 : Int))]).length = n + 1 := by rw [List.length_append, ← hn]; rfl
        refine hB (L ++ [(j, j, 1)]) _ _ hk1 (runs_new' hP hVj h0).symm ?_ hk (.inl ?_)
        · rw [hln]; exact hf
        · rw [hln, List.flatMap_append, ← hcs, hd, hi]; rfl
      refine And.intro (hsg _) ?_
      split <;> cbv
      · rename_i hz6
        have hn0 : 0 < n := of_decide_eq_true (hl0.symm.trans hz6)
        obtain ⟨L0, ⟨f, t', u⟩, hL0⟩ : ∃ L0 x, L = L0 ++ [x] := by
          rcases List.eq_nil_or_concat L with h | ⟨L0, x, h⟩
          · rw [hn, h] at hn0; exact absurd hn0 (by simp)
          · exact ⟨L0, x, by rw [h, List.concat_eq_append]⟩
        obtain ⟨q0, hq0⟩ : ∃ x, x = L0.flatMap cloC := ⟨_, rfl⟩
        have hnL : n = L0.length + 1 := by rw [hn, hL0, List.length_append]; rfl
        have hq0l : q0.length = (n - 1) * 3 := by rw [hq0, len_flat (k := 3) (fun _ => rfl), hnL, Nat.add_sub_cancel]
        have hcs2 : cs = q0 ++ [I (iLen f), I (iLen t'), I u] := by rw [hcs, hL0, List.flatMap_append, ← hq0]; rfl
        obtain ⟨o, ho2⟩ : ∃ o, o = (n - 1) * 3 := ⟨_, rfl⟩
        have hixo : A.ixm 3 3 0 n (A.sub .i64 (A.len n) 1) o := by rw [hla]; subst hA ho2; exact ⟨rfl, by unfold iLen; omega, by unfold iLen; omega, by unfold iLen; omega⟩
        have hge : A.get none cs (o + 2) (I u) := by
          subst hA; show cs[o + 2]? = _
          rw [hcs2, List.getElem?_append_right (by omega), ho2, ← hq0l]; simp
        have hof1 : A.off o 1 (o + 1) := by subst hA; exact rfl
        have hof2 : A.off o 2 (o + 2) := by subst hA; exact rfl
        refine And.intro (hsg _) (Exists.intro o (And.intro hixo ?_)); cbv
        refine And.intro (hsg _) (Exists.intro (o + 2) (And.intro hof2 ?_)); cbv
        refine And.intro (hsg _) (Exists.intro _ (And.intro hge ?_)); cbv
        have heq : A.eq u 1 = decide (u = 1) := hee _ _
        split <;> cbv
        · rename_i hz7
          have hz7 := of_decide_eq_true (heq.symm.trans hz7)
          obtain ⟨d2, hd2⟩ : ∃ x, x = q0 ++ [I (iLen f), I i, I u] := ⟨_, rfl⟩
          have hupd : A.upd 1 cs (o + 1) [I i] d2 := by
            subst hA; refine ⟨rfl, by omega, ?_⟩
            have e1 : cs.take (o + 1) = q0 ++ [I (iLen f)] := by
              rw [hcs2, List.take_append, ho2, ← hq0l, List.take_of_length_le (by omega)]; simp
            have e2 : cs.drop (o + 1 + 1) = [I u] := by
              rw [hcs2, List.drop_append, ho2, ← hq0l, List.drop_of_length_le (by omega), show q0.length + 1 + 1 - q0.length = 2 by omega]; rfl
            rw [hd2, e1, e2]; simp
          refine And.intro (hsg _) (Exists.intro o (And.intro hixo ?_)); cbv
          refine And.intro (hsg _) (Exists.intro (o + 1) (And.intro hof1 ?_)); cbv
          refine And.intro (hsg _) (Exists.intro d2 (And.intro hupd ?_)); cbv
          have hln : (L0 ++ [(f, j, u)]).length = n := by rw [List.length_append, hnL]; rfl
          refine hB (L0 ++ [(f, j, u)]) _ _ hk1 (runs_more' (hL0.symm.trans hP) hVj hz7).symm ?_ ⟨rfl, rfl, trivial⟩ (.inl ?_)
          · rw [hln]; exact ⟨rfl, congrArg I (hadd _ hk1 (by omega)), trivial⟩
          · rw [hln, List.flatMap_append, ← hq0, hd2, hi]; rfl
        · rename_i hz7
          have hz7 := of_decide_eq_false (heq.symm.trans hz7)
          refine And.intro (hsg _) (Exists.intro d (Exists.intro (n + 1) (And.intro happ (And.intro rfl ?_)))); cbv
          refine hnew (fun L2 f2 t2 v2 h0 => ?_) _ ⟨rfl, rfl, trivial⟩ ⟨rfl, rfl, trivial⟩
          have h9 := (List.append_inj' (hL0.symm.trans h0) (by simp)).2
          simp at h9
          rw [← h9.2.2]; exact hz7
      · rename_i hz6
        have hn0 : ¬ 0 < n := of_decide_eq_false (hl0.symm.trans hz6)
        refine And.intro (hsg _) (Exists.intro d (Exists.intro (n + 1) (And.intro happ (And.intro rfl ?_)))); cbv
        refine hnew (fun L0 f t' v h0 => ?_) _ ⟨rfl, rfl, trivial⟩ ⟨rfl, rfl, trivial⟩
        rw [hn, h0, List.length_append] at hn0
        exact absurd (Nat.succ_pos _) hn0
    | false =>
      cbv
      refine Exists.intro _ (And.intro hx1 ?_); cbv
      cases mb with
      | true =>
        cbv
        have hv1 : v = 3 := hvv
        have hVj : V j = 3 := hv.symm.trans hv1
        have hl0 : A.lt 0 (A.len n) = decide (0 < n) := by subst hA; show decide ((0 : Int) < iLen n) = _; rw [decide_eq_decide]; unfold iLen; omega
        have hla : A.sub .i64 (A.len n) 1 = iLen n - 1 := by subst hA; exact iSub_id (by show _ ≤ iLen n - 1; unfold iLen; omega) (by show iLen n - 1 ≤ _; unfold iLen; omega)
        obtain ⟨d, hd⟩ : ∃ x, x = cs ++ [I i, I i, I 3] := ⟨_, rfl⟩
        have happ : A.app 3 3 24 cs 0 n [.agg [I i, I i, I 3]] d (n + 1) := by subst hA; rw [hd]; exact app_one hcl rfl (by omega)
        have hnew : (∀ L0 f t' u, L = L0 ++ [(f, t', u)] → u ≠ 3) → ∀ e', Fits e' [(11, .ms 3 1 (n + 1) 0 (n + 1)), (12, I (A.add .i64 i 1))] → Fits e' (keepS [9, 10] [(11, .ms 3 1 n 0 n), (12, I i), (9, .vs 1 ys), (10, .vs 1 zs)]) → Bk e' [.own 0 [.vs 5 xs, I a, I b, I c], .own (n + 1) d] := fun h0 e' hf hk => by
          rw [hadd _ hk1 (by omega)] at hf
          have hln : (L ++ [(j, j, (3 : Int))]).length = n + 1 := by rw [List.length_append, ← hn]; rfl
          refine hB (L ++ [(j, j, 3)]) _ _ hk1 (runs_new' hP hVj h0).symm ?_ hk (.inl ?_)
          · rw [hln]; exact hf
          · rw [hln, List.flatMap_append, ← hcs, hd, hi]; rfl
        refine And.intro (hsg _) ?_
        split <;> cbv
        · rename_i hz6
          have hn0 : 0 < n := of_decide_eq_true (hl0.symm.trans hz6)
          obtain ⟨L0, ⟨f, t', u⟩, hL0⟩ : ∃ L0 x, L = L0 ++ [x] := by
            rcases List.eq_nil_or_concat L with h | ⟨L0, x, h⟩
            · rw [hn, h] at hn0; exact absurd hn0 (by simp)
            · exact ⟨L0, x, by rw [h, List.concat_eq_append]⟩
          obtain ⟨q0, hq0⟩ : ∃ x, x = L0.flatMap cloC := ⟨_, rfl⟩
          have hnL : n = L0.length + 1 := by rw [hn, hL0, List.length_append]; rfl
          have hq0l : q0.length = (n - 1) * 3 := by rw [hq0, len_flat (k := 3) (fun _ => rfl), hnL, Nat.add_sub_cancel]
          have hcs2 : cs = q0 ++ [I (iLen f), I (iLen t'), I u] := by rw [hcs, hL0, List.flatMap_append, ← hq0]; rfl
          obtain ⟨o, ho2⟩ : ∃ o, o = (n - 1) * 3 := ⟨_, rfl⟩
          have hixo : A.ixm 3 3 0 n (A.sub .i64 (A.len n) 1) o := by rw [hla]; subst hA ho2; exact ⟨rfl, by unfold iLen; omega, by unfold iLen; omega, by unfold iLen; omega⟩
          have hge : A.get none cs (o + 2) (I u) := by
            subst hA; show cs[o + 2]? = _
            rw [hcs2, List.getElem?_append_right (by omega), ho2, ← hq0l]; simp
          have hof1 : A.off o 1 (o + 1) := by subst hA; exact rfl
          have hof2 : A.off o 2 (o + 2) := by subst hA; exact rfl
          refine And.intro (hsg _) (Exists.intro o (And.intro hixo ?_)); cbv
          refine And.intro (hsg _) (Exists.intro (o + 2) (And.intro hof2 ?_)); cbv
          refine And.intro (hsg _) (Exists.intro _ (And.intro hge ?_)); cbv
          have heq : A.eq u 3 = decide (u = 3) := hee _ _
          split <;> cbv
          · rename_i hz7
            have hz7 := of_decide_eq_true (heq.symm.trans hz7)
            obtain ⟨d2, hd2⟩ : ∃ x, x = q0 ++ [I (iLen f), I i, I u] := ⟨_, rfl⟩
            have hupd : A.upd 1 cs (o + 1) [I i] d2 := by
              subst hA; refine ⟨rfl, by omega, ?_⟩
              have e1 : cs.take (o + 1) = q0 ++ [I (iLen f)] := by
                rw [hcs2, List.take_append, ho2, ← hq0l, List.take_of_length_le (by omega)]; simp
              have e2 : cs.drop (o + 1 + 1) = [I u] := by
                rw [hcs2, List.drop_append, ho2, ← hq0l, List.drop_of_length_le (by omega), show q0.length + 1 + 1 - q0.length = 2 by omega]; rfl
              rw [hd2, e1, e2]; simp
            refine And.intro (hsg _) (Exists.intro o (And.intro hixo ?_)); cbv
            refine And.intro (hsg _) (Exists.intro (o + 1) (And.intro hof1 ?_)); cbv
            refine And.intro (hsg _) (Exists.intro d2 (And.intro hupd ?_)); cbv
            have hln : (L0 ++ [(f, j, u)]).length = n := by rw [List.length_append, hnL]; rfl
            refine hB (L0 ++ [(f, j, u)]) _ _ hk1 (runs_more' (hL0.symm.trans hP) hVj hz7).symm ?_ ⟨rfl, rfl, trivial⟩ (.inl ?_)
            · rw [hln]; exact ⟨rfl, congrArg I (hadd _ hk1 (by omega)), trivial⟩
            · rw [hln, List.flatMap_append, ← hq0, hd2, hi]; rfl
          · rename_i hz7
            have hz7 := of_decide_eq_false (heq.symm.trans hz7)
            refine And.intro (hsg _) (Exists.intro d (Exists.intro (n + 1) (And.intro happ (And.intro rfl ?_)))); cbv
            refine hnew (fun L2 f2 t2 v2 h0 => ?_) _ ⟨rfl, rfl, trivial⟩ ⟨rfl, rfl, trivial⟩
            have h9 := (List.append_inj' (hL0.symm.trans h0) (by simp)).2
            simp at h9
            rw [← h9.2.2]; exact hz7
        · rename_i hz6
          have hn0 : ¬ 0 < n := of_decide_eq_false (hl0.symm.trans hz6)
          refine And.intro (hsg _) (Exists.intro d (Exists.intro (n + 1) (And.intro happ (And.intro rfl ?_)))); cbv
          refine hnew (fun L0 f t' v h0 => ?_) _ ⟨rfl, rfl, trivial⟩ ⟨rfl, rfl, trivial⟩
          rw [hn, h0, List.length_append] at hn0
          exact absurd (Nat.succ_pos _) hn0
      | false =>
        cbv
        have hv1 : v = 2 := hvv
        have hVj : V j = 2 := hv.symm.trans hv1
        have hl0 : A.lt 0 (A.len n) = decide (0 < n) := by subst hA; show decide ((0 : Int) < iLen n) = _; rw [decide_eq_decide]; unfold iLen; omega
        have hla : A.sub .i64 (A.len n) 1 = iLen n - 1 := by subst hA; exact iSub_id (by show _ ≤ iLen n - 1; unfold iLen; omega) (by show iLen n - 1 ≤ _; unfold iLen; omega)
        obtain ⟨d, hd⟩ : ∃ x, x = cs ++ [I i, I i, I 2] := ⟨_, rfl⟩
        have happ : A.app 3 3 24 cs 0 n [.agg [I i, I i, I 2]] d (n + 1) := by subst hA; rw [hd]; exact app_one hcl rfl (by omega)
        have hnew : (∀ L0 f t' u, L = L0 ++ [(f, t', u)] → u ≠ 2) → ∀ e', Fits e' [(11, .ms 3 1 (n + 1) 0 (n + 1)), (12, I (A.add .i64 i 1))] → Fits e' (keepS [9, 10] [(11, .ms 3 1 n 0 n), (12, I i), (9, .vs 1 ys), (10, .vs 1 zs)]) → Bk e' [.own 0 [.vs 5 xs, I a, I b, I c], .own (n + 1) d] := fun h0 e' hf hk => by
          rw [hadd _ hk1 (by omega)] at hf
          have hln : (L ++ [(j, j, (2 : Int))]).length = n + 1 := by rw [List.length_append, ← hn]; rfl
          refine hB (L ++ [(j, j, 2)]) _ _ hk1 (runs_new' hP hVj h0).symm ?_ hk (.inl ?_)
          · rw [hln]; exact hf
          · rw [hln, List.flatMap_append, ← hcs, hd, hi]; rfl
        refine And.intro (hsg _) ?_
        split <;> cbv
        · rename_i hz6
          have hn0 : 0 < n := of_decide_eq_true (hl0.symm.trans hz6)
          obtain ⟨L0, ⟨f, t', u⟩, hL0⟩ : ∃ L0 x, L = L0 ++ [x] := by
            rcases List.eq_nil_or_concat L with h | ⟨L0, x, h⟩
            · rw [hn, h] at hn0; exact absurd hn0 (by simp)
            · exact ⟨L0, x, by rw [h, List.concat_eq_append]⟩
          obtain ⟨q0, hq0⟩ : ∃ x, x = L0.flatMap cloC := ⟨_, rfl⟩
          have hnL : n = L0.length + 1 := by rw [hn, hL0, List.length_append]; rfl
          have hq0l : q0.length = (n - 1) * 3 := by rw [hq0, len_flat (k := 3) (fun _ => rfl), hnL, Nat.add_sub_cancel]
          have hcs2 : cs = q0 ++ [I (iLen f), I (iLen t'), I u] := by rw [hcs, hL0, List.flatMap_append, ← hq0]; rfl
          obtain ⟨o, ho2⟩ : ∃ o, o = (n - 1) * 3 := ⟨_, rfl⟩
          have hixo : A.ixm 3 3 0 n (A.sub .i64 (A.len n) 1) o := by rw [hla]; subst hA ho2; exact ⟨rfl, by unfold iLen; omega, by unfold iLen; omega, by unfold iLen; omega⟩
          have hge : A.get none cs (o + 2) (I u) := by
            subst hA; show cs[o + 2]? = _
            rw [hcs2, List.getElem?_append_right (by omega), ho2, ← hq0l]; simp
          have hof1 : A.off o 1 (o + 1) := by subst hA; exact rfl
          have hof2 : A.off o 2 (o + 2) := by subst hA; exact rfl
          refine And.intro (hsg _) (Exists.intro o (And.intro hixo ?_)); cbv
          refine And.intro (hsg _) (Exists.intro (o + 2) (And.intro hof2 ?_)); cbv
          refine And.intro (hsg _) (Exists.intro _ (And.intro hge ?_)); cbv
          have heq : A.eq u 2 = decide (u = 2) := hee _ _
          split <;> cbv
          · rename_i hz7
            have hz7 := of_decide_eq_true (heq.symm.trans hz7)
            obtain ⟨d2, hd2⟩ : ∃ x, x = q0 ++ [I (iLen f), I i, I u] := ⟨_, rfl⟩
            have hupd : A.upd 1 cs (o + 1) [I i] d2 := by
              subst hA; refine ⟨rfl, by omega, ?_⟩
              have e1 : cs.take (o + 1) = q0 ++ [I (iLen f)] := by
                rw [hcs2, List.take_append, ho2, ← hq0l, List.take_of_length_le (by omega)]; simp
              have e2 : cs.drop (o + 1 + 1) = [I u] := by
                rw [hcs2, List.drop_append, ho2, ← hq0l, List.drop_of_length_le (by omega), show q0.length + 1 + 1 - q0.length = 2 by omega]; rfl
              rw [hd2, e1, e2]; simp
            refine And.intro (hsg _) (Exists.intro o (And.intro hixo ?_)); cbv
            refine And.intro (hsg _) (Exists.intro (o + 1) (And.intro hof1 ?_)); cbv
            refine And.intro (hsg _) (Exists.intro d2 (And.intro hupd ?_)); cbv
            have hln : (L0 ++ [(f, j, u)]).length = n := by rw [List.length_append, hnL]; rfl
            refine hB (L0 ++ [(f, j, u)]) _ _ hk1 (runs_more' (hL0.symm.trans hP) hVj hz7).symm ?_ ⟨rfl, rfl, trivial⟩ (.inl ?_)
            · rw [hln]; exact ⟨rfl, congrArg I (hadd _ hk1 (by omega)), trivial⟩
            · rw [hln, List.flatMap_append, ← hq0, hd2, hi]; rfl
          · rename_i hz7
            have hz7 := of_decide_eq_false (heq.symm.trans hz7)
            refine And.intro (hsg _) (Exists.intro d (Exists.intro (n + 1) (And.intro happ (And.intro rfl ?_)))); cbv
            refine hnew (fun L2 f2 t2 v2 h0 => ?_) _ ⟨rfl, rfl, trivial⟩ ⟨rfl, rfl, trivial⟩
            have h9 := (List.append_inj' (hL0.symm.trans h0) (by simp)).2
            simp at h9
            rw [← h9.2.2]; exact hz7
        · rename_i hz6
          have hn0 : ¬ 0 < n := of_decide_eq_false (hl0.symm.trans hz6)
          refine And.intro (hsg _) (Exists.intro d (Exists.intro (n + 1) (And.intro happ (And.intro rfl ?_)))); cbv
          refine hnew (fun L0 f t' v h0 => ?_) _ ⟨rfl, rfl, trivial⟩ ⟨rfl, rfl, trivial⟩
          rw [hn, h0, List.length_append] at hn0
          exact absurd (Nat.succ_pos _) hn0
  · rename_i hk0
    have hk1 : ¬ j < N := by have hz := hlt.symm.trans hk0; simpa using hz
    clear hk0
    rw [show j = N by omega] at hP
    exact hg n cs V L hV hP hn hcs _
end Go.Sas
