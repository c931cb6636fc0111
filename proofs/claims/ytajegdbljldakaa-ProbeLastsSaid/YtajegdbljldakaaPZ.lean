/-
Probe: the reference's shut: contract.
Probe: the reference's Close: contract.
Conditions: none.
-/
import Derived.Test.YtajegdbljldakaaPY
import Derived.Test.YtajegdbljldakaaPX
import Derived.Test.YtajegdbljldakaaQR38
set_option linter.unusedVariables false
set_option linter.unusedSimpArgs false
namespace Go.Sas
open Go.Proofs
set_option maxRecDepth 100000
theorem hrsF_sub {m : List Mrk} {k N : Nat} {x : Mrk} (hs : 0 ≤ x.s) : ∀ {j p : Nat}, p < N → (hrsF m k N x j).2 p = true → (hrsF m k N x j).1 p = true
  | 0, _, _, h => h
  | j + 1, p, hp, h => by
    have h : (((hrsF m k N x j).2 p) && !((m.drop 0).any (takesB (x.h + iLen (j + 1)) p))) = true := h
    show ((sprF N x.s (hrsF m k N x j).1 p) && !((m.drop 0).any (takesB (x.h + iLen (j + 1)) p))) = true
    rw [Bool.and_eq_true] at h ⊢
    refine ⟨?_, h.2⟩
    unfold sprF
    rw [List.any_eq_true]
    refine ⟨p, List.mem_range.2 hp, ?_⟩
    rw [hrsF_sub hs hp h.1, Bool.true_and, decide_eq_true_eq]; constructor <;> omega
theorem covB_sub {m : List Mrk} {k N : Nat} {h : Int} {p : Nat} (hm : ∀ x ∈ m, 0 ≤ x.s) (hk : k < m.length) (hp : p < N) (h1 : (covB m k h N).2 p = true) : (covB m k h N).1 p = true := by
  unfold covB at h1 ⊢
  split at h1
  · cases h1
  · rename_i hc
    rw [if_neg hc]
    refine hrsF_sub ?_ hp h1
    rw [List.getD_eq_getElem?_getD, List.getElem?_eq_getElem hk]; exact hm _ (List.getElem_mem _)
theorem may_verd {m : List Mrk} {N : Nat} {h : Int} (hm : ∀ x ∈ m, MkOk (iLen N) x) {p : Nat} (hp : p < N) : verdS m h (iLen N) p ≠ 2 ↔ mayB m h N m.length p = true := by
  have e : verdS m h (iLen N) p = vofB (mayB m h N m.length p) (sureB m h N m.length p) := verd_eq hm hp
  rw [e]
  unfold vofB
  by_cases c1 : sureB m h N m.length p = true
  · rw [if_pos c1]
    have : mayB m h N m.length p = true := by
      unfold sureB at c1; rw [List.any_eq_true] at c1
      obtain ⟨j, hj, h1⟩ := c1
      unfold mayB; rw [List.any_eq_true]
      exact ⟨j, hj, covB_sub (fun x hx => (hm x hx).2.2.2.2.2.1) (List.mem_range.1 hj) hp h1⟩
    rw [this]; simp
  · rw [if_neg c1]
    by_cases c2 : mayB m h N m.length p = true
    · rw [if_pos c2, c2]; simp
    · rw [if_neg c2]; simp [c2]
theorem p89 (rs : List Rch) (a b c : Int) (l : List Lk) (m : List Mrk) (need h0 : Int) (ho : RoadOk rs) (hs : SgtOk a b c) (hl : l.length ≤ 1000000) (hL : ∀ x ∈ l, LkOk (sumLg rs) x) (hml : m.length ≤ 1000) (hm : ∀ x ∈ m, MkOk (sumLg rs) x) (hh : 0 ≤ h0 ∧ h0 ≤ 10000) (H : AHeap) {Kk : AV → AHeap → Prop}
    (h : Kk (.vs 1 (((List.range (plc rs).length).map (whyS (plc rs) a b c l m need h0)).map I)) H) : ACalls Try.prog 89 [svV (.vs 5 (rs.map rcV)) a b c, .vs 5 (l.map lkV), .vs 5 (m.map mkV), I need, I h0] H Kk := by
  have hnr := nidL_rc rs
  refine (fun q => pureF (by simp [AV.nidL, AV.nid, hnr, nidL_map (g := lkV) (fun _ => rfl) l, nidL_map (g := mkV) (fun _ => rfl) m]) (by simp [AV.nid, nidL_map (g := I) (fun _ => rfl)]) q H h) ?_
  clear h
  intro Kk h
  have hRl := ho.ilen
  have hpn := ho.le'
  obtain ⟨xs, hxs⟩ : ∃ xs, xs = rs.map rcV := ⟨_, rfl⟩
  obtain ⟨ls, hls⟩ : ∃ ys, ys = l.map lkV := ⟨_, rfl⟩
  obtain ⟨ms, hms⟩ : ∃ ys, ys = m.map mkV := ⟨_, rfl⟩
  rw [← hxs, ← hls, ← hms]
  obtain ⟨N, hN⟩ : ∃ N, N = (plc rs).length := ⟨_, rfl⟩
  rw [← hN] at hRl hpn h
  obtain ⟨W, hW⟩ : ∃ W, W = whyS (plc rs) a b c l m need h0 := ⟨_, rfl⟩
  rw [← hW] at h
  have hmN : ∀ x ∈ m, MkOk (iLen N) x := by rw [hRl]; exact hm
  have hWp : ∀ p, p < N → W p = if (knowS (plc rs) l p h0).1 < need then 1 else if mayB m h0 N m.length p = true then 2 else if staleS (plc rs) a b c l h0 p = true then 3 else 0 := fun p hp => by
    rw [hW]; unfold whyS; rw [← hN]
    have := may_verd (h := h0) hmN hp
    by_cases c1 : (knowS (plc rs) l p h0).1 < need
    · rw [if_pos c1, if_pos c1]
    · rw [if_neg c1, if_neg c1]
      by_cases c2 : mayB m h0 N m.length p = true
      · rw [if_pos c2, if_pos (this.2 c2)]
      · rw [if_neg c2, if_neg (fun hq => c2 (this.1 hq))]
  obtain ⟨CS, hCS⟩ : ∃ f : Nat → List AV, f = fun p => rowI N fun q => if q < p then W q else 0 := ⟨_, rfl⟩
  obtain ⟨F, hF⟩ : ∃ F, F = Frees 0 Kk := ⟨_, rfl⟩
  rw [← hF]
  have hend : ∀ X, F (aTup [.ms 1 1 0 0 N]) [X, .own 0 (CS N)] := by
    intro X
    rw [hF]
    have e : CS N = ((List.range N).map W).map I := by rw [hCS, ← rowA_map]; exact rowA_congr fun q hq => by dsimp only; rw [if_pos hq]
    rw [e]
    refine Frees.frz 1 0 1 (((List.range N).map W).map I) rfl (Elems_I _) ?_
    have e2 : AV.frz 1 0 1 (((List.range N).map W).map I) (aTup [.ms 1 1 0 0 N]) = .vs 1 (((List.range N).map W).map I) := frz_self (by simp)
    rw [e2]
    exact Frees.drop0 h (by simp [AV.nid, nidL_map (g := I) (fun _ => rfl)])
  obtain ⟨A, hA⟩ : ∃ A, A = std := ⟨_, rfl⟩
  have hne : ∀ x y, A.ne x y = decide (x ≠ y) := by subst hA; intro x y; simp only [std, iNe]; rw [Bool.eq_iff_iff]; simp
  have hee : ∀ x y, A.eq x y = decide (x = y) := by subst hA; intro x y; exact iEq_dec _ _
  have hll : ∀ x y, A.lt x y = decide (x < y) := by subst hA; intro x y; rfl
  have hle : ∀ x y, A.le x y = decide (x ≤ y) := by subst hA; intro x y; rfl
  have hnb : ∀ b, A.bnot b = !b := by subst hA; intro b; rfl
  have hbd : ∀ x y, A.band x y = (x && y) := by subst hA; intro x y; rfl
  have hsg : ∀ g, A.sg g g := by subst hA; exact fun _ => rfl
  refine go89 rfl ?_
  refine AGo_opq fun RR hRR => ?_
  refine SGo_run hA ⟨[1], [], (86, eCover86) :: [], []⟩ (.cons eCover86_ok .nil) .nil 200 fun T TD hT hTD => ?_
  cbv
  refine Exists.intro rs (Exists.intro m (And.intro ⟨hxs, hms, ho, hml, hm, hh⟩ ?_))
  rw [← hN]
  intro ys zs hys hzs; cbv
  have hyl : A.vlen ys = iLen N := by subst hA; rw [hys]; simp [std, covR]
  have hlN : A.len N = iLen N := by subst hA; rfl
  have hmk : A.mkz 1 8 [.int .i64 0] (A.vlen ys) (A.vlen ys) (CS 0) N := by
    rw [hyl]; subst hA; rw [hCS]
    have : (rowI N fun q => if q < 0 then W q else 0) = rowA N fun _ => .lit (.int .i64 0) := rowA_congr fun q _ => by simp
    dsimp only; rw [this]; exact mkS_rowA rfl (by omega) (by omega)
  refine Exists.intro _ (Exists.intro _ (And.intro hmk ?_)); cbv
  rw [hT]
  refine AGo_upE [1, 3, 4, 5, 11, 13] N (fun j (_ : Unit) => True) (fun j _ i => [(14, I i)]) (fun j _ => [.own 0 [.vs 5 xs, I a, I b, I c], .own 0 (CS j)]) () trivial ⟨rfl, trivial⟩ (.inl rfl) fun p _ ip hip hp hP Bk hB => ?_
  obtain ⟨c1, hc1⟩ : ∃ r, r = CS p := ⟨_, rfl⟩
  rw [← hc1]
  have hlt : A.lt ip (A.len N) = decide (p < N) := by rw [hlN, hll, hip, decide_eq_decide]; unfold iLen; omega
  refine SGo_run hA ⟨[1], [], (87, eKnow) :: (95, eStale1) :: [], []⟩ (.cons eKnow_ok (.cons eStale1_ok .nil)) .nil 200 fun T TD hT hTD => ?_
  cbv
  split <;> cbv
  · rename_i hz
    have hpN : p < N := of_decide_eq_true (hlt.symm.trans hz)
    have hadp : A.add .i64 ip 1 = iLen (p + 1) := by subst hA; exact add_one (N := 1000) hip (by omega) (by omega)
    have hixp : A.ixm 1 1 0 N ip p := by subst hA; exact ixm1 hip hpN
    have hipn : ip.toNat = p := by rw [hip]; unfold iLen; omega
    have hpb : 0 ≤ ip ∧ ip < sumLg rs := by rw [hip, ← hRl]; unfold iLen; omega
    have hWp := hWp p hpN
    obtain ⟨c2, hc2⟩ : ∃ r, r = CS (p + 1) := ⟨_, rfl⟩
    have hup : ∀ v, W p = v → A.upd 1 c1 p [I v] c2 := fun v hv => by
      subst hA; rw [hc1, hc2, hCS]
      refine updS_rowA hpN fun q _ => ?_
      dsimp only
      by_cases hq : q = p
      · rw [if_pos hq, if_pos (by omega), hq, hv]
      · rw [if_neg hq]; simp only [show q < p + 1 ↔ q < p by omega]
    have hno : W p = 0 → c1 = c2 := fun hv => by
      rw [hc1, hc2, hCS]; dsimp only
      refine rowA_congr fun q hq => congrArg I ?_
      dsimp only
      by_cases h1 : q < p
      · rw [if_pos h1, if_pos (by omega)]
      · rw [if_neg h1]
        by_cases h2 : q = p
        · rw [if_pos (by omega), h2, hv]
        · rw [if_neg (by omega)]
    refine And.intro (hsg _) (Exists.intro rs (Exists.intro l (And.intro hxs (And.intro hls (And.intro ho (And.intro hl (And.intro hL (And.intro hpb (And.intro hh ?_)))))))))
    intro u v huv; cbv
    rw [hipn] at huv
    have hu : u = (knowS (plc rs) l p h0).1 := congrArg Prod.fst huv
    rw [← hu] at hWp
    have hlu : A.lt u need = decide (u < need) := hll _ _
    have hx1 : A.ix 1 1 ys ip [B (mayB m h0 N m.length p)] := covR_ix hA hys hip hpN
    obtain ⟨mb, hmb⟩ : ∃ b, b = mayB m h0 N m.length p := ⟨_, rfl⟩
    rw [← hmb] at hx1 hWp
    split <;> cbv
    · rename_i hz1
      have hz1 := of_decide_eq_true (hlu.symm.trans hz1)
      rw [if_pos hz1] at hWp
      refine And.intro (hsg _) (Exists.intro p (And.intro hixp ?_)); cbv
      refine And.intro (hsg _) (Exists.intro _ (And.intro (hup _ hWp) ?_)); cbv
      exact hB () _ _ hpN trivial ⟨congrArg I hadp, trivial⟩ ⟨rfl, rfl, rfl, rfl, rfl, rfl, trivial⟩ (.inl (by rw [hc2]))
    rename_i hz1
    have hz1 := of_decide_eq_false (hlu.symm.trans hz1)
    rw [if_neg hz1] at hWp
    refine Exists.intro _ (And.intro hx1 ?_); cbv
    cases mb with
    | true =>
      cbv
      refine And.intro (hsg _) (Exists.intro p (And.intro hixp ?_)); cbv
      refine And.intro (hsg _) (Exists.intro _ (And.intro (hup _ hWp) ?_)); cbv
      exact hB () _ _ hpN trivial ⟨congrArg I hadp, trivial⟩ ⟨rfl, rfl, rfl, rfl, rfl, rfl, trivial⟩ (.inl (by rw [hc2]))
    | false =>
      cbv
      refine Exists.intro rs (Exists.intro l (And.intro hxs (And.intro hls (And.intro ho (And.intro hs (And.intro hl (And.intro hL (And.intro hpb (And.intro hh ?_)))))))))
      intro st hst; cbv
      have hst : st = staleS (plc rs) a b c l h0 p := by rw [hst]; rw [hipn]
      rw [if_neg (by decide), ← hst] at hWp
      cases st with
      | true =>
        cbv
        refine And.intro (hsg _) (Exists.intro p (And.intro hixp ?_)); cbv
        refine And.intro (hsg _) (Exists.intro _ (And.intro (hup _ hWp) ?_)); cbv
        exact hB () _ _ hpN trivial ⟨congrArg I hadp, trivial⟩ ⟨rfl, rfl, rfl, rfl, rfl, rfl, trivial⟩ (.inl (by rw [hc2]))
      | false =>
        cbv
        exact hB () _ _ hpN trivial ⟨congrArg I hadp, trivial⟩ ⟨rfl, rfl, rfl, rfl, rfl, rfl, trivial⟩ (.inl (by rw [hno hWp, hc2]))
  · rename_i hz
    have hpN : ¬ p < N := of_decide_eq_false (hlt.symm.trans hz)
    refine And.intro (hsg _) (hRR _ _ ?_)
    cbv
    rw [hc1, show p = N by omega]
    exact hend _
end Go.Sas
namespace Go.Sas
open Go.Proofs
set_option maxRecDepth 100000
def eShut : List AV → Option ((AV → Prop) → Prop)
  | [.agg [.vs 5 xs, .lit (.int .i64 a), .lit (.int .i64 b), .lit (.int .i64 c)], .vs 5 ls, .vs 5 ms, .lit (.int .i64 need), .lit (.int .i64 h)] =>
    some fun K => ∃ (rs : List Rch) (l : List Lk) (m : List Mrk), (xs = rs.map rcV ∧ ls = l.map lkV ∧ ms = m.map mkV ∧ RoadOk rs ∧ SgtOk a b c ∧ l.length ≤ 1000000 ∧ (∀ x ∈ l, LkOk (sumLg rs) x) ∧ m.length ≤ 1000 ∧ (∀ x ∈ m, MkOk (sumLg rs) x) ∧ (0 ≤ h ∧ h ≤ 10000)) ∧
      ∀ ys, ys = ((List.range (plc rs).length).map (whyS (plc rs) a b c l m need h)).map I → K (.vs 1 ys)
  | _ => none
theorem eShut_ok : ∀ args pt, eShut args = some pt → ∀ (H : AHeap) (Kk : AV → AHeap → Prop), pt (fun r => Kk r H) → ACalls Try.prog 89 args H Kk := by
  intro args pt h H Kk hk
  unfold eShut at h
  split at h
  · cases h
    obtain ⟨rs, l, m, ⟨rfl, rfl, rfl, h1, h2, h3, h4, h5, h6, h7⟩, h8⟩ := hk
    exact p89 rs _ _ _ l m _ _ h1 h2 h3 h4 h5 h6 h7 H (h8 _ rfl)
  · cases h
theorem cloS_no {V : Nat → Int} {j : Nat} (h : V j = 0) : cloS V (j + 1) = cloS V j := by
  unfold cloS
  rcases j with _ | m
  · show List.filter _ [(0, 0, V 0)] = _
    rw [h]; rfl
  · obtain ⟨l, f, h1, _⟩ := runsN_last (V := V) (n := m)
    by_cases h2 : V m = V (m + 1)
    · rw [runsN_more h1 h2, h1, List.filter_append, List.filter_append, h2, h]; simp
    · rw [runsN_new (.inr h2), List.filter_append, h]; simp
theorem cloS_new {V : Nat → Int} {j : Nat} {v : Int} (hv : V j = v) (h0 : v ≠ 0) {L : List (Nat × Nat × Int)} (hL : L = cloS V j) (hn : ∀ L0 f t u, L = L0 ++ [(f, t, u)] → ¬ (t + 1 = j ∧ u = v)) : cloS V (j + 1) = L ++ [(j, j, v)] := by
  subst hv hL
  unfold cloS at *
  rcases j with _ | m
  · show List.filter _ [(0, 0, V 0)] = _
    simp [h0, runsN]
  · obtain ⟨l, f, h1, _⟩ := runsN_last (V := V) (n := m)
    by_cases h2 : V m = V (m + 1)
    · refine absurd ⟨rfl, h2⟩ (hn (l.filter fun x => decide (x.2.2 ≠ 0)) f m (V m) ?_)
      rw [h1, List.filter_append]; congr 1
      simp [h2, h0]
    · rw [runsN_new (.inr h2), List.filter_append]; simp [h0]
theorem cloS_more {V : Nat → Int} {j : Nat} {v : Int} (hv : V j = v) {L0 : List (Nat × Nat × Int)} {f t : Nat} {u : Int} (h1 : L0 ++ [(f, t, u)] = cloS V j) (h2 : t + 1 = j) (hu : u = v) : cloS V (j + 1) = L0 ++ [(f, j, u)] := by
  subst h2
  obtain ⟨l, f', h3, _⟩ := runsN_last (V := V) (n := t)
  have h4 : (f, t, u) ∈ (runsN V (t + 1)).filter fun x => decide (x.2.2 ≠ 0) := by
    show (f, t, u) ∈ cloS V (t + 1)
    rw [← h1]; simp
  obtain ⟨h5, h6⟩ := List.mem_filter.1 h4
  have h6 : u ≠ 0 := of_decide_eq_true h6
  obtain ⟨h7, _, h8⟩ := runsN_mem h5
  have h8 : V t = u := h8 t h7 (Nat.le_refl _)
  unfold cloS at *
  rw [h3, List.filter_append, h8] at h1
  rw [runsN_more h3 (by rw [h8, hu, hv]), List.filter_append, h8]
  have e : List.filter (fun x : Nat × Nat × Int => decide (x.2.2 ≠ 0)) [(f', t, u)] = [(f', t, u)] := by simp [h6]
  rw [e] at h1
  have h9 := List.append_inj' h1 (by simp)
  have h10 := h9.2
  simp at h10
  rw [h9.1, h10]; simp [h6]
theorem cloS_len {V : Nat → Int} {n : Nat} : (cloS V n).length ≤ n := Nat.le_trans (List.length_filter_le _ _) runsN_len
set_option maxHeartbeats 1000000 in
theorem p51 (rs : List Rch) (a b c : Int) (l : List Lk) (m : List Mrk) (need h0 : Int) (h1 : rs.length ≤ 9223372036854775807) (h2 : l.length ≤ 9223372036854775807) (h3 : m.length ≤ 9223372036854775807) (H : AHeap) {Kk : AV → AHeap → Prop}
    (h : Kk (.tup [.vs 3 ((closeL rs a b c l m need h0).map cloV), I (askE rs a b c l m need h0)]) H) : ACalls Try.prog 51 [svV (.vs 5 (rs.map rcV)) a b c, .vs 5 (l.map lkV), .vs 5 (m.map mkV), I need, I h0] H Kk := by
  have hnr := nidL_rc rs
  refine (fun q => pureF (by simp [AV.nidL, AV.nid, hnr, nidL_map (g := lkV) (fun _ => rfl) l, nidL_map (g := mkV) (fun _ => rfl) m]) (by simp [AV.nidL, AV.nid, nidL_map (g := cloV) (fun _ => rfl)]) q H h) ?_
  clear h
  intro Kk h
  obtain ⟨xs, hxs⟩ : ∃ xs, xs = rs.map rcV := ⟨_, rfl⟩
  obtain ⟨ls, hls⟩ : ∃ ys, ys = l.map lkV := ⟨_, rfl⟩
  obtain ⟨ms, hms⟩ : ∃ ys, ys = m.map mkV := ⟨_, rfl⟩
  rw [← hxs, ← hls, ← hms]
  obtain ⟨E, hE⟩ : ∃ E, E = askE rs a b c l m need h0 := ⟨_, rfl⟩
  rw [← hE] at h
  obtain ⟨F, hF⟩ : ∃ F, F = Frees 0 Kk := ⟨_, rfl⟩
  rw [← hF]
  have hw : ∀ e H1, E = e → e ≠ 0 → F (.tup [NS, I e]) H1 := fun e H1 he h0 => by
    unfold closeL at h; rw [← hE, he, if_neg h0] at h
    rw [hF]
    exact Frees.wk (r' := .tup [.vs 3 [], I e]) (Wk.tup ⟨Wk.nil, Wk.rfl, trivial⟩) (Frees.drop0 h rfl)
  have hg : E = 0 → ∀ n cs V L, V = whyS (plc rs) a b c (pastL l h0) (pastM m h0) need h0 → L = cloS V (plc rs).length → n = L.length → cs = L.flatMap cloC → ∀ X0, F (.tup [.ms 3 1 n 0 n, I 0]) [X0, .own n cs] := fun h0 n cs V L hV hL hn hcs X0 => by
    unfold closeL at h; rw [← hE, if_pos h0, h0, ← hV, ← hL] at h
    rw [hF, hcs]
    refine Frees.frz 1 n 3 (L.map cloV) rfl (Elems_map (f := cloV) (g := cloC) (sz := 3) (fun _ => rfl) (fun _ => rfl) (fun _ => rfl) _) ?_
    have e : AV.frz 1 n 3 (L.map cloV) (.ms 3 1 n 0 n) = .vs 3 (L.map cloV) := frz_self (by simp [hn])
    have e2 : AV.frz 1 n 3 (L.map cloV) (.tup [.ms 3 1 n 0 n, I 0]) = .tup [.vs 3 (L.map cloV), I 0] := by
      show AV.tup [AV.frz 1 n 3 (L.map cloV) (.ms 3 1 n 0 n), I 0] = _
      rw [e]
    rw [e2]
    exact Frees.drop0 h (by simp [AV.nidL, AV.nid, nidL_map (g := cloV) (fun _ => rfl)])
  obtain ⟨A, hA⟩ : ∃ A, A = std := ⟨_, rfl⟩
  have hne : ∀ x y, A.ne x y = decide (x ≠ y) := by subst hA; intro x y; simp only [std, iNe]; rw [Bool.eq_iff_iff]; simp
  have hee : ∀ x y, A.eq x y = decide (x = y) := by subst hA; intro x y; exact iEq_dec _ _
  have hll : ∀ x y, A.lt x y = decide (x < y) := by subst hA; intro x y; rfl
  have hle : ∀ x y, A.le x y = decide (x ≤ y) := by subst hA; intro x y; rfl
  have hnb : ∀ b, A.bnot b = !b := by subst hA; intro b; rfl
  have hbd : ∀ x y, A.band x y = (x && y) := by subst hA; intro x y; rfl
  have hsg : ∀ g, A.sg g g := by subst hA; exact fun _ => rfl
  refine go51 rfl (SGo_run hA ⟨[], [], (88, eGate) :: (90, ePastL) :: (91, ePastM) :: (89, eShut) :: [], []⟩ (.cons eGate_ok (.cons ePastL_ok (.cons ePastM_ok (.cons eShut_ok .nil)))) .nil 200 fun T TD hT hTD => ?_)
  cbv
  refine Exists.intro rs (Exists.intro l (Exists.intro m (And.intro ⟨hxs, hls, hms, h1, h2, h3⟩ ?_)))
  intro q hq; cbv
  split <;> cbv
  · rename_i hz
    have hz : q ≠ 0 := of_decide_eq_true ((hne q 0).symm.trans hz)
    exact hw q _ (by rw [hE, ← hq]) hz
  rename_i hz
  have hz : q = 0 := by have hz := of_decide_eq_false ((hne q 0).symm.trans hz); simpa using hz
  have hE0 := hq.symm.trans hz
  have hg := hg (hE.trans hE0)
  clear hw
  obtain ⟨ho, hs, hlo, hm1, hm2, _, hh⟩ := askE_ok.1 hE0
  have hll1 := hlo.le
  have hpn := ho.le'
  have hRl := ho.ilen
  obtain ⟨N, hN⟩ : ∃ N, N = (plc rs).length := ⟨_, rfl⟩
  rw [← hN] at hpn hg hRl
  refine Exists.intro l (And.intro ⟨hls, by omega⟩ ?_)
  intro la hla; cbv
  refine Exists.intro m (And.intro ⟨hms, by omega⟩ ?_)
  intro ma hma; cbv
  refine Exists.intro rs (Exists.intro (pastL l h0) (Exists.intro (pastM m h0) (And.intro ⟨hxs, hla, hma, ho, hs, ?_, fun x hx => hlo.all' ho x (pastL_mem hx), ?_, fun x hx => hm2 x (pastM_mem hx), hh⟩ ?_)))
  · have := pastL_len (l := l) (h := h0); omega
  · have := pastM_len (l := m) (h := h0); omega
  obtain ⟨V, hV⟩ : ∃ V, V = whyS (plc rs) a b c (pastL l h0) (pastM m h0) need h0 := ⟨_, rfl⟩
  rw [← hN, ← hV]
  intro vs hvs; cbv
  rw [hT]
  refine AGo_nilms 14 3 rfl ?_
  refine AGo_upE [13] N (fun j (L : List (Nat × Nat × Int)) => L = cloS V j) (fun j L i => [(14, .ms 3 1 L.length 0 L.length), (15, I i)]) (fun j L => [.own 0 [.vs 5 xs, I a, I b, I c], .own L.length (L.flatMap cloC)]) [] rfl ⟨rfl, rfl, trivial⟩ (.inl rfl) fun j L i hi hj hP Bk hB => ?_
  have hadd : ∀ N, j < N → N ≤ 9223372036854775807 → A.add .i64 i 1 = iLen (j + 1) := fun N hj hN => by subst hA; exact add_one hi hj hN
  have hLj : L.length ≤ j := by rw [hP]; exact cloS_len
  obtain ⟨n, hn⟩ : ∃ n, n = L.length := ⟨_, rfl⟩
  obtain ⟨cs, hcs⟩ : ∃ c, c = L.flatMap cloC := ⟨_, rfl⟩
  have hcl : cs.length = n * 3 := by rw [hcs, hn, len_flat (k := 3) (fun _ => rfl)]
  rw [← hn, ← hcs]
  rw [← hn] at hLj
  have hvl : A.vlen vs = iLen N := by subst hA; rw [hvs]; simp [std]
  have hlt : A.lt i (A.vlen vs) = decide (j < N) := by rw [hvl, hll, hi, decide_eq_decide]; unfold iLen; omega
  refine SGo_run hA ⟨[1], [], [], []⟩ .nil .nil 200 fun T TD hT hTD => ?_
  cbv
  split <;> cbv
  · rename_i hk0
    have hk1 : j < N := by have hz := hlt.symm.trans hk0; simpa using hz
    clear hk0
    have hib : 0 ≤ i ∧ i ≤ 1000 := by rw [hi]; unfold iLen; omega
    obtain ⟨v, hv⟩ : ∃ v, v = V j := ⟨_, rfl⟩
    have hix : A.ix 1 1 vs i [I v] := by
      subst hA; refine ix_map (l := (List.range N).map V) (f := I) hvs hi (x := v) ?_ rfl
      rw [List.getElem?_map, List.getElem?_range hk1, hv]; rfl
    have hv0 : A.eq v 0 = decide (v = 0) := hee _ _
    refine Exists.intro _ (And.intro hix ?_); cbv
    split <;> cbv
    · rename_i hz5
      have hz5 := of_decide_eq_true (hv0.symm.trans hz5)
      refine hB L _ _ hk1 (hP.trans (cloS_no (hv.symm.trans hz5)).symm) ?_ ⟨rfl, trivial⟩ (.inl ?_)
      · rw [← hn]; exact ⟨rfl, congrArg I (hadd _ hk1 (by omega)), trivial⟩
      · rw [← hn, ← hcs]
    rename_i hz5
    have hz5 := of_decide_eq_false (hv0.symm.trans hz5)
    have hVj : V j = v := hv.symm
    have hl0 : A.lt 0 (A.len n) = decide (0 < n) := by subst hA; show decide ((0 : Int) < iLen n) = _; rw [decide_eq_decide]; unfold iLen; omega
    have hla1 : A.sub .i64 (A.len n) 1 = iLen n - 1 := by subst hA; exact iSub_id (by show _ ≤ iLen n - 1; unfold iLen; omega) (by show iLen n - 1 ≤ _; unfold iLen; omega)
    obtain ⟨d, hd⟩ : ∃ x, x = cs ++ [I i, I i, I v] := ⟨_, rfl⟩
    have happ : A.app 3 3 24 cs 0 n [.agg [I i, I i, I v]] d (n + 1) := by subst hA; rw [hd]; exact app_one hcl rfl (by omega)
    have hnew : (∀ L0 f t' u, L = L0 ++ [(f, t', u)] → ¬ (t' + 1 = j ∧ u = v)) → ∀ e', Fits e' [(14, .ms 3 1 (n + 1) 0 (n + 1)), (15, I (A.add .i64 i 1))] → Fits e' (keepS [13] [(14, .ms 3 1 n 0 n), (15, I i), (13, .vs 1 vs)]) → Bk e' [.own 0 [.vs 5 xs, I a, I b, I c], .own (n + 1) d] := fun h0 e' hf hk => by
      rw [hadd _ hk1 (by omega)] at hf
      have hln : (L ++ [(j, j, v)]).length = n + 1 := by rw [List.length_append, ← hn]; rfl
      refine hB (L ++ [(j, j, v)]) _ _ hk1 (cloS_new hVj hz5 hP h0).symm ?_ hk (.inl ?_)
      · rw [hln]; exact hf
      · rw [hln, List.flatMap_append, ← hcs, hd, hi]; rfl
    refine And.intro (hsg _) ?_
    split <;> cbv
    · rename_i hz6
      have hn0 : 0 < n := of_decide_eq_true (hl0.symm.trans hz6)
      obtain ⟨L0, ⟨f, t', u⟩, hL0⟩ : ∃ L0 x, L = L0 ++ [x] := by
        rcases List.eq_nil_or_concat L with h | ⟨L0, x, h⟩
        · rw [hn, h] at hn0; exact absurd hn0 (by simp)
        · exact ⟨L0, x, by rw [h, List.concat_eq_append]⟩
      obtain ⟨q0, hq0⟩ : ∃ x, x = L0.flatMap cloC := ⟨_, rfl⟩
      have hnL : n = L0.length + 1 := by rw [hn, hL0, List.length_append]; rfl
      have hq0l : q0.length = (n - 1) * 3 := by rw [hq0, len_flat (k := 3) (fun _ => rfl), hnL, Nat.add_sub_cancel]
      have hcs2 : cs = q0 ++ [I (iLen f), I (iLen t'), I u] := by rw [hcs, hL0, List.flatMap_append, ← hq0]; rfl
      obtain ⟨o, ho2⟩ : ∃ o, o = (n - 1) * 3 := ⟨_, rfl⟩
      have hixo : A.ixm 3 3 0 n (A.sub .i64 (A.len n) 1) o := by rw [hla1]; subst hA ho2; exact ⟨rfl, by unfold iLen; omega, by unfold iLen; omega, by unfold iLen; omega⟩
      obtain ⟨it, hit⟩ : ∃ x, x = iLen t' := ⟨_, rfl⟩
      have hge1 : A.get none cs (o + 1) (I it) := by
        subst hA; show cs[o + 1]? = _
        rw [hcs2, List.getElem?_append_right (by omega), ho2, ← hq0l, hit]; simp
      have hge2 : A.get none cs (o + 2) (I u) := by
        subst hA; show cs[o + 2]? = _
        rw [hcs2, List.getElem?_append_right (by omega), ho2, ← hq0l]; simp
      have hof1 : A.off o 1 (o + 1) := by subst hA; exact rfl
      have hof2 : A.off o 2 (o + 2) := by subst hA; exact rfl
      have hlast : ∀ L2 f2 t2 v2, L = L2 ++ [(f2, t2, v2)] → t' = t2 ∧ u = v2 := fun L2 f2 t2 v2 h0 => by
        have h9 := (List.append_inj' (hL0.symm.trans h0) (by simp)).2
        simp at h9
        exact ⟨h9.2.1, h9.2.2⟩
      have hi1 : A.sub .i64 i 1 = i - 1 := by subst hA; exact iSub_id (by omega) (by omega)
      have heq1 : A.eq it (A.sub .i64 i 1) = decide (t' + 1 = j) := by rw [hi1, hee, decide_eq_decide, hit, hi]; unfold iLen; omega
      have heq2 : A.eq u v = decide (u = v) := hee _ _
      refine And.intro (hsg _) (Exists.intro o (And.intro hixo ?_)); cbv
      refine And.intro (hsg _) (Exists.intro (o + 1) (And.intro hof1 ?_)); cbv
      refine And.intro (hsg _) (Exists.intro _ (And.intro hge1 ?_)); cbv
      split <;> cbv
      · rename_i hz7
        have hz7 := of_decide_eq_true (heq1.symm.trans hz7)
        refine And.intro (hsg _) (Exists.intro o (And.intro hixo ?_)); cbv
        refine And.intro (hsg _) (Exists.intro (o + 2) (And.intro hof2 ?_)); cbv
        refine And.intro (hsg _) (Exists.intro _ (And.intro hge2 ?_)); cbv
        refine Exists.intro _ (And.intro hix ?_); cbv
        split <;> cbv
        · rename_i hz8
          have hz8 := of_decide_eq_true (heq2.symm.trans hz8)
          obtain ⟨d2, hd2⟩ : ∃ x, x = q0 ++ [I (iLen f), I i, I u] := ⟨_, rfl⟩
          have hupd : A.upd 1 cs (o + 1) [I i] d2 := by
            subst hA; refine ⟨rfl, by omega, ?_⟩
            have e1 : cs.take (o + 1) = q0 ++ [I (iLen f)] := by
              rw [hcs2, List.take_append, ho2, ← hq0l, List.take_of_length_le (by omega)]; simp
            have e2 : cs.drop (o + 1 + 1) = [I u] := by
              rw [hcs2, List.drop_append, ho2, ← hq0l, List.drop_of_length_le (by omega), show q0.length + 1 + 1 - q0.length = 2 by omega]; rfl
            rw [hd2, e1, e2]; simp
          refine And.intro (hsg _) (Exists.intro o (And.intro hixo ?_)); cbv
          refine And.intro (hsg _) (Exists.intro (o + 1) (And.intro hof1 ?_)); cbv
          refine And.intro (hsg _) (Exists.intro d2 (And.intro hupd ?_)); cbv
          have hln : (L0 ++ [(f, j, u)]).length = n := by rw [List.length_append, hnL]; rfl
          refine hB (L0 ++ [(f, j, u)]) _ _ hk1 (cloS_more hVj (hL0.symm.trans hP) hz7 hz8).symm ?_ ⟨rfl, trivial⟩ (.inl ?_)
          · rw [hln]; exact ⟨rfl, congrArg I (hadd _ hk1 (by omega)), trivial⟩
          · rw [hln, List.flatMap_append, ← hq0, hd2, hi]; rfl
        · rename_i hz8
          have hz8 := of_decide_eq_false (heq2.symm.trans hz8)
          refine Exists.intro _ (And.intro hix ?_); cbv
          refine And.intro (hsg _) (Exists.intro d (Exists.intro (n + 1) (And.intro happ (And.intro rfl ?_)))); cbv
          refine hnew (fun L2 f2 t2 v2 h0 hc => ?_) _ ⟨rfl, rfl, trivial⟩ ⟨rfl, trivial⟩
          exact hz8 ((hlast _ _ _ _ h0).2.trans hc.2)
      · rename_i hz7
        have hz7 := of_decide_eq_false (heq1.symm.trans hz7)
        refine Exists.intro _ (And.intro hix ?_); cbv
        refine And.intro (hsg _) (Exists.intro d (Exists.intro (n + 1) (And.intro happ (And.intro rfl ?_)))); cbv
        refine hnew (fun L2 f2 t2 v2 h0 hc => ?_) _ ⟨rfl, rfl, trivial⟩ ⟨rfl, trivial⟩
        exact hz7 (by rw [(hlast _ _ _ _ h0).1]; exact hc.1)
    · rename_i hz6
      have hn0 : ¬ 0 < n := of_decide_eq_false (hl0.symm.trans hz6)
      refine Exists.intro _ (And.intro hix ?_); cbv
      refine And.intro (hsg _) (Exists.intro d (Exists.intro (n + 1) (And.intro happ (And.intro rfl ?_)))); cbv
      refine hnew (fun L0 f t' v h0 => ?_) _ ⟨rfl, rfl, trivial⟩ ⟨rfl, trivial⟩
      rw [hn, h0, List.length_append] at hn0
      exact absurd (Nat.succ_pos _) hn0
  · rename_i hk0
    have hk1 : ¬ j < N := by have hz := hlt.symm.trans hk0; simpa using hz
    clear hk0
    rw [show j = N by omega] at hP
    exact hg n cs V L hV hP hn hcs _
def eClose51 : List AV → Option ((AV → Prop) → Prop)
  | [.agg [.vs 5 xs, .lit (.int .i64 a), .lit (.int .i64 b), .lit (.int .i64 c)], .vs 5 ls, .vs 5 ms, .lit (.int .i64 need), .lit (.int .i64 h)] =>
    some fun K => ∃ (rs : List Rch) (l : List Lk) (m : List Mrk), (xs = rs.map rcV ∧ ls = l.map lkV ∧ ms = m.map mkV ∧ rs.length ≤ 9223372036854775807 ∧ l.length ≤ 9223372036854775807 ∧ m.length ≤ 9223372036854775807) ∧
      ∀ e ys, e = askE rs a b c l m need h → ys = (closeL rs a b c l m need h).map cloV → K (.tup [.vs 3 ys, I e])
  | _ => none
theorem eClose51_ok : ∀ args pt, eClose51 args = some pt → ∀ (H : AHeap) (Kk : AV → AHeap → Prop), pt (fun r => Kk r H) → ACalls Try.prog 51 args H Kk := by
  intro args pt h H Kk hk
  unfold eClose51 at h
  split at h
  · cases h
    obtain ⟨rs, l, m, ⟨rfl, rfl, rfl, h1, h2, h3⟩, h4⟩ := hk
    exact p51 rs _ _ _ l m _ _ h1 h2 h3 H (h4 _ _ rfl rfl)
  · cases h
end Go.Sas
