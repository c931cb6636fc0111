/-
Probe: the reference's Stale: contract.
Conditions: none.
-/
import Derived.Test.YtajegdbljldakaaQR38
import Derived.Test.YtajegdbljldakaaPS
set_option linter.unusedVariables false
set_option linter.unusedSimpArgs false
namespace Go.Sas
open Go.Proofs
set_option maxRecDepth 100000
theorem spaS_no {V : Nat → Bool} {j : Nat} (h : V j = false) : spaS V (j + 1) = spaS V j := by
  unfold spaS
  rcases j with _ | m
  · show List.filter _ [(0, 0, V 0)] = _
    rw [h]; rfl
  · obtain ⟨l, f, h1, _⟩ := runsN_last (V := V) (n := m)
    by_cases h2 : V m = V (m + 1)
    · rw [runsN_more h1 h2, h1, List.filter_append, List.filter_append, h2, h]; simp
    · rw [runsN_new (.inr h2), List.filter_append, h]; simp
theorem spaS_new {V : Nat → Bool} {j : Nat} (h : V j = true) (hn : ∀ L f t v, spaS V j = L ++ [(f, t, v)] → t + 1 ≠ j) : spaS V (j + 1) = spaS V j ++ [(j, j, true)] := by
  unfold spaS at *
  rcases j with _ | m
  · show List.filter _ [(0, 0, V 0)] = _
    rw [h]; rfl
  · obtain ⟨l, f, h1, _⟩ := runsN_last (V := V) (n := m)
    by_cases h2 : V m = true
    · exact absurd rfl (hn (l.filter fun x => x.2.2) f m true (by rw [h1, List.filter_append, h2]; simp))
    · rw [runsN_new (.inr (by rw [Nat.add_sub_cancel, h]; exact h2)), List.filter_append, h]; simp
theorem spaS_more {V : Nat → Bool} {j : Nat} (h : V j = true) {L : List (Nat × Nat × Bool)} {f t : Nat} {v : Bool} (h1 : spaS V j = L ++ [(f, t, v)]) (h2 : t + 1 = j) : spaS V (j + 1) = L ++ [(f, j, v)] := by
  subst h2
  obtain ⟨l, f', h3, _⟩ := runsN_last (V := V) (n := t)
  have h4 : (f, t, v) ∈ (runsN V (t + 1)).filter fun x => x.2.2 := by
    show (f, t, v) ∈ spaS V (t + 1)
    rw [h1]; simp
  obtain ⟨h5, h6⟩ := List.mem_filter.1 h4
  have h6 : v = true := h6
  obtain ⟨h7, _, h8⟩ := runsN_mem h5
  have h8 : V t = v := h8 t h7 (Nat.le_refl _)
  unfold spaS at *
  rw [h3, List.filter_append, h8, h6] at h1
  rw [runsN_more h3 (by rw [h8, h6, h]), List.filter_append, h8, h6]
  have h9 := List.append_inj' h1 (by simp)
  have h10 := h9.2
  simp at h10 ⊢
  exact ⟨h9.1, h10⟩
theorem p58 (rs : List Rch) (a b c : Int) (l : List Lk) (t : Int) (h1 : rs.length ≤ 9223372036854775807) (h2 : l.length ≤ 9223372036854775807) (H : AHeap) {Kk : AV → AHeap → Prop}
    (h : Kk (.tup [.vs 2 ((stalR rs a b c l t).map spaV), I (staleE rs a b c l t)]) H) : ACalls Try.prog 58 [svV (.vs 5 (rs.map rcV)) a b c, .vs 5 (l.map lkV), I t] H Kk := by
  have hnr := nidL_rc rs
  refine (fun q => pureF (by simp [AV.nidL, AV.nid, hnr, nidL_map (g := lkV) (fun _ => rfl) l]) (by simp [AV.nidL, AV.nid, nidL_map (g := spaV) (fun _ => rfl)]) q H h) ?_
  clear h
  intro Kk h
  obtain ⟨xs, hxs⟩ : ∃ xs, xs = rs.map rcV := ⟨_, rfl⟩
  rw [← hxs]
  obtain ⟨ls, hls⟩ : ∃ ys, ys = l.map lkV := ⟨_, rfl⟩
  rw [← hls]
  obtain ⟨E, hE⟩ : ∃ E, E = staleE rs a b c l t := ⟨_, rfl⟩
  rw [← hE] at h
  obtain ⟨F, hF⟩ : ∃ F, F = Frees 0 Kk := ⟨_, rfl⟩
  rw [← hF]
  have hw : ∀ e H1, E = e → e ≠ 0 → F (.tup [NS, I e]) H1 := fun e H1 he h0 => by
    unfold stalR at h; rw [← hE, he, if_neg h0] at h
    rw [hF]
    exact Frees.wk (r' := .tup [.vs 2 [], I e]) (Wk.tup ⟨Wk.nil, Wk.rfl, trivial⟩) (Frees.drop0 h rfl)
  have hg : E = 0 → ∀ n cs V L, V = staleS (plc rs) a b c l t → L = spaS V (plc rs).length → n = L.length → cs = L.flatMap spaC → ∀ X0, F (.tup [.ms 2 1 n 0 n, I 0]) [X0, .own n cs] := fun h0 n cs V L hV hL hn hcs X0 => by
    unfold stalR at h; rw [← hE, if_pos h0, h0, ← hV, ← hL] at h
    rw [hF, hcs]
    refine Frees.frz 1 n 2 (L.map spaV) rfl (Elems_map (f := spaV) (g := spaC) (sz := 2) (fun _ => rfl) (fun _ => rfl) (fun _ => rfl) _) ?_
    have e : AV.frz 1 n 2 (L.map spaV) (.ms 2 1 n 0 n) = .vs 2 (L.map spaV) := frz_self (by simp [hn])
    have e2 : AV.frz 1 n 2 (L.map spaV) (.tup [.ms 2 1 n 0 n, I 0]) = .tup [.vs 2 (L.map spaV), I 0] := by
      show AV.tup [AV.frz 1 n 2 (L.map spaV) (.ms 2 1 n 0 n), I 0] = _
      rw [e]
    rw [e2]
    exact Frees.drop0 h (by simp [AV.nidL, AV.nid, nidL_map (g := spaV) (fun _ => rfl)])
  obtain ⟨A, hA⟩ : ∃ A, A = std := ⟨_, rfl⟩
  have hne : ∀ x y, A.ne x y = decide (x ≠ y) := by subst hA; intro x y; simp only [std, iNe]; rw [Bool.eq_iff_iff]; simp
  have hee : ∀ x y, A.eq x y = decide (x = y) := by subst hA; intro x y; exact iEq_dec _ _
  have hll : ∀ x y, A.lt x y = decide (x < y) := by subst hA; intro x y; rfl
  have hle : ∀ x y, A.le x y = decide (x ≤ y) := by subst hA; intro x y; rfl
  have hnb : ∀ b, A.bnot b = !b := by subst hA; intro b; rfl
  have hbd : ∀ x y, A.band x y = (x && y) := by subst hA; intro x y; rfl
  have hsg : ∀ g, A.sg g g := by subst hA; exact fun _ => rfl
  refine go58 rfl (SGo_run hA ⟨[], [], (36, eSurE) :: (80, eIn) :: [], []⟩ (.cons (eSurE_ok p36) (.cons (eIn_ok p80) .nil)) .nil 200 fun T TD hT hTD => ?_)
  cbv
  refine Exists.intro rs (Exists.intro l (And.intro hxs (And.intro hls (And.intro h1 (And.intro h2 ?_)))))
  intro q hq; cbv
  split <;> cbv
  · rename_i hz
    have hz : q ≠ 0 := of_decide_eq_true ((hne q 0).symm.trans hz)
    refine hw q _ ?_ hz
    rw [hE]; unfold staleE orElse; rw [← hq, if_neg hz]
  rename_i hz
  have hz : q = 0 := by have hz := of_decide_eq_false ((hne q 0).symm.trans hz); simpa using hz
  obtain ⟨ho, hs2, hlo⟩ := surE_ok.1 (hq.symm.trans hz)
  have hE1 : E = if ¬(0 ≤ t ∧ t ≤ 10000) then 2 else 0 := by rw [hE]; unfold staleE orElse; rw [surE_ok.2 ⟨ho, hs2, hlo⟩, if_pos rfl]
  clear hz hq
  intro q1 hq1; cbv
  split <;> cbv
  · rename_i hz
    have hz : q1 = false := by have hz := (hnb q1).symm.trans hz; simpa using hz
    rw [hq1, decide_eq_false_iff_not] at hz
    exact hw 2 _ (by rw [hE1, if_pos hz]) (by decide)
  rename_i hz
  have hz : q1 = true := by have hz := (hnb q1).symm.trans hz; simpa using hz
  rw [hq1, decide_eq_true_eq] at hz
  rw [if_neg (fun h => h hz)] at hE1
  have hg := hg hE1
  have hlb := hlo.le
  have hpn := ho.le'
  have hRl := ho.ilen
  have hsl := sumLg_bnd' ho
  clear hw
  obtain ⟨V, hV⟩ : ∃ V, V = staleS (plc rs) a b c l t := ⟨_, rfl⟩
  obtain ⟨N, hN⟩ : ∃ N, N = (plc rs).length := ⟨_, rfl⟩
  have hRl2 : sumLg rs = iLen N := by rw [← hRl, hN]
  rw [← hN] at hpn hg
  rw [hT]
  refine AGo_nilms 9 2 rfl ?_
  refine AGo_upE [1, 2, 3] N (fun j (L : List (Nat × Nat × Bool)) => L = spaS V j) (fun j L i => [(9, .ms 2 1 L.length 0 L.length), (10, I i)]) (fun j L => [.own 0 [.vs 5 xs, I a, I b, I c], .own L.length (L.flatMap spaC)]) [] rfl ⟨rfl, rfl, trivial⟩ (.inl rfl) fun j L i hi hj hP Bk hB => ?_
  have hadd : ∀ N, j < N → N ≤ 9223372036854775807 → A.add .i64 i 1 = iLen (j + 1) := fun N hj hN => by subst hA; exact add_one hi hj hN
  have hLj : L.length ≤ j := by rw [hP]; exact spaS_len
  obtain ⟨n, hn⟩ : ∃ n, n = L.length := ⟨_, rfl⟩
  obtain ⟨cs, hcs⟩ : ∃ c, c = L.flatMap spaC := ⟨_, rfl⟩
  have hcl : cs.length = n * 2 := by rw [hcs, hn, len_flat (k := 2) (fun _ => rfl)]
  rw [← hn, ← hcs]
  rw [← hn] at hLj
  refine SGo_run hA ⟨[1], [], (46, ePlaces) :: (95, eStale1) :: [], []⟩ (.cons (ePlaces_ok p46) (.cons eStale1_ok .nil)) .nil 200 fun T TD hT hTD => ?_
  cbv
  refine Exists.intro rs (And.intro hxs (And.intro (by have := ho.n2; omega) (And.intro ho.all ?_)))
  intro nn hnn; cbv
  have hnN : nn = iLen N := hnn.trans hRl2
  have hlt : A.lt i nn = decide (j < N) := by rw [hnN, hll, hi, decide_eq_decide]; unfold iLen; omega
  split <;> cbv
  · rename_i hk0
    have hk1 : j < N := by have hz := hlt.symm.trans hk0; simpa using hz
    clear hk0
    have hib : 0 ≤ i ∧ i ≤ 1000 := by rw [hi]; unfold iLen; omega
    have hjN : i ≤ iLen N - 1 := by rw [hi]; unfold iLen; omega
    refine Exists.intro rs (Exists.intro l (And.intro hxs (And.intro hls (And.intro ho (And.intro hs2 (And.intro (by omega) (And.intro (hlo.all' ho) (And.intro (And.intro hib.1 (by rw [hRl2]; omega)) (And.intro hz ?_))))))))) 
    intro b1 hb1; cbv
    have hb1 : b1 = V j := by rw [hb1, hV, hi]; rfl
    split <;> cbv
    · rename_i hz5
      have hz5 : b1 = false := by have hz := (hnb b1).symm.trans hz5; simpa using hz
      refine hB L _ _ hk1 (hP.trans (spaS_no (hb1.symm.trans hz5)).symm) ?_ ⟨rfl, rfl, rfl, trivial⟩ (.inl ?_)
      · rw [← hn]; exact ⟨rfl, congrArg I (hadd _ hk1 (by omega)), trivial⟩
      · rw [← hn, ← hcs]
    rename_i hz5
    have hz5 : b1 = true := by have hz := (hnb b1).symm.trans hz5; simpa using hz
    have hVj : V j = true := hb1.symm.trans hz5
    have hl0 : A.lt 0 (A.len n) = decide (0 < n) := by subst hA; show decide ((0 : Int) < iLen n) = _; rw [decide_eq_decide]; unfold iLen; omega
    have hla : A.sub .i64 (A.len n) 1 = iLen n - 1 := by subst hA; exact iSub_id (by show _ ≤ iLen n - 1; unfold iLen; omega) (by show iLen n - 1 ≤ _; unfold iLen; omega)
    obtain ⟨d, hd⟩ : ∃ x, x = cs ++ [I i, I i] := ⟨_, rfl⟩
    have happ : A.app 2 2 16 cs 0 n [.agg [I i, I i]] d (n + 1) := by subst hA; rw [hd]; exact app_one hcl rfl (by omega)
    have hnew : (∀ L0 f t' v, L = L0 ++ [(f, t', v)] → t' + 1 ≠ j) → ∀ e', Fits e' [(9, .ms 2 1 (n + 1) 0 (n + 1)), (10, I (A.add .i64 i 1))] → Fits e' (keepS [1, 2, 3] [(9, .ms 2 1 n 0 n), (10, I i), (1, .vs 5 ls), (2, I t), (3, .mp 0 0 0)]) → Bk e' [.own 0 [.vs 5 xs, I a, I b, I c], .own (n + 1) d] := fun h0 e' hf hk => by
      rw [hadd _ hk1 (by omega)] at hf
      have hln : (L ++ [(j, j, true)]).length = n + 1 := by rw [List.length_append, ← hn]; rfl
      refine hB (L ++ [(j, j, true)]) _ _ hk1 (by rw [hP]; exact (spaS_new hVj (by rw [← hP]; exact h0)).symm) ?_ hk (.inl ?_)
      · rw [hln]; exact hf
      · rw [hln, List.flatMap_append, ← hcs, hd, hi]; rfl
    refine And.intro (hsg _) ?_
    split <;> cbv
    · rename_i hz6
      have hn0 : 0 < n := of_decide_eq_true (hl0.symm.trans hz6)
      obtain ⟨L0, ⟨f, t', v⟩, hL0⟩ : ∃ L0 x, L = L0 ++ [x] := by
        rcases List.eq_nil_or_concat L with h | ⟨L0, x, h⟩
        · rw [hn, h] at hn0; exact absurd hn0 (by simp)
        · exact ⟨L0, x, by rw [h, List.concat_eq_append]⟩
      obtain ⟨q0, hq0⟩ : ∃ x, x = L0.flatMap spaC := ⟨_, rfl⟩
      have hnL : n = L0.length + 1 := by rw [hn, hL0, List.length_append]; rfl
      have hq0l : q0.length = (n - 1) * 2 := by rw [hq0, len_flat (k := 2) (fun _ => rfl), hnL, Nat.add_sub_cancel]
      have hcs2 : cs = q0 ++ [I (iLen f), I (iLen t')] := by rw [hcs, hL0, List.flatMap_append, ← hq0]; rfl
      obtain ⟨o, ho2⟩ : ∃ o, o = (n - 1) * 2 := ⟨_, rfl⟩
      have hixo : A.ixm 2 2 0 n (A.sub .i64 (A.len n) 1) o := by rw [hla]; subst hA ho2; exact ⟨rfl, by unfold iLen; omega, by unfold iLen; omega, by unfold iLen; omega⟩
      obtain ⟨it, hit⟩ : ∃ x, x = iLen t' := ⟨_, rfl⟩
      have hge : A.get none cs (o + 1) (I it) := by
        subst hA; show cs[o + 1]? = _
        rw [hcs2, List.getElem?_append_right (by omega), ho2, ← hq0l, hit]; simp
      have hof : A.off o 1 (o + 1) := by subst hA; exact rfl
      refine And.intro (hsg _) (Exists.intro o (And.intro hixo ?_)); cbv
      refine And.intro (hsg _) (Exists.intro (o + 1) (And.intro hof ?_)); cbv
      refine And.intro (hsg _) (Exists.intro _ (And.intro hge ?_)); cbv
      have hi1 : A.sub .i64 i 1 = i - 1 := by subst hA; exact iSub_id (by omega) (by omega)
      have heq : A.eq it (A.sub .i64 i 1) = decide (t' + 1 = j) := by rw [hi1, hee, decide_eq_decide, hit, hi]; unfold iLen; omega
      split <;> cbv
      · rename_i hz7
        have hz7 := of_decide_eq_true (heq.symm.trans hz7)
        obtain ⟨d2, hd2⟩ : ∃ x, x = q0 ++ [I (iLen f), I i] := ⟨_, rfl⟩
        have hupd : A.upd 1 cs (o + 1) [I i] d2 := by
          subst hA; refine ⟨rfl, by omega, ?_⟩
          have e1 : cs.take (o + 1) = q0 ++ [I (iLen f)] := by
            rw [hcs2, List.take_append, ho2, ← hq0l, List.take_of_length_le (by omega)]; simp
          have e2 : cs.drop (o + 1 + 1) = [] := List.drop_of_length_le (by omega)
          rw [hd2, e1, e2]; simp
        refine And.intro (hsg _) (Exists.intro o (And.intro hixo ?_)); cbv
        refine And.intro (hsg _) (Exists.intro (o + 1) (And.intro hof ?_)); cbv
        refine And.intro (hsg _) (Exists.intro d2 (And.intro hupd ?_)); cbv
        have hln : (L0 ++ [(f, j, v)]).length = n := by rw [List.length_append, hnL]; rfl
        refine hB (L0 ++ [(f, j, v)]) _ _ hk1 (spaS_more hVj (hP.symm.trans hL0) hz7).symm ?_ ⟨rfl, rfl, rfl, trivial⟩ (.inl ?_)
        · rw [hln]; exact ⟨rfl, congrArg I (hadd _ hk1 (by omega)), trivial⟩
        · rw [hln, List.flatMap_append, ← hq0, hd2, hi]; rfl
      · rename_i hz7
        have hz7 := of_decide_eq_false (heq.symm.trans hz7)
        refine And.intro (hsg _) (Exists.intro d (Exists.intro (n + 1) (And.intro happ (And.intro rfl ?_)))); cbv
        refine hnew (fun L2 f2 t2 v2 h0 => ?_) _ ⟨rfl, rfl, trivial⟩ ⟨rfl, rfl, rfl, trivial⟩
        have h9 := (List.append_inj' (hL0.symm.trans h0) (by simp)).2
        simp at h9
        rw [← h9.2.1]; exact hz7
    · rename_i hz6
      have hn0 : ¬ 0 < n := of_decide_eq_false (hl0.symm.trans hz6)
      refine And.intro (hsg _) (Exists.intro d (Exists.intro (n + 1) (And.intro happ (And.intro rfl ?_)))); cbv
      refine hnew (fun L0 f t' v h0 => ?_) _ ⟨rfl, rfl, trivial⟩ ⟨rfl, rfl, rfl, trivial⟩
      rw [hn, h0, List.length_append] at hn0
      exact absurd (Nat.succ_pos _) hn0
  · rename_i hk0
    have hk1 : ¬ j < N := by have hz := hlt.symm.trans hk0; simpa using hz
    clear hk0
    rw [show j = N by omega] at hP
    exact hg n cs V L hV hP hn hcs _
end Go.Sas
