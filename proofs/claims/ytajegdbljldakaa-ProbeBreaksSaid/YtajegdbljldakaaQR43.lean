/-
Probe: the reference's broken: contract.
Conditions: none.
-/
import Derived.Test.YtajegdbljldakaaPR
import Derived.Test.YtajegdbljldakaaQRFg
set_option linter.unusedVariables false
set_option linter.unusedSimpArgs false
namespace Go.Sas
open Go.Proofs
set_option maxRecDepth 100000
theorem iNeg_id {a : Int} (h1 : -9223372036854775808 ≤ -a) (h2 : -a ≤ 9223372036854775807) : iNeg .i64 a = -a := (wrap_id (by omega) (by omega) : IntKind.i64.wrap (0 - a) = 0 - a).trans (by omega)
theorem p101 (rs : List Rch) (a b c f : Int) (l : List Lk) (cs : List (List Int)) (i p : Nat) (ho : RoadOk rs) (hl : l.length ≤ 1000000) (hL : ∀ x ∈ l, LkOk (sumLg rs) x) (hf : 0 ≤ f ∧ f ≤ 10000) (hc : f + iLen cs.length ≤ 10001)
    (hi : i < cs.length) (hp : p < (plc rs).length) (hr : ∀ r ∈ cs, r.length = (plc rs).length)
    (h1 : 0 < p → 0 ≤ cellS cs i (p - 1) ∧ cellS cs i (p - 1) ≤ 3000) (h2 : 0 < i → 0 ≤ cellS cs (i - 1) p ∧ cellS cs (i - 1) p ≤ 3000) (H : AHeap) {Kk : AV → AHeap → Prop}
    (h : Kk (B (wrongS (plc rs) l f cs i p)) H) : ACalls Try.prog 101 [svV (.vs 5 (rs.map rcV)) a b c, .vs 5 (l.map lkV), I f, .vs 1 (csV cs), I (iLen i), I (iLen p)] H Kk := by
  obtain ⟨ii, hii⟩ : ∃ x, x = iLen i := ⟨_, rfl⟩
  obtain ⟨ip, hip⟩ : ∃ x, x = iLen p := ⟨_, rfl⟩
  rw [← hii, ← hip]
  refine (fun q => pureC (by rfl) (by rfl) q H h) ?_
  clear h
  intro Kk h
  obtain ⟨xs, hxs⟩ : ∃ xs, xs = rs.map rcV := ⟨_, rfl⟩
  obtain ⟨ls, hls⟩ : ∃ ys, ys = l.map lkV := ⟨_, rfl⟩
  obtain ⟨vs, hvs⟩ : ∃ ys, ys = csV cs := ⟨_, rfl⟩
  rw [← hxs, ← hls, ← hvs]
  obtain ⟨A, hA⟩ : ∃ A, A = std := ⟨_, rfl⟩
  have hne : ∀ x y, A.ne x y = decide (x ≠ y) := by subst hA; intro x y; simp only [std, iNe]; rw [Bool.eq_iff_iff]; simp
  have hee : ∀ x y, A.eq x y = decide (x = y) := by subst hA; intro x y; exact iEq_dec _ _
  have hll : ∀ x y, A.lt x y = decide (x < y) := by subst hA; intro x y; rfl
  have hle : ∀ x y, A.le x y = decide (x ≤ y) := by subst hA; intro x y; rfl
  have hnb : ∀ b, A.bnot b = !b := by subst hA; intro b; rfl
  have hbd : ∀ x y, A.band x y = (x && y) := by subst hA; intro x y; rfl
  have hsg : ∀ g, A.sg g g := by subst hA; exact fun _ => rfl
  have hRl := ho.ilen
  obtain ⟨R, hR⟩ : ∃ R, R = plc rs := ⟨_, rfl⟩
  have hPl : PlcOk R := hR ▸ ho.plc
  have hpn := ho.le'
  rw [← hR] at h hp hr hRl hpn
  obtain ⟨row, hrow⟩ : ∃ x, x = (cs.getD i []).map I := ⟨_, rfl⟩
  have hrl : ∀ j, j < cs.length → (cs.getD j []).length = R.length := fun j hj => hr _ (List.mem_of_getElem? (cs_get hj))
  have hri : A.ix 1 1 vs ii [.vs 1 row] := by subst hA; exact ix_map hvs hii (cs_get hi) (by rw [hrow]; rfl)
  have hci : A.ix 1 1 row ip [I (cellS cs i p)] := by subst hA; exact ix_map hrow hip (row_get (by rw [hrl i hi]; exact hp)) rfl
  obtain ⟨n, hnn⟩ : ∃ n, n = cellS cs i p := ⟨_, rfl⟩
  rw [← hnn] at hci
  refine go101 rfl (SGo_run hA ⟨[], [1000029], (80, eIn) :: [], []⟩ (.cons (eIn_ok p80) .nil) .nil 200 fun T TD hT hTD => ?_)
  cbv
  refine Exists.intro _ (And.intro hri ?_); cbv
  refine Exists.intro _ (And.intro hci ?_); cbv
  intro b0 hb0; cbv
  have hb0 : A.bnot b0 = outB n 0 3000 := by rw [hnb, hb0]; rfl
  split <;> cbv
  · rename_i hz
    have hz := hb0.symm.trans hz
    refine leaf h (congrArg B ?_) rfl
    unfold wrongS; rw [← hnn, hz]; simp
  rename_i hz
  have hz := hb0.symm.trans hz
  have hipb : 0 ≤ ip ∧ ip ≤ 1000 := by rw [hip]; unfold iLen; omega
  have hp0 : A.lt 0 ip = decide (0 < p) := by rw [hll, hip, decide_eq_decide]; unfold iLen; omega
  have hsub1 : A.sub .i64 ip 1 = ip - 1 := by subst hA; exact iSub_id (by omega) (by omega)
  obtain ⟨w1, hw1⟩ : ∃ w, w = (decide (0 < p) && outB n (cellS cs i (p - 1) - (R.getD (p - 1) rc0).sl) (cellS cs i (p - 1) + (R.getD (p - 1) rc0).sl)) := ⟨_, rfl⟩
  have hnr : 0 ≤ n ∧ n ≤ 3000 := by unfold outB at hz; simpa using hz
  have hW1 : w1 = true → wrongS R l f cs i p = true := fun hh => by
    unfold wrongS; rw [← hnn, ← hw1, hh]; simp
  rw [hT]
  refine AGo_cut (k1 := [_, _]) (fun e H => Fits e [(1, .vs 5 ls), (2, I f), (3, .vs 1 vs), (4, I ii), (5, I ip), (6, .mp 0 0 0), (13, I n)] ∧ H = [.own 0 [.vs 5 xs, I a, I b, I c]] ∧ w1 = false) ?_ (fun e1 H1 hP1 => ?_)
  · refine SGo_run hA ⟨[], [], (112, eReach) :: [], []⟩ (.cons eReach_ok .nil) .nil 200 fun T TD hT hTD => ?_
    cbv
    split <;> cbv
    · rename_i hz5
      have hz5 := of_decide_eq_true (hp0.symm.trans hz5)
      have hcl1 := h1 hz5
      obtain ⟨p', hp'⟩ : ∃ p', p = p' + 1 := ⟨p - 1, by omega⟩
      have hpe : p - 1 = p' := by omega
      rw [hpe] at hw1 hcl1
      have hip' : A.sub .i64 ip 1 = iLen p' := by rw [hsub1, hip, hp']; unfold iLen; omega
      have hci1 : A.ix 1 1 row (A.sub .i64 ip 1) [I (cellS cs i p')] := by rw [hip']; subst hA; exact ix_map hrow rfl (row_get (by rw [hrl i hi]; omega)) rfl
      have hsb := (rc0_bnd hPl.all p').1
      have hsb2 := (rc0_bnd hPl.all p').2.1
      obtain ⟨c1, hc1⟩ : ∃ r, r = cellS cs i p' := ⟨_, rfl⟩
      rw [← hc1] at hci1 hcl1 hw1
      refine Exists.intro _ (And.intro hri ?_); cbv
      refine Exists.intro _ (And.intro hci1 ?_); cbv
      refine Exists.intro rs (And.intro hxs (And.intro (by have := ho.n2; omega) (And.intro ho.all (And.intro (by show _ ≤ A.sub .i64 ip 1; rw [hip']; unfold iLen; omega) (And.intro (by show A.sub .i64 ip 1 < _; rw [hip', ← hRl]; unfold iLen; omega) ?_)))))
      intro r1 hr1; cbv
      have hr1 : r1 = R.getD p' rc0 := by
        have e : (A.sub .i64 ip 1).toNat = p' := by rw [hip']; rfl
        rw [hR, ← e]; exact hr1
      rw [← hr1] at hw1 hsb hsb2
      have hs1 : A.sub .i64 n c1 = n - c1 := by subst hA; exact iSub_id (by omega) (by omega)
      have hs2 : A.neg .i64 r1.sl = - r1.sl := by subst hA; exact iNeg_id (by omega) (by omega)
      have hl1 : A.lt r1.sl (A.sub .i64 n c1) = decide (r1.sl < n - c1) := by rw [hs1, hll]
      have hl2 : A.lt (A.sub .i64 n c1) (A.neg .i64 r1.sl) = decide (n - c1 < - r1.sl) := by rw [hs1, hs2, hll]
      rw [decide_eq_true hz5, Bool.true_and] at hw1
      have hbad : (r1.sl < n - c1 ∨ n - c1 < - r1.sl) → w1 = true := fun hh => by rw [hw1]; unfold outB; simp; omega
      have hgood : ¬ (r1.sl < n - c1 ∨ n - c1 < - r1.sl) → w1 = false := fun hh => by rw [hw1]; unfold outB; simp; omega
      split <;> cbv
      · rename_i hy
        have hy := of_decide_eq_true (hl1.symm.trans hy)
        exact leaf h (congrArg B (hW1 (hbad (.inl hy)))) rfl
      rename_i hy
      have hy := of_decide_eq_false (hl1.symm.trans hy)
      split <;> cbv
      · rename_i hy2
        have hy2 := of_decide_eq_true (hl2.symm.trans hy2)
        exact leaf h (congrArg B (hW1 (hbad (.inr hy2)))) rfl
      · rename_i hy2
        have hy2 := of_decide_eq_false (hl2.symm.trans hy2)
        exact hgood (fun hh => hh.elim hy hy2)
    · rename_i hz5
      have hz5 := hp0.symm.trans hz5
      exact (by rw [hw1, hz5]; rfl)
  obtain ⟨hf1, rfl, hw10⟩ := hP1
  refine AGo_forget [(1, .vs 5 ls), (2, I f), (3, .vs 1 vs), (4, I ii), (5, I ip), (6, .mp 0 0 0), (13, I n)] _ hf1 (.inl rfl) ?_ (by simp)
  have hj0 : A.lt 0 ii = decide (0 < i) := by rw [hll, hii, decide_eq_decide]; unfold iLen; omega
  have hib : 0 ≤ ii ∧ ii ≤ 1000000 := by rw [hii]; unfold iLen at *; omega
  have hsub2 : A.sub .i64 ii 1 = ii - 1 := by subst hA; exact iSub_id (by omega) (by omega)
  obtain ⟨w2, hw2⟩ : ∃ w, w = (decide (0 < i) && outB n (cellS cs (i - 1) p - (R.getD p rc0).th) (cellS cs (i - 1) p + (R.getD p rc0).gr)) := ⟨_, rfl⟩
  have hW2 : w2 = true → wrongS R l f cs i p = true := fun hh => by
    unfold wrongS; rw [← hnn, ← hw2, hh]; simp
  clear hW1
  refine SGo_run hA ⟨[], [1000055], [], []⟩ .nil .nil 200 fun T TD hT hTD => ?_
  cbv
  rw [hT]
  refine AGo_cut (k1 := [_, _]) (fun e H => Fits e [(1, .vs 5 ls), (2, I f), (3, .vs 1 vs), (4, I ii), (5, I ip), (13, I n)] ∧ (∃ T1, H = .own 0 [.vs 5 xs, I a, I b, I c] :: T1 ∧ (T1 = [] ∨ ∃ cr, T1 = [.own 0 (rcC cr)])) ∧ w2 = false) ?_ (fun e1 H1 hP1 => ?_)
  · refine SGo_run hA ⟨[], [], (112, eReach) :: [], []⟩ (.cons eReach_ok .nil) .nil 200 fun T TD hT hTD => ?_
    cbv
    split <;> cbv
    · rename_i hz5
      have hz5 := of_decide_eq_true (hj0.symm.trans hz5)
      have hcl1 := h2 hz5
      obtain ⟨i', hi'⟩ : ∃ i', i = i' + 1 := ⟨i - 1, by omega⟩
      have hie : i - 1 = i' := by omega
      rw [hie] at hw2 hcl1
      have hii' : A.sub .i64 ii 1 = iLen i' := by rw [hsub2, hii, hi']; unfold iLen; omega
      obtain ⟨row2, hrow2⟩ : ∃ x, x = (cs.getD i' []).map I := ⟨_, rfl⟩
      have hri2 : A.ix 1 1 vs (A.sub .i64 ii 1) [.vs 1 row2] := by rw [hii']; subst hA; exact ix_map hvs rfl (cs_get (by omega)) (by rw [hrow2]; rfl)
      have hci2 : A.ix 1 1 row2 ip [I (cellS cs i' p)] := by subst hA; exact ix_map hrow2 hip (row_get (by rw [hrl i' (by omega)]; exact hp)) rfl
      have hsb := rc0_bnd hPl.all p
      obtain ⟨c1, hc1⟩ : ∃ r, r = cellS cs i' p := ⟨_, rfl⟩
      rw [← hc1] at hci2 hcl1 hw2
      refine Exists.intro _ (And.intro hri2 ?_); cbv
      refine Exists.intro _ (And.intro hci2 ?_); cbv
      refine Exists.intro rs (And.intro hxs (And.intro (by have := ho.n2; omega) (And.intro ho.all (And.intro hipb.1 (And.intro (by rw [← hRl, hip]; unfold iLen; omega) ?_)))))
      intro r1 hr1; cbv
      have hr1 : r1 = R.getD p rc0 := by
        have e : ip.toNat = p := by rw [hip]; rfl
        rw [hR, ← e]; exact hr1
      rw [← hr1] at hw2 hsb
      have hs1 : A.sub .i64 n c1 = n - c1 := by subst hA; exact iSub_id (by omega) (by omega)
      have hs2 : A.neg .i64 r1.th = - r1.th := by subst hA; exact iNeg_id (by omega) (by omega)
      have hl1 : A.lt r1.gr (A.sub .i64 n c1) = decide (r1.gr < n - c1) := by rw [hs1, hll]
      have hl2 : A.lt (A.sub .i64 n c1) (A.neg .i64 r1.th) = decide (n - c1 < - r1.th) := by rw [hs1, hs2, hll]
      rw [decide_eq_true hz5, Bool.true_and] at hw2
      have hbad : (r1.gr < n - c1 ∨ n - c1 < - r1.th) → w2 = true := fun hh => by rw [hw2]; unfold outB; simp; omega
      have hgood : ¬ (r1.gr < n - c1 ∨ n - c1 < - r1.th) → w2 = false := fun hh => by rw [hw2]; unfold outB; simp; omega
      split <;> cbv
      · rename_i hy
        have hy := of_decide_eq_true (hl1.symm.trans hy)
        exact leaf h (congrArg B (hW2 (hbad (.inl hy)))) rfl
      rename_i hy
      have hy := of_decide_eq_false (hl1.symm.trans hy)
      split <;> cbv
      · rename_i hy2
        have hy2 := of_decide_eq_true (hl2.symm.trans hy2)
        exact leaf h (congrArg B (hW2 (hbad (.inr hy2)))) rfl
      · rename_i hy2
        have hy2 := of_decide_eq_false (hl2.symm.trans hy2)
        exact ⟨⟨_, rfl, .inr ⟨r1, rfl⟩⟩, hgood (fun hh => hh.elim hy hy2)⟩
    · rename_i hz5
      have hz5 := hj0.symm.trans hz5
      exact ⟨⟨[], rfl, .inl rfl⟩, by rw [hw2, hz5]; rfl⟩
  obtain ⟨hf1, ⟨T1, rfl, _⟩, hw20⟩ := hP1
  have hxl : ∀ n, AV.ltL n xs := fun n => AV.ltL_nid (by rw [hxs]; exact nidL_rc rs)
  have hvl : ∀ n, AV.ltL n vs := fun n => AV.ltL_nid (by rw [hvs]; exact nidL_map (g := fun r : List Int => AV.vs 1 (r.map I)) (fun r => by simp [AV.nid]) _)
  have hll2 : ∀ n, AV.ltL n ls := fun n => AV.ltL_nid (by rw [hls]; exact nidL_map (g := lkV) (fun _ => rfl) _)
  refine AGo_forget [(1, .vs 5 ls), (2, I f), (3, .vs 1 vs), (4, I ii), (5, I ip), (13, I n)] [.own 0 [.vs 5 xs, I a, I b, I c]] hf1 (.inr ⟨⟨T1, rfl⟩, by simp, by simp [ltG, AV.lt, hvl, hll2], by simp [ltH, AObj.lt, AV.lt, AV.ltL, hxl]⟩) ?_ (by simp)
  clear hf1
  refine SGo_run hA ⟨[], [], [], []⟩ .nil .nil 200 fun T TD hT hTD => ?_
  cbv
  rw [hT]
  have hWl : wrongS R l f cs i p = l.any (lookW n (f + iLen i) p) := by unfold wrongS; rw [← hnn, hz, ← hw1, ← hw2, hw10, hw20]; rfl
  refine AGo_upE [1, 2, 4, 5, 13] l.length (fun k (_ : Unit) => (l.take k).any (lookW n (f + iLen i) p) = false) (fun k _ ik => [(18, I ik)]) (fun _ _ => [.own 0 [.vs 5 xs, I a, I b, I c]]) () (by simp) ⟨rfl, trivial⟩ (.inl rfl) fun k _ i3 hi3 hk hP3 Bk3 hB3 => ?_
  have hlt3 : A.lt i3 (A.vlen ls) = decide (k < l.length) := by subst hA; exact lt_len (by simp [hls]) hi3
  have hadd3 : ∀ N, k < N → N ≤ 9223372036854775807 → A.add .i64 i3 1 = iLen (k + 1) := fun N hj hN => by subst hA; exact add_one hi3 hj hN
  refine SGo_run hA ⟨[], [], (80, eIn) :: [], []⟩ (.cons (eIn_ok p80) .nil) .nil 200 fun T TD hT hTD => ?_
  cbv
  split <;> cbv
  · rename_i hzk
    have hkl : k < l.length := of_decide_eq_true (hlt3.symm.trans hzk)
    obtain ⟨⟨k', q', g', u', v'⟩, hx3⟩ : ∃ x, l[k]? = some x := ⟨_, List.getElem?_eq_getElem hkl⟩
    have hiy : A.ix 5 5 ls i3 (lkC ⟨k', q', g', u', v'⟩) := by subst hA; exact ix_map hls hi3 hx3 rfl
    have htk : ((l.take (k + 1)).any (lookW n (f + iLen i) p)) = ((l.take k).any (lookW n (f + iLen i) p) || lookW n (f + iLen i) p ⟨k', q', g', u', v'⟩) := by
      obtain ⟨h8, he⟩ := List.getElem?_eq_some_iff.1 hx3
      rw [List.take_succ_eq_append_getElem h8, he, List.any_append]; simp
    have hlw : lookW n (f + iLen i) p ⟨k', q', g', u', v'⟩ = (decide (g' = f + iLen i) && (decide (q' = (p : Int)) && outB n u' v')) := rfl
    have hfi : A.add .i64 f ii = f + iLen i := by rw [hii]; subst hA; exact iAdd_id (by unfold iLen at *; omega) (by unfold iLen at *; omega)
    have he1 : A.eq g' (A.add .i64 f ii) = decide (g' = f + iLen i) := by rw [hee, hfi]
    have he2 : A.eq q' ip = decide (q' = (p : Int)) := by rw [hee, hip]; rfl
    have hyes : (decide (g' = f + iLen i) && (decide (q' = (p : Int)) && outB n u' v')) = true → wrongS R l f cs i p = true := fun hh => by rw [hWl, List.any_eq_true]; exact ⟨_, List.mem_of_getElem? hx3, hh⟩
    rw [hlw] at htk
    have hno : (decide (g' = f + iLen i) && (decide (q' = (p : Int)) && outB n u' v')) = false → (l.take (k + 1)).any (lookW n (f + iLen i) p) = false := fun hh => by rw [htk, hP3, hh]; rfl
    refine Exists.intro _ (And.intro hiy ?_); cbv
    have hgo : (decide (g' = f + iLen i) && (decide (q' = (p : Int)) && outB n u' v')) = false → ∀ e', Fits e' [(18, I (A.add .i64 i3 1))] → Fits e' (keepS [1, 2, 4, 5, 13] [(18, I i3), (1, .vs 5 ls), (2, I f), (4, I ii), (5, I ip), (13, I n)]) → Bk3 e' [.own 0 [.vs 5 xs, I a, I b, I c]] := fun hh e' hf' hk' => by
      rw [hadd3 _ hkl (by omega)] at hf'
      exact hB3 () _ _ hkl (hno hh) hf' hk' (.inl rfl)
    clear hno htk hlw hB3 hP3
    split <;> cbv
    · rename_i hy2
      have hy2 := he2.symm.trans hy2
      refine Exists.intro _ (And.intro hiy ?_); cbv
      split <;> cbv
      · rename_i hy1
        have hy1 := he1.symm.trans hy1
        refine Exists.intro _ (And.intro hiy ?_); cbv
        refine Exists.intro _ (And.intro hiy ?_); cbv
        intro b1 hb1; cbv
        have hb1 : A.bnot b1 = outB n u' v' := by rw [hnb, hb1]; rfl
        split <;> cbv
        · rename_i hy3
          have hy3 := hb1.symm.trans hy3
          exact leaf h (congrArg B (hyes (by rw [hy1, hy2, hy3]; rfl))) rfl
        · rename_i hy3
          have hy3 := hb1.symm.trans hy3
          exact hgo (by rw [hy1, hy2, hy3]; rfl) _ ⟨rfl, trivial⟩ ⟨rfl, rfl, rfl, rfl, rfl, trivial⟩
      · rename_i hy1
        have hy1 := he1.symm.trans hy1
        exact hgo (by rw [hy1]; rfl) _ ⟨rfl, trivial⟩ ⟨rfl, rfl, rfl, rfl, rfl, trivial⟩
    · rename_i hy2
      have hy2 := he2.symm.trans hy2
      exact hgo (by rw [hy2]; simp) _ ⟨rfl, trivial⟩ ⟨rfl, rfl, rfl, rfl, rfl, trivial⟩
  · rename_i hzk
    have hkl : ¬ k < l.length := of_decide_eq_false (hlt3.symm.trans hzk)
    rw [List.take_of_length_le (by omega), ← hWl] at hP3
    exact leaf h (congrArg B hP3) rfl
end Go.Sas
