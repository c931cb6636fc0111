/-
Freight: ways of delivering made of numbers: contract.
Freight: the law FreightBound: its core.
Conditions: none.
-/
import Derived.Test.YthpjckoklnhbcaaQG37
import Derived.Test.YthpjckoklnhbcaaHR
import Derived.Test.YthpjckoklnhbcaaH8
import Derived.Test.YthpjckoklnhbcaaHP
import Derived.Test.YthpjckoklnhbcaaH4
import Derived.Test.YthpjckoklnhbcaaProg
import Derived.Test.YthpjckoklnhbcaaHK
set_option linter.unusedVariables false
set_option linter.unusedSimpArgs false
namespace Go.Sas
open Go.Proofs
set_option maxRecDepth 100000
theorem iEq_dec (x y : Int) : iEq x y = decide (x = y) := by
  simp only [iEq]; rw [Bool.eq_iff_iff]; simp
def WayQ (f : Frt) (w : Win) (r : AV) : Prop := ∃ (xs : List AV) (way : List (List Int)), r = .vs 1 xs ∧ (xs = way.map fun r => .vs 1 (r.map I)) ∧ WayV f w way
theorem sum_upd {g : Nat → Int} {k : Nat} {v : Int} : ∀ {N : Nat}, sumI ((List.range N).map (updF g k v)) = sumI ((List.range N).map g) + (if k < N then v - g k else 0)
  | 0 => by simp [sumI]
  | N + 1 => by
    rw [List.range_succ, List.map_append, List.map_append, sumI_append, sumI_append, sum_upd (N := N)]
    simp only [List.map_cons, List.map_nil, sumI, updF]
    by_cases h1 : N = k
    · subst h1; rw [if_pos rfl, if_neg (Nat.lt_irrefl _), if_pos (Nat.lt_succ_self _)]; omega
    · rw [if_neg h1]
      by_cases h2 : k < N
      · rw [if_pos h2, if_pos (by omega)]; omega
      · rw [if_neg h2, if_neg (by omega)]; omega
theorem sum_range {g : Nat → Int} : ∀ {D : Nat}, sumI ((List.range D).map g) = sumR g D
  | 0 => rfl
  | D + 1 => by rw [List.range_succ, List.map_append, sumI_append, sum_range (D := D)]; simp [sumI, sumR]
theorem sumR_upd {g : Nat → Int} {q : Nat} {v : Int} : ∀ {D : Nat}, D ≤ q → sumR (updF g q v) D = sumR g D
  | 0, _ => rfl
  | D + 1, h => by simp only [sumR]; rw [sumR_upd (by omega)]; unfold updF; rw [if_neg (by omega)]
/-- what has been delivered before a day, and what is left -/
structure WIn (R : Nat → Int) (u : Nat → Int) (N q : Nat) (lf : Nat → Int) (wy : Nat → Nat → Int) : Prop where
  a : ∀ k, 0 ≤ lf k ∧ lf k ≤ 1000000
  b : ∀ k e, 0 ≤ wy k e ∧ wy k e ≤ 1000000
  c : ∀ k, k < N → lf k + sumR (wy k) q ≤ u k
  d : ∀ e, e < q → sumI ((List.range N).map fun k => wy k e) ≤ R e
  e : ∀ k e, q ≤ e → wy k e = 0
/-- the same in the middle of a day -/
structure WMid (R : Nat → Int) (u : Nat → Int) (N q : Nat) (had : List Nat) (room : Int) (lf : Nat → Int) (wy : Nat → Nat → Int) : Prop where
  a : ∀ k, 0 ≤ lf k ∧ lf k ≤ 1000000
  b : ∀ k e, 0 ≤ wy k e ∧ wy k e ≤ 1000000
  c : ∀ k, k < N → lf k + sumR (wy k) (q + 1) ≤ u k
  d : ∀ e, e < q → sumI ((List.range N).map fun k => wy k e) ≤ R e
  r : 0 ≤ room ∧ room ≤ 1000000
  s : room + sumI ((List.range N).map fun k => wy k q) ≤ R q
  e : ∀ k e, q + 1 ≤ e → wy k e = 0
  f : ∀ k, k ∉ had → wy k q = 0
theorem sumI_zero {N : Nat} : sumI ((List.range N).map fun _ => (0 : Int)) = 0 := by rw [sum_range]; exact sumR_zero N
theorem WIn.mid {R u : Nat → Int} {N q : Nat} {lf : Nat → Int} {wy : Nat → Nat → Int} (h : WIn R u N q lf wy) (hR : 0 ≤ R q ∧ R q ≤ 1000000) : WMid R u N q [] (R q) lf wy := by
  have h0 : ∀ k, wy k q = 0 := fun k => h.e k q (Nat.le_refl _)
  refine ⟨h.a, h.b, fun k hk => ?_, h.d, hR, ?_, fun k e he => h.e k e (by omega), fun k _ => h0 k⟩
  · have := h.c k hk; simp only [sumR]; rw [h0 k]; omega
  · have : sumI ((List.range N).map fun k => wy k q) = 0 := by
      rw [show (fun k => wy k q) = fun _ => 0 from funext h0]; exact sumI_zero
    omega
theorem WMid.done {R u : Nat → Int} {N q : Nat} {had : List Nat} {room : Int} {lf : Nat → Int} {wy : Nat → Nat → Int} (h : WMid R u N q had room lf wy) : WIn R u N (q + 1) lf wy := by
  refine ⟨h.a, h.b, h.c, fun e he => ?_, h.e⟩
  by_cases h1 : e = q
  · subst h1; have := h.s; have := h.r; omega
  · exact h.d e (by omega)
theorem WMid.give {R u : Nat → Int} {N q : Nat} {had : List Nat} {room : Int} {lf : Nat → Int} {wy : Nat → Nat → Int} (h : WMid R u N q had room lf wy) {k : Nat} {n : Int} (hk : k ∉ had) (hkN : k < N) (h0 : 0 ≤ n) (h1 : n ≤ room) (h2 : n ≤ lf k) :
    WMid R u N q (had ++ [k]) (room - n) (updF lf k (lf k - n)) (updF wy k (updF (wy k) q n)) := by
  have hz := h.f k hk
  have hr := h.r
  have hlk := h.a k
  refine ⟨fun i => ?_, fun i e => ?_, fun i hi => ?_, fun e he => ?_, by omega, ?_, fun i e he => ?_, fun i hi => ?_⟩
  · simp only [updF]; split
    · omega
    · exact h.a i
  · simp only [updF]; split
    · simp only [updF]; split
      · omega
      · exact h.b k e
    · exact h.b i e
  · have hc := h.c i hi
    by_cases hik : i = k
    · subst hik
      simp only [updF, if_true]
      show lf i - n + sumR (updF (wy i) q n) (q + 1) ≤ u i
      simp only [sumR] at hc ⊢
      rw [sumR_upd (Nat.le_refl _)]
      unfold updF; rw [if_pos rfl]; rw [hz] at hc; omega
    · unfold updF; rw [if_neg hik, if_neg hik]; exact hc
  · have e1 : (fun i => updF wy k (updF (wy k) q n) i e) = fun i => wy i e := by
      funext i; simp only [updF]; split
      · rename_i hi; simp only [updF]; rw [hi, if_neg (by omega)]
      · rfl
    rw [e1]; exact h.d e he
  · have e1 : (fun i => updF wy k (updF (wy k) q n) i q) = updF (fun i => wy i q) k n := by
      funext i; simp only [updF]; split
      · simp only [updF]; simp
      · rfl
    rw [e1, sum_upd, if_pos hkN, hz]; have := h.s; omega
  · simp only [updF]; split
    · simp only [updF]; rw [if_neg (by omega)]; exact h.e k e he
    · exact h.e i e he
  · rw [List.mem_append, not_or] at hi
    unfold updF
    rw [if_neg (fun h9 => hi.2 (by simp [h9]))]
    exact h.f i hi.1
theorem WIn.way {f : Frt} {w : Win} {lf : Nat → Int} {wy : Nat → Nat → Int} (h : WIn (roomW w) (unitS f.ords) f.ords.length f.caps.length lf wy) : WayV f w (rowsF f.ords.length f.caps.length wy) := by
  obtain ⟨N, hN⟩ : ∃ N, N = f.ords.length := ⟨_, rfl⟩
  obtain ⟨D, hD⟩ : ∃ D, D = f.caps.length := ⟨_, rfl⟩
  rw [← hN, ← hD] at h
  refine ⟨by simp [rowsF], fun r hr => ?_, fun r hr x hx => ?_, fun d hd => ?_, fun p hp => ?_⟩
  · obtain ⟨k, _, rfl⟩ := List.mem_map.1 hr; simp
  · obtain ⟨k, _, rfl⟩ := List.mem_map.1 hr
    obtain ⟨d, _, rfl⟩ := List.mem_map.1 hx
    exact h.b k d
  · have e1 : colS (rowsF f.ords.length f.caps.length wy) d = sumI ((List.range N).map fun k => wy k d) := by
      unfold colS rowsF
      rw [List.map_map, hN]
      congr 1
      apply List.map_congr_left
      intro k _
      simp [List.getD_eq_getElem?_getD, hd]
    rw [e1]; exact h.d d (by omega)
  · obtain ⟨i, hi⟩ := List.mem_iff_getElem?.1 hp
    obtain ⟨h1, h2⟩ := List.getElem?_zip_eq_some.1 hi
    have hiN : i < N := by have := (List.getElem?_eq_some_iff.1 h2).1; omega
    have h3 : p.1 = (List.range D).map (wy i) := by simp [rowsF, ← hN, hiN] at h1; rw [← h1, hD]
    rw [h3, sum_range]
    have h4 := h.c i hiN
    have h5 := h.a i
    rw [unitS_get h2] at h4
    omega
theorem AGo_drwQ {cx : Cx} {m : Nat} {k : List AItm} {R : Env → AHeap → Prop} {e : Env} {H : AHeap} {L : List DItm} (M H2 : AHeap) (cs : List AV) (nn q : Nat) (hq : H.length = q) (hH : H ++ keptN cs L = H2) (hM : SubH M H2)
    (h : DGo cx m k R (some ⟨M, q, (newsOf L).map (·.1), M, cs, nn⟩) L e H2) : AGo cx m (.code (.draw L) :: k) R e H := by
  subst hq hH; exact AGo_draw M M cs nn hM hM h
theorem SubH_own {g : Nat} {cs : List AV} {M H : AHeap} : SubH (.own g cs :: M) (.own g cs :: H) = SubH M H := by
  cases cs <;> simp [SubH]
theorem AGo_drwM {cx : Cx} {m : Nat} {k : List AItm} {R : Env → AHeap → Prop} {e : Env} {H : AHeap} {L : List DItm} (M M1 H2 : AHeap) (cs : List AV) (nn q : Nat) (hq : H.length = q) (hH : H ++ keptN cs L = H2) (hM : SubH M H2) (hM1 : SubH M1 H2)
    (h : DGo cx m k R (some ⟨M, q, (newsOf L).map (·.1), M1, cs, nn⟩) L e H2) : AGo cx m (.code (.draw L) :: k) R e H := by
  subst hq hH; exact AGo_draw M M1 cs nn hM hM1 h
theorem Frees.fam1 {Kk : AV → AHeap → Prop} {w0 : Int} {b n D q g0 : Nat} {w : Nat → Nat → Int} (pre : AHeap) (hb : pre.length = b) (hq : q < b) (hq1 : 1 ≤ q) (hp0 : pre[0]? = some (.own 0 [U w0])) (hpre : ∀ i X, pre[i]? = some X → i ≠ q → X.nid) (hX : pre[q]? = some (.own g0 (outC b n n D))) (h : Kk (wayV n D w) [.own 0 [U w0]]) :
    Frees 1 Kk (.ms 1 q g0 0 n) (pre ++ wayH n D w) := by
  have key : ∀ i T, i ≤ n → (∀ X ∈ T, X = AObj.gone) → Frees 1 Kk (.ms 1 q g0 0 n) ((pre.set q (.own g0 (outM b i n D w)) ++ wayH i D w) ++ T) := by
    intro i
    induction i with
    | zero =>
      intro T _ hT
      have hE : Elems 1 ((List.range n).map fun k => .vs 1 (rowF D (w k))) (outM b 0 n D w) := by
        have := Elems_map (f := fun k => AV.vs 1 (rowF D (w k))) (g := fun k => [AV.vs 1 (rowF D (w k))]) (sz := 1) (fun _ => rfl) (fun _ => rfl) (fun _ => rfl) (List.range n)
        rw [show outM b 0 n D w = (List.range n).flatMap fun k => [AV.vs 1 (rowF D (w k))] from by
          have : ∀ l : List Nat, (l.map fun k => if k < 0 then AV.ms 1 (b + k) 0 0 D else .vs 1 (rowF D (w k))) = l.flatMap fun k => [AV.vs 1 (rowF D (w k))] := by
            intro l; induction l with
            | nil => rfl
            | cons a l ih => rw [List.map_cons, List.flatMap_cons, ih]; simp
          exact this _]
        exact this
      refine Frees.frz q g0 1 _ (by simp [List.getElem?_append_left, hb, hq]) hE ?_
      have : AV.frz q g0 1 ((List.range n).map fun k => .vs 1 (rowF D (w k))) (.ms 1 q g0 0 n) = wayV n D w := by
        simp only [AV.frz, if_true]
        rw [if_pos ⟨trivial, trivial, by simp, by simp⟩]
        simp [wayV, List.take_of_length_le]
      rw [this]
      have e : ∀ Hx : AHeap, Hx[0]? = some (.own 0 [U w0]) → Frees 1 Kk (wayV n D w) Hx := fun Hx hx => by
        cases Hx with
        | nil => simp at hx
        | cons X Hx => simp at hx; subst hx; exact Frees.drop1 rfl h
      refine e _ ?_
      rw [frzH_map, List.getElem?_map, List.getElem?_set_ne (by omega), List.append_assoc, List.getElem?_append_left (by rw [List.length_set]; omega), List.getElem?_set_ne (by omega), hp0]; rfl
    | succ i ih =>
      intro T hi hT
      have h1 := ih (.gone :: T) (by omega) (by intro X hX; rcases List.mem_cons.1 hX with rfl | hX; rfl; exact hT X hX)
      refine Frees.frz (b + i) 0 1 (rowF D (w i)) (cs := rowF D (w i)) ?_ ?_ ?_
      · rw [List.getElem?_append_left (by simp [wayH_len, hb]), List.getElem?_append_right (by simp [hb])]
        simp only [List.length_set, hb, Nat.add_sub_cancel_left]
        exact wayH_get (by omega)
      · have := Elems_I ((List.range D).map (w i))
        rw [List.map_map] at this; exact this
      · have h2 : (AV.ms 1 q g0 0 n).frz (b + i) 0 1 (rowF D (w i)) = .ms 1 q g0 0 n := by simp only [AV.frz]; rw [if_neg (by omega)]
        rw [h2, frzH_map]
        have h3 : List.map (AObj.frz (b + i) 0 1 (rowF D (w i))) ((pre.set q (.own g0 (outM b (i + 1) n D w)) ++ wayH (i + 1) D w ++ T).set (b + i) .gone) = (pre.set q (.own g0 (outM b i n D w)) ++ wayH i D w) ++ .gone :: T := by
          rw [wayH_succ, ← List.append_assoc, List.append_assoc _ [_] T, List.set_append_right _ _ (by simp [wayH_len, hb])]
          simp only [List.length_append, List.length_set, hb, wayH_len, Nat.sub_self, List.singleton_append, List.set_cons_zero, List.map_append, List.map_cons]
          refine congr (congrArg _ (congr (congrArg _ ?_) ?_)) (congr (congrArg _ rfl) ?_)
          · rw [List.map_set]
            simp only [AObj.frz, outM_frz]
            apply List.ext_getElem?; intro k
            rw [List.getElem?_set, List.getElem?_set]
            split
            · simp
            · rename_i hk
              rw [List.getElem?_map]
              rcases hpk : pre[k]? with _ | X
              · rfl
              · simp only [Option.map_some]
                rw [AObj.frz_nid (hpre k X hpk (fun h => hk h.symm))]
          · rw [wayH, List.map_map]
            apply List.map_congr_left; intro k _
            simp only [Function.comp, AObj.frz, AV.frzL_nid nidL_rowF]
          · have : T.map (AObj.frz (b + i) 0 1 (rowF D (w i))) = T.map id := by
              apply List.map_congr_left; intro X hX; rw [hT X hX]; rfl
            simpa using this
        rw [h3]; exact h1
  have h4 := key n [] (Nat.le_refl _) (by simp)
  rw [List.append_nil] at h4
  have h5 : outM b n n D w = outC b n n D := by
    apply List.map_congr_left; intro k hk; rw [if_pos (List.mem_range.1 hk), if_pos (List.mem_range.1 hk)]
  rw [h5] at h4
  rwa [show pre.set q (.own g0 (outC b n n D)) = pre from by
    apply List.ext_getElem?; intro k; rw [List.getElem?_set]; split
    · rename_i hk; subst hk; rw [if_pos (by omega), hX]
    · rfl] at h4
set_option maxHeartbeats 4000000 in
theorem d42 (a b c d u v : Int) (cs : List (Int × Int)) (os : List Ord) (ws : List Int) (xs ys zs : List AV) (hxs : xs = cs.map sp) (hys : ys = os.map orV) (hzs : zs = ws.map I) (hV : FrtV ⟨(a, b), (c, d), cs, os⟩) (hwl : ws.length = cs.length) (hwb : ∀ x ∈ ws, 0 ≤ x ∧ x ≤ 1000000) :
    Draws Try.prog 42 [frV a b c d (.vs 2 xs) (.vs 4 ys), winV u v (.vs 1 zs)] (WayQ ⟨(a, b), (c, d), cs, os⟩ ⟨u, v, ws⟩) := by
  refine .of rfl (by rintro r ⟨_, _, rfl, _⟩; rfl) fun w Kk h => ACalls.frees ?_
  have hc1 := hV.c1
  have hc2 := hV.c2
  have ho1 := hV.o1
  have ho2 := hV.o2
  dsimp only at hc1 hc2 ho1 ho2
  have hub := hV.ords.u
  obtain ⟨N, hN⟩ : ∃ N, N = os.length := ⟨_, rfl⟩
  obtain ⟨D, hDD⟩ : ∃ D, D = cs.length := ⟨_, rfl⟩
  rw [← hDD] at hc1 hc2 hwl
  rw [← hN] at ho1 ho2
  obtain ⟨A, hA⟩ : ∃ A, A = std := ⟨_, rfl⟩
  have hne : ∀ x y, A.ne x y = decide (x ≠ y) := by subst hA; intro x y; simp only [std, iNe]; rw [Bool.eq_iff_iff]; simp
  have hee : ∀ x y, A.eq x y = decide (x = y) := by subst hA; intro x y; exact iEq_dec _ _
  have hll : ∀ x y, A.lt x y = decide (x < y) := by subst hA; intro x y; rfl
  have hle : ∀ x y, A.le x y = decide (x ≤ y) := by subst hA; intro x y; rfl
  have hnb : ∀ b, A.bnot b = !b := by subst hA; intro b; rfl
  have hbd : ∀ x y, A.band x y = (x && y) := by subst hA; intro x y; rfl
  have hsg : ∀ g, A.sg g g := by subst hA; exact fun _ => rfl
  obtain ⟨F, hF⟩ : ∃ F, F = Frees 1 Kk := ⟨_, rfl⟩
  rw [show Frees [AObj.own 0 [U w]].length Kk = F from hF.symm]
  have hv1 : A.vlen zs = iLen D := by subst hA; simp [std, hzs, hwl]
  have hv2 : A.vlen ys = iLen N := by subst hA; simp [std, hys, hN]
  have hmk3 : A.mkz 1 24 [.slice none 0 0] (A.vlen ys) (A.vlen ys) (outC 5 0 N D) N := by
    rw [hv2]; subst hA; exact ⟨by unfold iLen; omega, Int.le_refl _, by unfold iLen; omega, by unfold iLen; omega, rfl, by unfold iLen; omega, by rw [← outC_zero]; rfl⟩
  have hmk4 : A.mkz 1 8 [.int .i64 0] (A.vlen ys) (A.vlen ys) (rowF N fun _ => 0) N := by
    rw [hv2]; subst hA; exact ⟨by unfold iLen; omega, Int.le_refl _, by unfold iLen; omega, by unfold iLen; omega, rfl, by unfold iLen; omega, by rw [← zeros_row]; rfl⟩
  obtain ⟨oc, hoc⟩ : ∃ oc, oc = outC 5 0 N D := ⟨_, rfl⟩
  obtain ⟨lc, hlc⟩ : ∃ oc, oc = rowF N fun _ => 0 := ⟨_, rfl⟩
  rw [← hoc] at hmk3
  rw [← hlc] at hmk4
  refine go42 rfl (SGo_run hA ⟨[3, 4], [], [], []⟩ .nil .nil 200 fun T TD hT hTD => ?_)
  cbv
  refine Exists.intro oc (Exists.intro N (And.intro hmk3 ?_)); cbv
  refine Exists.intro lc (Exists.intro N (And.intro hmk4 ?_)); cbv
  rw [hT]
  refine AGo_upE [0, 4, 5, 7, 8] N (fun _ (_ : Unit) => True) (fun j _ i => [(9, I i)])
    (fun j _ => .own 0 [U w] :: .own 0 [I a, I b, I c, I d, .vs 2 xs, .vs 4 ys] :: .own 0 [I u, I v, .vs 1 zs] :: .own 0 (outC 5 j N D) :: .own 0 (rowF N fun k => if k < j then unitS os k else 0) :: wayH j D fun _ _ => 0) () trivial ⟨rfl, trivial⟩ (.inl (by rw [hoc, hlc]; rfl)) fun j _ i hi hj _ Bk hB => ?_
  have hlt : A.lt i (A.vlen ys) = decide (j < N) := by subst hA; exact lt_len (by simp [hys, hN]) hi
  have hadd : ∀ N, j < N → N ≤ 9223372036854775807 → A.add .i64 i 1 = iLen (j + 1) := fun N hj hN => by subst hA; exact add_one hi hj hN
  obtain ⟨lr, hlr⟩ : ∃ r, r = rowF N fun k => if k < j then unitS os k else 0 := ⟨_, rfl⟩
  obtain ⟨oc2, hoc2⟩ : ∃ r, r = outC 5 j N D := ⟨_, rfl⟩
  rw [← hlr, ← hoc2]
  obtain ⟨WH, hWH⟩ : ∃ r, r = wayH j D fun _ _ => 0 := ⟨_, rfl⟩
  have hWl : LenIs WH j := by unfold LenIs; rw [hWH]; exact wayH_len
  rw [← hWH]
  refine SGo_run hA ⟨[3, 4], [], [], ed2⟩ .nil ed2_ok 200 fun T TD hT hTD => ?_
  cbv
  split <;> cbv
  · rename_i hk0
    have hk1 : j < N := by have hz := hlt.symm.trans hk0; simpa using hz
    clear hk0
    obtain ⟨⟨ou, od, ol, ol2⟩, hx⟩ : ∃ x, os[j]? = some x := ⟨_, List.getElem?_eq_getElem (hN ▸ hk1)⟩
    have hix : A.ix 4 4 ys i [I ou, I od, I ol, I ol2] := by subst hA; exact ix_map hys hi hx rfl
    have hix1 : A.ixm 1 1 0 N i j := by subst hA; exact ixm1 hi hk1
    have hup : A.upd 1 lr j [I ou] (rowF N fun k => if k < j + 1 then unitS os k else 0) := by
      subst hA; rw [hlr]
      have := updS_row (D := N) (d := j) (f := fun k => if k < j then unitS os k else 0) (v := ou) hk1
      rw [show rowF N (updF (fun k => if k < j then unitS os k else 0) j ou) = rowF N fun k => if k < j + 1 then unitS os k else 0 from rowF_congr fun k _ => by
        unfold updF; dsimp only
        by_cases h1 : k = j
        · subst h1; rw [if_pos rfl, if_pos (by omega), unitS_get hx]
        · rw [if_neg h1]
          by_cases h2 : k < j
          · rw [if_pos h2, if_pos (by omega)]
          · rw [if_neg h2, if_neg (by omega)]] at this
      exact this
    obtain ⟨lr2, hlr2⟩ : ∃ r, r = rowF N fun k => if k < j + 1 then unitS os k else 0 := ⟨_, rfl⟩
    rw [← hlr2] at hup
    have hmk2 : A.mkz 1 8 [.int .i64 0] (A.vlen zs) (A.vlen zs) (rowF D fun _ => 0) D := by
      rw [hv1]; subst hA; exact ⟨by unfold iLen; omega, Int.le_refl _, by unfold iLen; omega, by unfold iLen; omega, rfl, by unfold iLen; omega, by rw [← zeros_row]; rfl⟩
    obtain ⟨z, hz⟩ : ∃ z, z = rowF D fun _ => 0 := ⟨_, rfl⟩
    rw [← hz] at hmk2
    have hup2 : A.upd 1 oc2 j [.ms 1 (5 + j) 0 0 D] (outC 5 (j + 1) N D) := by subst hA; rw [hoc2]; exact outC_set hk1
    obtain ⟨oc3, hoc3⟩ : ∃ r, r = outC 5 (j + 1) N D := ⟨_, rfl⟩
    rw [← hoc3] at hup2
    obtain ⟨rid, hrid⟩ : ∃ r, r = 5 + j := ⟨_, rfl⟩
    rw [← hrid] at hup2
    rw [hT]
    obtain ⟨WH2, hWH2⟩ : ∃ r, r = WH ++ [.own 0 z] := ⟨_, rfl⟩
    refine AGo_drwQ [.own 0 [U w], .own 0 [I a, I b, I c, I d, .vs 2 xs, .vs 4 ys], .own 0 [I u, I v, .vs 1 zs], .own 0 [], .own 0 []] (.own 0 [U w] :: .own 0 [I a, I b, I c, I d, .vs 2 xs, .vs 4 ys] :: .own 0 [I u, I v, .vs 1 zs] :: .own 0 oc2 :: .own 0 lr :: WH2) z D rid (by unfold LenIs at hWl; simp [hWl]; omega) (by rw [hWH2]; rfl) (by simp [SubH]) ?_
    refine SD_run hA ⟨[3, 4], [], [], []⟩ .nil .nil 200 200 (fun D' hD => by cases hD; simp [SubH]) fun T TD hT hTD => ?_
    cbv
    refine Exists.intro _ (And.intro hix ?_); cbv
    refine And.intro hmk2 ?_; cbv
    refine And.intro (hsg _) (Exists.intro j (And.intro hix1 ?_)); cbv
    refine And.intro (hsg _) (Exists.intro lr2 (And.intro hup ?_)); cbv
    refine And.intro (by subst hA; exact .inr ⟨by simp [SubH], ⟨.inr (by show (_ :: _ :: _ :: _ :: _ :: WH2 : AHeap)[rid]? = (_ :: _ :: _ :: _ :: _ :: WH2 : AHeap)[rid]?; rw [hrid, Nat.add_comm]; rfl), trivial⟩, .inl rfl⟩) ?_; cbv
    refine And.intro (hsg _) (Exists.intro j (And.intro hix1 ?_)); cbv
    refine And.intro (hsg _) (Exists.intro oc3 (And.intro hup2 ?_)); cbv
    refine hB () _ _ hk1 trivial ⟨congrArg I (hadd _ hk1 (by omega)), trivial⟩ ⟨rfl, rfl, rfl, rfl, rfl, trivial⟩ (.inl ?_)
    rw [hlr2, hoc3, hWH2, hWH, hz, wayH_succ]
  · rename_i hk0
    have hk1 : ¬ j < N := by have hz := hlt.symm.trans hk0; simpa using hz
    clear hk0
    have hjn : j = N := by omega
    have hlrN : lr = rowF N (unitS os) := by
      rw [hlr, hjn]
      exact rowF_congr fun k hk => by rw [if_pos (by omega)]
    have hocN : oc2 = outC 5 N N D := by rw [hoc2, hjn]
    subst hjn
    clear hB hlt hadd
    refine Exists.intro () (And.intro (by omega) ?_)
    rintro w2 _ ⟨lz, rfl⟩
    cbv
    rw [hT]
    obtain ⟨R, hR⟩ : ∃ R, R = roomW ⟨u, v, ws⟩ := ⟨_, rfl⟩
    have hRb : ∀ d, 0 ≤ R d ∧ R d ≤ 1000000 := by rw [hR]; exact roomW_bnd hwb
    have hu := unitS_bnd hub
    dsimp only at hu
    refine AGo_upE [0, 4, 5, 7, 8, 10] D (fun q (s : Int × (Nat → Int) × (Nat → Nat → Int)) => WIn R (unitS os) j q s.2.1 s.2.2) (fun q _ i => [(11, I i)])
      (fun q s => .own 0 [U s.1] :: .own 0 [I a, I b, I c, I d, .vs 2 xs, .vs 4 ys] :: .own 0 [I u, I v, .vs 1 zs] :: .own 0 (outC 5 j j D) :: .own 0 (rowF j s.2.1) :: wayH j D s.2.2) (w2, unitS os, fun _ _ => 0)
      ⟨hu, fun _ _ => by dsimp only; omega, fun k _ => by dsimp only [sumR]; omega, fun e he => absurd he (Nat.not_lt_zero _), fun _ _ _ => rfl⟩ ⟨rfl, trivial⟩ (.inl (by rw [hlrN, hocN, hWH])) fun q s i hi hq hP Bk hB => ?_
    have hlt : A.lt i (A.vlen zs) = decide (q < D) := by rw [hv1, hll, hi, decide_eq_decide]; unfold iLen; omega
    have hadd : ∀ N, q < N → N ≤ 9223372036854775807 → A.add .i64 i 1 = iLen (q + 1) := fun N hj hN => by subst hA; exact add_one hi hj hN
    obtain ⟨w3, sl, sw⟩ := s
    obtain ⟨lf, hlf⟩ : ∃ r, r = rowF j sl := ⟨_, rfl⟩
    obtain ⟨ot, hot⟩ : ∃ r, r = outC 5 j j D := ⟨_, rfl⟩
    obtain ⟨W2, hW2⟩ : ∃ r, r = wayH j D sw := ⟨_, rfl⟩
    dsimp only
    rw [← hlf, ← hot, ← hW2]
    clear hT hTD T TD
    refine SGo_run hA ⟨[3, 4], [], (44, eRoomK) :: [], (31, ePlanOf) :: ed2⟩ (.cons eRoomK_ok .nil) (.cons ePlanOf_ok ed2_ok) 200 fun T TD hT hTD => ?_
    cbv
    split <;> cbv
    · rename_i hk0
      have hk1 : q < D := of_decide_eq_true (hlt.symm.trans hk0)
      clear hk0
      refine Exists.intro ws (Exists.intro q (And.intro ⟨hzs, hi, by omega, by omega⟩ ?_))
      intro rm hrm; cbv
      rw [← hR] at hrm
      refine Exists.intro j (And.intro ⟨hv2, by omega⟩ ?_)
      rintro w4 _ ⟨ps, p, rfl, hps, hpp⟩
      cbv
      have hpl : p.length = j := by rw [hpp.length_eq]; simp
      have hpn : p.Nodup := hpp.nodup_iff.2 List.nodup_range
      have hplt : ∀ k ∈ p, k < j := fun k hk => List.mem_range.1 (hpp.mem_iff.1 hk)
      rw [hT]
      refine AGo_upE [0, 4, 5, 7, 8, 10, 11, 13] j (fun y (t : Int × Int × (Nat → Int) × (Nat → Nat → Int)) => WMid R (unitS os) j q (p.take y) t.2.1 t.2.2.1 t.2.2.2) (fun y t i => [(12, I t.2.1), (14, I i)])
        (fun y t => .own 0 [U t.1] :: .own 0 [I a, I b, I c, I d, .vs 2 xs, .vs 4 ys] :: .own 0 [I u, I v, .vs 1 zs] :: .own 0 (outC 5 j j D) :: .own 0 (rowF j t.2.2.1) :: wayH j D t.2.2.2) (w4, R q, sl, sw)
        (hP.mid (hRb q)) ⟨congrArg I hrm, rfl, trivial⟩ (.inl (by rw [hlf, hot, hW2])) fun y t i2 hi2 hy hPt Bk2 hB2 => ?_
      have hlt2 : A.lt i2 (A.vlen ps) = decide (y < j) := by subst hA; exact lt_len (by simp [hps, hpl]) hi2
      have hadd2 : ∀ N, y < N → N ≤ 9223372036854775807 → A.add .i64 i2 1 = iLen (y + 1) := fun N hj hN => by subst hA; exact add_one hi2 hj hN
      obtain ⟨w5, tr, tl, tw⟩ := t
      dsimp only at hPt
      dsimp only
      obtain ⟨lg, hlg⟩ : ∃ r, r = rowF j tl := ⟨_, rfl⟩
      obtain ⟨W3, hW3⟩ : ∃ r, r = wayH j D tw := ⟨_, rfl⟩
      rw [← hlg, ← hW3, ← hot]
      clear hT hTD T TD
      refine SGo_run hA ⟨[3, 4], [1000079], [], []⟩ .nil .nil 200 fun T TD hT hTD => ?_
      cbv
      split <;> cbv
      · rename_i hk0
        have hk2 : y < j := of_decide_eq_true (hlt2.symm.trans hk0)
        clear hk0
        obtain ⟨k, hx⟩ : ∃ x, p[y]? = some x := ⟨_, List.getElem?_eq_getElem (by omega)⟩
        have hkn := hplt k (List.mem_of_getElem? hx)
        have hix : A.ix 1 1 ps i2 [I (iLen k)] := by subst hA; exact ix_map hps hi2 hx rfl
        obtain ⟨ik, hik⟩ : ∃ i, i = iLen k := ⟨_, rfl⟩
        rw [← hik] at hix
        have hx2 : A.ixm 1 1 0 j ik k := by subst hA; exact ixm1 hik hkn
        have hg1 : A.get none lg k (I (tl k)) := by subst hA; rw [hlg]; exact getS_row hkn
        obtain ⟨rid, hrid⟩ : ∃ r, r = 5 + k := ⟨_, rfl⟩
        have hg2 : A.get none ot k (.ms 1 rid 0 0 D) := by subst hA; rw [hot, hrid]; exact outC_get hkn
        have hlb := hPt.a k
        have hrb := hPt.r
        refine Exists.intro _ (And.intro hix ?_); cbv
        refine And.intro (hsg _) (Exists.intro k (And.intro hx2 ?_)); cbv
        refine And.intro (hsg _) (Exists.intro _ (And.intro hg1 ?_)); cbv
        obtain ⟨mn, hmn⟩ : ∃ r, r = A.min tr (tl k) := ⟨_, rfl⟩
        have hmn2 : mn = min tr (tl k) := by rw [hmn]; subst hA; exact iMin_eq _ _
        have hmnb : 0 ≤ mn ∧ mn ≤ 1000000 := by rw [hmn2]; omega
        have hadm : A.add .i64 mn 1 = mn + 1 := by subst hA; exact iAdd_id (by omega) (by omega)
        rw [hT]
        refine AGo_cut (k1 := [_, _]) (fun e H => ∃ (w' n : Int), (0 ≤ n ∧ n ≤ mn) ∧ Fits e [(0, .mp 0 0 0), (4, .mp 1 0 0), (5, .mp 2 0 0), (7, .ms 1 3 0 0 j), (8, .ms 1 4 0 0 j), (10, B lz), (11, I i), (12, I tr), (13, .vs 1 ps), (14, I i2), (15, I n)] ∧ H = .own 0 [U w'] :: .own 0 [I a, I b, I c, I d, .vs 2 xs, .vs 4 ys] :: .own 0 [I u, I v, .vs 1 zs] :: .own 0 ot :: .own 0 lg :: W3) ?_ (fun e1 H1 hP1 => ?_)
        · clear hT hTD T TD
          refine SGo_run hA ⟨[3, 4], [], [], ed2⟩ .nil ed2_ok 200 fun T TD hT hTD => ?_
          cases lz with
          | true =>
            cbv
            refine Exists.intro () (And.intro (by show A.add .i64 (A.min tr (tl k)) 1 ≤ _; rw [← hmn, hadm]; omega) ?_)
            rintro w6 _ ⟨n, rfl, hn0, hn1⟩
            have hn1 : n < A.add .i64 (A.min tr (tl k)) 1 ∨ n = 0 := hn1
            rw [← hmn, hadm] at hn1
            cbv
            exact ⟨w6, n, ⟨hn0, by omega⟩, ⟨rfl, rfl, rfl, rfl, rfl, rfl, rfl, rfl, rfl, rfl, rfl, trivial⟩, rfl⟩
          | false =>
            cbv
            refine Exists.intro () (And.intro (by omega) ?_)
            rintro w6 _ ⟨yy, rfl⟩
            cases yy with
            | true =>
              cbv
              refine Exists.intro () (And.intro (by show A.add .i64 (A.min tr (tl k)) 1 ≤ _; rw [← hmn, hadm]; omega) ?_)
              rintro w7 _ ⟨n, rfl, hn0, hn1⟩
              have hn1 : n < A.add .i64 (A.min tr (tl k)) 1 ∨ n = 0 := hn1
              rw [← hmn, hadm] at hn1
              cbv
              exact ⟨w7, n, ⟨hn0, by omega⟩, ⟨rfl, rfl, rfl, rfl, rfl, rfl, rfl, rfl, rfl, rfl, rfl, trivial⟩, rfl⟩
            | false =>
              cbv
              exact ⟨w6, mn, ⟨hmnb.1, Int.le_refl _⟩, ⟨rfl, rfl, rfl, rfl, rfl, rfl, rfl, rfl, rfl, rfl, congrArg I hmn.symm, trivial⟩, rfl⟩
        obtain ⟨w8, n, ⟨hn0, hn1⟩, hf1, hH1⟩ := hP1
        subst hH1
        refine AGo_forget _ _ hf1 (.inl rfl) ?_ (by simp)
        clear hf1 hT hTD T TD
        have hx3 : A.ixm 1 1 0 j ik k := hx2
        refine SGo_run hA ⟨[3, 4], [1000097], [], []⟩ .nil .nil 200 fun T TD hT hTD => ?_
        cbv
        refine Exists.intro _ (And.intro hix ?_); cbv
        refine And.intro (hsg _) (Exists.intro k (And.intro hx2 ?_)); cbv
        refine And.intro (hsg _) (Exists.intro _ (And.intro hg2 ?_)); cbv
        rw [hT]
        have hjq : ixmS 1 1 0 D i q := ixm1 hi hk1
        have hXr : ∀ (o0 o1 o2 o3 o4 : AObj), (o0 :: o1 :: o2 :: o3 :: o4 :: W3)[rid]? = some (.own 0 (rowF D (tw k))) := fun o0 o1 o2 o3 o4 => by
          rw [hrid, hW3, Nat.add_comm]; exact wayH_get hkn
        refine AGo_iaN rfl rfl rfl (hXr _ _ _ _ _) hjq ?_
        obtain ⟨W4, hW4⟩ : ∃ r, r = wayH j D (updF tw k (updF (tw k) q n)) := ⟨_, rfl⟩
        have hXs : ∀ (o0 o1 o2 o3 o4 : AObj), (o0 :: o1 :: o2 :: o3 :: o4 :: W3).set rid (.own 0 (rowF D (updF (tw k) q n))) = o0 :: o1 :: o2 :: o3 :: o4 :: W4 := fun o0 o1 o2 o3 o4 => by
          rw [hrid, hW3, hW4, Nat.add_comm, ← wayH_set]; rfl
        refine AGo_stN (xs := [I n]) rfl rfl rfl (hXr _ _ _ _ _) (updS_row (v := n) hk1) (hXs _ _ _ _ _) ?_
        refine AGo_ops_nil ?_
        refine AGo_drwM [.own 0 [U w8], .own 0 [I a, I b, I c, I d, .vs 2 xs, .vs 4 ys], .own 0 [I u, I v, .vs 1 zs], .own 0 ot, .own 0 []] [.own 0 [U w8], .own 0 [I a, I b, I c, I d, .vs 2 xs, .vs 4 ys], .own 0 [I u, I v, .vs 1 zs], .own 0 ot, .own 0 lg]
          (.own 0 [U w8] :: .own 0 [I a, I b, I c, I d, .vs 2 xs, .vs 4 ys] :: .own 0 [I u, I v, .vs 1 zs] :: .own 0 ot :: .own 0 lg :: W4) [] 0 _ rfl (by simp [keptN, newsOf]) (by simp [SubH, SubH_own]) (by simp [SubH, SubH_own]) ?_
        have hg3 : A.upd 1 lg k [I (A.sub .i64 (tl k) n)] (rowF j (updF tl k (A.sub .i64 (tl k) n))) := by subst hA; rw [hlg]; exact updS_row hkn
        obtain ⟨lh, hlh⟩ : ∃ r, r = rowF j (updF tl k (A.sub .i64 (tl k) n)) := ⟨_, rfl⟩
        rw [← hlh] at hg3
        refine SD_run hA ⟨[3, 4], [], [], []⟩ .nil .nil 200 200 (fun D' hD => by cases hD; simp [SubH, SubH_own]) fun T TD hT hTD => ?_
        cbv
        refine Exists.intro _ (And.intro hix ?_); cbv
        refine Exists.intro _ (And.intro hix ?_); cbv
        refine And.intro (hsg _) (Exists.intro k (And.intro hx2 ?_)); cbv
        refine And.intro (hsg _) (Exists.intro _ (And.intro hg1 ?_)); cbv
        refine And.intro (hsg _) (Exists.intro k (And.intro hx2 ?_)); cbv
        refine And.intro (hsg _) (Exists.intro lh (And.intro hg3 ?_)); cbv
        refine And.intro (by subst hA; exact .inr ⟨by simp [SubH, SubH_own], trivial, .inl rfl⟩) ?_; cbv
        have hs1 : A.sub .i64 (tl k) n = tl k - n := by subst hA; exact iSub_id (by omega) (by omega)
        have hs2 : A.sub .i64 tr n = tr - n := by subst hA; exact iSub_id (by omega) (by omega)
        have hkt : k ∉ p.take y := by
          intro hm
          obtain ⟨i', hi'⟩ := List.mem_iff_getElem?.1 hm
          rw [List.getElem?_take] at hi'
          split at hi'
          · rename_i h9
            have := (List.getElem?_inj (by omega : i' < p.length) hpn).1 (hi'.trans hx.symm)
            omega
          · cases hi'
        have hpt : p.take (y + 1) = p.take y ++ [k] := by
          obtain ⟨h8, he⟩ := List.getElem?_eq_some_iff.1 hx
          rw [List.take_succ_eq_append_getElem h8, he]
        refine hB2 (w8, tr - n, updF tl k (tl k - n), updF tw k (updF (tw k) q n)) _ _ hk2 ?_ ⟨congrArg I hs2, congrArg I (hadd2 _ hk2 (by omega)), trivial⟩ ⟨rfl, rfl, rfl, rfl, rfl, rfl, rfl, rfl, trivial⟩ (.inl (by dsimp only; rw [hlh, hs1, hot, hW4]))
        show WMid R (unitS os) j q (p.take (y + 1)) (tr - n) _ _
        rw [hpt]
        exact hPt.give hkt hkn hn0 (by omega) (by omega)
      · rename_i hk0
        have hk2 : ¬ y < j := of_decide_eq_false (hlt2.symm.trans hk0)
        clear hk0
        exact hB (w5, tl, tw) _ _ hk1 hPt.done ⟨congrArg I (hadd _ hk1 (by omega)), trivial⟩ ⟨rfl, rfl, rfl, rfl, rfl, rfl, trivial⟩ (.inl (by rw [hlg, hot, hW3]))
    · rename_i hk0
      have hk1 : ¬ q < D := of_decide_eq_false (hlt.symm.trans hk0)
      clear hk0
      have hqD : q = D := by omega
      rw [hF]
      have hend := Frees.fam1 (Kk := Kk) (w0 := w3) (b := 5) (n := j) (D := D) (q := 3) (g0 := 0) (w := sw) [.own 0 [U w3], .own 0 [I a, I b, I c, I d, .vs 2 xs, .vs 4 ys], .own 0 [I u, I v, .vs 1 zs], .own 0 ot, .own 0 lf] rfl (by omega) (by omega) rfl (fun i X hX hi => by
        match i, hX, hi with
        | 0, hX, _ => cases hX; rfl
        | 1, hX, _ => cases hX; rfl
        | 2, hX, _ => cases hX; rfl
        | 3, _, hi => exact absurd rfl hi
        | 4, hX, _ => cases hX; rw [hlf]; exact nidL_rowF) (by rw [hot]; rfl) (by
        rw [wayV_rows]
        refine h w3 _ ⟨_, _, rfl, rfl, ?_⟩
        rw [hqD, hR] at hP
        rw [hN, hDD] at *
        exact WIn.way (f := ⟨(a, b), (c, d), cs, os⟩) (w := ⟨u, v, ws⟩) hP)
      rw [← hW2] at hend
      exact hend
end Go.Sas
namespace Go.Sas
open Go.Proofs
set_option maxRecDepth 100000
def eWayOf : List AV → AHeap → Option PT
  | [.mp id 0 0, .agg [.lit (.int .i64 a), .lit (.int .i64 b), .lit (.int .i64 c), .lit (.int .i64 d), .vs 2 xs, .vs 4 ys], .agg [.lit (.int .i64 u), .lit (.int .i64 v), .vs 1 zs]], H => match H[id]? with
    | some (.own 0 [.lit (.int .u64 _)]) => some fun K => ∃ (cs : List (Int × Int)) (os : List Ord) (ws : List Int), (xs = cs.map sp ∧ ys = os.map orV ∧ zs = ws.map I ∧ FrtV ⟨(a, b), (c, d), cs, os⟩ ∧ ws.length = cs.length ∧ ∀ x ∈ ws, 0 ≤ x ∧ x ≤ 1000000) ∧ ∀ w' r, WayQ ⟨(a, b), (c, d), cs, os⟩ ⟨u, v, ws⟩ r → K r (H.set id (.own 0 [U w']))
    | _ => none
  | _, _ => none
theorem eWayOf_ok : ∀ args H pt, eWayOf args H = some pt → ∀ (Kk : AV → AHeap → Prop), pt Kk → ACalls Try.prog 42 args H Kk := by
  intro args H pt h Kk hk
  unfold eWayOf at h
  split at h
  · split at h
    · rename_i hX
      cases h
      obtain ⟨cs, os, ws, ⟨h1, h2, h3, h4, h5, h6⟩, h7⟩ := hk
      exact d42 _ _ _ _ _ _ cs os ws _ _ _ h1 h2 h3 h4 h5 h6 _ _ _ hX Kk h7
    · cases h
  · cases h
end Go.Sas
