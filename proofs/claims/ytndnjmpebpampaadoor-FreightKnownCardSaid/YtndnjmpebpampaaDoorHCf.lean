/-
Freight: how many units may go on a day, and the sum of a row: contracts.
Rows of rows: how they are handed back.
Freight: a plan's way of delivering: contract.
Conditions: none.
-/
import Derived.Test.YtndnjmpebpampaaDoorHBf
import Derived.Test.YtndnjmpebpampaaDoorXFf
set_option linter.unusedVariables false
set_option linter.unusedSimpArgs false
namespace Go.Sas
open Go.Proofs
set_option maxRecDepth 100000
theorem p35 (a b c d u v : Int) (xs os : List AV) (ws : List Int) (n : Nat) (hn : n < ws.length) (hw : ws.length ≤ 9223372036854775807) (H : AHeap) {Kk : AV → AHeap → Prop} (h : Kk (I (roomW ⟨u, v, ws⟩ n)) H) :
    ACalls Tryd.prog 35 [seaV a b c d (.vs 2 xs) (.vs 4 os) u v (.vs 1 (ws.map I)), I (iLen n)] H Kk := by
  refine (fun q => pureC (by rfl) (by rfl) q H h) ?_
  clear h
  intro Kk h
  obtain ⟨ys, hys⟩ : ∃ xs, xs = ws.map I := ⟨_, rfl⟩
  obtain ⟨i, hi⟩ : ∃ i : Int, i = iLen n := ⟨_, rfl⟩
  rw [← hys, ← hi]
  obtain ⟨W, hW⟩ : ∃ W, W = roomW ⟨u, v, ws⟩ n := ⟨_, rfl⟩
  rw [← hW] at h
  obtain ⟨x, hx⟩ : ∃ x, ws[n]? = some x := ⟨_, List.getElem?_eq_getElem hn⟩
  have hWx : W = if u ≤ iLen n ∧ iLen n ≤ v then x else 0 := by rw [hW]; simp only [roomW, List.getD_eq_getElem?_getD, hx]; rfl
  clear hW
  obtain ⟨A, hA⟩ : ∃ A, A = std := ⟨_, rfl⟩
  have hix : A.ix 1 1 ys i [I x] := by subst hA; exact ix_map hys hi hx rfl
  refine go35 rfl (SGo_run hA ⟨[], [], [(21, eIn)], []⟩ (.cons (eIn_ok p21) .nil) .nil 200 fun T TD hT hTD => ?_)
  cbv
  intro q hq
  cbv
  split <;> cbv
  · rename_i hn
    refine leaf h (congrArg I ?_) rfl
    subst hA
    rw [hWx, ← hi]
    have hq2 : q = false := by simpa [std] using hn
    rw [hq2] at hq
    rw [if_neg (by intro h9; have := of_decide_eq_false hq.symm; exact this h9)]
  · rename_i hn
    refine Exists.intro _ (And.intro hix ?_); cbv
    refine leaf h (congrArg I ?_) rfl
    subst hA
    rw [hWx, ← hi]
    have hq2 : q = true := by simpa [std] using hn
    rw [hq2] at hq
    rw [if_pos (of_decide_eq_true hq.symm)]
theorem p42 (l : List Int) (hl : l.length ≤ 1000) (hb : ∀ x ∈ l, 0 ≤ x ∧ x ≤ 1000000000) (H : AHeap) {Kk : AV → AHeap → Prop} (h : Kk (I (sumI l)) H) : ACalls Tryd.prog 42 [.vs 1 (l.map I)] H Kk := by
  refine (fun q => pureC (by rfl) (by rfl) q H h) ?_
  clear h
  intro Kk h
  obtain ⟨xs, hxs⟩ : ∃ xs, xs = l.map I := ⟨_, rfl⟩
  rw [← hxs]
  obtain ⟨A, hA⟩ : ∃ A, A = std := ⟨_, rfl⟩
  refine go42 rfl (SGo_run hA ⟨[], [], [], []⟩ .nil .nil 200 fun T TD hT hTD => ?_)
  cbv
  rw [hT]
  refine AGo_upE [6, 7] l.length (fun j (s : Int) => s + sumI (l.drop j) = sumI l ∧ 0 ≤ s ∧ s ≤ 1000000000 * iLen j) (fun j s i => [(3, I s), (8, I i)]) (fun _ _ => []) 0 ⟨by simp, by omega, by unfold iLen; omega⟩ ⟨rfl, rfl, trivial⟩ (.inl rfl) fun j s i hi hj hP Bk hB => ?_
  have hlt : A.lt i (A.vlen xs) = decide (j < l.length) := by subst hA; exact lt_len (by simp [hxs]) hi
  have hadd : ∀ N, j < N → N ≤ 9223372036854775807 → A.add .i64 i 1 = iLen (j + 1) := fun N hj hN => by subst hA; exact add_one hi hj hN
  refine SGo_run hA ⟨[], [], [], []⟩ .nil .nil 200 fun T TD hT hTD => ?_
  cbv
  split <;> cbv
  · rename_i hk1
    have hk1 : j < l.length := by have := hlt.symm.trans hk1; simpa using this
    obtain ⟨x, hx⟩ : ∃ x, l[j]? = some x := ⟨_, List.getElem?_eq_getElem hk1⟩
    have hix : A.ix 1 1 xs i [I x] := by subst hA; exact ix_map hxs hi hx rfl
    refine Exists.intro _ (And.intro hix ?_); cbv
    have hbx := hb _ (List.mem_of_getElem? hx)
    obtain ⟨h1, h2, h3⟩ := hP
    rw [drop_cons hx] at h1
    have ha : A.add .i64 s x = s + x := by subst hA; unfold iLen at h3; exact iAdd_id (by omega) (by omega)
    refine hB (s + x) _ _ hk1 ⟨by rw [← h1]; simp only [sumI]; omega, by omega, by unfold iLen at h3 ⊢; omega⟩ ⟨congrArg I ha, congrArg I (hadd _ hk1 (by omega)), trivial⟩ ⟨rfl, rfl, trivial⟩ (.inl rfl)
  · rename_i hk1
    have hk1 : ¬ j < l.length := by have := hlt.symm.trans hk1; simpa using this
    refine leaf h (congrArg I ?_) rfl
    obtain ⟨h1, h2, h3⟩ := hP
    rw [← h1, List.drop_eq_nil_of_le (by omega)]; simp [sumI]
def eRoom : List AV → Option ((AV → Prop) → Prop)
  | [.agg [.lit (.int .i64 _), .lit (.int .i64 _), .lit (.int .i64 _), .lit (.int .i64 _), .vs 2 _, .vs 4 _, .lit (.int .i64 u), .lit (.int .i64 v), .vs 1 zs], .lit (.int .i64 n)] =>
    some fun K => ∃ (ws : List Int) (k : Nat), zs = ws.map I ∧ n = iLen k ∧ k < ws.length ∧ ws.length ≤ 9223372036854775807 ∧ ∀ q, q = roomW ⟨u, v, ws⟩ k → K (I q)
  | _ => none
theorem eRoom_ok : ∀ args pt, eRoom args = some pt → ∀ (H : AHeap) (Kk : AV → AHeap → Prop), pt (fun r => Kk r H) → ACalls Tryd.prog 35 args H Kk := by
  intro args pt h H Kk hk
  unfold eRoom at h
  split at h
  · cases h
    obtain ⟨ws, k, rfl, rfl, h1, h2, h3⟩ := hk
    exact p35 _ _ _ _ _ _ _ _ _ _ h1 h2 H (h3 _ rfl)
  · cases h
def eTotal : List AV → Option ((AV → Prop) → Prop)
  | [.vs 1 xs] => some fun K => ∃ l : List Int, xs = l.map I ∧ l.length ≤ 1000 ∧ (∀ x ∈ l, 0 ≤ x ∧ x ≤ 1000000000) ∧ ∀ q, q = sumI l → K (I q)
  | _ => none
theorem eTotal_ok {f : Nat} (hf : ∀ (l : List Int) (_ : l.length ≤ 1000) (_ : ∀ x ∈ l, 0 ≤ x ∧ x ≤ 1000000000) (H : AHeap) {Kk : AV → AHeap → Prop}, Kk (I (sumI l)) H → ACalls Tryd.prog f [.vs 1 (l.map I)] H Kk) : ∀ args pt, eTotal args = some pt → ∀ (H : AHeap) (Kk : AV → AHeap → Prop), pt (fun r => Kk r H) → ACalls Tryd.prog f args H Kk := by
  intro args pt h H Kk hk
  unfold eTotal at h
  split at h
  · cases h
    obtain ⟨l, rfl, h1, h2, h3⟩ := hk
    exact hf l h1 h2 H (h3 _ rfl)
  · cases h
end Go.Sas
namespace Go.Sas
variable {m : Nat} {H : AHeap} {Kk : AV → AHeap → Prop} {r r' : AV}
mutual
theorem AV.frz_nid {id g sz : Nat} {xs0 : List AV} : ∀ {a : AV}, a.nid = true → a.frz id g sz xs0 = a
  | .bad, _ => rfl
  | .lit _, _ => rfl
  | .agg cs, h => by simp only [AV.nid] at h; simp only [AV.frz, AV.frzL_nid h]
  | .tup cs, h => by simp only [AV.nid] at h; simp only [AV.frz, AV.frzL_nid h]
  | .vs _ _, _ => rfl
  | .vp _, _ => rfl
  | .mp _ _ _, h => by simp [AV.nid] at h
  | .ms _ _ _ _ _, h => by simp [AV.nid] at h
  | .yl _ _, h => by simp [AV.nid] at h
  | .es, _ => rfl
  | .nni, _ => rfl
  | .fn _ cs, h => by simp only [AV.nid] at h; simp only [AV.frz, AV.frzL_nid h]
theorem AV.frzL_nid {id g sz : Nat} {xs0 : List AV} : ∀ {bs : List AV}, AV.nidL bs = true → AV.frzL id g sz xs0 bs = bs
  | [], _ => rfl
  | a :: bs, h => by
    simp only [AV.nidL, Bool.and_eq_true] at h
    simp only [AV.frzL, AV.frz_nid h.1, AV.frzL_nid h.2]
end
mutual
theorem nid_ltBn {n : Nat} : ∀ {a : AV}, a.nid = true → a.ltB n = true
  | .bad, _ => rfl
  | .lit _, _ => rfl
  | .agg cs, h => by simp only [AV.nid] at h; simp only [AV.ltB]; exact nidL_ltBn h
  | .tup cs, h => by simp only [AV.nid] at h; simp only [AV.ltB]; exact nidL_ltBn h
  | .vs _ _, _ => rfl
  | .vp _, _ => rfl
  | .mp _ _ _, h => by simp [AV.nid] at h
  | .ms _ _ _ _ _, h => by simp [AV.nid] at h
  | .yl _ _, h => by simp [AV.nid] at h
  | .es, _ => rfl
  | .nni, _ => rfl
  | .fn _ cs, h => by simp only [AV.nid] at h; simp only [AV.ltB]; exact nidL_ltBn h
theorem nidL_ltBn {n : Nat} : ∀ {bs : List AV}, AV.nidL bs = true → AV.ltLB n bs = true
  | [], _ => rfl
  | a :: bs, h => by
    simp only [AV.nidL, Bool.and_eq_true] at h
    simp only [AV.ltLB, nid_ltBn h.1, nidL_ltBn h.2, Bool.and_self]
end
theorem frzL_map {id g sz : Nat} {xs0 : List AV} : ∀ {bs : List AV}, AV.frzL id g sz xs0 bs = bs.map (AV.frz id g sz xs0)
  | [] => rfl
  | a :: bs => by simp only [AV.frzL, List.map_cons, frzL_map]
theorem nidL_rowF {D : Nat} {f : Nat → Int} : AV.nidL (rowF D f) = true := by
  have : ∀ l : List Nat, AV.nidL (l.map fun d => I (f d)) = true := by
    intro l; induction l with
    | nil => rfl
    | cons a l ih => simpa [AV.nidL, AV.nid] using ih
  exact this _
theorem nidL_app : ∀ {a b : List AV}, AV.nidL a = true → AV.nidL b = true → AV.nidL (a ++ b) = true
  | [], _, _, h => h
  | x :: a, b, h, h' => by
    simp only [AV.nidL, Bool.and_eq_true, List.cons_append] at h ⊢
    exact ⟨h.1, nidL_app h.2 h'⟩
theorem nidL_flat {α : Type} {g : α → List AV} (h : ∀ x, AV.nidL (g x) = true) : ∀ (l : List α), AV.nidL (l.flatMap g) = true
  | [] => rfl
  | x :: l => by rw [List.flatMap_cons]; exact nidL_app (h x) (nidL_flat h l)
theorem nidL_map {α : Type} {g : α → AV} (h : ∀ x, (g x).nid = true) : ∀ (l : List α), AV.nidL (l.map g) = true
  | [] => rfl
  | x :: l => by simp only [List.map_cons, AV.nidL, h x, nidL_map h l, Bool.and_self]
/-- it names no object -/
def AObj.nid : AObj → Prop
  | .gone => True
  | .own _ cs => AV.nidL cs = true
  | .raw _ _ _ _ => False
theorem AObj.frz_nid {id g sz : Nat} {xs0 : List AV} {X : AObj} (h : X.nid) : X.frz id g sz xs0 = X := by
  cases X with
  | gone => rfl
  | own g' cs => simp only [AObj.frz, AV.frzL_nid h]
  | raw _ _ _ _ => exact h.elim
def outM (b i n D : Nat) (w : Nat → Nat → Int) : List AV := (List.range n).map fun k => if k < i then .ms 1 (b + k) 0 0 D else .vs 1 (rowF D (w k))
theorem outM_frz {b i n D : Nat} {w : Nat → Nat → Int} : AV.frzL (b + i) 0 1 (rowF D (w i)) (outM b (i + 1) n D w) = outM b i n D w := by
  rw [frzL_map, outM, outM, List.map_map]
  apply List.map_congr_left
  intro k hk
  simp only [Function.comp]
  by_cases h1 : k < i
  · rw [if_pos (by omega), if_pos h1]; simp only [AV.frz]; rw [if_neg (by omega)]
  · rw [if_neg h1]
    by_cases h2 : k = i
    · subst h2; rw [if_pos (by omega)]; simp only [AV.frz, if_true]
      rw [if_pos ⟨trivial, trivial, by simp, by simp [rowF_len]⟩]
      simp [rowF_len, List.take_of_length_le]
    · rw [if_neg (by omega)]; rfl
theorem Frees.fam {b n D q g0 : Nat} {w : Nat → Nat → Int} (pre : AHeap) (hb : pre.length = b) (hq : q < b) (hpre : ∀ i X, pre[i]? = some X → i ≠ q → X.nid) (hX : pre[q]? = some (.own g0 (outC b n n D))) (h : Kk (wayV n D w) []) :
    Frees 0 Kk (.ms 1 q g0 0 n) (pre ++ wayH n D w) := by
  have key : ∀ i T, i ≤ n → (∀ X ∈ T, X = AObj.gone) → Frees 0 Kk (.ms 1 q g0 0 n) ((pre.set q (.own g0 (outM b i n D w)) ++ wayH i D w) ++ T) := by
    intro i
    induction i with
    | zero =>
      intro T _ hT
      have hE : Elems 1 ((List.range n).map fun k => .vs 1 (rowF D (w k))) (outM b 0 n D w) := by
        have := Elems_map (f := fun k => AV.vs 1 (rowF D (w k))) (g := fun k => [AV.vs 1 (rowF D (w k))]) (sz := 1) (fun _ => rfl) (fun _ => rfl) (fun _ => rfl) (List.range n)
        rw [show outM b 0 n D w = (List.range n).flatMap fun k => [AV.vs 1 (rowF D (w k))] from by
          have : ∀ l : List Nat, (l.map fun k => if k < 0 then AV.ms 1 (b + k) 0 0 D else .vs 1 (rowF D (w k))) = l.flatMap fun k => [AV.vs 1 (rowF D (w k))] := by
            intro l; induction l with
            | nil => rfl
            | cons a l ih => rw [List.map_cons, List.flatMap_cons, ih]; simp
          exact this _]
        exact this
      refine Frees.frz q g0 1 _ (by simp [List.getElem?_append_left, hb, hq]) hE ?_
      have : AV.frz q g0 1 ((List.range n).map fun k => .vs 1 (rowF D (w k))) (.ms 1 q g0 0 n) = wayV n D w := by
        simp only [AV.frz, if_true]
        rw [if_pos ⟨trivial, trivial, by simp, by simp⟩]
        simp [wayV, List.take_of_length_le]
      rw [this]
      exact Frees.drop0 h rfl
    | succ i ih =>
      intro T hi hT
      have h1 := ih (.gone :: T) (by omega) (by intro X hX; rcases List.mem_cons.1 hX with rfl | hX; rfl; exact hT X hX)
      refine Frees.frz (b + i) 0 1 (rowF D (w i)) (cs := rowF D (w i)) ?_ ?_ ?_
      · rw [List.getElem?_append_left (by simp [wayH_len, hb]), List.getElem?_append_right (by simp [hb])]
        simp only [List.length_set, hb, Nat.add_sub_cancel_left]
        exact wayH_get (by omega)
      · have := Elems_I ((List.range D).map (w i))
        rw [List.map_map] at this; exact this
      · have h2 : (AV.ms 1 q g0 0 n).frz (b + i) 0 1 (rowF D (w i)) = .ms 1 q g0 0 n := by simp only [AV.frz]; rw [if_neg (by omega)]
        rw [h2, frzH_map]
        have h3 : List.map (AObj.frz (b + i) 0 1 (rowF D (w i))) ((pre.set q (.own g0 (outM b (i + 1) n D w)) ++ wayH (i + 1) D w ++ T).set (b + i) .gone) = (pre.set q (.own g0 (outM b i n D w)) ++ wayH i D w) ++ .gone :: T := by
          rw [wayH_succ, ← List.append_assoc, List.append_assoc _ [_] T, List.set_append_right _ _ (by simp [wayH_len, hb])]
          simp only [List.length_append, List.length_set, hb, wayH_len, Nat.sub_self, List.singleton_append, List.set_cons_zero, List.map_append, List.map_cons]
          refine congr (congrArg _ (congr (congrArg _ ?_) ?_)) (congr (congrArg _ rfl) ?_)
          · rw [List.map_set]
            simp only [AObj.frz, outM_frz]
            apply List.ext_getElem?; intro k
            rw [List.getElem?_set, List.getElem?_set]
            split
            · simp
            · rename_i hk
              rw [List.getElem?_map]
              rcases hpk : pre[k]? with _ | X
              · rfl
              · simp only [Option.map_some]
                rw [AObj.frz_nid (hpre k X hpk (fun h => hk h.symm))]
          · rw [wayH, List.map_map]
            apply List.map_congr_left; intro k _
            simp only [Function.comp, AObj.frz, AV.frzL_nid nidL_rowF]
          · have : T.map (AObj.frz (b + i) 0 1 (rowF D (w i))) = T.map id := by
              apply List.map_congr_left; intro X hX; rw [hT X hX]; rfl
            simpa using this
        rw [h3]; exact h1
  have h4 := key n [] (Nat.le_refl _) (by simp)
  rw [List.append_nil] at h4
  have h5 : outM b n n D w = outC b n n D := by
    apply List.map_congr_left; intro k hk; rw [if_pos (List.mem_range.1 hk), if_pos (List.mem_range.1 hk)]
  rw [h5] at h4
  rwa [show pre.set q (.own g0 (outC b n n D)) = pre from by
    apply List.ext_getElem?; intro k; rw [List.getElem?_set]; split
    · rename_i hk; subst hk; rw [if_pos (by omega), hX]
    · rfl] at h4
end Go.Sas
namespace Go.Sas
open Go.Proofs
set_option maxRecDepth 100000
theorem p24 (a b c d u v : Int) (cs : List (Int × Int)) (os : List Ord) (ws : List Int) (plan : List Nat) (hD : ws.length = cs.length) (hD2 : cs.length ≤ 200) (hn : os.length ≤ 6) (hw : ∀ x ∈ ws, 0 ≤ x ∧ x ≤ 1000000) (hu : ∀ o ∈ os, 0 ≤ o.u ∧ o.u ≤ 1000000) (hp : ∀ k ∈ plan, k < os.length) (hpl : plan.length ≤ 1000) (H : AHeap) {Kk : AV → AHeap → Prop}
    (h : Kk (wayV os.length cs.length (spreadG (roomW ⟨u, v, ws⟩) plan (unitS os) cs.length)) H) :
    ACalls Tryd.prog 24 [seaV a b c d (.vs 2 (cs.map sp)) (.vs 4 (os.map orV)) u v (.vs 1 (ws.map I)), .vs 1 (plan.map fun k => I (iLen k))] H Kk := by
  refine (fun q => pureF (by rfl) (by rfl) q H h) ?_
  clear h
  intro Kk h
  obtain ⟨xs, hxs⟩ : ∃ xs, xs = cs.map sp := ⟨_, rfl⟩
  obtain ⟨ys, hys⟩ : ∃ ys, ys = os.map orV := ⟨_, rfl⟩
  obtain ⟨zs, hzs⟩ : ∃ zs, zs = ws.map I := ⟨_, rfl⟩
  obtain ⟨ps, hps⟩ : ∃ ps, ps = plan.map fun k => I (iLen k) := ⟨_, rfl⟩
  rw [← hxs, ← hys, ← hzs, ← hps]
  obtain ⟨N, hN⟩ : ∃ N, N = os.length := ⟨_, rfl⟩
  obtain ⟨D, hDD⟩ : ∃ D, D = cs.length := ⟨_, rfl⟩
  rw [← hDD] at hD hD2
  rw [← hN] at hn hp
  rw [← hDD, ← hN] at h
  obtain ⟨A, hA⟩ : ∃ A, A = std := ⟨_, rfl⟩
  obtain ⟨F, hF⟩ : ∃ F, F = Frees 0 Kk := ⟨_, rfl⟩
  rw [← hF]
  have hv1 : A.vlen xs = iLen D := by subst hA; simp [std, hxs, hDD]
  have hv2 : A.vlen ys = iLen N := by subst hA; simp [std, hys, hN]
  have hsg : ∀ g, A.sg g g := by subst hA; exact fun _ => rfl
  have hmk : A.mkz 1 24 [.slice none 0 0] (A.vlen ys) (A.vlen ys) (outC 4 0 N D) N := by
    rw [hv2]; subst hA; exact ⟨by unfold iLen; omega, Int.le_refl _, by unfold iLen; omega, by unfold iLen; omega, rfl, by unfold iLen; omega, by rw [← outC_zero]; rfl⟩
  refine go24 rfl (SGo_run hA ⟨[1, 2], [], [], []⟩ .nil .nil 200 fun T TD hT hTD => ?_)
  cbv
  refine Exists.intro (outC 4 0 N D) (Exists.intro N (And.intro hmk ?_))
  obtain ⟨oc, hoc⟩ : ∃ oc, oc = outC 4 0 N D := ⟨_, rfl⟩
  rw [← hoc]
  cbv
  rw [hT]
  refine AGo_place ?_
  refine AGo_upE [1, 2, 5, 6, 21, 22] N (fun _ (_ : Unit) => True) (fun j _ i => [(23, I i)])
    (fun j _ => .own 0 [I a, I b, I c, I d, .vs 2 xs, .vs 4 ys, I u, I v, .vs 1 zs] :: .own 0 (rowF 6 fun k => if k < j then unitS os k else 0) :: .own 0 (outC 4 j N D) :: .own j [] :: wayH j D fun _ _ => 0) () trivial ⟨rfl, trivial⟩ (.inl (by rw [hoc]; rfl)) fun j _ i hi hj _ Bk hB => ?_
  have hlt : A.lt i (A.vlen ys) = decide (j < N) := by subst hA; exact lt_len (by simp [hys, hN]) hi
  have hadd : ∀ N, j < N → N ≤ 9223372036854775807 → A.add .i64 i 1 = iLen (j + 1) := fun N hj hN => by subst hA; exact add_one hi hj hN
  obtain ⟨lr, hlr⟩ : ∃ r, r = rowF 6 fun k => if k < j then unitS os k else 0 := ⟨_, rfl⟩
  obtain ⟨oc2, hoc2⟩ : ∃ r, r = outC 4 j N D := ⟨_, rfl⟩
  rw [← hlr, ← hoc2]
  obtain ⟨WH, hWH⟩ : ∃ r, r = wayH j D fun _ _ => 0 := ⟨_, rfl⟩
  have hWl : LenIs WH j := by unfold LenIs; rw [hWH]; exact wayH_len
  rw [← hWH]
  refine SGo_run hA ⟨[1, 2], [1000008, 1000038], [], []⟩ .nil .nil 200 fun T TD hT hTD => ?_
  cbv
  split <;> cbv
  · rename_i hk0
    have hk1 : j < N := by have hz := hlt.symm.trans hk0; simpa using hz
    clear hk0
    obtain ⟨⟨ou, od, ol, ol2⟩, hx⟩ : ∃ x, os[j]? = some x := ⟨_, List.getElem?_eq_getElem (hN ▸ hk1)⟩
    have hix : A.ix 4 4 ys i [I ou, I od, I ol, I ol2] := by subst hA; exact ix_map hys hi hx rfl
    refine Exists.intro _ (And.intro hix ?_); cbv
    rw [hT]
    refine AGo_newAt 3 rfl rfl ?_
    have hix1 : A.ixm 1 1 0 6 i j := by subst hA; exact ixm1 hi (by omega)
    have hix2 : A.ixm 1 1 0 N i j := by subst hA; exact ixm1 hi hk1
    have hup : A.upd 1 lr j [I ou] (rowF 6 fun k => if k < j + 1 then unitS os k else 0) := by
      subst hA; rw [hlr]
      have := updS_row (D := 6) (d := j) (f := fun k => if k < j then unitS os k else 0) (v := ou) (by omega)
      rw [show rowF 6 (updF (fun k => if k < j then unitS os k else 0) j ou) = rowF 6 fun k => if k < j + 1 then unitS os k else 0 from rowF_congr fun k _ => by
        unfold updF; dsimp only
        by_cases h1 : k = j
        · subst h1; rw [if_pos rfl, if_pos (by omega), unitS_get hx]
        · rw [if_neg h1]
          by_cases h2 : k < j
          · rw [if_pos h2, if_pos (by omega)]
          · rw [if_neg h2, if_neg (by omega)]] at this
      exact this
    obtain ⟨lr2, hlr2⟩ : ∃ r, r = rowF 6 fun k => if k < j + 1 then unitS os k else 0 := ⟨_, rfl⟩
    rw [← hlr2] at hup
    refine SGo_run hA ⟨[1, 2], [1000038], [], []⟩ .nil .nil 200 fun T TD hT hTD => ?_
    cbv
    refine And.intro (hsg _) (Exists.intro j (And.intro hix1 ?_)); cbv
    refine And.intro (hsg _) (Exists.intro lr2 (And.intro hup ?_)); cbv
    rw [hT]
    have hmk2 : mkS 1 8 [.int .i64 0] (A.vlen xs) (A.vlen xs) (rowF D fun _ => 0) D := by
      rw [hv1]; exact ⟨by unfold iLen; omega, Int.le_refl _, by unfold iLen; omega, by unfold iLen; omega, rfl, by unfold iLen; omega, by rw [← zeros_row]; rfl⟩
    obtain ⟨z, hz⟩ : ∃ z, z = rowF D fun _ => 0 := ⟨_, rfl⟩
    rw [← hz] at hmk2
    obtain ⟨WH2, hWH2⟩ : ∃ r, r = WH ++ [.own 0 z] := ⟨_, rfl⟩
    refine AGo_mkslN (q := 4 + j) rfl rfl rfl hmk2 (by unfold LenIs at hWl; simp [hWl]; omega) (by simp only [List.cons_append]; rw [← hWH2]) ?_
    have hup2 : A.upd 1 oc2 j [.ms 1 (4 + j) 0 0 D] (outC 4 (j + 1) N D) := by subst hA; rw [hoc2]; exact outC_set hk1
    obtain ⟨oc3, hoc3⟩ : ∃ r, r = outC 4 (j + 1) N D := ⟨_, rfl⟩
    rw [← hoc3] at hup2
    obtain ⟨rid, hrid⟩ : ∃ r, r = 4 + j := ⟨_, rfl⟩
    rw [← hrid] at hup2 ⊢
    refine AGo_weakO 3 rfl ?_
    refine SGo_run hA ⟨[1, 2], [], [], []⟩ .nil .nil 200 fun T TD hT hTD => ?_
    cbv
    refine And.intro (hsg _) (Exists.intro j (And.intro hix2 ?_)); cbv
    refine And.intro (hsg _) (Exists.intro oc3 (And.intro hup2 ?_)); cbv
    refine hB () _ _ hk1 trivial ⟨congrArg I (hadd _ hk1 (by omega)), trivial⟩ ⟨rfl, rfl, rfl, rfl, rfl, rfl, trivial⟩ (.inl ?_)
    rw [hlr2, hoc3, hWH2, hWH, hz, wayH_succ]
  · rename_i hk0
    have hk1 : ¬ j < N := by have hz := hlt.symm.trans hk0; simpa using hz
    clear hk0
    have hjn : j = N := by omega
    have hlr6 : lr = rowF 6 (unitS os) := by
      rw [hlr, hjn]
      exact rowF_congr fun k _ => by
        by_cases h2 : k < N
        · rw [if_pos h2]
        · rw [if_neg h2, unitS_none (by omega)]
    have hoc6 : oc2 = outC 4 N N D := by rw [hoc2, hjn]
    subst hjn
    clear hB hlt hadd
    rw [hT]
    obtain ⟨R, hR⟩ : ∃ R, R = roomW ⟨u, v, ws⟩ := ⟨_, rfl⟩
    have hRb : ∀ d, 0 ≤ R d ∧ R d ≤ 1000000 := by rw [hR]; exact roomW_bnd hw
    refine AGo_upE [1, 2, 5, 6, 44] D (fun q (s : (Nat → Int) × (Nat → Nat → Int)) => s = daysG R plan (unitS os) q ∧ ∀ k, 0 ≤ s.1 k ∧ s.1 k ≤ 1000000) (fun q _ i => [(45, I i)])
      (fun q s => .own 0 [I a, I b, I c, I d, .vs 2 xs, .vs 4 ys, I u, I v, .vs 1 zs] :: .own 0 (rowF 6 s.1) :: .own 0 (outC 4 j j D) :: .own j [] :: wayH j D s.2) (unitS os, fun _ _ => 0) ⟨rfl, unitS_bnd hu⟩ ⟨rfl, trivial⟩ (.inl (by rw [hlr6, hoc6, hWH])) fun q s i hi hq hP Bk hB => ?_
    have hlt : A.lt i (A.vlen xs) = decide (q < D) := by subst hA; exact lt_len (by simp [hxs, hDD]) hi
    have hadd : ∀ N, q < N → N ≤ 9223372036854775807 → A.add .i64 i 1 = iLen (q + 1) := fun N hj hN => by subst hA; exact add_one hi hj hN
    obtain ⟨sl, sw⟩ := s
    obtain ⟨hP1, hP2⟩ := hP
    obtain ⟨lf, hlf⟩ : ∃ r, r = rowF 6 sl := ⟨_, rfl⟩
    obtain ⟨ot, hot⟩ : ∃ r, r = outC 4 j j D := ⟨_, rfl⟩
    obtain ⟨W2, hW2⟩ : ∃ r, r = wayH j D sw := ⟨_, rfl⟩
    dsimp only
    rw [← hlf, ← hot, ← hW2]
    refine SGo_run hA ⟨[1, 2], [1000068], (35, eRoom) :: [], []⟩ (.cons eRoom_ok .nil) .nil 200 fun T TD hT hTD => ?_
    cbv
    split <;> cbv
    · rename_i hk0
      have hk1 : q < D := by have hz := hlt.symm.trans hk0; simpa using hz
      clear hk0
      refine Exists.intro ws (Exists.intro q (And.intro hzs (And.intro hi (And.intro (by omega) (And.intro (by omega) ?_))))); cbv
      intro rm hrm
      rw [← hR] at hrm
      cbv
      rw [hT]
      have hrm0 := hRb q
      refine AGo_upE [1, 2, 5, 6, 9, 44, 45, 51, 52] plan.length (fun y (t : Int × (Nat → Int) × (Nat → Nat → Int)) => t = (plan.take y).foldl (give q) (R q, sl, sw) ∧ GiveOk t) (fun y t i => [(10, I t.1), (53, I i)])
        (fun y t => .own 0 [I a, I b, I c, I d, .vs 2 xs, .vs 4 ys, I u, I v, .vs 1 zs] :: .own 0 (rowF 6 t.2.1) :: .own 0 (outC 4 j j D) :: .own j [] :: wayH j D t.2.2) (R q, sl, sw) ⟨rfl, ⟨hRb q, hP2⟩⟩ ⟨congrArg I hrm, rfl, trivial⟩ (.inl (by rw [hlf, hot, hW2])) fun y t i2 hi2 hy hPt Bk2 hB2 => ?_
      have hlt2 : A.lt i2 (A.vlen ps) = decide (y < plan.length) := by subst hA; exact lt_len (by simp [hps]) hi2
      have hadd2 : ∀ N, y < N → N ≤ 9223372036854775807 → A.add .i64 i2 1 = iLen (y + 1) := fun N hj hN => by subst hA; exact add_one hi2 hj hN
      obtain ⟨tr, tl, tw⟩ := t
      obtain ⟨hPt1, hPt2⟩ := hPt
      dsimp only
      obtain ⟨lg, hlg⟩ : ∃ r, r = rowF 6 tl := ⟨_, rfl⟩
      obtain ⟨W3, hW3⟩ : ∃ r, r = wayH j D tw := ⟨_, rfl⟩
      rw [← hlg, ← hW3, ← hot]
      refine SGo_run hA ⟨[1, 2], [1000068], [], []⟩ .nil .nil 200 fun T TD hT hTD => ?_
      cbv
      split <;> cbv
      · rename_i hk0
        have hk2 : y < plan.length := by have hz := hlt2.symm.trans hk0; simpa using hz
        clear hk0
        obtain ⟨k, hx⟩ : ∃ x, plan[y]? = some x := ⟨_, List.getElem?_eq_getElem hk2⟩
        have hkn := hp k (List.mem_of_getElem? hx)
        have hix : A.ix 1 1 ps i2 [I (iLen k)] := by subst hA; exact ix_map hps hi2 hx rfl
        obtain ⟨ik, hik⟩ : ∃ i, i = iLen k := ⟨_, rfl⟩
        rw [← hik] at hix
        have hx1 : A.ixm 1 1 0 6 ik k := by subst hA; exact ixm1 hik (by omega)
        have hx2 : A.ixm 1 1 0 j ik k := by subst hA; exact ixm1 hik (by omega)
        have hg1 : A.get none lg k (I (tl k)) := by subst hA; rw [hlg]; exact getS_row (by omega)
        obtain ⟨rid, hrid⟩ : ∃ r, r = 4 + k := ⟨_, rfl⟩
        have hg2 : A.get none ot k (.ms 1 rid 0 0 D) := by subst hA; rw [hot, hrid]; exact outC_get (by omega)
        refine Exists.intro _ (And.intro hix ?_); cbv
        refine And.intro (hsg _) (Exists.intro k (And.intro hx1 ?_)); cbv
        refine And.intro (hsg _) (Exists.intro _ (And.intro hg1 ?_)); cbv
        refine And.intro (hsg _) (Exists.intro k (And.intro hx2 ?_)); cbv
        refine And.intro (hsg _) (Exists.intro _ (And.intro hg2 ?_)); cbv
        rw [hT]
        have hjq : ixmS 1 1 0 D i q := ixm1 hi hk1
        have hXr : ∀ (o0 o1 o2 o3 : AObj), (o0 :: o1 :: o2 :: o3 :: W3)[rid]? = some (.own 0 (rowF D (tw k))) := fun o0 o1 o2 o3 => by
          rw [hrid, hW3, Nat.add_comm]; exact wayH_get hkn
        refine AGo_iaN rfl rfl rfl (hXr _ _ _ _) hjq ?_
        obtain ⟨mn, hmn⟩ : ∃ r, r = A.min tr (tl k) := ⟨_, rfl⟩
        have hmn2 : mn = min tr (tl k) := by rw [hmn]; subst hA; exact iMin_eq _ _
        obtain ⟨W4, hW4⟩ : ∃ r, r = wayH j D (updF tw k (updF (tw k) q mn)) := ⟨_, rfl⟩
        have hXs : ∀ (o0 o1 o2 o3 : AObj), (o0 :: o1 :: o2 :: o3 :: W3).set rid (.own 0 (rowF D (updF (tw k) q mn))) = o0 :: o1 :: o2 :: o3 :: W4 := fun o0 o1 o2 o3 => by
          rw [hrid, hW3, hW4, Nat.add_comm, ← wayH_set]; rfl
        refine AGo_stN (xs := [I mn]) rfl rfl (by rw [hmn]; rfl) (hXr _ _ _ _) (updS_row (v := mn) hk1) (hXs _ _ _ _) ?_
        have hg3 : A.upd 1 lg k [I (A.sub .i64 (tl k) (A.min tr (tl k)))] (rowF 6 (updF tl k (A.sub .i64 (tl k) (A.min tr (tl k))))) := by subst hA; rw [hlg]; exact updS_row (by omega)
        obtain ⟨lh, hlh⟩ : ∃ r, r = rowF 6 (updF tl k (A.sub .i64 (tl k) (A.min tr (tl k)))) := ⟨_, rfl⟩
        rw [← hlh] at hg3
        refine SGo_run hA ⟨[1, 2], [], [], []⟩ .nil .nil 200 fun T TD hT hTD => ?_
        cbv
        refine And.intro (hsg _) (Exists.intro k (And.intro hx1 ?_)); cbv
        refine And.intro (hsg _) (Exists.intro _ (And.intro hg1 ?_)); cbv
        refine And.intro (hsg _) (Exists.intro k (And.intro hx1 ?_)); cbv
        refine And.intro (hsg _) (Exists.intro lh (And.intro hg3 ?_)); cbv
        have hs1 : A.sub .i64 (tl k) (A.min tr (tl k)) = tl k - mn := by
          rw [← hmn]; have := hPt2.2 k; have := hPt2.1; dsimp only at *; subst hA; exact iSub_id (by omega) (by omega)
        have hs2 : A.sub .i64 tr (A.min tr (tl k)) = tr - mn := by
          rw [← hmn]; have := hPt2.2 k; have := hPt2.1; dsimp only at *; subst hA; exact iSub_id (by omega) (by omega)
        refine hB2 (tr - mn, updF tl k (tl k - mn), updF tw k (updF (tw k) q mn)) _ _ hk2 ⟨?_, ?_⟩ ⟨congrArg I hs2, congrArg I (hadd2 _ hk2 (by omega)), trivial⟩ ⟨rfl, rfl, rfl, rfl, rfl, rfl, rfl, rfl, rfl, trivial⟩ (.inl (by rw [hlh, hs1, hot, hW4]))
        · rw [foldl_take_succ hx, ← hPt1, hmn2]; rfl
        · rw [hmn2]; exact hPt2.give q k
      · rename_i hk0
        have hk2 : ¬ y < plan.length := by have hz := hlt2.symm.trans hk0; simpa using hz
        clear hk0
        refine hB (tl, tw) _ _ hk1 ⟨?_, hPt2.2⟩ ⟨congrArg I (hadd _ hk1 (by omega)), trivial⟩ ⟨rfl, rfl, rfl, rfl, rfl, trivial⟩ (.inl (by rw [hlg, hot, hW3]))
        rw [daysG_succ, ← hP1, dayG]
        rw [List.take_of_length_le (by omega)] at hPt1
        rw [← hPt1]
    · rename_i hk0
      have hk1 : ¬ q < D := by have hz := hlt.symm.trans hk0; simpa using hz
      clear hk0
      rw [hF]
      have hend := Frees.fam (Kk := Kk) (b := 4) (n := j) (D := D) (q := 2) (g0 := 0) (w := sw) [.own 0 [I a, I b, I c, I d, .vs 2 xs, .vs 4 ys, I u, I v, .vs 1 zs], .own 0 lf, .own 0 ot, .own j []] rfl (by omega) (fun i X hX hi => by
        match i, hX, hi with
        | 0, hX, _ => cases hX; rfl
        | 1, hX, _ => cases hX; rw [hlf]; exact nidL_rowF
        | 2, _, hi => exact absurd rfl hi
        | 3, hX, _ => cases hX; rfl) (by rw [hot]; rfl) (by
        have : sw = spreadG R plan (unitS os) D := by rw [spreadG, ← show q = D by omega, ← hP1]
        rw [this, hR]; exact h)
      rw [← hW2] at hend
      exact hend
def eSpreadF : List AV → Option ((AV → Prop) → Prop)
  | [.agg [.lit (.int .i64 _), .lit (.int .i64 _), .lit (.int .i64 _), .lit (.int .i64 _), .vs 2 xs, .vs 4 ys, .lit (.int .i64 u), .lit (.int .i64 v), .vs 1 zs], .vs 1 ps] =>
    some fun K => ∃ (cs : List (Int × Int)) (os : List Ord) (ws : List Int) (plan : List Nat), xs = cs.map sp ∧ ys = os.map orV ∧ zs = ws.map I ∧ (ps = plan.map fun k => I (iLen k)) ∧ ws.length = cs.length ∧ cs.length ≤ 200 ∧ os.length ≤ 6 ∧ (∀ x ∈ ws, 0 ≤ x ∧ x ≤ 1000000) ∧ (∀ o ∈ os, 0 ≤ o.u ∧ o.u ≤ 1000000) ∧ (∀ k ∈ plan, k < os.length) ∧ plan.length ≤ 1000 ∧
      ∀ zs2 : List AV, (zs2 = (rowsF os.length cs.length (spreadG (roomW ⟨u, v, ws⟩) plan (unitS os) cs.length)).map fun r => .vs 1 (r.map I)) → K (.vs 1 zs2)
  | _ => none
theorem eSpreadF_ok : ∀ args pt, eSpreadF args = some pt → ∀ (H : AHeap) (Kk : AV → AHeap → Prop), pt (fun r => Kk r H) → ACalls Tryd.prog 24 args H Kk := by
  intro args pt h H Kk hk
  unfold eSpreadF at h
  split at h
  · cases h
    obtain ⟨cs, os, ws, plan, rfl, rfl, rfl, rfl, h1, h2, h3, h4, h5, h6, h7, h8⟩ := hk
    exact p24 _ _ _ _ _ _ _ _ _ _ h1 h2 h3 h4 h5 h6 h7 H (by rw [wayV_rows]; exact h8 _ rfl)
  · cases h
end Go.Sas
