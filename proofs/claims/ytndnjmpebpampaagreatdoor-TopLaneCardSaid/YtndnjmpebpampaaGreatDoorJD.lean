/-
What ice needs, how long loads may stand: contracts.
The least gap of a row: contracts.
Conditions: none.
-/
import Derived.Test.YtndnjmpebpampaaGreatDoorJ5
import Derived.Test.YtndnjmpebpampaaGreatDoorJC
import Derived.Test.YtndnjmpebpampaaGreatDoorP6
import Derived.Test.YtndnjmpebpampaaGreatDoorJ7
set_option linter.unusedVariables false
set_option linter.unusedSimpArgs false
namespace Go.Sas
open Go.Proofs
set_option maxRecDepth 100000
theorem mid_eq {i j : Nat} (hj : j ≤ 1000000) (hi : i < j) : iCv .i64 (iShr .u64 (iCv .u64 (iAdd .i64 (iLen i) (iLen j))) 1) = iLen ((i + j) / 2) := by
  have h1 : iAdd .i64 (iLen i) (iLen j) = ((i + j : Nat) : Int) := by
    rw [iAdd_id] <;> (unfold iLen; omega)
  rw [h1]
  have h2 : iCv .u64 ((i + j : Nat) : Int) = ((i + j : Nat) : Int) := by
    simp [iCv, IntKind.wrap, IntKind.signed, IntKind.bits]; omega
  rw [h2]
  have h3 : iShr .u64 ((i + j : Nat) : Int) 1 = (((i + j) / 2 : Nat) : Int) := by
    simp only [iShr]
    rw [show (min (1 : Int).toNat IntKind.u64.bits) = 1 from rfl]
    rw [Int.fdiv_eq_ediv_of_nonneg _ (by decide)]
    omega
  rw [h3]
  exact wrap_id (by omega) (by omega)
theorem p30 {f : Nat} (hf9 : f ≤ 999) {caps : List AV} (q : Nat → Bool) (N : Nat) (hN : N ≤ 1000000) (H : AHeap) (hcaps : ltGB H.length [(1, .fn f caps)] = true) (hH : ltHB H.length H = true) (hf : ∀ n, n < N → ∀ Kk : AV → AHeap → Prop, Kk (B (q n)) H → ACalls Tryz.prog f (I (iLen n) :: caps) H Kk) {Kk : AV → AHeap → Prop}
    (h : ∀ r : Nat, r ≤ N → (∀ i, r = i + 1 → q i = false) → (r < N → q r = true) → Kk (I (iLen r)) H) : ACalls Tryz.prog 30 [I (iLen N), .fn f caps] H Kk := by
  obtain ⟨A, hA⟩ : ∃ A, A = std := ⟨_, rfl⟩
  obtain ⟨L, hL⟩ : ∃ L, L = iLen N := ⟨_, rfl⟩
  rw [← hL]
  refine go30 rfl ?_
  obtain ⟨R, hR⟩ : ∃ R, R = RetP [ARes.t (Od.g 4)] H.length Kk := ⟨_, rfl⟩
  rw [← hR]
  refine SGo_run hA ⟨[], [], [], []⟩ .nil .nil 200 fun T TD hT hTD => ?_
  cbv
  rw [hT]
  refine AGo_while (σ := { x : Nat × Nat // x.1 ≤ x.2 ∧ x.2 ≤ N ∧ (∀ i, x.1 = i + 1 → q i = false) ∧ (x.2 < N → q x.2 = true) }) (fun x => x.1.2 - x.1.1) (fun x => [(1, .fn f caps), (5, I (iLen x.1.1)), (6, I (iLen x.1.2))]) (fun _ => H) ⟨(0, N), by omega, by omega, fun i hi => by omega, fun h => by omega⟩ ⟨rfl, rfl, congrArg I hL, trivial⟩ (.inl rfl) ?_
  rintro ⟨⟨i, j⟩, h1, h2, h3, h4⟩ Bk hB
  simp only at h1 h2 h3 h4
  obtain ⟨a, ha⟩ : ∃ a, a = iLen i := ⟨_, rfl⟩
  obtain ⟨b, hb⟩ : ∃ b, b = iLen j := ⟨_, rfl⟩
  have hlt : A.lt a b = decide (i < j) := by subst hA; simp only [std, iLt, ha, hb]; unfold iLen; rw [decide_eq_decide]; omega
  simp only
  rw [← ha, ← hb]
  refine SGo_run hA ⟨[], [], [], []⟩ .nil .nil 200 fun T TD hT hTD => ?_
  cbv
  split <;> cbv
  · rename_i hq
    have hij : i < j := by have := hlt.symm.trans hq; simpa using this
    rw [hT]
    obtain ⟨c, hc⟩ : ∃ c, c = A.cv .i64 (A.shr .u64 (A.cv .u64 (A.add .i64 a b)) 1) := ⟨_, rfl⟩
    have hm : c = iLen ((i + j) / 2) := by rw [hc]; subst hA; rw [ha, hb]; exact mid_eq (by omega) hij
    have hadd : A.add .i64 c 1 = iLen ((i + j) / 2 + 1) := by subst hA; exact add_one hm (N := 1000001) (by omega) (by omega)
    refine AGo_call rfl rfl (fid := f) (caps := caps) ?_
    rw [show fnI f = f from if_pos hf9, show ∀ xs : List AV, fnA f caps xs = xs ++ caps from fun xs => if_pos hf9]
    show ACalls _ f (I (A.cv .i64 (A.shr .u64 (A.cv .u64 (A.add .i64 a b)) 1)) :: caps) H _
    rw [← hc, hm]
    refine hf _ (by omega) _ ?_
    obtain ⟨qb, hqb⟩ : ∃ b, b = q ((i + j) / 2) := ⟨_, rfl⟩
    rw [← hqb]
    have hnb : ∀ b, A.bnot b = !b := by subst hA; intro b; rfl
    refine SGo_run hA ⟨[], [], [], []⟩ .nil .nil 200 fun T TD hT hTD => ?_
    cbv
    split <;> cbv
    · rename_i hz
      have hz : qb = false := by have := (hnb qb).symm.trans hz; simpa using this
      refine hB ⟨((i + j) / 2 + 1, j), by simp only; omega, h2, fun k hk => ?_, h4⟩ _ _ (by simp only; omega) ⟨rfl, congrArg I (by rw [← hadd, hc]), congrArg I hb, trivial⟩ (.inl rfl)
      simp only at hk
      rw [show k = (i + j) / 2 by omega, ← hqb, hz]
    · rename_i hz
      have hz : qb = true := by have := (hnb qb).symm.trans hz; simpa using this
      refine hB ⟨(i, (i + j) / 2), by simp only; omega, by simp only; omega, h3, fun _ => by simp only; rw [← hqb, hz]⟩ _ _ (by simp only; omega) ⟨rfl, congrArg I ha, congrArg I (by rw [← hm, hc]), trivial⟩ (.inl rfl)
  · rename_i hq
    have hij : ¬ i < j := by have := hlt.symm.trans hq; simpa using this
    rw [hR]
    refine RetP.same rfl rfl ?_
    rw [ha]
    have hj : j = i := by omega
    subst hj
    exact h _ h2 h3 h4
theorem eCheckA_ok {f : Nat} (hf : ∀ (p : Plate) {a b : Int} {xs ec : List AV} {ne ed gr lo hi sh wi : Int}, PlateIs p a b xs ec ne ed gr lo hi sh wi → Big p.shares → Big p.creep → ∀ (H : AHeap) {Kk : AV → AHeap → Prop}, Kk (I (checkS p)) H →
    ACalls Tryz.prog f [plV a b (.vs 2 xs) (.vs 2 ec) ne ed gr lo hi sh wi] H Kk) : ∀ args pt, eCheckA args = some pt → ∀ (H : AHeap) (Kk : AV → AHeap → Prop), pt (fun r => Kk r H) → ACalls Tryz.prog f args H Kk := by
  intro args pt h H Kk hk
  unfold eCheckA at h
  split at h
  · split at h
    · rename_i x hy
      cases h
      obtain ⟨a, b, xs, ec, ne, ed, gr, lo, hi, sh, wi⟩ := x
      obtain ⟨p, g1, g2, g3, g4⟩ := hk
      exact (hf p g1 g2 g3 H (g4 _ rfl)).wk ⟨asPl_wk hy, trivial⟩
    · cases h
  · cases h
theorem eWiA_ok : ∀ args pt, eWiA args = some pt → ∀ (H : AHeap) (Kk : AV → AHeap → Prop), pt (fun r => Kk r H) → ACalls Tryz.prog 28 args H Kk := by
  intro args pt h H Kk hk
  unfold eWiA at h
  split at h
  · cases h; exact p28 _ _ _ H (hk _ rfl)
  · cases h
abbrev plC (a b : Int) (xs ec : List AV) (ne ed gr lo hi sh wi : Int) : List AV := [I a, I b, .vs 2 xs, .vs 2 ec, I ne, I ed, I gr, I lo, I hi, I sh, I wi]
end Go.Sas
namespace Go.Sas
open Go.Proofs
set_option maxRecDepth 100000
/-- a sum of one row -/
theorem row_step {p : Plate} (hV : PlateV p) {ws : List (Int × Int)} (hR : RowV ws) {g i s : Int} {k : Nat} {x : Int × Int} (hx : ws[k]? = some x) (hs : s = rowTo p ws g i k) {f : Int} (hf : f = partS p.shares (g * farS i (iLen k))) :
    iAdd .i64 s (iMul .i64 x.2 f) = rowTo p ws g i (k + 1) := by
  have hk := (List.getElem?_eq_some_iff.1 hx).1
  have hl := hR.len
  have h1 := rowTo_bnd hV hR (g := g) (i := i) k
  have h2 := hR.get k
  have hg : ws.getD k (0, 0) = x := by rw [List.getD_eq_getElem?_getD, hx]; rfl
  rw [hg] at h2
  have h3 := hV.sh.part (g * farS i (iLen k))
  rw [← hf] at h3
  obtain ⟨e1, e2, e3⟩ := mulB h2 h3 (by omega)
  rw [e1, iAdd_id (by omega) (by omega)]
  simp only [rowTo]
  rw [hg, ← hf, ← hs]
theorem far_mul {g : Int} {i k : Nat} (hg : 0 ≤ g ∧ g ≤ 10000) (hi : i ≤ 30) (hk : k ≤ 30) : iMul .i64 g (iMax (iSub .i64 (iLen i) (iLen k)) (iSub .i64 (iLen k) (iLen i))) = g * farS (iLen i) (iLen k) := by
  rw [iSub_id (by unfold iLen; omega) (by unfold iLen; omega), iSub_id (by unfold iLen; omega) (by unfold iLen; omega)]
  have h : 0 ≤ farS (iLen i) (iLen k) ∧ farS (iLen i) (iLen k) ≤ 30 := by simp only [farS, iMax_eq]; unfold iLen; omega
  exact (mulB hg h (by omega)).1
abbrev rowH (a b : Int) (xs ec : List AV) (ne ed gr lo hi sh wi t : Int) (xw : List AV) : AHeap :=
  [.own 0 (plC a b xs ec ne ed gr lo hi sh wi), .own 0 [I t], .own 0 [.vs 2 xw], .own 0 [B true, I a, I b, .vs 2 xs, .vs 2 ec, I ne, I ed, I gr, I lo, I hi, I sh, I wi, .lit (.slice none 0 0), .lit (.slice none 0 0)]]
set_option maxHeartbeats 4000000 in
theorem p31 (p : Plate) {a b : Int} {xs ec : List AV} {ne ed gr lo hi sh wi : Int} (hp : PlateIs p a b xs ec ne ed gr lo hi sh wi) (hV : PlateV p) (t : Int) (ht : 0 ≤ t ∧ t ≤ 5000) (ws : List (Int × Int)) (hR : RowV ws) (g : Nat) (hg : g ≤ 10000) {xw : List AV} (hxw : xw = ws.map sp) {Kk : AV → AHeap → Prop} (h : Kk (B (rowQ p t ws g)) (rowH a b xs ec ne ed gr lo hi sh wi t xw)) :
    ACalls Tryz.prog 31 [I (iLen g), .mp 2 0 0, .mp 0 0 0, .mp 3 0 0, .mp 1 0 0] (rowH a b xs ec ne ed gr lo hi sh wi t xw) Kk := by
  obtain ⟨A, hA⟩ : ∃ A, A = std := ⟨_, rfl⟩
  obtain ⟨S, hS⟩ : ∃ S, S = stS := ⟨_, rfl⟩
  obtain ⟨S2, hS2⟩ : ∃ S, S = st2 := ⟨_, rfl⟩
  obtain ⟨W, hW⟩ : ∃ W, W = rowQ p t ws g := ⟨_, rfl⟩
  rw [← hW] at h
  obtain ⟨gv, hgv⟩ : ∃ v, v = iLen g := ⟨_, rfl⟩
  have hgb : 0 ≤ gv ∧ gv ≤ 10000 := by rw [hgv]; unfold iLen; omega
  have hnb : ∀ b, A.bnot b = !b := by subst hA; intro b; rfl
  have hlen := hR.len
  have hvl : xw.length = ws.length := by rw [hxw]; simp
  have hsp : xs = p.shares.map sp := hp.hs
  obtain ⟨sl, hsl⟩ : ∃ sl, sl = p.shares := ⟨_, rfl⟩
  have hs : xs = sl.map sp := by rw [hsl]; exact hsp
  have hs1 : sl ≠ [] := by rw [hsl]; exact hV.sh.ne
  have hs2 : sl.length ≤ 9223372036854775807 := by rw [hsl]; have := hV.sh.len; omega
  rw [← hgv]
  refine go31 rfl (SGo_run hA ⟨[], [], [], []⟩ .nil .nil 200 fun T TD hT hTD => ?_)
  cbv
  rw [hT]
  refine AGo_up ws.length (fun j => ∀ i, i < j → enS true p (rowTo p ws gv (iLen i) ws.length) t 0 = true) (fun _ i => [(0, I gv), (1, .mp 2 0 0), (2, .mp 0 0 0), (3, .mp 3 0 0), (4, .mp 1 0 0), (6, B false), (12, I (A.vlen xw)), (13, I i)]) (fun _ => rowH a b xs ec ne ed gr lo hi sh wi t xw) (fun i hi => absurd hi (by omega)) ⟨rfl, rfl, rfl, rfl, rfl, rfl, rfl, rfl, trivial⟩ (.inl rfl) fun j i hij hj hP Bk hB => ?_
  have hlt : A.lt i (A.vlen xw) = decide (j < ws.length) := by subst hA; exact lt_len hvl hij
  have hadd : j < ws.length → A.add .i64 i 1 = iLen (j + 1) := fun hj => by subst hA; exact add_one hij hj (by omega)
  refine SGo_run hA ⟨[], [], [], []⟩ .nil .nil 200 fun T TD hT hTD => ?_
  cbv
  split <;> cbv
  · rename_i z
    have hj1 : j < ws.length := by have z := hlt.symm.trans z; simpa using z
    rw [hT]
    refine AGo_upS ws.length (fun k (s : Int) => s = rowTo p ws gv (iLen j) k) (fun _ s k => [(0, I gv), (1, .mp 2 0 0), (2, .mp 0 0 0), (3, .mp 3 0 0), (4, .mp 1 0 0), (6, B false), (12, I (A.vlen xw)), (13, I i), (7, I i), (8, I s), (16, .vs 2 xw), (17, I (A.vlen xw)), (18, I k)]) (fun _ _ => rowH a b xs ec ne ed gr lo hi sh wi t xw) 0 rfl ⟨rfl, rfl, rfl, rfl, rfl, rfl, rfl, rfl, rfl, rfl, rfl, rfl, rfl, trivial⟩ (.inl rfl) fun k s q hq hk hs' Bk2 hB2 => ?_
    have hlt2 : A.lt q (A.vlen xw) = decide (k < ws.length) := by subst hA; exact lt_len hvl hq
    have hadd2 : k < ws.length → A.add .i64 q 1 = iLen (k + 1) := fun hj => by subst hA; exact add_one hq hj (by omega)
    have hsb : 0 ≤ rowTo p ws gv (iLen j) ws.length ∧ rowTo p ws gv (iLen j) ws.length ≤ 6000000000000 := by have := rowTo_bnd hV hR (g := gv) (i := iLen j) ws.length; omega
    refine SGo_run hA ⟨[], [], [(32, ePart S), (33, eEn S2)], []⟩ (.cons (ePart_ok p32 hS) (.cons (eEn_ok hS2) .nil)) .nil 200 fun T TD hT hTD => ?_
    cbv
    split <;> cbv
    · rename_i z
      have hk1 : k < ws.length := by have z := hlt2.symm.trans z; simpa using z
      obtain ⟨⟨x, y⟩, hx⟩ : ∃ x, ws[k]? = some x := ⟨_, List.getElem?_eq_getElem hk1⟩
      have hix : A.ix 2 2 xw q [I x, I y] := by subst hA; exact ix_map hxw hq hx rfl
      refine Exists.intro _ (And.intro hix ?_)
      cbv
      refine Exists.intro sl (And.intro hs (And.intro hs1 (And.intro hs2 ?_)))
      cbv
      refine hB2 _ _ _ hk1 ?_ ⟨rfl, rfl, rfl, rfl, rfl, rfl, rfl, rfl, rfl, rfl, rfl, rfl, congrArg I (hadd2 hk1), trivial⟩ (hf_drop _ rfl (by simp) rfl)
      show A.add .i64 s (A.mul .i64 y (S.part sl (A.mul .i64 gv (A.max (A.sub .i64 i q) (A.sub .i64 q i))))) = _
      have e : S.part sl (A.mul .i64 gv (A.max (A.sub .i64 i q) (A.sub .i64 q i))) = partS p.shares (gv * farS (iLen j) (iLen k)) := by
        rw [hsl, ← far_mul hgb (by omega) (by omega), hij, hq]; subst hA hS; rfl
      have := row_step hV hR hx hs' e
      subst hA; exact this
    · rename_i z
      have hk1 : k = ws.length := by have z := hlt2.symm.trans z; simp at z; omega
      rw [hk1] at hs'
      rw [← hs'] at hsb
      refine Exists.intro p (And.intro hp (And.intro hV (And.intro (by omega) (And.intro ht ?_))))
      have e : A.bnot (S2.en true p s t 0) = !(enS true p (rowTo p ws gv (iLen j) ws.length) t 0) := by rw [hnb, hs', hS2]; rfl
      cbv
      split <;> cbv
      · rename_i z
        have z := e.symm.trans z
        have z : enS true p (rowTo p ws gv (iLen j) ws.length) t 0 = false := by simpa using z
        refine leaf h (congrArg B ?_) rfl
        rw [hW, rowQ, decide_eq_false_iff_not]
        intro hall
        have := hall j hj1
        rw [← hgv, z] at this; cases this
      · rename_i z
        have z := e.symm.trans z
        have z : enS true p (rowTo p ws gv (iLen j) ws.length) t 0 = true := by simpa using z
        refine hB _ _ hj1 (fun i hi => ?_) ⟨rfl, rfl, rfl, rfl, rfl, rfl, rfl, congrArg I (hadd hj1), trivial⟩ (.inl rfl)
        rcases Nat.lt_succ_iff_lt_or_eq.1 hi with h | h
        · exact hP i h
        · rw [h]; exact z
  · rename_i z
    have hj1 : ¬ j < ws.length := by have z := hlt.symm.trans z; simpa using z
    refine leaf h (congrArg B ?_) rfl
    rw [hW, rowQ, decide_eq_true_eq]
    intro i hi
    rw [← hgv]; exact hP i (by omega)
theorem p11 (p : Plate) {a b : Int} {xs ec : List AV} {ne ed gr lo hi sh wi : Int} (hp : PlateIs p a b xs ec ne ed gr lo hi sh wi) (h1 : Big p.shares) (h2 : Big p.creep) (t : Int) (ws : List (Int × Int)) (h3 : BigL ws) (H : AHeap) {Kk : AV → AHeap → Prop} (h : Kk (.tup [I (gapS p t ws).1, I (gapS p t ws).2]) H) :
    ACalls Tryz.prog 11 [plV a b (.vs 2 xs) (.vs 2 ec) ne ed gr lo hi sh wi, I t, .vs 2 (ws.map sp)] H Kk := by
  refine (fun q => pureC (by rfl) (by rfl) q H h) ?_
  clear h
  intro Kk h
  obtain ⟨A, hA⟩ : ∃ A, A = std := ⟨_, rfl⟩
  obtain ⟨S, hS⟩ : ∃ S, S = stS := ⟨_, rfl⟩
  obtain ⟨W, hW⟩ : ∃ W, W = gapS p t ws := ⟨_, rfl⟩
  rw [← hW] at h
  obtain ⟨xw, hxw⟩ : ∃ v, v = ws.map sp := ⟨_, rfl⟩
  rw [← hxw]
  have hnb : ∀ b, A.bnot b = !b := by subst hA; intro b; rfl
  have eF : S.faults ws 30 200000 = faultsS ws 30 200000 := by subst hS; rfl
  refine go11 rfl (SGo_run hA ⟨[], [], (27, eCheckA) :: (28, eWiA) :: (29, eFaults S) :: [], []⟩ (.cons (eCheckA_ok p27) (.cons eWiA_ok (.cons (eFaults_ok p29 hS) .nil))) .nil 200 fun T TD hT hTD => ?_)
  cbv
  refine Exists.intro p (And.intro hp (And.intro h1 (And.intro h2 ?_)))
  rintro e he
  cbv
  unfold gapS at hW
  split <;> cbv
  · rename_i hq
    have hq : e ≠ 0 := by have hq : A.ne e 0 = true := hq; subst hA; simpa [std, iNe] using hq
    rw [if_pos (by rw [← he]; exact hq)] at hW
    refine leaf h ?_ rfl
    rw [hW, ← he]; try rfl
  rename_i hq
  have hq : checkS p = 0 := by have hq : A.ne e 0 = false := hq; rw [← he]; subst hA; simpa [std, iNe] using hq
  rw [if_neg (by simp [hq])] at hW
  have hV := checkS_ok hq
  clear he
  rintro q1 hq1
  have hn1 : A.bnot q1 = !(wiS t 0 5000) := by rw [hq1]; exact hnb _
  cbv
  by_cases hc : t < 0 ∨ 5000 < t
  · rw [if_pos hc] at hW
    split <;> cbv
    · refine leaf h ?_ rfl; rw [hW]; try rfl
    · exfalso
      rename_i z
      have z := hn1.symm.trans z
      simp [wiS] at z
      omega
  rw [if_neg hc] at hW
  split <;> cbv
  · exfalso
    rename_i z
    have z := hn1.symm.trans z
    simp [wiS] at z
    omega
  clear hn1
  refine Exists.intro ws (And.intro hxw (And.intro h3 ?_))
  cbv
  split <;> cbv
  · rename_i z
    have z : faultsS ws 30 200000 ≠ 0 := by have z : A.ne (S.faults ws 30 200000) 0 = true := z; rw [eF] at z; subst hA; simpa [std, iNe] using z
    rw [if_pos z] at hW
    refine leaf h ?_ rfl; rw [hW, ← eF]; try rfl
  rename_i z
  have z : faultsS ws 30 200000 = 0 := by have z : A.ne (S.faults ws 30 200000) 0 = false := z; rw [eF] at z; subst hA; simpa [std, iNe] using z
  rw [if_neg (by simp [z])] at hW
  have hR := faultsS_row z
  rw [hT]
  refine AGo_call rfl rfl (fid := 30) (caps := []) ?_
  show ACalls _ 30 [I (iLen 10001), .fn 31 [.mp 2 0 0, .mp 0 0 0, .mp 3 0 0, .mp 1 0 0]] (rowH a b xs ec ne ed gr lo hi sh wi t xw) _
  refine p30 (by decide) (rowQ p t ws) 10001 (by omega) _ rfl rfl (fun t1 ht1 Kk hk => p31 p hp hV t (by omega) ws hR t1 (by omega) hxw hk) ?_
  intro r hr1 hr2 hr3
  have hr := firstN_mono (rowQ_mono hV hR) hr1 hr2 hr3
  rw [← hr] at hW
  obtain ⟨rv, hrv⟩ : ∃ v, v = iLen r := ⟨_, rfl⟩
  rw [← hrv] at hW ⊢
  have hgt : A.lt 10000 rv = decide (10000 < r) := by subst hA; rw [hrv]; simp only [std, iLt]; unfold iLen; rw [decide_eq_decide]; omega
  refine SGo_run hA ⟨[], [], [], []⟩ .nil .nil 200 fun T TD hT hTD => ?_
  cbv
  split <;> cbv
  · rename_i z
    have z := hgt.symm.trans z
    simp only [decide_eq_true_eq] at z
    rw [if_neg (by omega)] at hW
    refine leaf h ?_ rfl; rw [hW]; try rfl
  · rename_i z
    have z := hgt.symm.trans z
    simp only [decide_eq_false_iff_not] at z
    rw [if_pos (by omega)] at hW
    refine leaf h ?_ rfl; rw [hW]; try rfl
def eGapA : List AV → Option ((AV → Prop) → Prop)
  | [pl, .lit (.int .i64 t), x] => match asPl pl, asVs 2 x with
    | some x, some xw => some fun K => ∃ p ws, PlIs p x ∧ Big p.shares ∧ Big p.creep ∧ (xw = ws.map sp ∧ BigL ws) ∧ ∀ a e, (a, e) = gapS p t ws → K (.tup [I a, I e])
    | _, _ => none
  | _ => none
theorem eGapA_ok {f : Nat} (hf : ∀ (p : Plate) {a b : Int} {xs ec : List AV} {ne ed gr lo hi sh wi : Int}, PlateIs p a b xs ec ne ed gr lo hi sh wi → Big p.shares → Big p.creep → ∀ (t : Int) (ws : List (Int × Int)), BigL ws → ∀ (H : AHeap) {Kk : AV → AHeap → Prop}, Kk (.tup [I (gapS p t ws).1, I (gapS p t ws).2]) H →
    ACalls Tryz.prog f [plV a b (.vs 2 xs) (.vs 2 ec) ne ed gr lo hi sh wi, I t, .vs 2 (ws.map sp)] H Kk) : ∀ args pt, eGapA args = some pt → ∀ (H : AHeap) (Kk : AV → AHeap → Prop), pt (fun r => Kk r H) → ACalls Tryz.prog f args H Kk := by
  intro args pt h H Kk hk
  unfold eGapA at h
  split at h
  · split at h
    · rename_i x xw hy hz
      cases h
      obtain ⟨a, b, xs, ec, ne, ed, gr, lo, hi, sh, wi⟩ := x
      obtain ⟨p, ws, g1, g2, g3, ⟨rfl, g4⟩, g6⟩ := hk
      exact (hf p g1 g2 g3 _ ws g4 H (g6 _ _ rfl)).wk ⟨asPl_wk hy, Wk.rfl, asVs_wk hz, trivial⟩
    · cases h
  · cases h
end Go.Sas
