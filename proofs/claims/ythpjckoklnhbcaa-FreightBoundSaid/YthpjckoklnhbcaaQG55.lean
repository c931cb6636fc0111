/-
Freight: the bound: contract.
Conditions: none.
-/
import Derived.Test.YthpjckoklnhbcaaHN
import Derived.Test.YthpjckoklnhbcaaQG54
set_option linter.unusedVariables false
set_option linter.unusedSimpArgs false
namespace Go.Sas
open Go.Proofs
set_option maxRecDepth 100000
theorem minF_cons {n x : Int} {r : List Int} : minF n (x :: r) = min n (minF x r) := by
  have key : ∀ (l : List Int) (a b : Int), minF (min a b) l = min a (minF b l) := by
    intro l
    induction l with
    | nil => intro a b; rfl
    | cons y l ih => intro a b; simp only [minF, List.foldl_cons] at ih ⊢; rw [show min (min a b) y = min a (min b y) by omega]; exact ih _ _
  simp only [minF, List.foldl_cons]
  exact key r n x
theorem p80 (x : Int) (r : List Int) (hl : r.length ≤ 1000) (H : AHeap) {Kk : AV → AHeap → Prop} (h : Kk (I (minF x r)) H) : ACalls Try.prog 80 [.vs 1 ((x :: r).map I)] H Kk := by
  refine (fun q => pureC (by rfl) (by rfl) q H h) ?_
  clear h
  intro Kk h
  obtain ⟨l, hl0⟩ : ∃ l, l = x :: r := ⟨_, rfl⟩
  obtain ⟨xs, hxs⟩ : ∃ xs, xs = l.map I := ⟨_, rfl⟩
  rw [← hl0, ← hxs]
  obtain ⟨W, hW⟩ : ∃ W, W = minF x r := ⟨_, rfl⟩
  rw [← hW] at h
  have hln : l.length = r.length + 1 := by rw [hl0]; simp
  obtain ⟨A, hA⟩ : ∃ A, A = std := ⟨_, rfl⟩
  have hv : A.vlen xs = iLen (r.length + 1) := by subst hA; simp [std, hxs, hln]
  have hlt0 : A.lt (A.vlen xs) 1 = false := by rw [hv]; subst hA; show decide (iLen (r.length + 1) < 1) = false; unfold iLen; simp; omega
  have hx0 : A.ix 1 1 xs 0 [I x] := by subst hA; exact ix_map hxs (j := 0) rfl (by rw [hl0]; rfl) rfl
  refine go80 rfl (SGo_run hA ⟨[], [], [], []⟩ .nil .nil 200 fun T TD hT hTD => ?_)
  cbv
  split <;> cbv
  · rename_i hz; exact Bool.noConfusion (hz.symm.trans hlt0)
  refine Exists.intro _ (And.intro hx0 ?_); cbv
  rw [hT]
  refine AGo_upE [0] r.length (fun _ (_ : Unit) => True) (fun j _ _ => [(3, I (minF x (r.take j))), (4, I (iLen (j + 1)))]) (fun _ _ => []) () trivial ⟨rfl, rfl, trivial⟩ (.inl rfl) fun j _ _ _ hj _ Bk hB => ?_
  clear hT hTD T TD
  obtain ⟨ij, hij⟩ : ∃ q, q = iLen (j + 1) := ⟨_, rfl⟩
  obtain ⟨mj, hmj⟩ : ∃ q, q = minF x (r.take j) := ⟨_, rfl⟩
  rw [← hij, ← hmj]
  have hlt : A.lt ij (A.vlen xs) = decide (j < r.length) := by rw [hv, hij]; subst hA; show decide (iLen (j + 1) < iLen (r.length + 1)) = _; unfold iLen; apply decide_eq_decide.2; omega
  refine SGo_run hA ⟨[], [], [], []⟩ .nil .nil 200 fun T TD hT hTD => ?_
  cbv
  split <;> cbv
  · rename_i hk0
    have hk1 : j < r.length := by have hz := hlt.symm.trans hk0; simpa using hz
    clear hk0
    obtain ⟨y, hy⟩ : ∃ y, r[j]? = some y := ⟨_, List.getElem?_eq_getElem hk1⟩
    have hix : A.ix 1 1 xs ij [I y] := by subst hA; exact ix_map hxs hij (by rw [hl0]; simpa using hy) rfl
    have hi1 : A.add .i64 ij 1 = iLen (j + 1 + 1) := by subst hA; exact add_one hij (N := 1002) (by omega) (by omega)
    have hmn : A.min mj y = minF x (r.take (j + 1)) := by subst hA; show iMin mj y = _; rw [iMin_eq, take_succ_mem hy, hmj]; unfold minF; rw [List.foldl_append]; rfl
    refine Exists.intro _ (And.intro hix ?_); cbv
    exact hB () _ _ hk1 trivial ⟨congrArg I hmn, congrArg I hi1, trivial⟩ ⟨rfl, trivial⟩ (.inl rfl)
  · rename_i hk0
    have hk1 : ¬ j < r.length := by have hz := hlt.symm.trans hk0; simpa using hz
    clear hk0
    exact leaf h (congrArg I (by rw [hW, hmj, List.take_of_length_le (by omega)])) rfl
/-- a part of a row of single cells, seen where nothing is written -/
theorem Vw.ms1 {H : AHeap} {id g off len : Nat} {cs xs : List AV} (hX : H[id]? = some (.own g cs)) (hE : Elems 1 xs cs) (hl : off + len ≤ xs.length) : Vw H (.ms 1 id g off len) (.vs 1 ((xs.drop off).take len)) := fun st w v hH hv => by
  obtain ⟨st', h1, h2, h3⟩ := freezeAll hH hX hE
  have h4 := h3 _ _ hv
  have e : AV.frz id g 1 xs (.ms 1 id g off len) = .vs 1 ((xs.drop off).take len) := by
    simp only [AV.frz, if_true]
    rw [if_pos ⟨trivial, trivial, by omega, by omega⟩]; simp
  rw [e] at h4
  exact RelV.nid h2.rdAll (by simp [AV.nid]) h4
theorem p80m {H : AHeap} {id g off len : Nat} (l : List Int) (x : Int) (r : List Int) (hX : H[id]? = some (.own g (l.map I))) (h2 : off + len = l.length) (h3 : l.drop off = x :: r) (h4 : l.length ≤ 1000) {Kk : AV → AHeap → Prop} (h : Kk (I (minF x r)) H) : ACalls Try.prog 80 [.ms 1 id g off len] H Kk := by
  have h9 := congrArg List.length h3
  simp at h9
  have h6 := p80 x r (by omega) [] (Kk := fun q _ => q.pl = true ∧ q = I (minF x r)) ⟨rfl, rfl⟩
  have hv := Vw.ms1 (off := off) (len := len) hX (Elems_I l) (by simp; omega)
  refine ACalls.thaw h6 (VwL.cons ?_ VwL.nil) (fun q hq => by rw [hq]; exact h)
  rw [← List.map_drop, h3, List.take_of_length_le (by simp; omega)] at hv
  exact hv
def eMinS : List AV → AHeap → Option PT
  | [.ms 1 id g off len], H => match H[id]? with
    | some (.own g' cc) => some fun K => ∃ (l : List Int) (x : Int) (r : List Int), (g' = g ∧ cc = l.map I ∧ off + len = l.length ∧ l.drop off = x :: r ∧ l.length ≤ 1000) ∧ ∀ q, q = minF x r → K (I q) H
    | _ => none
  | _, _ => none
theorem eMinS_ok : ∀ args H pt, eMinS args H = some pt → ∀ (Kk : AV → AHeap → Prop), pt Kk → ACalls Try.prog 80 args H Kk := by
  intro args H pt h Kk hk
  unfold eMinS at h
  split at h
  · split at h
    · rename_i hX
      cases h
      obtain ⟨l, x, r, ⟨rfl, rfl, h2, h3, h4⟩, h5⟩ := hk
      exact p80m l x r hX h2 h3 h4 (h5 _ rfl)
    · cases h
  · cases h
set_option maxHeartbeats 8000000 in
theorem p26 (a b c d : Int) (cs : List (Int × Int)) (os : List Ord) (hc : cs.length ≤ 9223372036854775807) (ho : os.length ≤ 9223372036854775807) (H : AHeap) {Kk : AV → AHeap → Prop}
    (h : Kk (.tup [I (boundS ⟨(a, b), (c, d), cs, os⟩).1, I (boundS ⟨(a, b), (c, d), cs, os⟩).2]) H) :
    ACalls Try.prog 26 [frV a b c d (.vs 2 (cs.map sp)) (.vs 4 (os.map orV))] H Kk := by
  refine (fun q => pureC (by rfl) (by rfl) q H h) ?_
  clear h
  intro Kk h
  obtain ⟨xs, hxs⟩ : ∃ xs, xs = cs.map sp := ⟨_, rfl⟩
  obtain ⟨ys, hys⟩ : ∃ ys, ys = os.map orV := ⟨_, rfl⟩
  rw [← hxs, ← hys]
  obtain ⟨W, hW⟩ : ∃ W, W = boundS ⟨(a, b), (c, d), cs, os⟩ := ⟨_, rfl⟩
  rw [← hW] at h
  unfold boundS at hW
  obtain ⟨N, hN⟩ : ∃ n, n = os.length := ⟨_, rfl⟩
  obtain ⟨A, hA⟩ : ∃ A, A = std := ⟨_, rfl⟩
  have hsg : ∀ g, A.sg g g := by subst hA; exact fun _ => rfl
  have hll : ∀ x y, A.lt x y = decide (x < y) := by subst hA; intro x y; rfl
  have hvl : A.vlen ys = iLen N := by subst hA; simp [std, hys, hN]
  have hne : ∀ x, A.ne x 0 = decide (x ≠ 0) := by subst hA; intro x; simp only [std, iNe]; rw [Bool.eq_iff_iff]; simp
  refine go26 rfl (SGo_run hA ⟨[2], [], (19, eCheckFr) :: (71, eSea (fun _ b _ _ => b) (fun _ _ c _ => c) (·.1)) :: [], []⟩ (.cons (eCheckFr_ok p19) (.cons eWorst_ok .nil)) .nil 200 fun T TD hT hTD => ?_)
  cbv
  refine Exists.intro cs (Exists.intro os (And.intro hxs (And.intro hys (And.intro hc (And.intro ho ?_)))))
  intro q hq; cbv
  rw [← hq] at hW
  split <;> cbv
  · rename_i hz
    have hz : q ≠ 0 := by have hz := (hne q).symm.trans hz; simpa using hz
    rw [if_pos hz] at hW
    rw [hW] at h
    exact h
  rename_i hz
  have hz : q = 0 := by have hz := (hne q).symm.trans hz; simpa using hz
  rw [if_neg (by simp [hz])] at hW
  rw [hz] at hq
  have hV := checkF_ok hq.symm
  have hn1 := hV.o1
  have hn2 := hV.o2
  have hc1 := hV.c1
  have hc2 := hV.c2
  have hlo := hV.lo
  have hob := hV.ob
  dsimp only at hn1 hn2 hc1 hc2 hlo hob
  obtain ⟨D, hD⟩ : ∃ D, D = cs.length := ⟨_, rfl⟩
  obtain ⟨R, hR⟩ : ∃ R, R = roomW (worstW ⟨(a, b), (c, d), cs, os⟩) := ⟨_, rfl⟩
  have hRb : ∀ d, 0 ≤ R d ∧ R d ≤ 1000000 := by rw [hR]; exact roomW_bnd hlo
  have hWR : roomW ⟨b, c, cs.map (·.1)⟩ = R := hR.symm
  unfold boundV at hW
  dsimp only at hW
  rw [← hR, ← hD] at hW
  rw [← hD] at hc1 hc2
  rw [← hN] at hn1 hn2
  have hOB : ∀ o ∈ os, OrdB o := fun o ho => by have := hob o ho; exact ⟨by omega, by omega⟩
  have hv1 : A.vlen xs = iLen D := by subst hA; simp [std, hxs, hD]
  refine Exists.intro cs (And.intro hxs (And.intro (by omega) ?_))
  intro zs hzs; cbv
  rw [hT]
  refine AGo_nilms 6 1 rfl ?_
  refine AGo_upE [1, 5, 30] D (fun _ (_ : Unit) => True) (fun j _ i => [(6, .ms 1 2 j 0 j), (7, I (sumR R j)), (31, I i)]) (fun j _ => [.own 0 [I a, I b, I c, I d, .vs 2 xs, .vs 4 ys], .own 0 [I a, I b, I c, I d, .vs 2 xs, .vs 4 ys, I b, I c, .vs 1 zs], .own j ((upS R j).map I)]) () trivial ⟨rfl, rfl, rfl, trivial⟩ (.inl rfl) fun j _ i hi hj _ Bk hB => ?_
  clear hT hTD T TD
  have hlt : A.lt i (A.vlen xs) = decide (j < D) := by subst hA; exact lt_len (by simp [hxs, hD]) hi
  have hadd : ∀ N, j < N → N ≤ 9223372036854775807 → A.add .i64 i 1 = iLen (j + 1) := fun N hj hN => by subst hA; exact add_one hi hj hN
  obtain ⟨cc, hcc⟩ : ∃ r, r = (upS R j).map I := ⟨_, rfl⟩
  obtain ⟨sj, hsj⟩ : ∃ q, q = sumR R j := ⟨_, rfl⟩
  rw [← hcc, ← hsj]
  refine SGo_run hA ⟨[2], [], (76, eRoom) :: [], []⟩ (.cons eRoom_ok .nil) .nil 200 fun T TD hT hTD => ?_
  cbv
  split <;> cbv
  · rename_i hk0
    have hk1 : j < D := by have hz := hlt.symm.trans hk0; simpa using hz
    clear hk0
    refine Exists.intro (cs.map (·.1)) (Exists.intro j (And.intro hzs (And.intro hi (And.intro (by simp; omega) (And.intro (by simp; omega) ?_)))))
    intro q hq
    rw [hWR] at hq
    cbv
    have hb1 := sumR_bnd2 hRb j (by omega)
    have hb2 := hRb j
    rw [← hsj] at hb1
    have hs : A.add .i64 sj q = sumR R (j + 1) := by subst hA; show iAdd .i64 sj q = _; rw [iAdd_id (by omega) (by omega), hsj, hq]; rfl
    refine And.intro (hsg _) (Exists.intro (cc ++ [I (A.add .i64 sj q)]) (Exists.intro (j + 1) (And.intro ?_ (And.intro rfl ?_))))
    · subst hA; exact app_one (by rw [hcc]; simp [upS]) rfl (by omega)
    generalize hc9 : cc ++ _ = c9
    cbv
    refine hB () _ _ hk1 trivial ⟨rfl, congrArg I hs, congrArg I (hadd _ hk1 (by omega)), trivial⟩ ⟨rfl, rfl, rfl, trivial⟩ (.inl ?_)
    rw [← hc9, hcc, hs]; simp [upS, List.range_succ]
  rename_i hk0
  have hk1 : ¬ j < D := by have hz := hlt.symm.trans hk0; simpa using hz
  clear hk0
  have hjD : j = D := by omega
  subst hjD
  have hsb : ∀ j, 0 ≤ sumC (os.take j) ∧ sumC (os.take j) ≤ 6000000000000 := fun j => by
    have hb : ∀ x ∈ (os.take j).map fun o => o.u * o.s, 0 ≤ x ∧ x ≤ 1000000000000 := fun x hx => by
      obtain ⟨o, ho, rfl⟩ := List.mem_map.1 hx
      have h7 := hob o (List.mem_of_mem_take ho)
      have h8 := mul_bnd (a := o.u) (b := o.s) (A := 1000000) (B := 1000000) (by omega) (by omega) (by omega) (by omega)
      have h9 : 0 ≤ o.u * o.s := Int.mul_nonneg (by omega) (by omega)
      omega
    have := sumI_bnd hb
    have hl : ((os.take j).map fun o => o.u * o.s).length ≤ 6 := by simp; omega
    unfold sumC; omega
  rw [hT]
  refine AGo_upE [1, 6, 7, 45, 46] N (fun _ (_ : Unit) => True) (fun m _ i => [(9, I (sumC (os.take m))), (47, I i)]) (fun _ _ => [.own 0 [I a, I b, I c, I d, .vs 2 xs, .vs 4 ys], .own 0 [I a, I b, I c, I d, .vs 2 xs, .vs 4 ys, I b, I c, .vs 1 zs], .own j cc]) () trivial ⟨rfl, rfl, trivial⟩ (.inl rfl) fun m _ im him hm _ Bk2 hB2 => ?_
  clear hT hTD T TD hB
  have hltm : A.lt im (A.vlen ys) = decide (m < N) := by subst hA; exact lt_len (by simp [hys, hN]) him
  have haddm : ∀ N, m < N → N ≤ 9223372036854775807 → A.add .i64 im 1 = iLen (m + 1) := fun N hj hN => by subst hA; exact add_one him hj hN
  have hsm := hsb m
  obtain ⟨sm, hsme⟩ : ∃ q, q = sumC (os.take m) := ⟨_, rfl⟩
  rw [← hsme] at hsm ⊢
  refine SGo_run hA ⟨[2], [], (78, eSorted) :: [], []⟩ (.cons eSorted_ok .nil) .nil 200 fun T TD hT hTD => ?_
  cbv
  split <;> cbv
  · rename_i hk0
    have hmN : m < N := by have hz := hltm.symm.trans hk0; simpa using hz
    obtain ⟨⟨ou, od, ol, ol2⟩, hx⟩ : ∃ x, os[m]? = some x := ⟨_, List.getElem?_eq_getElem (hN ▸ hmN)⟩
    have hix : A.ix 4 4 ys im [I ou, I od, I ol, I ol2] := by subst hA; exact ix_map hys him hx rfl
    have hbo := hob _ (List.mem_of_getElem? hx)
    dsimp only at hbo
    have hm1 := mul_bnd (a := ou) (b := ol2) (A := 1000000) (B := 1000000) (by omega) (by omega) (by omega) (by omega)
    have e1 : A.mul .i64 ou ol2 = ou * ol2 := by subst hA; exact iMul_id (by omega) (by omega)
    have e2 : A.add .i64 sm (A.mul .i64 ou ol2) = sumC (os.take (m + 1)) := by
      rw [e1]; subst hA; show iAdd .i64 sm (ou * ol2) = _
      rw [iAdd_id (by omega) (by omega), take_succ_mem hx]
      unfold sumC at hsme ⊢
      rw [List.map_append, sumI_append, ← hsme]; simp [sumI]
    have hi1 := haddm _ hmN (by omega)
    refine Exists.intro _ (And.intro hix ?_); cbv
    refine hB2 () _ _ hmN trivial ⟨congrArg I e2, congrArg I hi1, trivial⟩ ⟨rfl, rfl, rfl, rfl, rfl, trivial⟩ (.inr ⟨⟨[.own 0 [I ou, I od, I ol, I ol2]], rfl⟩, Nat.zero_le _, by simp [ltG, AV.lt, AV.ltL, keepS, look, gset], ?_⟩)
    exact ⟨by simp [AObj.lt, AV.ltL, AV.lt], by simp [AObj.lt, AV.ltL, AV.lt], AV.ltL_nid (by rw [hcc]; exact nidL_map (fun _ => rfl) _), trivial⟩
  · rename_i hk0
    have hmN : ¬ m < N := by have hz := hltm.symm.trans hk0; simpa using hz
    have hmN : m = N := by omega
    subst hmN
    rw [List.take_of_length_le (by omega)] at hsme
    refine Exists.intro os (And.intro ⟨hys, .inl rfl, by omega, hOB⟩ ?_)
    intro rs hrs
    obtain ⟨so, hso⟩ : ∃ so, so = sortV (fun o : Ord => o.s - o.l) os := ⟨_, rfl⟩
    have hrs : rs = so.map orV := by rw [hrs, hso]; rfl
    rw [← hso] at hW
    have hsol : so.length = m := by rw [hso, sortV_len]; exact hN.symm
    have hsom : ∀ o ∈ so, o ∈ os := fun o ho => by rw [hso] at ho; exact sortV_mem.1 ho
    have hsD := sumR_bnd2 hRb j (by omega)
    rw [← hsj] at hW hsD
    cbv
    rw [hT]
    refine AGo_upE [1, 6, 12, 61, 62] m (fun y (s : Int × Int) => s = (so.take y).foldl (bndA fun o => o.s - o.l) (sumC os, sj) ∧ OkA y s) (fun y s i => [(7, I s.2), (9, I s.1), (63, I i)])
      (fun _ _ => [.own 0 [I a, I b, I c, I d, .vs 2 xs, .vs 4 ys], .own 0 [I a, I b, I c, I d, .vs 2 xs, .vs 4 ys, I b, I c, .vs 1 zs], .own j cc]) (sumC os, sj) ⟨rfl, by rw [← hsme]; unfold OkA; dsimp only; unfold iLen; omega⟩ ⟨rfl, by rw [hsme]; rfl, rfl, trivial⟩ (.inl rfl) fun y s iy hiy hy hP Bk3 hB3 => ?_
    clear hT hTD T TD hB2
    have hlt2 : A.lt iy (A.vlen rs) = decide (y < m) := by subst hA; exact lt_len (by simp [hrs, hsol]) hiy
    have hadd2 : ∀ N, y < N → N ≤ 9223372036854775807 → A.add .i64 iy 1 = iLen (y + 1) := fun N hj hN => by subst hA; exact add_one hiy hj hN
    obtain ⟨st, sl⟩ := s
    obtain ⟨hP1, hP2⟩ := hP
    dsimp only
    refine SGo_run hA ⟨[2], [], (77, eKey 77) :: (78, eSorted) :: [], []⟩ (.cons eKey77_ok (.cons eSorted_ok .nil)) .nil 200 fun T TD hT hTD => ?_
    cbv
    split <;> cbv
    · rename_i hk0
      have hym : y < m := by have hz := hlt2.symm.trans hk0; simpa using hz
      obtain ⟨⟨ou, od, ol, ol2⟩, hx⟩ : ∃ x, so[y]? = some x := ⟨_, List.getElem?_eq_getElem (by omega)⟩
      have hmo := hsom _ (List.mem_of_getElem? hx)
      have hbo := hob _ hmo
      have hbo2 := hOB _ hmo
      dsimp only at hbo
      have hxo : A.ix 4 4 rs iy [I ou, I od, I ol, I ol2] := by subst hA; exact ix_map hrs hiy hx rfl
      obtain ⟨hq1, hq2, hq3, hq4⟩ := hP2
      dsimp only at hq1 hq2 hq3 hq4
      have hok := bndA_ok (j := y) (s := (st, sl)) (o := ⟨ou, od, ol, ol2⟩) (key := fun o => o.s - o.l) rfl ⟨by dsimp only; omega, by dsimp only; omega, by dsimp only; omega⟩ ⟨hq1, hq2, hq3, hq4⟩
      obtain ⟨mn, hmne⟩ : ∃ q, q = A.min ou sl := ⟨_, rfl⟩
      have hmn2 : mn = min ou sl := by rw [hmne]; subst hA; exact iMin_eq _ _
      have hm1 := mul_bnd (a := mn) (b := ol2 - ol) (A := 1000000) (B := 1000000) (by omega) (by omega) (by omega) (by omega)
      have hq5 : -12000000000000 ≤ st := by unfold iLen at hq1; omega
      have e1 : A.mul .i64 mn (ol2 - ol) = mn * (ol2 - ol) := by subst hA; exact iMul_id (by omega) (by omega)
      have e2 : A.sub .i64 st (A.mul .i64 (A.min ou sl) (ol2 - ol)) = st - mn * (ol2 - ol) := by rw [← hmne, e1]; subst hA; exact iSub_id (by omega) (by omega)
      have e3 : A.sub .i64 sl (A.min ou sl) = sl - mn := by rw [← hmne]; subst hA; exact iSub_id (by omega) (by omega)
      have hi1 := hadd2 _ hym (by omega)
      refine Exists.intro _ (And.intro hxo ?_); cbv
      refine Exists.intro () (And.intro hbo2 ?_)
      intro kq hkq
      have hkq : kq = ol2 - ol := hkq
      subst hkq
      cbv
      refine hB3 (st - mn * (ol2 - ol), sl - mn) _ _ hym ⟨?_, ?_⟩ ⟨congrArg I e3, congrArg I e2, congrArg I hi1, trivial⟩ ⟨rfl, rfl, rfl, rfl, rfl, trivial⟩ (.inr ⟨⟨[.own 0 [I ou, I od, I ol, I ol2]], rfl⟩, Nat.zero_le _, by simp [ltG, AV.lt, AV.ltL, keepS, look, gset], ?_⟩)
      · rw [foldl_take_succ hx, ← hP1, hmn2]; rfl
      · have : bndA (fun o => o.s - o.l) (st, sl) ⟨ou, od, ol, ol2⟩ = (st - mn * (ol2 - ol), sl - mn) := by rw [hmn2]; rfl
        rw [← this]; exact hok
      · exact ⟨by simp [AObj.lt, AV.ltL, AV.lt], by simp [AObj.lt, AV.ltL, AV.lt], AV.ltL_nid (by rw [hcc]; exact nidL_map (fun _ => rfl) _), trivial⟩
    · rename_i hk0
      have hym : ¬ y < m := by have hz := hlt2.symm.trans hk0; simpa using hz
      have hym : y = m := by omega
      subst hym
      rw [List.take_of_length_le (by omega)] at hP1
      rw [← hP1] at hW
      dsimp only at hW
      obtain ⟨hq1, hq2, _, _⟩ := hP2
      dsimp only at hq1 hq2
      refine Exists.intro os (And.intro ⟨hys, .inr rfl, by omega, hOB⟩ ?_)
      intro rs2 hrs2
      obtain ⟨so2, hso2⟩ : ∃ so, so = sortV (fun o : Ord => o.l) os := ⟨_, rfl⟩
      have hrs2 : rs2 = so2.map orV := by rw [hrs2, hso2]; rfl
      rw [← hso2] at hW
      have hsol2 : so2.length = y := by rw [hso2, sortV_len]; exact hN.symm
      have hsom2 : ∀ o ∈ so2, o ∈ os := fun o ho => by rw [hso2] at ho; exact sortV_mem.1 ho
      have hst6 : -12000000000000 ≤ st := by unfold iLen at hq1; omega
      have hup : OkL j (upS R j) := ⟨by simp [upS], fun x hx => by
        obtain ⟨d, hd, rfl⟩ := List.mem_map.1 hx
        exact sumR_bnd2 hRb _ (by have := List.mem_range.1 hd; omega)⟩
      have hlD : A.sub .i64 (A.len j) 1 = iLen (j - 1) := by subst hA; show iSub .i64 (iLen j) 1 = _; unfold iLen; rw [iSub_id (by omega) (by omega)]; omega
      clear hB3 hP1
      cbv
      rw [hT]
      refine AGo_upE [6, 83, 84] y (fun w (s : Int × List Int) => s = (so2.take w).foldl (bndB j) (st, upS R j) ∧ (-26000000000000 - 2000000000000 * iLen w ≤ s.1 ∧ s.1 ≤ 6000000000000) ∧ OkL j s.2) (fun w s i => [(9, I s.1), (85, I i)])
        (fun _ s => [.own 0 [I a, I b, I c, I d, .vs 2 xs, .vs 4 ys], .own 0 [I a, I b, I c, I d, .vs 2 xs, .vs 4 ys, I b, I c, .vs 1 zs], .own j (s.2.map I)]) (st, upS R j) ⟨rfl, ⟨by dsimp only; unfold iLen; omega, hq2⟩, hup⟩ ⟨rfl, rfl, trivial⟩ (.inl (by rw [hcc])) fun w s iw hiw hw hP Bk4 hB4 => ?_
      clear hT hTD T TD
      have hlt3 : A.lt iw (A.vlen rs2) = decide (w < y) := by subst hA; exact lt_len (by simp [hrs2, hsol2]) hiw
      have hadd3 : ∀ N, w < N → N ≤ 9223372036854775807 → A.add .i64 iw 1 = iLen (w + 1) := fun N hj hN => by subst hA; exact add_one hiw hj hN
      obtain ⟨ct, rm⟩ := s
      obtain ⟨hP1, hP2, hP3⟩ := hP
      dsimp only at hP2 hP3 ⊢
      obtain ⟨rmc, hrmc⟩ : ∃ r, r = rm.map I := ⟨_, rfl⟩
      rw [← hrmc]
      refine SGo_run hA ⟨[2], [], [], (80, eMinS) :: []⟩ .nil (.cons eMinS_ok .nil) 200 fun T TD hT hTD => ?_
      cbv
      split <;> cbv
      · rename_i hk0
        have hwy : w < y := by have hz := hlt3.symm.trans hk0; simpa using hz
        obtain ⟨⟨ou, od, ol, ol2⟩, hx⟩ : ∃ x, so2[w]? = some x := ⟨_, List.getElem?_eq_getElem (by omega)⟩
        have hmo := hsom2 _ (List.mem_of_getElem? hx)
        have hbo := hob _ hmo
        dsimp only at hbo
        have hxo : A.ix 4 4 rs2 iw [I ou, I od, I ol, I ol2] := by subst hA; exact ix_map hrs2 hiw hx rfl
        have hi1 := hadd3 _ hwy (by omega)
        obtain ⟨hr1, hr2⟩ := hP3
        obtain ⟨q, hq⟩ : ∃ q, q = min od.toNat (j - 1) := ⟨_, rfl⟩
        have hqD : q < j := by omega
        have hqe : A.min od (A.sub .i64 (A.len j) 1) = iLen q := by rw [hlD]; subst hA; show iMin od (iLen (j - 1)) = _; rw [iMin_eq, hq]; unfold iLen; omega
        obtain ⟨ln, hln⟩ : ∃ r, r = j - q := ⟨_, rfl⟩
        have hsl : A.slm 1 1 0 j (some (A.min od (A.sub .i64 (A.len j) 1))) none q ln := by
          rw [hqe]; subst hA
          exact ⟨rfl, q, j, by unfold bdI iLen; simp, rfl, by omega, Nat.le_refl _, by omega, hln⟩
        refine Exists.intro _ (And.intro hxo ?_); cbv
        refine And.intro (hsg _) (And.intro (hsg _) (Exists.intro q (Exists.intro ln (And.intro hsl ?_)))); cbv
        obtain ⟨x0, hx0⟩ : ∃ x, rm[q]? = some x := ⟨_, List.getElem?_eq_getElem (by omega)⟩
        have hdr0 : rm.drop q = x0 :: rm.drop (q + 1) := drop_cons hx0
        refine Exists.intro rm (Exists.intro x0 (Exists.intro (rm.drop (q + 1)) (And.intro ⟨rfl, hrmc, by omega, hdr0, by omega⟩ ?_)))
        intro mq hmq
        have hrg : ∀ d, d < j → ∀ v, v = rm.getD d 0 → A.get none rmc d (I v) := fun d hd v hv => by
          subst hA; rw [hrmc, hv]
          exact getS_I (by rw [List.getD_eq_getElem?_getD, List.getElem?_eq_getElem (by omega)]; rfl)
        have hrb : ∀ d, d < j → 0 ≤ rm.getD d 0 ∧ rm.getD d 0 ≤ 200000000 := fun d hd => by
          rw [List.getD_eq_getElem?_getD, List.getElem?_eq_getElem (by omega)]; exact hr2 _ (List.getElem_mem _)
        have hok := bndB_ok (j := w) (D := j) (s := (ct, rm)) (o := ⟨ou, od, ol, ol2⟩) ⟨by dsimp only; omega, by dsimp only; omega, by dsimp only; omega⟩ hP2 ⟨hr1, hr2⟩
        have hml := minF_le (n := ou) (l := rm.drop q)
        have hmg := minF_ge (n := ou) (l := rm.drop q) (by omega) fun x hx => (hr2 x (List.mem_of_mem_drop hx)).1
        obtain ⟨mf, hmf⟩ : ∃ r, r = minF ou (rm.drop q) := ⟨_, rfl⟩
        have hmn : A.min ou mq = mf := by rw [hmf, hdr0, minF_cons, hmq]; subst hA; exact iMin_eq _ _
        rw [← hmf] at hml hmg
        have hm1 := mul_bnd (a := mf) (b := ol) (A := 1000000) (B := 1000000) (by omega) (by omega) (by omega) (by omega)
        have hctb : -38000000000000 ≤ ct := by have := hP2.1; unfold iLen at this; omega
        have e1 : A.mul .i64 mf ol = mf * ol := by subst hA; exact iMul_id (by omega) (by omega)
        have e2 : A.sub .i64 ct (A.mul .i64 (A.min ou mq) ol) = ct - mf * ol := by rw [hmn, e1]; subst hA; exact iSub_id (by omega) (by omega)
        have hbnd : bndB j (ct, rm) ⟨ou, od, ol, ol2⟩ = (ct - mf * ol, rm.take q ++ (rm.drop q).map (· - mf)) := by
          unfold bndB; dsimp only; rw [← hq, ← hmf]
        rw [hbnd] at hok
        cbv
        refine And.intro (by subst hA; first | (simp [std, Keep, SubH, ResK]; done) | exact .inr ⟨⟨rfl, SubH.self _⟩, trivial, .inr fun _ => ⟨rfl, SubH.self _⟩⟩ | exact .inr ⟨SubH.self _, trivial, .inr fun _ => SubH.self _⟩ | exact .inr ⟨by simp [SubH], trivial, .inl rfl⟩ | exact .inr ⟨by simp [SubH], trivial, .inr fun _ => by simp [SubH]⟩) ?_
        cbv
        refine And.intro (hsg _) ?_
        rw [hT]
        refine AGo_upE [6, 9, 18, 19, 83, 84, 85, 109] ln (fun _ (_ : Unit) => True) (fun z _ i => [(110, I i)])
          (fun z _ => [.own 0 [I a, I b, I c, I d, .vs 2 xs, .vs 4 ys], .own 0 [I a, I b, I c, I d, .vs 2 xs, .vs 4 ys, I b, I c, .vs 1 zs], .own j ((wlF rm q z mf).map I), .own 0 [I ou, I od, I ol, I ol2]]) () trivial ⟨rfl, trivial⟩ (.inl (by rw [wlF_zero, hrmc])) fun z _ iz hiz hz _ Bk5 hB5 => ?_
        clear hT hTD T TD
        obtain ⟨qz, hqz⟩ : ∃ r, r = q + z := ⟨_, rfl⟩
        obtain ⟨wc, hwc⟩ : ∃ r, r = (wlF rm q z mf).map I := ⟨_, rfl⟩
        obtain ⟨wn, hwn⟩ : ∃ r, r = (wlF rm q (z + 1) mf).map I := ⟨_, rfl⟩
        obtain ⟨vw, hvw⟩ : ∃ v, v = rm.getD qz 0 := ⟨_, rfl⟩
        rw [← hwc]
        have hltz : A.lt iz (A.len ln) = decide (z < ln) := by rw [hll, hiz]; subst hA; show decide (iLen z < iLen ln) = _; simp [iLen]
        have hfac : z < ln → A.ixm 1 1 q ln iz qz ∧ A.get none wc qz (I vw) ∧ A.upd 1 wc qz [I (A.sub .i64 vw (A.min ou mq))] wn ∧ A.add .i64 iz 1 = iLen (z + 1) := fun hzD => by
          have hvb := hrb qz (by omega)
          have hsb : A.sub .i64 vw (A.min ou mq) = vw - mf := by rw [hmn]; subst hA; exact iSub_id (by omega) (by omega)
          refine ⟨?_, ?_, ?_, by subst hA; exact add_one hiz (N := ln) hzD (by omega)⟩
          · subst hA; rw [hiz]; unfold iLen; exact ⟨rfl, by omega, by omega, by omega⟩
          · subst hA; rw [hwc, hvw, hqz]; exact getS_I (wlF_get (by omega))
          · rw [hsb]; subst hA; rw [hwc, hwn, hvw, hqz, ← wlF_set (by omega)]; exact updS_I (by rw [wlF_len (by omega)]; omega)
        have hfin : ¬ z < ln → wlF rm q z mf = rm.take q ++ (rm.drop q).map (· - mf) := fun hzD => wlF_all (by omega)
        refine SGo_run hA ⟨[2], [], [], []⟩ .nil .nil 200 fun T TD hT hTD => ?_
        cbv
        split <;> cbv
        · rename_i hk0
          have hzl : z < ln := by have hz := hltz.symm.trans hk0; simpa using hz
          obtain ⟨hxz, hgz, huz, hiz1⟩ := hfac hzl
          refine And.intro (hsg _) (Exists.intro _ (And.intro hxz ?_)); cbv
          refine And.intro (hsg _) (Exists.intro _ (And.intro hgz ?_)); cbv
          refine And.intro (hsg _) (Exists.intro _ (And.intro hxz ?_)); cbv
          refine And.intro (hsg _) (Exists.intro _ (And.intro huz ?_)); cbv
          exact hB5 () _ _ hzl trivial ⟨congrArg I hiz1, trivial⟩ ⟨rfl, rfl, rfl, rfl, rfl, rfl, rfl, rfl, trivial⟩ (.inl (by rw [hwn]))
        · rename_i hk0
          have hzl : ¬ z < ln := by have hz := hltz.symm.trans hk0; simpa using hz
          have hw9 := hfin hzl
          refine hB4 (ct - mf * ol, rm.take q ++ (rm.drop q).map (· - mf)) _ _ hwy ⟨?_, hok.1, hok.2⟩ ⟨?_, congrArg I hi1, trivial⟩ ⟨rfl, rfl, rfl, trivial⟩ (.inr ⟨⟨[.own 0 [I ou, I od, I ol, I ol2]], by rw [hwc, hw9]; rfl⟩, Nat.zero_le _, by simp [ltG, AV.lt, AV.ltL, keepS, look], ?_⟩)
          · rw [foldl_take_succ hx, ← hP1, hbnd]
          · exact congrArg I e2
          · exact ⟨by simp [AObj.lt, AV.ltL, AV.lt], by simp [AObj.lt, AV.ltL, AV.lt], AV.ltL_nid (nidL_map (fun _ => rfl) _), trivial⟩
      · rename_i hk0
        have hwy : ¬ w < y := by have hz := hlt3.symm.trans hk0; simpa using hz
        rw [List.take_of_length_le (by omega)] at hP1
        have e9 : W = (ct, 0) := by rw [hW, ← hP1]
        rw [e9] at h
        exact h
end Go.Sas
