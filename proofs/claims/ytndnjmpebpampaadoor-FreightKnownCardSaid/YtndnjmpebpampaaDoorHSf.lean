/-
Freight: shares: contract.
Freight: the reference's shares: contract.
Conditions: none.
-/
import Derived.Test.YtndnjmpebpampaaDoorI4f
import Derived.Test.YtndnjmpebpampaaDoorHRf
import Derived.Test.YtndnjmpebpampaaDoorHUf
set_option linter.unusedVariables false
set_option linter.unusedSimpArgs false
namespace Go.Sas
open Go.Proofs
set_option maxRecDepth 100000
theorem p42b (l : List Int) (hl : l.length ≤ 1000) (hb : ∀ x ∈ l, 0 ≤ x ∧ x ≤ 1000000000000) (H : AHeap) {Kk : AV → AHeap → Prop} (h : Kk (I (sumI l)) H) : ACalls Tryd.prog 42 [.vs 1 (l.map I)] H Kk := by
  refine (fun q => pureC (by rfl) (by rfl) q H h) ?_
  clear h
  intro Kk h
  obtain ⟨xs, hxs⟩ : ∃ xs, xs = l.map I := ⟨_, rfl⟩
  rw [← hxs]
  obtain ⟨A, hA⟩ : ∃ A, A = std := ⟨_, rfl⟩
  refine go42 rfl (SGo_run hA ⟨[], [], [], []⟩ .nil .nil 200 fun T TD hT hTD => ?_)
  cbv
  rw [hT]
  refine AGo_upE [6, 7] l.length (fun j (s : Int) => s + sumI (l.drop j) = sumI l ∧ 0 ≤ s ∧ s ≤ 1000000000000 * iLen j) (fun j s i => [(3, I s), (8, I i)]) (fun _ _ => []) 0 ⟨by simp, by omega, by unfold iLen; omega⟩ ⟨rfl, rfl, trivial⟩ (.inl rfl) fun j s i hi hj hP Bk hB => ?_
  have hlt : A.lt i (A.vlen xs) = decide (j < l.length) := by subst hA; exact lt_len (by simp [hxs]) hi
  have hadd : ∀ N, j < N → N ≤ 9223372036854775807 → A.add .i64 i 1 = iLen (j + 1) := fun N hj hN => by subst hA; exact add_one hi hj hN
  refine SGo_run hA ⟨[], [], [], []⟩ .nil .nil 200 fun T TD hT hTD => ?_
  cbv
  split <;> cbv
  · rename_i hk1
    have hk1 : j < l.length := by have := hlt.symm.trans hk1; simpa using this
    obtain ⟨x, hx⟩ : ∃ x, l[j]? = some x := ⟨_, List.getElem?_eq_getElem hk1⟩
    have hix : A.ix 1 1 xs i [I x] := by subst hA; exact ix_map hxs hi hx rfl
    refine Exists.intro _ (And.intro hix ?_); cbv
    have hbx := hb _ (List.mem_of_getElem? hx)
    obtain ⟨h1, h2, h3⟩ := hP
    rw [drop_cons hx] at h1
    have ha : A.add .i64 s x = s + x := by subst hA; unfold iLen at h3; exact iAdd_id (by omega) (by omega)
    refine hB (s + x) _ _ hk1 ⟨by rw [← h1]; simp only [sumI]; omega, by omega, by unfold iLen at h3 ⊢; omega⟩ ⟨congrArg I ha, congrArg I (hadd _ hk1 (by omega)), trivial⟩ ⟨rfl, rfl, trivial⟩ (.inl rfl)
  · rename_i hk1
    have hk1 : ¬ j < l.length := by have := hlt.symm.trans hk1; simpa using this
    refine leaf h (congrArg I ?_) rfl
    obtain ⟨h1, h2, h3⟩ := hP
    rw [← h1, List.drop_eq_nil_of_le (by omega)]; simp [sumI]
def eTotalB : List AV → Option ((AV → Prop) → Prop)
  | [.vs 1 xs] => some fun K => ∃ l : List Int, xs = l.map I ∧ l.length ≤ 1000 ∧ (∀ x ∈ l, 0 ≤ x ∧ x ≤ 1000000000000) ∧ ∀ q, q = sumI l → K (I q)
  | _ => none
theorem eTotalB_ok {f : Nat} (hf : ∀ (l : List Int) (_ : l.length ≤ 1000) (_ : ∀ x ∈ l, 0 ≤ x ∧ x ≤ 1000000000000) (H : AHeap) {Kk : AV → AHeap → Prop}, Kk (I (sumI l)) H → ACalls Tryd.prog f [.vs 1 (l.map I)] H Kk) : ∀ args pt, eTotalB args = some pt → ∀ (H : AHeap) (Kk : AV → AHeap → Prop), pt (fun r => Kk r H) → ACalls Tryd.prog f args H Kk := by
  intro args pt h H Kk hk
  unfold eTotalB at h
  split at h
  · cases h
    obtain ⟨l, rfl, h1, h2, h3⟩ := hk
    exact hf l h1 h2 H (h3 _ rfl)
  · cases h
theorem AGo_cutN {cx : Cx} {m : Nat} {k1 k2 : List AItm} {R : Env → AHeap → Prop} {e : Env} {H : AHeap} (P : Env → AHeap → Prop) (e0 : Env) (H0 : AHeap) (h1 : AGo cx m (k1 ++ .bk P :: k2) R e H) (h2 : ∀ e' H', P e' H' → AGo cx m k2 R e0 H0 → AGo cx m k2 R e' H') (h3 : AGo cx m k2 R e0 H0) : AGo cx m (k1 ++ k2) R e H :=
  AGo_cut P h1 fun e' H' hP => h2 e' H' hP h3
set_option maxHeartbeats 4000000 in
theorem p45c (am : Int) (ws : List Int) (hw : WtsV ws) (hs : SrtN ws.length) (ha : 0 ≤ am ∧ am ≤ 1000000000000) {Kk : AV → AHeap → Prop} (h : ∀ c3 c4, Kk (.ms 1 1 ws.length 0 ws.length) [.own 0 [.ms 1 3 ws.length 0 ws.length], .own ws.length ((shareV am ws).map I), .own ws.length c4, .own ws.length c3]) : ACalls Tryd.prog 45 [I am, .vs 1 (ws.map I)] [] Kk := by
  obtain ⟨xs, hxs⟩ : ∃ xs, xs = ws.map I := ⟨_, rfl⟩
  obtain ⟨n, hn⟩ : ∃ n, n = ws.length := ⟨_, rfl⟩
  rw [← hxs]
  rw [← hn] at h
  rw [← hn] at hs
  obtain ⟨A, hA⟩ : ∃ A, A = std := ⟨_, rfl⟩
  have hne : ∀ x y, A.ne x y = decide (x ≠ y) := by subst hA; intro x y; simp only [std, iNe]; rw [Bool.eq_iff_iff]; simp
  have hee : ∀ x y, A.eq x y = decide (x = y) := by subst hA; intro x y; exact iEq_dec _ _
  have hll : ∀ x y, A.lt x y = decide (x < y) := by subst hA; intro x y; rfl
  have hle : ∀ x y, A.le x y = decide (x ≤ y) := by subst hA; intro x y; rfl
  have hnb : ∀ b, A.bnot b = !b := by subst hA; intro b; rfl
  have hbd : ∀ x y, A.band x y = (x && y) := by subst hA; intro x y; rfl
  have hsg : ∀ g, A.sg g g := by subst hA; exact fun _ => rfl
  have hn1 : 1 ≤ n ∧ n ≤ 40 := by have h1 := hw.1; have h2 := hw.2.1; omega
  have hvl : A.vlen xs = iLen n := by subst hA; simp [std, hxs, hn]
  have hln : A.len n = iLen n := by subst hA; rfl
  have hS := shS_pos hw
  obtain ⟨S, hSe⟩ : ∃ S, S = shS ws := ⟨_, rfl⟩
  obtain ⟨xw, hxw⟩ : ∃ x, x = (shW ws).map I := ⟨_, rfl⟩
  have hxl : xw.length = n := by rw [hxw, List.length_map, shW_len, hn]
  refine go45 rfl (SGo_run hA ⟨[], [1000015], (42, eTotal) :: [], []⟩ (.cons (eTotal_ok p42) .nil) .nil 200 fun T TD hT hTD => ?_)
  cbv
  refine Exists.intro ws (And.intro hxs (And.intro (by omega) (And.intro (fun x hx => by have := hw.2.2 x hx; omega) ?_)))
  intro sm hsm; cbv
  rw [hT]
  obtain ⟨rp, hrp⟩ : ∃ r, r = repC n n 1 := ⟨_, rfl⟩
  refine AGo_cutN (k1 := [_, _]) (fun e H => ∃ _u : Unit, (Fits e [(0, I am), (1, .vs 1 xw), (5, I S)] ∧ H = []) ∨ (sm = 0 ∧ Fits e [(0, I am), (1, .ms 1 0 0 0 n), (5, I S)] ∧ H = [.own 0 rp])) ⟨[], [(0, I am), (1, .vs 1 xw), (5, I S)]⟩ [] ?_ (fun e1 H1 hP1 hm => ?_) ?_
  · clear hT hTD T TD
    refine SGo_run hA ⟨[0], [], [], (61, eRepeat) :: []⟩ .nil (.cons eRepeat_ok .nil) 200 fun T TD hT hTD => ?_
    cbv
    have hz : A.eq sm 0 = decide (sm = 0) := hee _ _
    split <;> cbv
    · rename_i hq
      have hq : sm = 0 := of_decide_eq_true (hz.symm.trans hq)
      refine Exists.intro n (And.intro hvl (And.intro hn1.1 (And.intro (by omega) ?_)))
      intro cs hcs; cbv
      refine And.intro (hsg _) ?_; cbv
      refine ⟨(), .inr ⟨hq, ⟨rfl, rfl, congrArg I ?_, trivial⟩, by rw [hcs, hrp]⟩⟩
      show A.len n = S
      rw [hln, hSe]; unfold shS; rw [if_pos (hsm.symm.trans hq), ← hn]; rfl
    · rename_i hq
      have hq : sm ≠ 0 := of_decide_eq_false (hz.symm.trans hq)
      have h0 : sumI ws ≠ 0 := by rw [← hsm]; exact hq
      refine ⟨(), .inl ⟨⟨rfl, ?_, congrArg I ?_, trivial⟩, rfl⟩⟩
      · show AV.vs 1 xs = .vs 1 xw
        rw [hxs, hxw]; unfold shW; rw [if_neg h0]
      · rw [hsm, hSe]; unfold shS; rw [if_neg h0]
  · rcases hP1 with ⟨_, ⟨hf, rfl⟩ | ⟨h0, hf, rfl⟩⟩
    · exact AGo_forget _ _ hf (.inl rfl) hm (by simp)
    · refine AGo_forget _ _ hf (.inl rfl) ?_ (by simp)
      have hrp : rp = xw := by
        rw [hrp, hxw, repC_eq (Nat.le_refl _)]; unfold shW; rw [if_pos (hsm.symm.trans h0), Nat.sub_self, hn, List.map_replicate]; simp
      rw [hrp]
      refine AGo_frzS 1 (id := 0) (g := 0) (sz := 1) (n := n) (xs := xw) (cs := xw) rfl rfl hxl (by rw [hxw]; exact Elems_I _) ?_
      exact AGo_forget [(0, I am), (1, .vs 1 xw), (5, I S)] [] ⟨rfl, rfl, rfl, trivial⟩ (.inr ⟨⟨[.gone], rfl⟩, Nat.zero_le _, by simp [ltG, AV.lt, AV.ltL], trivial⟩) hm (by simp)
  clear hT hTD T TD hvl
  have hvl : A.vlen xw = iLen n := by subst hA; simp [std, hxl]
  refine SGo_run hA ⟨[], [], [], []⟩ .nil .nil 200 fun T TD hT hTD => ?_
  cbv
  rw [hT]
  refine AGo_nilms 6 1 rfl ?_
  refine AGo_nilms 7 1 rfl ?_
  refine AGo_nilcell 0 0 1 rfl rfl ?_
  obtain ⟨BB, hBB⟩ : ∃ b, b = shB am ws := ⟨_, rfl⟩
  obtain ⟨RR, hRR⟩ : ∃ b, b = shR am ws := ⟨_, rfl⟩
  have hBl : BB.length = n := by rw [hBB, shB_len, hn]
  have hRl : RR.length = n := by rw [hRR, shR_len, hn]
  refine AGo_upE [0, 5, 8, 23, 24] n (fun _ (_ : Unit) => True) (fun j _ i => [(6, .ms 1 1 j 0 j), (7, .ms 1 2 j 0 j), (25, I i)]) (fun j _ => [.own 0 [.ms 1 3 j 0 j], .own j ((BB.take j).map I), .own j ((List.range j).map natI), .own j ((RR.take j).map I)]) () trivial ⟨rfl, rfl, rfl, trivial⟩ (.inl rfl) fun j _ i hi hj _ Bk hB => ?_
  have hlt : A.lt i (A.vlen xw) = decide (j < n) := by rw [hvl, hll, hi, decide_eq_decide]; unfold iLen; omega
  have hadd : ∀ N, j < N → N ≤ 9223372036854775807 → A.add .i64 i 1 = iLen (j + 1) := fun N hj hN => by subst hA; exact add_one hi hj hN
  obtain ⟨c1, hc1⟩ : ∃ r, r = (BB.take j).map I := ⟨_, rfl⟩
  obtain ⟨c2, hc2⟩ : ∃ r, r = (List.range j).map natI := ⟨_, rfl⟩
  obtain ⟨c3, hc3⟩ : ∃ r, r = (RR.take j).map I := ⟨_, rfl⟩
  rw [← hc1, ← hc2, ← hc3]
  refine SGo_run hA ⟨[1, 2, 3], [1001, 1002, 1003], [], (62, eSortR) :: (42, eMut eTotalB) :: []⟩ .nil (.cons eSortR_ok (.cons (eMut_ok (eTotalB_ok p42b)) .nil)) 200 fun T TD hT hTD => ?_
  cbv
  split <;> cbv
  · rename_i hk0
    have hk1 : j < n := by have hz := hlt.symm.trans hk0; simpa using hz
    clear hk0
    obtain ⟨wt, hx⟩ : ∃ x, (shW ws)[j]? = some x := ⟨_, List.getElem?_eq_getElem (by rw [shW_len]; omega)⟩
    have hix : A.ix 1 1 xw i [I wt] := by subst hA; exact ix_map hxw hi hx rfl
    have hwb := shW_bnd hw wt (List.mem_of_getElem? hx)
    have hp0 : 0 ≤ am * wt := Int.mul_nonneg ha.1 hwb.1
    have hp1 : am * wt ≤ 1000000000000 * 1000000 := Int.mul_le_mul ha.2 hwb.2 hwb.1 (by omega)
    have hmul : A.mul .i64 am wt = am * wt := by subst hA; exact iMul_id (by omega) (by omega)
    have hSp : 0 < S := by omega
    have hquo : A.quo .i64 (A.mul .i64 am wt) S = am * wt / S := by rw [hmul]; subst hA; exact iQuo_id hp0 (by omega) hSp
    have hrem : A.rem .i64 (A.mul .i64 am wt) S = am * wt % S := by rw [hmul]; subst hA; exact iRem_id hp0
    have hBt : BB.take (j + 1) = BB.take j ++ [am * wt / S] := by
      rw [List.take_succ_eq_append_getElem (by omega)]
      congr 2
      have : BB[j]? = some (am * wt / S) := by rw [hBB]; unfold shB; rw [List.getElem?_map, hx, hSe]; rfl
      exact (List.getElem?_eq_some_iff.1 this).2
    have hRt : RR.take (j + 1) = RR.take j ++ [am * wt % S] := by
      rw [List.take_succ_eq_append_getElem (by omega)]
      congr 2
      have : RR[j]? = some (am * wt % S) := by rw [hRR]; unfold shR; rw [List.getElem?_map, hx, hSe]; rfl
      exact (List.getElem?_eq_some_iff.1 this).2
    obtain ⟨d1, hd1⟩ : ∃ r, r = (BB.take (j + 1)).map I := ⟨_, rfl⟩
    obtain ⟨d2, hd2⟩ : ∃ r, r = (List.range (j + 1)).map natI := ⟨_, rfl⟩
    obtain ⟨d3, hd3⟩ : ∃ r, r = (RR.take (j + 1)).map I := ⟨_, rfl⟩
    have ha1 : A.app 1 1 8 c1 0 j [I (A.quo .i64 (A.mul .i64 am wt) S)] d1 (j + 1) := by
      rw [hquo, hd1, hBt, List.map_append, ← hc1]; subst hA; exact app_one (by rw [hc1, List.length_map, List.length_take]; omega) rfl (by omega)
    have ha2 : A.app 1 1 8 c2 0 j [I i] d2 (j + 1) := by
      rw [hd2, List.range_succ, List.map_append, ← hc2, hi]; subst hA; exact app_one (by rw [hc2]; simp) rfl (by omega)
    have ha3 : A.app 1 1 8 c3 0 j [I (A.rem .i64 (A.mul .i64 am wt) S)] d3 (j + 1) := by
      rw [hrem, hd3, hRt, List.map_append, ← hc3]; subst hA; exact app_one (by rw [hc3, List.length_map, List.length_take]; omega) rfl (by omega)
    refine Exists.intro _ (And.intro hix ?_); cbv
    have hnz : A.nz S := by subst hA; show S ≠ 0; omega
    refine And.intro hnz (And.intro hnz (And.intro (hsg _) (Exists.intro d1 (Exists.intro (j + 1) (And.intro ha1 (And.intro rfl ?_)))))); cbv
    refine And.intro (by subst hA; exact .inr ⟨by simp [SubH], trivial, .inr fun _ => by simp [SubH]⟩) ?_; cbv
    refine And.intro (hsg _) (Exists.intro d2 (Exists.intro (j + 1) (And.intro ha2 (And.intro rfl ?_)))); cbv
    refine And.intro (by subst hA; exact .inr ⟨by simp [SubH], trivial, .inr fun _ => by simp [SubH]⟩) ?_; cbv
    refine And.intro (hsg _) (Exists.intro d3 (Exists.intro (j + 1) (And.intro ha3 (And.intro rfl ?_)))); cbv
    refine And.intro (by subst hA; exact .inr ⟨by simp [SubH], trivial, .inr fun _ => by simp [SubH]⟩) ?_; cbv
    refine hB () _ _ hk1 trivial ⟨rfl, rfl, congrArg I (hadd _ hk1 (by omega)), trivial⟩ ⟨rfl, rfl, rfl, rfl, rfl, trivial⟩ (.inl (by rw [hd1, hd2, hd3]))
  · rename_i hk0
    have hk1 : ¬ j < n := by have hz := hlt.symm.trans hk0; simpa using hz
    clear hk0
    have hjn : j = n := by omega
    subst hjn
    have hRt : RR.take j = RR := List.take_of_length_le (by omega)
    have hBt : BB.take j = BB := List.take_of_length_le (by omega)
    rw [hRt] at hc3
    rw [hBt] at hc1
    refine Exists.intro (List.range j) (Exists.intro RR (And.intro ⟨rfl, rfl, hc2, by rw [hc3]; rfl, by decide, by decide, by decide⟩ (And.intro ⟨by simp, hs, List.pairwise_lt_range, hRl, fun k hk => List.mem_range.1 hk⟩ ?_)))
    intro c4 hc4; cbv
    have hE1 : Elems 1 c1 c1 := by rw [hc1]; exact Elems_I _
    refine Exists.intro c1 (And.intro ⟨rfl, hE1, by rw [hc1, List.length_map, hBl]⟩ ?_); cbv
    have hbb := shB_bnd hw ha.1
    rw [← hBB] at hbb
    refine Exists.intro BB (And.intro hc1 (And.intro (by omega) (And.intro (fun x hx => by have := hbb x hx; omega) ?_)))
    intro tt htt; cbv
    have hlb := sh_bnd (am := am) hw
    rw [← hBB, ← htt, ← hn] at hlb
    obtain ⟨L, hL⟩ : ∃ L, L = shL am ws := ⟨_, rfl⟩
    have hLe : am - tt = iLen L := by rw [hL]; unfold shL; rw [← hBB, ← htt]; unfold iLen; omega
    have hsub : A.sub .i64 am tt = iLen L := by rw [← hLe]; subst hA; exact iSub_id (by omega) (by omega)
    have hLn : L < j := by unfold iLen at hLe; omega
    have hsl : A.slm 1 1 0 j none (some (A.sub .i64 am tt)) 0 L := by
      rw [hsub]; subst hA; refine ⟨rfl, 0, L, rfl, ?_, by omega, by omega, by omega, rfl⟩
      simp only [bdI]; rw [if_pos (by unfold iLen; omega)]; rfl
    refine And.intro (hsg _) (Exists.intro 0 (Exists.intro L (And.intro hsl ?_))); cbv
    refine And.intro (hsg _) ?_; cbv
    rw [hT]
    obtain ⟨SO, hSO⟩ : ∃ l, l = shO am ws := ⟨_, rfl⟩
    have hSOl : SO.length = j := by rw [hSO, shO_len, ← hn]
    have hSOm : ∀ k ∈ SO, k < j := fun k hk => by rw [hSO] at hk; rw [hn]; exact shO_mem.1 hk
    have hc4 : c4 = SO.map natI := by rw [hc4, hSO, hRR, hn]; rfl
    have hlL : A.len L = iLen L := by subst hA; rfl
    have hSOn : SO.Nodup := by rw [hSO]; exact shO_nodup
    refine AGo_upE [6, 59, 60] L (fun _ (_ : Unit) => True) (fun _ _ i => [(61, I i)]) (fun t _ => [.own 0 [.ms 1 3 j 0 j], .own j (((SO.take t).foldl addO BB).map I), .own j c4, .own j c3]) () trivial ⟨rfl, trivial⟩ (.inl (by rw [hc1]; rfl)) fun t _ i2 hi2 ht _ Bk2 hB2 => ?_
    have hlt2 : A.lt i2 (A.len L) = decide (t < L) := by rw [hlL, hll, hi2, decide_eq_decide]; unfold iLen; omega
    have hadd2 : ∀ N, t < N → N ≤ 9223372036854775807 → A.add .i64 i2 1 = iLen (t + 1) := fun N hj hN => by subst hA; exact add_one hi2 hj hN
    obtain ⟨OT, hOT⟩ : ∃ r, r = (SO.take t).foldl addO BB := ⟨_, rfl⟩
    have hOTl : OT.length = j := by rw [hOT, foldl_addO_len, hBl]
    obtain ⟨o1, ho1⟩ : ∃ r, r = OT.map I := ⟨_, rfl⟩
    rw [← hOT, ← ho1]
    clear hT hTD T TD
    refine SGo_run hA ⟨[1, 2], [], [], []⟩ .nil .nil 200 fun T TD hT hTD => ?_
    cbv
    split <;> cbv
    · rename_i hz
      have htL : t < L := of_decide_eq_true (hlt2.symm.trans hz)
      obtain ⟨k, hk⟩ : ∃ x, SO[t]? = some x := ⟨_, List.getElem?_eq_getElem (by omega)⟩
      have hkj := hSOm k (List.mem_of_getElem? hk)
      obtain ⟨ik, hik⟩ : ∃ q, q = iLen k := ⟨_, rfl⟩
      obtain ⟨v, hv⟩ : ∃ q, q = OT.getD k 0 := ⟨_, rfl⟩
      have hvb : 0 ≤ v ∧ v ≤ 1000000000001 := by
        have h1 := foldl_addO_get (l := SO.take t) (o := BB) (i := k) (hSOn.sublist (List.take_sublist ..)) (by omega)
        rw [← hOT, ← hv] at h1
        have h2 := hbb (BB.getD k 0) (by rw [List.getD_eq_getElem?_getD, List.getElem?_eq_getElem (by omega)]; exact List.getElem_mem _)
        rw [h1]; split <;> omega
      have hx1 : A.ixm 1 1 0 L i2 t := by subst hA; exact ixm1 hi2 htL
      have hg1 : A.get none c4 t (I ik) := by subst hA; rw [hc4, hik]; exact getS_map hk
      have hx2 : A.ixm 1 1 0 j ik k := by subst hA; exact ixm1 hik hkj
      have hg2 : A.get none o1 k (I v) := by
        subst hA; rw [ho1, hv]; exact getS_I (by rw [List.getD_eq_getElem?_getD, List.getElem?_eq_getElem (by omega)]; rfl)
      have hav : A.add .i64 v 1 = v + 1 := by subst hA; exact iAdd_id (by omega) (by omega)
      have htk : (SO.take (t + 1)).foldl addO BB = OT.set k (v + 1) := by rw [foldl_take_succ hk, ← hOT, hv]; rfl
      obtain ⟨o2, ho2⟩ : ∃ r, r = ((SO.take (t + 1)).foldl addO BB).map I := ⟨_, rfl⟩
      have hup : A.upd 1 o1 k [I (A.add .i64 v 1)] o2 := by rw [hav, ho2, htk, ho1]; subst hA; exact updS_I (by omega)
      refine And.intro (hsg _) (Exists.intro t (And.intro hx1 ?_)); cbv
      refine And.intro (hsg _) (Exists.intro _ (And.intro hg1 ?_)); cbv
      refine And.intro (hsg _) (Exists.intro k (And.intro hx2 ?_)); cbv
      refine And.intro (hsg _) (Exists.intro _ (And.intro hg2 ?_)); cbv
      refine And.intro (hsg _) (Exists.intro k (And.intro hx2 ?_)); cbv
      refine And.intro (hsg _) (Exists.intro o2 (And.intro hup ?_)); cbv
      exact hB2 () _ _ htL trivial ⟨congrArg I (hadd2 _ htL (by omega)), trivial⟩ ⟨rfl, rfl, rfl, trivial⟩ (.inl (by rw [ho2]))
    · rename_i hz
      have htL : ¬ t < L := of_decide_eq_false (hlt2.symm.trans hz)
      have htL : t = L := by omega
      have hfin : OT = shareV am ws := by rw [hOT, htL, hSO, hL, hBB]; rfl
      rw [← hfin, ← ho1] at h
      exact h c3 c4
theorem p45 (am : Int) (ws : List Int) (hw : WtsV ws) (hs : SrtN ws.length) (ha : 0 ≤ am ∧ am ≤ 1000000000000) (H : AHeap) {Kk : AV → AHeap → Prop} (h : Kk (.vs 1 ((shareV am ws).map I)) H) : ACalls Tryd.prog 45 [I am, .vs 1 (ws.map I)] H Kk := by
  refine (fun q => pureF (by rfl) (by rfl) q H h) ?_
  clear h
  intro Kk h
  refine p45c am ws hw hs ha (fun c3 c4 => ?_)
  refine Frees.frz 1 ws.length 1 ((shareV am ws).map I) rfl (Elems_I _) ?_
  have e : AV.frz 1 ws.length 1 ((shareV am ws).map I) (.ms 1 1 ws.length 0 ws.length) = .vs 1 ((shareV am ws).map I) := frz_self (by rw [List.length_map, shareV_len])
  rw [e]
  exact Frees.drop0 h rfl
end Go.Sas
namespace Go.Sas
open Go.Proofs
set_option maxRecDepth 100000
end Go.Sas
