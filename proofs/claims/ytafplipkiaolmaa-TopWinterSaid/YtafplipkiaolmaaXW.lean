/-
TopWinter: the winter of a road, a road's open days, a freight that is written to: contracts.
TopWinter: a freight made of numbers whose days may be written to: contract.
Conditions: none.
-/
import Derived.Test.YtafplipkiaolmaaXC
import Derived.Test.YtafplipkiaolmaaPK
import Derived.Test.YtafplipkiaolmaaPP
import Derived.Test.YtafplipkiaolmaaPU
import Derived.Test.YtafplipkiaolmaaHF
set_option linter.unusedVariables false
set_option linter.unusedSimpArgs false
namespace Go.Sas
open Go.Proofs
set_option maxRecDepth 100000
def capB (u : Int) (b : Bool) : Int := if b then u else 0
theorem flat_B : ∀ l : List Bool, l.flatMap (fun b => [B b]) = l.map B
  | [] => rfl
  | b :: l => by rw [List.flatMap_cons, flat_B l]; rfl
theorem Elems_B (l : List Bool) : Elems 1 (l.map B) (l.map B) := by
  have h := Elems_map (f := B) (g := fun b => [B b]) (sz := 1) (fun _ => rfl) (fun _ => rfl) (fun _ => rfl) l
  rwa [flat_B] at h
theorem nidL_B (l : List Bool) : AV.nidL (l.map B) = true := nidL_map (g := B) (fun _ => rfl) l
theorem p15 (l : List Bool) (u : Int) (hl : l.length ≤ 1000000) (H : AHeap) {Kk : AV → AHeap → Prop} (h : Kk (winV 0 (iLen l.length - 1) (.vs 1 ((l.map (capB u)).map I))) H) :
    ACalls Try.prog 15 [.vs 1 (l.map B), I u] H Kk := by
  refine (fun q => pureF (by rfl) (by rfl) q H h) ?_
  clear h
  intro Kk h
  obtain ⟨xs, hxs⟩ : ∃ xs, xs = l.map B := ⟨_, rfl⟩
  rw [← hxs]
  obtain ⟨D, hDD⟩ : ∃ D, D = l.length := ⟨_, rfl⟩
  rw [← hDD] at hl h
  obtain ⟨A, hA⟩ : ∃ A, A = std := ⟨_, rfl⟩
  obtain ⟨F, hF⟩ : ∃ F, F = Frees 0 Kk := ⟨_, rfl⟩
  rw [← hF]
  have hv1 : A.vlen xs = iLen D := by subst hA; simp [std, hxs, hDD]
  have hsg : ∀ g, A.sg g g := by subst hA; exact fun _ => rfl
  have hsb : A.sub .i64 (A.vlen xs) 1 = iLen D - 1 := by rw [hv1]; subst hA; exact iSub_id (by unfold iLen; omega) (by unfold iLen; omega)
  obtain ⟨la, hla⟩ : ∃ x, x = A.sub .i64 (A.vlen xs) 1 := ⟨_, rfl⟩
  refine go15 rfl (SGo_run hA ⟨[], [], [], []⟩ .nil .nil 200 fun T TD hT hTD => ?_)
  cbv
  rw [hT]
  refine AGo_nilcell 1 2 1 rfl rfl ?_
  refine AGo_upE [0, 1, 4, 5] D (fun j (_ : Unit) => True) (fun j _ i => [(6, I i)])
    (fun j _ => [.own 0 [I 0, I 0, .lit (.slice none 0 0)], .own 0 [I 0, I la, .ms 1 2 j 0 j], .own j ((l.take j).map fun x => I (capB u x))]) () trivial ⟨rfl, trivial⟩ (.inl (by rw [hla]; rfl)) fun j _ i hi hj hP Bk hB => ?_
  have hlt : A.lt i (A.vlen xs) = decide (j < D) := by subst hA; exact lt_len (by simp [hxs, hDD]) hi
  have hadd : ∀ N, j < N → N ≤ 9223372036854775807 → A.add .i64 i 1 = iLen (j + 1) := fun N hj hN => by subst hA; exact add_one hi hj hN
  obtain ⟨cc, hcc⟩ : ∃ r, r = (l.take j).map fun x => I (capB u x) := ⟨_, rfl⟩
  have hcl : LenIs cc j := by unfold LenIs; rw [hcc]; simp; omega
  rw [← hcc]
  refine SGo_run hA ⟨[2], [1002], [], []⟩ .nil .nil 200 fun T TD hT hTD => ?_
  cbv
  split <;> cbv
  · rename_i hk0
    have hk1 : j < D := by have hz := hlt.symm.trans hk0; simpa using hz
    clear hk0
    obtain ⟨x, hx⟩ : ∃ x, l[j]? = some x := ⟨_, List.getElem?_eq_getElem (hDD ▸ hk1)⟩
    have hix : A.ix 1 1 xs i [B x] := by subst hA; exact ix_map hxs hi hx rfl
    refine Exists.intro _ (And.intro hix ?_); cbv
    have happ : ∀ v : Int, A.app 1 1 8 cc 0 j [I v] (cc ++ [I v]) (j + 1) := fun v => by subst hA; exact app_one (by unfold LenIs at hcl; omega) rfl (by omega)
    have htk : ∀ cc2, cc2 = cc ++ [I (capB u x)] → (l.take (j + 1)).map (fun x => I (capB u x)) = cc2 := fun cc2 hc2 => by
      obtain ⟨h9, he⟩ := List.getElem?_eq_some_iff.1 hx
      rw [hc2, hcc, List.take_succ_eq_append_getElem h9, he]; simp
    cases x <;> cbv
    · refine And.intro (hsg _) (Exists.intro _ (Exists.intro (j + 1) (And.intro (happ 0) (And.intro rfl ?_))))
      generalize hc2 : cc ++ _ = cc2
      cbv
      refine hB () _ _ hk1 trivial ⟨congrArg I (hadd _ hk1 (by omega)), trivial⟩ ⟨rfl, rfl, rfl, rfl, trivial⟩ (.inl (by rw [htk _ hc2.symm]))
    · refine And.intro (hsg _) (Exists.intro _ (Exists.intro (j + 1) (And.intro (happ u) (And.intro rfl ?_))))
      generalize hc2 : cc ++ _ = cc2
      cbv
      refine hB () _ _ hk1 trivial ⟨congrArg I (hadd _ hk1 (by omega)), trivial⟩ ⟨rfl, rfl, rfl, rfl, trivial⟩ (.inl (by rw [htk _ hc2.symm]))
  · rename_i hk0
    have hk1 : ¬ j < D := by have hz := hlt.symm.trans hk0; simpa using hz
    clear hk0
    rw [hF]
    have hts : l.take j = l := List.take_of_length_le (by omega)
    rw [hts] at hcc
    have hcc : cc = (l.map (capB u)).map I := by rw [hcc, List.map_map]; rfl
    refine Frees.frz 2 j 1 ((l.map (capB u)).map I) rfl (by rw [hcc]; exact Elems_I _) (Frees.drop0 ?_ ?_)
    · have : AV.frz 2 j 1 ((l.map (capB u)).map I) (.ms 1 2 j 0 j) = .vs 1 ((l.map (capB u)).map I) := frz_self (by simp; omega)
      simp only [aTup, AV.frz, AV.frzL] at this ⊢
      rw [this, hla, hsb]
      exact h
    · simp only [aTup, AV.frz, AV.frzL, AV.nid, AV.nidL, if_true]
      split <;> rfl
/-- is a road open on a day -/
def openS (rs : List Rch) (a b c : Int) (l : List Lk) (m : List Mrk) (need : Int) (t : Nat) : Bool := decide ((closeL rs a b c l m need (iLen t)).length = 0)
theorem p13 (rs : List Rch) (a b c : Int) (l : List Lk) (m : List Mrk) (need : Int) (D : Nat) (h1 : rs.length ≤ 9223372036854775807) (h2 : l.length ≤ 9223372036854775807) (h3 : m.length ≤ 9223372036854775807) (hD : D ≤ 1000)
    (hask : ∀ t, t < D → askE rs a b c l m need (iLen t) = 0) (hcov : ∀ t, t < D → CovM (pastM m (iLen t)) (iLen t) (sumLg rs)) (H : AHeap) {Kk : AV → AHeap → Prop}
    (h : Kk (.tup [.vs 1 (((List.range D).map (openS rs a b c l m need)).map B), B true]) H) : ACalls Try.prog 13 [svV (.vs 5 (rs.map rcV)) a b c, .vs 5 (l.map lkV), .vs 5 (m.map mkV), I need, I (iLen D)] H Kk := by
  have hnr := nidL_rc rs
  refine (fun q => pureF (by simp [AV.nidL, AV.nid, hnr, nidL_map (g := lkV) (fun _ => rfl) l, nidL_map (g := mkV) (fun _ => rfl) m]) (by simp [AV.nidL, AV.nid, nidL_B]) q H h) ?_
  clear h
  intro Kk h
  obtain ⟨xs, hxs⟩ : ∃ xs, xs = rs.map rcV := ⟨_, rfl⟩
  rw [← hxs]
  obtain ⟨ls, hls⟩ : ∃ ys, ys = l.map lkV := ⟨_, rfl⟩
  rw [← hls]
  obtain ⟨ms, hms⟩ : ∃ ys, ys = m.map mkV := ⟨_, rfl⟩
  rw [← hms]
  obtain ⟨d, hd⟩ : ∃ d, d = iLen D := ⟨_, rfl⟩
  rw [← hd]
  have hxl : ∀ n, AV.ltL n xs := fun n => AV.ltL_nid (by rw [hxs]; exact hnr)
  obtain ⟨A, hA⟩ : ∃ A, A = std := ⟨_, rfl⟩
  obtain ⟨F, hF⟩ : ∃ F, F = Frees 0 Kk := ⟨_, rfl⟩
  rw [← hF]
  have hsg : ∀ g, A.sg g g := by subst hA; exact fun _ => rfl
  have hne : ∀ x, A.ne x 0 = decide (x ≠ 0) := by subst hA; intro x; simp only [std, iNe]; rw [Bool.eq_iff_iff]; simp
  refine go13 rfl (SGo_run hA ⟨[], [], [], []⟩ .nil .nil 200 fun T TD hT hTD => ?_)
  cbv
  rw [hT]
  refine AGo_nilms 12 1 rfl ?_
  refine AGo_upE [1, 2, 3, 4, 5] D (fun j (_ : Unit) => True) (fun j _ i => [(12, .ms 1 1 j 0 j), (13, I i)])
    (fun j _ => [.own 0 [.vs 5 xs, I a, I b, I c], .own j (((List.range j).map (openS rs a b c l m need)).map B)]) () trivial ⟨rfl, rfl, trivial⟩ (.inl rfl) fun j _ i hi hj hP Bk hB => ?_
  have hlt : A.lt i d = decide (j < D) := by subst hA; simp only [std, iLt, hi, hd]; rw [Bool.eq_iff_iff]; unfold iLen; simp only [decide_eq_true_eq]; omega
  have hadd : ∀ N, j < N → N ≤ 9223372036854775807 → A.add .i64 i 1 = iLen (j + 1) := fun N hj hN => by subst hA; exact add_one hi hj hN
  obtain ⟨cc, hcc⟩ : ∃ r, r = ((List.range j).map (openS rs a b c l m need)).map B := ⟨_, rfl⟩
  have hcl : LenIs cc j := by unfold LenIs; rw [hcc]; simp
  rw [← hcc]
  refine SGo_run hA ⟨[1], [0, 1001], (24, eClose CovM) :: [], []⟩ (.cons (eClose_ok CovM.ok) .nil) .nil 200 fun T TD hT hTD => ?_
  cbv
  split <;> cbv
  · rename_i hk0
    have hk1 : j < D := by have hz := hlt.symm.trans hk0; simpa using hz
    clear hk0
    refine Exists.intro rs (Exists.intro l (Exists.intro m (And.intro hxs (And.intro hls (And.intro hms (And.intro h1 (And.intro h2 (And.intro h3 (And.intro (fun _ => by rw [hi]; exact hcov j hk1) ?_)))))))))
    intro e1 y1 he1 hy1; cbv
    have he1 : e1 = 0 := by rw [he1, hi]; exact hask j hk1
    subst he1
    have hn0 : A.ne 0 0 = false := by rw [hne]; rfl
    split <;> first | (rename_i hz; exact Bool.noConfusion (hz.symm.trans hn0)) | cbv
    have hop : A.eq (A.vlen y1) 0 = openS rs a b c l m need j := by
      unfold openS
      subst hA; show iEq (iLen y1.length) 0 = _
      rw [iEq_dec, decide_eq_decide, hy1, List.length_map, hi]; unfold iLen; omega
    refine And.intro (hsg _) (Exists.intro (cc ++ [B (A.eq (A.vlen y1) 0)]) (Exists.intro (j + 1) (And.intro ?_ (And.intro rfl ?_))))
    · subst hA; exact app_one (by unfold LenIs at hcl; omega) rfl (by omega)
    generalize hc2 : cc ++ _ = cc2
    rw [hop] at hc2
    cbv
    have htk : ((List.range (j + 1)).map (openS rs a b c l m need)).map B = cc2 := by rw [← hc2, hcc, List.range_succ]; simp
    refine hB () _ _ hk1 trivial ⟨rfl, congrArg I (hadd _ hk1 (by omega)), trivial⟩ ⟨rfl, rfl, rfl, rfl, rfl, trivial⟩ (.inl (by rw [htk]))
  · rename_i hk0
    have hk1 : ¬ j < D := by have hz := hlt.symm.trans hk0; simpa using hz
    clear hk0
    have hjD : j = D := by omega
    subst hjD
    rw [hF]
    refine Frees.frz 1 j 1 (((List.range j).map (openS rs a b c l m need)).map B) rfl (by rw [hcc]; exact Elems_B _) (Frees.drop0 ?_ ?_)
    · have : AV.frz 1 j 1 (((List.range j).map (openS rs a b c l m need)).map B) (.ms 1 1 j 0 j) = .vs 1 (((List.range j).map (openS rs a b c l m need)).map B) := frz_self (by simp)
      simp only [aTup, AV.frz, AV.frzL] at this ⊢
      rw [this]
      exact h
    · simp only [aTup, AV.frz, AV.frzL, AV.nid, AV.nidL, if_true]
      split <;> rfl
end Go.Sas
namespace Go.Sas
open Go.Proofs
set_option maxRecDepth 100000
theorem Frees.weak {m : Nat} {Kk : AV → AHeap → Prop} {r : AV} {H : AHeap} (q : Nat) {gg : Nat} {cs : List AV} (hX : H[q]? = some (.own gg cs)) (h : Frees m Kk r (H.set q (.own gg []))) : Frees m Kk r H :=
  fun st0 w0 st w v hm he hH hr => h st0 w0 st w v hm he (hH.weak hX) hr
set_option maxHeartbeats 2000000 in
theorem d9b (days orders : Int) (hd : 1 ≤ days ∧ days ≤ 200) (ho : 1 ≤ orders ∧ orders ≤ 6) (w : Int) {Kk : AV → AHeap → Prop}
    (h : ∀ (w' a b c d : Int) (cs : List (Int × Int)) (os : List Ord), checkF ⟨(a, b), (c, d), cs, os⟩ = 0 → iLen cs.length ≤ days → iLen os.length ≤ orders → (∀ x ∈ cs, x.2 ≤ 9) → (∀ o ∈ os, o.u ≤ 20 ∧ o.s ≤ 30) →
      Kk (frV a b c d (.ms 2 3 cs.length 0 cs.length) (.vs 4 (os.map orV))) [.own 0 [U w'], .own 0 [], .own 0 [], .own cs.length (cs.flatMap spC), .gone]) :
    ACalls Try.prog 9 [.mp 0 0 0, I days, I orders] [.own 0 [U w]] Kk := by
  refine ACalls.frees ?_
  obtain ⟨A, hA⟩ : ∃ A, A = std := ⟨_, rfl⟩
  have hsg : ∀ g, A.sg g g := by subst hA; exact fun _ => rfl
  obtain ⟨F, hF⟩ : ∃ F, F = Frees 1 Kk := ⟨_, rfl⟩
  rw [show Frees [AObj.own 0 [U w]].length Kk = F from hF.symm]
  refine go9 rfl (SGo_run hA ⟨[], [], [], ed3F⟩ .nil ed3_okF 200 fun T TD hT hTD => ?_)
  cbv
  refine Exists.intro () (And.intro (by omega) ?_)
  rintro w1 _ ⟨nv, rfl, hn1, hn2⟩
  have hn2 : nv ≤ days := by omega
  cbv
  rw [hT]
  refine AGo_nilcell 2 4 2 rfl rfl ?_
  obtain ⟨N, hN⟩ : ∃ N : Nat, nv = iLen N := ⟨nv.toNat, by unfold iLen; omega⟩
  refine AGo_upE [0, 2, 6, 7, 8] N (fun j (s : Int × List (Int × Int)) => s.2.length = j ∧ ∀ x ∈ s.2, 0 ≤ x.1 ∧ x.1 ≤ x.2 ∧ x.2 ≤ 9) (fun j _ i => [(9, I i)])
    (fun j s => [.own 0 [U s.1], .own 0 [I 0, I 0, I 0, I 0, .lit (.slice none 0 0), .lit (.slice none 0 0)], .own 0 [I 0, I 0, I 0, I 0, .ms 2 3 j 0 j, .lit (.slice none 0 0)], .own j (s.2.flatMap spC)]) (w1, []) ⟨rfl, by simp⟩ ⟨rfl, trivial⟩ (.inl rfl) fun j s i hi hj hP Bk hB => ?_
  have hlt : A.lt i nv = decide (j < N) := by subst hA; simp only [std, iLt, hi, hN]; rw [Bool.eq_iff_iff]; unfold iLen; simp only [decide_eq_true_eq]; omega
  have hadd : ∀ N, j < N → N ≤ 9223372036854775807 → A.add .i64 i 1 = iLen (j + 1) := fun N hj hN => by subst hA; exact add_one hi hj hN
  obtain ⟨w2, cs⟩ := s
  obtain ⟨hP1, hP2⟩ := hP
  dsimp only at hP1 hP2 ⊢
  have hNb : N ≤ 200 := by unfold iLen at hN; omega
  obtain ⟨cc, hcc⟩ : ∃ c, c = cs.flatMap spC := ⟨_, rfl⟩
  rw [← hcc]
  refine SGo_run hA ⟨[3], [0, 1003], [], ed3F⟩ .nil ed3_okF 200 fun T TD hT hTD => ?_
  cbv
  split <;> cbv
  · rename_i hk0
    have hk1 : j < N := by have hz := hlt.symm.trans hk0; simpa using hz
    clear hk0
    refine Exists.intro () (And.intro ⟨by simp, by simp, by exact AllI_lits (l := [3, 9])⟩ ?_)
    rintro w3 _ ⟨t, rfl, ht⟩
    simp at ht
    cbv
    refine And.intro (by subst hA; simp [std, Keep, SubH, ResK]) ?_; cbv
    refine Exists.intro () (And.intro (by omega) ?_)
    rintro w4 _ ⟨u, v, rfl, hu1, hu2, hu3⟩
    cbv
    refine And.intro (by subst hA; simp [std, Keep, SubH, ResK]) ?_; cbv
    refine And.intro (hsg _) (Exists.intro (cc ++ [I u, I v]) (Exists.intro (j + 1) (And.intro ?_ (And.intro rfl ?_))))
    · subst hA; exact app_one (by rw [hcc, len_flat (k := 2) (fun _ => rfl), hP1]) rfl (by omega)
    generalize hc2 : cc ++ _ = cc2
    refine And.intro (by subst hA; simp [std, Keep, SubH, ResK]) ?_
    cbv
    refine hB (w4, cs ++ [(u, v)]) _ _ hk1 ⟨by simp [hP1], ?_⟩ ⟨congrArg I (hadd _ hk1 (by omega)), trivial⟩ ⟨rfl, rfl, rfl, rfl, rfl, trivial⟩ (.inl (by rw [← hc2, hcc]; simp))
    intro x hx
    rcases List.mem_append.1 hx with hx | hx
    · exact hP2 x hx
    · simp at hx; subst hx; dsimp only; omega
  · rename_i hk0
    have hk1 : ¬ j < N := by have hz := hlt.symm.trans hk0; simpa using hz
    clear hk0
    have hjN : j = N := by omega
    subst hjN
    clear hB hadd hlt
    have hsub : A.sub .i64 nv 1 = nv - 1 := by subst hA; exact iSub_id (by omega) (by omega)
    have hquo : A.quo .i64 (A.sub .i64 nv 1) 2 = (nv - 1) / 2 := by rw [hsub]; subst hA; exact iQuo_id (by omega) (by omega) (by omega)
    refine Exists.intro () (And.intro (by show _ ≤ _ ∧ _ ≤ A.quo .i64 (A.sub .i64 nv 1) 2 ∧ A.quo .i64 (A.sub .i64 nv 1) 2 ≤ _; rw [hquo]; omega) ?_)
    rintro w5 _ ⟨fa, fb, rfl, hf1, hf2, hf3⟩
    have hf3 : fb ≤ A.quo .i64 (A.sub .i64 nv 1) 2 := hf3
    rw [hquo] at hf3
    cbv
    refine Exists.intro () (And.intro (by show _ ≤ A.quo .i64 (A.sub .i64 nv 1) 2 ∧ A.quo .i64 (A.sub .i64 nv 1) 2 ≤ A.sub .i64 nv 1 ∧ A.sub .i64 nv 1 ≤ _; rw [hquo, hsub]; omega) ?_)
    rintro w6 _ ⟨la, lb, rfl, hl1, hl2, hl3⟩
    have hl1 : A.quo .i64 (A.sub .i64 nv 1) 2 ≤ la := hl1
    have hl3 : lb ≤ A.sub .i64 nv 1 := hl3
    rw [hquo] at hl1
    rw [hsub] at hl3
    cbv
    refine Exists.intro () (And.intro (by omega) ?_)
    rintro w7 _ ⟨yb, rfl⟩
    cbv
    split <;> cbv
    · refine Exists.intro () (And.intro (by show _ ≤ _ ∧ _ ≤ A.sub .i64 nv 1 ∧ A.sub .i64 nv 1 ≤ _; rw [hsub]; omega) ?_)
      rintro w17 _ ⟨fa2, fb2, rfl, hg1, hg2, hg3⟩
      have hg3 : fb2 ≤ A.sub .i64 nv 1 := hg3
      rw [hsub] at hg3
      cbv
      refine Exists.intro () (And.intro (by show _ ≤ _ ∧ _ ≤ A.sub .i64 nv 1 ∧ A.sub .i64 nv 1 ≤ _; rw [hsub]; omega) ?_)
      rintro w18 _ ⟨la3, lb3, rfl, hm1, hm2, hm3⟩
      have hm3 : lb3 ≤ A.sub .i64 nv 1 := hm3
      rw [hsub] at hm3
      cbv
      refine Exists.intro () (And.intro (by omega) ?_)
      rintro w8 _ ⟨k2, rfl, hkk1, hkk2⟩
      cbv
      rw [hT]
      refine AGo_nilcell 2 5 4 rfl rfl ?_
      refine AGo_whileE (σ := Int × Int × List Ord) [0, 6, 7, 8] (fun s => s.2.1.toNat) (fun s => 0 ≤ s.2.1 ∧ s.2.1 + iLen s.2.2.length = k2 ∧ ∀ o ∈ s.2.2, OrdD nv o) (fun s => [(10, I s.2.1)])
        (fun s => [.own 0 [U s.1], .own 0 [I 0, I 0, I 0, I 0, .lit (.slice none 0 0), .lit (.slice none 0 0)], .own 0 [I fa2, I fb2, I la3, I lb3, .ms 2 3 j 0 j, .ms 4 4 s.2.2.length 0 s.2.2.length], .own j cc, .own s.2.2.length (s.2.2.flatMap orC4)]) (w8, k2, []) ⟨by dsimp only; omega, by simp [iLen], by simp⟩ ⟨rfl, trivial⟩ (.inl rfl) fun s hP Bk hB => ?_
      obtain ⟨w9, dd, os⟩ := s
      obtain ⟨hd0, hdl, hoa⟩ := hP
      dsimp only at hd0 hdl hoa ⊢
      obtain ⟨oc, hoc⟩ : ∃ c, c = os.flatMap orC4 := ⟨_, rfl⟩
      obtain ⟨n2, hn2'⟩ : ∃ n, n = os.length := ⟨_, rfl⟩
      rw [← hoc, ← hn2']
      rw [← hn2'] at hdl
      have hgt : A.lt 0 dd = decide (0 < dd) := by subst hA; rfl
      have hsub2 : A.sub .i64 dd 1 = dd - 1 := by unfold iLen at hdl; subst hA; exact iSub_id (by omega) (by omega)
      have hn61 : n2 ≤ 6 := by unfold iLen at hdl; omega
      refine SGo_run hA ⟨[4], [0], [], ed3⟩ .nil ed3_ok 200 fun T TD hT hTD => ?_
      cbv
      split <;> cbv
      · rename_i hq
        have hq1 : 0 < dd := by have hq := hgt.symm.trans hq; simpa using hq
        clear hq
        refine Exists.intro () (And.intro ⟨by simp, by simp, by exact AllI_lits (l := [4, 20])⟩ ?_)
        rintro w10 _ ⟨t1, rfl, ht1⟩
        simp at ht1
        cbv
        refine Exists.intro () (And.intro (by omega) ?_)
        rintro w11 _ ⟨uu, rfl, huu1, huu2⟩
        cbv
        have hadd3 : A.add .i64 nv 1 = nv + 1 := by subst hA; exact iAdd_id (by omega) (by omega)
        refine Exists.intro () (And.intro (by show A.add .i64 nv 1 ≤ _; rw [hadd3]; omega) ?_)
        rintro w12 _ ⟨du, rfl, hdu1, hdu2⟩
        have hdu2 : du < A.add .i64 nv 1 ∨ du = 0 := hdu2
        rw [hadd3] at hdu2
        cbv
        refine Exists.intro () (And.intro (by omega) ?_)
        rintro w13 _ ⟨la2, rfl, hla1, hla2⟩
        cbv
        refine Exists.intro () (And.intro (by omega) ?_)
        rintro w14 _ ⟨t2, rfl, ht21, ht22⟩
        cbv
        refine And.intro (by subst hA; exact .inr ⟨⟨rfl, SubH.self _⟩, trivial, .inr fun _ => ⟨rfl, SubH.self _⟩⟩) ?_; cbv
        refine Exists.intro () (And.intro ⟨by simp, by simp, by exact AllI_lits (l := [0, t2])⟩ ?_)
        rintro w15 _ ⟨t3, rfl, ht3⟩
        simp at ht3
        cbv
        refine And.intro (by subst hA; exact .inr ⟨⟨rfl, SubH.self _⟩, trivial, .inr fun _ => ⟨rfl, SubH.self _⟩⟩) ?_; cbv
        have hls : A.add .i64 la2 t3 = la2 + t3 := by subst hA; exact iAdd_id (by omega) (by omega)
        refine And.intro (hsg _) (Exists.intro (oc ++ [I uu, I du, I la2, I (A.add .i64 la2 t3)]) (Exists.intro (n2 + 1) (And.intro ?_ (And.intro rfl ?_))))
        · subst hA; exact app_one (by rw [hoc, len_flat (k := 4) (fun _ => rfl), hn2']) rfl (by omega)
        generalize hoc2 : oc ++ _ = oc2
        cbv
        rw [hls] at hoc2
        refine hB (w15, dd - 1, os ++ [⟨uu, du, la2, la2 + t3⟩]) _ _ (by dsimp only; omega) ⟨by dsimp only; omega, by dsimp only; unfold iLen at hdl ⊢; simp; omega, ?_⟩ ⟨congrArg I hsub2, trivial⟩ ⟨rfl, rfl, rfl, rfl, trivial⟩ (.inr ⟨⟨[.own 0 [I uu, I du, I la2, I (A.add .i64 la2 t3)]], ?_⟩, by simp, by simp [ltG, keepS, look, gset, AV.lt, AV.ltL], ?_⟩)
        · intro o ho9
          rcases List.mem_append.1 ho9 with ho9 | ho9
          · exact hoa o ho9
          · simp at ho9; subst ho9; unfold OrdD; dsimp only; omega
        · rw [← hoc2, hoc, hn2']; simp
        · exact ⟨by simp [AObj.lt, AV.ltL, AV.lt], by simp [AObj.lt, AV.ltL, AV.lt], by simp [AObj.lt, AV.ltL, AV.lt], AV.ltL_nid (by rw [hcc]; exact nidL_flat (fun _ => rfl) _), AV.ltL_nid (nidL_flat (fun _ => rfl) _), trivial⟩
      · rename_i hq
        have hq1 : ¬ 0 < dd := by have hq := hgt.symm.trans hq; simpa using hq
        clear hq
        rw [hF]
        have hck : checkF ⟨(fa2, fb2), (la3, lb3), cs, os⟩ = 0 := checkF_ok' hP1 hP2 (by omega) (by omega) hoa (by rw [← hn2']; unfold iLen at hdl; omega) (by omega) (by unfold iLen at hN; omega) hN
        refine Frees.frz 4 n2 4 (os.map orV) (cs := oc) rfl (by rw [hoc]; exact Elems_map (f := orV) (g := orC4) (sz := 4) (fun _ => rfl) (fun _ => rfl) (fun _ => rfl) os) ?_
        have e2 : AV.frz 4 n2 4 (os.map orV) (.ms 4 4 n2 0 n2) = .vs 4 (os.map orV) := frz_self (by simp [hn2'])
        have e3 : AV.frz 4 n2 4 (os.map orV) (.ms 2 3 j 0 j) = .ms 2 3 j 0 j := by simp [AV.frz]
        have e4 : AV.frz 4 n2 4 (os.map orV) (.agg [I fa2, I fb2, I la3, I lb3, .ms 2 3 j 0 j, .ms 4 4 n2 0 n2]) = frV fa2 fb2 la3 lb3 (.ms 2 3 j 0 j) (.vs 4 (os.map orV)) := by
          simp only [AV.frz, AV.frzL] at e2 e3 ⊢
          rw [e2]
          simp
        have e5 : AV.frzL 4 n2 4 (os.map orV) cc = cc := AV.frzL_nid (by rw [hcc]; exact nidL_flat (fun _ => rfl) _)
        rw [show AV.frz 4 n2 4 (os.map orV) (aTup [.agg [I fa2, I fb2, I la3, I lb3, .ms 2 3 j 0 j, .ms 4 4 n2 0 n2]]) = frV fa2 fb2 la3 lb3 (.ms 2 3 j 0 j) (.vs 4 (os.map orV)) from e4]
        refine Frees.weak 1 rfl (Frees.weak (cs := [I fa2, I fb2, I la3, I lb3, AV.frz 4 n2 4 (os.map orV) (.ms 2 3 j 0 j), AV.frz 4 n2 4 (os.map orV) (.ms 4 4 n2 0 n2)]) 2 rfl ?_)
        refine Frees.now ?_
        have h9 := h w9 fa2 fb2 la3 lb3 cs os hck (by rw [hP1, ← hN]; exact hn2) (by unfold iLen at hdl ⊢; omega) (fun x hx => (hP2 x hx).2.2) (fun o ho9 => by have := hoa o ho9; unfold OrdD at this; omega)
        rw [hP1, ← hcc] at h9
        show Kk _ [.own 0 [U w9], .own 0 [], .own 0 [], .own j (AV.frzL 4 n2 4 (os.map orV) cc), .gone]
        rw [e5]
        exact h9
    · refine Exists.intro () (And.intro (by omega) ?_)
      rintro w8 _ ⟨k2, rfl, hkk1, hkk2⟩
      cbv
      rw [hT]
      refine AGo_nilcell 2 5 4 rfl rfl ?_
      refine AGo_whileE (σ := Int × Int × List Ord) [0, 6, 7, 8] (fun s => s.2.1.toNat) (fun s => 0 ≤ s.2.1 ∧ s.2.1 + iLen s.2.2.length = k2 ∧ ∀ o ∈ s.2.2, OrdD nv o) (fun s => [(10, I s.2.1)])
        (fun s => [.own 0 [U s.1], .own 0 [I 0, I 0, I 0, I 0, .lit (.slice none 0 0), .lit (.slice none 0 0)], .own 0 [I fa, I fb, I la, I lb, .ms 2 3 j 0 j, .ms 4 4 s.2.2.length 0 s.2.2.length], .own j cc, .own s.2.2.length (s.2.2.flatMap orC4)]) (w8, k2, []) ⟨by dsimp only; omega, by simp [iLen], by simp⟩ ⟨rfl, trivial⟩ (.inl rfl) fun s hP Bk hB => ?_
      obtain ⟨w9, dd, os⟩ := s
      obtain ⟨hd0, hdl, hoa⟩ := hP
      dsimp only at hd0 hdl hoa ⊢
      obtain ⟨oc, hoc⟩ : ∃ c, c = os.flatMap orC4 := ⟨_, rfl⟩
      obtain ⟨n2, hn2'⟩ : ∃ n, n = os.length := ⟨_, rfl⟩
      rw [← hoc, ← hn2']
      rw [← hn2'] at hdl
      have hgt : A.lt 0 dd = decide (0 < dd) := by subst hA; rfl
      have hsub2 : A.sub .i64 dd 1 = dd - 1 := by unfold iLen at hdl; subst hA; exact iSub_id (by omega) (by omega)
      have hn61 : n2 ≤ 6 := by unfold iLen at hdl; omega
      refine SGo_run hA ⟨[4], [0], [], ed3⟩ .nil ed3_ok 200 fun T TD hT hTD => ?_
      cbv
      split <;> cbv
      · rename_i hq
        have hq1 : 0 < dd := by have hq := hgt.symm.trans hq; simpa using hq
        clear hq
        refine Exists.intro () (And.intro ⟨by simp, by simp, by exact AllI_lits (l := [4, 20])⟩ ?_)
        rintro w10 _ ⟨t1, rfl, ht1⟩
        simp at ht1
        cbv
        refine Exists.intro () (And.intro (by omega) ?_)
        rintro w11 _ ⟨uu, rfl, huu1, huu2⟩
        cbv
        have hadd3 : A.add .i64 nv 1 = nv + 1 := by subst hA; exact iAdd_id (by omega) (by omega)
        refine Exists.intro () (And.intro (by show A.add .i64 nv 1 ≤ _; rw [hadd3]; omega) ?_)
        rintro w12 _ ⟨du, rfl, hdu1, hdu2⟩
        have hdu2 : du < A.add .i64 nv 1 ∨ du = 0 := hdu2
        rw [hadd3] at hdu2
        cbv
        refine Exists.intro () (And.intro (by omega) ?_)
        rintro w13 _ ⟨la2, rfl, hla1, hla2⟩
        cbv
        refine Exists.intro () (And.intro (by omega) ?_)
        rintro w14 _ ⟨t2, rfl, ht21, ht22⟩
        cbv
        refine And.intro (by subst hA; exact .inr ⟨⟨rfl, SubH.self _⟩, trivial, .inr fun _ => ⟨rfl, SubH.self _⟩⟩) ?_; cbv
        refine Exists.intro () (And.intro ⟨by simp, by simp, by exact AllI_lits (l := [0, t2])⟩ ?_)
        rintro w15 _ ⟨t3, rfl, ht3⟩
        simp at ht3
        cbv
        refine And.intro (by subst hA; exact .inr ⟨⟨rfl, SubH.self _⟩, trivial, .inr fun _ => ⟨rfl, SubH.self _⟩⟩) ?_; cbv
        have hls : A.add .i64 la2 t3 = la2 + t3 := by subst hA; exact iAdd_id (by omega) (by omega)
        refine And.intro (hsg _) (Exists.intro (oc ++ [I uu, I du, I la2, I (A.add .i64 la2 t3)]) (Exists.intro (n2 + 1) (And.intro ?_ (And.intro rfl ?_))))
        · subst hA; exact app_one (by rw [hoc, len_flat (k := 4) (fun _ => rfl), hn2']) rfl (by omega)
        generalize hoc2 : oc ++ _ = oc2
        cbv
        rw [hls] at hoc2
        refine hB (w15, dd - 1, os ++ [⟨uu, du, la2, la2 + t3⟩]) _ _ (by dsimp only; omega) ⟨by dsimp only; omega, by dsimp only; unfold iLen at hdl ⊢; simp; omega, ?_⟩ ⟨congrArg I hsub2, trivial⟩ ⟨rfl, rfl, rfl, rfl, trivial⟩ (.inr ⟨⟨[.own 0 [I uu, I du, I la2, I (A.add .i64 la2 t3)]], ?_⟩, by simp, by simp [ltG, keepS, look, gset, AV.lt, AV.ltL], ?_⟩)
        · intro o ho9
          rcases List.mem_append.1 ho9 with ho9 | ho9
          · exact hoa o ho9
          · simp at ho9; subst ho9; unfold OrdD; dsimp only; omega
        · rw [← hoc2, hoc, hn2']; simp
        · exact ⟨by simp [AObj.lt, AV.ltL, AV.lt], by simp [AObj.lt, AV.ltL, AV.lt], by simp [AObj.lt, AV.ltL, AV.lt], AV.ltL_nid (by rw [hcc]; exact nidL_flat (fun _ => rfl) _), AV.ltL_nid (nidL_flat (fun _ => rfl) _), trivial⟩
      · rename_i hq
        have hq1 : ¬ 0 < dd := by have hq := hgt.symm.trans hq; simpa using hq
        clear hq
        rw [hF]
        have hck : checkF ⟨(fa, fb), (la, lb), cs, os⟩ = 0 := checkF_ok' hP1 hP2 (by omega) (by omega) hoa (by rw [← hn2']; unfold iLen at hdl; omega) (by omega) (by unfold iLen at hN; omega) hN
        refine Frees.frz 4 n2 4 (os.map orV) (cs := oc) rfl (by rw [hoc]; exact Elems_map (f := orV) (g := orC4) (sz := 4) (fun _ => rfl) (fun _ => rfl) (fun _ => rfl) os) ?_
        have e2 : AV.frz 4 n2 4 (os.map orV) (.ms 4 4 n2 0 n2) = .vs 4 (os.map orV) := frz_self (by simp [hn2'])
        have e3 : AV.frz 4 n2 4 (os.map orV) (.ms 2 3 j 0 j) = .ms 2 3 j 0 j := by simp [AV.frz]
        have e4 : AV.frz 4 n2 4 (os.map orV) (.agg [I fa, I fb, I la, I lb, .ms 2 3 j 0 j, .ms 4 4 n2 0 n2]) = frV fa fb la lb (.ms 2 3 j 0 j) (.vs 4 (os.map orV)) := by
          simp only [AV.frz, AV.frzL] at e2 e3 ⊢
          rw [e2]
          simp
        have e5 : AV.frzL 4 n2 4 (os.map orV) cc = cc := AV.frzL_nid (by rw [hcc]; exact nidL_flat (fun _ => rfl) _)
        rw [show AV.frz 4 n2 4 (os.map orV) (aTup [.agg [I fa, I fb, I la, I lb, .ms 2 3 j 0 j, .ms 4 4 n2 0 n2]]) = frV fa fb la lb (.ms 2 3 j 0 j) (.vs 4 (os.map orV)) from e4]
        refine Frees.weak 1 rfl (Frees.weak (cs := [I fa, I fb, I la, I lb, AV.frz 4 n2 4 (os.map orV) (.ms 2 3 j 0 j), AV.frz 4 n2 4 (os.map orV) (.ms 4 4 n2 0 n2)]) 2 rfl ?_)
        refine Frees.now ?_
        have h9 := h w9 fa fb la lb cs os hck (by rw [hP1, ← hN]; exact hn2) (by unfold iLen at hdl ⊢; omega) (fun x hx => (hP2 x hx).2.2) (fun o ho9 => by have := hoa o ho9; unfold OrdD at this; omega)
        rw [hP1, ← hcc] at h9
        show Kk _ [.own 0 [U w9], .own 0 [], .own 0 [], .own j (AV.frzL 4 n2 4 (os.map orV) cc), .gone]
        rw [e5]
        exact h9
theorem d9m (days orders : Int) (hd : 1 ≤ days ∧ days ≤ 200) (ho : 1 ≤ orders ∧ orders ≤ 6) (w : Int) (id : Nat) (H : AHeap) (hH : H[id]? = some (.own 0 [U w])) {Kk : AV → AHeap → Prop}
    (h : ∀ (w' a b c d : Int) (cs : List (Int × Int)) (os : List Ord), checkF ⟨(a, b), (c, d), cs, os⟩ = 0 → iLen cs.length ≤ days → iLen os.length ≤ orders → (∀ x ∈ cs, x.2 ≤ 9) → (∀ o ∈ os, o.u ≤ 20 ∧ o.s ≤ 30) →
      Kk (frV a b c d (.ms 2 (H.length + 2) cs.length 0 cs.length) (.vs 4 (os.map orV))) (H.set id (.own 0 [U w']) ++ [.own 0 [], .own 0 [], .own cs.length (cs.flatMap spC), .gone])) :
    ACalls Try.prog 9 [.mp id 0 0, I days, I orders] H Kk := by
  have h1 := d9b days orders hd ho w (Kk := fun r H' => ∃ (w' a b c d : Int) (cs : List (Int × Int)) (os : List Ord), (checkF ⟨(a, b), (c, d), cs, os⟩ = 0 ∧ iLen cs.length ≤ days ∧ iLen os.length ≤ orders ∧ (∀ x ∈ cs, x.2 ≤ 9) ∧ ∀ o ∈ os, o.u ≤ 20 ∧ o.s ≤ 30) ∧
      r = frV a b c d (.ms 2 3 cs.length 0 cs.length) (.vs 4 (os.map orV)) ∧ H' = [.own 0 [U w'], .own 0 [], .own 0 [], .own cs.length (cs.flatMap spC), .gone])
    fun w' a b c d cs os e1 e2 e3 e4 e5 => ⟨w', a, b, c, d, cs, os, ⟨e1, e2, e3, e4, e5⟩, rfl, rfl⟩
  have h2 := ACalls.frame (H := H) [id] h1 (by simp) rfl (by simp [AV.ltL, AV.lt]) (by simp [ltH, AObj.lt, AV.ltL, AV.lt])
    (fun k X hX => by
      cases k with
      | zero => simp at hX; subst hX; simpa [at_, AObj.ren, AV.renL, AV.ren] using hH
      | succ k => simp at hX)
  rw [show AV.renL [id] [.mp 0 0 0, I days, I orders] = [.mp id 0 0, I days, I orders] by simp [AV.renL, AV.ren, at_]] at h2
  refine h2.mono fun r H' hx => ?_
  obtain ⟨r0, H1, ⟨w', a, b, c, d, cs, os, ⟨e1, e2, e3, e4, e5⟩, rfl, rfl⟩, _, rfl, rfl⟩ := hx
  have h3 := h w' a b c d cs os e1 e2 e3 e4 e5
  obtain ⟨cc, hcc⟩ : ∃ c, c = cs.flatMap spC := ⟨_, rfl⟩
  have hcn : ∀ ι, AV.renL ι cc = cc := fun ι => AV.renL_nid (by rw [hcc]; exact nidL_flat (fun _ => rfl) _)
  rw [← hcc] at h3 ⊢
  simpa [merge, updL, AObj.ren, AV.renL, AV.ren, more, at_, hcn, List.range'] using h3
/-- a freight whose days may be written to -/
def eFrM : List AV → AHeap → Option PT
  | [.mp id 0 0, .lit (.int .i64 days), .lit (.int .i64 orders)], H => match H[id]? with
    | some (.own 0 [.lit (.int .u64 _)]) => some fun K => ((1 ≤ days ∧ days ≤ 200) ∧ 1 ≤ orders ∧ orders ≤ 6) ∧
        ∀ (w' a b c d : Int) (cs : List (Int × Int)) (os : List Ord) n cc ys, checkF ⟨(a, b), (c, d), cs, os⟩ = 0 → iLen cs.length ≤ days → iLen os.length ≤ orders → (∀ x ∈ cs, x.2 ≤ 9) → (∀ o ∈ os, o.u ≤ 20 ∧ o.s ≤ 30) → n = cs.length → cc = cs.flatMap spC → ys = os.map orV →
          K (.agg [I a, I b, I c, I d, .ms 2 (H.length + 2) n 0 n, .vs 4 ys]) (H.set id (.own 0 [U w']) ++ [.own 0 [], .own 0 [], .own n cc, .gone])
    | _ => none
  | _, _ => none
theorem eFrM_ok : ∀ args H pt, eFrM args H = some pt → ∀ (Kk : AV → AHeap → Prop), pt Kk → ACalls Try.prog 9 args H Kk := by
  intro args H pt h Kk hk
  unfold eFrM at h
  split at h
  · split at h
    · rename_i hH
      cases h
      obtain ⟨⟨h1, h2⟩, h4⟩ := hk
      exact d9m _ _ h1 h2 _ _ H hH fun w' a b c d cs os e1 e2 e3 e4 e5 => h4 w' a b c d cs os _ _ _ e1 e2 e3 e4 e5 rfl rfl rfl
    · cases h
  · cases h
end Go.Sas
