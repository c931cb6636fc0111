/-
Probe: a course made of numbers that is written to afterwards: contract.
Conditions: none.
-/
import Derived.Test.YtajegdbljldakaaQR45
import Derived.Test.YtajegdbljldakaaQRC
set_option linter.unusedVariables false
set_option linter.unusedSimpArgs false
namespace Go.Sas
open Go.Proofs
set_option maxRecDepth 100000
theorem Frees.weak {m : Nat} {Kk : AV → AHeap → Prop} {r : AV} {H : AHeap} (q : Nat) {gg : Nat} {cs : List AV} (hX : H[q]? = some (.own gg cs)) (h : Frees m Kk r (H.set q (.own gg []))) : Frees m Kk r H :=
  fun st0 w0 st w v hm he hH hr => h st0 w0 st w v hm he (hH.weak hX) hr
/-- the rows of a course whose objects lie one behind another -/
def rowsM (b N : Nat) : List AV := [.ms 1 b N 0 N, .ms 1 (b + 1) N 0 N, .ms 1 (b + 2) N 0 N, .ms 1 (b + 3) N 0 N]
def rowM (b N i : Nat) : List AV := (List.range i).map fun q => .ms 1 (b + q) N 0 N
def objM (N : Nat) (RW : Nat → List AV) (i : Nat) : AHeap := (List.range i).map fun q => .own N (RW q)
theorem rowM_s {b N i : Nat} : rowM b N (i + 1) = rowM b N i ++ [.ms 1 (b + i) N 0 N] := by simp [rowM, List.range_succ]
set_option maxHeartbeats 8000000 in
theorem d31b (rs : List Rch) (a b c first : Int) (w : Int) (ho : RoadOk rs) (hf : 0 ≤ first ∧ first ≤ 100) {Kk : AV → AHeap → Prop}
    (h : ∀ w' T, CrsOk (plc rs) T 4 → Kk (.ms 1 3 4 0 4) [.own 0 [U w'], .own 0 [], .gone, .own 4 [.ms 1 4 (plc rs).length 0 (plc rs).length, .ms 1 5 (plc rs).length 0 (plc rs).length, .ms 1 6 (plc rs).length 0 (plc rs).length, .ms 1 7 (plc rs).length 0 (plc rs).length], .own (plc rs).length (crsRow T (plc rs).length 0), .own (plc rs).length (crsRow T (plc rs).length 1), .own (plc rs).length (crsRow T (plc rs).length 2), .own (plc rs).length (crsRow T (plc rs).length 3)]) :
    ACalls Try.prog 31 [.mp 0 0 0, svV (.vs 5 (rs.map rcV)) a b c, I first, I 4] [.own 0 [U w]] Kk := by
  refine ACalls.frees ?_
  have hnr := nidL_rc rs
  obtain ⟨xs, hxs⟩ : ∃ xs, xs = rs.map rcV := ⟨_, rfl⟩
  rw [← hxs]
  have hRl := ho.ilen
  have hPl := ho.plc
  obtain ⟨R, hR⟩ : ∃ R, R = plc rs := ⟨_, rfl⟩
  rw [← hR] at h hRl hPl
  obtain ⟨N, hN⟩ : ∃ N, N = R.length := ⟨_, rfl⟩
  rw [← hN] at hRl h
  have hN1 : 1 ≤ N := by rw [hN]; exact hPl.pos
  have hN2 : N ≤ 1000 := by rw [hN]; exact hPl.le
  obtain ⟨A, hA⟩ : ∃ A, A = std := ⟨_, rfl⟩
  have hsg : ∀ g, A.sg g g := by subst hA; exact fun _ => rfl
  obtain ⟨F, hF⟩ : ∃ F, F = Frees 1 Kk := ⟨_, rfl⟩
  rw [show Frees [AObj.own 0 [U w]].length Kk = F from hF.symm]
  refine go31m rfl (SGo_run hA ⟨[], [], (46, ePlaces) :: [], ed2⟩ (.cons (ePlaces_ok p46) .nil) ed2_ok 200 fun T TD hT hTD => ?_)
  cbv
  refine Exists.intro rs (And.intro hxs (And.intro (by have := ho.n2; omega) (And.intro ho.all ?_)))
  intro nn hnn; cbv
  have hnn2 : nn = iLen N := hnn.trans hRl.symm
  have hnb : 1 ≤ nn ∧ nn ≤ 1000 := by rw [hnn2]; unfold iLen; omega
  refine Exists.intro () (And.intro (by omega) ?_)
  rintro w1 _ ⟨d0, rfl, hd1, hd2⟩
  cbv
  rw [hT]
  refine AGo_nilms 10 5 rfl ?_
  refine AGo_whileE (σ := Int × Int × List Lk) [0, 2, 3, 5, 9] (fun s => s.2.1.toNat) (fun s => 0 ≤ s.2.1 ∧ s.2.1 + iLen s.2.2.length ≤ 4 ∧ ∀ x ∈ s.2.2, AncOk N first 4 x) (fun s => [(10, .ms 5 2 s.2.2.length 0 s.2.2.length), (11, I s.2.1)])
    (fun s => [.own 0 [U s.1], .own 0 [.vs 5 xs, I a, I b, I c], .own s.2.2.length (s.2.2.flatMap lkC)]) (w1, d0, []) ⟨by dsimp only; omega, by show d0 + iLen 0 ≤ 4; unfold iLen; omega, by simp⟩ ⟨rfl, rfl, trivial⟩ (.inl rfl) fun s hP Bk hB => ?_
  obtain ⟨w2, d, l⟩ := s
  obtain ⟨hP1, hP2, hP3⟩ := hP
  dsimp only at hP1 hP2 hP3 ⊢
  obtain ⟨n, hn⟩ : ∃ n, n = l.length := ⟨_, rfl⟩
  obtain ⟨cc, hcc⟩ : ∃ c, c = l.flatMap lkC := ⟨_, rfl⟩
  rw [← hn, ← hcc]
  rw [← hn] at hP2
  have hn4 : n ≤ 4 := by unfold iLen at hP2; omega
  have hd4 : d ≤ 4 := by unfold iLen at hP2; omega
  have hcl : cc.length = n * 5 := by rw [hcc, hn, len_flat (k := 5) (fun _ => rfl)]
  have hgt : A.lt 0 d = decide (0 < d) := by subst hA; rfl
  refine SGo_run hA ⟨[2], [], [], ed2⟩ .nil ed2_ok 200 fun T TD hT hTD => ?_
  cbv
  split <;> cbv
  · rename_i hz
    have hz : 0 < d := by have hz := hgt.symm.trans hz; simpa using hz
    refine Exists.intro () (And.intro (by show nn ≤ _; omega) ?_)
    rintro w3 _ ⟨q1, rfl, hq1⟩
    cbv
    refine Exists.intro () (And.intro (by omega) ?_)
    rintro w4 _ ⟨q2, rfl, hq2⟩
    cbv
    refine Exists.intro () (And.intro (by omega) ?_)
    rintro w5 _ ⟨q3, rfl, hq3⟩
    cbv
    refine Exists.intro () (And.intro ⟨by simp, by simp, by exact AllI_lits (l := [0, q3, 3000])⟩ ?_)
    rintro w6 _ ⟨q4, rfl, hq4⟩
    simp at hq4
    cbv
    have hadd : A.add .i64 first q2 = first + q2 := by subst hA; exact iAdd_id (by omega) (by omega)
    have hsub : A.sub .i64 d 1 = d - 1 := by subst hA; exact iSub_id (by omega) (by omega)
    obtain ⟨cc2, hcc2⟩ : ∃ x, x = cc ++ lkC ⟨0, q1, A.add .i64 first q2, q4, 0⟩ := ⟨_, rfl⟩
    refine And.intro (hsg _) (Exists.intro cc2 (Exists.intro (n + 1) (And.intro (by subst hA; rw [hcc2]; exact app_one hcl rfl (by omega)) (And.intro rfl ?_))))
    cbv
    rw [hadd] at hcc2
    refine hB (w6, d - 1, l ++ [⟨0, q1, first + q2, q4, 0⟩]) _ _ (by dsimp only; omega) ⟨by dsimp only; omega, by dsimp only; rw [List.length_append, ← hn]; unfold iLen at hP2 ⊢; simp; omega, ?_⟩ ?_ ⟨rfl, rfl, rfl, rfl, rfl, trivial⟩ (.inl (by dsimp only; rw [hcc2, hcc, List.flatMap_append, List.length_append, ← hn]; rfl))
    · intro x hx
      rcases List.mem_append.1 hx with hx | hx
      · exact hP3 x hx
      · simp only [List.mem_singleton] at hx; subst hx
        have hq1b : 0 ≤ q1 ∧ q1 < (N : Int) := by have : nn = (N : Int) := hnn2; omega
        have hq2b : 0 ≤ q2 ∧ q2 ≤ (4 : Int) := by omega
        exact ⟨hq1b, by dsimp only; omega, by dsimp only; omega, by dsimp only; omega, rfl, rfl⟩
    · rw [List.length_append, ← hn]; exact ⟨rfl, congrArg I hsub, trivial⟩
  · rename_i hz
    clear hB
    have hE : Elems 5 (l.map lkV) cc := by rw [hcc]; exact Elems_map (f := lkV) (g := lkC) (sz := 5) (fun _ => rfl) (fun _ => rfl) (fun _ => rfl) l
    obtain ⟨ls, hls⟩ : ∃ x, x = l.map lkV := ⟨_, rfl⟩
    rw [← hls] at hE
    have hll : l.length ≤ 4 := by rw [← hn]; exact hn4
    have hancs : ∀ x ∈ l, (0 ≤ x.p ∧ x.p < R.length) ∧ (0 ≤ x.h ∧ x.h ≤ 10000) ∧ 0 ≤ x.lo := fun x hx => by
      obtain ⟨h1, h2, h3, h4, h5, h6⟩ := hP3 x hx
      exact ⟨by rw [← hN]; exact h1, by omega, h3⟩
    obtain ⟨TT, hTT⟩ : ∃ T : Nat → Nat → Int, T = fun i p => ancT R l (first + iLen i) p := ⟨_, rfl⟩
    have hcrs : CrsOk R TT 4 := by rw [hTT]; exact ancT_crs hPl hf (by omega) hancs
    rw [hT]
    refine AGo_frzS 10 (id := 2) (g := n) (sz := 5) (n := n) (xs := ls) (cs := cc) rfl rfl (by rw [hls, hn]; simp) hE ?_
    refine AGo_nilms 12 1 rfl ?_
    obtain ⟨RO, hRO⟩ : ∃ f : Nat → List AV, f = fun i => crsRow TT N i := ⟨_, rfl⟩
    have hxl : ∀ n, AV.ltL n xs := fun n => AV.ltL_nid (by rw [hxs]; exact hnr)
    have hROn : ∀ i n, AV.ltL n (RO i) := fun i n => AV.ltL_nid (by rw [hRO]; exact nidL_row TT N i)
    refine AGo_whileE (σ := Nat) [2, 3, 5, 9, 10] (fun i => 4 - i) (fun i => i ≤ 4) (fun i => [(12, .ms 1 3 i 0 i), (13, I (first + iLen i))])
      (fun i => [.own 0 [U w2], .own 0 [.vs 5 xs, I a, I b, I c], .gone, .own i (rowM 4 N i)] ++ objM N RO i) 0 (Nat.zero_le _) ⟨rfl, congrArg I (by unfold iLen; omega), trivial⟩ (.inl rfl) fun i hi Bk hB => ?_
    obtain ⟨th, hth⟩ : ∃ x, x = first + iLen i := ⟨_, rfl⟩
    rw [← hth]
    have hadd0 : A.add .i64 first 4 = first + 4 := by subst hA; exact iAdd_id (by omega) (by omega)
    have hlt : A.lt th (A.add .i64 first 4) = decide (i < 4) := by rw [hadd0, hth]; subst hA; simp only [std, iLt]; rw [decide_eq_decide]; unfold iLen; omega
    have hthb : 0 ≤ th ∧ th ≤ 10000 := by rw [hth]; unfold iLen; omega
    have haddt : A.add .i64 th 1 = first + iLen (i + 1) := by subst hA; show iAdd .i64 th 1 = _; rw [iAdd_id (by omega) (by omega), hth]; unfold iLen; omega
    obtain ⟨RW, hRW⟩ : ∃ f : Nat → List AV, f = fun p => crsRow TT p i := ⟨_, rfl⟩
    have hRWs : ∀ p, RW (p + 1) = RW p ++ [I (TT i p)] := fun p => by rw [hRW]; simp [crsRow, List.range_succ]
    have hRWl : ∀ p, (RW p).length = p * 1 := fun p => by rw [hRW]; simp [crsRow]
    have hRWN : RW N = RO i := by rw [hRW, hRO]
    have hmT : ∀ p, l.foldl (ancG R th p) 3000 = TT i p := fun p => by rw [hTT, hth]; rfl
    by_cases h4 : i = 4
    · subst h4
      refine SGo_run hA ⟨[], [], [], []⟩ .nil .nil 200 fun T TD hT hTD => ?_
      cbv
      have hz2 : A.lt th (A.add .i64 first 4) = false := by rw [hlt]; rfl
      split <;> cbv
      · rename_i hz3; exact Bool.noConfusion (hz3.symm.trans hz2)
      · rw [hF]
        refine Frees.weak 1 rfl (Frees.now ?_)
        have := h w2 TT hcrs
        rw [hRO]
        exact this
    have h4 : i = 0 ∨ i = 1 ∨ i = 2 ∨ i = 3 := by omega
    rcases h4 with rfl | rfl | rfl | rfl
    · refine SGo_run hA ⟨[], [], [], []⟩ .nil .nil 200 fun T TD hT hTD => ?_
      cbv
      have hz2 : A.lt th (A.add .i64 first 4) = true := by rw [hlt]; rfl
      split <;> cbv
      · rw [hT]
        refine AGo_nilms 14 1 rfl ?_
        refine AGo_whileE (σ := Nat) [2, 3, 5, 9, 10, 12, 13] (fun p => N - p) (fun p => p ≤ N) (fun p => [(14, .ms 1 4 p 0 p), (15, I (iLen p))])
          (fun p => .own 0 [U w2] :: .own 0 [.vs 5 xs, I a, I b, I c] :: .gone :: .own 0 (rowM 4 N 0) :: (objM N RO 0 ++ [.own p (RW p)])) 0 (Nat.zero_le _) ⟨rfl, rfl, trivial⟩ (.inl (by rw [hRW]; rfl)) fun p hp Bk2 hB2 => ?_
        obtain ⟨rw0, hrw⟩ : ∃ x, x = RW p := ⟨_, rfl⟩
        obtain ⟨ip, hip⟩ : ∃ x, x = iLen p := ⟨_, rfl⟩
        rw [← hrw, ← hip]
        have hlt2 : A.lt ip nn = decide (p < N) := by rw [hip, hnn2]; subst hA; simp only [std, iLt]; rw [decide_eq_decide]; unfold iLen; omega
        refine SGo_run hA ⟨[], [1000091], [], []⟩ .nil .nil 200 fun T TD hT hTD => ?_
        cbv
        split <;> cbv
        · rename_i hz2
          have hpN : p < N := by have hz := hlt2.symm.trans hz2; simpa using hz
          have hipb : 0 ≤ ip ∧ ip < sumLg rs := by rw [← hRl, hip]; unfold iLen; omega
          have hipt : ip.toNat = p := by rw [hip]; rfl
          have haddp : A.add .i64 ip 1 = iLen (p + 1) := by subst hA; exact add_one (N := 1000) hip (by omega) (by omega)
          rw [hT]
          refine AGo_whileE (σ := Nat) [2, 3, 5, 9, 10, 12, 13, 14, 15] (fun k => l.length - k) (fun k => k ≤ l.length) (fun k => [(16, I ((l.take k).foldl (ancG R th p) 3000)), (17, I (iLen k))])
            (fun k => .own 0 [U w2] :: .own 0 [.vs 5 xs, I a, I b, I c] :: .gone :: .own 0 (rowM 4 N 0) :: (objM N RO 0 ++ [.own p rw0])) 0 (Nat.zero_le _) ⟨rfl, rfl, trivial⟩ (.inl rfl) fun k hk Bk3 hB3 => ?_
          obtain ⟨m, hm⟩ : ∃ x, x = (l.take k).foldl (ancG R th p) 3000 := ⟨_, rfl⟩
          obtain ⟨ik, hik⟩ : ∃ x, x = iLen k := ⟨_, rfl⟩
          rw [← hm, ← hik]
          have hlt3 : A.lt ik (A.vlen ls) = decide (k < l.length) := by subst hA; exact lt_len (by simp [hls]) hik
          refine SGo_run hA ⟨[4], [], (68, eRise) :: [], []⟩ (.cons (eRise_ok p68) .nil) .nil 200 fun T TD hT hTD => ?_
          cbv
          split <;> cbv
          · rename_i hz3
            have hkl : k < l.length := by have hz := hlt3.symm.trans hz3; simpa using hz
            obtain ⟨⟨k', q', g', u', v'⟩, hx3⟩ : ∃ x, l[k]? = some x := ⟨_, List.getElem?_eq_getElem hkl⟩
            have hiy : A.ix 5 5 ls ik (lkC ⟨k', q', g', u', v'⟩) := by subst hA; exact ix_map hls hik hx3 rfl
            obtain ⟨e1, e2, e3⟩ := hancs _ (List.mem_of_getElem? hx3)
            obtain ⟨_, _, _, e4, _, _⟩ := hP3 _ (List.mem_of_getElem? hx3)
            dsimp only at e1 e2 e3 e4
            have hqb : 0 ≤ q' ∧ q' < sumLg rs := by rw [← hRl, hN]; unfold iLen; omega
            have hst := foldl_take_succ (f := ancG R th p) (b := 3000) hx3
            rw [← hm] at hst
            have hadk : A.add .i64 ik 1 = iLen (k + 1) := by subst hA; exact add_one (N := 1000) hik (by omega) (by omega)
            repeat (refine Exists.intro _ (And.intro hiy ?_); cbv)
            refine Exists.intro rs (And.intro hxs (And.intro ho (And.intro hipb (And.intro hthb (And.intro hqb (And.intro e2 ?_))))))
            intro r hr; cbv
            rw [← hR, hipt] at hr
            have hqn : q'.toNat < R.length := by have hq5 := hqb.2; rw [← hRl] at hq5; unfold iLen at hq5; omega
            have hrb := riseS_bnd hPl (a := p) (b := q'.toNat) (t := th - g') (by omega) (by omega) (by omega)
            rw [← hr] at hrb
            have hmn : A.min m (A.add .i64 u' r) = (l.take (k + 1)).foldl (ancG R th p) 3000 := by
              rw [hst]; unfold ancG; dsimp only; rw [← hr]
              subst hA; simp only [std, iMin_eq]; rw [iAdd_id (by omega) (by omega)]
            exact hB3 (k + 1) _ _ (by omega) (by omega) ⟨congrArg I hmn, congrArg I hadk, trivial⟩ ⟨rfl, rfl, rfl, rfl, rfl, rfl, rfl, rfl, rfl, trivial⟩ (.inl rfl)
          · rename_i hz3
            have hkl : ¬ k < l.length := by have hz := hlt3.symm.trans hz3; simpa using hz
            have hmT2 : m = TT 0 p := by rw [hm, List.take_of_length_le (by omega)]; exact hmT p
            clear hm
            obtain ⟨rw1, hrw1⟩ : ∃ x, x = RW (p + 1) := ⟨_, rfl⟩
            have happ : A.app 1 1 8 rw0 0 p [I m] rw1 (p + 1) := by subst hA; rw [hrw1, hRWs, ← hrw, ← hmT2]; exact app_one (by rw [hrw]; exact hRWl p) rfl (by omega)
            refine And.intro (hsg _) (Exists.intro rw1 (Exists.intro (p + 1) (And.intro happ (And.intro rfl ?_))))
            cbv
            exact hB2 (p + 1) _ _ (by omega) (by omega) ⟨rfl, congrArg I haddp, trivial⟩ ⟨rfl, rfl, rfl, rfl, rfl, rfl, rfl, trivial⟩ (.inl (by rw [hrw1]; rfl))
        · rename_i hz2
          have hpN : N = p := by have hz := hlt2.symm.trans hz2; have : ¬ p < N := by simpa using hz
                                 omega
          have hrN : rw0 = RO 0 := by rw [hrw, ← hpN]; exact hRWN
          subst hpN
          rw [hrN]
          rw [hT]
          refine SGo_run hA ⟨[], [], [], []⟩ .nil .nil 200 fun T TD hT hTD => ?_
          cbv
          exact hB (0 + 1) _ _ (by omega) (by omega) ⟨rfl, congrArg I haddt, trivial⟩ ⟨rfl, rfl, rfl, rfl, rfl, trivial⟩ (.inr ⟨⟨[.own 0 [.ms 1 4 N 0 N]], rfl⟩, by simp [rowM, objM], by simp [ltG, AV.lt, AV.ltL, keepS, look, gset, rowM, objM], by simp [ltH, AObj.lt, AV.lt, AV.ltL, hxl, hROn, rowM, objM, List.range_succ]⟩)
      · rename_i hz3; exact Bool.noConfusion (hz3.symm.trans hz2)
    · refine SGo_run hA ⟨[], [], [], []⟩ .nil .nil 200 fun T TD hT hTD => ?_
      cbv
      have hz2 : A.lt th (A.add .i64 first 4) = true := by rw [hlt]; rfl
      split <;> cbv
      · rw [hT]
        refine AGo_nilms 14 1 rfl ?_
        refine AGo_whileE (σ := Nat) [2, 3, 5, 9, 10, 12, 13] (fun p => N - p) (fun p => p ≤ N) (fun p => [(14, .ms 1 5 p 0 p), (15, I (iLen p))])
          (fun p => .own 0 [U w2] :: .own 0 [.vs 5 xs, I a, I b, I c] :: .gone :: .own 1 (rowM 4 N 1) :: (objM N RO 1 ++ [.own p (RW p)])) 0 (Nat.zero_le _) ⟨rfl, rfl, trivial⟩ (.inl (by rw [hRW]; rfl)) fun p hp Bk2 hB2 => ?_
        obtain ⟨rw0, hrw⟩ : ∃ x, x = RW p := ⟨_, rfl⟩
        obtain ⟨ip, hip⟩ : ∃ x, x = iLen p := ⟨_, rfl⟩
        rw [← hrw, ← hip]
        have hlt2 : A.lt ip nn = decide (p < N) := by rw [hip, hnn2]; subst hA; simp only [std, iLt]; rw [decide_eq_decide]; unfold iLen; omega
        refine SGo_run hA ⟨[], [1000091], [], []⟩ .nil .nil 200 fun T TD hT hTD => ?_
        cbv
        split <;> cbv
        · rename_i hz2
          have hpN : p < N := by have hz := hlt2.symm.trans hz2; simpa using hz
          have hipb : 0 ≤ ip ∧ ip < sumLg rs := by rw [← hRl, hip]; unfold iLen; omega
          have hipt : ip.toNat = p := by rw [hip]; rfl
          have haddp : A.add .i64 ip 1 = iLen (p + 1) := by subst hA; exact add_one (N := 1000) hip (by omega) (by omega)
          rw [hT]
          refine AGo_whileE (σ := Nat) [2, 3, 5, 9, 10, 12, 13, 14, 15] (fun k => l.length - k) (fun k => k ≤ l.length) (fun k => [(16, I ((l.take k).foldl (ancG R th p) 3000)), (17, I (iLen k))])
            (fun k => .own 0 [U w2] :: .own 0 [.vs 5 xs, I a, I b, I c] :: .gone :: .own 1 (rowM 4 N 1) :: (objM N RO 1 ++ [.own p rw0])) 0 (Nat.zero_le _) ⟨rfl, rfl, trivial⟩ (.inl rfl) fun k hk Bk3 hB3 => ?_
          obtain ⟨m, hm⟩ : ∃ x, x = (l.take k).foldl (ancG R th p) 3000 := ⟨_, rfl⟩
          obtain ⟨ik, hik⟩ : ∃ x, x = iLen k := ⟨_, rfl⟩
          rw [← hm, ← hik]
          have hlt3 : A.lt ik (A.vlen ls) = decide (k < l.length) := by subst hA; exact lt_len (by simp [hls]) hik
          refine SGo_run hA ⟨[5], [], (68, eRise) :: [], []⟩ (.cons (eRise_ok p68) .nil) .nil 200 fun T TD hT hTD => ?_
          cbv
          split <;> cbv
          · rename_i hz3
            have hkl : k < l.length := by have hz := hlt3.symm.trans hz3; simpa using hz
            obtain ⟨⟨k', q', g', u', v'⟩, hx3⟩ : ∃ x, l[k]? = some x := ⟨_, List.getElem?_eq_getElem hkl⟩
            have hiy : A.ix 5 5 ls ik (lkC ⟨k', q', g', u', v'⟩) := by subst hA; exact ix_map hls hik hx3 rfl
            obtain ⟨e1, e2, e3⟩ := hancs _ (List.mem_of_getElem? hx3)
            obtain ⟨_, _, _, e4, _, _⟩ := hP3 _ (List.mem_of_getElem? hx3)
            dsimp only at e1 e2 e3 e4
            have hqb : 0 ≤ q' ∧ q' < sumLg rs := by rw [← hRl, hN]; unfold iLen; omega
            have hst := foldl_take_succ (f := ancG R th p) (b := 3000) hx3
            rw [← hm] at hst
            have hadk : A.add .i64 ik 1 = iLen (k + 1) := by subst hA; exact add_one (N := 1000) hik (by omega) (by omega)
            repeat (refine Exists.intro _ (And.intro hiy ?_); cbv)
            refine Exists.intro rs (And.intro hxs (And.intro ho (And.intro hipb (And.intro hthb (And.intro hqb (And.intro e2 ?_))))))
            intro r hr; cbv
            rw [← hR, hipt] at hr
            have hqn : q'.toNat < R.length := by have hq5 := hqb.2; rw [← hRl] at hq5; unfold iLen at hq5; omega
            have hrb := riseS_bnd hPl (a := p) (b := q'.toNat) (t := th - g') (by omega) (by omega) (by omega)
            rw [← hr] at hrb
            have hmn : A.min m (A.add .i64 u' r) = (l.take (k + 1)).foldl (ancG R th p) 3000 := by
              rw [hst]; unfold ancG; dsimp only; rw [← hr]
              subst hA; simp only [std, iMin_eq]; rw [iAdd_id (by omega) (by omega)]
            exact hB3 (k + 1) _ _ (by omega) (by omega) ⟨congrArg I hmn, congrArg I hadk, trivial⟩ ⟨rfl, rfl, rfl, rfl, rfl, rfl, rfl, rfl, rfl, trivial⟩ (.inl rfl)
          · rename_i hz3
            have hkl : ¬ k < l.length := by have hz := hlt3.symm.trans hz3; simpa using hz
            have hmT2 : m = TT 1 p := by rw [hm, List.take_of_length_le (by omega)]; exact hmT p
            clear hm
            obtain ⟨rw1, hrw1⟩ : ∃ x, x = RW (p + 1) := ⟨_, rfl⟩
            have happ : A.app 1 1 8 rw0 0 p [I m] rw1 (p + 1) := by subst hA; rw [hrw1, hRWs, ← hrw, ← hmT2]; exact app_one (by rw [hrw]; exact hRWl p) rfl (by omega)
            refine And.intro (hsg _) (Exists.intro rw1 (Exists.intro (p + 1) (And.intro happ (And.intro rfl ?_))))
            cbv
            exact hB2 (p + 1) _ _ (by omega) (by omega) ⟨rfl, congrArg I haddp, trivial⟩ ⟨rfl, rfl, rfl, rfl, rfl, rfl, rfl, trivial⟩ (.inl (by rw [hrw1]; rfl))
        · rename_i hz2
          have hpN : N = p := by have hz := hlt2.symm.trans hz2; have : ¬ p < N := by simpa using hz
                                 omega
          have hrN : rw0 = RO 1 := by rw [hrw, ← hpN]; exact hRWN
          subst hpN
          rw [hrN]
          rw [hT]
          refine SGo_run hA ⟨[], [], [], []⟩ .nil .nil 200 fun T TD hT hTD => ?_
          cbv
          exact hB (1 + 1) _ _ (by omega) (by omega) ⟨rfl, congrArg I haddt, trivial⟩ ⟨rfl, rfl, rfl, rfl, rfl, trivial⟩ (.inr ⟨⟨[.own 0 [.ms 1 5 N 0 N]], rfl⟩, by simp [rowM, objM], by simp [ltG, AV.lt, AV.ltL, keepS, look, gset, rowM, objM], by simp [ltH, AObj.lt, AV.lt, AV.ltL, hxl, hROn, rowM, objM, List.range_succ]⟩)
      · rename_i hz3; exact Bool.noConfusion (hz3.symm.trans hz2)
    · refine SGo_run hA ⟨[], [], [], []⟩ .nil .nil 200 fun T TD hT hTD => ?_
      cbv
      have hz2 : A.lt th (A.add .i64 first 4) = true := by rw [hlt]; rfl
      split <;> cbv
      · rw [hT]
        refine AGo_nilms 14 1 rfl ?_
        refine AGo_whileE (σ := Nat) [2, 3, 5, 9, 10, 12, 13] (fun p => N - p) (fun p => p ≤ N) (fun p => [(14, .ms 1 6 p 0 p), (15, I (iLen p))])
          (fun p => .own 0 [U w2] :: .own 0 [.vs 5 xs, I a, I b, I c] :: .gone :: .own 2 (rowM 4 N 2) :: (objM N RO 2 ++ [.own p (RW p)])) 0 (Nat.zero_le _) ⟨rfl, rfl, trivial⟩ (.inl (by rw [hRW]; rfl)) fun p hp Bk2 hB2 => ?_
        obtain ⟨rw0, hrw⟩ : ∃ x, x = RW p := ⟨_, rfl⟩
        obtain ⟨ip, hip⟩ : ∃ x, x = iLen p := ⟨_, rfl⟩
        rw [← hrw, ← hip]
        have hlt2 : A.lt ip nn = decide (p < N) := by rw [hip, hnn2]; subst hA; simp only [std, iLt]; rw [decide_eq_decide]; unfold iLen; omega
        refine SGo_run hA ⟨[], [1000091], [], []⟩ .nil .nil 200 fun T TD hT hTD => ?_
        cbv
        split <;> cbv
        · rename_i hz2
          have hpN : p < N := by have hz := hlt2.symm.trans hz2; simpa using hz
          have hipb : 0 ≤ ip ∧ ip < sumLg rs := by rw [← hRl, hip]; unfold iLen; omega
          have hipt : ip.toNat = p := by rw [hip]; rfl
          have haddp : A.add .i64 ip 1 = iLen (p + 1) := by subst hA; exact add_one (N := 1000) hip (by omega) (by omega)
          rw [hT]
          refine AGo_whileE (σ := Nat) [2, 3, 5, 9, 10, 12, 13, 14, 15] (fun k => l.length - k) (fun k => k ≤ l.length) (fun k => [(16, I ((l.take k).foldl (ancG R th p) 3000)), (17, I (iLen k))])
            (fun k => .own 0 [U w2] :: .own 0 [.vs 5 xs, I a, I b, I c] :: .gone :: .own 2 (rowM 4 N 2) :: (objM N RO 2 ++ [.own p rw0])) 0 (Nat.zero_le _) ⟨rfl, rfl, trivial⟩ (.inl rfl) fun k hk Bk3 hB3 => ?_
          obtain ⟨m, hm⟩ : ∃ x, x = (l.take k).foldl (ancG R th p) 3000 := ⟨_, rfl⟩
          obtain ⟨ik, hik⟩ : ∃ x, x = iLen k := ⟨_, rfl⟩
          rw [← hm, ← hik]
          have hlt3 : A.lt ik (A.vlen ls) = decide (k < l.length) := by subst hA; exact lt_len (by simp [hls]) hik
          refine SGo_run hA ⟨[6], [], (68, eRise) :: [], []⟩ (.cons (eRise_ok p68) .nil) .nil 200 fun T TD hT hTD => ?_
          cbv
          split <;> cbv
          · rename_i hz3
            have hkl : k < l.length := by have hz := hlt3.symm.trans hz3; simpa using hz
            obtain ⟨⟨k', q', g', u', v'⟩, hx3⟩ : ∃ x, l[k]? = some x := ⟨_, List.getElem?_eq_getElem hkl⟩
            have hiy : A.ix 5 5 ls ik (lkC ⟨k', q', g', u', v'⟩) := by subst hA; exact ix_map hls hik hx3 rfl
            obtain ⟨e1, e2, e3⟩ := hancs _ (List.mem_of_getElem? hx3)
            obtain ⟨_, _, _, e4, _, _⟩ := hP3 _ (List.mem_of_getElem? hx3)
            dsimp only at e1 e2 e3 e4
            have hqb : 0 ≤ q' ∧ q' < sumLg rs := by rw [← hRl, hN]; unfold iLen; omega
            have hst := foldl_take_succ (f := ancG R th p) (b := 3000) hx3
            rw [← hm] at hst
            have hadk : A.add .i64 ik 1 = iLen (k + 1) := by subst hA; exact add_one (N := 1000) hik (by omega) (by omega)
            repeat (refine Exists.intro _ (And.intro hiy ?_); cbv)
            refine Exists.intro rs (And.intro hxs (And.intro ho (And.intro hipb (And.intro hthb (And.intro hqb (And.intro e2 ?_))))))
            intro r hr; cbv
            rw [← hR, hipt] at hr
            have hqn : q'.toNat < R.length := by have hq5 := hqb.2; rw [← hRl] at hq5; unfold iLen at hq5; omega
            have hrb := riseS_bnd hPl (a := p) (b := q'.toNat) (t := th - g') (by omega) (by omega) (by omega)
            rw [← hr] at hrb
            have hmn : A.min m (A.add .i64 u' r) = (l.take (k + 1)).foldl (ancG R th p) 3000 := by
              rw [hst]; unfold ancG; dsimp only; rw [← hr]
              subst hA; simp only [std, iMin_eq]; rw [iAdd_id (by omega) (by omega)]
            exact hB3 (k + 1) _ _ (by omega) (by omega) ⟨congrArg I hmn, congrArg I hadk, trivial⟩ ⟨rfl, rfl, rfl, rfl, rfl, rfl, rfl, rfl, rfl, trivial⟩ (.inl rfl)
          · rename_i hz3
            have hkl : ¬ k < l.length := by have hz := hlt3.symm.trans hz3; simpa using hz
            have hmT2 : m = TT 2 p := by rw [hm, List.take_of_length_le (by omega)]; exact hmT p
            clear hm
            obtain ⟨rw1, hrw1⟩ : ∃ x, x = RW (p + 1) := ⟨_, rfl⟩
            have happ : A.app 1 1 8 rw0 0 p [I m] rw1 (p + 1) := by subst hA; rw [hrw1, hRWs, ← hrw, ← hmT2]; exact app_one (by rw [hrw]; exact hRWl p) rfl (by omega)
            refine And.intro (hsg _) (Exists.intro rw1 (Exists.intro (p + 1) (And.intro happ (And.intro rfl ?_))))
            cbv
            exact hB2 (p + 1) _ _ (by omega) (by omega) ⟨rfl, congrArg I haddp, trivial⟩ ⟨rfl, rfl, rfl, rfl, rfl, rfl, rfl, trivial⟩ (.inl (by rw [hrw1]; rfl))
        · rename_i hz2
          have hpN : N = p := by have hz := hlt2.symm.trans hz2; have : ¬ p < N := by simpa using hz
                                 omega
          have hrN : rw0 = RO 2 := by rw [hrw, ← hpN]; exact hRWN
          subst hpN
          rw [hrN]
          rw [hT]
          refine SGo_run hA ⟨[], [], [], []⟩ .nil .nil 200 fun T TD hT hTD => ?_
          cbv
          exact hB (2 + 1) _ _ (by omega) (by omega) ⟨rfl, congrArg I haddt, trivial⟩ ⟨rfl, rfl, rfl, rfl, rfl, trivial⟩ (.inr ⟨⟨[.own 0 [.ms 1 6 N 0 N]], rfl⟩, by simp [rowM, objM], by simp [ltG, AV.lt, AV.ltL, keepS, look, gset, rowM, objM], by simp [ltH, AObj.lt, AV.lt, AV.ltL, hxl, hROn, rowM, objM, List.range_succ]⟩)
      · rename_i hz3; exact Bool.noConfusion (hz3.symm.trans hz2)
    · refine SGo_run hA ⟨[], [], [], []⟩ .nil .nil 200 fun T TD hT hTD => ?_
      cbv
      have hz2 : A.lt th (A.add .i64 first 4) = true := by rw [hlt]; rfl
      split <;> cbv
      · rw [hT]
        refine AGo_nilms 14 1 rfl ?_
        refine AGo_whileE (σ := Nat) [2, 3, 5, 9, 10, 12, 13] (fun p => N - p) (fun p => p ≤ N) (fun p => [(14, .ms 1 7 p 0 p), (15, I (iLen p))])
          (fun p => .own 0 [U w2] :: .own 0 [.vs 5 xs, I a, I b, I c] :: .gone :: .own 3 (rowM 4 N 3) :: (objM N RO 3 ++ [.own p (RW p)])) 0 (Nat.zero_le _) ⟨rfl, rfl, trivial⟩ (.inl (by rw [hRW]; rfl)) fun p hp Bk2 hB2 => ?_
        obtain ⟨rw0, hrw⟩ : ∃ x, x = RW p := ⟨_, rfl⟩
        obtain ⟨ip, hip⟩ : ∃ x, x = iLen p := ⟨_, rfl⟩
        rw [← hrw, ← hip]
        have hlt2 : A.lt ip nn = decide (p < N) := by rw [hip, hnn2]; subst hA; simp only [std, iLt]; rw [decide_eq_decide]; unfold iLen; omega
        refine SGo_run hA ⟨[], [1000091], [], []⟩ .nil .nil 200 fun T TD hT hTD => ?_
        cbv
        split <;> cbv
        · rename_i hz2
          have hpN : p < N := by have hz := hlt2.symm.trans hz2; simpa using hz
          have hipb : 0 ≤ ip ∧ ip < sumLg rs := by rw [← hRl, hip]; unfold iLen; omega
          have hipt : ip.toNat = p := by rw [hip]; rfl
          have haddp : A.add .i64 ip 1 = iLen (p + 1) := by subst hA; exact add_one (N := 1000) hip (by omega) (by omega)
          rw [hT]
          refine AGo_whileE (σ := Nat) [2, 3, 5, 9, 10, 12, 13, 14, 15] (fun k => l.length - k) (fun k => k ≤ l.length) (fun k => [(16, I ((l.take k).foldl (ancG R th p) 3000)), (17, I (iLen k))])
            (fun k => .own 0 [U w2] :: .own 0 [.vs 5 xs, I a, I b, I c] :: .gone :: .own 3 (rowM 4 N 3) :: (objM N RO 3 ++ [.own p rw0])) 0 (Nat.zero_le _) ⟨rfl, rfl, trivial⟩ (.inl rfl) fun k hk Bk3 hB3 => ?_
          obtain ⟨m, hm⟩ : ∃ x, x = (l.take k).foldl (ancG R th p) 3000 := ⟨_, rfl⟩
          obtain ⟨ik, hik⟩ : ∃ x, x = iLen k := ⟨_, rfl⟩
          rw [← hm, ← hik]
          have hlt3 : A.lt ik (A.vlen ls) = decide (k < l.length) := by subst hA; exact lt_len (by simp [hls]) hik
          refine SGo_run hA ⟨[7], [], (68, eRise) :: [], []⟩ (.cons (eRise_ok p68) .nil) .nil 200 fun T TD hT hTD => ?_
          cbv
          split <;> cbv
          · rename_i hz3
            have hkl : k < l.length := by have hz := hlt3.symm.trans hz3; simpa using hz
            obtain ⟨⟨k', q', g', u', v'⟩, hx3⟩ : ∃ x, l[k]? = some x := ⟨_, List.getElem?_eq_getElem hkl⟩
            have hiy : A.ix 5 5 ls ik (lkC ⟨k', q', g', u', v'⟩) := by subst hA; exact ix_map hls hik hx3 rfl
            obtain ⟨e1, e2, e3⟩ := hancs _ (List.mem_of_getElem? hx3)
            obtain ⟨_, _, _, e4, _, _⟩ := hP3 _ (List.mem_of_getElem? hx3)
            dsimp only at e1 e2 e3 e4
            have hqb : 0 ≤ q' ∧ q' < sumLg rs := by rw [← hRl, hN]; unfold iLen; omega
            have hst := foldl_take_succ (f := ancG R th p) (b := 3000) hx3
            rw [← hm] at hst
            have hadk : A.add .i64 ik 1 = iLen (k + 1) := by subst hA; exact add_one (N := 1000) hik (by omega) (by omega)
            repeat (refine Exists.intro _ (And.intro hiy ?_); cbv)
            refine Exists.intro rs (And.intro hxs (And.intro ho (And.intro hipb (And.intro hthb (And.intro hqb (And.intro e2 ?_))))))
            intro r hr; cbv
            rw [← hR, hipt] at hr
            have hqn : q'.toNat < R.length := by have hq5 := hqb.2; rw [← hRl] at hq5; unfold iLen at hq5; omega
            have hrb := riseS_bnd hPl (a := p) (b := q'.toNat) (t := th - g') (by omega) (by omega) (by omega)
            rw [← hr] at hrb
            have hmn : A.min m (A.add .i64 u' r) = (l.take (k + 1)).foldl (ancG R th p) 3000 := by
              rw [hst]; unfold ancG; dsimp only; rw [← hr]
              subst hA; simp only [std, iMin_eq]; rw [iAdd_id (by omega) (by omega)]
            exact hB3 (k + 1) _ _ (by omega) (by omega) ⟨congrArg I hmn, congrArg I hadk, trivial⟩ ⟨rfl, rfl, rfl, rfl, rfl, rfl, rfl, rfl, rfl, trivial⟩ (.inl rfl)
          · rename_i hz3
            have hkl : ¬ k < l.length := by have hz := hlt3.symm.trans hz3; simpa using hz
            have hmT2 : m = TT 3 p := by rw [hm, List.take_of_length_le (by omega)]; exact hmT p
            clear hm
            obtain ⟨rw1, hrw1⟩ : ∃ x, x = RW (p + 1) := ⟨_, rfl⟩
            have happ : A.app 1 1 8 rw0 0 p [I m] rw1 (p + 1) := by subst hA; rw [hrw1, hRWs, ← hrw, ← hmT2]; exact app_one (by rw [hrw]; exact hRWl p) rfl (by omega)
            refine And.intro (hsg _) (Exists.intro rw1 (Exists.intro (p + 1) (And.intro happ (And.intro rfl ?_))))
            cbv
            exact hB2 (p + 1) _ _ (by omega) (by omega) ⟨rfl, congrArg I haddp, trivial⟩ ⟨rfl, rfl, rfl, rfl, rfl, rfl, rfl, trivial⟩ (.inl (by rw [hrw1]; rfl))
        · rename_i hz2
          have hpN : N = p := by have hz := hlt2.symm.trans hz2; have : ¬ p < N := by simpa using hz
                                 omega
          have hrN : rw0 = RO 3 := by rw [hrw, ← hpN]; exact hRWN
          subst hpN
          rw [hrN]
          rw [hT]
          refine SGo_run hA ⟨[], [], [], []⟩ .nil .nil 200 fun T TD hT hTD => ?_
          cbv
          exact hB (3 + 1) _ _ (by omega) (by omega) ⟨rfl, congrArg I haddt, trivial⟩ ⟨rfl, rfl, rfl, rfl, rfl, trivial⟩ (.inr ⟨⟨[.own 0 [.ms 1 7 N 0 N]], rfl⟩, by simp [rowM, objM], by simp [ltG, AV.lt, AV.ltL, keepS, look, gset, rowM, objM], by simp [ltH, AObj.lt, AV.lt, AV.ltL, hxl, hROn, rowM, objM, List.range_succ]⟩)
      · rename_i hz3; exact Bool.noConfusion (hz3.symm.trans hz2)
end Go.Sas
