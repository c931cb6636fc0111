/-
Probe: courses made of numbers: contract.
Probe: looks made of numbers: contract.
Probe: surveys, courses and looks made of numbers, together: contract.
Probe: small contracts for statements: seeds, Has, In, Least.
Conditions: none.
-/
import Derived.Test.YtafplipkiaolmaaPL
import Derived.Test.YtafplipkiaolmaaPO
import Derived.Test.YtafplipkiaolmaaP8
import Derived.Test.YtafplipkiaolmaaPC
set_option linter.unusedVariables false
set_option linter.unusedSimpArgs false
namespace Go.Sas
open Go.Proofs
set_option maxRecDepth 100000
def crsRow (T : Nat → Nat → Int) (n i : Nat) : List AV := ((List.range n).map (T i)).map I
def crsV (T : Nat → Nat → Int) (hours n : Nat) : List AV := (List.range hours).map fun i => .vs 1 (crsRow T n i)
/-- a course made of numbers -/
def CrsQ (R : List Rch) (hours : Nat) (r : AV) : Prop := ∃ (T : Nat → Nat → Int) (xs : List AV), r = .vs 1 xs ∧ xs = crsV T hours R.length ∧ CrsOk R T hours
theorem nidL_crs (T : Nat → Nat → Int) (n i : Nat) : AV.nidL (crsV T n i) = true := nidL_map (fun _ => by simp [AV.nid]) _
def AncOk (N : Nat) (f : Int) (h : Nat) (x : Lk) : Prop := (0 ≤ x.p ∧ x.p < N) ∧ (f ≤ x.h ∧ x.h ≤ f + h) ∧ 0 ≤ x.lo ∧ x.lo ≤ 3000 ∧ x.k = 0 ∧ x.hi = 0
set_option maxHeartbeats 2000000 in
theorem d6 (rs : List Rch) (a b c first : Int) (hours : Nat) (ho : RoadOk rs) (hf : 0 ≤ first ∧ first ≤ 100) (hh : 1 ≤ hours ∧ hours ≤ 100) : Draws Try.prog 6 [svV (.vs 5 (rs.map rcV)) a b c, I first, I (iLen hours)] (CrsQ (plc rs) hours) := by
  have hnr := nidL_rc rs
  refine .of (by simp [AV.nid, AV.nidL, hnr]) (by rintro r ⟨_, _, rfl, rfl, _⟩; simp [AV.nid]) fun w Kk h => ACalls.frees ?_
  obtain ⟨xs, hxs⟩ : ∃ xs, xs = rs.map rcV := ⟨_, rfl⟩
  rw [← hxs]
  have hRl := ho.ilen
  have hPl := ho.plc
  obtain ⟨R, hR⟩ : ∃ R, R = plc rs := ⟨_, rfl⟩
  rw [← hR] at h hRl hPl
  obtain ⟨N, hN⟩ : ∃ N, N = R.length := ⟨_, rfl⟩
  rw [← hN] at hRl
  have hN1 : 1 ≤ N := by rw [hN]; exact hPl.pos
  have hN2 : N ≤ 1000 := by rw [hN]; exact hPl.le
  obtain ⟨ih, hih⟩ : ∃ q, q = iLen hours := ⟨_, rfl⟩
  rw [← hih]
  have hihb : 1 ≤ ih ∧ ih ≤ 100 := by rw [hih]; unfold iLen; omega
  obtain ⟨A, hA⟩ : ∃ A, A = std := ⟨_, rfl⟩
  have hsg : ∀ g, A.sg g g := by subst hA; exact fun _ => rfl
  obtain ⟨F, hF⟩ : ∃ F, F = Frees 1 Kk := ⟨_, rfl⟩
  rw [show Frees [AObj.own 0 [U w]].length Kk = F from hF.symm]
  refine go6 rfl (SGo_run hA ⟨[], [], (20, ePlaces) :: [], ed2⟩ (.cons (ePlaces_ok p20) .nil) ed2_ok 200 fun T TD hT hTD => ?_)
  cbv
  refine Exists.intro rs (And.intro hxs (And.intro (by have := ho.n2; omega) (And.intro ho.all ?_)))
  intro nn hnn; cbv
  have hnn2 : nn = iLen N := hnn.trans hRl.symm
  have hnb : 1 ≤ nn ∧ nn ≤ 1000 := by rw [hnn2]; unfold iLen; omega
  refine Exists.intro () (And.intro (by omega) ?_)
  rintro w1 _ ⟨d0, rfl, hd1, hd2⟩
  cbv
  rw [hT]
  refine AGo_nilms 10 5 rfl ?_
  refine AGo_whileE (σ := Int × Int × List Lk) [0, 2, 3, 5, 9] (fun s => s.2.1.toNat) (fun s => 0 ≤ s.2.1 ∧ s.2.1 + iLen s.2.2.length ≤ 4 ∧ ∀ x ∈ s.2.2, AncOk N first hours x) (fun s => [(10, .ms 5 2 s.2.2.length 0 s.2.2.length), (11, I s.2.1)])
    (fun s => [.own 0 [U s.1], .own 0 [.vs 5 xs, I a, I b, I c], .own s.2.2.length (s.2.2.flatMap lkC)]) (w1, d0, []) ⟨by dsimp only; omega, by show d0 + iLen 0 ≤ 4; unfold iLen; omega, by simp⟩ ⟨rfl, rfl, trivial⟩ (.inl rfl) fun s hP Bk hB => ?_
  obtain ⟨w2, d, l⟩ := s
  obtain ⟨hP1, hP2, hP3⟩ := hP
  dsimp only at hP1 hP2 hP3 ⊢
  obtain ⟨n, hn⟩ : ∃ n, n = l.length := ⟨_, rfl⟩
  obtain ⟨cc, hcc⟩ : ∃ c, c = l.flatMap lkC := ⟨_, rfl⟩
  rw [← hn, ← hcc]
  rw [← hn] at hP2
  have hn4 : n ≤ 4 := by unfold iLen at hP2; omega
  have hd4 : d ≤ 4 := by unfold iLen at hP2; omega
  have hcl : cc.length = n * 5 := by rw [hcc, hn, len_flat (k := 5) (fun _ => rfl)]
  have hgt : A.lt 0 d = decide (0 < d) := by subst hA; rfl
  refine SGo_run hA ⟨[2], [], [], ed2⟩ .nil ed2_ok 200 fun T TD hT hTD => ?_
  cbv
  split <;> cbv
  · rename_i hz
    have hz : 0 < d := by have hz := hgt.symm.trans hz; simpa using hz
    refine Exists.intro () (And.intro (by show nn ≤ _; omega) ?_)
    rintro w3 _ ⟨q1, rfl, hq1⟩
    cbv
    refine Exists.intro () (And.intro (by show ih ≤ _; omega) ?_)
    rintro w4 _ ⟨q2, rfl, hq2⟩
    cbv
    refine Exists.intro () (And.intro (by omega) ?_)
    rintro w5 _ ⟨q3, rfl, hq3⟩
    cbv
    refine Exists.intro () (And.intro ⟨by simp, by simp, by exact AllI_lits (l := [0, q3, 3000])⟩ ?_)
    rintro w6 _ ⟨q4, rfl, hq4⟩
    simp at hq4
    cbv
    have hadd : A.add .i64 first q2 = first + q2 := by subst hA; exact iAdd_id (by omega) (by omega)
    have hsub : A.sub .i64 d 1 = d - 1 := by subst hA; exact iSub_id (by omega) (by omega)
    obtain ⟨cc2, hcc2⟩ : ∃ x, x = cc ++ lkC ⟨0, q1, A.add .i64 first q2, q4, 0⟩ := ⟨_, rfl⟩
    refine And.intro (hsg _) (Exists.intro cc2 (Exists.intro (n + 1) (And.intro (by subst hA; rw [hcc2]; exact app_one hcl rfl (by omega)) (And.intro rfl ?_))))
    cbv
    rw [hadd] at hcc2
    refine hB (w6, d - 1, l ++ [⟨0, q1, first + q2, q4, 0⟩]) _ _ (by dsimp only; omega) ⟨by dsimp only; omega, by dsimp only; rw [List.length_append, ← hn]; unfold iLen at hP2 ⊢; simp; omega, ?_⟩ ?_ ⟨rfl, rfl, rfl, rfl, rfl, trivial⟩ (.inl (by dsimp only; rw [hcc2, hcc, List.flatMap_append, List.length_append, ← hn]; rfl))
    · intro x hx
      rcases List.mem_append.1 hx with hx | hx
      · exact hP3 x hx
      · simp only [List.mem_singleton] at hx; subst hx
        have hq1b : 0 ≤ q1 ∧ q1 < (N : Int) := by have : nn = (N : Int) := hnn2; omega
        have hq2b : 0 ≤ q2 ∧ q2 ≤ (hours : Int) := by have : ih = (hours : Int) := hih; omega
        exact ⟨hq1b, by dsimp only; omega, by dsimp only; omega, by dsimp only; omega, rfl, rfl⟩
    · rw [List.length_append, ← hn]; exact ⟨rfl, congrArg I hsub, trivial⟩
  · rename_i hz
    clear hB
    have hE : Elems 5 (l.map lkV) cc := by rw [hcc]; exact Elems_map (f := lkV) (g := lkC) (sz := 5) (fun _ => rfl) (fun _ => rfl) (fun _ => rfl) l
    obtain ⟨ls, hls⟩ : ∃ x, x = l.map lkV := ⟨_, rfl⟩
    rw [← hls] at hE
    have hll : l.length ≤ 4 := by rw [← hn]; exact hn4
    have hancs : ∀ x ∈ l, (0 ≤ x.p ∧ x.p < R.length) ∧ (0 ≤ x.h ∧ x.h ≤ 10000) ∧ 0 ≤ x.lo := fun x hx => by
      obtain ⟨h1, h2, h3, h4, h5, h6⟩ := hP3 x hx
      exact ⟨by rw [← hN]; exact h1, by omega, h3⟩
    obtain ⟨TT, hTT⟩ : ∃ T : Nat → Nat → Int, T = fun i p => ancT R l (first + iLen i) p := ⟨_, rfl⟩
    have hcrs : CrsOk R TT hours := by rw [hTT]; exact ancT_crs hPl hf hh.2 hancs
    rw [hT]
    refine AGo_frzS 10 (id := 2) (g := n) (sz := 5) (n := n) (xs := ls) (cs := cc) rfl rfl (by rw [hls, hn]; simp) hE ?_
    refine AGo_nilms 12 1 rfl ?_
    obtain ⟨CR, hCR⟩ : ∃ f : Nat → List AV, f = fun i => (List.range i).map fun q => .vs 1 (crsRow TT N q) := ⟨_, rfl⟩
    have hCRs : ∀ i, CR (i + 1) = CR i ++ [.vs 1 (crsRow TT N i)] := fun i => by rw [hCR]; simp [List.range_succ]
    have hCRl : ∀ i, (CR i).length = i * 1 := fun i => by rw [hCR]; simp
    have hxl : ∀ n, AV.ltL n xs := fun n => AV.ltL_nid (by rw [hxs]; exact hnr)
    have hCRn : ∀ i n, AV.ltL n (CR i) := fun i n => AV.ltL_nid (by rw [hCR]; exact nidL_map (fun _ => by simp [AV.nid]) _)
    refine AGo_whileE (σ := Nat) [2, 3, 5, 9, 10] (fun i => hours - i) (fun i => i ≤ hours) (fun i => [(12, .ms 1 3 i 0 i), (13, I (first + iLen i))])
      (fun i => [.own 0 [U w2], .own 0 [.vs 5 xs, I a, I b, I c], .gone, .own i (CR i)]) 0 (Nat.zero_le _) ⟨rfl, congrArg I (by unfold iLen; omega), trivial⟩ (.inl (by rw [hCR]; rfl)) fun i hi Bk hB => ?_
    obtain ⟨cr, hcr⟩ : ∃ x, x = CR i := ⟨_, rfl⟩
    obtain ⟨th, hth⟩ : ∃ x, x = first + iLen i := ⟨_, rfl⟩
    rw [← hcr, ← hth]
    have hadd0 : A.add .i64 first ih = first + ih := by subst hA; exact iAdd_id (by omega) (by omega)
    have hlt : A.lt th (A.add .i64 first ih) = decide (i < hours) := by rw [hadd0, hth, hih]; subst hA; simp only [std, iLt]; rw [decide_eq_decide]; unfold iLen; omega
    refine SGo_run hA ⟨[], [], [], []⟩ .nil .nil 200 fun T TD hT hTD => ?_
    cbv
    split <;> cbv
    · rename_i hz
      have hih2 : i < hours := by have hz := hlt.symm.trans hz; simpa using hz
      have hthb : 0 ≤ th ∧ th ≤ 10000 := by rw [hth]; unfold iLen; omega
      rw [hT]
      refine AGo_nilms 14 1 rfl ?_
      obtain ⟨RW, hRW⟩ : ∃ f : Nat → List AV, f = fun p => crsRow TT p i := ⟨_, rfl⟩
      have hRWs : ∀ p, RW (p + 1) = RW p ++ [I (TT i p)] := fun p => by rw [hRW]; simp [crsRow, List.range_succ]
      have hRWl : ∀ p, (RW p).length = p * 1 := fun p => by rw [hRW]; simp [crsRow]
      refine AGo_whileE (σ := Nat) [2, 3, 5, 9, 10, 12, 13] (fun p => N - p) (fun p => p ≤ N) (fun p => [(14, .ms 1 4 p 0 p), (15, I (iLen p))])
        (fun p => [.own 0 [U w2], .own 0 [.vs 5 xs, I a, I b, I c], .gone, .own i cr, .own p (RW p)]) 0 (Nat.zero_le _) ⟨rfl, rfl, trivial⟩ (.inl (by rw [hRW]; rfl)) fun p hp Bk2 hB2 => ?_
      obtain ⟨rw0, hrw⟩ : ∃ x, x = RW p := ⟨_, rfl⟩
      obtain ⟨ip, hip⟩ : ∃ x, x = iLen p := ⟨_, rfl⟩
      rw [← hrw, ← hip]
      have hlt2 : A.lt ip nn = decide (p < N) := by rw [hip, hnn2]; subst hA; simp only [std, iLt]; rw [decide_eq_decide]; unfold iLen; omega
      refine SGo_run hA ⟨[], [1000091], [], []⟩ .nil .nil 200 fun T TD hT hTD => ?_
      cbv
      split <;> cbv
      · rename_i hz2
        have hpN : p < N := by have hz := hlt2.symm.trans hz2; simpa using hz
        have hipb : 0 ≤ ip ∧ ip < sumLg rs := by rw [← hRl, hip]; unfold iLen; omega
        have hipt : ip.toNat = p := by rw [hip]; rfl
        have haddp : A.add .i64 ip 1 = iLen (p + 1) := by subst hA; exact add_one (N := 1000) hip (by omega) (by omega)
        rw [hT]
        refine AGo_whileE (σ := Nat) [2, 3, 5, 9, 10, 12, 13, 14, 15] (fun k => l.length - k) (fun k => k ≤ l.length) (fun k => [(16, I ((l.take k).foldl (ancG R th p) 3000)), (17, I (iLen k))])
          (fun k => [.own 0 [U w2], .own 0 [.vs 5 xs, I a, I b, I c], .gone, .own i cr, .own p rw0]) 0 (Nat.zero_le _) ⟨rfl, rfl, trivial⟩ (.inl rfl) fun k hk Bk3 hB3 => ?_
        obtain ⟨m, hm⟩ : ∃ x, x = (l.take k).foldl (ancG R th p) 3000 := ⟨_, rfl⟩
        obtain ⟨ik, hik⟩ : ∃ x, x = iLen k := ⟨_, rfl⟩
        rw [← hm, ← hik]
        have hlt3 : A.lt ik (A.vlen ls) = decide (k < l.length) := by subst hA; exact lt_len (by simp [hls]) hik
        refine SGo_run hA ⟨[4], [], (21, eRise) :: [], []⟩ (.cons (eRise_ok p21) .nil) .nil 200 fun T TD hT hTD => ?_
        cbv
        split <;> cbv
        · rename_i hz3
          have hkl : k < l.length := by have hz := hlt3.symm.trans hz3; simpa using hz
          obtain ⟨⟨k', q', g', u', v'⟩, hx3⟩ : ∃ x, l[k]? = some x := ⟨_, List.getElem?_eq_getElem hkl⟩
          have hiy : A.ix 5 5 ls ik (lkC ⟨k', q', g', u', v'⟩) := by subst hA; exact ix_map hls hik hx3 rfl
          obtain ⟨e1, e2, e3⟩ := hancs _ (List.mem_of_getElem? hx3)
          obtain ⟨_, _, _, e4, _, _⟩ := hP3 _ (List.mem_of_getElem? hx3)
          dsimp only at e1 e2 e3 e4
          have hqb : 0 ≤ q' ∧ q' < sumLg rs := by rw [← hRl, hN]; unfold iLen; omega
          have hst := foldl_take_succ (f := ancG R th p) (b := 3000) hx3
          rw [← hm] at hst
          have hadk : A.add .i64 ik 1 = iLen (k + 1) := by subst hA; exact add_one (N := 1000) hik (by omega) (by omega)
          repeat (refine Exists.intro _ (And.intro hiy ?_); cbv)
          refine Exists.intro rs (And.intro hxs (And.intro ho (And.intro hipb (And.intro hthb (And.intro hqb (And.intro e2 ?_))))))
          intro r hr; cbv
          rw [← hR, hipt] at hr
          have hqn : q'.toNat < R.length := by have hq5 := hqb.2; rw [← hRl] at hq5; unfold iLen at hq5; omega
          have hrb := riseS_bnd hPl (a := p) (b := q'.toNat) (t := th - g') (by omega) (by omega) (by omega)
          rw [← hr] at hrb
          have hmn : A.min m (A.add .i64 u' r) = (l.take (k + 1)).foldl (ancG R th p) 3000 := by
            rw [hst]; unfold ancG; dsimp only; rw [← hr]
            subst hA; simp only [std, iMin_eq]; rw [iAdd_id (by omega) (by omega)]
          exact hB3 (k + 1) _ _ (by omega) (by omega) ⟨congrArg I hmn, congrArg I hadk, trivial⟩ ⟨rfl, rfl, rfl, rfl, rfl, rfl, rfl, rfl, rfl, trivial⟩ (.inl rfl)
        · rename_i hz3
          have hkl : ¬ k < l.length := by have hz := hlt3.symm.trans hz3; simpa using hz
          have hmT : m = TT i p := by rw [hm, hTT, List.take_of_length_le (by omega), hth]; rfl
          clear hm
          obtain ⟨rw1, hrw1⟩ : ∃ x, x = RW (p + 1) := ⟨_, rfl⟩
          have happ : A.app 1 1 8 rw0 0 p [I m] rw1 (p + 1) := by subst hA; rw [hrw1, hRWs, ← hrw, ← hmT]; exact app_one (by rw [hrw]; exact hRWl p) rfl (by omega)
          refine And.intro (hsg _) (Exists.intro rw1 (Exists.intro (p + 1) (And.intro happ (And.intro rfl ?_))))
          cbv
          exact hB2 (p + 1) _ _ (by omega) (by omega) ⟨rfl, congrArg I haddp, trivial⟩ ⟨rfl, rfl, rfl, rfl, rfl, rfl, rfl, trivial⟩ (.inl (by rw [hrw1]))
      · rename_i hz2
        have hpN : p = N := by have hz := hlt2.symm.trans hz2; have : ¬ p < N := by simpa using hz
                               omega
        have hrN : rw0 = crsRow TT N i := by rw [hrw, hRW, hpN]
        have hE2 : Elems 1 (crsRow TT N i) rw0 := by rw [hrN]; exact Elems_I _
        obtain ⟨row, hrow⟩ : ∃ x, x = crsRow TT N i := ⟨_, rfl⟩
        rw [← hrow] at hE2
        have hrl : row.length = p := by rw [hrow, hpN]; simp [crsRow]
        rw [hT]
        refine AGo_frzS 14 (id := 4) (g := p) (sz := 1) (n := p) (xs := row) (cs := rw0) rfl rfl hrl hE2 ?_
        have happ : A.app 1 1 24 cr 0 i [.vs 1 row] (CR (i + 1)) (i + 1) := by subst hA; rw [hCRs, ← hcr, ← hrow]; exact app_one (by rw [hcr]; exact hCRl i) rfl (by omega)
        obtain ⟨cr1, hcr1⟩ : ∃ x, x = CR (i + 1) := ⟨_, rfl⟩
        rw [← hcr1] at happ
        have haddt : A.add .i64 th 1 = first + iLen (i + 1) := by subst hA; show iAdd .i64 th 1 = _; rw [iAdd_id (by omega) (by omega), hth]; unfold iLen; omega
        refine SGo_run hA ⟨[3], [], [], []⟩ .nil .nil 200 fun T TD hT hTD => ?_
        cbv
        refine And.intro (hsg _) (Exists.intro cr1 (Exists.intro (i + 1) (And.intro happ (And.intro rfl ?_))))
        cbv
        exact hB (i + 1) _ _ (by omega) (by omega) ⟨rfl, congrArg I haddt, trivial⟩ ⟨rfl, rfl, rfl, rfl, rfl, trivial⟩ (.inr ⟨⟨[.gone], by rw [hcr1]; rfl⟩, by simp, by simp [ltG, AV.lt, AV.ltL, keepS, look, gset], by simp [ltH, AObj.lt, AV.lt, AV.ltL, hxl, hCRn]⟩)
    · rename_i hz
      have hih2 : i = hours := by have hz := hlt.symm.trans hz; have : ¬ i < hours := by simpa using hz
                                  omega
      have hcrN : cr = crsV TT hours N := by rw [hcr, hCR, hih2]; rfl
      have hE3 : Elems 1 (crsV TT hours N) cr := by rw [hcrN]; exact Elems_one (F := fun i => AV.vs 1 (crsRow TT N i)) (fun _ => rfl) (fun _ => rfl) _
      rw [hF]
      refine Frees.frz 3 i 1 (crsV TT hours N) rfl hE3 ?_
      have e1 : AV.frz 3 i 1 (crsV TT hours N) (aTup [.ms 1 3 i 0 i]) = .vs 1 (crsV TT hours N) := frz_self (by simp [crsV, hih2])
      rw [e1]
      refine Frees.drop1 (w := w2) rfl (h w2 _ ⟨TT, _, rfl, by rw [hN], hcrs⟩)
end Go.Sas
namespace Go.Sas
open Go.Proofs
set_option maxRecDepth 100000
def LkQ (R : List Rch) (T : Nat → Nat → Int) (f : Int) (hours : Nat) (most : Int) (r : AV) : Prop := ∃ (l : List Lk) (xs : List AV), r = .vs 5 xs ∧ xs = l.map lkV ∧ (l.length : Int) ≤ most ∧ ∀ x ∈ l, LkFit R T f hours x
set_option maxHeartbeats 2000000 in
theorem d7 (R : List Rch) (TC : Nat → Nat → Int) (first most : Int) (hours : Nat) (hP : PlcOk R) (hT0 : CrsOk R TC hours) (hf : 0 ≤ first ∧ first ≤ 100) (hh : 1 ≤ hours ∧ hours ≤ 100) (hm : 0 ≤ most ∧ most ≤ 100) : Draws Try.prog 7 [I first, .vs 1 (crsV TC hours R.length), I most] (LkQ R TC first hours most) := by
  refine .of (by simp [AV.nid, AV.nidL, nidL_crs]) (by rintro r ⟨_, _, rfl, rfl, _⟩; simp [AV.nid]) fun w Kk h => ACalls.frees ?_
  obtain ⟨N, hN⟩ : ∃ N, N = R.length := ⟨_, rfl⟩
  rw [← hN]
  have hN1 : 1 ≤ N := by rw [hN]; exact hP.pos
  have hN2 : N ≤ 1000 := by rw [hN]; exact hP.le
  obtain ⟨cr, hcr⟩ : ∃ x, x = crsV TC hours N := ⟨_, rfl⟩
  rw [← hcr]
  obtain ⟨A, hA⟩ : ∃ A, A = std := ⟨_, rfl⟩
  have hsg : ∀ g, A.sg g g := by subst hA; exact fun _ => rfl
  obtain ⟨F, hF⟩ : ∃ F, F = Frees 1 Kk := ⟨_, rfl⟩
  rw [show Frees [AObj.own 0 [U w]].length Kk = F from hF.symm]
  have hm1 : A.add .i64 most 1 = most + 1 := by subst hA; exact iAdd_id (by omega) (by omega)
  have hcv : A.vlen cr = iLen hours := by subst hA; rw [hcr]; simp [std, crsV]
  refine go7 rfl (SGo_run hA ⟨[], [], [], ed2⟩ .nil ed2_ok 200 fun T TD hT hTD => ?_)
  cbv
  refine Exists.intro () (And.intro (by show A.add .i64 most 1 ≤ _; rw [hm1]; omega) ?_)
  rintro w1 _ ⟨d0, rfl, hd1, hd2⟩
  have hd2 : d0 < A.add .i64 most 1 ∨ d0 = 0 := hd2
  rw [hm1] at hd2
  cbv
  rw [hT]
  refine AGo_nilms 9 5 rfl ?_
  refine AGo_whileE (σ := Int × Int × List Lk) [0, 1, 2] (fun s => s.2.1.toNat) (fun s => 0 ≤ s.2.1 ∧ s.2.1 + iLen s.2.2.length ≤ most ∧ ∀ x ∈ s.2.2, LkFit R TC first hours x) (fun s => [(9, .ms 5 1 s.2.2.length 0 s.2.2.length), (10, I s.2.1)])
    (fun s => [.own 0 [U s.1], .own s.2.2.length (s.2.2.flatMap lkC)]) (w1, d0, []) ⟨by dsimp only; omega, by show d0 + iLen 0 ≤ most; unfold iLen; omega, by simp⟩ ⟨rfl, rfl, trivial⟩ (.inl rfl) fun s hP Bk hB => ?_
  obtain ⟨w2, d, l⟩ := s
  obtain ⟨hP1, hP2, hP3⟩ := hP
  dsimp only at hP1 hP2 hP3 ⊢
  obtain ⟨n, hn⟩ : ∃ n, n = l.length := ⟨_, rfl⟩
  obtain ⟨cc, hcc⟩ : ∃ c, c = l.flatMap lkC := ⟨_, rfl⟩
  rw [← hn, ← hcc]
  rw [← hn] at hP2
  have hn4 : n ≤ 100 := by unfold iLen at hP2; omega
  have hd4 : d ≤ 100 := by unfold iLen at hP2; omega
  have hcl : cc.length = n * 5 := by rw [hcc, hn, len_flat (k := 5) (fun _ => rfl)]
  have hgt : A.lt 0 d = decide (0 < d) := by subst hA; rfl
  refine SGo_run hA ⟨[1], [0, 1001], [], ed2⟩ .nil ed2_ok 200 fun T TD hT hTD => ?_
  cbv
  split <;> cbv
  · rename_i hz
    have hz : 0 < d := by have hz := hgt.symm.trans hz; simpa using hz
    refine Exists.intro () (And.intro (by show A.vlen cr ≤ _; rw [hcv]; unfold iLen; omega) ?_)
    rintro w3 _ ⟨q1, rfl, hq1, hq1'⟩
    have hq1' : q1 < A.vlen cr ∨ q1 = 0 := hq1'
    rw [hcv] at hq1'
    cbv
    obtain ⟨i, hi⟩ : ∃ i : Nat, q1 = iLen i := ⟨q1.toNat, by unfold iLen; omega⟩
    have hih : i < hours := by unfold iLen at hi hq1'; omega
    have hq1b : 0 ≤ q1 ∧ q1 ≤ 100 := by unfold iLen at hi; omega
    have hgc : (List.range hours)[i]? = some i := by simp [hih]
    obtain ⟨row, hrow⟩ : ∃ x, x = crsRow TC N i := ⟨_, rfl⟩
    have hixr : A.ix 1 1 cr q1 [.vs 1 row] := by subst hA; rw [hrow]; exact ix_map (f := fun i => AV.vs 1 (crsRow TC N i)) hcr hi hgc rfl
    refine Exists.intro _ (And.intro hixr ?_); cbv
    have hrv : A.vlen row = iLen N := by subst hA; rw [hrow]; simp [std, crsRow]
    refine Exists.intro () (And.intro (by show A.vlen row ≤ _; rw [hrv]; unfold iLen; omega) ?_)
    rintro w4 _ ⟨q2, rfl, hq2, hq2'⟩
    have hq2' : q2 < A.vlen row ∨ q2 = 0 := hq2'
    rw [hrv] at hq2'
    cbv
    obtain ⟨p, hp⟩ : ∃ p : Nat, q2 = iLen p := ⟨q2.toNat, by unfold iLen; omega⟩
    have hpN : p < N := by unfold iLen at hp hq2'; omega
    refine Exists.intro _ (And.intro hixr ?_); cbv
    have hixp : A.ix 1 1 row q2 [I (TC i p)] := by subst hA; exact ix_map hrow hp (by simp [hpN]) rfl
    have hTb := hT0.rng i p hih (by omega)
    obtain ⟨t, ht⟩ : ∃ t, t = TC i p := ⟨_, rfl⟩
    rw [← ht] at hixp hTb
    refine Exists.intro _ (And.intro hixp ?_); cbv
    refine Exists.intro () (And.intro (by omega) ?_)
    rintro w5 _ ⟨s1, rfl, hs1⟩
    cbv
    refine Exists.intro () (And.intro (by omega) ?_)
    rintro w6 _ ⟨s2, rfl, hs2⟩
    cbv
    refine Exists.intro () (And.intro ⟨by simp, by simp, by exact AllI_lits (l := [0, s1, s2])⟩ ?_)
    rintro w7 _ ⟨u, rfl, hu⟩
    simp at hu
    cbv
    refine Exists.intro () (And.intro (by omega) ?_)
    rintro w8 _ ⟨s3, rfl, hs3⟩
    cbv
    refine Exists.intro () (And.intro (by omega) ?_)
    rintro w9 _ ⟨s4, rfl, hs4⟩
    cbv
    refine Exists.intro () (And.intro ⟨by simp, by simp, by exact AllI_lits (l := [0, s3, s4])⟩ ?_)
    rintro w10 _ ⟨v, rfl, hv⟩
    simp at hv
    cbv
    refine Exists.intro () (And.intro (by omega) ?_)
    rintro w11 _ ⟨k, rfl, hk⟩
    cbv
    refine And.intro (by subst hA; first | (simp [std, Keep, SubH, ResK]; done) | exact .inr ⟨⟨rfl, SubH.self _⟩, trivial, .inr fun _ => ⟨rfl, SubH.self _⟩⟩ | exact .inr ⟨SubH.self _, trivial, .inr fun _ => SubH.self _⟩ | exact .inr ⟨by simp [SubH], trivial, .inl rfl⟩ | exact .inr ⟨by simp [SubH], trivial, .inr fun _ => by simp [SubH]⟩) ?_
    cbv
    have hsub : A.sub .i64 d 1 = d - 1 := by subst hA; exact iSub_id (by omega) (by omega)
    have hlo : A.max 0 (A.sub .i64 t u) = max 0 (t - u) := by subst hA; simp only [std, iMax_eq]; rw [iSub_id (by omega) (by omega)]
    have hhi : A.min 3000 (A.add .i64 t v) = min 3000 (t + v) := by subst hA; simp only [std, iMin_eq]; rw [iAdd_id (by omega) (by omega)]
    have hhr : A.add .i64 first q1 = first + q1 := by subst hA; exact iAdd_id (by omega) (by omega)
    obtain ⟨cc2, hcc2⟩ : ∃ x, x = cc ++ lkC ⟨k, q2, A.add .i64 first q1, A.max 0 (A.sub .i64 t u), A.min 3000 (A.add .i64 t v)⟩ := ⟨_, rfl⟩
    refine And.intro (hsg _) (Exists.intro cc2 (Exists.intro (n + 1) (And.intro (by subst hA; rw [hcc2]; exact app_one hcl rfl (by omega)) (And.intro rfl ?_))))
    cbv
    refine And.intro (by subst hA; first | (simp [std, Keep, SubH, ResK]; done) | exact .inr ⟨⟨rfl, SubH.self _⟩, trivial, .inr fun _ => ⟨rfl, SubH.self _⟩⟩ | exact .inr ⟨SubH.self _, trivial, .inr fun _ => SubH.self _⟩ | exact .inr ⟨by simp [SubH], trivial, .inl rfl⟩ | exact .inr ⟨by simp [SubH], trivial, .inr fun _ => by simp [SubH]⟩) ?_
    cbv
    rw [hlo, hhi, hhr] at hcc2
    have hcl2 : ∀ n (l : List Lk), AV.ltL n (l.flatMap lkC) := fun n l => AV.ltL_nid (nidL_flat (fun _ => rfl) l)
    refine hB (w11, d - 1, l ++ [⟨k, q2, first + q1, max 0 (t - u), min 3000 (t + v)⟩]) _ _ (by dsimp only; omega) ⟨by dsimp only; omega, by dsimp only; rw [List.length_append, ← hn]; unfold iLen at hP2 ⊢; simp; omega, ?_⟩ ?_ ⟨rfl, rfl, rfl, trivial⟩ (.inr ⟨⟨_, by dsimp only; rw [List.flatMap_append, List.length_append, ← hn, ← hcc]; rw [show cc ++ [Lk.mk k q2 (first + q1) (max 0 (t - u)) (min 3000 (t + v))].flatMap lkC = cc2 from hcc2.symm]; rfl⟩, by simp, by simp [ltG, AV.lt, AV.ltL, keepS, look, gset], by simp [ltH, AObj.lt, AV.lt, AV.ltL, hcl2, -List.flatMap_append]⟩)
    · intro x hx
      rcases List.mem_append.1 hx with hx | hx
      · exact hP3 x hx
      · simp only [List.mem_singleton] at hx; subst hx
        refine ⟨by dsimp only; omega, i, p, hih, by omega, hp, congrArg (first + ·) hi, ?_⟩
        dsimp only
        rw [← ht]; omega
    · rw [List.length_append, ← hn]; exact ⟨rfl, congrArg I hsub, trivial⟩
  · rename_i hz
    have hE : Elems 5 (l.map lkV) cc := by rw [hcc]; exact Elems_map (f := lkV) (g := lkC) (sz := 5) (fun _ => rfl) (fun _ => rfl) (fun _ => rfl) l
    rw [hF]
    refine Frees.frz 1 n 5 (l.map lkV) rfl hE ?_
    have e1 : AV.frz 1 n 5 (l.map lkV) (aTup [.ms 5 1 n 0 n]) = .vs 5 (l.map lkV) := frz_self (by simp [hn])
    rw [e1]
    refine Frees.drop1 (w := w2) rfl (h w2 _ ⟨l, _, rfl, rfl, ?_, hP3⟩)
    rw [← hn]; unfold iLen at hP2; omega
end Go.Sas
namespace Go.Sas
open Go.Proofs
set_option maxRecDepth 100000
/-- an entry of a table of functions that draw, for things that are to be named -/
def eDrawX {α : Type} (spec : List AV → Option ((α → Prop) × (α → AV → Prop))) : List AV → AHeap → Option PT
  | .mp id 0 0 :: rest, H => match spec rest with
    | some (pre, Q) => match H[id]? with
      | some (.own 0 [.lit (.int .u64 _)]) => some fun K => ∃ x : α, pre x ∧ ∀ w' r, Q x r → K r (H.set id (.own 0 [U w']))
      | _ => none
    | none => none
  | _, _ => none
theorem eDrawX_ok {P : Program} {α : Type} {f : Nat} {spec : List AV → Option ((α → Prop) × (α → AV → Prop))} (h : ∀ rest pre Q, spec rest = some (pre, Q) → ∀ x, pre x → Draws P f rest (Q x)) : ∀ args H pt, eDrawX spec args H = some pt → ∀ (Kk : AV → AHeap → Prop), pt Kk → ACalls P f args H Kk := by
  intro args H pt hp Kk hk
  unfold eDrawX at hp
  split at hp
  · split at hp
    · rename_i pre Q hQ
      split at hp
      · rename_i w hX
        cases hp
        obtain ⟨x, h1, h2⟩ := hk
        exact h _ _ _ hQ x h1 _ _ _ hX Kk h2
      · cases hp
    · cases hp
  · cases hp
def sSurvey : List AV → Option ((Unit → Prop) × (Unit → AV → Prop))
  | [.lit (.int .i64 m)] => some (fun _ => 1 ≤ m ∧ m ≤ 1000, fun _ => SvQ m)
  | _ => none
theorem sSurvey_ok : ∀ rest pre Q, sSurvey rest = some (pre, Q) → ∀ x, pre x → Draws Try.prog 5 rest (Q x) := by
  intro rest pre Q h x hp
  unfold sSurvey at h
  split at h
  · cases h; exact d5 _ hp
  · cases h
def sCourse : List AV → Option ((List Rch × Nat → Prop) × (List Rch × Nat → AV → Prop))
  | [.agg [.vs 5 xs, .lit (.int .i64 _), .lit (.int .i64 _), .lit (.int .i64 _)], .lit (.int .i64 f), .lit (.int .i64 h)] => some (fun x => xs = x.1.map rcV ∧ h = iLen x.2 ∧ RoadOk x.1 ∧ (0 ≤ f ∧ f ≤ 100) ∧ (1 ≤ x.2 ∧ x.2 ≤ 100), fun x => CrsQ (plc x.1) x.2)
  | _ => none
theorem sCourse_ok : ∀ rest pre Q, sCourse rest = some (pre, Q) → ∀ x, pre x → Draws Try.prog 6 rest (Q x) := by
  rintro rest pre Q h ⟨rs, n⟩ hp
  unfold sCourse at h
  split at h
  · cases h
    obtain ⟨rfl, rfl, h1, h2, h3⟩ := hp
    exact d6 _ _ _ _ _ _ h1 h2 h3
  · cases h
def sLooks : List AV → Option ((List Rch × (Nat → Nat → Int) × Nat → Prop) × (List Rch × (Nat → Nat → Int) × Nat → AV → Prop))
  | [.lit (.int .i64 f), .vs 1 cr, .lit (.int .i64 m)] => some (fun x => cr = crsV x.2.1 x.2.2 x.1.length ∧ PlcOk x.1 ∧ CrsOk x.1 x.2.1 x.2.2 ∧ (0 ≤ f ∧ f ≤ 100) ∧ (1 ≤ x.2.2 ∧ x.2.2 ≤ 100) ∧ (0 ≤ m ∧ m ≤ 100), fun x => LkQ x.1 x.2.1 f x.2.2 m)
  | _ => none
theorem sLooks_ok : ∀ rest pre Q, sLooks rest = some (pre, Q) → ∀ x, pre x → Draws Try.prog 7 rest (Q x) := by
  rintro rest pre Q h ⟨R, T, n⟩ hp
  unfold sLooks at h
  split at h
  · cases h
    obtain ⟨h1, h2, h3, h4, h5, h6⟩ := hp
    dsimp only at h1
    subst h1
    exact d7 _ _ _ _ _ h2 h3 h4 h5 h6
  · cases h
theorem SvD.road {m : Int} {rs : List Rch} {a b c : Int} (h : SvD m rs a b c) (hm : m ≤ 1000) : RoadOk rs := ⟨h.n1, by have := h.n2; omega, fun r hr => by
  obtain ⟨h1, h2, h3, h4, h5⟩ := h.all r hr
  have h6 := h.le
  have : r.lg ≤ sumLg rs := by
    clear h6
    have hall := h.all
    clear h
    induction rs with
    | nil => simp at hr
    | cons x rs ih =>
      have hx := (hall x (by simp)).1
      have hn : 0 ≤ sumLg rs := sumLg_nonneg fun y hy => by have := (hall y (by simp [hy])).1; omega
      simp only [sumLg]
      rcases List.mem_cons.1 hr with rfl | hr
      · omega
      · have := ih hr (fun y hy => hall y (by simp [hy])); omega
  exact ⟨by omega, by omega, by omega, by omega, by omega⟩, by have := h.le; omega⟩
theorem SvD.sgt {m : Int} {rs : List Rch} {a b c : Int} (h : SvD m rs a b c) : SgtOk a b c := ⟨by have := h.a; omega, by have := h.b; omega, by have := h.c; omega⟩
/-- a survey, a course of six hours from the hour 3 on, and looks that it fits -/
structure MadeD (places looks : Int) (rs : List Rch) (a b c : Int) (T : Nat → Nat → Int) (l : List Lk) : Prop where
  sv : SvD places rs a b c
  crs : CrsOk (plc rs) T 6
  len : (l.length : Int) ≤ looks
  fit : ∀ x ∈ l, LkFit (plc rs) T 3 6 x
end Go.Sas
namespace Go.Sas
open Go.Proofs
set_option maxRecDepth 100000
def eSeedP : List AV → AHeap → Option PT
  | [x], H => match asVs 1 x with
    | some xs => some fun K => ∃ l : List Int, (xs = l.map I ∧ l.length ≤ 9223372036854775807) ∧ ∀ w, K (.mp H.length 0 0) (H ++ [.own 0 [U w]])
    | none => none
  | _, _ => none
theorem eSeedP_ok : ∀ args H pt, eSeedP args H = some pt → ∀ (Kk : AV → AHeap → Prop), pt Kk → ACalls Try.prog 4 args H Kk := by
  intro args H pt h Kk hk
  unfold eSeedP at h
  split at h
  · rename_i x
    split at h
    · rename_i xs hxs
      cases h
      obtain ⟨l, ⟨rfl, hl⟩, hk⟩ := hk
      exact ACalls.wk (p4 _ hl H hk) ⟨asVs_wk hxs, trivial⟩
    · cases h
  · cases h
def edP : ETab := (4, eSeedP) :: (5, eDrawX sSurvey) :: (6, eDrawX sCourse) :: (7, eDrawX sLooks) :: ed2
theorem edP_ok : ETabOk Try.prog edP := .cons eSeedP_ok (.cons (eDrawX_ok sSurvey_ok) (.cons (eDrawX_ok sCourse_ok) (.cons (eDrawX_ok sLooks_ok) (ed2_ok))))
end Go.Sas
