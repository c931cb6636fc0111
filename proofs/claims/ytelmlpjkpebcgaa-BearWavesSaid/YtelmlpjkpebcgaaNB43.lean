/-
The law of speeds without waves answers true.
Conditions: none.
-/
import Derived.Test.YtelmlpjkpebcgaaM12
import Derived.Test.YtelmlpjkpebcgaaNB42A
import Derived.Test.YtelmlpjkpebcgaaM19
import Derived.Test.YtelmlpjkpebcgaaNS15
import Derived.Test.YtelmlpjkpebcgaaNT9
set_option linter.unusedVariables false
set_option linter.unusedSimpArgs false
namespace Go.Sas
open Go.Proofs
set_option maxRecDepth 100000
theorem p52 (a b n : Int) (H : AHeap) {Kk : AV → AHeap → Prop} (h : Kk (B (decide (a ≤ n ∧ n ≤ b))) H) : ACalls Try.prog 52 [.agg [I a, I b], I n] H Kk := by
  refine (fun q => pureC (by rfl) (by rfl) q H h) ?_
  clear h
  intro Kk h
  obtain ⟨A, hA⟩ : ∃ A, A = std := ⟨_, rfl⟩
  refine go52 rfl (SGo_run hA ⟨[], [], [], []⟩ .nil .nil 200 fun T TD hT hTD => ?_)
  cbv
  split <;> cbv
  all_goals
    refine leaf h (congrArg B ?_) rfl
    subst hA
    simp only [std, iLe, decide_eq_true_eq, decide_eq_false_iff_not] at *
    simp [*]
def eHas : List AV → Option ((AV → Prop) → Prop)
  | [.agg [.lit (.int .i64 a), .lit (.int .i64 b)], .lit (.int .i64 n)] => some fun K => ∀ q, q = decide (a ≤ n ∧ n ≤ b) → K (B q)
  | _ => none
theorem eHas_ok : ∀ args pt, eHas args = some pt → ∀ (H : AHeap) (Kk : AV → AHeap → Prop), pt (fun r => Kk r H) → ACalls Try.prog 52 args H Kk := by
  intro args pt h H Kk hk
  unfold eHas at h
  split at h
  · cases h; exact p52 _ _ _ H (hk _ rfl)
  · cases h
set_option maxHeartbeats 16000000 in
theorem core11 (nums : List Int) (hn1 : BigL nums) : ACalls Try.prog 11 [.vs 1 (nums.map I)] [] fun r _ => r = B true := by
  obtain ⟨Kk, hKk⟩ : ∃ K : AV → AHeap → Prop, K = fun r _ => r = B true := ⟨_, rfl⟩
  rw [← hKk]
  have hk : ∀ H, Kk (B true) H := fun H => by rw [hKk]
  clear hKk
  obtain ⟨xn, hxn⟩ : ∃ ys, ys = nums.map I := ⟨_, rfl⟩
  rw [← hxn]
  obtain ⟨A, hA⟩ : ∃ A, A = std := ⟨_, rfl⟩
  have hne0 : A.ne 0 0 = false := by subst hA; rfl
  have hsg : ∀ g, A.sg g g := by subst hA; exact fun _ => rfl
  refine go11m rfl (SGo_run hA ⟨[], [], (51, eSpan) :: (48, eSpeedsA) :: [], edl⟩ (.cons eSpan_ok (.cons (eSpeedsA_ok p48) .nil)) edl_ok 600 fun T TD hT hTD => ?_)
  cbv
  refine Exists.intro nums (And.intro ⟨hxn, hn1⟩ ?_)
  intro w1
  cbv
  refine Exists.intro () (And.intro trivial ?_)
  rintro w2 _ ⟨p2, a2, b2, xs2, ec2, ne2, ed2, gr2, lo2, hi2, sh2, wi2, rfl, hp2, hv2⟩
  cbv
  have hV := checkS_ok hv2
  have hb21 : Big p2.shares := by have := hV.sh.len; unfold Big; omega
  have hb22 : Big p2.creep := by have := hV.cr.len; unfold Big; omega
  refine Exists.intro () (And.intro (by omega) ?_)
  rintro w3 _ ⟨k1, rfl, k11, k12⟩
  cbv
  refine Exists.intro () (And.intro (by omega) ?_)
  rintro w4 _ ⟨k2, rfl, k21, k22⟩
  cbv
  refine Exists.intro () (And.intro ⟨by simp, by simp, by exact AllI_lits (l := [0, k1, k2])⟩ ?_)
  rintro w5 _ ⟨low, rfl, hlow⟩
  simp at hlow
  cbv
  have hlow : 0 ≤ low ∧ low < 9000 := by omega
  refine Exists.intro () (And.intro (by omega) ?_)
  rintro w6 _ ⟨k3, rfl, k31, k32⟩
  cbv
  obtain ⟨high, hhigh⟩ : ∃ z, z = A.add .i64 low k3 := ⟨_, rfl⟩
  have hhi2 : high = low + k3 := by rw [hhigh]; subst hA; exact iAdd_id (by omega) (by omega)
  refine Exists.intro () (And.intro (by omega) ?_)
  rintro w7 _ ⟨so, rfl, so1, so2⟩
  cbv
  refine Exists.intro () (And.intro (by show -1000000000 ≤ low ∧ low ≤ A.add .i64 low k3 ∧ A.add .i64 low k3 ≤ 1000000000; rw [← hhigh]; omega) ?_)
  rintro w8 _ ⟨na, nb, rfl, hna1, hna2, hna3⟩
  have hna3 : nb ≤ high := by rw [hhigh]; exact hna3
  have hwat : ∀ s, (0 ≤ s ∧ s ≤ 100000) → waterS p2 low high s = 0 := fun s hs => by
    have hf : faultS low high 0 10000 = 0 := faultS_of (by omega)
    unfold waterS
    rw [if_neg (by simp [hv2]), if_neg (by simp [hf]), if_neg (by omega)]
  have hwatn : ∀ s, (0 ≤ s ∧ s ≤ 100000) → waterS p2 na nb s = 0 := fun s hs => by
    have hf : faultS na nb 0 10000 = 0 := faultS_of (by omega)
    unfold waterS
    rw [if_neg (by simp [hv2]), if_neg (by simp [hf]), if_neg (by omega)]
  obtain ⟨Q, hQ⟩ : ∃ Q : Nat → Bool, Q = fun v => decide (wverS p2.grav (bandS p2 so).1 (bandS p2 so).2 (iLen v) low high = 1) := ⟨_, rfl⟩
  have hsp : speedsS p2 low high so = (runS Q 1001, 0) := by unfold speedsS; rw [if_neg (by simp [hwat so (by omega)]), hQ]
  cbv
  refine Exists.intro p2 (And.intro hp2 (And.intro hb21 (And.intro hb22 ?_)))
  rintro r e0 zs hre hzs
  have hre : (r, e0) = speedsS p2 low high so := by rw [hhigh]; exact hre
  rw [hsp] at hre
  obtain ⟨rfl, rfl⟩ := Prod.mk.inj hre
  have hrun := runS_ok (q := Q) 1001
  have hlen := runS_len (q := Q) 1001
  obtain ⟨l, hl⟩ : ∃ l, l = runS Q 1001 := ⟨_, rfl⟩
  rw [← hl] at hzs hrun hlen
  cbv
  split <;> cbv
  · rename_i hq; exact Bool.noConfusion (hq.symm.trans hne0)
  refine Exists.intro () (And.intro (by omega) ?_)
  rintro w9 _ ⟨m1, rfl, hm11, hm12⟩
  cbv
  refine Exists.intro () (And.intro (by omega) ?_)
  rintro w10 _ ⟨m2, rfl, hm21, hm22⟩
  cbv
  rw [hT]
  have hgen : ∀ j, min (j + 1) 3 = if j < 3 then min j 3 + 1 else min j 3 := fun j => by split <;> omega
  refine AGo_upS l.length (fun j (s : List Int) => (∀ x ∈ s, 0 ≤ x ∧ x ≤ 1000) ∧ s.length ≤ 4 + 4 * j) (fun j s i => [(2, B false), (4, .mp 1 0 0), (6, .mp 2 0 0), (7, I so), (8, .mp 3 0 0), (9, .vs 2 zs), (11, .ms 1 4 (min j 3) 0 s.length), (12, I i)])
    (fun j s => [.own 0 [U w10], .own 0 [I a2, I b2, .vs 2 xs2, .vs 2 ec2, I ne2, I ed2, I gr2, I lo2, I hi2, I sh2, I wi2], .own 0 [I low, I high], .own 0 [I na, I nb], .own (min j 3) (s.map I)]) [0, 1000, m1, m2] ⟨by intro x hx; simp at hx; omega, by simp⟩ ⟨rfl, rfl, rfl, rfl, rfl, rfl, rfl, rfl, trivial⟩ (.inl (by rw [hhigh]; rfl)) fun j s i hij hj hP Bk hB => ?_
  obtain ⟨hP1, hP2⟩ := hP
  have hlt : A.lt i (A.vlen zs) = decide (j < l.length) := by subst hA; exact lt_len (by simp [hzs]) hij
  have hadd : j < l.length → A.add .i64 i 1 = iLen (j + 1) := fun hj => by subst hA; exact add_one hij hj (by omega)
  have hl3 : A.lt i 3 = decide (j < 3) := by subst hA; simp only [std, iLt, hij]; unfold iLen; rw [decide_eq_decide]; omega
  obtain ⟨g, hg⟩ : ∃ g, g = min j 3 := ⟨_, rfl⟩
  obtain ⟨n, hn⟩ : ∃ n, n = s.length := ⟨_, rfl⟩
  obtain ⟨cs, hcs⟩ : ∃ cs, cs = s.map I := ⟨_, rfl⟩
  have hgn := hgen j
  rw [← hg] at hgn
  rw [← hg, ← hn, ← hcs]
  refine SGo_run hA ⟨[4], [1004], [], []⟩ .nil .nil 600 fun T TD hT hTD => ?_
  cbv
  split <;> cbv
  · rename_i z
    have hj1 : j < l.length := by have z := hlt.symm.trans z; simpa using z
    obtain ⟨⟨x1, x2⟩, hx⟩ : ∃ x, l[j]? = some x := ⟨_, List.getElem?_eq_getElem hj1⟩
    have hxb := hrun.bnd (x1, x2) (List.mem_of_getElem? hx)
    simp only at hxb
    have hix : A.ix 2 2 zs i [I x1, I x2] := by subst hA; exact ix_map hzs hij hx rfl
    have hc1 : A.lt x2 x1 = false := by subst hA; simp only [std, iLt]; rw [decide_eq_false_iff_not]; omega
    have hc2 : A.lt x1 0 = false := by subst hA; simp only [std, iLt]; rw [decide_eq_false_iff_not]; omega
    have hc3 : A.lt 1000 x2 = false := by subst hA; simp only [std, iLt]; rw [decide_eq_false_iff_not]; omega
    have hmx : 0 ≤ A.max 0 (A.sub .i64 x1 1) ∧ A.max 0 (A.sub .i64 x1 1) ≤ 1000 := by subst hA; simp only [std, iMax_eq]; rw [iSub_id (by omega) (by omega)]; omega
    have hmn : 0 ≤ A.min 1000 (A.add .i64 x2 1) ∧ A.min 1000 (A.add .i64 x2 1) ≤ 1000 := by subst hA; simp only [std, iMin_eq]; rw [iAdd_id (by omega) (by omega)]; omega
    obtain ⟨cs2, hcs2⟩ : ∃ c, c = cs ++ [I x1, I x2, I (A.max 0 (A.sub .i64 x1 1)), I (A.min 1000 (A.add .i64 x2 1))] := ⟨_, rfl⟩
    have happ : A.app 1 1 8 cs 0 n [I x1, I x2, I (A.max 0 (A.sub .i64 x1 1)), I (A.min 1000 (A.add .i64 x2 1))] cs2 (n + 4) := by
      rw [hcs2]
      have h4 : ∀ y1 y2 y3 y4 : Int, A.app 1 1 8 cs 0 n [I y1, I y2, I y3, I y4] (cs ++ [I y1, I y2, I y3, I y4]) (n + 4) := fun y1 y2 y3 y4 => by
        subst hA; exact app_all (sz := 1) (by_ := 8) (n := n) (es := [I y1, I y2, I y3, I y4]) (by rw [hcs, hn]; simp) rfl (by simp; omega)
      exact h4 _ _ _ _
    have hend : ∀ e' H', Fits e' [(2, B false), (4, .mp 1 0 0), (6, .mp 2 0 0), (7, I so), (8, .mp 3 0 0), (9, .vs 2 zs), (11, .ms 1 4 (g + 1) 0 (n + 4)), (12, I (A.add .i64 i 1))] →
        H' = [.own 0 [U w10], .own 0 [I a2, I b2, .vs 2 xs2, .vs 2 ec2, I ne2, I ed2, I gr2, I lo2, I hi2, I sh2, I wi2], .own 0 [I low, I high], .own 0 [I na, I nb], .own (g + 1) cs2] → j < 3 → Bk e' H' := fun e' H' hf hH h3 => by
      rw [if_pos h3] at hgn
      rw [hadd hj1, ← hgn, hn] at hf
      refine hB (s ++ [x1, x2, A.max 0 (A.sub .i64 x1 1), A.min 1000 (A.add .i64 x2 1)]) _ _ hj1 ⟨fun x hx => ?_, by simp; omega⟩ (by simpa using hf) (.inl ?_)
      · rcases List.mem_append.1 hx with hx | hx
        · exact hP1 x hx
        · simp at hx
          rcases hx with rfl | rfl | rfl | rfl
          · omega
          · omega
          · exact hmx
          · exact hmn
      · rw [hH, hgn, hcs2, hcs]; simp
    have hend2 : ∀ e' H', Fits e' [(2, B false), (4, .mp 1 0 0), (6, .mp 2 0 0), (7, I so), (8, .mp 3 0 0), (9, .vs 2 zs), (11, .ms 1 4 g 0 n), (12, I (A.add .i64 i 1))] →
        H' = [.own 0 [U w10], .own 0 [I a2, I b2, .vs 2 xs2, .vs 2 ec2, I ne2, I ed2, I gr2, I lo2, I hi2, I sh2, I wi2], .own 0 [I low, I high], .own 0 [I na, I nb], .own g cs] → ¬ j < 3 → Bk e' H' := fun e' H' hf hH h3 => by
      rw [if_neg h3] at hgn
      rw [hadd hj1, ← hgn, hn] at hf
      refine hB s _ _ hj1 ⟨hP1, by omega⟩ hf (.inl ?_)
      rw [hH, hgn, hcs]
    refine Exists.intro _ (And.intro hix ?_); cbv
    refine Exists.intro _ (And.intro hix ?_); cbv
    split <;> cbv
    · rename_i hq; exact Bool.noConfusion (hq.symm.trans hc1)
    have hgap : A.lt 0 i = true → ∃ y1 y2, A.ix 2 2 zs (A.sub .i64 i 1) [I y1, I y2] ∧ A.le x1 (A.add .i64 y2 1) = false := fun h => by
      cases j with
      | zero => exfalso; subst hA hij; simp [std, iLt, iLen] at h
      | succ k =>
        obtain ⟨⟨y1, y2⟩, hy⟩ : ∃ y, l[k]? = some y := ⟨_, List.getElem?_eq_getElem (by omega)⟩
        have hgp := hrun.gap hy hx
        have hyb := hrun.bnd (y1, y2) (List.mem_of_getElem? hy)
        simp only at hgp hyb
        refine ⟨y1, y2, ?_, ?_⟩
        · subst hA
          have e : iSub .i64 i 1 = iLen k := by rw [hij]; exact (iSub_id (by unfold iLen; omega) (by unfold iLen; omega)).trans (by unfold iLen; omega)
          show ixS _ _ _ (iSub .i64 i 1) _
          exact ix_map hzs e hy rfl
        · subst hA; simp only [std, iLe]; rw [iAdd_id (by omega) (by omega), decide_eq_false_iff_not]; omega
    split <;> cbv
    · rename_i z0
      obtain ⟨y1, y2, hiy, hc4⟩ := hgap z0
      refine Exists.intro _ (And.intro hix ?_); cbv
      refine Exists.intro _ (And.intro hiy ?_); cbv
      split <;> cbv
      · rename_i hq; exact Bool.noConfusion (hq.symm.trans hc4)
      refine Exists.intro _ (And.intro hix ?_); cbv
      split <;> cbv
      · rename_i hq; exact Bool.noConfusion (hq.symm.trans hc2)
      refine Exists.intro _ (And.intro hix ?_); cbv
      split <;> cbv
      · rename_i hq; exact Bool.noConfusion (hq.symm.trans hc3)
      split <;> cbv
      · rename_i z3
        have z3 : j < 3 := by have z3 := hl3.symm.trans z3; simpa using z3
        refine Exists.intro _ (And.intro hix ?_); cbv
        refine Exists.intro _ (And.intro hix ?_); cbv
        refine Exists.intro _ (And.intro hix ?_); cbv
        refine Exists.intro _ (And.intro hix ?_); cbv
        refine And.intro (hsg _) (Exists.intro cs2 (Exists.intro (n + 4) (And.intro happ (And.intro rfl ?_))))
        cbv
        try refine And.intro (by subst hA; simp [std, Keep, SubH, ResK]) ?_
        exact hend _ _ ⟨rfl, rfl, rfl, rfl, rfl, rfl, rfl, rfl, trivial⟩ rfl z3
      · rename_i z3
        have z3 : ¬ j < 3 := by have z3 := hl3.symm.trans z3; simpa using z3
        exact hend2 _ _ ⟨rfl, rfl, rfl, rfl, rfl, rfl, rfl, rfl, trivial⟩ rfl z3
    · refine Exists.intro _ (And.intro hix ?_); cbv
      split <;> cbv
      · rename_i hq; exact Bool.noConfusion (hq.symm.trans hc2)
      refine Exists.intro _ (And.intro hix ?_); cbv
      split <;> cbv
      · rename_i hq; exact Bool.noConfusion (hq.symm.trans hc3)
      split <;> cbv
      · rename_i z3
        have z3 : j < 3 := by have z3 := hl3.symm.trans z3; simpa using z3
        refine Exists.intro _ (And.intro hix ?_); cbv
        refine Exists.intro _ (And.intro hix ?_); cbv
        refine Exists.intro _ (And.intro hix ?_); cbv
        refine Exists.intro _ (And.intro hix ?_); cbv
        refine And.intro (hsg _) (Exists.intro cs2 (Exists.intro (n + 4) (And.intro happ (And.intro rfl ?_))))
        cbv
        try refine And.intro (by subst hA; simp [std, Keep, SubH, ResK]) ?_
        exact hend _ _ ⟨rfl, rfl, rfl, rfl, rfl, rfl, rfl, rfl, trivial⟩ rfl z3
      · rename_i z3
        have z3 : ¬ j < 3 := by have z3 := hl3.symm.trans z3; simpa using z3
        exact hend2 _ _ ⟨rfl, rfl, rfl, rfl, rfl, rfl, rfl, rfl, trivial⟩ rfl z3
  · rename_i z
    clear hB
    rw [hT]
    refine AGo_frz1 11 (id := 4) (g := g) (sz := 1) (n := n) (xs := s.map I) (cs := cs) rfl rfl (by rw [hn]; simp) (by rw [hcs]; exact Elems_I s) ?_
    obtain ⟨xs, hxs⟩ : ∃ xs, xs = s.map I := ⟨_, rfl⟩
    rw [← hxs]
    have hHfix : ∀ p : Plate, True := fun _ => trivial
    refine AGo_up s.length (fun _ => True) (fun _ q => [(2, B false), (4, .mp 1 0 0), (6, .mp 2 0 0), (7, I so), (8, .mp 3 0 0), (9, .vs 2 zs), (11, .vs 1 xs), (13, I q)]) (fun _ => [.own 0 [U w10], .own 0 [I a2, I b2, .vs 2 xs2, .vs 2 ec2, I ne2, I ed2, I gr2, I lo2, I hi2, I sh2, I wi2], .own 0 [I low, I high], .own 0 [I na, I nb], .gone]) trivial ⟨rfl, rfl, rfl, rfl, rfl, rfl, rfl, rfl, trivial⟩ (.inl rfl) fun q y hyq hq _ Bk hB => ?_
    have hlt2 : A.lt y (A.vlen xs) = decide (q < s.length) := by subst hA; exact lt_len (by simp [hxs]) hyq
    have hadd2 : q < s.length → A.add .i64 y 1 = iLen (q + 1) := fun hj => by subst hA; exact add_one hyq hj (by omega)
    refine SGo_run hA ⟨[], [], (19, eTrue) :: [], []⟩ (.cons eTrue_ok .nil) .nil 200 fun T TD hT hTD => ?_
    cbv
    split <;> cbv
    · rename_i z
      have hq1 : q < s.length := by have z := hlt2.symm.trans z; simpa using z
      obtain ⟨v, hv⟩ : ∃ v, s[q]? = some v := ⟨_, List.getElem?_eq_getElem hq1⟩
      have hvb := hP1 v (List.mem_of_getElem? hv)
      have hiv : A.ix 1 1 xs y [I v] := by subst hA; exact ix_map hxs hyq hv rfl
      rw [hT]
      refine AGo_upS l.length (fun t (b : Bool) => b = inRun (l.take t) v) (fun _ b t => [(2, B false), (4, .mp 1 0 0), (6, .mp 2 0 0), (7, I so), (8, .mp 3 0 0), (9, .vs 2 zs), (11, .vs 1 xs), (13, I y), (14, B b), (15, I t)]) (fun _ _ => [.own 0 [U w10], .own 0 [I a2, I b2, .vs 2 xs2, .vs 2 ec2, I ne2, I ed2, I gr2, I lo2, I hi2, I sh2, I wi2], .own 0 [I low, I high], .own 0 [I na, I nb], .gone]) false (by simp [inRun]) ⟨rfl, rfl, rfl, rfl, rfl, rfl, rfl, rfl, rfl, rfl, trivial⟩ (.inl rfl) fun t b k hkt ht hb Bk2 hB2 => ?_
      have hlt3 : A.lt k (A.vlen zs) = decide (t < l.length) := by subst hA; exact lt_len (by simp [hzs]) hkt
      have hadd3 : t < l.length → A.add .i64 k 1 = iLen (t + 1) := fun hj => by subst hA; exact add_one hkt hj (by omega)
      have hstep : t < l.length → ∃ x1 x2, A.ix 2 2 zs k [I x1, I x2] ∧ inRun (l.take (t + 1)) v = (b || decide (x1 ≤ v ∧ v ≤ x2)) := fun h => by
        obtain ⟨⟨x1, x2⟩, hx⟩ : ∃ x, l[t]? = some x := ⟨_, List.getElem?_eq_getElem h⟩
        refine ⟨x1, x2, by subst hA; exact ix_map hzs hkt hx rfl, ?_⟩
        rw [hb, List.take_add_one, hx]
        simp [inRun]
      have hfin : ¬ t < l.length → b = Q v.toNat := fun h => by
        rw [hb, List.take_of_length_le (by omega)]
        exact inRun_iff hrun (by omega)
      have hrest : ¬ t < l.length → ∀ bb, bb = Q v.toNat → b = bb := fun h bb hbb => by rw [hfin h, hbb]
      cases b
      all_goals
        refine SGo_run hA ⟨[], [], (52, eHas) :: (46, eSpeedA) :: [], []⟩ (.cons eHas_ok (.cons (eSpeedA_ok p46) .nil)) .nil 600 fun T TD hT hTD => ?_
        cbv
        split <;> cbv
        · rename_i z
          have ht1 : t < l.length := by have z := hlt3.symm.trans z; simpa using z
          obtain ⟨x1, x2, hixt, hst⟩ := hstep ht1
          first
          | (refine hB2 true _ _ ht1 (by rw [hst]; rfl) ⟨rfl, rfl, rfl, rfl, rfl, rfl, rfl, rfl, rfl, congrArg I (hadd3 ht1), trivial⟩ (.inl rfl); done)
          | (refine Exists.intro _ (And.intro hixt ?_); cbv
             refine Exists.intro _ (And.intro hiv ?_); cbv
             rintro bq hbq
             cbv
             exact hB2 bq _ _ ht1 (by rw [hst, hbq]; rfl) ⟨rfl, rfl, rfl, rfl, rfl, rfl, rfl, rfl, rfl, congrArg I (hadd3 ht1), trivial⟩ (.inl rfl))
        · rename_i z
          have ht1 : ¬ t < l.length := by have z := hlt3.symm.trans z; simpa using z
          have hfb := hfin ht1
          clear hB2 hstep hlt3 hadd3
          obtain ⟨W1, hW1⟩ : ∃ z, z = wverS p2.grav (bandS p2 so).1 (bandS p2 so).2 v low high := ⟨_, rfl⟩
          obtain ⟨W2, hW2⟩ : ∃ z, z = wverS p2.grav (bandS p2 so).1 (bandS p2 so).2 v na nb := ⟨_, rfl⟩
          obtain ⟨W3, hW3⟩ : ∃ z, z = wverS p2.grav (bandS p2 100000).1 (bandS p2 100000).2 v low high := ⟨_, rfl⟩
          have hs1 : speedS p2 low high so v = (W1, 0) := by unfold speedS; rw [if_neg (by simp [hwat so (by omega)]), if_neg (by omega), hW1]
          have hs2 : speedS p2 na nb so v = (W2, 0) := by unfold speedS; rw [if_neg (by simp [hwatn so (by omega)]), if_neg (by omega), hW2]
          have hs3 : speedS p2 low high 100000 v = (W3, 0) := by unfold speedS; rw [if_neg (by simp [hwat 100000 (by omega)]), if_neg (by omega), hW3]
          have hQ1 : Q v.toNat = decide (W1 = 1) := by rw [hQ, hW1]; exact decide_eq_decide.2 (by rw [show iLen v.toNat = v by unfold iLen; omega])
          have hbf := band_far hV so
          have hgg : 0 ≤ p2.grav := by have := hV.g1; omega
          have hx2 : W1 ≠ 3 → W1 = W2 := fun h => by rw [hW2, wver_in (by omega) (by omega) (by omega) (by rw [← hW1]; exact h), hW1]
          have hx3 : W1 = 1 → W3 = 1 := fun h => by rw [hW3]; exact wver_band hgg (by omega) hbf.1 hbf.2 (by rw [← hW1]; exact h)
          refine Exists.intro _ (And.intro hiv ?_); cbv
          refine Exists.intro p2 (And.intro hp2 (And.intro hb21 (And.intro hb22 ?_)))
          rintro q1 e1 r1
          rw [hs1] at r1
          obtain ⟨rfl, rfl⟩ := Prod.mk.inj r1
          cbv
          refine Exists.intro _ (And.intro hiv ?_); cbv
          refine Exists.intro p2 (And.intro hp2 (And.intro hb21 (And.intro hb22 ?_)))
          rintro q2 e2 r2
          rw [hs2] at r2
          obtain ⟨rfl, rfl⟩ := Prod.mk.inj r2
          cbv
          refine Exists.intro _ (And.intro hiv ?_); cbv
          refine Exists.intro p2 (And.intro hp2 (And.intro hb21 (And.intro hb22 ?_)))
          rintro q3 e3 r3
          rw [hs3] at r3
          obtain ⟨rfl, rfl⟩ := Prod.mk.inj r3
          have hy1 : A.bnot (A.beq (Q v.toNat) (A.eq q1 1)) = false := by
            rw [hQ1]; subst hA
            show (!((decide (q1 = 1)) == (q1 == 1))) = false
            by_cases h : q1 = 1 <;> simp [h]
          rw [← hfb] at hy1
          have hy2 : A.ne q1 3 = true → A.ne q1 q2 = false := fun h => by subst hA; simp only [std, iNe, bne_iff_ne] at h ⊢; rw [hx2 h]; simp
          have hy3 : A.eq q1 1 = true → A.ne q3 1 = false := fun h => by subst hA; simp only [std, iNe, iEq, beq_iff_eq] at h ⊢; rw [hx3 h]; simp
          cbv
          split <;> cbv
          · rename_i hq; exact Bool.noConfusion (hq.symm.trans hne0)
          split <;> cbv
          · rename_i hq; exact Bool.noConfusion (hq.symm.trans hne0)
          split <;> cbv
          · rename_i hq; exact Bool.noConfusion (hq.symm.trans hne0)
          split <;> cbv
          · rename_i hq; exact Bool.noConfusion (hq.symm.trans hy1)
          repeat' (first
            | exact hB _ _ hq1 trivial ⟨rfl, rfl, rfl, rfl, rfl, rfl, rfl, congrArg I (hadd2 hq1), trivial⟩ (.inl rfl)
            | (split <;> first | (rename_i hq; exact Bool.noConfusion (hq.symm.trans (hy2 (by assumption)))) | (rename_i hq; exact Bool.noConfusion (hq.symm.trans (hy3 (by assumption)))) | cbv))
    · exact hk _
end Go.Sas
