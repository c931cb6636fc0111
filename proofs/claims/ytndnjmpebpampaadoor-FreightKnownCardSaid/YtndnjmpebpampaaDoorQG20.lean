/-
Freight: the best plan: contract of Best.
Conditions: none.
-/
import Derived.Test.YtndnjmpebpampaaDoorHEf
set_option linter.unusedVariables false
set_option linter.unusedSimpArgs false
namespace Go.Sas
open Go.Proofs
set_option maxRecDepth 100000
def worstW (f : Frt) : Win := ⟨f.fi.2, f.la.1, f.caps.map (·.1)⟩
def bestW (f : Frt) : Win := ⟨f.fi.1, f.la.2, f.caps.map (·.2)⟩
/-- the best so far: a plan that is not empty, and its cost -/
def stpB (c : List Nat → Int) (s : Option ((Nat × List Nat) × Int)) (p : List Nat) : Option ((Nat × List Nat) × Int) := match p with
  | [] => s
  | x :: r => match s with
    | none => some ((x, r), c p)
    | some (q, m) => if c p < m then some ((x, r), c p) else some (q, m)
def plansS (n : Nat) : List (List Nat) := growP n n []
/-- the best plan of a valid freight -/
def bestO (f : Frt) : Option ((Nat × List Nat) × Int) := (plansS f.ords.length).foldl (stpB (costS f.ords f.caps.length (worstW f))) none
def bestS (f : Frt) : List Nat × Int × Int := if checkF f ≠ 0 then ([], 0, checkF f) else match bestO f with
  | none => ([], 0, 0)
  | some ((x, r), n) => (x :: r, n, 0)
def paB : Option ((Nat × List Nat) × Int) → AV
  | none => .lit (.slice none 0 0)
  | some ((x, r), _) => .vs 1 (natI x :: r.map natI)
def naB : Option ((Nat × List Nat) × Int) → AV
  | none => I 0
  | some (_, n) => I n
def rndB (c : List Nat → Int) : Rnd := ⟨Option ((Nat × List Nat) × Int), paB, naB, stpB c, fun s => by rcases s with _ | ⟨⟨_, _⟩, _⟩ <;> rfl, fun s => by cases s <;> rfl⟩
theorem p18 (a b c d : Int) (cs : List (Int × Int)) (os : List Ord) (hc : cs.length ≤ 9223372036854775807) (ho : os.length ≤ 9223372036854775807) (H : AHeap) {Kk : AV → AHeap → Prop}
    (h : Kk (.tup [.vs 1 ((bestS ⟨(a, b), (c, d), cs, os⟩).1.map natI), I (bestS ⟨(a, b), (c, d), cs, os⟩).2.1, I (bestS ⟨(a, b), (c, d), cs, os⟩).2.2]) H) :
    ACalls Tryd.prog 18 [frV a b c d (.vs 2 (cs.map sp)) (.vs 4 (os.map orV))] H Kk := by
  refine (fun q => pureF (by rfl) (by rfl) q H h) ?_
  clear h
  intro Kk h
  obtain ⟨xs, hxs⟩ : ∃ xs, xs = cs.map sp := ⟨_, rfl⟩
  obtain ⟨ys, hys⟩ : ∃ ys, ys = os.map orV := ⟨_, rfl⟩
  rw [← hxs, ← hys]
  obtain ⟨W, hW⟩ : ∃ W, W = bestS ⟨(a, b), (c, d), cs, os⟩ := ⟨_, rfl⟩
  rw [← hW] at h
  obtain ⟨n, hn⟩ : ∃ n, n = os.length := ⟨_, rfl⟩
  obtain ⟨iN, hiN⟩ : ∃ i : Int, i = iLen n := ⟨_, rfl⟩
  obtain ⟨A, hA⟩ : ∃ A, A = std := ⟨_, rfl⟩
  obtain ⟨F, hF⟩ : ∃ F, F = Frees 0 Kk := ⟨_, rfl⟩
  rw [← hF]
  have hsg : ∀ g, A.sg g g := by subst hA; exact fun _ => rfl
  have hv2 : A.vlen ys = iLen n := by subst hA; simp [std, hys, hn]
  refine go18 rfl (SGo_run hA ⟨[], [], (6, eCheckFr) :: (30, eSea (fun _ b _ _ => b) (fun _ _ c _ => c) (·.1)) :: [], (34, ePlans) :: []⟩ (.cons (eCheckFr_ok p6) (.cons eWorst_ok .nil)) (.cons ePlans_ok .nil) 200 fun T TD hT hTD => ?_)
  cbv
  refine Exists.intro cs (Exists.intro os (And.intro hxs (And.intro hys (And.intro hc (And.intro ho ?_)))))
  intro q hq; cbv
  split <;> cbv
  · rename_i hz
    have hz : q ≠ 0 := by have hz : A.ne q 0 = true := hz; subst hA; simpa [std, iNe] using hz
    unfold bestS at hW
    rw [← hq, if_pos hz] at hW
    rw [hW] at h
    rw [hF]
    exact Frees.wk (r' := .tup [.vs 1 [], I 0, I q]) (Wk.tup ⟨Wk.nil, Wk.rfl, Wk.rfl, trivial⟩) (Frees.drop0 h rfl)
  rename_i hz
  have hz : q = 0 := by have hz : A.ne q 0 = false := hz; subst hA; simpa [std, iNe] using hz
  unfold bestS at hW
  rw [← hq, if_neg (by simp [hz])] at hW
  rw [hz] at hq
  have hV := checkF_ok hq.symm
  refine Exists.intro cs (And.intro hxs (And.intro (by have := hV.c2; dsimp only at this; omega) ?_))
  intro zs hzs; cbv
  refine Exists.intro n (Exists.intro iN (And.intro hv2 (And.intro hiN ?_))); cbv
  rw [hT]
  have hn1 := hV.o1
  have hn2 := hV.o2
  have hc2 := hV.c2
  dsimp only at hn1 hn2 hc2
  rw [← hn] at hn1 hn2
  obtain ⟨cst, hcst⟩ : ∃ k : List Nat → Int, k = costS os cs.length ⟨b, c, cs.map (·.1)⟩ := ⟨_, rfl⟩
  have hWW : W = match (plansS n).foldl (stpB cst) none with | none => ([], 0, 0) | some ((x, r), n) => (x :: r, n, 0) := by rw [hW, bestO, hn, hcst]; rfl
  clear hW
  obtain ⟨c0, hc0⟩ : ∃ x : List AV, x = [I a, I b, I c, I d, .vs 2 xs, .vs 4 ys] := ⟨_, rfl⟩
  obtain ⟨c3, hc3⟩ : ∃ x : List AV, x = [I a, I b, I c, I d, .vs 2 xs, .vs 4 ys, I b, I c, .vs 1 zs] := ⟨_, rfl⟩
  have h0 : AV.nidL c0 = true := by rw [hc0]; rfl
  have h3 : AV.nidL c3 = true := by rw [hc3]; rfl
  refine AGo_range (fid := 51) (caps := [.mp 4 0 0]) rfl rfl [(2, .mp 1 0 0), (3, .mp 2 0 0), (6, .mp 3 0 0)] ⟨rfl, rfl, rfl, trivial⟩ rfl ?_
  intro lp lb us hY
  have hY2 : ∀ (s : Option ((Nat × List Nat) × Int)) (p : List Nat), p.length = n → (∀ k ∈ p, k < n) → p ≠ [] → AYields Tryd.prog 5 [.vs 1 (p.map natI)] (plH c0 c3 (paB s) (naB s) n lp us) fun v H' => v = B true ∧ H' = plH c0 c3 (paB (stpB cst s p)) (naB (stpB cst s p)) n lp us := by
    intro s p hpl hpk hp0
    obtain ⟨ps, hps⟩ : ∃ ps, ps = p.map natI := ⟨_, rfl⟩
    rw [← hps]
    obtain ⟨pa, hpa⟩ : ∃ x, x = paB s := ⟨_, rfl⟩
    obtain ⟨na, hna⟩ : ∃ x, x = naB s := ⟨_, rfl⟩
    obtain ⟨R1, hR1⟩ : ∃ R1 : Env → AHeap → Prop, R1 = fun e1 H2 => Fits e1 [(2, .mp 1 0 0), (3, .mp 2 0 0), (6, .mp 3 0 0), (7, .vs 1 ps)] ∧ H2 = [.own 0 c0, .own 0 [pa], .own 0 [na], .own 0 c3, .own 0 [I iN], .raw 0 lp [.mp 1 0 0, .mp 2 0 0, .mp 3 0 0] us, .own 0 [.yl 5 0], .own 0 [.fn 52 [.mp 4 0 0, .mp 6 0 0, .mp 7 0 0]]] := ⟨_, rfl⟩
    show AYields Tryd.prog 5 [.vs 1 ps] [.own 0 c0, .own 0 [paB s], .own 0 [naB s], .own 0 c3, .own 0 [natI n], .raw 0 lp [.mp 1 0 0, .mp 2 0 0, .mp 3 0 0] us, .own 0 [.yl 5 0], .own 0 [.fn 52 [.mp 4 0 0, .mp 6 0 0, .mp 7 0 0]]] _
    rw [show natI n = I iN from by rw [hiN], ← hpa, ← hna]
    refine hY [.vs 1 ps] _ _ R1 rfl rfl (fun ro => ?_) (fun ro e1 H2 hr1 => ?_)
    · refine SGo_run hA ⟨[], [], [], []⟩ .nil .nil 200 fun T TD hT hTD => ?_
      cbv
      rw [hR1]
      exact ⟨⟨rfl, rfl, rfl, rfl, trivial⟩, rfl⟩
    · rw [hR1] at hr1
      obtain ⟨hf1, rfl⟩ := hr1
      refine ⟨rfl, ?_⟩
      refine AGo_forget [(2, .mp 1 0 0), (3, .mp 2 0 0), (6, .mp 3 0 0), (7, .vs 1 ps)] _ hf1 (.inl rfl) ?_ (by simp)
      refine AGo_opq fun R2 hR2 => ?_
      obtain ⟨x, r, rfl⟩ : ∃ x r, p = x :: r := by cases p with | nil => exact absurd rfl hp0 | cons x r => exact ⟨x, r, rfl⟩
      obtain ⟨LB, hLB⟩ : ∃ x : AObj, x = .raw 0 lb (esOf [(2, .mp 1 0 0), (3, .mp 2 0 0), (6, .mp 3 0 0)]) us := ⟨_, rfl⟩
      rw [← hLB]
      have hgo : ∀ e2 pa2 na2, pa2 = paB (stpB cst s (x :: r)) → na2 = naB (stpB cst s (x :: r)) → R2 e2 [.own 0 c0, .own 0 [pa2], .own 0 [na2], .own 0 c3, .own 0 [I iN], LB, .own 0 [.yl 5 0], .own 0 [.fn 52 [.mp 4 0 0, .mp 6 0 0, .mp 7 0 0]]] := fun e2 pa2 na2 q1 q2 => by
        refine hR2 _ _ ⟨by rw [hLB]; rfl, rfl, ?_⟩
        rw [q1, q2, hiN]; rfl
      clear hR2
      have hlt : ∀ u v, A.lt u v = decide (u < v) := by subst hA; intro u v; rfl
      rw [hc3] at hgo ⊢
      refine SGo_run hA ⟨[], [], (29, eCostF) :: [], []⟩ (.cons eCostF_ok .nil) .nil 200 fun T TD hT hTD => ?_
      cbv
      refine Exists.intro cs (Exists.intro os (Exists.intro (cs.map (·.1)) (Exists.intro (x :: r) (And.intro hxs (And.intro hys (And.intro hzs (And.intro hps (And.intro (by simp) (And.intro hc2 (And.intro (by omega) (And.intro hV.lo (And.intro hV.ords (And.intro (by rw [← hn]; exact hpk) (And.intro (by omega) ?_))))))))))))))
      intro q2 hq2
      rw [← hcst] at hq2
      cbv
      rw [hT]
      rcases s with _ | ⟨⟨y, r2⟩, m2⟩
      · have hpa : pa = .lit (.slice none 0 0) := hpa
        have hna : na = I 0 := hna
        subst hpa hna
        refine AGo_val (r := B true) rfl rfl ?_
        refine SGo_run hA ⟨[], [], [], []⟩ .nil .nil 200 fun T TD hT hTD => ?_
        cbv
        exact hgo _ _ _ (by rw [hps]; rfl) (by rw [hq2]; rfl)
      · have hpa : pa = .vs 1 (natI y :: r2.map natI) := hpa
        have hna : na = I m2 := hna
        obtain ⟨ys2, hys2⟩ : ∃ z, z = r2.map natI := ⟨_, rfl⟩
        obtain ⟨y1, hy1⟩ : ∃ z, z = natI y := ⟨_, rfl⟩
        rw [← hys2, ← hy1] at hpa
        subst hpa hna
        refine AGo_val (r := B false) rfl rfl ?_
        refine SGo_run hA ⟨[], [], [], []⟩ .nil .nil 200 fun T TD hT hTD => ?_
        cbv
        split <;> cbv
        · rename_i hz2
          have hz2 : q2 < m2 := by have hz2 := (hlt _ _).symm.trans hz2; simpa using hz2
          refine hgo _ _ _ ?_ ?_
          · simp only [stpB]; rw [if_pos (by rw [← hq2]; exact hz2), hps]; rfl
          · simp only [stpB]; rw [if_pos (by rw [← hq2]; exact hz2), hq2]; rfl
        · rename_i hz2
          have hz2 : ¬ q2 < m2 := by have hz2 := (hlt _ _).symm.trans hz2; simpa using hz2
          refine hgo _ _ _ ?_ ?_
          · simp only [stpB]; rw [if_neg (by rw [← hq2]; exact hz2), hys2, hy1]; rfl
          · simp only [stpB]; rw [if_neg (by rw [← hq2]; exact hz2)]; rfl
  have hg := p52n (rndB cst) (c0 := c0) (c3 := c3) (n := n) (f := n - 1) (lp := lp) (us := us) hn2 (by omega) h0 h3 hY2 none
  show ACalls Tryd.prog 51 [.yl 5 0, .mp 4 0 0] ([.own 0 [I a, I b, I c, I d, .vs 2 xs, .vs 4 ys], .own 0 [.lit (.slice none 0 0)], .own 0 [I 0], .own 0 [I a, I b, I c, I d, .vs 2 xs, .vs 4 ys, I b, I c, .vs 1 zs], .own 0 [I iN]] ++ [.raw 0 lp [.mp 1 0 0, .mp 2 0 0, .mp 3 0 0] us]) _
  rw [← hc0, ← hc3]
  refine go51 rfl ?_
  refine AGo_opq fun R hR => ?_
  refine SGo_run hA ⟨[], [1000006], [], []⟩ .nil .nil 200 fun T TD hT hTD => ?_
  cbv
  rw [hT]
  refine AGo_call rfl rfl ?_
  show ACalls Tryd.prog 52 [.lit (.slice none 0 0), .mp 4 0 0, .mp 6 0 0, .mp 7 0 0] [.own 0 c0, .own 0 [.lit (.slice none 0 0)], .own 0 [I 0], .own 0 c3, .own 0 [I iN], .raw 0 lp [.mp 1 0 0, .mp 2 0 0, .mp 3 0 0] us, .own 0 [.yl 5 0], .own 0 [.fn 52 [.mp 4 0 0, .mp 6 0 0, .mp 7 0 0]]] _
  rw [show I iN = natI n from by rw [hiN]]
  refine hg.mono fun v H' hx => ?_
  obtain ⟨rfl, rfl⟩ := hx
  obtain ⟨bb, hbb⟩ : ∃ x, x = (plansS n).foldl (stpB cst) none := ⟨_, rfl⟩
  rw [← hbb] at hWW
  show AGo _ _ _ _ _ [.own 0 c0, .own 0 [paB ((plansS n).foldl (stpB cst) none)], .own 0 [naB ((plansS n).foldl (stpB cst) none)], .own 0 c3, .own 0 [natI n], .raw 0 lp [.mp 1 0 0, .mp 2 0 0, .mp 3 0 0] us, .own 0 [.yl 5 0], .own 0 [.fn 52 [.mp 4 0 0, .mp 6 0 0, .mp 7 0 0]]]
  rw [← hbb]
  obtain ⟨pa, hpa⟩ : ∃ x, x = paB bb := ⟨_, rfl⟩
  obtain ⟨na, hna⟩ : ∃ x, x = naB bb := ⟨_, rfl⟩
  have hpn : pa.nid = true := by rw [hpa]; exact (rndB cst).hp bb
  have hnn : na.nid = true := by rw [hna]; exact (rndB cst).hn bb
  rw [← hpa, ← hna]
  refine SGo_run hA ⟨[], [], [], []⟩ .nil .nil 200 fun T TD hT hTD => ?_
  cbv
  refine hR _ _ (RetP.take rfl rfl ?_ ?_)
  · simp [ltHB, AV.ltLB, AV.ltB, nidL_ltBn h0, nidL_ltBn h3, nid_ltBn hpn, nid_ltBn hnn]
  refine ⟨rfl, ?_⟩
  show AGo _ _ _ _ _ [.own 0 c0, .own 0 [pa], .own 0 [na], .own 0 c3, .own 0 [natI n], .gone]
  obtain ⟨x5, hx5⟩ : ∃ x, x = natI n := ⟨_, rfl⟩
  rw [← hx5]
  rcases bb with _ | ⟨⟨y, r2⟩, m2⟩
  · have hpa : pa = .lit (.slice none 0 0) := hpa
    have hna : na = I 0 := hna
    subst hpa hna
    refine SGo_run hA ⟨[], [], [], []⟩ .nil .nil 200 fun T TD hT hTD => ?_
    cbv
    refine And.intro (by subst hA; exact .inr ⟨SubH.self _, trivial, .inr fun _ => SubH.self _⟩) ?_; cbv
    refine And.intro (by subst hA; exact .inr ⟨SubH.self _, trivial, .inr fun _ => SubH.self _⟩) ?_; cbv
    rw [hF]
    rw [hWW] at h
    exact Frees.wk (r' := .tup [.vs 1 [], I 0, I 0]) (Wk.tup ⟨Wk.nil, Wk.rfl, Wk.rfl, trivial⟩) (Frees.drop0 h rfl)
  · have hpa : pa = .vs 1 (natI y :: r2.map natI) := hpa
    have hna : na = I m2 := hna
    obtain ⟨zs2, hzs2⟩ : ∃ z, z = natI y :: r2.map natI := ⟨_, rfl⟩
    rw [← hzs2] at hpa
    subst hpa hna
    refine SGo_run hA ⟨[], [], [], []⟩ .nil .nil 200 fun T TD hT hTD => ?_
    cbv
    refine And.intro (by subst hA; exact .inr ⟨SubH.self _, trivial, .inr fun _ => SubH.self _⟩) ?_; cbv
    refine And.intro (by subst hA; exact .inr ⟨SubH.self _, trivial, .inr fun _ => SubH.self _⟩) ?_; cbv
    rw [hF]
    rw [hWW] at h
    rw [hzs2]
    exact Frees.drop0 h rfl
end Go.Sas
