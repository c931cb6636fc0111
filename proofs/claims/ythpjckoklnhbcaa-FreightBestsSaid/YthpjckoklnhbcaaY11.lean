/-
Freight: what valid freights are; entries of tables.
Freight: the best plan: contract of Best.
Conditions: none.
-/
import Derived.Test.YthpjckoklnhbcaaY10
set_option linter.unusedVariables false
set_option linter.unusedSimpArgs false
namespace Go.Sas
open Go.Proofs
set_option maxRecDepth 100000
theorem firstE_ok0 {α : Type} {f : α → Int} : ∀ {l : List α}, firstE f l = 0 → ∀ x ∈ l, f x = 0
  | [], _, _, hx => by simp at hx
  | a :: l, h, x, hx => by
    simp only [firstE] at h
    by_cases h1 : f a = 0
    · rw [if_pos h1] at h
      rcases List.mem_cons.1 hx with rfl | hx
      · exact h1
      · exact firstE_ok0 h x hx
    · rw [if_neg h1] at h; exact absurd h h1
structure FrtV (f : Frt) : Prop where
  c1 : 1 ≤ f.caps.length
  c2 : f.caps.length ≤ 200
  cb : ∀ x ∈ f.caps, 0 ≤ x.1 ∧ x.1 ≤ x.2 ∧ x.2 ≤ 1000000
  fi : 0 ≤ f.fi.1 ∧ f.fi.1 ≤ f.fi.2 ∧ f.fi.2 ≤ f.caps.length - 1
  la : 0 ≤ f.la.1 ∧ f.la.1 ≤ f.la.2 ∧ f.la.2 ≤ f.caps.length - 1
  o1 : 1 ≤ f.ords.length
  o2 : f.ords.length ≤ 6
  ob : ∀ o ∈ f.ords, (1 ≤ o.u ∧ o.u ≤ 1000000) ∧ (0 ≤ o.d ∧ o.d ≤ 200) ∧ (0 ≤ o.l ∧ o.l ≤ o.s ∧ o.s ≤ 1000000)
theorem faultF_ok {a b lo hi : Int} (h : faultF a b lo hi = 0) : lo ≤ a ∧ a ≤ b ∧ b ≤ hi := by
  unfold faultF at h
  split at h
  · omega
  · split at h <;> omega
theorem faultF_ok' {a b lo hi : Int} (h : lo ≤ a ∧ a ≤ b ∧ b ≤ hi) : faultF a b lo hi = 0 := by
  unfold faultF
  rw [if_neg (by omega), if_neg (by omega)]
theorem ordE_ok {o : Ord} (h : ordE o = 0) : (1 ≤ o.u ∧ o.u ≤ 1000000) ∧ (0 ≤ o.d ∧ o.d ≤ 200) ∧ (0 ≤ o.l ∧ o.l ≤ o.s ∧ o.s ≤ 1000000) := by
  unfold ordE at h
  split at h
  · omega
  · split at h <;> omega
theorem orElse_ok {a b : Int} (h : orElse a b = 0) : a = 0 ∧ b = 0 := by
  unfold orElse at h
  split at h <;> omega
theorem checkF_ok {f : Frt} (h : checkF f = 0) : FrtV f := by
  unfold checkF at h
  split at h
  · omega
  split at h
  · omega
  obtain ⟨h1, h2⟩ := orElse_ok h
  obtain ⟨h2, h3⟩ := orElse_ok h2
  obtain ⟨h3, h4⟩ := orElse_ok h3
  unfold orsF at h4
  split at h4
  · omega
  split at h4
  · omega
  exact ⟨by omega, by omega, fun x hx => faultF_ok (firstE_ok0 h1 x hx), faultF_ok h2, faultF_ok h3, by omega, by omega, fun o ho => ordE_ok (firstE_ok0 h4 o ho)⟩
theorem FrtV.ords {f : Frt} (h : FrtV f) : OrdsV f.ords := fun o ho => by
  obtain ⟨h1, h2, h3⟩ := h.ob o ho
  exact ⟨by omega, h2, by omega, by omega⟩
theorem FrtV.lo {f : Frt} (h : FrtV f) : ∀ x ∈ f.caps.map (·.1), 0 ≤ x ∧ x ≤ 1000000 := fun x hx => by
  obtain ⟨y, hy, rfl⟩ := List.mem_map.1 hx
  have := h.cb y hy; omega
theorem FrtV.hi {f : Frt} (h : FrtV f) : ∀ x ∈ f.caps.map (·.2), 0 ≤ x ∧ x ≤ 1000000 := fun x hx => by
  obtain ⟨y, hy, rfl⟩ := List.mem_map.1 hx
  have := h.cb y hy; omega
def eCheckFr : List AV → Option ((AV → Prop) → Prop)
  | [.agg [.lit (.int .i64 a), .lit (.int .i64 b), .lit (.int .i64 c), .lit (.int .i64 d), .vs 2 xs, .vs 4 ys]] =>
    some fun K => ∃ (cs : List (Int × Int)) (os : List Ord), xs = cs.map sp ∧ ys = os.map orV ∧ cs.length ≤ 9223372036854775807 ∧ os.length ≤ 9223372036854775807 ∧ ∀ q, q = checkF ⟨(a, b), (c, d), cs, os⟩ → K (I q)
  | _ => none
theorem eCheckFr_ok {f : Nat} (hf : ∀ (a b c d : Int) (cs : List (Int × Int)) (os : List Ord) (_ : cs.length ≤ 9223372036854775807) (_ : os.length ≤ 9223372036854775807) (H : AHeap) {Kk : AV → AHeap → Prop}, Kk (I (checkF ⟨(a, b), (c, d), cs, os⟩)) H → ACalls Try.prog f [frV a b c d (.vs 2 (cs.map sp)) (.vs 4 (os.map orV))] H Kk) :
    ∀ args pt, eCheckFr args = some pt → ∀ (H : AHeap) (Kk : AV → AHeap → Prop), pt (fun r => Kk r H) → ACalls Try.prog f args H Kk := by
  intro args pt h H Kk hk
  unfold eCheckFr at h
  split at h
  · cases h
    obtain ⟨cs, os, rfl, rfl, h1, h2, h3⟩ := hk
    exact hf _ _ _ _ _ _ h1 h2 H (h3 _ rfl)
  · cases h
/-- a season; first: its first day, its last day, what may go -/
def eSea (u v : Int → Int → Int → Int → Int) (w : Int × Int → Int) : List AV → Option ((AV → Prop) → Prop)
  | [.agg [.lit (.int .i64 a), .lit (.int .i64 b), .lit (.int .i64 c), .lit (.int .i64 d), .vs 2 xs, .vs 4 ys]] =>
    some fun K => ∃ (cs : List (Int × Int)), xs = cs.map sp ∧ cs.length ≤ 1000000 ∧ ∀ zs : List AV, zs = (cs.map w).map I → K (seaV a b c d (.vs 2 xs) (.vs 4 ys) (u a b c d) (v a b c d) (.vs 1 zs))
  | _ => none
theorem eWorst_ok : ∀ args pt, eSea (fun _ b _ _ => b) (fun _ _ c _ => c) (·.1) args = some pt → ∀ (H : AHeap) (Kk : AV → AHeap → Prop), pt (fun r => Kk r H) → ACalls Try.prog 71 args H Kk := by
  intro args pt h H Kk hk
  unfold eSea at h
  split at h
  · cases h
    obtain ⟨cs, rfl, h1, h2⟩ := hk
    exact p71 _ _ _ _ _ _ h1 H (by have := h2 _ rfl; rwa [List.map_map] at this)
  · cases h
theorem eBest_ok : ∀ args pt, eSea (fun a _ _ _ => a) (fun _ _ _ d => d) (·.2) args = some pt → ∀ (H : AHeap) (Kk : AV → AHeap → Prop), pt (fun r => Kk r H) → ACalls Try.prog 84 args H Kk := by
  intro args pt h H Kk hk
  unfold eSea at h
  split at h
  · cases h
    obtain ⟨cs, rfl, h1, h2⟩ := hk
    exact p84 _ _ _ _ _ _ h1 H (by have := h2 _ rfl; rwa [List.map_map] at this)
  · cases h
def ePlans : List AV → AHeap → Option PT
  | [.lit (.int .i64 n)], H => some fun K => ∃ (k : Nat) (i : Int), n = iLen k ∧ i = iLen k ∧ K (.fn 103 [.mp H.length 0 0]) (H ++ [.own 0 [I i]])
  | _, _ => none
theorem ePlans_ok : ∀ args H pt, ePlans args H = some pt → ∀ (Kk : AV → AHeap → Prop), pt Kk → ACalls Try.prog 72 args H Kk := by
  intro args H pt h Kk hk
  unfold ePlans at h
  split at h
  · cases h
    obtain ⟨k, i9, rfl, rfl, h9⟩ := hk
    have h1 : ACalls Try.prog 72 [natI k] [] fun r H' => r = .fn 103 [.mp 0 0 0] ∧ H' = [.own 0 [natI k]] := by
      clear h9 Kk
      obtain ⟨Kk, hKk⟩ : ∃ K : AV → AHeap → Prop, K = fun r H' => r = .fn 103 [.mp 0 0 0] ∧ H' = [.own 0 [natI k]] := ⟨_, rfl⟩
      rw [← hKk]
      have hk : Kk (.fn 103 [.mp 0 0 0]) [.own 0 [natI k]] := by rw [hKk]; exact ⟨rfl, rfl⟩
      clear hKk
      obtain ⟨ik, hik⟩ : ∃ i : Int, i = iLen k := ⟨_, rfl⟩
      show ACalls Try.prog 72 [I (iLen k)] [] Kk
      have hk : Kk (.fn 103 [.mp 0 0 0]) [.own 0 [I (iLen k)]] := hk
      rw [← hik] at hk ⊢
      obtain ⟨A, hA⟩ : ∃ A, A = std := ⟨_, rfl⟩
      refine go72 rfl (SGo_run hA ⟨[], [], [], []⟩ .nil .nil 200 fun T TD hT hTD => ?_)
      cbv
      exact hk
    have h2 := ACalls.frame (H := H) [] h1 List.nodup_nil rfl (AV.ltL_nid (by simp [AV.nidL, AV.nid])) (by simp [ltH]) (fun k X hk => by simp at hk)
    rw [AV.renL_nid (by simp [AV.nidL, AV.nid])] at h2
    refine h2.mono fun r H' hx => ?_
    obtain ⟨r0, H1, ⟨rfl, rfl⟩, _, rfl, rfl⟩ := hx
    simpa [merge, updL, more, AV.ren, AV.renL, at_, AObj.ren, List.range'] using h9
  · cases h
end Go.Sas
namespace Go.Sas
open Go.Proofs
set_option maxRecDepth 100000
def worstW (f : Frt) : Win := ⟨f.fi.2, f.la.1, f.caps.map (·.1)⟩
def bestW (f : Frt) : Win := ⟨f.fi.1, f.la.2, f.caps.map (·.2)⟩
/-- the best so far: a plan that is not empty, and its cost -/
def stpB (c : List Nat → Int) (s : Option ((Nat × List Nat) × Int)) (p : List Nat) : Option ((Nat × List Nat) × Int) := match p with
  | [] => s
  | x :: r => match s with
    | none => some ((x, r), c p)
    | some (q, m) => if c p < m then some ((x, r), c p) else some (q, m)
def plansS (n : Nat) : List (List Nat) := growP n n []
/-- the best plan of a valid freight -/
def bestO (f : Frt) : Option ((Nat × List Nat) × Int) := (plansS f.ords.length).foldl (stpB (costS f.ords f.caps.length (worstW f))) none
def bestS (f : Frt) : List Nat × Int × Int := if checkF f ≠ 0 then ([], 0, checkF f) else match bestO f with
  | none => ([], 0, 0)
  | some ((x, r), n) => (x :: r, n, 0)
def paB : Option ((Nat × List Nat) × Int) → AV
  | none => .lit (.slice none 0 0)
  | some ((x, r), _) => .vs 1 (natI x :: r.map natI)
def naB : Option ((Nat × List Nat) × Int) → AV
  | none => I 0
  | some (_, n) => I n
def rndB (c : List Nat → Int) : Rnd := ⟨Option ((Nat × List Nat) × Int), paB, naB, stpB c, fun s => by rcases s with _ | ⟨⟨_, _⟩, _⟩ <;> rfl, fun s => by cases s <;> rfl⟩
theorem p24 (a b c d : Int) (cs : List (Int × Int)) (os : List Ord) (hc : cs.length ≤ 9223372036854775807) (ho : os.length ≤ 9223372036854775807) (H : AHeap) {Kk : AV → AHeap → Prop}
    (h : Kk (.tup [.vs 1 ((bestS ⟨(a, b), (c, d), cs, os⟩).1.map natI), I (bestS ⟨(a, b), (c, d), cs, os⟩).2.1, I (bestS ⟨(a, b), (c, d), cs, os⟩).2.2]) H) :
    ACalls Try.prog 24 [frV a b c d (.vs 2 (cs.map sp)) (.vs 4 (os.map orV))] H Kk := by
  refine (fun q => pureF (by rfl) (by rfl) q H h) ?_
  clear h
  intro Kk h
  obtain ⟨xs, hxs⟩ : ∃ xs, xs = cs.map sp := ⟨_, rfl⟩
  obtain ⟨ys, hys⟩ : ∃ ys, ys = os.map orV := ⟨_, rfl⟩
  rw [← hxs, ← hys]
  obtain ⟨W, hW⟩ : ∃ W, W = bestS ⟨(a, b), (c, d), cs, os⟩ := ⟨_, rfl⟩
  rw [← hW] at h
  obtain ⟨n, hn⟩ : ∃ n, n = os.length := ⟨_, rfl⟩
  obtain ⟨iN, hiN⟩ : ∃ i : Int, i = iLen n := ⟨_, rfl⟩
  obtain ⟨A, hA⟩ : ∃ A, A = std := ⟨_, rfl⟩
  obtain ⟨F, hF⟩ : ∃ F, F = Frees 0 Kk := ⟨_, rfl⟩
  rw [← hF]
  have hsg : ∀ g, A.sg g g := by subst hA; exact fun _ => rfl
  have hv2 : A.vlen ys = iLen n := by subst hA; simp [std, hys, hn]
  refine go24 rfl (SGo_run hA ⟨[], [], (19, eCheckFr) :: (71, eSea (fun _ b _ _ => b) (fun _ _ c _ => c) (·.1)) :: [], (72, ePlans) :: []⟩ (.cons (eCheckFr_ok p19) (.cons eWorst_ok .nil)) (.cons ePlans_ok .nil) 200 fun T TD hT hTD => ?_)
  cbv
  refine Exists.intro cs (Exists.intro os (And.intro hxs (And.intro hys (And.intro hc (And.intro ho ?_)))))
  intro q hq; cbv
  split <;> cbv
  · rename_i hz
    have hz : q ≠ 0 := by have hz : A.ne q 0 = true := hz; subst hA; simpa [std, iNe] using hz
    unfold bestS at hW
    rw [← hq, if_pos hz] at hW
    rw [hW] at h
    rw [hF]
    exact Frees.wk (r' := .tup [.vs 1 [], I 0, I q]) (Wk.tup ⟨Wk.nil, Wk.rfl, Wk.rfl, trivial⟩) (Frees.drop0 h rfl)
  rename_i hz
  have hz : q = 0 := by have hz : A.ne q 0 = false := hz; subst hA; simpa [std, iNe] using hz
  unfold bestS at hW
  rw [← hq, if_neg (by simp [hz])] at hW
  rw [hz] at hq
  have hV := checkF_ok hq.symm
  refine Exists.intro cs (And.intro hxs (And.intro (by have := hV.c2; dsimp only at this; omega) ?_))
  intro zs hzs; cbv
  refine Exists.intro n (Exists.intro iN (And.intro hv2 (And.intro hiN ?_))); cbv
  rw [hT]
  have hn1 := hV.o1
  have hn2 := hV.o2
  have hc2 := hV.c2
  dsimp only at hn1 hn2 hc2
  rw [← hn] at hn1 hn2
  obtain ⟨cst, hcst⟩ : ∃ k : List Nat → Int, k = costS os cs.length ⟨b, c, cs.map (·.1)⟩ := ⟨_, rfl⟩
  have hWW : W = match (plansS n).foldl (stpB cst) none with | none => ([], 0, 0) | some ((x, r), n) => (x :: r, n, 0) := by rw [hW, bestO, hn, hcst]; rfl
  clear hW
  obtain ⟨c0, hc0⟩ : ∃ x : List AV, x = [I a, I b, I c, I d, .vs 2 xs, .vs 4 ys] := ⟨_, rfl⟩
  obtain ⟨c3, hc3⟩ : ∃ x : List AV, x = [I a, I b, I c, I d, .vs 2 xs, .vs 4 ys, I b, I c, .vs 1 zs] := ⟨_, rfl⟩
  have h0 : AV.nidL c0 = true := by rw [hc0]; rfl
  have h3 : AV.nidL c3 = true := by rw [hc3]; rfl
  refine AGo_range (fid := 103) (caps := [.mp 4 0 0]) rfl rfl [(2, .mp 1 0 0), (3, .mp 2 0 0), (6, .mp 3 0 0)] ⟨rfl, rfl, rfl, trivial⟩ rfl ?_
  intro lp lb us hY
  have hY2 : ∀ (s : Option ((Nat × List Nat) × Int)) (p : List Nat), p.length = n → (∀ k ∈ p, k < n) → p ≠ [] → AYields Try.prog 5 [.vs 1 (p.map natI)] (plH c0 c3 (paB s) (naB s) n lp us) fun v H' => v = B true ∧ H' = plH c0 c3 (paB (stpB cst s p)) (naB (stpB cst s p)) n lp us := by
    intro s p hpl hpk hp0
    obtain ⟨ps, hps⟩ : ∃ ps, ps = p.map natI := ⟨_, rfl⟩
    rw [← hps]
    obtain ⟨pa, hpa⟩ : ∃ x, x = paB s := ⟨_, rfl⟩
    obtain ⟨na, hna⟩ : ∃ x, x = naB s := ⟨_, rfl⟩
    obtain ⟨R1, hR1⟩ : ∃ R1 : Env → AHeap → Prop, R1 = fun e1 H2 => Fits e1 [(2, .mp 1 0 0), (3, .mp 2 0 0), (6, .mp 3 0 0), (7, .vs 1 ps)] ∧ H2 = [.own 0 c0, .own 0 [pa], .own 0 [na], .own 0 c3, .own 0 [I iN], .raw 0 lp [.mp 1 0 0, .mp 2 0 0, .mp 3 0 0] us, .own 0 [.yl 5 0], .own 0 [.fn 104 [.mp 4 0 0, .mp 6 0 0, .mp 7 0 0]]] := ⟨_, rfl⟩
    show AYields Try.prog 5 [.vs 1 ps] [.own 0 c0, .own 0 [paB s], .own 0 [naB s], .own 0 c3, .own 0 [natI n], .raw 0 lp [.mp 1 0 0, .mp 2 0 0, .mp 3 0 0] us, .own 0 [.yl 5 0], .own 0 [.fn 104 [.mp 4 0 0, .mp 6 0 0, .mp 7 0 0]]] _
    rw [show natI n = I iN from by rw [hiN], ← hpa, ← hna]
    refine hY [.vs 1 ps] _ _ R1 rfl rfl (fun ro => ?_) (fun ro e1 H2 hr1 => ?_)
    · refine SGo_run hA ⟨[], [], [], []⟩ .nil .nil 200 fun T TD hT hTD => ?_
      cbv
      rw [hR1]
      exact ⟨⟨rfl, rfl, rfl, rfl, trivial⟩, rfl⟩
    · rw [hR1] at hr1
      obtain ⟨hf1, rfl⟩ := hr1
      refine ⟨rfl, ?_⟩
      refine AGo_forget [(2, .mp 1 0 0), (3, .mp 2 0 0), (6, .mp 3 0 0), (7, .vs 1 ps)] _ hf1 (.inl rfl) ?_ (by simp)
      refine AGo_opq fun R2 hR2 => ?_
      obtain ⟨x, r, rfl⟩ : ∃ x r, p = x :: r := by cases p with | nil => exact absurd rfl hp0 | cons x r => exact ⟨x, r, rfl⟩
      obtain ⟨LB, hLB⟩ : ∃ x : AObj, x = .raw 0 lb (esOf [(2, .mp 1 0 0), (3, .mp 2 0 0), (6, .mp 3 0 0)]) us := ⟨_, rfl⟩
      rw [← hLB]
      have hgo : ∀ e2 pa2 na2, pa2 = paB (stpB cst s (x :: r)) → na2 = naB (stpB cst s (x :: r)) → R2 e2 [.own 0 c0, .own 0 [pa2], .own 0 [na2], .own 0 c3, .own 0 [I iN], LB, .own 0 [.yl 5 0], .own 0 [.fn 104 [.mp 4 0 0, .mp 6 0 0, .mp 7 0 0]]] := fun e2 pa2 na2 q1 q2 => by
        refine hR2 _ _ ⟨by rw [hLB]; rfl, rfl, ?_⟩
        rw [q1, q2, hiN]; rfl
      clear hR2
      have hlt : ∀ u v, A.lt u v = decide (u < v) := by subst hA; intro u v; rfl
      rw [hc3] at hgo ⊢
      refine SGo_run hA ⟨[], [], (73, eCostF) :: [], []⟩ (.cons eCostF_ok .nil) .nil 200 fun T TD hT hTD => ?_
      cbv
      refine Exists.intro cs (Exists.intro os (Exists.intro (cs.map (·.1)) (Exists.intro (x :: r) (And.intro hxs (And.intro hys (And.intro hzs (And.intro hps (And.intro (by simp) (And.intro hc2 (And.intro (by omega) (And.intro hV.lo (And.intro hV.ords (And.intro (by rw [← hn]; exact hpk) (And.intro (by omega) ?_))))))))))))))
      intro q2 hq2
      rw [← hcst] at hq2
      cbv
      rw [hT]
      rcases s with _ | ⟨⟨y, r2⟩, m2⟩
      · have hpa : pa = .lit (.slice none 0 0) := hpa
        have hna : na = I 0 := hna
        subst hpa hna
        refine AGo_val (r := B true) rfl rfl ?_
        refine SGo_run hA ⟨[], [], [], []⟩ .nil .nil 200 fun T TD hT hTD => ?_
        cbv
        exact hgo _ _ _ (by rw [hps]; rfl) (by rw [hq2]; rfl)
      · have hpa : pa = .vs 1 (natI y :: r2.map natI) := hpa
        have hna : na = I m2 := hna
        obtain ⟨ys2, hys2⟩ : ∃ z, z = r2.map natI := ⟨_, rfl⟩
        obtain ⟨y1, hy1⟩ : ∃ z, z = natI y := ⟨_, rfl⟩
        rw [← hys2, ← hy1] at hpa
        subst hpa hna
        refine AGo_val (r := B false) rfl rfl ?_
        refine SGo_run hA ⟨[], [], [], []⟩ .nil .nil 200 fun T TD hT hTD => ?_
        cbv
        split <;> cbv
        · rename_i hz2
          have hz2 : q2 < m2 := by have hz2 := (hlt _ _).symm.trans hz2; simpa using hz2
          refine hgo _ _ _ ?_ ?_
          · simp only [stpB]; rw [if_pos (by rw [← hq2]; exact hz2), hps]; rfl
          · simp only [stpB]; rw [if_pos (by rw [← hq2]; exact hz2), hq2]; rfl
        · rename_i hz2
          have hz2 : ¬ q2 < m2 := by have hz2 := (hlt _ _).symm.trans hz2; simpa using hz2
          refine hgo _ _ _ ?_ ?_
          · simp only [stpB]; rw [if_neg (by rw [← hq2]; exact hz2), hys2, hy1]; rfl
          · simp only [stpB]; rw [if_neg (by rw [← hq2]; exact hz2)]; rfl
  have hg := p104n (rndB cst) (c0 := c0) (c3 := c3) (n := n) (f := n - 1) (lp := lp) (us := us) hn2 (by omega) h0 h3 hY2 none
  show ACalls Try.prog 103 [.yl 5 0, .mp 4 0 0] ([.own 0 [I a, I b, I c, I d, .vs 2 xs, .vs 4 ys], .own 0 [.lit (.slice none 0 0)], .own 0 [I 0], .own 0 [I a, I b, I c, I d, .vs 2 xs, .vs 4 ys, I b, I c, .vs 1 zs], .own 0 [I iN]] ++ [.raw 0 lp [.mp 1 0 0, .mp 2 0 0, .mp 3 0 0] us]) _
  rw [← hc0, ← hc3]
  refine go103 rfl ?_
  refine AGo_opq fun R hR => ?_
  refine SGo_run hA ⟨[], [1000006], [], []⟩ .nil .nil 200 fun T TD hT hTD => ?_
  cbv
  rw [hT]
  refine AGo_call rfl rfl ?_
  show ACalls Try.prog 104 [.lit (.slice none 0 0), .mp 4 0 0, .mp 6 0 0, .mp 7 0 0] [.own 0 c0, .own 0 [.lit (.slice none 0 0)], .own 0 [I 0], .own 0 c3, .own 0 [I iN], .raw 0 lp [.mp 1 0 0, .mp 2 0 0, .mp 3 0 0] us, .own 0 [.yl 5 0], .own 0 [.fn 104 [.mp 4 0 0, .mp 6 0 0, .mp 7 0 0]]] _
  rw [show I iN = natI n from by rw [hiN]]
  refine hg.mono fun v H' hx => ?_
  obtain ⟨rfl, rfl⟩ := hx
  obtain ⟨bb, hbb⟩ : ∃ x, x = (plansS n).foldl (stpB cst) none := ⟨_, rfl⟩
  rw [← hbb] at hWW
  show AGo _ _ _ _ _ [.own 0 c0, .own 0 [paB ((plansS n).foldl (stpB cst) none)], .own 0 [naB ((plansS n).foldl (stpB cst) none)], .own 0 c3, .own 0 [natI n], .raw 0 lp [.mp 1 0 0, .mp 2 0 0, .mp 3 0 0] us, .own 0 [.yl 5 0], .own 0 [.fn 104 [.mp 4 0 0, .mp 6 0 0, .mp 7 0 0]]]
  rw [← hbb]
  obtain ⟨pa, hpa⟩ : ∃ x, x = paB bb := ⟨_, rfl⟩
  obtain ⟨na, hna⟩ : ∃ x, x = naB bb := ⟨_, rfl⟩
  have hpn : pa.nid = true := by rw [hpa]; exact (rndB cst).hp bb
  have hnn : na.nid = true := by rw [hna]; exact (rndB cst).hn bb
  rw [← hpa, ← hna]
  refine SGo_run hA ⟨[], [], [], []⟩ .nil .nil 200 fun T TD hT hTD => ?_
  cbv
  refine hR _ _ (RetP.take rfl rfl ?_ ?_)
  · simp [ltHB, AV.ltLB, AV.ltB, nidL_ltBn h0, nidL_ltBn h3, nid_ltBn hpn, nid_ltBn hnn]
  refine ⟨rfl, ?_⟩
  show AGo _ _ _ _ _ [.own 0 c0, .own 0 [pa], .own 0 [na], .own 0 c3, .own 0 [natI n], .gone]
  obtain ⟨x5, hx5⟩ : ∃ x, x = natI n := ⟨_, rfl⟩
  rw [← hx5]
  rcases bb with _ | ⟨⟨y, r2⟩, m2⟩
  · have hpa : pa = .lit (.slice none 0 0) := hpa
    have hna : na = I 0 := hna
    subst hpa hna
    refine SGo_run hA ⟨[], [], [], []⟩ .nil .nil 200 fun T TD hT hTD => ?_
    cbv
    refine And.intro (by subst hA; exact .inr ⟨SubH.self _, trivial, .inr fun _ => SubH.self _⟩) ?_; cbv
    refine And.intro (by subst hA; exact .inr ⟨SubH.self _, trivial, .inr fun _ => SubH.self _⟩) ?_; cbv
    rw [hF]
    rw [hWW] at h
    exact Frees.wk (r' := .tup [.vs 1 [], I 0, I 0]) (Wk.tup ⟨Wk.nil, Wk.rfl, Wk.rfl, trivial⟩) (Frees.drop0 h rfl)
  · have hpa : pa = .vs 1 (natI y :: r2.map natI) := hpa
    have hna : na = I m2 := hna
    obtain ⟨zs2, hzs2⟩ : ∃ z, z = natI y :: r2.map natI := ⟨_, rfl⟩
    rw [← hzs2] at hpa
    subst hpa hna
    refine SGo_run hA ⟨[], [], [], []⟩ .nil .nil 200 fun T TD hT hTD => ?_
    cbv
    refine And.intro (by subst hA; exact .inr ⟨SubH.self _, trivial, .inr fun _ => SubH.self _⟩) ?_; cbv
    refine And.intro (by subst hA; exact .inr ⟨SubH.self _, trivial, .inr fun _ => SubH.self _⟩) ?_; cbv
    rw [hF]
    rw [hWW] at h
    rw [hzs2]
    exact Frees.drop0 h rfl
end Go.Sas
