/-
Roads that are drawn whole, and truths of them.
Conditions: none.
-/
import Derived.Test.YtelmlpjkpebcgaaB22
set_option linter.unusedVariables false
set_option linter.unusedSimpArgs false
namespace Go.Sas
open Go.Proofs
set_option maxRecDepth 100000
theorem firstE_of {α : Type} {f : α → Int} : ∀ {l : List α}, (∀ x ∈ l, f x = 0) → firstE f l = 0
  | [], _ => rfl
  | x :: l, h => by simp only [firstE, h x (by simp)]; simp; exact firstE_of fun y hy => h y (by simp [hy])
theorem faultS_of {a b lo hi : Int} (h : lo ≤ a ∧ a ≤ b ∧ b ≤ hi) : faultS a b lo hi = 0 := by unfold faultS; rw [if_neg (by omega), if_neg (by omega)]
theorem faultsS_of {l : List (Int × Int)} {most high : Int} (hl : (l.length : Int) ≤ most) (h : ∀ x ∈ l, 0 ≤ x.1 ∧ x.1 ≤ x.2 ∧ x.2 ≤ high) : faultsS l most high = 0 := by
  unfold faultsS
  rw [if_neg (by omega)]
  exact firstE_of fun x hx => faultS_of (h x hx)
theorem loadsS_of {l : List Load} {places : Int} (hl : l.length ≤ 30) (h : ∀ x ∈ l, LoadV places x) : loadsS places l = 0 := by
  unfold loadsS
  rw [if_neg (by omega)]
  refine firstE_of fun x hx => ?_
  obtain ⟨h1, h2, h3, h4, h5, h6, h7⟩ := h x hx
  unfold loadE
  rw [if_neg (by omega), if_neg (by simp [faultS_of ⟨h3, h4, h5⟩]), if_neg (by omega)]
theorem roadS_of {p : Plate} {ice cr : List (Int × Int)} (hp : checkS p = 0) (h1 : ice.length ≤ 1000) (h2 : ∀ x ∈ ice, 0 ≤ x.1 ∧ x.1 ≤ x.2 ∧ x.2 ≤ 5000) (h3 : cr.length ≤ 50) (h4 : ∀ x ∈ cr, 0 ≤ x.1 ∧ x.1 ≤ x.2 ∧ x.2 ≤ 100000) : checkAllS p ice cr = 0 := by
  unfold checkAllS
  rw [if_neg (by simp [hp]), faultsS_of (by omega) h2]
  simp
  exact faultsS_of (by omega) h4
/-- a plate with ice, cracks and loads that fit -/
structure MadeV (p : Plate) (ice cr : List (Int × Int)) (l : List Load) : Prop where
  pl : checkS p = 0
  il : 1 ≤ ice.length ∧ ice.length ≤ 4
  ib : ∀ x ∈ ice, 0 ≤ x.1 ∧ x.1 ≤ x.2 ∧ x.2 ≤ 1500
  cl : cr.length ≤ 3
  cb : ∀ x ∈ cr, 0 ≤ x.1 ∧ x.1 ≤ 100 * iLen ice.length - 1 ∧ x.1 ≤ x.2 ∧ x.2 ≤ x.1 + 30
  ll : l.length ≤ 5
  lb : ∀ x ∈ l, LoadV ice.length x
theorem MadeV.all {p : Plate} {ice cr : List (Int × Int)} {l : List Load} (h : MadeV p ice cr l) : checkAllS p ice cr = 0 := by
  obtain ⟨h1, h2, h3, h4, h5, h6, h7⟩ := h
  unfold iLen at h5
  exact roadS_of h1 (by omega) (fun x hx => by have := h3 x hx; omega) (by omega) fun x hx => by have := h5 x hx; omega
theorem MadeV.road {p : Plate} {ice cr : List (Int × Int)} {l : List Load} (h : MadeV p ice cr l) : RoadV p ice cr := checkAllS_ok h.all
theorem MadeV.holds {p : Plate} {ice cr : List (Int × Int)} {l : List Load} (h : MadeV p ice cr l) : holdsS p ice cr l = (l.map (veS p ice cr l), 0) := by
  unfold holdsS
  rw [if_neg (by simp [h.all]), if_neg (by simp [loadsS_of (by have := h.ll; omega) h.lb])]
def MdQ (r : AV) : Prop := ∃ (p : Plate) (a b : Int) (xs ec : List AV) (ne ed gr lo hi sh wi : Int) (ice cr : List (Int × Int)) (l : List Load) (xi xc xl : List AV),
  r = .agg [I a, I b, .vs 2 xs, .vs 2 ec, I ne, I ed, I gr, I lo, I hi, I sh, I wi, .vs 2 xi, .vs 2 xc, .vs 4 xl] ∧ PlateIs p a b xs ec ne ed gr lo hi sh wi ∧ xi = ice.map sp ∧ xc = cr.map sp ∧ xl = l.map ldV ∧ MadeV p ice cr l
theorem d28 : Draws Try.prog 28 [] MdQ := by
  refine .of rfl (by rintro r ⟨p, a, b, xs, ec, ne, ed, gr, lo, hi, sh, wi, ice, cr, l, xi, xc, xl, rfl, _⟩; rfl) fun w Kk h => ?_
  obtain ⟨A, hA⟩ : ∃ A, A = std := ⟨_, rfl⟩
  refine go28 rfl (SGo_run hA ⟨[], [], [], edl⟩ .nil edl_ok 200 fun T TD hT hTD => ?_)
  cbv
  refine Exists.intro () (And.intro trivial ?_)
  rintro w2 _ ⟨p2, a2, b2, xs2, ec2, ne2, ed2, gr2, lo2, hi2, sh2, wi2, rfl, hp2, hv2⟩
  cbv
  refine Exists.intro () (And.intro (by omega) ?_)
  rintro w3 _ ⟨beds, xb, rfl, hxb, hbl, hbd⟩
  have hvb : A.vlen xb = iLen beds.length := by subst hA; simp [std, hxb]
  have hb4 : 1 ≤ A.vlen xb ∧ A.vlen xb ≤ 1000 := by rw [hvb]; omega
  cbv
  refine Exists.intro () (And.intro (And.intro (by exact hb4) (by omega)) ?_)
  rintro w4 _ ⟨cr2, xc2, rfl, hxc2, hcl2, hcd2⟩
  cbv
  refine Exists.intro () (And.intro (And.intro (by exact hb4) (by omega)) ?_)
  rintro w5 _ ⟨l2, xl2, rfl, hxl2, hll2, hld2⟩
  cbv
  refine h _ _ ?_
  refine Exists.intro p2 (Exists.intro a2 (Exists.intro b2 (Exists.intro xs2 (Exists.intro ec2 (Exists.intro ne2 (Exists.intro ed2 (Exists.intro gr2 (Exists.intro lo2 (Exists.intro hi2 (Exists.intro sh2 (Exists.intro wi2 (Exists.intro beds (Exists.intro cr2 (Exists.intro l2 (Exists.intro xb (Exists.intro xc2 (Exists.intro xl2 (And.intro rfl (And.intro hp2 (And.intro hxb (And.intro hxc2 (And.intro hxl2 ?_))))))))))))))))))))))
  have hcd2 : ∀ x ∈ cr2, 0 ≤ x.1 ∧ x.1 ≤ 100 * A.vlen xb - 1 ∧ x.1 ≤ x.2 ∧ x.2 ≤ x.1 + 30 := hcd2
  have hld2 : ∀ x ∈ l2, LoadV (A.vlen xb) x := hld2
  rw [hvb] at hcd2 hld2
  unfold iLen at hbl hcl2 hll2
  exact ⟨hv2, by omega, hbd, by omega, hcd2, by omega, hld2⟩
theorem d30 (l : List (Int × Int)) (hl : l.length < 1000000) (hb : ∀ x ∈ l, -1000000000 ≤ x.1 ∧ x.1 ≤ x.2 ∧ x.2 ≤ 1000000000) : Draws Try.prog 30 [.vs 2 (l.map sp)] (LsQ 1 I fun r => Ins r l) := by
  refine .of rfl (by rintro r ⟨l, xs, rfl, _⟩; rfl) fun w Kk h => ACalls.frees ?_
  obtain ⟨A, hA⟩ : ∃ A, A = std := ⟨_, rfl⟩
  have hsg : ∀ g, A.sg g g := by subst hA; exact fun _ => rfl
  obtain ⟨F, hF⟩ : ∃ F, F = Frees 1 Kk := ⟨_, rfl⟩
  rw [show Frees [AObj.own 0 [U w]].length Kk = F from hF.symm]
  obtain ⟨ys, hys⟩ : ∃ ys, ys = l.map sp := ⟨_, rfl⟩
  rw [← hys]
  refine go30 rfl (SGo_run hA ⟨[], [], [], ed3⟩ .nil ed3_ok 200 fun T TD hT hTD => ?_)
  cbv
  rw [hT]
  refine AGo_nilms 5 1 rfl ?_
  refine AGo_upS l.length (fun j (s : Int × List Int) => s.2.length = j ∧ Ins s.2 (l.take j)) (fun j _ i => [(0, .mp 0 0 0), (1, .vs 2 ys), (5, .ms 1 1 j 0 j), (6, I i)]) (fun j s => [.own 0 [U s.1], .own j (s.2.map I)]) (_, []) ⟨rfl, trivial⟩ ⟨rfl, rfl, rfl, rfl, trivial⟩ (.inl rfl) ?_
  rintro j ⟨w1, s⟩ i hi hj ⟨hsl, hP⟩ Bk hB
  simp only at hsl hP
  have hlt : A.lt i (A.vlen ys) = decide (j < l.length) := by subst hA; exact lt_len (by simp [hys]) hi
  have hadd : j < l.length → A.add .i64 i 1 = iLen (j + 1) := fun hj => by subst hA; exact add_one hi hj (by omega)
  obtain ⟨cs, hcs⟩ : ∃ cs, cs = s.map I := ⟨_, rfl⟩
  have hcl : cs.length = j * 1 := by rw [hcs]; simp [hsl]
  simp only
  rw [← hcs]
  refine SGo_run hA ⟨[1], [], [], ed3⟩ .nil ed3_ok 200 fun T TD hT hTD => ?_
  cbv
  split <;> cbv
  · rename_i hk1
    have hk1 : j < l.length := by have := hlt.symm.trans hk1; simpa using this
    obtain ⟨⟨x, y⟩, hx⟩ : ∃ x, l[j]? = some x := ⟨_, List.getElem?_eq_getElem hk1⟩
    have hxb := hb (x, y) (List.mem_of_getElem? hx)
    have hix : A.ix 2 2 ys i [I x, I y] := by subst hA; exact ix_map hys hi hx rfl
    refine Exists.intro _ (And.intro hix ?_)
    cbv
    refine Exists.intro () (And.intro (by exact hxb) ?_)
    rintro w2 _ ⟨u, rfl, hu1, hu2⟩
    cbv
    refine And.intro (hsg _) (Exists.intro (cs ++ [I u]) (Exists.intro (j + 1) (And.intro (by subst hA; exact app_one hcl rfl (by omega)) (And.intro rfl ?_))))
    generalize hc2 : cs ++ [I u] = cs2
    cbv
    refine hB (w2, s ++ [u]) _ _ hk1 ⟨by simp [hsl], ?_⟩ ⟨rfl, rfl, rfl, congrArg I (hadd hk1), trivial⟩ (.inl ?_)
    · rw [List.take_add_one, hx]
      exact Ins.app hP ⟨hu1, hu2⟩
    · rw [← hc2, hcs]; simp
  · rename_i hk1
    have hk1 : ¬ j < l.length := by have := hlt.symm.trans hk1; simpa using this
    rw [hF]
    rw [List.take_of_length_le (by omega)] at hP
    refine Frees.row (xs := s.map I) (by rw [hcs]; exact Elems_I s) (frz_self (by simp [hsl])) rfl (h _ _ ⟨s, _, rfl, rfl, hP⟩)
theorem p31 (l : List Load) (hl : l.length < 1000000) (H : AHeap) {Kk : AV → AHeap → Prop} (h : Kk (.vs 2 ((l.map (·.w)).map sp)) H) : ACalls Try.prog 31 [.vs 4 (l.map ldV)] H Kk := by
  refine (fun q => pureF (by rfl) (by rfl) q H h) ?_
  clear h
  intro Kk h
  obtain ⟨A, hA⟩ : ∃ A, A = std := ⟨_, rfl⟩
  obtain ⟨xs, hxs⟩ : ∃ xs, xs = l.map ldV := ⟨_, rfl⟩
  rw [← hxs]
  have hsg : ∀ g, A.sg g g := by subst hA; exact fun _ => rfl
  obtain ⟨F, hF⟩ : ∃ F, F = Frees 0 Kk := ⟨_, rfl⟩
  rw [← hF]
  refine go31 rfl (SGo_run hA ⟨[], [], [], []⟩ .nil .nil 200 fun T TD hT hTD => ?_)
  cbv
  rw [hT]
  refine AGo_nilms 3 2 rfl ?_
  refine AGo_up l.length (fun _ => True) (fun j i => [(0, .vs 4 xs), (3, .ms 2 0 j 0 j), (4, I i)]) (fun j => [.own j ((l.take j).flatMap fun x => [I x.w.1, I x.w.2])]) trivial ⟨rfl, rfl, rfl, trivial⟩ (.inl rfl) fun j i hi hj hP Bk hB => ?_
  have hlt : A.lt i (A.vlen xs) = decide (j < l.length) := by subst hA; exact lt_len (by simp [hxs]) hi
  have hadd : ∀ N, j < N → N ≤ 9223372036854775807 → A.add .i64 i 1 = iLen (j + 1) := fun N hj hN => by subst hA; exact add_one hi hj hN
  have hcl : ((l.take j).flatMap fun x => [I x.w.1, I x.w.2]).length = j * 2 := by rw [len_flat (k := 2) (fun _ => rfl)]; simp; omega
  obtain ⟨cs, hcs⟩ : ∃ cs, cs = (l.take j).flatMap fun x => [I x.w.1, I x.w.2] := ⟨_, rfl⟩
  rw [← hcs] at hcl
  rw [← hcs]
  refine SGo_run hA ⟨[0], [], [], []⟩ .nil .nil 200 fun T TD hT hTD => ?_
  cbv
  split <;> cbv
  · rename_i hk1
    have hk1 : j < l.length := by have := hlt.symm.trans hk1; simpa using this
    obtain ⟨⟨x1, ⟨x2, x3⟩, x4⟩, hx⟩ : ∃ x, l[j]? = some x := ⟨_, List.getElem?_eq_getElem hk1⟩
    have hix : A.ix 4 4 xs i [I x1, I x2, I x3, I x4] := by subst hA; exact ix_map hxs hi hx rfl
    refine Exists.intro _ (And.intro hix ?_)
    cbv
    refine And.intro (hsg _) (Exists.intro (cs ++ [I x2, I x3]) (Exists.intro (j + 1) (And.intro (by subst hA; exact app_one hcl rfl (by omega)) (And.intro rfl ?_))))
    generalize hcs2 : cs ++ [I x2, I x3] = cs2
    cbv
    refine hB _ _ hk1 trivial ⟨rfl, rfl, congrArg I (hadd _ hk1 (by omega)), trivial⟩ (.inl ?_)
    rw [← hcs2, hcs, List.take_add_one, hx]; simp
  · rename_i hk1
    have hk1 : ¬ j < l.length := by have := hlt.symm.trans hk1; simpa using this
    rw [hF]
    rw [List.take_of_length_le (by omega)] at hcs
    have hj2 : j = l.length := by omega
    subst hcs
    refine Frees.frz 0 j 2 ((l.map (·.w)).map sp) rfl ?_ (Frees.drop0 ?_ ?_)
    · have := Elems_sp (l.map (·.w))
      rw [List.flatMap_map] at this
      exact this
    · simp only [aTup]
      rw [frz_self (by simp [hj2])]; exact h
    · simp only [aTup]
      rw [frz_self (by simp [hj2])]; rfl
end Go.Sas
