/-
Narrower data: what is sure, or never, stays.
The law of what is known better answers true.
Conditions: none.
-/
import Derived.Test.YtelmlpjkpebcgaaM13
set_option linter.unusedVariables false
set_option linter.unusedSimpArgs false
namespace Go.Sas
/-- a load of a weight within -/
def NarL : List Load → List Load → Prop
  | [], [] => True
  | y :: r, x :: l => (y.at_ = x.at_ ∧ y.st = x.st ∧ x.w.1 ≤ y.w.1 ∧ y.w.1 ≤ y.w.2 ∧ y.w.2 ≤ x.w.2) ∧ NarL r l
  | _, _ => False
theorem NarL.len : ∀ {r l : List Load}, NarL r l → r.length = l.length
  | [], [], _ => rfl
  | _ :: _, _ :: _, h => by simp [NarL.len h.2]
  | [], _ :: _, h => h.elim
  | _ :: _, [], h => h.elim
theorem NarL.app {y x : Load} : ∀ {r l : List Load}, NarL r l → (y.at_ = x.at_ ∧ y.st = x.st ∧ x.w.1 ≤ y.w.1 ∧ y.w.1 ≤ y.w.2 ∧ y.w.2 ≤ x.w.2) → NarL (r ++ [y]) (l ++ [x])
  | [], [], _, h => ⟨h, trivial⟩
  | _ :: _, _ :: _, h, h' => ⟨h.1, NarL.app h.2 h'⟩
  | [], _ :: _, h, _ => h.elim
  | _ :: _, [], h, _ => h.elim
theorem NarL.get : ∀ {r l : List Load} {i : Nat} {x : Load}, NarL r l → l[i]? = some x → ∃ y, r[i]? = some y ∧ (y.at_ = x.at_ ∧ y.st = x.st ∧ x.w.1 ≤ y.w.1 ∧ y.w.1 ≤ y.w.2 ∧ y.w.2 ≤ x.w.2)
  | [], [], _, _, _, h => by simp at h
  | y :: r, x :: l, 0, z, h, hz => ⟨y, rfl, by simp at hz; subst hz; exact h.1⟩
  | y :: r, x :: l, i + 1, z, h, hz => by
    obtain ⟨a, h1, h2⟩ := NarL.get (i := i) h.2 (by simpa using hz)
    exact ⟨a, by simpa using h1, h2⟩
  | [], _ :: _, _, _, h, _ => h.elim
  | _ :: _, [], _, _, h, _ => h.elim
theorem NarL.mem : ∀ {r l : List Load}, NarL r l → ∀ y ∈ r, ∃ x ∈ l, y.at_ = x.at_ ∧ y.st = x.st ∧ x.w.1 ≤ y.w.1 ∧ y.w.1 ≤ y.w.2 ∧ y.w.2 ≤ x.w.2
  | [], [], _, y, hy => by cases hy
  | y :: r, x :: l, h, z, hz => by
    rcases List.mem_cons.1 hz with rfl | hz
    · exact ⟨x, by simp, h.1⟩
    · obtain ⟨a, h1, h2⟩ := NarL.mem h.2 z hz
      exact ⟨a, by simp [h1], h2⟩
  | [], _ :: _, h, _, _ => h.elim
  | _ :: _, [], h, _, _ => h.elim
theorem NarL.ws : ∀ {r l : List Load} {ns : List Int}, NarL r l → Ins ns (r.map (·.w)) → Ins ns (l.map (·.w))
  | [], [], _, _, h => h
  | _ :: _, _ :: _, n :: ns, h, h' => ⟨by have h1 := h.1; have h2 := h'.1; simp only at h1 h2 ⊢; omega, NarL.ws h.2 h'.2⟩
  | _ :: _, _ :: _, [], _, h' => h'.elim
  | [], _ :: _, _, h, _ => h.elim
  | _ :: _, [], _, h, _ => h.elim
theorem NarL.sum {p : Plate} {m : Int} : ∀ {r l : List Load} {ns : List Int}, NarL r l → sumT p m ns r = sumT p m ns l
  | [], [], _, _ => rfl
  | y :: r, x :: l, n :: ns, h => by simp only [sumT]; rw [NarL.sum h.2, h.1.1]
  | _ :: _, _ :: _, [], _ => rfl
  | [], _ :: _, _, h => h.elim
  | _ :: _, [], _, h => h.elim
theorem Inner.len : ∀ {r l : List (Int × Int)}, Inner r l → r.length = l.length
  | [], [], _ => rfl
  | _ :: _, _ :: _, h => by simp [Inner.len h.2]
  | [], _ :: _, h => h.elim
  | _ :: _, [], h => h.elim
theorem Inner.mem : ∀ {r l : List (Int × Int)}, Inner r l → ∀ y ∈ r, ∃ x ∈ l, x.1 ≤ y.1 ∧ y.1 ≤ y.2 ∧ y.2 ≤ x.2
  | [], [], _, y, hy => by cases hy
  | y :: r, x :: l, h, z, hz => by
    rcases List.mem_cons.1 hz with rfl | hz
    · exact ⟨x, by simp, h.1⟩
    · obtain ⟨a, h1, h2⟩ := Inner.mem h.2 z hz
      exact ⟨a, by simp [h1], h2⟩
  | [], _ :: _, h, _, _ => h.elim
  | _ :: _, [], h, _, _ => h.elim
theorem Inner.ins : ∀ {r l : List (Int × Int)} {ns : List Int}, Inner r l → Ins ns r → Ins ns l
  | [], [], _, _, h => h
  | _ :: _, _ :: _, n :: ns, h, h' => ⟨by have := h.1; have := h'.1; omega, Inner.ins h.2 h'.2⟩
  | _ :: _, _ :: _, [], _, h' => h'.elim
  | [], _ :: _, _, h, _ => h.elim
  | _ :: _, [], _, h, _ => h.elim
structure NarV (p p2 : Plate) (ice cr ice2 cr2 : List (Int × Int)) (l l2 : List Load) : Prop where
  s : p.str.1 ≤ p2.str.1 ∧ p2.str.1 ≤ p2.str.2 ∧ p2.str.2 ≤ p.str.2
  e : p2 = { p with str := p2.str }
  ice : Inner ice2 ice
  cr : Inner cr2 cr
  l : NarL l2 l
theorem NarV.tru {p p2 : Plate} {ice cr ice2 cr2 : List (Int × Int)} {l l2 : List Load} {t : Tru} (h : NarV p p2 ice cr ice2 cr2 l l2) (ht : TruV p2 ice2 cr2 l2 t) : TruV p ice cr l t :=
  ⟨by have := h.s; have := ht.st; omega, h.ice.ins ht.ice, h.cr.ins ht.cr, h.l.ws ht.ws⟩
theorem sum_shares {p p' : Plate} {m : Int} (hp : p.shares = p'.shares) : ∀ {ns : List Int} {l : List Load}, sumT p m ns l = sumT p' m ns l
  | _ :: _, _ :: _ => by simp only [sumT]; rw [sum_shares hp, hp]
  | [], _ => by simp [sumT]
  | _ :: _, [] => by simp [sumT]
theorem NarV.born {p p2 : Plate} {ice cr ice2 cr2 : List (Int × Int)} {l l2 : List Load} {t : Tru} (h : NarV p p2 ice cr ice2 cr2 l l2) {x y : Load} (h1 : y.at_ = x.at_) (h2 : y.st = x.st) : bornS p2 l2 t y = bornS p l t x := by
  have he := h.e
  obtain ⟨s, sh, cre, ne, ed, gr, lo, hi, so, wi⟩ := p
  obtain ⟨s2, sh2, cre2, ne2, ed2, gr2, lo2, hi2, so2, wi2⟩ := p2
  simp only [Plate.mk.injEq, true_and] at he
  obtain ⟨rfl, rfl, rfl, rfl, rfl, rfl, rfl, rfl, rfl⟩ := he
  unfold bornS
  rw [h1, h2, h.l.sum, sum_shares (p := ⟨s2, sh2, cre2, ne2, ed2, gr2, lo2, hi2, so2, wi2⟩) (p' := ⟨s, sh2, cre2, ne2, ed2, gr2, lo2, hi2, so2, wi2⟩) rfl]
  rfl
theorem NarV.load {p p2 : Plate} {ice cr ice2 cr2 : List (Int × Int)} {l l2 : List Load} (h : NarV p p2 ice cr ice2 cr2 l l2) (hl : ∀ x ∈ l, LoadV ice.length x) : ∀ y ∈ l2, LoadV ice2.length y := fun y hy => by
  obtain ⟨x, hx, h1, h2, h3, h4, h5⟩ := h.l.mem y hy
  have := hl x hx
  obtain ⟨a1, a2, a3, a4, a5, a6, a7⟩ := this
  have hlen := h.ice.len
  exact ⟨by omega, by omega, by omega, by omega, by omega, by omega, by omega⟩
theorem NarV.check {p p2 : Plate} {ice cr ice2 cr2 : List (Int × Int)} {l l2 : List Load} (h : NarV p p2 ice cr ice2 cr2 l l2) (hc : checkS p = 0) (hs : 1 ≤ p.str.1 ∧ p.str.2 ≤ 100000) : checkS p2 = 0 := by
  have h0 := h.s
  have h1 : faultS p.str.1 p.str.2 1 100000 = 0 := faultS_of (by omega)
  have h2 : faultS p2.str.1 p2.str.2 1 100000 = 0 := faultS_of (by omega)
  have he := h.e
  obtain ⟨s, sh, cre, ne, ed, gr, lo, hi, so, wi⟩ := p
  obtain ⟨s2, sh2, cre2, ne2, ed2, gr2, lo2, hi2, so2, wi2⟩ := p2
  simp only [Plate.mk.injEq, true_and] at he
  obtain ⟨rfl, rfl, rfl, rfl, rfl, rfl, rfl, rfl, rfl⟩ := he
  unfold checkS at hc ⊢
  simp only at h1 h2
  rw [if_neg (by simp [h1])] at hc
  rw [if_neg (by simp [h2])]
  exact hc
theorem NarV.road {p p2 : Plate} {ice cr ice2 cr2 : List (Int × Int)} {l l2 : List Load} (h : NarV p p2 ice cr ice2 cr2 l l2) (hM : MadeV p ice cr l) : checkAllS p2 ice2 cr2 = 0 := by
  have hV := hM.road
  have hcl := hM.cl
  have hil := hM.il
  refine roadS_of (h.check hM.pl ⟨hV.p.s1, hV.p.s3⟩) (by rw [h.ice.len]; omega) (fun y hy => ?_) (by rw [h.cr.len]; omega) fun y hy => ?_
  · obtain ⟨x, hx, h1⟩ := h.ice.mem y hy
    have := hV.ib x hx; omega
  · obtain ⟨x, hx, h1⟩ := h.cr.mem y hy
    have := hV.cb x hx; omega
theorem NarV.holds {p p2 : Plate} {ice cr ice2 cr2 : List (Int × Int)} {l l2 : List Load} (h : NarV p p2 ice cr ice2 cr2 l l2) (hM : MadeV p ice cr l) : holdsS p2 ice2 cr2 l2 = (l2.map (veS p2 ice2 cr2 l2), 0) := by
  have hll := hM.ll
  have := h.l.len
  unfold holdsS
  rw [if_neg (by simp [h.road hM]), if_neg (by simp [loadsS_of (by omega) (h.load hM.lb)])]
theorem NarV.ve {p p2 : Plate} {ice cr ice2 cr2 : List (Int × Int)} {l l2 : List Load} (h : NarV p p2 ice cr ice2 cr2 l l2) (hM : MadeV p ice cr l) {x y : Load} (hx : x ∈ l) (hy : y ∈ l2) (h1 : y.at_ = x.at_) (h2 : y.st = x.st) : veS p ice cr l x ≠ 3 → veS p ice cr l x = veS p2 ice2 cr2 l2 y := by
  have hV := hM.road
  have hV2 := checkAllS_ok (h.road hM)
  have hl2 := h.load hM.lb
  have hxl := hM.lb x hx
  have hyl := hl2 y hy
  have f1 := truth hV (h.tru (ext_tru (w := true) (m := y.at_) hV2 hl2)) hxl
  have f2 := truth hV (h.tru (ext_tru (w := false) (m := y.at_) hV2 hl2)) hxl
  rw [← h.born h1 h2, ext_born hV2 hyl] at f1 f2
  have hi := be_imp hV2 hl2 hyl
  unfold veS
  cases g1 : beS true p ice cr l x <;> cases g2 : beS false p ice cr l x <;> cases g3 : beS true p2 ice2 cr2 l2 y <;> cases g4 : beS false p2 ice2 cr2 l2 y <;> simp_all
end Go.Sas
namespace Go.Sas
open Go.Proofs
set_option maxRecDepth 100000
def sParts : List AV → Option ((Unit → Prop) × (AV → Prop))
  | [x] => match asVs 2 x with
    | some xs => some (fun _ => ∃ l : List (Int × Int), xs = l.map sp ∧ l.length < 1000000 ∧ ∀ x ∈ l, -1000000000 ≤ x.1 ∧ x.1 ≤ x.2 ∧ x.2 ≤ 1000000000, fun r => ∀ l : List (Int × Int), xs = l.map sp → LsQ 2 sp (fun r => Inner r l) r)
    | none => none
  | _ => none
theorem sParts_ok : ∀ rest pre Q, sParts rest = some (pre, Q) → pre () → Draws Try.prog 36 rest Q := by
  intro rest pre Q h hp
  unfold sParts at h
  split at h
  · split at h
    · rename_i xs hx
      cases h
      obtain ⟨l, rfl, h1, h2⟩ := hp
      intro w id H hH Kk hk
      refine (d36 l h1 h2 w id H hH Kk fun w' r hr => hk w' r fun l' hl => ?_).wk ⟨Wk.rfl, asVs_wk hx, trivial⟩
      rw [← sp_inj hl]; exact hr
    · cases h
  · cases h
abbrev ldC (x : Load) : List AV := [I x.at_, I x.w.1, I x.w.2, I x.st]
theorem Elems_ldC (l : List Load) : Elems 4 (l.map ldV) (l.flatMap ldC) := Elems_map (f := ldV) (g := ldC) (sz := 4) (fun _ => rfl) (fun _ => rfl) (fun _ => rfl) l
theorem get_mid {a b : List AV} {c0 c1 c2 c3 : AV} {o o1 : Nat} (h : a.length = o) (h1 : o1 = o + 1) : getS (some 2) (a ++ (c0 :: c1 :: c2 :: c3 :: b)) o1 (.agg [c1, c2]) := by
  subst h h1
  have : (a ++ (c0 :: c1 :: c2 :: c3 :: b)).drop (a.length + 1) = c1 :: c2 :: c3 :: b := by
    rw [List.drop_append]; simp
  unfold getS getN
  simp only [this]
  rw [if_pos (by simp; omega)]
  rfl
theorem upd_mid {a b : List AV} {c0 c1 c2 c3 u v : AV} {o o1 : Nat} (h : a.length = o) (h1 : o1 = o + 1) : updS 2 (a ++ (c0 :: c1 :: c2 :: c3 :: b)) o1 [u, v] (a ++ (c0 :: u :: v :: c3 :: b)) := by
  subst h h1
  refine ⟨rfl, by simp; omega, ?_⟩
  have h1 : (a ++ (c0 :: c1 :: c2 :: c3 :: b)).drop (a.length + 1 + 2) = c3 :: b := by
    rw [show a.length + 1 + 2 = a.length + 3 by omega, List.drop_append, List.drop_of_length_le (by omega), show a.length + 3 - a.length = 3 by omega]; rfl
  have h2 : (a ++ (c0 :: c1 :: c2 :: c3 :: b)).take (a.length + 1) = a ++ [c0] := by
    rw [List.take_append, List.take_of_length_le (by omega), show a.length + 1 - a.length = 1 by omega]; rfl
  rw [h1, h2]; simp
set_option maxHeartbeats 4000000 in
theorem core6 (nums : List Int) (hn1 : BigL nums) : ACalls Try.prog 6 [.vs 1 (nums.map I)] [] fun r _ => r = B true := by
  obtain ⟨Kk, hKk⟩ : ∃ K : AV → AHeap → Prop, K = fun r _ => r = B true := ⟨_, rfl⟩
  rw [← hKk]
  have hk : ∀ H, Kk (B true) H := fun H => by rw [hKk]
  clear hKk
  obtain ⟨xn, hxn⟩ : ∃ ys, ys = nums.map I := ⟨_, rfl⟩
  rw [← hxn]
  obtain ⟨A, hA⟩ : ∃ A, A = std := ⟨_, rfl⟩
  have hne0 : A.ne 0 0 = false := by subst hA; rfl
  have hsg : ∀ g, A.sg g g := by subst hA; exact fun _ => rfl
  refine go6 rfl (SGo_run hA ⟨[3], [0], (19, eTrue) :: (25, eHolds) :: [], (20, eSeed) :: (28, eDraw sMade) :: (35, eDraw sPart) :: (36, eDraw sParts) :: []⟩ (.cons eTrue_ok (.cons (eHolds_ok p25) .nil)) (.cons eSeed_ok (.cons (eDraw_ok sMade_ok) (.cons (eDraw_ok sPart_ok) (.cons (eDraw_ok sParts_ok) .nil)))) 200 fun T TD hT hTD => ?_)
  cbv
  refine Exists.intro nums (And.intro ⟨hxn, hn1⟩ ?_)
  intro w1
  cbv
  refine Exists.intro () (And.intro trivial ?_)
  rintro w2 _ ⟨p, a, b, xs, ec, ne, ed, gr, lo, hi, sh, wi, ice, cr, l, xi, xc, xl, rfl, hp, hxi, hxc, hxl, hM⟩
  have hV := hM.road
  have hil := hM.il
  have hcl := hM.cl
  have hll := hM.ll
  have hib := hM.ib
  have hlb := hM.lb
  have hcb := hV.cb
  have hst : -1000000000 ≤ a ∧ a ≤ b ∧ b ≤ 1000000000 := by
    have h1 := hV.p.s1; have h2 := hV.p.s2; have h3 := hV.p.s3; rw [hp.str] at h1 h2 h3; simp only at h1 h2 h3; omega
  have hb1 : Big p.shares := by have := hV.p.sh.len; unfold Big; omega
  have hb2 : Big p.creep := by have := hV.p.cr.len; unfold Big; omega
  have hb3 : BigL ice := by unfold BigL; omega
  have hb4 : BigL cr := by unfold BigL; omega
  have hb5 : BigL l := by unfold BigL; omega
  have hH := hM.holds
  have hpre1 : ∃ q : List (Int × Int), xi = q.map sp ∧ q.length < 1000000 ∧ ∀ x ∈ q, -1000000000 ≤ x.1 ∧ x.1 ≤ x.2 ∧ x.2 ≤ 1000000000 := ⟨ice, hxi, by omega, fun x hx => by have := hib x hx; omega⟩
  have hpre2 : ∃ q : List (Int × Int), xc = q.map sp ∧ q.length < 1000000 ∧ ∀ x ∈ q, -1000000000 ≤ x.1 ∧ x.1 ≤ x.2 ∧ x.2 ≤ 1000000000 := ⟨cr, hxc, by omega, fun x hx => by have := hcb x hx; omega⟩
  have hwb : ∀ x ∈ l, -1000000000 ≤ x.w.1 ∧ x.w.1 ≤ x.w.2 ∧ x.w.2 ≤ 1000000000 := fun x hx => by have := (hlb x hx).w1; have := (hlb x hx).w2; have := (hlb x hx).w3; omega
  have hxe : cellsL xl = some (l.flatMap ldC) := by rw [hxl]; exact (Elems_ldC l).1
  have hxll : xl.length = l.length := by rw [hxl]; simp
  obtain ⟨cs0, hcs0⟩ : ∃ cs, cs = l.flatMap ldC := ⟨_, rfl⟩
  obtain ⟨N, hN⟩ : ∃ N, N = l.length := ⟨_, rfl⟩
  have happ : A.app 4 4 32 [] 0 0 xl cs0 N := by
    subst hA
    have := app_all (sz := 4) (by_ := 32) (n := 0) (cs := []) rfl hxe (by omega)
    rw [hxll, ← hN, ← hcs0] at this
    have h2 : appS 4 4 32 [] 0 0 xl cs0 N := by simpa using this
    exact h2
  cbv
  refine Exists.intro () (And.intro hst ?_)
  rintro w3 _ ⟨a2, b2, rfl, ha1, ha2, ha3⟩
  cbv
  refine Exists.intro cs0 (Exists.intro N (And.intro happ (And.intro rfl ?_)))
  cbv
  rw [hT]
  refine AGo_upS N (fun j (s : Int × List Load) => NarL s.2 (l.take j)) (fun j _ i => [(2, B false), (3, .mp 0 0 0), (4, .mp 1 0 0), (5, .mp 2 0 0), (6, .ms 4 3 0 0 N), (7, I i)])
    (fun j s => [.own 0 [U s.1], .own 0 [I a, I b, .vs 2 xs, .vs 2 ec, I ne, I ed, I gr, I lo, I hi, I sh, I wi, .vs 2 xi, .vs 2 xc, .vs 4 xl], .own 0 [I a2, I b2, .vs 2 xs, .vs 2 ec, I ne, I ed, I gr, I lo, I hi, I sh, I wi], .own 0 (s.2.flatMap ldC ++ (l.drop j).flatMap ldC)]) (w3, []) trivial ⟨rfl, rfl, rfl, rfl, rfl, rfl, trivial⟩ (.inl (by rw [hcs0]; rfl)) ?_
  rintro j ⟨w4, s⟩ i hij hj hP Bk hB
  simp only at hP
  have hsl : s.length = j := by rw [hP.len]; simp; omega
  have hlt : A.lt i (A.len N) = decide (j < N) := by subst hA; simp [std, iLt, hij, iLen]
  have hadd : j < N → A.add .i64 i 1 = iLen (j + 1) := fun hj => by subst hA; exact add_one hij hj (by omega)
  obtain ⟨cs, hcs⟩ : ∃ cs, cs = s.flatMap ldC ++ (l.drop j).flatMap ldC := ⟨_, rfl⟩
  simp only
  rw [← hcs]
  refine SGo_run hA ⟨[3], [0], [], (35, eDraw sPart) :: []⟩ .nil (.cons (eDraw_ok sPart_ok) .nil) 200 fun T TD hT hTD => ?_
  cbv
  refine And.intro (hsg _) ?_
  split <;> cbv
  · rename_i hk1
    have hk1 : j < N := by have := hlt.symm.trans hk1; simpa using this
    obtain ⟨x0, hx⟩ : ∃ x, l[j]? = some x := ⟨_, List.getElem?_eq_getElem (by omega : j < l.length)⟩
    have hx0 := hwb x0 (List.mem_of_getElem? hx)
    have hdrop : l.drop j = x0 :: l.drop (j + 1) := by rw [List.drop_eq_getElem?_toList_append, hx]; rfl
    obtain ⟨o, ho⟩ : ∃ o, o = j * 4 := ⟨_, rfl⟩
    obtain ⟨o1, ho1⟩ : ∃ o1, o1 = o + 1 := ⟨_, rfl⟩
    have hpl : (s.flatMap ldC).length = o := by rw [len_flat (k := 4) (fun _ => rfl) s, hsl, ho]
    obtain ⟨F, hF⟩ : ∃ F : Int → Int → List AV, F = fun u v => s.flatMap ldC ++ (I x0.at_ :: I u :: I v :: I x0.st :: (l.drop (j + 1)).flatMap ldC) := ⟨_, rfl⟩
    have hcs1 : cs = s.flatMap ldC ++ (I x0.at_ :: I x0.w.1 :: I x0.w.2 :: I x0.st :: (l.drop (j + 1)).flatMap ldC) := by rw [hcs, hdrop]; rfl
    have hixm : A.ixm 4 4 0 N i o := by
      subst hA
      exact ⟨rfl, by rw [hij]; unfold iLen; omega, by rw [hij]; unfold iLen; omega, by rw [hij, ho]; unfold iLen; simp⟩
    have hoff : A.off o 1 o1 := by subst hA; exact ho1
    have hget : A.get (some 2) cs o1 (.agg [I x0.w.1, I x0.w.2]) := by subst hA; rw [hcs1]; exact get_mid hpl ho1
    have hupd : ∀ u v, A.upd 2 cs o1 [I u, I v] (F u v) := fun u v => by subst hA; rw [hcs1, hF]; exact upd_mid hpl ho1
    have hfin : ∀ u v, F u v = (s ++ [Load.mk x0.at_ (u, v) x0.st]).flatMap ldC ++ (l.drop (j + 1)).flatMap ldC := fun u v => by rw [hF]; simp
    have hnar : ∀ u v, x0.w.1 ≤ u → u ≤ v → v ≤ x0.w.2 → NarL (s ++ [Load.mk x0.at_ (u, v) x0.st]) (l.take (j + 1)) := fun u v h1 h2 h3 => by
      rw [List.take_add_one, hx]; exact NarL.app hP ⟨rfl, rfl, h1, h2, h3⟩
    refine And.intro (hsg _) (Exists.intro o (And.intro hixm ?_)); cbv
    refine And.intro (hsg _) (Exists.intro o1 (And.intro hoff ?_)); cbv
    refine And.intro (hsg _) (Exists.intro _ (And.intro hget ?_)); cbv
    refine Exists.intro () (And.intro hx0 ?_)
    rintro w5 _ ⟨u, v, rfl, hu1, hu2, hu3⟩
    cbv
    refine And.intro (hsg _) (Exists.intro o (And.intro hixm ?_)); cbv
    refine And.intro (hsg _) (Exists.intro o1 (And.intro hoff ?_)); cbv
    refine And.intro (hsg _) (Exists.intro _ (And.intro (hupd u v) ?_)); cbv
    exact hB (w5, s ++ [Load.mk x0.at_ (u, v) x0.st]) _ _ hk1 (hnar _ _ hu1 hu2 hu3) ⟨rfl, rfl, rfl, rfl, rfl, congrArg I (hadd hk1), trivial⟩ (.inl (by rw [hfin]))
  · rename_i hk1
    have hk1 : ¬ j < N := by have := hlt.symm.trans hk1; simpa using this
    have hj2 : j = l.length := by omega
    have hcs2 : cs = s.flatMap ldC := by rw [hcs, List.drop_of_length_le (by omega)]; simp
    rw [List.take_of_length_le (by omega)] at hP
    rw [hT]
    obtain ⟨xs2, hxs2⟩ : ∃ ys, ys = s.map ldV := ⟨_, rfl⟩
    have hlen2 : cs.length = N * 4 := by rw [hcs2, len_flat (k := 4) (fun _ => rfl) s]; omega
    refine AGo_freeze 6 (id := 3) (g := 0) (sz := 4) (off := 0) (len := N) (xs := xs2) (cs := cs) ?_ ?_ (by rw [cellsL_eq, hxs2, (Elems_ldC s).1, List.drop_zero, List.take_of_length_le (by omega), hcs2]) (by omega) (by rw [hxs2]; simp; omega) (by rw [hxs2]; exact (Elems_ldC s).2) ?_
    · rfl
    · rfl
    have hsb : BigL s := by unfold BigL; omega
    have hp2 : PlateIs { p with str := (a2, b2) } a2 b2 xs ec ne ed gr lo hi sh wi := ⟨hp.hs, hp.hc, rfl, hp.ne, hp.ed, hp.gr, hp.lo, hp.hi, hp.sh, hp.wi⟩
    have hab : p.str.1 ≤ a2 ∧ a2 ≤ b2 ∧ b2 ≤ p.str.2 := by rw [hp.str]; exact ⟨ha1, ha2, ha3⟩
    obtain ⟨p2, hpp⟩ : ∃ p2 : Plate, p2 = { p with str := (a2, b2) } := ⟨_, rfl⟩
    rw [← hpp] at hp2
    have hNar : ∀ ice2 cr2, Inner ice2 ice → Inner cr2 cr → NarV p p2 ice cr ice2 cr2 l s := fun ice2 cr2 h1 h2 => ⟨by rw [hpp]; exact hab, by rw [hpp], h1, h2, hP⟩
    have hb21 : Big p2.shares := by rw [hpp]; exact hb1
    have hb22 : Big p2.creep := by rw [hpp]; exact hb2
    have hil2 : ∀ ice2 : List (Int × Int), Inner ice2 ice → BigL ice2 := fun ice2 h => by have := h.len; unfold BigL; omega
    have hcl2 : ∀ cr2 : List (Int × Int), Inner cr2 cr → BigL cr2 := fun cr2 h => by have := h.len; unfold BigL; omega
    refine SGo_run hA ⟨[], [0], (19, eTrue) :: (25, eHolds) :: [], (36, eDraw sParts) :: []⟩ (.cons eTrue_ok (.cons (eHolds_ok p25) .nil)) (.cons (eDraw_ok sParts_ok) .nil) 200 fun T TD hT hTD => ?_
    cbv
    refine Exists.intro p (Exists.intro ice (Exists.intro cr (Exists.intro l (And.intro hp (And.intro hb1 (And.intro hb2 (And.intro ⟨hxi, hb3⟩ (And.intro ⟨hxc, hb4⟩ (And.intro ⟨hxl, hb5⟩ ?_)))))))))
    rintro r e zs hre hzs
    rw [hH] at hre
    obtain ⟨rfl, rfl⟩ := Prod.mk.inj hre
    cbv
    try refine And.intro (by subst hA; simp [std, Keep, SubH, ResK]) ?_
    refine Exists.intro () (And.intro hpre1 ?_)
    rintro w6 r6 hr6
    obtain ⟨ice2, xi2, rfl, hxi2, hI1⟩ := hr6 ice hxi
    cbv
    try refine And.intro (by subst hA; simp [std, Keep, SubH, ResK]) ?_
    refine Exists.intro () (And.intro hpre2 ?_)
    rintro w7 r7 hr7
    obtain ⟨cr2, xc2, rfl, hxc2, hI2⟩ := hr7 cr hxc
    cbv
    try refine And.intro (by subst hA; simp [std, Keep, SubH, ResK]) ?_
    have hn2 := hNar _ _ hI1 hI2
    have hH2 := hn2.holds hM
    have hbi2 := hil2 _ hI1
    have hbc2 := hcl2 _ hI2
    refine Exists.intro p2 (Exists.intro ice2 (Exists.intro cr2 (Exists.intro s (And.intro hp2 (And.intro hb21 (And.intro hb22 (And.intro ⟨hxi2, hbi2⟩ (And.intro ⟨hxc2, hbc2⟩ (And.intro ⟨hxs2, hsb⟩ ?_)))))))))
    rintro r2 e2 zs2 hre2 hzs2
    rw [hH2] at hre2
    obtain ⟨rfl, rfl⟩ := Prod.mk.inj hre2
    have hzl : A.ne (A.vlen zs) (A.vlen xl) = false := by subst hA hzs hxl; simp [std, iNe]
    have hzz : A.ne (A.vlen zs2) (A.vlen zs) = false := by subst hA hzs hzs2; simp [std, iNe, hsl, hj2]
    cbv
    split <;> cbv
    · rename_i hq; exact Bool.noConfusion (hq.symm.trans hne0)
    split <;> cbv
    · rename_i hq; exact Bool.noConfusion (hq.symm.trans hne0)
    split <;> cbv
    · rename_i hq; exact Bool.noConfusion (hq.symm.trans hzl)
    split <;> cbv
    · rename_i hq; exact Bool.noConfusion (hq.symm.trans hzz)
    clear hB hlt hadd hk1
    rw [hT]
    refine AGo_up l.length (fun _ => True) (fun _ i => [(2, B false), (8, .vs 1 zs), (10, .vs 1 zs2), (12, I i)]) (fun _ => []) trivial ⟨rfl, rfl, rfl, rfl, trivial⟩ (.inr ⟨⟨_, rfl⟩, Nat.zero_le _, by simp [ltG, AV.lt, AV.ltL], trivial⟩) fun q i2 hiq hq _ Bk2 hB => ?_
    have hlt : A.lt i2 (A.vlen zs) = decide (q < l.length) := by subst hA; exact lt_len (by simp [hzs]) hiq
    have hadd : q < l.length → A.add .i64 i2 1 = iLen (q + 1) := fun hj => by subst hA; exact add_one hiq hj (by omega)
    refine SGo_run hA ⟨[], [], (19, eTrue) :: [], []⟩ (.cons eTrue_ok .nil) .nil 200 fun T TD hT hTD => ?_
    cbv
    split <;> cbv
    · rename_i hk1
      have hk1 : q < l.length := by have := hlt.symm.trans hk1; simpa using this
      obtain ⟨x0, hx⟩ : ∃ x, l[q]? = some x := ⟨_, List.getElem?_eq_getElem hk1⟩
      obtain ⟨y0, hy, hy1, hy2, _⟩ := hP.get hx
      have hve := hn2.ve hM (List.mem_of_getElem? hx) (List.mem_of_getElem? hy) hy1 hy2
      obtain ⟨vx, hvx⟩ : ∃ v, v = veS p ice cr l x0 := ⟨_, rfl⟩
      obtain ⟨vy, hvy⟩ : ∃ v, v = veS p2 ice2 cr2 s y0 := ⟨_, rfl⟩
      rw [← hvx, ← hvy] at hve
      have hix1 : A.ix 1 1 zs i2 [I vx] := by subst hA; exact ix_map hzs hiq (by rw [List.getElem?_map, hx]; rfl) (by rw [hvx]; rfl)
      have hix2 : A.ix 1 1 zs2 i2 [I vy] := by subst hA; exact ix_map hzs2 hiq (by rw [List.getElem?_map, hy]; rfl) (by rw [hvy]; rfl)
      have hne : A.ne vx 3 = true → A.ne vx vy = false := fun h => by subst hA; simp [std, iNe] at h ⊢; exact hve h
      repeat' (first
        | (refine Exists.intro _ (And.intro hix1 ?_); cbv)
        | (refine Exists.intro _ (And.intro hix2 ?_); cbv)
        | (split <;> cbv))
      all_goals first
        | exact hB _ _ hk1 trivial ⟨rfl, rfl, rfl, congrArg I (hadd hk1), trivial⟩ (.inr ⟨⟨_, rfl⟩, Nat.zero_le _, by simp [ltG, AV.lt, AV.ltL], trivial⟩)
        | (exfalso; rename_i g1 _ g2; exact Bool.noConfusion ((hne g1).symm.trans g2))
        | (exfalso; rename_i g1 g2; exact Bool.noConfusion ((hne g1).symm.trans g2))
        | trace_state
    · exact hk _
end Go.Sas
