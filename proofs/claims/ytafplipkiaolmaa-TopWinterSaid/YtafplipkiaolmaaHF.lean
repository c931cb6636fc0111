/-
Freight: freights, plans, winters made of numbers: contracts.
Freight: plans and winters made of numbers: contracts.
Freight: winters made of numbers: contract.
Freight: lists that are plans: contracts.
Conditions: none.
-/
import Derived.Test.YtafplipkiaolmaaHE
import Derived.Test.YtafplipkiaolmaaQG8
set_option linter.unusedVariables false
set_option linter.unusedSimpArgs false
namespace Go.Sas
open Go.Proofs
set_option maxRecDepth 100000
abbrev orC4 (o : Ord) : List AV := [I o.u, I o.d, I o.l, I o.s]
abbrev spC (x : Int × Int) : List AV := [I x.1, I x.2]
/-- an order of a freight of so many days -/
def OrdD (n : Int) (o : Ord) : Prop := 1 ≤ o.u ∧ o.u ≤ 20 ∧ 0 ≤ o.d ∧ o.d ≤ n ∧ 0 ≤ o.l ∧ o.l ≤ o.s ∧ o.s ≤ 30
theorem firstE_allF {α : Type} {f : α → Int} : ∀ {l : List α}, (∀ x ∈ l, f x = 0) → firstEF f l = 0
  | [], _ => rfl
  | x :: l, h => by simp only [firstEF]; rw [if_pos (h x (by simp))]; exact firstE_allF fun y hy => h y (by simp [hy])
theorem checkF_ok' {a b c d nv : Int} {cs : List (Int × Int)} {os : List Ord} {j N : Nat} (h1 : cs.length = j) (h2 : ∀ x ∈ cs, 0 ≤ x.1 ∧ x.1 ≤ x.2 ∧ x.2 ≤ 9) (h3 : 0 ≤ a ∧ a ≤ b ∧ b ≤ nv - 1) (h4 : 0 ≤ c ∧ c ≤ d ∧ d ≤ nv - 1)
    (h5 : ∀ o ∈ os, OrdD nv o) (h6 : 1 ≤ os.length) (h7 : os.length ≤ 6) (h8 : 1 ≤ nv ∧ nv ≤ 200) (h9 : nv = iLen N) (h10 : j = N := by omega) : checkF ⟨(a, b), (c, d), cs, os⟩ = 0 := by
  have hjn : nv = (cs.length : Int) := by rw [h9, h1, h10]; rfl
  have e1 : firstEF capE cs = 0 := firstE_allF fun x hx => faultF_ok' (by have := h2 x hx; omega)
  have e2 : orsF os = 0 := by
    unfold orsF
    rw [if_neg (by omega), if_neg (by omega)]
    exact firstE_allF fun o ho => by have := h5 o ho; unfold OrdD at this; unfold ordE; rw [if_neg (by omega), if_neg (by omega)]
  have e3 : faultF a b 0 (cs.length - 1) = 0 := faultF_ok' (by omega)
  have e4 : faultF c d 0 (cs.length - 1) = 0 := faultF_ok' (by omega)
  unfold checkF
  dsimp only
  rw [if_neg (by omega), if_neg (by omega), e1, e3, e4, e2]
  rfl
end Go.Sas
namespace Go.Sas
open Go.Proofs
set_option maxRecDepth 100000
/-- a plan made of numbers -/
def PlanQ (n : Nat) (r : AV) : Prop := ∃ (xs : List AV) (p : List Nat), r = .vs 1 xs ∧ xs = p.map natI ∧ p.Perm (List.range n)
theorem Elems_nat (l : List Nat) : Elems 1 (l.map natI) (l.map natI) := by
  have := Elems_I (l.map iLen)
  rw [List.map_map] at this; exact this
theorem updS_map {p : List Nat} {i x : Nat} (h : i < p.length) : updS 1 (p.map natI) i [natI x] ((p.set i x).map natI) := by
  refine ⟨rfl, by simp; omega, ?_⟩
  rw [List.set_eq_take_append_cons_drop, if_pos h]
  simp [List.map_append, List.map_take, List.map_drop]
theorem getS_map {p : List Nat} {i x : Nat} (h : p[i]? = some x) : getS none (p.map natI) i (natI x) := by
  simp [getS, getN, h]
theorem d12 (n : Nat) (hn : n ≤ 1000) : Draws Try.prog 12 [I (iLen n)] (PlanQ n) := by
  refine .of rfl (by rintro r ⟨_, _, rfl, _⟩; rfl) fun w Kk h => ACalls.frees ?_
  obtain ⟨A, hA⟩ : ∃ A, A = std := ⟨_, rfl⟩
  have hsg : ∀ g, A.sg g g := by subst hA; exact fun _ => rfl
  obtain ⟨F, hF⟩ : ∃ F, F = Frees 1 Kk := ⟨_, rfl⟩
  rw [show Frees [AObj.own 0 [U w]].length Kk = F from hF.symm]
  obtain ⟨iN, hiN⟩ : ∃ i : Int, i = iLen n := ⟨_, rfl⟩
  rw [← hiN]
  refine go12 rfl (SGo_run hA ⟨[], [], [], ed3F⟩ .nil ed3_okF 200 fun T TD hT hTD => ?_)
  cbv
  rw [hT]
  refine AGo_nilms 5 1 rfl ?_
  refine AGo_upE [0, 1] n (fun j (_ : Unit) => True) (fun j _ i => [(5, .ms 1 1 j 0 j), (6, I i)]) (fun j _ => [.own 0 [U w], .own j ((List.range j).map natI)]) () trivial ⟨rfl, rfl, trivial⟩ (.inl rfl) fun j _ i hi hj _ Bk hB => ?_
  have hlt : A.lt i iN = decide (j < n) := by subst hA; simp only [std, iLt, hi, hiN]; rw [Bool.eq_iff_iff]; unfold iLen; simp only [decide_eq_true_eq]; omega
  have hadd : ∀ N, j < N → N ≤ 9223372036854775807 → A.add .i64 i 1 = iLen (j + 1) := fun N hj hN => by subst hA; exact add_one hi hj hN
  obtain ⟨cc, hcc⟩ : ∃ c, c = (List.range j).map natI := ⟨_, rfl⟩
  rw [← hcc]
  refine SGo_run hA ⟨[1], [], [], ed3F⟩ .nil ed3_okF 200 fun T TD hT hTD => ?_
  cbv
  split <;> cbv
  · rename_i hk0
    have hk1 : j < n := by have hz := hlt.symm.trans hk0; simpa using hz
    clear hk0
    refine And.intro (hsg _) (Exists.intro (cc ++ [I i]) (Exists.intro (j + 1) (And.intro ?_ (And.intro rfl ?_))))
    · subst hA; exact app_one (by rw [hcc]; simp) rfl (by omega)
    generalize hc2 : cc ++ _ = cc2
    cbv
    refine hB () _ _ hk1 trivial ⟨rfl, congrArg I (hadd _ hk1 (by omega)), trivial⟩ ⟨rfl, rfl, trivial⟩ (.inl (by rw [← hc2, hcc, hi, List.range_succ]; simp))
  · rename_i hk0
    have hk1 : ¬ j < n := by have hz := hlt.symm.trans hk0; simpa using hz
    clear hk0
    have hjn : j = n := by omega
    subst hjn
    clear hB hadd hlt
    rw [hT]
    have hsub : A.sub .i64 iN 1 = iN - 1 := by unfold iLen at hiN; subst hA; exact iSub_id (by omega) (by omega)
    refine AGo_whileE (σ := Int × Int × List Nat) [0, 5] (fun s => s.2.1.toNat) (fun s => s.2.1 < iN ∧ -1 ≤ s.2.1 ∧ s.2.2.Perm (List.range j)) (fun s => [(7, I s.2.1)]) (fun s => [.own 0 [U s.1], .own j (s.2.2.map natI)]) (w, iN - 1, List.range j) ⟨by dsimp only; omega, by dsimp only; unfold iLen at hiN; omega, .refl _⟩ ⟨congrArg I hsub, trivial⟩ (.inl (by rw [hcc])) fun s hP Bk hB => ?_
    obtain ⟨w2, d, p⟩ := s
    obtain ⟨hd1, hd2, hp⟩ := hP
    dsimp only at hd1 hd2 hp ⊢
    have hpl : p.length = j := by rw [hp.length_eq]; simp
    obtain ⟨pc, hpc⟩ : ∃ c, c = p.map natI := ⟨_, rfl⟩
    rw [← hpc]
    have hgt : A.lt 0 d = decide (0 < d) := by subst hA; rfl
    refine SGo_run hA ⟨[1], [2000001], [], ed3F⟩ .nil ed3_okF 200 fun T TD hT hTD => ?_
    cbv
    split <;> cbv
    · rename_i hq
      have hq1 : 0 < d := by have hq := hgt.symm.trans hq; simpa using hq
      clear hq
      have hadd1 : A.add .i64 d 1 = d + 1 := by unfold iLen at hiN; subst hA; exact iAdd_id (by omega) (by omega)
      refine Exists.intro () (And.intro (by show A.add .i64 d 1 ≤ _; rw [hadd1]; unfold iLen at hiN; omega) ?_)
      rintro w3 _ ⟨k, rfl, hk1, hk2⟩
      have hk2 : k < A.add .i64 d 1 ∨ k = 0 := hk2
      rw [hadd1] at hk2
      cbv
      obtain ⟨dn, hdn⟩ : ∃ x : Nat, d = iLen x := ⟨d.toNat, by unfold iLen; omega⟩
      obtain ⟨kn, hkn⟩ : ∃ x : Nat, k = iLen x := ⟨k.toNat, by unfold iLen; omega⟩
      have hdj : dn < j := by unfold iLen at hdn hiN; omega
      have hkj : kn < j := by unfold iLen at hkn hdn hiN; omega
      have hx1 : A.ixm 1 1 0 j k kn := by subst hA; exact ixm1 hkn hkj
      have hx2 : A.ixm 1 1 0 j d dn := by subst hA; exact ixm1 hdn hdj
      obtain ⟨xk, hxk⟩ : ∃ x, p[kn]? = some x := ⟨_, List.getElem?_eq_getElem (by omega)⟩
      obtain ⟨xd, hxd⟩ : ∃ x, p[dn]? = some x := ⟨_, List.getElem?_eq_getElem (by omega)⟩
      obtain ⟨vk, hvk⟩ : ∃ v, v = natI xk := ⟨_, rfl⟩
      obtain ⟨vd, hvd⟩ : ∃ v, v = natI xd := ⟨_, rfl⟩
      have hg1 : A.get none pc kn (natI xk) := by subst hA; rw [hpc]; exact getS_map hxk
      have hg2 : A.get none pc dn (natI xd) := by subst hA; rw [hpc]; exact getS_map hxd
      have hu1 : A.upd 1 pc dn [natI xk] ((p.set dn xk).map natI) := by subst hA; rw [hpc]; exact updS_map (by omega)
      have hu2 : A.upd 1 ((p.set dn xk).map natI) kn [natI xd] (((p.set dn xk).set kn xd).map natI) := by subst hA; exact updS_map (by simp; omega)
      have hpm : ((p.set dn xk).set kn xd).Perm (List.range j) := by
        obtain ⟨g1, rfl⟩ := List.getElem?_eq_some_iff.1 hxk
        obtain ⟨g2, rfl⟩ := List.getElem?_eq_some_iff.1 hxd
        exact (List.set_set_perm g2 g1).trans hp
      obtain ⟨p1, hp1⟩ : ∃ v, v = (p.set dn xk).map natI := ⟨_, rfl⟩
      obtain ⟨p2, hp2⟩ : ∃ v, v = ((p.set dn xk).set kn xd).map natI := ⟨_, rfl⟩
      obtain ⟨ik, hik⟩ : ∃ v, v = iLen xk := ⟨_, rfl⟩
      obtain ⟨idd, hid⟩ : ∃ v, v = iLen xd := ⟨_, rfl⟩
      have hg1 : A.get none pc kn (I ik) := by rw [hik]; exact hg1
      have hg2 : A.get none pc dn (I idd) := by rw [hid]; exact hg2
      have hu1 : A.upd 1 pc dn [I ik] p1 := by rw [hik, hp1]; exact hu1
      have hu2 : A.upd 1 p1 kn [I idd] p2 := by rw [hid, hp2, hp1]; exact hu2
      refine And.intro (hsg _) (Exists.intro kn (And.intro hx1 ?_)); cbv
      refine And.intro (hsg _) (Exists.intro _ (And.intro hg1 ?_)); cbv
      refine And.intro (hsg _) (Exists.intro dn (And.intro hx2 ?_)); cbv
      refine And.intro (hsg _) (Exists.intro _ (And.intro hg2 ?_)); cbv
      refine And.intro (hsg _) (Exists.intro dn (And.intro hx2 ?_)); cbv
      refine And.intro (hsg _) (Exists.intro p1 (And.intro hu1 ?_)); cbv
      refine And.intro (by subst hA; exact .inr ⟨⟨rfl, rfl, trivial⟩, trivial, .inl rfl⟩) ?_; cbv
      refine And.intro (hsg _) (Exists.intro kn (And.intro hx1 ?_)); cbv
      refine And.intro (hsg _) (Exists.intro p2 (And.intro hu2 ?_)); cbv
      have hsub3 : A.sub .i64 d 1 = d - 1 := by unfold iLen at hiN; subst hA; exact iSub_id (by omega) (by omega)
      refine hB (w3, d - 1, (p.set dn xk).set kn xd) _ _ (by dsimp only; omega) ⟨by dsimp only; omega, by dsimp only; omega, hpm⟩ ⟨congrArg I hsub3, trivial⟩ ⟨rfl, rfl, trivial⟩ (.inl (by rw [hp2]))
    · rw [hF]
      refine Frees.row (xs := p.map natI) (by rw [hpc]; exact Elems_nat p) (frz_self (by simp [hpl])) rfl (h _ _ ⟨_, p, rfl, rfl, hp⟩)
end Go.Sas
namespace Go.Sas
open Go.Proofs
set_option maxRecDepth 100000
/-- a winter lies within a freight -/
structure WinV (f : Frt) (w : Win) : Prop where
  fi : f.fi.1 ≤ w.fi ∧ w.fi ≤ f.fi.2
  la : f.la.1 ≤ w.la ∧ w.la ≤ f.la.2
  len : w.caps.length = f.caps.length
  cap : ∀ (i : Nat) (x : Int) (c : Int × Int), w.caps[i]? = some x → f.caps[i]? = some c → c.1 ≤ x ∧ x ≤ c.2
end Go.Sas
namespace Go.Sas
open Go.Proofs
set_option maxRecDepth 100000
/-- a plan of so many orders -/
def PlanP (n : Nat) (l : List Int) : Prop := l.length = n ∧ (∀ k ∈ l, 0 ≤ k ∧ k ≤ (n : Int) - 1) ∧ l.Nodup
instance (n : Nat) (l : List Int) : Decidable (PlanP n l) := inferInstanceAs (Decidable (_ ∧ _ ∧ _))
def rowB (D : Nat) (f : Nat → Bool) : List AV := (List.range D).map fun d => B (f d)
theorem rowB_len {D : Nat} {f : Nat → Bool} : (rowB D f).length = D := by simp [rowB]
theorem getS_rowB {D d : Nat} {f : Nat → Bool} (h : d < D) : getS none (rowB D f) d (B (f d)) := by simp [getS, getN, rowB, h]
theorem updS_rowB {D d : Nat} {f : Nat → Bool} {v : Bool} (h : d < D) : updS 1 (rowB D f) d [B v] (rowB D (updF f d v)) := by
  refine ⟨rfl, by rw [rowB_len]; omega, ?_⟩
  have : (rowB D f).set d (B v) = rowB D (updF f d v) := by
    apply List.ext_getElem?; intro i
    rw [List.getElem?_set]
    by_cases hi : i < D
    · by_cases hd : d = i
      · subst hd; simp [rowB, hi, updF]
      · rw [if_neg hd]; simp [rowB, hi, updF]; intro h; exact absurd h.symm hd
    · simp [rowB, hi]; intro h; omega
  rw [← this, List.set_eq_take_append_cons_drop, if_pos (by rw [rowB_len]; exact h)]
  simp
theorem take_succ_mem {α : Type} {l : List α} {j : Nat} {x : α} (hx : l[j]? = some x) : l.take (j + 1) = l.take j ++ [x] := by
  obtain ⟨h, rfl⟩ := List.getElem?_eq_some_iff.1 hx
  exact List.take_succ_eq_append_getElem h
theorem p26 (a b c d : Int) (xs : List AV) (os : List Ord) (plan : List Int) (hn : 1 ≤ os.length ∧ os.length ≤ 6) (hp : plan.length ≤ 9223372036854775807) (H : AHeap) {Kk : AV → AHeap → Prop} (h : Kk (B (decide (PlanP os.length plan))) H) :
    ACalls Try.prog 26 [frV a b c d (.vs 2 xs) (.vs 4 (os.map orV)), .vs 1 (plan.map I)] H Kk := by
  refine (fun q => pureC (by rfl) (by rfl) q H h) ?_
  clear h
  intro Kk h
  obtain ⟨ys, hys⟩ : ∃ ys, ys = os.map orV := ⟨_, rfl⟩
  obtain ⟨ps, hps⟩ : ∃ ys, ys = plan.map I := ⟨_, rfl⟩
  rw [← hys, ← hps]
  obtain ⟨N, hN⟩ : ∃ N, N = os.length := ⟨_, rfl⟩
  rw [← hN] at h hn
  obtain ⟨W, hW⟩ : ∃ W, W = decide (PlanP N plan) := ⟨_, rfl⟩
  rw [← hW] at h
  obtain ⟨A, hA⟩ : ∃ A, A = std := ⟨_, rfl⟩
  have hv2 : A.vlen ys = iLen N := by subst hA; simp [std, hys, hN]
  have hsg : ∀ g, A.sg g g := by subst hA; exact fun _ => rfl
  have hnb : ∀ b, A.bnot b = !b := by subst hA; intro b; rfl
  refine go26 rfl (SGo_run hA ⟨[1], [], [], []⟩ .nil .nil 200 fun T TD hT hTD => ?_)
  cbv
  rw [hT]
  refine AGo_upE [1, 2, 5, 8, 9] plan.length (fun j (f : Nat → Bool) => (∀ k ∈ plan.take j, 0 ≤ k ∧ k ≤ iLen N - 1) ∧ (plan.take j).Nodup ∧ ∀ k : Nat, f k = true ↔ (iLen k ∈ plan.take j)) (fun j _ i => [(10, I i)])
    (fun j f => [.own 0 [I a, I b, I c, I d, .vs 2 xs, .vs 4 ys], .own 0 (rowB 6 f)]) (fun _ => false) ⟨by simp, by simp, by simp⟩ ⟨rfl, trivial⟩ (.inl rfl) fun j f i hi hj hP Bk hB => ?_
  have hlt : A.lt i (A.vlen ps) = decide (j < plan.length) := by subst hA; exact lt_len (by simp [hps]) hi
  have hadd : ∀ N, j < N → N ≤ 9223372036854775807 → A.add .i64 i 1 = iLen (j + 1) := fun N hj hN => by subst hA; exact add_one hi hj hN
  obtain ⟨hP1, hP2, hP3⟩ := hP
  obtain ⟨cc, hcc⟩ : ∃ r, r = rowB 6 f := ⟨_, rfl⟩
  rw [← hcc]
  have hsub : A.sub .i64 (A.vlen ys) 1 = iLen N - 1 := by rw [hv2]; subst hA; exact iSub_id (by unfold iLen; omega) (by unfold iLen; omega)
  refine SGo_run hA ⟨[1], [], (40, eInF) :: [], []⟩ (.cons (eIn_okF p40) .nil) .nil 200 fun T TD hT hTD => ?_
  cbv
  split <;> cbv
  · rename_i hk0
    have hk1 : j < plan.length := by have hz := hlt.symm.trans hk0; simpa using hz
    clear hk0
    obtain ⟨x, hx⟩ : ∃ x, plan[j]? = some x := ⟨_, List.getElem?_eq_getElem hk1⟩
    have hix : A.ix 1 1 ps i [I x] := by subst hA; exact ix_map hps hi hx rfl
    have htk := take_succ_mem hx
    have hxm : x ∈ plan := List.mem_of_getElem? hx
    refine Exists.intro _ (And.intro hix ?_); cbv
    intro q hq
    have hq : q = decide (0 ≤ x ∧ x ≤ A.sub .i64 (A.vlen ys) 1) := hq
    rw [hsub] at hq
    cbv
    split <;> cbv
    · rename_i hz
      have hz : q = false := by have hz := (hnb q).symm.trans hz; simpa using hz
      refine leaf h (congrArg B ?_) rfl
      rw [hW, decide_eq_false_iff_not]
      intro hP
      rw [hz] at hq
      have := of_decide_eq_false hq.symm
      exact this (hP.2.1 x hxm)
    · rename_i hz
      have hz : q = true := by have hz := (hnb q).symm.trans hz; simpa using hz
      rw [hz] at hq
      have hxb := of_decide_eq_true hq.symm
      obtain ⟨k, hk⟩ : ∃ k : Nat, x = iLen k := ⟨x.toNat, by unfold iLen; omega⟩
      have hk6 : k < 6 := by unfold iLen at hk hxb; omega
      have hxk : A.ixm 1 1 0 6 x k := by subst hA; exact ixm1 hk hk6
      have hg : A.get none cc k (B (f k)) := by subst hA; rw [hcc]; exact getS_rowB hk6
      obtain ⟨fk, hfk⟩ : ∃ v, v = f k := ⟨_, rfl⟩
      rw [← hfk] at hg
      refine And.intro (hsg _) (Exists.intro k (And.intro hxk ?_)); cbv
      refine And.intro (hsg _) (Exists.intro _ (And.intro hg ?_)); cbv
      split <;> cbv
      · rename_i hz2
        refine leaf h (congrArg B ?_) rfl
        rw [hW, decide_eq_false_iff_not]
        intro hP
        have hm := (hP3 k).1 hfk.symm
        rw [← hk] at hm
        have h5 : (plan.take (j + 1)).Nodup := hP.2.2.sublist (List.take_sublist _ _)
        rw [htk, List.nodup_append] at h5
        exact h5.2.2 x hm x (by simp) rfl
      · have hu : A.upd 1 cc k [B true] (rowB 6 (updF f k true)) := by subst hA; rw [hcc]; exact updS_rowB hk6
        obtain ⟨c2, hc2⟩ : ∃ r, r = rowB 6 (updF f k true) := ⟨_, rfl⟩
        rw [← hc2] at hu
        refine And.intro (hsg _) (Exists.intro k (And.intro hxk ?_)); cbv
        refine And.intro (hsg _) (Exists.intro c2 (And.intro hu ?_)); cbv
        have hnm : x ∉ plan.take j := fun hm => by rw [hk] at hm; have := (hP3 k).2 hm; rw [← hfk] at this; cases this
        refine hB (updF f k true) _ _ hk1 ⟨?_, ?_, ?_⟩ ⟨congrArg I (hadd _ hk1 (by omega)), trivial⟩ ⟨rfl, rfl, rfl, rfl, rfl, trivial⟩ (.inl (by rw [hc2]))
        · rw [htk]; intro y hy
          rcases List.mem_append.1 hy with hy | hy
          · exact hP1 y hy
          · simp at hy; subst hy; exact hxb
        · rw [htk, List.nodup_append]
          exact ⟨hP2, by simp, fun y hy z hz3 => by simp at hz3; subst hz3; rintro rfl; exact hnm hy⟩
        · intro y
          rw [htk, List.mem_append, ← hP3 y]
          unfold updF
          by_cases hy : y = k
          · subst hy; simp [hk]
          · rw [if_neg hy]
            have : iLen y ≠ x := by rw [hk]; unfold iLen; omega
            simp [this]
  · rename_i hk0
    have hk1 : ¬ j < plan.length := by have hz := hlt.symm.trans hk0; simpa using hz
    clear hk0
    refine leaf h (congrArg B ?_) rfl
    have hjl : j = plan.length := by omega
    rw [hjl, List.take_length] at hP1 hP2
    rw [hW, Bool.eq_iff_iff]
    have hpl : A.eq (A.vlen ps) (A.vlen ys) = decide (plan.length = N) := by
      rw [hv2]; subst hA; simp only [std, iEq, hps]; rw [Bool.eq_iff_iff]; unfold iLen; simp only [beq_iff_eq, decide_eq_true_eq, List.length_map]; omega
    show decide (PlanP N plan) = true ↔ A.eq (A.vlen ps) (A.vlen ys) = true
    rw [hpl, decide_eq_true_eq, decide_eq_true_eq]
    exact ⟨fun hP => hP.1, fun h9 => ⟨h9, hP1, hP2⟩⟩
end Go.Sas
