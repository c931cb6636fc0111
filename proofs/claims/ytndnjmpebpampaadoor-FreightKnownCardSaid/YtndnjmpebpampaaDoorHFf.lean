/-
Freight: freights, plans, winters made of numbers: contracts.
Freight: plans and winters made of numbers: contracts.
Freight: winters made of numbers: contract.
Freight: lists that are plans: contracts.
Conditions: none.
-/
import Derived.Test.YtndnjmpebpampaaDoorHEf
import Derived.Test.YtndnjmpebpampaaDoorQG8
set_option linter.unusedVariables false
set_option linter.unusedSimpArgs false
namespace Go.Sas
open Go.Proofs
set_option maxRecDepth 100000
abbrev orC4 (o : Ord) : List AV := [I o.u, I o.d, I o.l, I o.s]
abbrev spC (x : Int × Int) : List AV := [I x.1, I x.2]
end Go.Sas
namespace Go.Sas
open Go.Proofs
set_option maxRecDepth 100000
theorem updS_map {p : List Nat} {i x : Nat} (h : i < p.length) : updS 1 (p.map natI) i [natI x] ((p.set i x).map natI) := by
  refine ⟨rfl, by simp; omega, ?_⟩
  rw [List.set_eq_take_append_cons_drop, if_pos h]
  simp [List.map_append, List.map_take, List.map_drop]
theorem getS_map {p : List Nat} {i x : Nat} (h : p[i]? = some x) : getS none (p.map natI) i (natI x) := by
  simp [getS, getN, h]
end Go.Sas
namespace Go.Sas
open Go.Proofs
set_option maxRecDepth 100000
/-- a winter lies within a freight -/
structure WinV (f : Frt) (w : Win) : Prop where
  fi : f.fi.1 ≤ w.fi ∧ w.fi ≤ f.fi.2
  la : f.la.1 ≤ w.la ∧ w.la ≤ f.la.2
  len : w.caps.length = f.caps.length
  cap : ∀ (i : Nat) (x : Int) (c : Int × Int), w.caps[i]? = some x → f.caps[i]? = some c → c.1 ≤ x ∧ x ≤ c.2
end Go.Sas
namespace Go.Sas
open Go.Proofs
set_option maxRecDepth 100000
/-- a plan of so many orders -/
def PlanP (n : Nat) (l : List Int) : Prop := l.length = n ∧ (∀ k ∈ l, 0 ≤ k ∧ k ≤ (n : Int) - 1) ∧ l.Nodup
instance (n : Nat) (l : List Int) : Decidable (PlanP n l) := inferInstanceAs (Decidable (_ ∧ _ ∧ _))
def rowB (D : Nat) (f : Nat → Bool) : List AV := (List.range D).map fun d => B (f d)
theorem rowB_len {D : Nat} {f : Nat → Bool} : (rowB D f).length = D := by simp [rowB]
theorem getS_rowB {D d : Nat} {f : Nat → Bool} (h : d < D) : getS none (rowB D f) d (B (f d)) := by simp [getS, getN, rowB, h]
theorem updS_rowB {D d : Nat} {f : Nat → Bool} {v : Bool} (h : d < D) : updS 1 (rowB D f) d [B v] (rowB D (updF f d v)) := by
  refine ⟨rfl, by rw [rowB_len]; omega, ?_⟩
  have : (rowB D f).set d (B v) = rowB D (updF f d v) := by
    apply List.ext_getElem?; intro i
    rw [List.getElem?_set]
    by_cases hi : i < D
    · by_cases hd : d = i
      · subst hd; simp [rowB, hi, updF]
      · rw [if_neg hd]; simp [rowB, hi, updF]; intro h; exact absurd h.symm hd
    · simp [rowB, hi]; intro h; omega
  rw [← this, List.set_eq_take_append_cons_drop, if_pos (by rw [rowB_len]; exact h)]
  simp
theorem take_succ_mem {α : Type} {l : List α} {j : Nat} {x : α} (hx : l[j]? = some x) : l.take (j + 1) = l.take j ++ [x] := by
  obtain ⟨h, rfl⟩ := List.getElem?_eq_some_iff.1 hx
  exact List.take_succ_eq_append_getElem h
theorem p23 (a b c d : Int) (xs : List AV) (os : List Ord) (plan : List Int) (hn : 1 ≤ os.length ∧ os.length ≤ 6) (hp : plan.length ≤ 9223372036854775807) (H : AHeap) {Kk : AV → AHeap → Prop} (h : Kk (B (decide (PlanP os.length plan))) H) :
    ACalls Tryd.prog 23 [frV a b c d (.vs 2 xs) (.vs 4 (os.map orV)), .vs 1 (plan.map I)] H Kk := by
  refine (fun q => pureC (by rfl) (by rfl) q H h) ?_
  clear h
  intro Kk h
  obtain ⟨ys, hys⟩ : ∃ ys, ys = os.map orV := ⟨_, rfl⟩
  obtain ⟨ps, hps⟩ : ∃ ys, ys = plan.map I := ⟨_, rfl⟩
  rw [← hys, ← hps]
  obtain ⟨N, hN⟩ : ∃ N, N = os.length := ⟨_, rfl⟩
  rw [← hN] at h hn
  obtain ⟨W, hW⟩ : ∃ W, W = decide (PlanP N plan) := ⟨_, rfl⟩
  rw [← hW] at h
  obtain ⟨A, hA⟩ : ∃ A, A = std := ⟨_, rfl⟩
  have hv2 : A.vlen ys = iLen N := by subst hA; simp [std, hys, hN]
  have hsg : ∀ g, A.sg g g := by subst hA; exact fun _ => rfl
  have hnb : ∀ b, A.bnot b = !b := by subst hA; intro b; rfl
  refine go23 rfl (SGo_run hA ⟨[1], [], [], []⟩ .nil .nil 200 fun T TD hT hTD => ?_)
  cbv
  rw [hT]
  refine AGo_upE [1, 2, 5, 8, 9] plan.length (fun j (f : Nat → Bool) => (∀ k ∈ plan.take j, 0 ≤ k ∧ k ≤ iLen N - 1) ∧ (plan.take j).Nodup ∧ ∀ k : Nat, f k = true ↔ (iLen k ∈ plan.take j)) (fun j _ i => [(10, I i)])
    (fun j f => [.own 0 [I a, I b, I c, I d, .vs 2 xs, .vs 4 ys], .own 0 (rowB 6 f)]) (fun _ => false) ⟨by simp, by simp, by simp⟩ ⟨rfl, trivial⟩ (.inl rfl) fun j f i hi hj hP Bk hB => ?_
  have hlt : A.lt i (A.vlen ps) = decide (j < plan.length) := by subst hA; exact lt_len (by simp [hps]) hi
  have hadd : ∀ N, j < N → N ≤ 9223372036854775807 → A.add .i64 i 1 = iLen (j + 1) := fun N hj hN => by subst hA; exact add_one hi hj hN
  obtain ⟨hP1, hP2, hP3⟩ := hP
  obtain ⟨cc, hcc⟩ : ∃ r, r = rowB 6 f := ⟨_, rfl⟩
  rw [← hcc]
  have hsub : A.sub .i64 (A.vlen ys) 1 = iLen N - 1 := by rw [hv2]; subst hA; exact iSub_id (by unfold iLen; omega) (by unfold iLen; omega)
  refine SGo_run hA ⟨[1], [], (21, eIn) :: [], []⟩ (.cons (eIn_ok p21) .nil) .nil 200 fun T TD hT hTD => ?_
  cbv
  split <;> cbv
  · rename_i hk0
    have hk1 : j < plan.length := by have hz := hlt.symm.trans hk0; simpa using hz
    clear hk0
    obtain ⟨x, hx⟩ : ∃ x, plan[j]? = some x := ⟨_, List.getElem?_eq_getElem hk1⟩
    have hix : A.ix 1 1 ps i [I x] := by subst hA; exact ix_map hps hi hx rfl
    have htk := take_succ_mem hx
    have hxm : x ∈ plan := List.mem_of_getElem? hx
    refine Exists.intro _ (And.intro hix ?_); cbv
    intro q hq
    have hq : q = decide (0 ≤ x ∧ x ≤ A.sub .i64 (A.vlen ys) 1) := hq
    rw [hsub] at hq
    cbv
    split <;> cbv
    · rename_i hz
      have hz : q = false := by have hz := (hnb q).symm.trans hz; simpa using hz
      refine leaf h (congrArg B ?_) rfl
      rw [hW, decide_eq_false_iff_not]
      intro hP
      rw [hz] at hq
      have := of_decide_eq_false hq.symm
      exact this (hP.2.1 x hxm)
    · rename_i hz
      have hz : q = true := by have hz := (hnb q).symm.trans hz; simpa using hz
      rw [hz] at hq
      have hxb := of_decide_eq_true hq.symm
      obtain ⟨k, hk⟩ : ∃ k : Nat, x = iLen k := ⟨x.toNat, by unfold iLen; omega⟩
      have hk6 : k < 6 := by unfold iLen at hk hxb; omega
      have hxk : A.ixm 1 1 0 6 x k := by subst hA; exact ixm1 hk hk6
      have hg : A.get none cc k (B (f k)) := by subst hA; rw [hcc]; exact getS_rowB hk6
      obtain ⟨fk, hfk⟩ : ∃ v, v = f k := ⟨_, rfl⟩
      rw [← hfk] at hg
      refine And.intro (hsg _) (Exists.intro k (And.intro hxk ?_)); cbv
      refine And.intro (hsg _) (Exists.intro _ (And.intro hg ?_)); cbv
      split <;> cbv
      · rename_i hz2
        refine leaf h (congrArg B ?_) rfl
        rw [hW, decide_eq_false_iff_not]
        intro hP
        have hm := (hP3 k).1 hfk.symm
        rw [← hk] at hm
        have h5 : (plan.take (j + 1)).Nodup := hP.2.2.sublist (List.take_sublist _ _)
        rw [htk, List.nodup_append] at h5
        exact h5.2.2 x hm x (by simp) rfl
      · have hu : A.upd 1 cc k [B true] (rowB 6 (updF f k true)) := by subst hA; rw [hcc]; exact updS_rowB hk6
        obtain ⟨c2, hc2⟩ : ∃ r, r = rowB 6 (updF f k true) := ⟨_, rfl⟩
        rw [← hc2] at hu
        refine And.intro (hsg _) (Exists.intro k (And.intro hxk ?_)); cbv
        refine And.intro (hsg _) (Exists.intro c2 (And.intro hu ?_)); cbv
        have hnm : x ∉ plan.take j := fun hm => by rw [hk] at hm; have := (hP3 k).2 hm; rw [← hfk] at this; cases this
        refine hB (updF f k true) _ _ hk1 ⟨?_, ?_, ?_⟩ ⟨congrArg I (hadd _ hk1 (by omega)), trivial⟩ ⟨rfl, rfl, rfl, rfl, rfl, trivial⟩ (.inl (by rw [hc2]))
        · rw [htk]; intro y hy
          rcases List.mem_append.1 hy with hy | hy
          · exact hP1 y hy
          · simp at hy; subst hy; exact hxb
        · rw [htk, List.nodup_append]
          exact ⟨hP2, by simp, fun y hy z hz3 => by simp at hz3; subst hz3; rintro rfl; exact hnm hy⟩
        · intro y
          rw [htk, List.mem_append, ← hP3 y]
          unfold updF
          by_cases hy : y = k
          · subst hy; simp [hk]
          · rw [if_neg hy]
            have : iLen y ≠ x := by rw [hk]; unfold iLen; omega
            simp [this]
  · rename_i hk0
    have hk1 : ¬ j < plan.length := by have hz := hlt.symm.trans hk0; simpa using hz
    clear hk0
    refine leaf h (congrArg B ?_) rfl
    have hjl : j = plan.length := by omega
    rw [hjl, List.take_length] at hP1 hP2
    rw [hW, Bool.eq_iff_iff]
    have hpl : A.eq (A.vlen ps) (A.vlen ys) = decide (plan.length = N) := by
      rw [hv2]; subst hA; simp only [std, iEq, hps]; rw [Bool.eq_iff_iff]; unfold iLen; simp only [beq_iff_eq, decide_eq_true_eq, List.length_map]; omega
    show decide (PlanP N plan) = true ↔ A.eq (A.vlen ps) (A.vlen ys) = true
    rw [hpl, decide_eq_true_eq, decide_eq_true_eq]
    exact ⟨fun hP => hP.1, fun h9 => ⟨h9, hP1, hP2⟩⟩
end Go.Sas
