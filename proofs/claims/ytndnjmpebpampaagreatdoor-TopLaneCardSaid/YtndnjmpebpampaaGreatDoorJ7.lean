/-
What the functions that draw numbers yield, part 1.
What the functions that draw numbers yield, part 2: spans.
What the functions that draw numbers yield, part 3: beds, cracks, rows, loads.
What the functions that draw numbers yield, part 4: loads, spans within, tables, plates, seeds.
Conditions: none.
-/
import Derived.Test.YtndnjmpebpampaaGreatDoorP7
import Derived.Test.YtndnjmpebpampaaGreatDoorJ1
import Derived.Test.YtndnjmpebpampaaGreatDoorQT1
set_option linter.unusedVariables false
set_option linter.unusedSimpArgs false
namespace Go.Sas
open Go.Proofs
set_option maxRecDepth 100000
theorem wrapU_bnd (n : Int) : 0 ≤ IntKind.u64.wrap n ∧ IntKind.u64.wrap n < 18446744073709551616 := by
  simp [IntKind.wrap, IntKind.signed, IntKind.bits]
  omega
theorem iXorU_bnd (a b : Int) : 0 ≤ iXor .u64 a b ∧ iXor .u64 a b < 18446744073709551616 := wrapU_bnd _
theorem shr1 {a : Int} : iShr .u64 a 1 = a / 2 := by
  simp [iShr, IntKind.bits]
  exact Int.fdiv_eq_ediv_of_nonneg _ (by omega)
theorem d18 : Draws Tryz.prog 18 [] fun r => ∃ n, r = U n ∧ 0 ≤ n ∧ n < 18446744073709551616 := by
  refine .of rfl (by rintro r ⟨n, rfl, _⟩; rfl) fun w Kk h => ?_
  obtain ⟨A, hA⟩ : ∃ A, A = std := ⟨_, rfl⟩
  obtain ⟨F, hF⟩ : ∃ F : AV → AHeap → Prop, F = Kk := ⟨_, rfl⟩
  rw [← hF]
  refine go18 rfl (SGo_run hA ⟨[], [], [], []⟩ .nil .nil 200 fun T TD hT hTD => ?_)
  clear hT hTD
  cbv
  subst hF
  refine h _ _ ⟨_, rfl, ?_⟩
  subst hA
  exact iXorU_bnd _ _
theorem sNext_ok : ∀ rest pre Q, sNext rest = some (pre, Q) → pre () → Draws Tryz.prog 18 rest Q := by
  intro rest pre Q h hp
  unfold sNext at h
  split at h
  · cases h; exact d18
  · cases h
/-- below a number -/
theorem d8 (n : Int) (hn : n ≤ 9223372036854775807) : Draws Tryz.prog 8 [I n] fun r => ∃ k, r = I k ∧ 0 ≤ k ∧ (k < n ∨ k = 0) := by
  refine .of rfl (by rintro r ⟨n, rfl, _⟩; rfl) fun w Kk h => ?_
  obtain ⟨A, hA⟩ : ∃ A, A = std := ⟨_, rfl⟩
  refine go8 rfl (SGo_run hA ⟨[], [], [], [(18, eDraw sNext)]⟩ .nil (.cons (eDraw_ok sNext_ok) .nil) 200 fun T TD hT hTD => ?_)
  clear hT hTD
  cbv
  split <;> cbv
  · exact h _ _ ⟨0, rfl, by omega, .inr rfl⟩
  · rename_i hq
    have hq : ¬ n < 2 := by have hq : A.lt n 2 = false := hq; subst hA; simpa [std, iLt] using hq
    refine Exists.intro () (And.intro trivial ?_)
    rintro w' _ ⟨k, rfl, hk1, hk2⟩
    cbv
    have hcv : A.cv .u64 n = n := by
      subst hA
      show IntKind.u64.wrap n = n
      simp [IntKind.wrap, IntKind.signed, IntKind.bits]; omega
    refine And.intro (by show A.nz (A.cv .u64 n); rw [hcv]; subst hA; show n ≠ 0; omega) ?_
    refine h _ _ ⟨_, rfl, ?_⟩
    have hr : A.rem .u64 (A.shr .u64 k 1) (A.cv .u64 n) = (k / 2) % n := by
      rw [hcv]; subst hA
      simp only [std, shr1, iRem]
      rw [Int.tmod_eq_emod_of_nonneg (by omega)]
    show 0 ≤ A.cv .i64 (A.rem .u64 (A.shr .u64 k 1) (A.cv .u64 n)) ∧ (A.cv .i64 (A.rem .u64 (A.shr .u64 k 1) (A.cv .u64 n)) < n ∨ A.cv .i64 (A.rem .u64 (A.shr .u64 k 1) (A.cv .u64 n)) = 0)
    rw [hr]
    have h1 : 0 ≤ (k / 2) % n := Int.emod_nonneg _ (by omega)
    have h2 : (k / 2) % n < n := Int.emod_lt_of_pos _ (by omega)
    have h3 : A.cv .i64 ((k / 2) % n) = (k / 2) % n := by subst hA; exact wrap_id (by omega) (by omega)
    rw [h3]
    exact ⟨h1, .inl h2⟩
theorem sBelow_ok : ∀ rest pre Q, sBelow rest = some (pre, Q) → pre () → Draws Tryz.prog 8 rest Q := by
  intro rest pre Q h hp
  unfold sBelow at h
  split at h
  · cases h; exact d8 _ hp
  · cases h
def ed1 : ETab := [(8, eDraw sBelow)]
theorem ed1_ok : ETabOk Tryz.prog ed1 := .cons (eDraw_ok sBelow_ok) .nil
theorem d7 (a b : Int) (ha : -1000000000000 ≤ a ∧ a ≤ 1000000000000) (hb : -1000000000000 ≤ b ∧ b ≤ 1000000000000) : Draws Tryz.prog 7 [I a, I b] fun r => ∃ k, r = I k ∧ a ≤ k ∧ (k ≤ b ∨ k = a) := by
  refine .of rfl (by rintro r ⟨n, rfl, _⟩; rfl) fun w Kk h => ?_
  obtain ⟨A, hA⟩ : ∃ A, A = std := ⟨_, rfl⟩
  refine go7 rfl (SGo_run hA ⟨[], [], [], ed1⟩ .nil ed1_ok 200 fun T TD hT hTD => ?_)
  clear hT hTD
  have hd : A.add .i64 (A.sub .i64 b a) 1 = b - a + 1 := by subst hA; simp only [std]; rw [iSub_id (by omega) (by omega), iAdd_id (by omega) (by omega)]
  cbv
  refine Exists.intro () (And.intro (by show A.add .i64 (A.sub .i64 b a) 1 ≤ _; rw [hd]; omega) ?_)
  rintro w' _ ⟨k, rfl, hk1, hk2⟩
  have hk2 : k < A.add .i64 (A.sub .i64 b a) 1 ∨ k = 0 := hk2
  rw [hd] at hk2
  cbv
  have hr : A.add .i64 a k = a + k := by subst hA; exact iAdd_id (by omega) (by omega)
  refine h _ _ ⟨_, rfl, ?_⟩
  show a ≤ A.add .i64 a k ∧ (A.add .i64 a k ≤ b ∨ A.add .i64 a k = a)
  rw [hr]; omega
theorem sFrom_ok : ∀ rest pre Q, sFrom rest = some (pre, Q) → pre () → Draws Tryz.prog 7 rest Q := by
  intro rest pre Q h hp
  unfold sFrom at h
  split at h
  · cases h; exact d7 _ _ hp.1 hp.2
  · cases h
theorem d20 (n : Int) (hn : n ≤ 9223372036854775807) : Draws Tryz.prog 20 [I n] fun r => ∃ b, r = B b := by
  refine .of rfl (by rintro r ⟨n, rfl⟩; rfl) fun w Kk h => ?_
  obtain ⟨A, hA⟩ : ∃ A, A = std := ⟨_, rfl⟩
  refine go20 rfl (SGo_run hA ⟨[], [], [], ed1⟩ .nil ed1_ok 200 fun T TD hT hTD => ?_)
  clear hT hTD
  cbv
  refine Exists.intro () (And.intro hn ?_)
  rintro w' _ ⟨k, rfl, hk1, hk2⟩
  cbv
  exact h _ _ ⟨_, rfl⟩
theorem sYes_ok : ∀ rest pre Q, sYes rest = some (pre, Q) → pre () → Draws Tryz.prog 20 rest Q := by
  intro rest pre Q h hp
  unfold sYes at h
  split at h
  · cases h; exact d20 _ hp
  · cases h
theorem d23 (xs : List AV) (h0 : xs ≠ []) (hl : xs.length < 1000000) (hI : AllI xs) : Draws Tryz.prog 23 [.vs 1 xs] fun r => ∃ k, r = I k ∧ I k ∈ xs := by
  refine .of rfl (by rintro r ⟨n, rfl, _⟩; rfl) fun w Kk h => ?_
  obtain ⟨A, hA⟩ : ∃ A, A = std := ⟨_, rfl⟩
  have hv : A.vlen xs = iLen xs.length := by subst hA; rfl
  refine go23 rfl (SGo_run hA ⟨[], [], [], ed1⟩ .nil ed1_ok 200 fun T TD hT hTD => ?_)
  clear hT hTD
  cbv
  have hpos : 0 < xs.length := List.length_pos_iff.2 h0
  split <;> cbv
  · rename_i hq
    exfalso
    have hq : A.eq (A.vlen xs) 0 = true := hq
    rw [hv] at hq
    subst hA
    simp only [std, iEq, beq_iff_eq, iLen] at hq
    omega
  · refine Exists.intro () (And.intro (by show A.vlen xs ≤ _; rw [hv]; unfold iLen; omega) ?_)
    rintro w' _ ⟨k, rfl, hk1, hk2⟩
    have hk2 : k < A.vlen xs ∨ k = 0 := hk2
    rw [hv] at hk2
    have hk3 : k.toNat < xs.length := by unfold iLen at hk2; omega
    obtain ⟨x, hx⟩ : ∃ x, xs[k.toNat]? = some x := ⟨_, List.getElem?_eq_getElem hk3⟩
    have hm := List.mem_of_getElem? hx
    obtain ⟨n, rfl⟩ := hI x hm
    cbv
    refine Exists.intro [I n] (And.intro (by subst hA; exact ⟨rfl, hk1, _, hx, rfl⟩) ?_)
    cbv
    exact h _ _ ⟨_, rfl, hm⟩
theorem sOf_ok : ∀ rest pre Q, sOf rest = some (pre, Q) → pre () → Draws Tryz.prog 23 rest Q := by
  intro rest pre Q h hp
  unfold sOf at h
  split at h
  · split at h
    · rename_i xs hx
      cases h
      intro w id H hH Kk hk
      exact (d23 xs hp.1 hp.2.1 hp.2.2 w id H hH Kk hk).wk ⟨Wk.rfl, asVs_wk hx, trivial⟩
    · cases h
  · cases h
def ed2 : ETab := [(8, eDraw sBelow), (7, eDraw sFrom), (23, eDraw sOf), (20, eDraw sYes)]
theorem ed2_ok : ETabOk Tryz.prog ed2 := .cons (eDraw_ok sBelow_ok) (.cons (eDraw_ok sFrom_ok) (.cons (eDraw_ok sOf_ok) (.cons (eDraw_ok sYes_ok) .nil)))
end Go.Sas
namespace Go.Sas
open Go.Proofs
set_option maxRecDepth 100000
theorem d22 (a b : Int) (h0 : -1000000000 ≤ a ∧ a ≤ b ∧ b ≤ 1000000000) : Draws Tryz.prog 22 [I a, I b] (Spn a b) := by
  refine .of rfl (by rintro r ⟨n, m, rfl, _⟩; rfl) fun w Kk h => ?_
  obtain ⟨A, hA⟩ : ∃ A, A = std := ⟨_, rfl⟩
  refine go22 rfl (SGo_run hA ⟨[], [], [], ed2⟩ .nil ed2_ok 200 fun T TD hT hTD => ?_)
  clear hT hTD
  cbv
  refine Exists.intro () (And.intro (by omega) ?_)
  rintro w1 _ ⟨k, rfl, hk1, hk2⟩
  cbv
  refine Exists.intro () (And.intro (by omega) ?_)
  rintro w2 _ ⟨q, rfl, hq1, hq2⟩
  cbv
  have hmn : A.min b (A.add .i64 (A.add .i64 k 1) (A.quo .i64 (A.sub .i64 b a) 10)) = min b (k + 1 + (b - a) / 10) := by
    subst hA; simp only [std, iMin_eq]; simp (disch := omega) only [iAdd_id, iSub_id, iQuo_id]
  split <;> cbv
  · refine Exists.intro () (And.intro (by refine ⟨by omega, ?_⟩; show _ ≤ A.min b (A.add .i64 (A.add .i64 k 1) (A.quo .i64 (A.sub .i64 b a) 10)) ∧ A.min b (A.add .i64 (A.add .i64 k 1) (A.quo .i64 (A.sub .i64 b a) 10)) ≤ _; rw [hmn]; omega) ?_)
    rintro w3 _ ⟨t, rfl, ht1, ht2⟩
    cbv
    have ht2 : t ≤ A.min b (A.add .i64 (A.add .i64 k 1) (A.quo .i64 (A.sub .i64 b a) 10)) ∨ t = k := ht2
    rw [hmn] at ht2
    exact h _ _ ⟨_, _, rfl, by omega, by omega, by omega⟩
  split <;> cbv
  · refine Exists.intro () (And.intro (by omega) ?_)
    rintro w3 _ ⟨t, rfl, ht1, ht2⟩
    cbv
    exact h _ _ ⟨_, _, rfl, by omega, by omega, by omega⟩
  · exact h _ _ ⟨_, _, rfl, by omega, by omega, by omega⟩
theorem sSpan_ok : ∀ rest pre Q, sSpan rest = some (pre, Q) → pre () → Draws Tryz.prog 22 rest Q := by
  intro rest pre Q h hp
  unfold sSpan at h
  split at h
  · cases h; exact d22 _ _ hp
  · cases h
theorem AllI_lits {l : List Int} : AllI (l.map I) := by
  intro x hx
  obtain ⟨n, _, rfl⟩ := List.mem_map.1 hx
  exact ⟨n, rfl⟩
def ed3 : ETab := (22, eDraw sSpan) :: ed2
theorem ed3_ok : ETabOk Tryz.prog ed3 := .cons (eDraw_ok sSpan_ok) ed2_ok
end Go.Sas
namespace Go.Sas
open Go.Proofs
set_option maxRecDepth 100000
def sTable : List AV → Option ((Unit → Prop) × (AV → Prop))
  | [.lit (.int .i64 n)] => some (fun _ => 4 ≤ n ∧ n ≤ 2000, LsQ 2 sp fun l => tabS l = 0)
  | _ => none
def PlQ (r : AV) : Prop := ∃ (p : Plate) (a b : Int) (xs ec : List AV) (ne ed gr lo hi sh wi : Int), r = plV a b (.vs 2 xs) (.vs 2 ec) ne ed gr lo hi sh wi ∧ PlateIs p a b xs ec ne ed gr lo hi sh wi ∧ checkS p = 0
def sPlate : List AV → Option ((Unit → Prop) × (AV → Prop))
  | [] => some (fun _ => True, PlQ)
  | _ => none
end Go.Sas
namespace Go.Sas
open Go.Proofs
set_option maxRecDepth 100000
theorem tabGo_app {x : Int × Int} : ∀ {l : List (Int × Int)} {q : Int × Int}, tabGo (some q) l = 0 → entE (some (l.getLastD q)) x = 0 → tabGo (some q) (l ++ [x]) = 0
  | [], q, _, h => by simp only [List.getLastD_nil] at h; simp [tabGo, h]
  | y :: l, q, h0, h => by
    simp only [tabGo] at h0
    split at h0
    · rename_i h1; exact absurd h0 h1
    · rename_i h1
      simp only [List.cons_append, tabGo, h1, if_false]
      refine tabGo_app h0 ?_
      rw [List.getLastD_cons] at h
      exact h
theorem d24 (far : Int) (hf : 4 ≤ far ∧ far ≤ 2000) : Draws Tryz.prog 24 [I far] (LsQ 2 sp fun l => tabS l = 0) := by
  refine .of rfl (by rintro r ⟨l, xs, rfl, _⟩; rfl) fun w Kk h => ACalls.frees ?_
  obtain ⟨A, hA⟩ : ∃ A, A = std := ⟨_, rfl⟩
  have hsg : ∀ g, A.sg g g := by subst hA; exact fun _ => rfl
  obtain ⟨F, hF⟩ : ∃ F, F = Frees 1 Kk := ⟨_, rfl⟩
  rw [show Frees [AObj.own 0 [U w]].length Kk = F from hF.symm]
  have hq0 : A.quo .i64 far 4 = far / 4 := by subst hA; exact iQuo_id (by omega) (by omega) (by omega)
  refine go24 rfl (SGo_run hA ⟨[], [], [], ed3⟩ .nil ed3_ok 200 fun T TD hT hTD => ?_)
  cbv
  refine Exists.intro () (And.intro (by omega) ?_)
  rintro w1 _ ⟨k, rfl, hk1, hk2⟩
  cbv
  rw [hT]
  refine AGo_growC [I 0, I 1000000] (fun x : Int × Int => [I x.1, I x.2]) (fun d l (t : Int × Int) => 0 ≤ d ∧ d + iLen l.length = k ∧ (0 ≤ t.1 ∧ t.1 ≤ 500 * iLen l.length) ∧ (0 ≤ t.2 ∧ t.2 ≤ 1000000) ∧ l.getLastD (0, 1000000) = t ∧ tabGo (some (0, 1000000)) l = 0) (fun d n t => [(0, .mp 0 0 0), (1, I far), (5, .ms 2 1 n 0 (n + 1)), (6, I t.1), (7, I t.2), (8, I d)]) w1 k (0, 1000000) ⟨by omega, by simp [iLen], by simp [iLen], by simp, rfl, rfl⟩ ⟨rfl, rfl, rfl, rfl, rfl, rfl, trivial⟩ (.inl rfl) ?_
  rintro w d l ⟨t1, t2⟩ n cs hn hcs ⟨hd, hdl, ht1, ht2, hlast, htab⟩ Bk hB
  simp only at ht1 ht2
  have hcl : cs.length = (n + 1) * 2 := by rw [hcs, hn]; simp only [List.length_append, List.length_cons, List.length_nil]; rw [len_flat (k := 2) (fun _ => rfl) l]; omega
  have hgt : A.lt 0 d = decide (0 < d) := by subst hA; rfl
  have hsub : A.sub .i64 d 1 = d - 1 := by subst hA; unfold iLen at hdl; exact iSub_id (by omega) (by omega)
  refine SGo_run hA ⟨[1], [], [], ed3⟩ .nil ed3_ok 200 fun T TD hT hTD => ?_
  cbv
  split <;> cbv
  · rename_i hq
    have hq := hgt.symm.trans hq
    simp only [decide_eq_true_eq] at hq
    refine Exists.intro () (And.intro (by refine ⟨by omega, ?_⟩; show _ ≤ A.quo .i64 far 4 ∧ A.quo .i64 far 4 ≤ _; rw [hq0]; omega) ?_)
    rintro w2 _ ⟨a, rfl, ha1, ha2⟩
    have ha2 : a ≤ A.quo .i64 far 4 ∨ a = 1 := ha2
    rw [hq0] at ha2
    cbv
    refine Exists.intro () (And.intro (by omega) ?_)
    rintro w3 _ ⟨b, rfl, hb1, hb2⟩
    cbv
    refine Exists.intro () (And.intro (by omega) ?_)
    rintro w4 _ ⟨b', rfl, hb1', hb2'⟩
    cbv
    refine Exists.intro () (And.intro ⟨by simp, by simp, by exact AllI_lits (l := [0, t2, b, b'])⟩ ?_)
    rintro w5 _ ⟨q, rfl, hq⟩
    simp at hq
    cbv
    have hle : iLen l.length ≤ 4 := by unfold iLen at hdl ⊢; omega
    have hab : A.add .i64 t1 a = t1 + a := by subst hA; exact iAdd_id (by omega) (by omega)
    refine And.intro (hsg _) (Exists.intro (cs ++ [I (A.add .i64 t1 a), I q]) (Exists.intro (n + 2) (And.intro (by subst hA; unfold iLen at hdl; exact app_one hcl rfl (by omega)) (And.intro rfl ?_))))
    generalize hc2 : cs ++ [I (A.add .i64 t1 a), I q] = cs2
    cbv
    subst hc2
    refine hB _ (d - 1) (A.add .i64 t1 a, q) (A.add .i64 t1 a, q) _ _ (by omega) ⟨by omega, by unfold iLen at hdl ⊢; simp; omega, ?_, by simp only; omega, by simp, ?_⟩ ⟨rfl, rfl, rfl, rfl, rfl, congrArg I hsub, trivial⟩ (.inl rfl)
    · rw [hab]; unfold iLen at ht1 ⊢; simp; omega
    · refine tabGo_app htab ?_
      rw [hlast, hab]
      simp only [entE]
      repeat' split
      all_goals omega
  · rename_i hq
    have hq := hgt.symm.trans hq
    simp only [decide_eq_false_iff_not] at hq
    rw [hF]
    refine Frees.row (xs := ((0, 1000000) :: l).map sp) (by rw [hcs]; exact Elems_sp ((0, 1000000) :: l)) (frz_self (by simp [hn])) rfl (h _ _ ⟨(0, 1000000) :: l, _, rfl, rfl, ?_⟩)
    unfold iLen at hdl
    show tabS ((0, 1000000) :: l) = 0
    unfold tabS
    rw [if_neg (by simp), if_neg (by simp only [List.length_cons]; omega)]
    simp only [tabGo]
    rw [if_neg (by decide)]
    exact htab
theorem sTable_ok : ∀ rest pre Q, sTable rest = some (pre, Q) → pre () → Draws Tryz.prog 24 rest Q := by
  intro rest pre Q h hp
  unfold sTable at h
  split at h
  · cases h; exact d24 _ hp
  · cases h
set_option maxHeartbeats 2000000 in
theorem d6 : Draws Tryz.prog 6 [] PlQ := by
  refine .of rfl (by rintro r ⟨p, a, b, xs, ec, ne, ed, gr, lo, hi, sh, wi, rfl, _⟩; rfl) fun w Kk h => ?_
  obtain ⟨A, hA⟩ : ∃ A, A = std := ⟨_, rfl⟩
  refine go6 rfl (SGo_run hA ⟨[], [0], [], (24, eDraw sTable) :: ed3⟩ .nil (.cons (eDraw_ok sTable_ok) ed3_ok) 200 fun T TD hT hTD => ?_)
  cbv
  refine Exists.intro () (And.intro ⟨by simp, by simp, by exact AllI_lits (l := [1, 30000])⟩ ?_)
  rintro w1 _ ⟨a, rfl, ha⟩
  simp at ha
  replace ha : 1 ≤ a ∧ a ≤ 30000 := by omega
  cbv
  refine Exists.intro () (And.intro ⟨by simp, by simp, by exact AllI_lits (l := [60000, 100000])⟩ ?_)
  rintro w2 _ ⟨b, rfl, hb⟩
  simp at hb
  replace hb : 60000 ≤ b ∧ b ≤ 100000 := by omega
  cbv
  refine Exists.intro () (And.intro (by omega) ?_)
  rintro w3 _ ⟨u, v, rfl, hu1, hu2, hu3⟩
  cbv
  refine Exists.intro () (And.intro (by omega) ?_)
  rintro w4 _ ⟨sl, xs, rfl, hxs, hsl⟩
  cbv
  refine Exists.intro () (And.intro (by omega) ?_)
  rintro w5 _ ⟨cl, ec, rfl, hec, hcl⟩
  cbv
  refine Exists.intro () (And.intro ⟨by simp, by simp, by exact AllI_lits (l := [0, 5, 40])⟩ ?_)
  rintro w6 _ ⟨ne, rfl, hne⟩
  simp at hne
  replace hne : 0 ≤ ne ∧ ne ≤ 40 := by omega
  cbv
  refine Exists.intro () (And.intro (by omega) ?_)
  rintro w7 _ ⟨ed, rfl, hed1, hed2⟩
  replace hed2 : ed ≤ 1000000 := by omega
  cbv
  refine Exists.intro () (And.intro (by omega) ?_)
  rintro w8 _ ⟨gg, rfl, hgg1, hgg2⟩
  replace hgg2 : gg ≤ 1000 := by omega
  cbv
  refine Exists.intro () (And.intro ⟨by simp, by simp, by exact AllI_lits (l := [98, 1, gg])⟩ ?_)
  rintro w9 _ ⟨gr, rfl, hgr⟩
  simp at hgr
  replace hgr : 1 ≤ gr ∧ gr ≤ 1000 := by omega
  cbv
  refine Exists.intro () (And.intro (by omega) ?_)
  rintro w10 _ ⟨lo, rfl, hlo1, hlo2⟩
  replace hlo2 : lo ≤ 1000000 := by omega
  cbv
  refine Exists.intro () (And.intro (by omega) ?_)
  rintro w11 _ ⟨sh, rfl, hsh1, hsh2⟩
  replace hsh2 : sh ≤ 400 := by omega
  cbv
  refine Exists.intro () (And.intro (by omega) ?_)
  rintro w12 _ ⟨ww, rfl, hww1, hww2⟩
  replace hww2 : ww ≤ 1000000 := by omega
  cbv
  refine Exists.intro () (And.intro ⟨by simp, by simp, by exact AllI_lits (l := [0, ww, 1000000])⟩ ?_)
  rintro w13 _ ⟨wi, rfl, hwi⟩
  simp at hwi
  replace hwi : 0 ≤ wi ∧ wi ≤ 1000000 := by omega
  cbv
  refine Exists.intro () (And.intro (by omega) ?_)
  rintro w14 _ ⟨hh, rfl, hhh1, hhh2⟩
  replace hhh2 : hh ≤ 2000000 := by omega
  cbv
  try refine And.intro (by subst hA; simp [std, Keep, SubH, ResK]) ?_
  refine Exists.intro () (And.intro ⟨by simp, by simp, by exact AllI_lits (l := [lo, hh])⟩ ?_)
  rintro w15 _ ⟨hi, rfl, hhi⟩
  simp at hhi
  replace hhi : lo ≤ hi ∧ hi ≤ 2000000 := by omega
  cbv
  try refine And.intro (by subst hA; simp [std, Keep, SubH, ResK]) ?_
  refine h _ _ ?_
  refine Exists.intro (⟨(u, v), sl, cl, ne, ed, gr, lo, hi, sh, wi⟩ : Plate) (Exists.intro u (Exists.intro v (Exists.intro xs (Exists.intro ec (Exists.intro ne (Exists.intro ed (Exists.intro gr (Exists.intro lo (Exists.intro hi (Exists.intro sh (Exists.intro wi (And.intro rfl (And.intro ⟨hxs, hec, rfl, rfl, rfl, rfl, rfl, rfl, rfl, rfl⟩ ?_)))))))))))))
  clear h
  unfold checkS
  simp only
  have h1 : faultS u v 1 100000 = 0 := by unfold faultS; rw [if_neg (by omega), if_neg (by omega)]
  have h2 : tabS sl = 0 := hsl
  have h3 : tabS cl = 0 := hcl
  rw [if_neg (by simp [h1]), if_neg (by simp [h2]), if_neg (by simp [h3]), if_neg (by omega), if_neg (by omega), if_neg (by omega)]
theorem sPlate_ok : ∀ rest pre Q, sPlate rest = some (pre, Q) → pre () → Draws Tryz.prog 6 rest Q := by
  intro rest pre Q h hp
  unfold sPlate at h
  split at h
  · cases h; exact d6
  · cases h
theorem p4 (l : List Int) (hl : l.length ≤ 9223372036854775807) (H : AHeap) {Kk : AV → AHeap → Prop} (h : ∀ w, Kk (.mp H.length 0 0) (H ++ [.own 0 [U w]])) : ACalls Tryz.prog 4 [.vs 1 (l.map I)] H Kk := by
  have h1 : ACalls Tryz.prog 4 [.vs 1 (l.map I)] [] fun r H' => ∃ w, r = .mp 0 0 0 ∧ H' = [.own 0 [U w]] := by
    clear h Kk
    obtain ⟨Kk, hKk⟩ : ∃ K : AV → AHeap → Prop, K = fun r H' => ∃ w, r = .mp 0 0 0 ∧ H' = [.own 0 [U w]] := ⟨_, rfl⟩
    rw [← hKk]
    have hk : ∀ w, Kk (.mp 0 0 0) [.own 0 [U w]] := fun w => by rw [hKk]; exact ⟨w, rfl, rfl⟩
    clear hKk
    obtain ⟨xs, hxs⟩ : ∃ xs, xs = l.map I := ⟨_, rfl⟩
    rw [← hxs]
    obtain ⟨A, hA⟩ : ∃ A, A = std := ⟨_, rfl⟩
    refine go4 rfl (SGo_run hA ⟨[], [], [], [(18, eDraw sNext)]⟩ .nil (.cons (eDraw_ok sNext_ok) .nil) 200 fun T TD hT hTD => ?_)
    cbv
    rw [hT]
    refine AGo_upS l.length (fun _ (_ : Int) => True) (fun _ _ i => [(0, .vs 1 xs), (3, .mp 0 0 0), (4, I i)]) (fun _ w => [.own 0 [U w]]) 1 trivial ⟨rfl, rfl, rfl, trivial⟩ (.inl rfl) fun j w i hi hj _ Bk hB => ?_
    have hlt : A.lt i (A.vlen xs) = decide (j < l.length) := by subst hA; exact lt_len (by simp [hxs]) hi
    have hadd : ∀ N, j < N → N ≤ 9223372036854775807 → A.add .i64 i 1 = iLen (j + 1) := fun N hj hN => by subst hA; exact add_one hi hj hN
    refine SGo_run hA ⟨[], [], [], [(18, eDraw sNext)]⟩ .nil (.cons (eDraw_ok sNext_ok) .nil) 200 fun T TD hT hTD => ?_
    cbv
    split <;> cbv
    · rename_i hk1
      have hk1 : j < l.length := by have := hlt.symm.trans hk1; simpa using this
      obtain ⟨x, hx⟩ : ∃ x, l[j]? = some x := ⟨_, List.getElem?_eq_getElem hk1⟩
      have hix : A.ix 1 1 xs i [I x] := by subst hA; exact ix_map hxs hi hx rfl
      refine Exists.intro _ (And.intro hix ?_)
      cbv
      refine Exists.intro () (And.intro trivial ?_)
      rintro w2 _ ⟨q, rfl, _, _⟩
      cbv
      exact hB w2 _ _ hk1 trivial ⟨rfl, rfl, congrArg I (hadd _ hk1 (by omega)), trivial⟩ (.inl rfl)
    · exact hk w
  have h2 := ACalls.frame (H := H) [] h1 List.nodup_nil rfl (AV.ltL_nid (by rfl)) (by simp [ltH]) (fun k X hk => by simp at hk)
  rw [AV.renL_nid (by rfl)] at h2
  refine h2.mono fun r H' hx => ?_
  obtain ⟨r0, H1, ⟨w, rfl, rfl⟩, _, rfl, rfl⟩ := hx
  simpa [merge, updL, AObj.ren, AV.renL, AV.ren, more, at_] using h w
end Go.Sas
