/-
What the functions that draw numbers yield, part 3: beds, cracks, rows, loads.
Conditions: none.
-/
import Derived.Test.YtelmlpjkpebcgaaK3
import Derived.Test.YtelmlpjkpebcgaaB15
set_option linter.unusedVariables false
set_option linter.unusedSimpArgs false
namespace Go.Sas
open Go.Proofs
set_option maxRecDepth 100000
def sTable : List AV → Option ((Unit → Prop) × (AV → Prop))
  | [.lit (.int .i64 n)] => some (fun _ => 4 ≤ n ∧ n ≤ 2000, LsQ 2 sp fun l => tabS l = 0)
  | _ => none
def PlQ (r : AV) : Prop := ∃ (p : Plate) (a b : Int) (xs ec : List AV) (ne ed gr lo hi sh wi : Int), r = plV a b (.vs 2 xs) (.vs 2 ec) ne ed gr lo hi sh wi ∧ PlateIs p a b xs ec ne ed gr lo hi sh wi ∧ checkS p = 0
def sPlate : List AV → Option ((Unit → Prop) × (AV → Prop))
  | [] => some (fun _ => True, PlQ)
  | _ => none
theorem d22 (most : Int) (hm : 1 ≤ most ∧ most ≤ 1000) : Draws Try.prog 22 [I most] (LsQ 2 sp fun l => (1 ≤ iLen l.length ∧ iLen l.length ≤ most) ∧ ∀ x ∈ l, 0 ≤ x.1 ∧ x.1 ≤ x.2 ∧ x.2 ≤ 1500) := by
  refine .of rfl (by rintro r ⟨l, xs, rfl, _⟩; rfl) fun w Kk h => ACalls.frees ?_
  obtain ⟨A, hA⟩ : ∃ A, A = std := ⟨_, rfl⟩
  have hsg : ∀ g, A.sg g g := by subst hA; exact fun _ => rfl
  obtain ⟨F, hF⟩ : ∃ F, F = Frees 1 Kk := ⟨_, rfl⟩
  rw [show Frees [AObj.own 0 [U w]].length Kk = F from hF.symm]
  refine go22 rfl (SGo_run hA ⟨[], [], [], ed3⟩ .nil ed3_ok 200 fun T TD hT hTD => ?_)
  cbv
  refine Exists.intro () (And.intro (by omega) ?_)
  rintro w1 _ ⟨k, rfl, hk1, hk2⟩
  cbv
  rw [hT]
  refine AGo_nilms 5 2 rfl ?_
  refine AGo_grow (fun x : Int × Int => [I x.1, I x.2]) (fun d l (_ : Unit) => 0 ≤ d ∧ d + iLen l.length = k ∧ ∀ x ∈ l, 0 ≤ x.1 ∧ x.1 ≤ x.2 ∧ x.2 ≤ 1500) (fun d n _ => [(0, .mp 0 0 0), (1, I most), (5, .ms 2 1 n 0 n), (6, I d)]) w1 k () ⟨by omega, by simp [iLen], by simp⟩ ⟨rfl, rfl, rfl, rfl, trivial⟩ (.inl rfl) ?_
  rintro w d l _ n cs hn hcs ⟨hd, hdl, hall⟩ Bk hB
  have hcl : cs.length = n * 2 := by rw [hcs, hn]; exact len_flat (k := 2) (fun _ => rfl) l
  refine SGo_run hA ⟨[1], [], [], ed3⟩ .nil ed3_ok 200 fun T TD hT hTD => ?_
  have hgt : A.lt 0 d = decide (0 < d) := by subst hA; rfl
  have hsub : A.sub .i64 d 1 = d - 1 := by subst hA; unfold iLen at hdl; exact iSub_id (by omega) (by omega)
  cbv
  split <;> cbv
  · rename_i hq
    have hq := hgt.symm.trans hq
    simp only [decide_eq_true_eq] at hq
    refine Exists.intro () (And.intro ⟨by simp, by simp, by exact AllI_lits (l := [0, 300, 600])⟩ ?_)
    rintro w2 _ ⟨a, rfl, ha⟩
    simp at ha
    cbv
    refine Exists.intro () (And.intro ⟨by simp, by simp, by exact AllI_lits (l := [700, 1500])⟩ ?_)
    rintro w3 _ ⟨b, rfl, hb⟩
    simp at hb
    cbv
    refine Exists.intro () (And.intro (by omega) ?_)
    rintro w4 _ ⟨u, v, rfl, hu1, hu2, hu3⟩
    cbv
    refine And.intro (hsg _) (Exists.intro (cs ++ [I u, I v]) (Exists.intro (n + 1) (And.intro (by subst hA; unfold iLen at hdl; exact app_one hcl rfl (by omega)) (And.intro rfl ?_))))
    generalize hc2 : cs ++ [I u, I v] = cs2
    cbv
    subst hc2
    refine hB _ (d - 1) (u, v) () _ _ (by omega) ⟨by omega, by unfold iLen at hdl ⊢; simp; omega, ?_⟩ ⟨rfl, rfl, rfl, congrArg I hsub, trivial⟩ (.inl rfl)
    intro x hx
    rcases List.mem_append.1 hx with hx | hx
    · exact hall x hx
    · simp at hx; subst hx; simp only; omega
  · rename_i hq
    have hq := hgt.symm.trans hq
    simp only [decide_eq_false_iff_not] at hq
    rw [hF]
    refine Frees.row (xs := l.map sp) (by rw [hcs]; exact Elems_sp l) (frz_self (by simp [hn])) rfl (h _ _ ⟨l, _, rfl, rfl, by unfold iLen at hdl ⊢; omega, hall⟩)
theorem d62 (most : Int) (hm : 0 ≤ most ∧ most ≤ 1000) : Draws Try.prog 62 [I most] (LsQ 2 sp fun l => iLen l.length ≤ most ∧ ∀ x ∈ l, 0 ≤ x.1 ∧ x.1 ≤ x.2 ∧ x.2 ≤ 30000) := by
  refine .of rfl (by rintro r ⟨l, xs, rfl, _⟩; rfl) fun w Kk h => ACalls.frees ?_
  obtain ⟨A, hA⟩ : ∃ A, A = std := ⟨_, rfl⟩
  have hsg : ∀ g, A.sg g g := by subst hA; exact fun _ => rfl
  obtain ⟨F, hF⟩ : ∃ F, F = Frees 1 Kk := ⟨_, rfl⟩
  rw [show Frees [AObj.own 0 [U w]].length Kk = F from hF.symm]
  have hadd : A.add .i64 most 1 = most + 1 := by subst hA; exact iAdd_id (by omega) (by omega)
  refine go62 rfl (SGo_run hA ⟨[], [], [], ed3⟩ .nil ed3_ok 200 fun T TD hT hTD => ?_)
  cbv
  refine Exists.intro () (And.intro (by show A.add .i64 most 1 ≤ 9223372036854775807; rw [hadd]; omega) ?_)
  rintro w1 _ ⟨k, rfl, hk1, hk2⟩
  have hk2 : k < A.add .i64 most 1 ∨ k = 0 := hk2
  rw [hadd] at hk2
  cbv
  rw [hT]
  refine AGo_nilms 5 2 rfl ?_
  refine AGo_grow (fun x : Int × Int => [I x.1, I x.2]) (fun d l (_ : Unit) => 0 ≤ d ∧ d + iLen l.length = k ∧ ∀ x ∈ l, 0 ≤ x.1 ∧ x.1 ≤ x.2 ∧ x.2 ≤ 30000) (fun d n _ => [(0, .mp 0 0 0), (1, I most), (5, .ms 2 1 n 0 n), (6, I d)]) w1 k () ⟨by omega, by simp [iLen], by simp⟩ ⟨rfl, rfl, rfl, rfl, trivial⟩ (.inl rfl) ?_
  rintro w d l _ n cs hn hcs ⟨hd, hdl, hall⟩ Bk hB
  have hcl : cs.length = n * 2 := by rw [hcs, hn]; exact len_flat (k := 2) (fun _ => rfl) l
  have hgt : A.lt 0 d = decide (0 < d) := by subst hA; rfl
  have hsub : A.sub .i64 d 1 = d - 1 := by subst hA; unfold iLen at hdl; exact iSub_id (by omega) (by omega)
  refine SGo_run hA ⟨[1], [], [], ed3⟩ .nil ed3_ok 200 fun T TD hT hTD => ?_
  cbv
  split <;> cbv
  · rename_i hq
    have hq := hgt.symm.trans hq
    simp only [decide_eq_true_eq] at hq
    refine Exists.intro () (And.intro ⟨by simp, by simp, by exact AllI_lits (l := [9000, 30000])⟩ ?_)
    rintro w2 _ ⟨a, rfl, ha⟩
    simp at ha
    cbv
    refine Exists.intro () (And.intro (by omega) ?_)
    rintro w4 _ ⟨u, v, rfl, hu1, hu2, hu3⟩
    cbv
    refine And.intro (hsg _) (Exists.intro (cs ++ [I u, I v]) (Exists.intro (n + 1) (And.intro (by subst hA; unfold iLen at hdl; exact app_one hcl rfl (by omega)) (And.intro rfl ?_))))
    generalize hc2 : cs ++ [I u, I v] = cs2
    cbv
    subst hc2
    refine hB _ (d - 1) (u, v) () _ _ (by omega) ⟨by omega, by unfold iLen at hdl ⊢; simp; omega, ?_⟩ ⟨rfl, rfl, rfl, congrArg I hsub, trivial⟩ (.inl rfl)
    intro x hx
    rcases List.mem_append.1 hx with hx | hx
    · exact hall x hx
    · simp at hx; subst hx; simp only; omega
  · rename_i hq
    have hq := hgt.symm.trans hq
    simp only [decide_eq_false_iff_not] at hq
    rw [hF]
    refine Frees.row (xs := l.map sp) (by rw [hcs]; exact Elems_sp l) (frz_self (by simp [hn])) rfl (h _ _ ⟨l, _, rfl, rfl, by unfold iLen at hdl ⊢; omega, hall⟩)
theorem d23 (places most : Int) (hp : 1 ≤ places ∧ places ≤ 1000) (hm : 0 ≤ most ∧ most ≤ 1000) : Draws Try.prog 23 [I places, I most] (LsQ 2 sp fun l => iLen l.length ≤ most ∧ ∀ x ∈ l, 0 ≤ x.1 ∧ x.1 ≤ 100 * places - 1 ∧ x.1 ≤ x.2 ∧ x.2 ≤ x.1 + 30) := by
  refine .of rfl (by rintro r ⟨l, xs, rfl, _⟩; rfl) fun w Kk h => ACalls.frees ?_
  obtain ⟨A, hA⟩ : ∃ A, A = std := ⟨_, rfl⟩
  have hsg : ∀ g, A.sg g g := by subst hA; exact fun _ => rfl
  obtain ⟨F, hF⟩ : ∃ F, F = Frees 1 Kk := ⟨_, rfl⟩
  rw [show Frees [AObj.own 0 [U w]].length Kk = F from hF.symm]
  have hadd : A.add .i64 most 1 = most + 1 := by subst hA; exact iAdd_id (by omega) (by omega)
  have hmul : A.mul .i64 100 places = 100 * places := by subst hA; exact iMul_id (by omega) (by omega)
  refine go23 rfl (SGo_run hA ⟨[], [], [], ed3⟩ .nil ed3_ok 200 fun T TD hT hTD => ?_)
  cbv
  refine Exists.intro () (And.intro (by show A.add .i64 most 1 ≤ 9223372036854775807; rw [hadd]; omega) ?_)
  rintro w1 _ ⟨k, rfl, hk1, hk2⟩
  have hk2 : k < A.add .i64 most 1 ∨ k = 0 := hk2
  rw [hadd] at hk2
  cbv
  rw [hT]
  refine AGo_nilms 7 2 rfl ?_
  refine AGo_grow (fun x : Int × Int => [I x.1, I x.2]) (fun d l (_ : Unit) => 0 ≤ d ∧ d + iLen l.length = k ∧ ∀ x ∈ l, 0 ≤ x.1 ∧ x.1 ≤ 100 * places - 1 ∧ x.1 ≤ x.2 ∧ x.2 ≤ x.1 + 30) (fun d n _ => [(0, .mp 0 0 0), (1, I places), (2, I most), (7, .ms 2 1 n 0 n), (8, I d)]) w1 k () ⟨by omega, by simp [iLen], by simp⟩ ⟨rfl, rfl, rfl, rfl, rfl, trivial⟩ (.inl rfl) ?_
  rintro w d l _ n cs hn hcs ⟨hd, hdl, hall⟩ Bk hB
  have hcl : cs.length = n * 2 := by rw [hcs, hn]; exact len_flat (k := 2) (fun _ => rfl) l
  have hgt : A.lt 0 d = decide (0 < d) := by subst hA; rfl
  have hsub : A.sub .i64 d 1 = d - 1 := by subst hA; unfold iLen at hdl; exact iSub_id (by omega) (by omega)
  refine SGo_run hA ⟨[1], [], [], ed3⟩ .nil ed3_ok 200 fun T TD hT hTD => ?_
  cbv
  split <;> cbv
  · rename_i hq
    have hq := hgt.symm.trans hq
    simp only [decide_eq_true_eq] at hq
    refine Exists.intro () (And.intro (by show A.mul .i64 100 places ≤ 9223372036854775807; rw [hmul]; omega) ?_)
    rintro w2 _ ⟨a, rfl, ha1, ha2⟩
    have ha2 : a < A.mul .i64 100 places ∨ a = 0 := ha2
    rw [hmul] at ha2
    cbv
    refine Exists.intro () (And.intro ⟨by simp, by simp, by exact AllI_lits (l := [0, 3, 30])⟩ ?_)
    rintro w3 _ ⟨b, rfl, hb⟩
    simp at hb
    cbv
    have hab : A.add .i64 a b = a + b := by subst hA; exact iAdd_id (by omega) (by omega)
    refine And.intro (hsg _) (Exists.intro (cs ++ [I a, I (A.add .i64 a b)]) (Exists.intro (n + 1) (And.intro (by subst hA; unfold iLen at hdl; exact app_one hcl rfl (by omega)) (And.intro rfl ?_))))
    generalize hc2 : cs ++ [I a, I (A.add .i64 a b)] = cs2
    cbv
    subst hc2
    refine hB _ (d - 1) (a, A.add .i64 a b) () _ _ (by omega) ⟨by omega, by unfold iLen at hdl ⊢; simp; omega, ?_⟩ ⟨rfl, rfl, rfl, rfl, congrArg I hsub, trivial⟩ (.inl rfl)
    intro x hx
    rcases List.mem_append.1 hx with hx | hx
    · exact hall x hx
    · simp at hx; subst hx; simp only; omega
  · rename_i hq
    have hq := hgt.symm.trans hq
    simp only [decide_eq_false_iff_not] at hq
    rw [hF]
    refine Frees.row (xs := l.map sp) (by rw [hcs]; exact Elems_sp l) (frz_self (by simp [hn])) rfl (h _ _ ⟨l, _, rfl, rfl, by unfold iLen at hdl ⊢; omega, hall⟩)
end Go.Sas
