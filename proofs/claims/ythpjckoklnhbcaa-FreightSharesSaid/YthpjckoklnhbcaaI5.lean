/-
Freight: the reference's Share: contract.
The code of some functions with its types resolved, printed by a program; that it is the code is checked by the kernel.
Freight: the law FreightShares: its core.
Conditions: none.
-/
import Derived.Test.YthpjckoklnhbcaaHT
import Derived.Test.YthpjckoklnhbcaaH4
import Derived.Test.YthpjckoklnhbcaaProg
import Derived.Test.YthpjckoklnhbcaaHO
import Derived.Test.YthpjckoklnhbcaaHK
set_option linter.unusedVariables false
set_option linter.unusedSimpArgs false
namespace Go.Sas
open Go.Proofs
set_option maxRecDepth 100000
theorem any_take2 {α : Type} {p : α → Bool} {l : List α} {j : Nat} {x : α} (hx : l[j]? = some x) : (l.take (j + 1)).any p = ((l.take j).any p || p x) := by
  obtain ⟨h, rfl⟩ := List.getElem?_eq_some_iff.1 hx
  rw [List.take_succ_eq_append_getElem h, List.any_append]; simp
set_option maxHeartbeats 4000000 in
theorem p49 (am : Int) (ws : List Int) (hl : ws.length ≤ 9223372036854775807) (H : AHeap) {Kk : AV → AHeap → Prop} (h : Kk (.tup [.vs 1 ((shareR am ws).map I), I (shareE am ws)]) H) : ACalls Try.prog 49 [I am, .vs 1 (ws.map I)] H Kk := by
  refine (fun q => pureF (by rfl) (by rfl) q H h) ?_
  clear h
  intro Kk h
  obtain ⟨xs, hxs⟩ : ∃ xs, xs = ws.map I := ⟨_, rfl⟩
  rw [← hxs]
  obtain ⟨A, hA⟩ : ∃ A, A = std := ⟨_, rfl⟩
  have hne : ∀ x y, A.ne x y = decide (x ≠ y) := by subst hA; intro x y; simp only [std, iNe]; rw [Bool.eq_iff_iff]; simp
  have hee : ∀ x y, A.eq x y = decide (x = y) := by subst hA; intro x y; exact iEq_dec _ _
  have hll : ∀ x y, A.lt x y = decide (x < y) := by subst hA; intro x y; rfl
  have hle : ∀ x y, A.le x y = decide (x ≤ y) := by subst hA; intro x y; rfl
  have hnb : ∀ b, A.bnot b = !b := by subst hA; intro b; rfl
  have hbd : ∀ x y, A.band x y = (x && y) := by subst hA; intro x y; rfl
  have hsg : ∀ g, A.sg g g := by subst hA; exact fun _ => rfl
  obtain ⟨F, hF⟩ : ∃ F, F = Frees 0 Kk := ⟨_, rfl⟩
  rw [← hF]
  have hvl : A.vlen xs = iLen ws.length := by subst hA; simp [std, hxs]
  have hw : ∀ c, shareE am ws = c → c ≠ 0 → F (aTup [.lit (.slice none 0 0), I c]) [] := fun c h1 h2 => by
    rw [hF]
    refine Frees.wk (r' := .tup [.vs 1 [], I c]) (Wk.tup ⟨Wk.nil, Wk.rfl, trivial⟩) (Frees.drop0 ?_ rfl)
    have h3 : shareR am ws = [] := by unfold shareR; rw [if_neg (by rw [h1]; exact h2)]
    rw [h3, h1] at h; exact h
  refine go49 rfl (SGo_run hA ⟨[], [], (67, eIn) :: [], []⟩ (.cons (eIn_ok p67) .nil) .nil 200 fun T TD hT hTD => ?_)
  cbv
  intro q1 hq1; cbv
  have z1 : A.bnot q1 = decide (¬ (0 ≤ am ∧ am ≤ 1000000000000)) := by rw [hnb, hq1]; exact (decide_not ..).symm
  split <;> cbv
  · rename_i hz
    have hz := of_decide_eq_true (z1.symm.trans hz)
    exact hw 2 (by unfold shareE; rw [if_pos hz]) (by decide)
  rename_i hz
  have hz := of_decide_eq_false (z1.symm.trans hz)
  have z2 : A.eq (A.vlen xs) 0 = decide (ws.length = 0) := by rw [hvl, hee, decide_eq_decide]; unfold iLen; omega
  split <;> cbv
  · rename_i hz2
    have hz2 := of_decide_eq_true (z2.symm.trans hz2)
    exact hw 6 (by unfold shareE; rw [if_neg hz, if_pos hz2]) (by decide)
  rename_i hz2
  have hz2 := of_decide_eq_false (z2.symm.trans hz2)
  have z3 : A.lt 40 (A.vlen xs) = decide (40 < ws.length) := by rw [hvl, hll, decide_eq_decide]; unfold iLen; omega
  split <;> cbv
  · rename_i hz3
    have hz3 := of_decide_eq_true (z3.symm.trans hz3)
    exact hw 8 (by unfold shareE; rw [if_neg hz, if_neg hz2, if_pos hz3]) (by decide)
  rename_i hz3
  have hz3 := of_decide_eq_false (z3.symm.trans hz3)
  have hE : shareE am ws = if ws.any wtB = true then 2 else 0 := by unfold shareE; rw [if_neg hz, if_neg hz2, if_neg hz3]
  rw [hT]
  clear hz hz2 hz3 z1 z2 z3 hq1
  refine AGo_upE [0, 1] ws.length (fun j (_ : Unit) => (ws.take j).any wtB = false) (fun j _ i => [(6, I i)]) (fun _ _ => []) () (by simp) ⟨rfl, trivial⟩ (.inl rfl) fun j _ i hi hj hP Bk hB => ?_
  clear hT hTD T TD
  have hlt : A.lt i (A.vlen xs) = decide (j < ws.length) := by rw [hvl, hll, hi, decide_eq_decide]; unfold iLen; omega
  have hadd : ∀ N, j < N → N ≤ 9223372036854775807 → A.add .i64 i 1 = iLen (j + 1) := fun N hj hN => by subst hA; exact add_one hi hj hN
  refine SGo_run hA ⟨[], [], (67, eIn) :: (99, eShareR) :: [], []⟩ (.cons (eIn_ok p67) (.cons eShareR_ok .nil)) .nil 200 fun T TD hT hTD => ?_
  cbv
  split <;> cbv
  · rename_i hk0
    have hk1 : j < ws.length := by have hz := hlt.symm.trans hk0; simpa using hz
    clear hk0
    obtain ⟨x, hx⟩ : ∃ x, ws[j]? = some x := ⟨_, List.getElem?_eq_getElem hk1⟩
    have hix : A.ix 1 1 xs i [I x] := by subst hA; exact ix_map hxs hi hx rfl
    refine Exists.intro _ (And.intro hix ?_); cbv
    intro q2 hq2
    have z4 : A.bnot q2 = wtB x := by rw [hnb, hq2]; rfl
    cbv
    split <;> cbv
    · rename_i hz
      have hz := z4.symm.trans hz
      refine hw 2 (by rw [hE, if_pos (List.any_eq_true.2 ⟨x, List.mem_of_getElem? hx, hz⟩)]) (by decide)
    · rename_i hz
      have hz := z4.symm.trans hz
      refine hB () _ _ hk1 ?_ ⟨congrArg I (hadd _ hk1 (by omega)), trivial⟩ ⟨rfl, rfl, trivial⟩ (.inl rfl)
      rw [any_take2 hx, hP, hz]; rfl
  · rename_i hk0
    have hk1 : ¬ j < ws.length := by have hz := hlt.symm.trans hk0; simpa using hz
    clear hk0
    rw [List.take_of_length_le (by omega)] at hP
    have hE0 : shareE am ws = 0 := by rw [hE, hP]; rfl
    obtain ⟨h1, h2⟩ := shareE_ok.1 hE0
    refine Exists.intro ws (And.intro ⟨hxs, h2, h1⟩ ?_)
    intro ys hys; cbv
    rw [hF]
    have h3 : shareR am ws = shareV am ws := by unfold shareR; rw [if_pos hE0]
    rw [h3, hE0, ← hys] at h
    exact Frees.drop0 h rfl
end Go.Sas
namespace Go.Sas
open Go.Proofs
set_option maxRecDepth 100000
/-- sastrugi/sastrugilaw08.FreightShares -/
def c10 : ACode :=
  (.seq
(.reg [
  ⟨(some (true, 6)), .mv (.c (.lit (.bool false))), none⟩])
(.seq
(.seq
(.reg [
  ⟨(some (false, 18)), .mv (.g 1), none⟩,
  ⟨(some (false, 19)), .len (.l 18), none⟩,
  ⟨(some (true, 20)), .bin .gtr (.l 19) (.c (.lit (.int .i64 50))), none⟩])
(.cond (.g 20)
(.seq
(.reg [
  ⟨(some (false, 21)), .call (.c (.fn 17 [])) [], none⟩,
  ⟨(some (true, 6)), .mv (.l 21), none⟩])
.ret)
.skip))
(.seq
(.reg [
  ⟨(some (false, 22)), .mv (.g 2), none⟩,
  ⟨(some (false, 23)), .call (.c (.fn 22 [])) [.l 22], none⟩,
  ⟨(some (true, 7)), .mv (.l 23), none⟩])
(.seq
(.reg [
  ⟨(some (true, 8)), .mv (.c (.lit (.slice none 0 0))), none⟩])
(.seq
(.seq
(.reg [
  ⟨(some (false, 24)), .mv (.g 7), none⟩,
  ⟨(some (false, 25)), .call (.c (.fn 45 [])) [.l 24, .c (.lit (.int .i64 1)), .c (.lit (.int .i64 8))], none⟩,
  ⟨(some (true, 9)), .mv (.l 25), none⟩])
(.block 0
(.loop
(.seq
(.seq
(.reg [
  ⟨(some (false, 26)), .mv (.g 9), none⟩,
  ⟨(some (true, 27)), .bin .gtr (.l 26) (.c (.lit (.int .i64 0))), none⟩])
(.cond (.g 27)
.skip
(.exit 0)))
(.seq
(.block 1
(.reg [
  ⟨(some (false, 30)), .mv (.g 8), none⟩,
  ⟨(some (false, 31)), .mv (.g 7), none⟩,
  ⟨(some (false, 32)), .mv (.g 7), none⟩,
  ⟨(some (false, 33)), .call (.c (.fn 47 [])) [.l 32, .c (.lit (.int .i64 6))], none⟩,
  ⟨(some (false, 34)), .mv (.g 7), none⟩,
  ⟨(some (false, 35)), .call (.c (.fn 47 [])) [.l 34, .c (.lit (.int .i64 1000))], none⟩,
  ⟨(some (false, 36)), .mks false 1 [.c (.lit (.int .i64 0)), .l 33, .l 35], none⟩,
  ⟨(some (false, 37)), .call (.c (.fn 46 [])) [.l 31, .l 36], none⟩,
  ⟨(some (false, 38)), .mks false 1 [.l 37], none⟩,
  ⟨(some (false, 39)), .app 1 8 (.l 30) (.l 38), none⟩,
  ⟨(some (true, 8)), .mv (.l 39), none⟩]))
(.reg [
  ⟨(some (false, 28)), .mv (.g 9), none⟩,
  ⟨(some (false, 29)), .bin .sub (.l 28) (.c (.lit (.int .i64 1))), none⟩,
  ⟨(some (true, 9)), .mv (.l 29), none⟩]))))))
(.seq
(.reg [
  ⟨(some (false, 40)), .mv (.g 0), none⟩,
  ⟨(some (false, 41)), .mv (.g 7), none⟩,
  ⟨(some (false, 42)), .call (.c (.fn 47 [])) [.l 41, .c (.lit (.int .i64 1000))], none⟩,
  ⟨(some (false, 43)), .mv (.g 0), none⟩,
  ⟨(some (false, 44)), .mks false 1 [.l 40, .l 42, .l 43], none⟩,
  ⟨(some (false, 45)), .mv (.g 1), none⟩,
  ⟨(some (false, 46)), .mv (.g 8), none⟩,
  ⟨(some (false, 47)), .mv (.g 8), none⟩,
  ⟨(some (false, 48)), .mks false 1 [.l 45, .l 46, .l 47], none⟩,
  ⟨(some (true, 10)), .mv (.l 44), none⟩,
  ⟨(some (true, 11)), .mv (.l 48), none⟩])
(.seq
(.seq
(.reg [
  ⟨(some (true, 12)), .mv (.c (.lit (.int .i64 0))), none⟩])
(.block 2
(.loop
(.seq
(.seq
(.reg [
  ⟨(some (false, 49)), .mv (.g 12), none⟩,
  ⟨(some (false, 50)), .mv (.g 10), none⟩,
  ⟨(some (false, 51)), .len (.l 50), none⟩,
  ⟨(some (true, 52)), .bin .lss (.l 49) (.l 51), none⟩])
(.cond (.g 52)
.skip
(.exit 2)))
(.seq
(.block 3
(.seq
(.reg [
  ⟨(some (false, 55)), .mv (.g 11), none⟩,
  ⟨(some (false, 56)), .mv (.g 12), none⟩,
  ⟨(some (false, 57)), .ia 1 (.l 55) (.l 56), none⟩,
  ⟨(some (false, 58)), .ld none (.l 57), none⟩,
  ⟨(some (false, 59)), .call (.c (.fn 37 [])) [.l 58], none⟩,
  ⟨(some (true, 13)), .mv (.l 59), none⟩])
(.seq
(.reg [
  ⟨(some (false, 61)), .mv (.g 10), none⟩,
  ⟨(some (false, 62)), .mv (.g 12), none⟩,
  ⟨(some (false, 63)), .ia 1 (.l 61) (.l 62), none⟩,
  ⟨(some (false, 64)), .ld none (.l 63), none⟩,
  ⟨(some (false, 65)), .mv (.g 13), none⟩,
  ⟨(some (false, 66)), .call (.c (.fn 48 [])) [.l 64, .l 65], none⟩,
  ⟨(some (false, 60)), .mv (.l 66), none⟩,
  ⟨(some (false, 67)), .ex (.l 60) 0, none⟩,
  ⟨(some (false, 68)), .ex (.l 60) 1, none⟩,
  ⟨(some (true, 14)), .mv (.l 67), none⟩,
  ⟨(some (true, 15)), .mv (.l 68), none⟩])
(.seq
(.draw [
  ⟨⟨(some (false, 70)), .mv (.g 10), none⟩, 0, true, []⟩,
  ⟨⟨(some (false, 71)), .mv (.g 12), none⟩, 1, true, []⟩,
  ⟨⟨(some (false, 72)), .ia 1 (.l 70) (.l 71), none⟩, 2, true, []⟩,
  ⟨⟨(some (false, 73)), .ld none (.l 72), none⟩, 3, true, []⟩,
  ⟨⟨(some (false, 74)), .mv (.g 11), none⟩, 4, true, []⟩,
  ⟨⟨(some (false, 75)), .mv (.g 12), none⟩, 5, true, []⟩,
  ⟨⟨(some (false, 76)), .ia 1 (.l 74) (.l 75), none⟩, 6, true, []⟩,
  ⟨⟨(some (false, 77)), .ld none (.l 76), none⟩, 7, true, []⟩,
  ⟨⟨(some (false, 78)), .call (.c (.fn 49 [])) [.l 73, .l 77], none⟩, 8, false, []⟩,
  ⟨⟨(some (false, 69)), .mv (.l 78), none⟩, 9, true, []⟩,
  ⟨⟨(some (false, 79)), .ex (.l 69) 0, none⟩, 10, true, []⟩,
  ⟨⟨(some (false, 80)), .ex (.l 69) 1, none⟩, 11, true, []⟩,
  ⟨⟨(some (true, 16)), .mv (.l 79), none⟩, 12, true, []⟩,
  ⟨⟨(some (true, 17)), .mv (.l 80), none⟩, 13, true, []⟩])
(.seq
(.reg [
  ⟨(some (false, 81)), .mv (.g 15), none⟩,
  ⟨(some (false, 82)), .mv (.g 17), none⟩,
  ⟨(some (false, 83)), .bin .neq (.l 81) (.l 82), none⟩,
  ⟨(some (false, 84)), .mv (.l 83), none⟩,
  ⟨(some (false, 85)), .mv (.g 14), (some (.l 84, false))⟩,
  ⟨(some (false, 86)), .mv (.g 16), (some (.l 84, false))⟩,
  ⟨(some (false, 87)), .call (.c (.fn 28 [])) [.l 85, .l 86], (some (.l 84, false))⟩,
  ⟨(some (false, 88)), .un .not (.l 87), (some (.l 84, false))⟩,
  ⟨(some (false, 89)), .pick (.l 84) (.c (.lit (.bool true))) (.l 88), none⟩,
  ⟨(some (false, 90)), .mv (.l 89), none⟩,
  ⟨(some (false, 91)), .mv (.g 13), (some (.l 90, false))⟩,
  ⟨(some (false, 92)), .mv (.g 11), (some (.l 90, false))⟩,
  ⟨(some (false, 93)), .mv (.g 12), (some (.l 90, false))⟩,
  ⟨(some (false, 94)), .ia 1 (.l 92) (.l 93), (some (.l 90, false))⟩,
  ⟨(some (false, 95)), .ld none (.l 94), (some (.l 90, false))⟩,
  ⟨(some (false, 96)), .call (.c (.fn 28 [])) [.l 91, .l 95], (some (.l 90, false))⟩,
  ⟨(some (false, 97)), .un .not (.l 96), (some (.l 90, false))⟩,
  ⟨(some (true, 98)), .pick (.l 90) (.c (.lit (.bool true))) (.l 97), none⟩])
(.cond (.g 98)
(.seq
(.reg [
  ⟨(some (true, 6)), .mv (.c (.lit (.bool false))), none⟩])
.ret)
.skip))))))
(.reg [
  ⟨(some (false, 53)), .mv (.g 12), none⟩,
  ⟨(some (false, 54)), .bin .add (.l 53) (.c (.lit (.int .i64 1))), none⟩,
  ⟨(some (true, 12)), .mv (.l 54), none⟩]))))))
(.seq
(.reg [
  ⟨(some (false, 99)), .call (.c (.fn 17 [])) [], none⟩,
  ⟨(some (true, 6)), .mv (.l 99), none⟩])
.ret))))))))
def K10 : List Nat := [0, 1, 2, 20, 27, 52, 98, 6, 7, 8, 9, 10, 11, 12, 13, 14, 15, 16, 17]
noncomputable def b10 : Code := match Try.f10.body with | some c => c | none => .skip
theorem t10 : trCode ⟨Try.prog, K10, [], 100, none⟩ b10 = some c10 := by kernel_rfl
theorem go10 {args : List AV} {H : AHeap} {Kk : AV → AHeap → Prop} (hn : args.length = 3) (h : AGo ⟨Try.prog, K10, [], 100, none⟩ H.length [.code c10] (RetP [.t (.g 6)] H.length Kk) ⟨[], argsG 0 args⟩ H) : ACalls Try.prog 10 args H Kk :=
  ACalls_of Try.func10 (c := b10) rfl (by kernel_rfl) t10 (rs := [.t (.g 6)]) (by kernel_rfl) (by rw [hn]; exact Nat.le_of_ble_eq_true rfl) (by rw [hn]; rfl) (h.weaken (fun _ _ => RetP.hands) (by simp))

end Go.Sas
namespace Go.Sas
open Go.Proofs
set_option maxRecDepth 100000
theorem shareR_len {am : Int} {ws : List Int} : (shareR am ws).length ≤ ws.length := by
  unfold shareR
  split
  · rw [shareV_len]; exact Nat.le_refl _
  · simp
def edB : ETab := (22, eSeedF) :: ed2
theorem edB_ok : ETabOk Try.prog edB := .cons eSeedF_ok ed2_ok
set_option maxHeartbeats 8000000 in
theorem core10 (am : Int) (wts nums : List Int) {P : Prop} (_ : P) (hw0 : wts.length ≤ 9223372036854775807) (hn1 : nums.length ≤ 9223372036854775807) : ACalls Try.prog 10 [I am, .vs 1 (wts.map I), .vs 1 (nums.map I)] [] fun r _ => r = .lit (.bool true) := by
  obtain ⟨Kk, hKk⟩ : ∃ K : AV → AHeap → Prop, K = fun r _ => r = .lit (.bool true) := ⟨_, rfl⟩
  rw [← hKk]
  have h : ∀ H, Kk (B true) H := fun H => by rw [hKk]
  clear hKk
  obtain ⟨xw, hxw⟩ : ∃ ys, ys = wts.map I := ⟨_, rfl⟩
  obtain ⟨xn, hxn⟩ : ∃ ys, ys = nums.map I := ⟨_, rfl⟩
  rw [← hxw, ← hxn]
  obtain ⟨A, hA⟩ : ∃ A, A = std := ⟨_, rfl⟩
  have hne : ∀ x y, A.ne x y = decide (x ≠ y) := by subst hA; intro x y; simp only [std, iNe]; rw [Bool.eq_iff_iff]; simp
  have hee : ∀ x y, A.eq x y = decide (x = y) := by subst hA; intro x y; exact iEq_dec _ _
  have hll : ∀ x y, A.lt x y = decide (x < y) := by subst hA; intro x y; rfl
  have hle : ∀ x y, A.le x y = decide (x ≤ y) := by subst hA; intro x y; rfl
  have hnb : ∀ b, A.bnot b = !b := by subst hA; intro b; rfl
  have hbd : ∀ x y, A.band x y = (x && y) := by subst hA; intro x y; rfl
  have hsg : ∀ g, A.sg g g := by subst hA; exact fun _ => rfl
  have hvw : A.vlen xw = iLen wts.length := by subst hA; simp [std, hxw]
  have z0 : A.lt 50 (A.vlen xw) = decide (50 < wts.length) := by rw [hvw, hll, decide_eq_decide]; unfold iLen; omega
  refine go10 rfl (SGo_run hA ⟨[], [0], (17, eAwake) :: [], edB⟩ (.cons eAwake_ok .nil) edB_ok 200 fun T TD hT hTD => ?_)
  cbv
  split <;> cbv
  · exact h _
  rename_i hz
  have hwl : ¬ 50 < wts.length := of_decide_eq_false (z0.symm.trans hz)
  refine Exists.intro nums (And.intro ⟨hxn, hn1⟩ ?_)
  intro w1
  cbv
  refine Exists.intro () (And.intro (by omega) ?_)
  rintro w2 _ ⟨q3, rfl, hq3⟩
  cbv
  rw [hT]
  refine AGo_nilms 8 1 rfl ?_
  refine AGo_whileE (σ := Int × Int × List Int) [0, 1, 7] (fun s => s.2.1.toNat) (fun s => 0 ≤ s.2.1 ∧ s.2.1 + iLen s.2.2.length ≤ 8) (fun s => [(8, .ms 1 1 s.2.2.length 0 s.2.2.length), (9, I s.2.1)])
    (fun s => [.own 0 [U s.1], .own s.2.2.length (s.2.2.map I)]) (w2, q3, []) ⟨by dsimp only; omega, by show q3 + iLen 0 ≤ 8; unfold iLen; omega⟩ ⟨rfl, rfl, trivial⟩ (.inl rfl) fun s hP Bk hB => ?_
  obtain ⟨w6, dd, wl⟩ := s
  obtain ⟨hP1, hP2⟩ := hP
  dsimp only at hP1 hP2 ⊢
  obtain ⟨n, hn⟩ : ∃ n, n = wl.length := ⟨_, rfl⟩
  obtain ⟨cc, hcc⟩ : ∃ c, c = wl.map I := ⟨_, rfl⟩
  rw [← hn, ← hcc]
  rw [← hn] at hP2
  have hn9 : n ≤ 8 := by unfold iLen at hP2; omega
  have hgt : A.lt 0 dd = decide (0 < dd) := hll _ _
  clear hT hTD T TD
  refine SGo_run hA ⟨[1], [1000040], [], ed2⟩ .nil ed2_ok 200 fun T TD hT hTD => ?_
  cbv
  split <;> cbv
  · rename_i hz
    have hz : 0 < dd := of_decide_eq_true (hgt.symm.trans hz)
    refine Exists.intro () (And.intro (by omega) ?_)
    rintro w7 _ ⟨q4, rfl, hq4, hq4'⟩
    cbv
    refine Exists.intro () (And.intro (by omega) ?_)
    rintro w8 _ ⟨q5, rfl, hq5, hq5'⟩
    cbv
    refine Exists.intro () (And.intro ⟨by simp, by simp, by exact AllI_lits (l := [0, q4, q5])⟩ ?_)
    rintro w9 _ ⟨x, rfl, hxx⟩
    cbv
    obtain ⟨c2, hc2⟩ : ∃ r, r = (wl ++ [x]).map I := ⟨_, rfl⟩
    have happ : A.app 1 1 8 cc 0 n [I x] c2 (n + 1) := by
      rw [hc2, List.map_append, ← hcc]; subst hA; exact app_one (by rw [hcc, List.length_map, hn]; omega) rfl (by omega)
    refine And.intro (hsg _) (Exists.intro c2 (Exists.intro (n + 1) (And.intro happ (And.intro rfl ?_)))); cbv
    have hsd : A.sub .i64 dd 1 = dd - 1 := by subst hA; exact iSub_id (by omega) (by unfold iLen at hP2; omega)
    have hlen2 : (wl ++ [x]).length = n + 1 := by rw [List.length_append, ← hn]; rfl
    exact hB (w9, dd - 1, wl ++ [x]) _ _ (by dsimp only; omega) ⟨by dsimp only; omega, by dsimp only; rw [hlen2]; unfold iLen at hP2 ⊢; omega⟩ (by rw [hlen2]; exact ⟨rfl, congrArg I hsd, trivial⟩) ⟨rfl, rfl, rfl, trivial⟩ (.inl (by dsimp only; rw [hlen2, hc2]))
  rename_i hz
  clear hB
  rw [hT]
  obtain ⟨xs, hxs⟩ : ∃ x, x = wl.map I := ⟨_, rfl⟩
  refine AGo_frzS 8 (id := 1) (g := n) (sz := 1) (n := n) (xs := xs) (cs := cc) rfl rfl (by rw [hxs, List.length_map, hn]) (by rw [hcc, hxs]; exact Elems_I _) ?_
  clear hT hTD T TD
  refine SGo_run hA ⟨[], [], [], ed2⟩ .nil ed2_ok 200 fun T TD hT hTD => ?_
  cbv
  refine Exists.intro () (And.intro (by omega) ?_)
  rintro w10 _ ⟨q6, rfl, hq6, hq6'⟩
  cbv
  rw [hT]
  obtain ⟨L, hL⟩ : ∃ L : List Int, L = [am, q6, am] := ⟨_, rfl⟩
  obtain ⟨M, hM⟩ : ∃ M : List (List Int), M = [wts, wl, wl] := ⟨_, rfl⟩
  have hMb : ∀ l ∈ M, l.length ≤ 1000000 := by
    intro l hl; rw [hM] at hl; simp only [List.mem_cons, List.not_mem_nil, or_false] at hl
    rcases hl with hl | hl | hl
    · rw [hl]; omega
    · rw [hl]; omega
    · rw [hl]; omega
  obtain ⟨avs, havs⟩ : ∃ l : List AV, l = [I am, I q6, I am] := ⟨_, rfl⟩
  obtain ⟨wvs, hwvs⟩ : ∃ l : List AV, l = [.vs 1 xw, .vs 1 xs, .vs 1 xs] := ⟨_, rfl⟩
  rw [← havs, ← hwvs]
  have ham : avs = L.map I := by rw [havs, hL]; rfl
  have hwm : wvs = M.map fun l => .vs 1 (l.map I) := by rw [hwvs, hM, hxw, hxs]; rfl
  have hLl : L.length = 3 := by rw [hL]; rfl
  have hMl : M.length = 3 := by rw [hM]; rfl
  refine AGo_upE [10, 11] 3 (fun _ (_ : Unit) => True) (fun _ _ i => [(12, I i)]) (fun _ _ => []) () trivial ⟨rfl, trivial⟩ (.inr ⟨⟨_, rfl⟩, Nat.zero_le _, by simp [ltG, AV.lt, AV.ltL, keepS, look], trivial⟩) fun j _ i hi hj _ Bk hB => ?_
  clear hT hTD T TD havs hwvs hL hM
  have hlt : A.lt i (A.vlen avs) = decide (j < 3) := by subst hA; exact lt_len (by simp [ham, hLl]) hi
  have hadd : ∀ N, j < N → N ≤ 9223372036854775807 → A.add .i64 i 1 = iLen (j + 1) := fun N hj hN => by subst hA; exact add_one hi hj hN
  refine SGo_run hA ⟨[], [], (17, eAwake) :: (28, eSameI2) :: (37, eOwnI) :: (48, eShareF 48) :: (49, eShareF 49) :: [], []⟩ (.cons eAwake_ok (.cons eSameI2_ok (.cons eOwnI_ok (.cons (eShareF_ok p48) (.cons (eShareF_ok fun am ws hl _ => p49 am ws hl) .nil))))) .nil 200 fun T TD hT hTD => ?_
  cbv
  split <;> cbv
  · rename_i hk0
    have hk1 : j < 3 := by have hz := hlt.symm.trans hk0; simpa using hz
    clear hk0
    obtain ⟨av, hav⟩ : ∃ f, L[j]? = some f := ⟨_, List.getElem?_eq_getElem (by omega)⟩
    obtain ⟨wm, hmw⟩ : ∃ f, M[j]? = some f := ⟨_, List.getElem?_eq_getElem (by omega)⟩
    have hb6 := hMb _ (List.mem_of_getElem? hmw)
    obtain ⟨zf, hzf⟩ : ∃ x, x = wm.map I := ⟨_, rfl⟩
    have hia : A.ix 1 1 avs i [I av] := by subst hA; exact ix_map ham hi hav rfl
    have hiw : A.ix 1 1 wvs i [.vs 1 zf] := by subst hA; rw [hzf]; exact ix_map (f := fun l : List Int => AV.vs 1 (l.map I)) hwm hi hmw rfl
    have hbt : A.bnot true = false := by rw [hnb]; rfl
    have hnx : ∀ x, A.ne x x = false := fun x => by rw [hne]; simp
    have hsl := shareR_len (am := av) (ws := wm)
    have hs40 : shareE av wm = 0 → SrtN wm.length := fun h9 => by
      obtain ⟨_, h1, h2, _⟩ := shareE_ok.1 h9
      exact ⟨by omega, by omega⟩
    refine Exists.intro _ (And.intro hiw ?_); cbv
    refine Exists.intro wm (And.intro ⟨hzf, hb6⟩ ?_); cbv
    refine Exists.intro _ (And.intro hia ?_); cbv
    refine Exists.intro wm (And.intro ⟨hzf, by omega, hs40⟩ ?_)
    intro y1 e1 hy1 he1; cbv
    refine Exists.intro _ (And.intro hia ?_); cbv
    refine Exists.intro _ (And.intro hiw ?_); cbv
    refine Exists.intro wm (And.intro ⟨hzf, by omega, hs40⟩ ?_)
    intro y2 e2 hy2 he2; cbv
    rw [← hy1] at hy2; rw [← he1] at he2
    subst hy2 he2
    split <;> cbv
    · rename_i hz; exact Bool.noConfusion (hz.symm.trans (hnx _))
    refine Exists.intro _ (And.intro ⟨hy1, hy1, by omega⟩ ?_); cbv
    split <;> cbv
    · rename_i hz; exact Bool.noConfusion (hz.symm.trans hbt)
    refine Exists.intro _ (And.intro hiw ?_); cbv
    refine Exists.intro wm (And.intro ⟨hzf, hzf, by omega⟩ ?_); cbv
    split <;> cbv
    · rename_i hz; exact Bool.noConfusion (hz.symm.trans hbt)
    exact hB () _ _ hk1 trivial ⟨congrArg I (hadd _ hk1 (by omega)), trivial⟩ ⟨rfl, rfl, trivial⟩ (.inr ⟨⟨_, rfl⟩, Nat.zero_le _, by simp [ltG, AV.lt, AV.ltL, keepS, look], trivial⟩)
  · exact h _
end Go.Sas
