/-
Season files: a row that is taken into a freight: contract of the program's function.
Season files: what is read of a text: contract of the program's function.
Conditions: none.
-/
import Derived.Test.YtaeaamhlejhgkaaGreatDoorQSN1
import Derived.Test.YtaeaamhlejhgkaaGreatDoorQSK1
import Derived.Test.YtaeaamhlejhgkaaGreatDoorQG22
import Derived.Test.YtaeaamhlejhgkaaGreatDoorHF
import Derived.Test.YtaeaamhlejhgkaaGreatDoorP8
set_option linter.unusedVariables false
set_option linter.unusedSimpArgs false
namespace Go.Sas
open Go.Proofs
set_option maxRecDepth 100000
structure NumsPre (H : AHeap) (r w : ByteArray) (n : Int) : Prop where
  glob : Globs H
  len : r.data.toList.length ≤ 1000000
  two : n = 2 ∨ n = 4
structure NumsNo (r w : ByteArray) (n : Int) : Prop where
  eq : numsL w.data.toList n.toNat r.data.toList = none
structure NumsOk (r w : ByteArray) (n : Int) (ns : List Int) : Prop where
  eq : numsL w.data.toList n.toNat r.data.toList = some ns
theorem NumsOk.two {r w : ByteArray} {ns : List Int} (h : NumsOk r w 2 ns) : ∃ a b, ns = [a, b] := by
  have := (row_nums h.eq).2.1
  match ns, this with
  | [a, b], _ => exact ⟨a, b, rfl⟩
theorem NumsOk.four {r w : ByteArray} {ns : List Int} (h : NumsOk r w 4 ns) : ∃ a b c d, ns = [a, b, c, d] := by
  have := (row_nums h.eq).2.1
  match ns, this with
  | [a, b, c, d], _ => exact ⟨a, b, c, d, rfl⟩
def eNums : List AV → AHeap → Option PT
  | [.lit (.string r), .lit (.string w), .lit (.int .i64 n)], H => some fun K => NumsPre H r w n ∧ (NumsNo r w n → K (.tup [.lit (.slice none 0 0), B false]) H) ∧ ∀ ns : List Int, NumsOk r w n ns → K (.tup [.vs 1 (ns.map I), B true]) H
  | _, _ => none
theorem eNums_ok {f : Nat} (hf : ∀ (rb wb : ByteArray) (many : Nat) (_ : 1 ≤ many ∧ many ≤ 10) (_ : rb.data.toList.length ≤ 1000000) (H : AHeap) (_ : Globs H) {Kk : AV → AHeap → Prop}, Kk (numsA (numsL wb.data.toList many rb.data.toList)) H → ACalls Tryz.prog f [.lit (.string rb), .lit (.string wb), I (iLen many)] H Kk) :
    ∀ args H pt, eNums args H = some pt → ∀ (Kk : AV → AHeap → Prop), pt Kk → ACalls Tryz.prog f args H Kk := by
  intro args H pt h Kk hk
  unfold eNums at h
  split at h
  · rename_i r w n
    cases h
    obtain ⟨⟨hG, hs, ht⟩, h1, h2⟩ := hk
    obtain ⟨m, hm, rfl⟩ : ∃ m : Nat, (1 ≤ m ∧ m ≤ 10) ∧ n = iLen m := by
      rcases ht with rfl | rfl
      · exact ⟨2, by omega, rfl⟩
      · exact ⟨4, by omega, rfl⟩
    refine hf r w m hm hs H hG ?_
    cases hn : numsL w.data.toList m r.data.toList with
    | none => exact h1 ⟨hn⟩
    | some ns => exact h2 ns ⟨hn⟩
  · cases h
/-- where a function returns that leaves no objects behind -/
def RetS (rs : List ARes) (n : Nat) (Kk : AV → AHeap → Prop) (e : Env) (H : AHeap) : Prop := match aResL e H rs with
  | none => False
  | some vs => match Nat.ble H.length n with
    | true => Kk (aTup vs) H
    | false => False
theorem RetS.p {rs : List ARes} {n : Nat} {Kk : AV → AHeap → Prop} {e : Env} {H : AHeap} (h : RetS rs n Kk e H) : RetP rs n Kk e H := by
  unfold RetS at h
  unfold RetP
  split at h
  · exact h.elim
  · rename_i vs hvs
    rw [hvs]
    simp only
    split at h
    · rename_i hb
      rw [List.take_of_length_le (Nat.le_of_ble_eq_true hb)]
      split <;> exact h
    · exact h.elim
def fcC (f : Frt) : List AV := [I f.fi.1, I f.fi.2, I f.la.1, I f.la.2, .ms 2 5 f.caps.length 0 f.caps.length, .ms 4 6 f.ords.length 0 f.ords.length]
def heapF (X1 X2 X3 X4 : AObj) (f : Frt) : AHeap := [X1, X2, X3, X4, .own 0 (fcC f), .own f.caps.length (f.caps.flatMap spC), .own f.ords.length (f.ords.flatMap orC)]
def stepS (f : Frt) (place : Nat) (row : List UInt8) : Option Frt := match place with
  | 0 => firstS row
  | _ + 1 => moreS f row
theorem flen {α : Type} {f : α → List AV} {k : Nat} (h : ∀ x, (f x).length = k) : ∀ l : List α, (l.flatMap f).length = l.length * k
  | [] => by simp
  | x :: l => by rw [List.flatMap_cons, List.length_append, h, flen h l, List.length_cons, Nat.add_mul, Nat.one_mul, Nat.add_comm]
theorem SubH.cs {x : AObj} {M H : AHeap} (h : SubH M H) : SubH (x :: M) (x :: H) := by
  cases x with
  | gone => exact h
  | raw g o es us => exact ⟨rfl, h⟩
  | own g c => cases c <;> exact ⟨rfl, h⟩
theorem SubH.c4 {x y z w : AObj} {M H : AHeap} (h : SubH M H) : SubH (x :: y :: z :: w :: M) (x :: y :: z :: w :: H) := h.cs.cs.cs.cs
set_option maxHeartbeats 2000000 in
theorem p37 (f : Frt) (place : Nat) (rb : ByteArray) {X1 X2 X3 X4 : AObj} (hG : Globs [X1, X2, X3, X4]) (hp : place ≤ 1000000) (hrow : rb.data.toList.length ≤ 1000000) (h0 : place = 0 → f.caps = [] ∧ f.ords = [])
    (hcl : f.caps.length ≤ 1000000) (hol : f.ords.length ≤ 1000000) {Kk : AV → AHeap → Prop} (h1 : ∀ g, stepS f place rb.data.toList = some g → Kk (B true) (heapF X1 X2 X3 X4 g)) (h2 : stepS f place rb.data.toList = none → Kk (B false) (heapF X1 X2 X3 X4 f)) :
    ACalls Tryz.prog 37 [.mp 4 0 0, I (iLen place), .lit (.string rb)] (heapF X1 X2 X3 X4 f) Kk := by
  obtain ⟨⟨a, b⟩, ⟨c, d⟩, cs, os⟩ := f
  simp only at h0 hcl hol
  unfold heapF fcC at h2 ⊢
  simp only at h2 ⊢
  obtain ⟨n1, hn1⟩ : ∃ n, n = cs.length := ⟨_, rfl⟩
  obtain ⟨n2, hn2⟩ : ∃ n, n = os.length := ⟨_, rfl⟩
  have hn2l := hn2
  obtain ⟨cc, hcc⟩ : ∃ n, n = cs.flatMap spC := ⟨_, rfl⟩
  obtain ⟨oc, hoc⟩ : ∃ n, n = os.flatMap orC := ⟨_, rfl⟩
  rw [← hn1, ← hn2, ← hcc, ← hoc] at h2 ⊢
  obtain ⟨ip, hip⟩ : ∃ i : Int, i = iLen place := ⟨_, rfl⟩
  rw [← hip]
  obtain ⟨A, hA⟩ : ∃ A, A = std := ⟨_, rfl⟩
  have hG7 : Globs [X1, X2, X3, X4, .own 0 [I a, I b, I c, I d, .ms 2 5 n1 0 n1, .ms 4 6 n2 0 n2], .own n1 cc, .own n2 oc] := hG.app [_, _, _]
  have hz : A.eq ip 0 = decide (place = 0) := by subst hA hip; simp only [std, iEq, iLen]; rw [Bool.eq_iff_iff]; simp
  refine go37 rfl (AGo.weaken (SGo_run (R := RetS _ 7 Kk) hA ⟨[5, 6], [1005, 1006, 2000004], [], (59, eNums) :: []⟩ .nil (.cons (eNums_ok p59) .nil) 200 fun T TD hT hTD => ?_) (fun _ _ _ h => RetS.p h) (by simp))
  cbv
  split <;> cbv
  · rename_i hq
    have hq : place = 0 := by have := hz.symm.trans hq; simpa using this
    subst hq
    obtain ⟨hc0, ho0⟩ := h0 rfl
    refine And.intro ⟨hG7, hrow, .inr rfl⟩ (And.intro (fun hn => ?_) fun ns hns => ?_)
    · cbv
      have hn : numsL seasonW 4 rb.data.toList = none := hn.eq
      refine h2 ?_
      simp only [stepS, firstS]
      rw [hn]
    · obtain ⟨x, y, z, w, rfl⟩ := hns.four
      have hn : numsL seasonW 4 rb.data.toList = some [x, y, z, w] := hns.eq
      have hi0 : A.ix 1 1 [I x, I y, I z, I w] 0 [I x] := by subst hA; exact ⟨rfl, by decide, _, rfl, rfl⟩
      have hi1 : A.ix 1 1 [I x, I y, I z, I w] 1 [I y] := by subst hA; exact ⟨rfl, by decide, _, rfl, rfl⟩
      have hi2 : A.ix 1 1 [I x, I y, I z, I w] 2 [I z] := by subst hA; exact ⟨rfl, by decide, _, rfl, rfl⟩
      have hi3 : A.ix 1 1 [I x, I y, I z, I w] 3 [I w] := by subst hA; exact ⟨rfl, by decide, _, rfl, rfl⟩
      cbv
      refine Exists.intro _ (And.intro hi0 ?_); cbv
      refine Exists.intro _ (And.intro hi1 ?_); cbv
      refine Exists.intro _ (And.intro hi2 ?_); cbv
      refine Exists.intro _ (And.intro hi3 ?_); cbv
      refine And.intro (by subst hA; exact .inr ⟨SubH.c4 (by simp [SubH]), trivial, by first | exact .inl rfl | exact .inr fun _ => SubH.c4 (by simp [SubH])⟩) ?_; cbv
      have hst := h1 ⟨(x, y), (z, w), [], []⟩ (by simp only [stepS, firstS]; rw [hn])
      subst hc0 ho0
      simp at hn1 hn2 hcc hoc
      subst hn1 hn2 hcc hoc
      exact hst
  · rename_i hq
    have hq : ¬ place = 0 := by have := hz.symm.trans hq; simpa using this
    obtain ⟨q, rfl⟩ : ∃ q, place = q + 1 := ⟨place - 1, by omega⟩
    have hmore : ∀ L, numsL capW 2 rb.data.toList = L → (L = none ∨ os ≠ []) → moreS ⟨(a, b), (c, d), cs, os⟩ rb.data.toList = match numsL orderW 4 rb.data.toList with
        | some [x, y, z, w] => some ⟨(a, b), (c, d), cs, os ++ [⟨x, y, z, w⟩]⟩
        | _ => none := by
      intro L hL hor
      unfold moreS
      rw [hL]
      rcases hor with rfl | hor
      · rfl
      · simp only
        split
        · exact absurd rfl hor
        · rfl
    refine And.intro ⟨hG7, hrow, .inl rfl⟩ (And.intro (fun hn => ?_) fun ns hns => ?_)
    · cbv
      have hmo := hmore _ hn.eq (.inl rfl)
      refine And.intro ⟨hG7, hrow, .inr rfl⟩ (And.intro (fun hn2 => ?_) fun ns hns2 => ?_)
      · cbv
        have hn2 : numsL orderW 4 rb.data.toList = none := hn2.eq
        refine h2 ?_
        simp only [stepS]
        rw [hmo, hn2]
      · obtain ⟨x4, y4, z4, w4, rfl⟩ := hns2.four
        have hn2 : numsL orderW 4 rb.data.toList = some [x4, y4, z4, w4] := hns2.eq
        have hj0 : A.ix 1 1 [I x4, I y4, I z4, I w4] 0 [I x4] := by subst hA; exact ⟨rfl, by decide, _, rfl, rfl⟩
        have hj1 : A.ix 1 1 [I x4, I y4, I z4, I w4] 1 [I y4] := by subst hA; exact ⟨rfl, by decide, _, rfl, rfl⟩
        have hj2 : A.ix 1 1 [I x4, I y4, I z4, I w4] 2 [I z4] := by subst hA; exact ⟨rfl, by decide, _, rfl, rfl⟩
        have hj3 : A.ix 1 1 [I x4, I y4, I z4, I w4] 3 [I w4] := by subst hA; exact ⟨rfl, by decide, _, rfl, rfl⟩
        cbv
        refine Exists.intro _ (And.intro hj0 ?_); cbv
        refine Exists.intro _ (And.intro hj1 ?_); cbv
        refine Exists.intro _ (And.intro hj2 ?_); cbv
        refine Exists.intro _ (And.intro hj3 ?_); cbv
        obtain ⟨o2, ho2⟩ : ∃ c2, c2 = oc ++ [I x4, I y4, I z4, I w4] := ⟨_, rfl⟩
        have happ : A.app 4 4 32 oc 0 n2 [.agg [I x4, I y4, I z4, I w4]] o2 (n2 + 1) := by subst hA; rw [ho2]; exact app_one (by rw [hoc, hn2l]; exact flen (f := orC) (k := 4) (fun _ => rfl) _) rfl (by omega)
        refine And.intro (by subst hA; rfl) (Exists.intro _ (Exists.intro _ (And.intro happ (And.intro rfl ?_)))); cbv
        refine And.intro (by subst hA; exact .inr ⟨SubH.c4 (by simp [SubH]), trivial, by first | exact .inl rfl | exact .inr fun _ => SubH.c4 (by simp [SubH])⟩) ?_; cbv
        have hst := h1 ⟨(a, b), (c, d), cs, os ++ [⟨x4, y4, z4, w4⟩]⟩ (by simp only [stepS]; rw [hmo, hn2])
        unfold heapF fcC at hst
        simp only [List.length_append, List.length_cons, List.length_nil, ← hn1, ← hn2l, List.flatMap_append, ← hcc, ← hoc] at hst
        rw [show oc ++ [(⟨x4, y4, z4, w4⟩ : Ord)].flatMap orC = o2 by rw [ho2]; rfl] at hst
        exact hst
    · obtain ⟨x, y, rfl⟩ := hns.two
      have hn : numsL capW 2 rb.data.toList = some [x, y] := hns.eq
      have hi0 : A.ix 1 1 [I x, I y] 0 [I x] := by subst hA; exact ⟨rfl, by decide, _, rfl, rfl⟩
      have hi1 : A.ix 1 1 [I x, I y] 1 [I y] := by subst hA; exact ⟨rfl, by decide, _, rfl, rfl⟩
      have hz2 : A.eq (A.len n2) 0 = decide (os = []) := by
        subst hA hn2; simp only [std, iEq, iLen]; rw [Bool.eq_iff_iff]; simp
      cbv
      refine And.intro (by subst hA; rfl) ?_; cbv
      split <;> cbv
      · rename_i hq2
        have hq2 : os = [] := by have := hz2.symm.trans hq2; simpa using this
        refine Exists.intro _ (And.intro hi0 ?_); cbv
        refine Exists.intro _ (And.intro hi1 ?_); cbv
        obtain ⟨c2, hc2⟩ : ∃ c2, c2 = cc ++ [I x, I y] := ⟨_, rfl⟩
        have happ : A.app 2 2 16 cc 0 n1 [.agg [I x, I y]] c2 (n1 + 1) := by subst hA; rw [hc2]; exact app_one (by rw [hcc, hn1]; exact flen (f := spC) (k := 2) (fun _ => rfl) _) rfl (by omega)
        refine And.intro (by subst hA; rfl) (Exists.intro _ (Exists.intro _ (And.intro happ (And.intro rfl ?_)))); cbv
        refine And.intro (by subst hA; exact .inr ⟨SubH.c4 (by simp [SubH]), trivial, by first | exact .inl rfl | exact .inr fun _ => SubH.c4 (by simp [SubH])⟩) ?_; cbv
        have hst := h1 ⟨(a, b), (c, d), cs ++ [(x, y)], os⟩ (by simp only [stepS, moreS]; rw [hn]; subst hq2; rfl)
        unfold heapF fcC at hst
        simp only [List.length_append, List.length_cons, List.length_nil, ← hn1, ← hn2, List.flatMap_append, ← hcc, ← hoc] at hst
        rw [show cc ++ [(x, y)].flatMap spC = c2 by rw [hc2]; rfl] at hst
        exact hst
      · rename_i hq2
        have hq2 : os ≠ [] := by have := hz2.symm.trans hq2; simpa using this
        have hmo := hmore _ hn (.inr hq2)
        refine And.intro ⟨hG7, hrow, .inr rfl⟩ (And.intro (fun hn2 => ?_) fun ns hns2 => ?_)
        · cbv
          have hn2 : numsL orderW 4 rb.data.toList = none := hn2.eq
          refine h2 ?_
          simp only [stepS]
          rw [hmo, hn2]
        · obtain ⟨x4, y4, z4, w4, rfl⟩ := hns2.four
          have hn2 : numsL orderW 4 rb.data.toList = some [x4, y4, z4, w4] := hns2.eq
          have hj0 : A.ix 1 1 [I x4, I y4, I z4, I w4] 0 [I x4] := by subst hA; exact ⟨rfl, by decide, _, rfl, rfl⟩
          have hj1 : A.ix 1 1 [I x4, I y4, I z4, I w4] 1 [I y4] := by subst hA; exact ⟨rfl, by decide, _, rfl, rfl⟩
          have hj2 : A.ix 1 1 [I x4, I y4, I z4, I w4] 2 [I z4] := by subst hA; exact ⟨rfl, by decide, _, rfl, rfl⟩
          have hj3 : A.ix 1 1 [I x4, I y4, I z4, I w4] 3 [I w4] := by subst hA; exact ⟨rfl, by decide, _, rfl, rfl⟩
          cbv
          refine Exists.intro _ (And.intro hj0 ?_); cbv
          refine Exists.intro _ (And.intro hj1 ?_); cbv
          refine Exists.intro _ (And.intro hj2 ?_); cbv
          refine Exists.intro _ (And.intro hj3 ?_); cbv
          obtain ⟨o2, ho2⟩ : ∃ c2, c2 = oc ++ [I x4, I y4, I z4, I w4] := ⟨_, rfl⟩
          have happ : A.app 4 4 32 oc 0 n2 [.agg [I x4, I y4, I z4, I w4]] o2 (n2 + 1) := by subst hA; rw [ho2]; exact app_one (by rw [hoc, hn2l]; exact flen (f := orC) (k := 4) (fun _ => rfl) _) rfl (by omega)
          refine And.intro (by subst hA; rfl) (Exists.intro _ (Exists.intro _ (And.intro happ (And.intro rfl ?_)))); cbv
          refine And.intro (by subst hA; exact .inr ⟨SubH.c4 (by simp [SubH]), trivial, by first | exact .inl rfl | exact .inr fun _ => SubH.c4 (by simp [SubH])⟩) ?_; cbv
          have hst := h1 ⟨(a, b), (c, d), cs, os ++ [⟨x4, y4, z4, w4⟩]⟩ (by simp only [stepS]; rw [hmo, hn2])
          unfold heapF fcC at hst
          simp only [List.length_append, List.length_cons, List.length_nil, ← hn1, ← hn2l, List.flatMap_append, ← hcc, ← hoc] at hst
          rw [show oc ++ [(⟨x4, y4, z4, w4⟩ : Ord)].flatMap orC = o2 by rw [ho2]; rfl] at hst
          exact hst
end Go.Sas
namespace Go.Sas
open Go.Proofs
set_option maxRecDepth 100000
def frA (f : Frt) : AV := frV f.fi.1 f.fi.2 f.la.1 f.la.2 (.vs 2 (f.caps.map sp)) (.vs 4 (f.ords.map orV))
def readA (r : Frt × Int × Int) : AV := .tup [frA r.1, I r.2.1, I r.2.2]
def readF (t : List UInt8) : Frt × Int × Int := readS 5 3 checkF 20000 t
structure TakePre (X1 X2 X3 X4 : AObj) (f : Frt) (place : Nat) (H : AHeap) (i : Int) (r : ByteArray) : Prop where
  glob : Globs [X1, X2, X3, X4]
  heap : H = heapF X1 X2 X3 X4 f
  num : i = iLen place
  small : place ≤ 1000000
  len : r.data.toList.length ≤ 1000000
  zero : place = 0 → f.caps = [] ∧ f.ords = []
  cl : f.caps.length ≤ 1000000
  ol : f.ords.length ≤ 1000000
structure StepOk (f : Frt) (place : Nat) (r : ByteArray) (g : Frt) (fc cc oc : List AV) (n1 n2 : Nat) : Prop where
  eq : stepS f place r.data.toList = some g
  fc : fc = fcC g
  cc : cc = g.caps.flatMap spC
  oc : oc = g.ords.flatMap orC
  n1 : n1 = g.caps.length
  n2 : n2 = g.ords.length
structure StepNo (f : Frt) (place : Nat) (r : ByteArray) : Prop where
  eq : stepS f place r.data.toList = none
def eTake : List AV → AHeap → Option PT
  | [.mp 4 0 0, .lit (.int .i64 i), .lit (.string r)], H => some fun K => ∃ X1 X2 X3 X4 f place, TakePre X1 X2 X3 X4 f place H i r ∧ (StepNo f place r → K (B false) H) ∧ ∀ g fc cc oc n1 n2, StepOk f place r g fc cc oc n1 n2 → K (B true) [X1, X2, X3, X4, .own 0 fc, .own n1 cc, .own n2 oc]
  | _, _ => none
theorem eTake_ok : ∀ args H pt, eTake args H = some pt → ∀ (Kk : AV → AHeap → Prop), pt Kk → ACalls Tryz.prog 37 args H Kk := by
  intro args H pt h Kk hk
  unfold eTake at h
  split at h
  · cases h
    obtain ⟨X1, X2, X3, X4, f, place, ⟨hG, rfl, rfl, hp, hl, hz, hc, ho⟩, h1, h2⟩ := hk
    exact p37 f place _ hG hp hl hz hc ho (fun g hg => h2 g _ _ _ _ _ ⟨hg, rfl, rfl, rfl, rfl, rfl⟩) fun hn => h1 ⟨hn⟩
  · cases h
theorem takeS_step {f : Frt} {n : Nat} {r : List UInt8} {rs : List (List UInt8)} : takeS f n (r :: rs) = match stepS f n r with
    | some g => takeS g (n + 1) rs
    | none => (f, n + 1) := by
  cases n <;> rfl
theorem step_len {f g : Frt} {n : Nat} {r : List UInt8} (h : stepS f n r = some g) : g.caps.length ≤ f.caps.length + 1 ∧ g.ords.length ≤ f.ords.length + 1 := by
  cases n with
  | zero =>
    obtain ⟨_, h1, h2⟩ := firstS_some h
    rw [h1, h2]; simp
  | succ n =>
    simp only [stepS, moreS] at h
    split at h
    · cases h; simp
    · split at h
      · cases h; simp
      · cases h
theorem wk_zero {b c : Int} : Wk (.tup [.agg [I 0, I 0, I 0, I 0, .lit (.slice none 0 0), .lit (.slice none 0 0)], I b, I c]) (readA (frt0, b, c)) :=
  Wk.tup ⟨Wk.agg ⟨Wk.rfl, Wk.rfl, Wk.rfl, Wk.rfl, Wk.nil, Wk.nil, trivial⟩, Wk.rfl, Wk.rfl, trivial⟩
theorem Frees.weak {m : Nat} {Kk : AV → AHeap → Prop} {r : AV} {H : AHeap} (q : Nat) {gg : Nat} {cs : List AV} (hX : H[q]? = some (.own gg cs)) (h : Frees m Kk r (H.set q (.own gg []))) : Frees m Kk r H :=
  fun st0 w0 st w v hm he hH hr => h st0 w0 st w v hm he (hH.weak hX) hr
theorem fr_frees {X1 X2 X3 X4 : AObj} (hG : Globs [X1, X2, X3, X4]) {a b c d u v : Int} {cs : List (Int × Int)} {os : List Ord} {n1 n2 g : Nat} {cc oc fc : List AV} (h1 : n1 = cs.length) (h2 : n2 = os.length) (h3 : cc = cs.flatMap spC) (h4 : oc = os.flatMap orC)
    {Kk : AV → AHeap → Prop} (h : Kk (readA (⟨(a, b), (c, d), cs, os⟩, u, v)) [X1, X2, X3, X4]) :
    Frees 4 Kk (.tup [.agg [I a, I b, I c, I d, .ms 2 5 n1 0 n1, .ms 4 6 n2 0 n2], I u, I v]) [X1, X2, X3, X4, .own g fc, .own n1 cc, .own n2 oc] := by
  obtain ⟨_, _, _, _, _, e, _, g2, m2, o2, g3, o3, g4, o4, e1, e2, e3, e4⟩ := hG.split
  cases e
  subst e1 e2 e3 e4
  have hE1 : Elems 2 (cs.map sp) cc := by rw [h3]; exact Elems_map (f := sp) (g := spC) (sz := 2) (fun _ => rfl) (fun _ => rfl) (fun _ => rfl) cs
  have hE2 : Elems 4 (os.map orV) oc := by rw [h4]; exact Elems_map (f := orV) (g := orC) (sz := 4) (fun _ => rfl) (fun _ => rfl) (fun _ => rfl) os
  have hx1 : AV.nidL cc = true := by rw [h3]; exact nidL_flat (fun _ => rfl) _
  have hx2 : AV.nidL oc = true := by rw [h4]; exact nidL_flat (fun _ => rfl) _
  have l1 : (cs.map sp).take n1 = cs.map sp := List.take_of_length_le (by simp [h1])
  have l2 : (os.map orV).take n2 = os.map orV := List.take_of_length_le (by simp [h2])
  clear h3 h4
  obtain ⟨xs, hxs⟩ : ∃ z, z = cs.map sp := ⟨_, rfl⟩
  obtain ⟨ys, hys⟩ : ∃ z, z = os.map orV := ⟨_, rfl⟩
  have k1 : n1 ≤ xs.length := by rw [hxs]; simp [h1]
  have k2 : n2 ≤ ys.length := by rw [hys]; simp [h2]
  unfold readA frA at h
  simp only at h
  rw [← hxs] at hE1 l1 h
  rw [← hys] at hE2 l2 h
  refine Frees.weak 4 rfl (Frees.frz 5 n1 2 xs rfl hE1 ?_)
  have hnid : (AV.tup [frV a b c d (.vs 2 xs) (.vs 4 ys), I u, I v]).nid = true := by simp [AV.nid, AV.nidL]
  have := Frees.self (m := 4) (Kk := Kk) (H := [.own 0 [], rawT 1 g2 m2 o2, rawG 2 g3 o3, rawG 3 g4 o4]) (T := [.own g [], .gone, .gone]) rfl hnid (Globs.ltH hG) h
  have e1 : frzH 5 n1 2 xs (([.own 0 [], rawT 1 g2 m2 o2, rawG 2 g3 o3, rawG 3 g4 o4, .own g [], .own n1 cc, .own n2 oc] : AHeap).set 5 .gone) = [.own 0 [], rawT 1 g2 m2 o2, rawG 2 g3 o3, rawG 3 g4 o4, .own g [], .gone, .own n2 oc] := by
    simp [frzH, AObj.frz, AV.frzL, AV.frz, rawG, rawT, AV.frzL_nid hx2]
  have e2 : AV.frz 5 n1 2 xs (.tup [.agg [I a, I b, I c, I d, .ms 2 5 n1 0 n1, .ms 4 6 n2 0 n2], I u, I v]) = .tup [.agg [I a, I b, I c, I d, .vs 2 xs, .ms 4 6 n2 0 n2], I u, I v] := by
    simp [AV.frzL, AV.frz, l1, k1]
  show Frees 4 Kk (AV.frz 5 n1 2 xs _) (frzH 5 n1 2 xs (([.own 0 [], rawT 1 g2 m2 o2, rawG 2 g3 o3, rawG 3 g4 o4, .own g [], .own n1 cc, .own n2 oc] : AHeap).set 5 .gone))
  rw [e1, e2]
  refine Frees.frz 6 n2 4 ys rfl hE2 ?_
  have e3 : frzH 6 n2 4 ys (([.own 0 [], rawT 1 g2 m2 o2, rawG 2 g3 o3, rawG 3 g4 o4, .own g [], .gone, .own n2 oc] : AHeap).set 6 .gone) = [.own 0 [], rawT 1 g2 m2 o2, rawG 2 g3 o3, rawG 3 g4 o4] ++ [.own g [], .gone, .gone] := by
    simp [frzH, AObj.frz, AV.frzL, AV.frz, rawG, rawT]
  have e4 : AV.frz 6 n2 4 ys (.tup [.agg [I a, I b, I c, I d, .vs 2 xs, .ms 4 6 n2 0 n2], I u, I v]) = .tup [.agg [I a, I b, I c, I d, .vs 2 xs, .vs 4 ys], I u, I v] := by
    simp [AV.frzL, AV.frz, l2, k2]
  rw [e3, e4]
  exact this
set_option maxHeartbeats 4000000 in
theorem p12 (tb : ByteArray) (H : AHeap) (hGH : Globs H) {Kk : AV → AHeap → Prop} (h : Kk (readA (readF tb.data.toList)) H) : ACalls Tryz.prog 12 [.lit (.string tb)] H Kk := by
  refine liftG hGH rfl (by simp [readA, frA, AV.nid, AV.nidL]) ?_ h
  clear h hGH
  intro X1 X2 X3 X4 hG Kk h
  refine ACalls.frees ?_
  obtain ⟨W, hW⟩ : ∃ W, W = readF tb.data.toList := ⟨_, rfl⟩
  rw [← hW] at h
  obtain ⟨A, hA⟩ : ∃ A, A = std := ⟨_, rfl⟩
  obtain ⟨F, hF⟩ : ∃ F, F = Frees 4 Kk := ⟨_, rfl⟩
  refine go12 rfl (AGo.weaken (SGo_run (R := RetH _ [X1, X2, X3, X4] F) hA ⟨[5, 6], [], [], (36, eSplit) :: (37, eTake) :: (27, eMut eCheckFr) :: []⟩ .nil (.cons eSplit_ok (.cons eTake_ok (.cons (eMut_ok (eCheckFr_ok p27)) .nil))) 200 fun T TD hT hTD => ?_) (fun _ _ _ h => by rw [hF] at h; exact RetH.p hG.ltH h) (by simp))
  have hzero : ∀ b c, W = (frt0, b, c) → F (.tup [.agg [I 0, I 0, I 0, I 0, .lit (.slice none 0 0), .lit (.slice none 0 0)], I b, I c]) [X1, X2, X3, X4] := fun b c hw => by
    rw [hw] at h; rw [hF]; exact Frees.wk wk_zero (Frees.now h)
  cbv
  split <;> cbv
  · rename_i hq
    have hq : 20000 < tb.data.toList.length := by
      subst hA; clear hW; revert hq; rcases tb with ⟨⟨l⟩⟩
      cases l <;> simp [std, iLt, iLen] <;> omega
    exact hzero 0 5 (by rw [hW]; unfold readF readS; rw [if_pos hq])
  rename_i hq
  have hq : ¬ 20000 < tb.data.toList.length := by
    subst hA; clear hW; revert hq; rcases tb with ⟨⟨l⟩⟩
    cases l <;> simp [std, iLt, iLen] <;> omega
  refine And.intro ⟨hG.app [_], by omega, _, rfl⟩ fun xs hxs => ?_
  have hxs : xs = (splitL 10 tb.data.toList).map strA := hxs.eq 10 rfl
  obtain ⟨rs, lst, hsp⟩ : ∃ rs lst, splitL 10 tb.data.toList = rs ++ [lst] := ⟨_, _, (List.dropLast_concat_getLast (splitL_ne _)).symm⟩
  have hlens : rs.length ≤ 20000 := by
    have := splitL_len (c := 10) tb.data.toList
    rw [hsp] at this
    have h2 := List.count_le_length (a := (10 : UInt8)) (l := tb.data.toList)
    rw [List.length_append, List.length_singleton] at this
    generalize List.count 10 tb.data.toList = q at this h2
    omega
  have hparts : ∀ x ∈ rs, x.length ≤ 1000000 := fun x hx => by
    have := splitL_part (c := 10) (l := tb.data.toList) (x := x) (by rw [hsp]; exact List.mem_append_left _ hx)
    omega
  rw [hsp] at hxs
  have hsub : A.sub .i64 (A.vlen xs) 1 = iLen rs.length := by
    subst hA; rw [hxs]; simp only [std]
    show iSub .i64 (iLen _) 1 = _
    unfold iLen
    rw [iSub_id] <;> simp <;> omega
  obtain ⟨ys, hys⟩ : ∃ ys : List AV, ys = rs.map strA := ⟨_, rfl⟩
  have hsl : A.slv 1 1 xs none (some (A.sub .i64 (A.vlen xs) 1)) ys := by
    rw [hsub]; subst hA; rw [hxs, hys]
    refine ⟨rfl, 0, rs.length, rfl, by simp [bdI, iLen], by omega, by simp, ?_⟩
    simp
  cbv
  refine Exists.intro ys (And.intro hsl ?_); cbv
  rw [hT]
  refine AGo_nilcell 4 4 2 rfl rfl ?_
  refine AGo_nilcell 4 5 4 rfl rfl ?_
  have hWt : W = if (takeS frt0 0 rs).2 ≠ 0 then (frt0, ((takeS frt0 0 rs).2 : Int), 3) else if rs.length = 0 ∨ lst ≠ [] then (frt0, ((rs.length + 1 : Nat) : Int), 3) else if checkF (takeS frt0 0 rs).1 ≠ 0 then (frt0, 0, checkF (takeS frt0 0 rs).1) else ((takeS frt0 0 rs).1, 0, 0) := by
    rw [hW]; unfold readF readS
    rw [if_neg hq]
    simp only [hsp, List.dropLast_concat, List.length_append, List.length_singleton, List.getLast?_concat]
    simp
  refine AGo_upE [2, 5, 6, 21, 22] rs.length (fun j (f : Frt) => takeS frt0 0 rs = takeS f j (rs.drop j) ∧ f.caps.length ≤ j ∧ f.ords.length ≤ j) (fun _ _ i => [(23, I i)]) (fun _ f => heapF X1 X2 X3 X4 f) frt0 ⟨rfl, Nat.le_refl _, Nat.le_refl _⟩ ⟨rfl, trivial⟩ (.inl rfl) fun j f i hi hj hP Bk hB => ?_
  obtain ⟨hT0, hcl, hol⟩ := hP
  have hlt : A.lt i (A.vlen ys) = decide (j < rs.length) := by subst hA; exact lt_len (by simp [hys]) hi
  have hadd : ∀ N, j < N → N ≤ 9223372036854775807 → A.add .i64 i 1 = iLen (j + 1) := fun N hj hN => by subst hA; exact add_one hi hj hN
  obtain ⟨⟨a, b⟩, ⟨c, d⟩, cs, os⟩ := f
  simp only at hcl hol
  obtain ⟨Hf, hHf⟩ : ∃ Hf, Hf = heapF X1 X2 X3 X4 ⟨(a, b), (c, d), cs, os⟩ := ⟨_, rfl⟩
  rw [show heapF X1 X2 X3 X4 ⟨(a, b), (c, d), cs, os⟩ = Hf from hHf.symm]
  have hHf0 := hHf
  unfold heapF fcC at hHf
  simp only at hHf
  obtain ⟨n1, hn1⟩ : ∃ n, n = cs.length := ⟨_, rfl⟩
  obtain ⟨n2, hn2⟩ : ∃ n, n = os.length := ⟨_, rfl⟩
  obtain ⟨cc, hcc⟩ : ∃ n, n = cs.flatMap spC := ⟨_, rfl⟩
  obtain ⟨oc, hoc⟩ : ∃ n, n = os.flatMap orC := ⟨_, rfl⟩
  rw [← hn1, ← hn2, ← hcc, ← hoc] at hHf
  rw [hHf] at hHf0 ⊢
  clear hHf
  refine SGo_run hA ⟨[5, 6], [], [], (36, eSplit) :: (37, eTake) :: (27, eMut eCheckFr) :: []⟩ .nil (.cons eSplit_ok (.cons eTake_ok (.cons (eMut_ok (eCheckFr_ok p27)) .nil))) 200 fun T TD hT hTD => ?_
  cbv
  split <;> cbv
  · rename_i hk1
    have hlt1 : j < rs.length := by have := hlt.symm.trans hk1; simpa using this
    obtain ⟨x, hx⟩ : ∃ x, rs[j]? = some x := ⟨_, List.getElem?_eq_getElem hlt1⟩
    obtain ⟨t, ht⟩ : ∃ t, t = bA x := ⟨_, rfl⟩
    have htd : t.data.toList = x := by rw [ht, bA_data]
    have hxl := hparts x (List.mem_of_getElem? hx)
    have hix2 : A.ix 1 1 ys i [.lit (.string t)] := by subst hA; exact ix_map hys hi hx (by rw [ht]; rfl)
    have hadd := hadd rs.length hlt1 (by omega)
    have hbn0 : A.bnot false = true := by subst hA; rfl
    have hbn1 : A.bnot true = false := by subst hA; rfl
    have hdr := drop_cons hx
    rw [hdr, takeS_step] at hT0
    refine Exists.intro _ (And.intro hix2 ?_); cbv
    refine Exists.intro X1 (Exists.intro X2 (Exists.intro X3 (Exists.intro X4 (Exists.intro ⟨(a, b), (c, d), cs, os⟩ (Exists.intro j (And.intro ⟨hG, hHf0, hi, by omega, by rw [htd]; exact hxl, fun h0 => ?_, ?_, ?_⟩ (And.intro (fun hno => ?_) fun g fc cc' oc' m1 m2 hg => ?_)))))))
    · subst h0
      exact ⟨List.length_eq_zero_iff.1 (Nat.le_zero.1 hcl), List.length_eq_zero_iff.1 (Nat.le_zero.1 hol)⟩
    · show cs.length ≤ 1000000
      omega
    · show os.length ≤ 1000000
      omega
    · have hno := hno.eq
      rw [htd] at hno
      rw [hno] at hT0
      cbv
      split <;> cbv
      · have := hzero (A.add .i64 i 1) 3 (by rw [hadd, hWt, hT0]; simp [iLen])
        exact this
      · rename_i hq2
        exact absurd (hbn0.symm.trans hq2) (by decide)
    · have hst := hg.eq
      rw [htd] at hst
      rw [hst] at hT0
      cbv
      split
      · rename_i hq2
        exact absurd (hbn1.symm.trans hq2) (by decide)
      · cbv
        have hl := step_len hst
        have hl : g.caps.length ≤ cs.length + 1 ∧ g.ords.length ≤ os.length + 1 := hl
        refine hB g _ _ hlt1 ⟨hT0, by omega, by omega⟩ ⟨congrArg I hadd, trivial⟩ ⟨rfl, rfl, rfl, rfl, rfl, trivial⟩ (.inl ?_)
        rw [hg.fc, hg.cc, hg.oc, hg.n1, hg.n2]; rfl
  · rename_i hk1
    have hk1 : ¬ j < rs.length := by have := hlt.symm.trans hk1; simpa using this
    rw [List.drop_eq_nil_of_le (by omega)] at hT0
    have hz0 : A.eq (A.sub .i64 (A.vlen xs) 1) 0 = decide (rs.length = 0) := by
      rw [hsub]; subst hA; simp only [std, iEq, iLen]; rw [Bool.eq_iff_iff]; simp
    have hadd1 : A.add .i64 (A.sub .i64 (A.vlen xs) 1) 1 = iLen (rs.length + 1) := by
      rw [hsub]; subst hA; exact add_one (N := rs.length + 1) rfl (by omega) (by omega)
    have hix3 : A.ix 1 1 xs (A.sub .i64 (A.vlen xs) 1) [.lit (.string (bA lst))] := by
      rw [hsub]; subst hA; rw [hxs]
      exact ⟨rfl, Int.natCast_nonneg _, strA lst, by simp [iLen], rfl⟩
    obtain ⟨tl, htl⟩ : ∃ t, t = bA lst := ⟨_, rfl⟩
    rw [← htl] at hix3
    have hsq : A.bnot (A.seq tl ⟨[].toArray⟩) = decide (lst ≠ []) := by
      subst hA htl; simp only [std]
      rw [Bool.eq_iff_iff]
      simp only [Bool.not_eq_true', decide_eq_true_eq, ne_eq]
      rw [← Bool.not_eq_true, seq_iff, bA_data]
    have hT1 : takeS frt0 0 rs = (⟨(a, b), (c, d), cs, os⟩, 0) := by rw [hT0]; cases j <;> rfl
    rw [hT1] at hWt
    simp only [ne_eq, not_true_eq_false, if_false] at hWt
    split <;> cbv
    · rename_i hq1
      have hq1 : rs.length = 0 := by have := hz0.symm.trans hq1; simpa using this
      have := hzero (A.add .i64 (A.sub .i64 (A.vlen xs) 1) 1) 3 (by rw [hadd1, hWt, if_pos (.inl hq1)]; rfl)
      exact this
    rename_i hq1
    have hq1 : ¬ rs.length = 0 := by have := hz0.symm.trans hq1; simpa using this
    refine Exists.intro _ (And.intro hix3 ?_); cbv
    split <;> cbv
    · rename_i hq2
      have hq2 : lst ≠ [] := by have := hsq.symm.trans hq2; simpa using this
      have := hzero (A.add .i64 (A.sub .i64 (A.vlen xs) 1) 1) 3 (by rw [hadd1, hWt, if_pos (.inr hq2)]; rfl)
      exact this
    rename_i hq2
    have hq2 : lst = [] := by have := hsq.symm.trans hq2; simpa using this
    rw [if_neg (by rintro (h | h); exact hq1 h; exact h hq2)] at hWt
    have hE1 : Elems 2 (cs.map sp) cc := by rw [hcc]; exact Elems_map (f := sp) (g := spC) (sz := 2) (fun _ => rfl) (fun _ => rfl) (fun _ => rfl) cs
    have hE2 : Elems 4 (os.map orV) oc := by rw [hoc]; exact Elems_map (f := orV) (g := orC) (sz := 4) (fun _ => rfl) (fun _ => rfl) (fun _ => rfl) os
    obtain ⟨zs, hzs⟩ : ∃ z, z = cs.map sp := ⟨_, rfl⟩
    obtain ⟨zo, hzo⟩ : ∃ z, z = os.map orV := ⟨_, rfl⟩
    rw [← hzs] at hE1
    rw [← hzo] at hE2
    refine Exists.intro zs (And.intro ⟨rfl, hE1, by rw [hzs, hn1]; simp⟩ ?_); cbv
    refine Exists.intro zo (And.intro ⟨rfl, hE2, by rw [hzo, hn2]; simp⟩ ?_); cbv
    refine Exists.intro cs (Exists.intro os (And.intro hzs (And.intro hzo (And.intro (by omega) (And.intro (by omega) ?_)))))
    intro q hqe; cbv
    have hne : A.ne q 0 = decide (q ≠ 0) := by subst hA; simp only [std, iNe]; rw [Bool.eq_iff_iff]; simp
    split <;> cbv
    · rename_i hq3
      have hq3 : q ≠ 0 := by have := hne.symm.trans hq3; simpa using this
      exact hzero 0 q (by rw [hWt, ← hqe, if_pos hq3])
    rename_i hq3
    have hq3 : ¬ q ≠ 0 := by have := hne.symm.trans hq3; simpa using this
    rw [← hqe, if_neg hq3] at hWt
    rw [hWt] at h
    rw [hF]
    exact fr_frees hG hn1 hn2 hcc hoc h
end Go.Sas
