/-
Season files: a row that is taken into a freight: contract of the program's function.
Conditions: none.
-/
import Derived.Test.YtaeaamhlejhgkaaGreatDoorQSN1
import Derived.Test.YtaeaamhlejhgkaaGreatDoorQSK1
import Derived.Test.YtaeaamhlejhgkaaGreatDoorQG22
import Derived.Test.YtaeaamhlejhgkaaGreatDoorHF
set_option linter.unusedVariables false
set_option linter.unusedSimpArgs false
namespace Go.Sas
open Go.Proofs
set_option maxRecDepth 100000
structure NumsPre (H : AHeap) (r w : ByteArray) (n : Int) : Prop where
  glob : Globs H
  len : r.data.toList.length ≤ 1000000
  two : n = 2 ∨ n = 4
structure NumsNo (r w : ByteArray) (n : Int) : Prop where
  eq : numsL w.data.toList n.toNat r.data.toList = none
structure NumsOk (r w : ByteArray) (n : Int) (ns : List Int) : Prop where
  eq : numsL w.data.toList n.toNat r.data.toList = some ns
theorem NumsOk.two {r w : ByteArray} {ns : List Int} (h : NumsOk r w 2 ns) : ∃ a b, ns = [a, b] := by
  have := (row_nums h.eq).2.1
  match ns, this with
  | [a, b], _ => exact ⟨a, b, rfl⟩
theorem NumsOk.four {r w : ByteArray} {ns : List Int} (h : NumsOk r w 4 ns) : ∃ a b c d, ns = [a, b, c, d] := by
  have := (row_nums h.eq).2.1
  match ns, this with
  | [a, b, c, d], _ => exact ⟨a, b, c, d, rfl⟩
def eNums : List AV → AHeap → Option PT
  | [.lit (.string r), .lit (.string w), .lit (.int .i64 n)], H => some fun K => NumsPre H r w n ∧ (NumsNo r w n → K (.tup [.lit (.slice none 0 0), B false]) H) ∧ ∀ ns : List Int, NumsOk r w n ns → K (.tup [.vs 1 (ns.map I), B true]) H
  | _, _ => none
theorem eNums_ok {f : Nat} (hf : ∀ (rb wb : ByteArray) (many : Nat) (_ : 1 ≤ many ∧ many ≤ 10) (_ : rb.data.toList.length ≤ 1000000) (H : AHeap) (_ : Globs H) {Kk : AV → AHeap → Prop}, Kk (numsA (numsL wb.data.toList many rb.data.toList)) H → ACalls Tryz.prog f [.lit (.string rb), .lit (.string wb), I (iLen many)] H Kk) :
    ∀ args H pt, eNums args H = some pt → ∀ (Kk : AV → AHeap → Prop), pt Kk → ACalls Tryz.prog f args H Kk := by
  intro args H pt h Kk hk
  unfold eNums at h
  split at h
  · rename_i r w n
    cases h
    obtain ⟨⟨hG, hs, ht⟩, h1, h2⟩ := hk
    obtain ⟨m, hm, rfl⟩ : ∃ m : Nat, (1 ≤ m ∧ m ≤ 10) ∧ n = iLen m := by
      rcases ht with rfl | rfl
      · exact ⟨2, by omega, rfl⟩
      · exact ⟨4, by omega, rfl⟩
    refine hf r w m hm hs H hG ?_
    cases hn : numsL w.data.toList m r.data.toList with
    | none => exact h1 ⟨hn⟩
    | some ns => exact h2 ns ⟨hn⟩
  · cases h
/-- where a function returns that leaves no objects behind -/
def RetS (rs : List ARes) (n : Nat) (Kk : AV → AHeap → Prop) (e : Env) (H : AHeap) : Prop := match aResL e H rs with
  | none => False
  | some vs => match Nat.ble H.length n with
    | true => Kk (aTup vs) H
    | false => False
theorem RetS.p {rs : List ARes} {n : Nat} {Kk : AV → AHeap → Prop} {e : Env} {H : AHeap} (h : RetS rs n Kk e H) : RetP rs n Kk e H := by
  unfold RetS at h
  unfold RetP
  split at h
  · exact h.elim
  · rename_i vs hvs
    rw [hvs]
    simp only
    split at h
    · rename_i hb
      rw [List.take_of_length_le (Nat.le_of_ble_eq_true hb)]
      split <;> exact h
    · exact h.elim
def fcC (f : Frt) : List AV := [I f.fi.1, I f.fi.2, I f.la.1, I f.la.2, .ms 2 5 f.caps.length 0 f.caps.length, .ms 4 6 f.ords.length 0 f.ords.length]
def heapF (X1 X2 X3 X4 : AObj) (f : Frt) : AHeap := [X1, X2, X3, X4, .own 0 (fcC f), .own f.caps.length (f.caps.flatMap spC), .own f.ords.length (f.ords.flatMap orC)]
def stepS (f : Frt) (place : Nat) (row : List UInt8) : Option Frt := match place with
  | 0 => firstS row
  | _ + 1 => moreS f row
theorem flen {α : Type} {f : α → List AV} {k : Nat} (h : ∀ x, (f x).length = k) : ∀ l : List α, (l.flatMap f).length = l.length * k
  | [] => by simp
  | x :: l => by rw [List.flatMap_cons, List.length_append, h, flen h l, List.length_cons, Nat.add_mul, Nat.one_mul, Nat.add_comm]
theorem SubH.cs {x : AObj} {M H : AHeap} (h : SubH M H) : SubH (x :: M) (x :: H) := by
  cases x with
  | gone => exact h
  | raw g o es us => exact ⟨rfl, h⟩
  | own g c => cases c <;> exact ⟨rfl, h⟩
theorem SubH.c4 {x y z w : AObj} {M H : AHeap} (h : SubH M H) : SubH (x :: y :: z :: w :: M) (x :: y :: z :: w :: H) := h.cs.cs.cs.cs
set_option maxHeartbeats 2000000 in
theorem p37 (f : Frt) (place : Nat) (rb : ByteArray) {X1 X2 X3 X4 : AObj} (hG : Globs [X1, X2, X3, X4]) (hp : place ≤ 1000000) (hrow : rb.data.toList.length ≤ 1000000) (h0 : place = 0 → f.caps = [] ∧ f.ords = [])
    (hcl : f.caps.length ≤ 1000000) (hol : f.ords.length ≤ 1000000) {Kk : AV → AHeap → Prop} (h1 : ∀ g, stepS f place rb.data.toList = some g → Kk (B true) (heapF X1 X2 X3 X4 g)) (h2 : stepS f place rb.data.toList = none → Kk (B false) (heapF X1 X2 X3 X4 f)) :
    ACalls Tryz.prog 37 [.mp 4 0 0, I (iLen place), .lit (.string rb)] (heapF X1 X2 X3 X4 f) Kk := by
  obtain ⟨⟨a, b⟩, ⟨c, d⟩, cs, os⟩ := f
  simp only at h0 hcl hol
  unfold heapF fcC at h2 ⊢
  simp only at h2 ⊢
  obtain ⟨n1, hn1⟩ : ∃ n, n = cs.length := ⟨_, rfl⟩
  obtain ⟨n2, hn2⟩ : ∃ n, n = os.length := ⟨_, rfl⟩
  have hn2l := hn2
  obtain ⟨cc, hcc⟩ : ∃ n, n = cs.flatMap spC := ⟨_, rfl⟩
  obtain ⟨oc, hoc⟩ : ∃ n, n = os.flatMap orC := ⟨_, rfl⟩
  rw [← hn1, ← hn2, ← hcc, ← hoc] at h2 ⊢
  obtain ⟨ip, hip⟩ : ∃ i : Int, i = iLen place := ⟨_, rfl⟩
  rw [← hip]
  obtain ⟨A, hA⟩ : ∃ A, A = std := ⟨_, rfl⟩
  have hG7 : Globs [X1, X2, X3, X4, .own 0 [I a, I b, I c, I d, .ms 2 5 n1 0 n1, .ms 4 6 n2 0 n2], .own n1 cc, .own n2 oc] := hG.app [_, _, _]
  have hz : A.eq ip 0 = decide (place = 0) := by subst hA hip; simp only [std, iEq, iLen]; rw [Bool.eq_iff_iff]; simp
  refine go37 rfl (AGo.weaken (SGo_run (R := RetS _ 7 Kk) hA ⟨[5, 6], [1005, 1006, 2000004], [], (59, eNums) :: []⟩ .nil (.cons (eNums_ok p59) .nil) 200 fun T TD hT hTD => ?_) (fun _ _ _ h => RetS.p h) (by simp))
  cbv
  split <;> cbv
  · rename_i hq
    have hq : place = 0 := by have := hz.symm.trans hq; simpa using this
    subst hq
    obtain ⟨hc0, ho0⟩ := h0 rfl
    refine And.intro ⟨hG7, hrow, .inr rfl⟩ (And.intro (fun hn => ?_) fun ns hns => ?_)
    · cbv
      have hn : numsL seasonW 4 rb.data.toList = none := hn.eq
      refine h2 ?_
      simp only [stepS, firstS]
      rw [hn]
    · obtain ⟨x, y, z, w, rfl⟩ := hns.four
      have hn : numsL seasonW 4 rb.data.toList = some [x, y, z, w] := hns.eq
      have hi0 : A.ix 1 1 [I x, I y, I z, I w] 0 [I x] := by subst hA; exact ⟨rfl, by decide, _, rfl, rfl⟩
      have hi1 : A.ix 1 1 [I x, I y, I z, I w] 1 [I y] := by subst hA; exact ⟨rfl, by decide, _, rfl, rfl⟩
      have hi2 : A.ix 1 1 [I x, I y, I z, I w] 2 [I z] := by subst hA; exact ⟨rfl, by decide, _, rfl, rfl⟩
      have hi3 : A.ix 1 1 [I x, I y, I z, I w] 3 [I w] := by subst hA; exact ⟨rfl, by decide, _, rfl, rfl⟩
      cbv
      refine Exists.intro _ (And.intro hi0 ?_); cbv
      refine Exists.intro _ (And.intro hi1 ?_); cbv
      refine Exists.intro _ (And.intro hi2 ?_); cbv
      refine Exists.intro _ (And.intro hi3 ?_); cbv
      refine And.intro (by subst hA; exact .inr ⟨SubH.c4 (by simp [SubH]), trivial, by first | exact .inl rfl | exact .inr fun _ => SubH.c4 (by simp [SubH])⟩) ?_; cbv
      have hst := h1 ⟨(x, y), (z, w), [], []⟩ (by simp only [stepS, firstS]; rw [hn])
      subst hc0 ho0
      simp at hn1 hn2 hcc hoc
      subst hn1 hn2 hcc hoc
      exact hst
  · rename_i hq
    have hq : ¬ place = 0 := by have := hz.symm.trans hq; simpa using this
    obtain ⟨q, rfl⟩ : ∃ q, place = q + 1 := ⟨place - 1, by omega⟩
    have hmore : ∀ L, numsL capW 2 rb.data.toList = L → (L = none ∨ os ≠ []) → moreS ⟨(a, b), (c, d), cs, os⟩ rb.data.toList = match numsL orderW 4 rb.data.toList with
        | some [x, y, z, w] => some ⟨(a, b), (c, d), cs, os ++ [⟨x, y, z, w⟩]⟩
        | _ => none := by
      intro L hL hor
      unfold moreS
      rw [hL]
      rcases hor with rfl | hor
      · rfl
      · simp only
        split
        · exact absurd rfl hor
        · rfl
    refine And.intro ⟨hG7, hrow, .inl rfl⟩ (And.intro (fun hn => ?_) fun ns hns => ?_)
    · cbv
      have hmo := hmore _ hn.eq (.inl rfl)
      refine And.intro ⟨hG7, hrow, .inr rfl⟩ (And.intro (fun hn2 => ?_) fun ns hns2 => ?_)
      · cbv
        have hn2 : numsL orderW 4 rb.data.toList = none := hn2.eq
        refine h2 ?_
        simp only [stepS]
        rw [hmo, hn2]
      · obtain ⟨x4, y4, z4, w4, rfl⟩ := hns2.four
        have hn2 : numsL orderW 4 rb.data.toList = some [x4, y4, z4, w4] := hns2.eq
        have hj0 : A.ix 1 1 [I x4, I y4, I z4, I w4] 0 [I x4] := by subst hA; exact ⟨rfl, by decide, _, rfl, rfl⟩
        have hj1 : A.ix 1 1 [I x4, I y4, I z4, I w4] 1 [I y4] := by subst hA; exact ⟨rfl, by decide, _, rfl, rfl⟩
        have hj2 : A.ix 1 1 [I x4, I y4, I z4, I w4] 2 [I z4] := by subst hA; exact ⟨rfl, by decide, _, rfl, rfl⟩
        have hj3 : A.ix 1 1 [I x4, I y4, I z4, I w4] 3 [I w4] := by subst hA; exact ⟨rfl, by decide, _, rfl, rfl⟩
        cbv
        refine Exists.intro _ (And.intro hj0 ?_); cbv
        refine Exists.intro _ (And.intro hj1 ?_); cbv
        refine Exists.intro _ (And.intro hj2 ?_); cbv
        refine Exists.intro _ (And.intro hj3 ?_); cbv
        obtain ⟨o2, ho2⟩ : ∃ c2, c2 = oc ++ [I x4, I y4, I z4, I w4] := ⟨_, rfl⟩
        have happ : A.app 4 4 32 oc 0 n2 [.agg [I x4, I y4, I z4, I w4]] o2 (n2 + 1) := by subst hA; rw [ho2]; exact app_one (by rw [hoc, hn2l]; exact flen (f := orC) (k := 4) (fun _ => rfl) _) rfl (by omega)
        refine And.intro (by subst hA; rfl) (Exists.intro _ (Exists.intro _ (And.intro happ (And.intro rfl ?_)))); cbv
        refine And.intro (by subst hA; exact .inr ⟨SubH.c4 (by simp [SubH]), trivial, by first | exact .inl rfl | exact .inr fun _ => SubH.c4 (by simp [SubH])⟩) ?_; cbv
        have hst := h1 ⟨(a, b), (c, d), cs, os ++ [⟨x4, y4, z4, w4⟩]⟩ (by simp only [stepS]; rw [hmo, hn2])
        unfold heapF fcC at hst
        simp only [List.length_append, List.length_cons, List.length_nil, ← hn1, ← hn2l, List.flatMap_append, ← hcc, ← hoc] at hst
        rw [show oc ++ [(⟨x4, y4, z4, w4⟩ : Ord)].flatMap orC = o2 by rw [ho2]; rfl] at hst
        exact hst
    · obtain ⟨x, y, rfl⟩ := hns.two
      have hn : numsL capW 2 rb.data.toList = some [x, y] := hns.eq
      have hi0 : A.ix 1 1 [I x, I y] 0 [I x] := by subst hA; exact ⟨rfl, by decide, _, rfl, rfl⟩
      have hi1 : A.ix 1 1 [I x, I y] 1 [I y] := by subst hA; exact ⟨rfl, by decide, _, rfl, rfl⟩
      have hz2 : A.eq (A.len n2) 0 = decide (os = []) := by
        subst hA hn2; simp only [std, iEq, iLen]; rw [Bool.eq_iff_iff]; simp
      cbv
      refine And.intro (by subst hA; rfl) ?_; cbv
      split <;> cbv
      · rename_i hq2
        have hq2 : os = [] := by have := hz2.symm.trans hq2; simpa using this
        refine Exists.intro _ (And.intro hi0 ?_); cbv
        refine Exists.intro _ (And.intro hi1 ?_); cbv
        obtain ⟨c2, hc2⟩ : ∃ c2, c2 = cc ++ [I x, I y] := ⟨_, rfl⟩
        have happ : A.app 2 2 16 cc 0 n1 [.agg [I x, I y]] c2 (n1 + 1) := by subst hA; rw [hc2]; exact app_one (by rw [hcc, hn1]; exact flen (f := spC) (k := 2) (fun _ => rfl) _) rfl (by omega)
        refine And.intro (by subst hA; rfl) (Exists.intro _ (Exists.intro _ (And.intro happ (And.intro rfl ?_)))); cbv
        refine And.intro (by subst hA; exact .inr ⟨SubH.c4 (by simp [SubH]), trivial, by first | exact .inl rfl | exact .inr fun _ => SubH.c4 (by simp [SubH])⟩) ?_; cbv
        have hst := h1 ⟨(a, b), (c, d), cs ++ [(x, y)], os⟩ (by simp only [stepS, moreS]; rw [hn]; subst hq2; rfl)
        unfold heapF fcC at hst
        simp only [List.length_append, List.length_cons, List.length_nil, ← hn1, ← hn2, List.flatMap_append, ← hcc, ← hoc] at hst
        rw [show cc ++ [(x, y)].flatMap spC = c2 by rw [hc2]; rfl] at hst
        exact hst
      · rename_i hq2
        have hq2 : os ≠ [] := by have := hz2.symm.trans hq2; simpa using this
        have hmo := hmore _ hn (.inr hq2)
        refine And.intro ⟨hG7, hrow, .inr rfl⟩ (And.intro (fun hn2 => ?_) fun ns hns2 => ?_)
        · cbv
          have hn2 : numsL orderW 4 rb.data.toList = none := hn2.eq
          refine h2 ?_
          simp only [stepS]
          rw [hmo, hn2]
        · obtain ⟨x4, y4, z4, w4, rfl⟩ := hns2.four
          have hn2 : numsL orderW 4 rb.data.toList = some [x4, y4, z4, w4] := hns2.eq
          have hj0 : A.ix 1 1 [I x4, I y4, I z4, I w4] 0 [I x4] := by subst hA; exact ⟨rfl, by decide, _, rfl, rfl⟩
          have hj1 : A.ix 1 1 [I x4, I y4, I z4, I w4] 1 [I y4] := by subst hA; exact ⟨rfl, by decide, _, rfl, rfl⟩
          have hj2 : A.ix 1 1 [I x4, I y4, I z4, I w4] 2 [I z4] := by subst hA; exact ⟨rfl, by decide, _, rfl, rfl⟩
          have hj3 : A.ix 1 1 [I x4, I y4, I z4, I w4] 3 [I w4] := by subst hA; exact ⟨rfl, by decide, _, rfl, rfl⟩
          cbv
          refine Exists.intro _ (And.intro hj0 ?_); cbv
          refine Exists.intro _ (And.intro hj1 ?_); cbv
          refine Exists.intro _ (And.intro hj2 ?_); cbv
          refine Exists.intro _ (And.intro hj3 ?_); cbv
          obtain ⟨o2, ho2⟩ : ∃ c2, c2 = oc ++ [I x4, I y4, I z4, I w4] := ⟨_, rfl⟩
          have happ : A.app 4 4 32 oc 0 n2 [.agg [I x4, I y4, I z4, I w4]] o2 (n2 + 1) := by subst hA; rw [ho2]; exact app_one (by rw [hoc, hn2l]; exact flen (f := orC) (k := 4) (fun _ => rfl) _) rfl (by omega)
          refine And.intro (by subst hA; rfl) (Exists.intro _ (Exists.intro _ (And.intro happ (And.intro rfl ?_)))); cbv
          refine And.intro (by subst hA; exact .inr ⟨SubH.c4 (by simp [SubH]), trivial, by first | exact .inl rfl | exact .inr fun _ => SubH.c4 (by simp [SubH])⟩) ?_; cbv
          have hst := h1 ⟨(a, b), (c, d), cs, os ++ [⟨x4, y4, z4, w4⟩]⟩ (by simp only [stepS]; rw [hmo, hn2])
          unfold heapF fcC at hst
          simp only [List.length_append, List.length_cons, List.length_nil, ← hn1, ← hn2l, List.flatMap_append, ← hcc, ← hoc] at hst
          rw [show oc ++ [(⟨x4, y4, z4, w4⟩ : Ord)].flatMap orC = o2 by rw [ho2]; rfl] at hst
          exact hst
end Go.Sas
