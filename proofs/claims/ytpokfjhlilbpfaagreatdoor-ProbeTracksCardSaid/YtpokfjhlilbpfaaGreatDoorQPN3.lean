/-
Radar files: what is read of a text: contract of the program's function.
Conditions: none.
-/
import Derived.Test.YtpokfjhlilbpfaaGreatDoorQSN1
import Derived.Test.YtpokfjhlilbpfaaGreatDoorXCg
import Derived.Test.YtpokfjhlilbpfaaGreatDoorQPC1
import Derived.Test.YtpokfjhlilbpfaaGreatDoorP8g
set_option linter.unusedVariables false
set_option linter.unusedSimpArgs false
namespace Go.Sas
open Go.Proofs
set_option maxRecDepth 100000
structure NumsPre (H : AHeap) (r w : ByteArray) (n : Int) : Prop where
  glob : Globs H
  len : r.data.toList.length ≤ 1000000
  two : n = 2 ∨ n = 4
structure NumsNo (r w : ByteArray) (n : Int) : Prop where
  eq : numsL w.data.toList n.toNat r.data.toList = none
structure NumsOk (r w : ByteArray) (n : Int) (ns : List Int) : Prop where
  eq : numsL w.data.toList n.toNat r.data.toList = some ns
theorem NumsOk.two {r w : ByteArray} {ns : List Int} (h : NumsOk r w 2 ns) : ∃ a b, ns = [a, b] := by
  have := (row_nums h.eq).2.1
  match ns, this with
  | [a, b], _ => exact ⟨a, b, rfl⟩
theorem NumsOk.four {r w : ByteArray} {ns : List Int} (h : NumsOk r w 4 ns) : ∃ a b c d, ns = [a, b, c, d] := by
  have := (row_nums h.eq).2.1
  match ns, this with
  | [a, b, c, d], _ => exact ⟨a, b, c, d, rfl⟩
def eNums : List AV → AHeap → Option PT
  | [.lit (.string r), .lit (.string w), .lit (.int .i64 n)], H => some fun K => NumsPre H r w n ∧ (NumsNo r w n → K (.tup [.lit (.slice none 0 0), B false]) H) ∧ ∀ ns : List Int, NumsOk r w n ns → K (.tup [.vs 1 (ns.map I), B true]) H
  | _, _ => none
theorem eNums_ok {f : Nat} (hf : ∀ (rb wb : ByteArray) (many : Nat) (_ : 1 ≤ many ∧ many ≤ 10) (_ : rb.data.toList.length ≤ 1000000) (H : AHeap) (_ : Globs H) {Kk : AV → AHeap → Prop}, Kk (numsA (numsL wb.data.toList many rb.data.toList)) H → ACalls Tryz.prog f [.lit (.string rb), .lit (.string wb), I (iLen many)] H Kk) :
    ∀ args H pt, eNums args H = some pt → ∀ (Kk : AV → AHeap → Prop), pt Kk → ACalls Tryz.prog f args H Kk := by
  intro args H pt h Kk hk
  unfold eNums at h
  split at h
  · rename_i r w n
    cases h
    obtain ⟨⟨hG, hs, ht⟩, h1, h2⟩ := hk
    obtain ⟨m, hm, rfl⟩ : ∃ m : Nat, (1 ≤ m ∧ m ≤ 10) ∧ n = iLen m := by
      rcases ht with rfl | rfl
      · exact ⟨2, by omega, rfl⟩
      · exact ⟨4, by omega, rfl⟩
    refine hf r w m hm hs H hG ?_
    cases hn : numsL w.data.toList m r.data.toList with
    | none => exact h1 ⟨hn⟩
    | some ns => exact h2 ns ⟨hn⟩
  · cases h
theorem flen {α : Type} {f : α → List AV} {k : Nat} (h : ∀ x, (f x).length = k) : ∀ l : List α, (l.flatMap f).length = l.length * k
  | [] => by simp
  | x :: l => by rw [List.flatMap_cons, List.length_append, h, flen h l, List.length_cons, Nat.add_mul, Nat.one_mul, Nat.add_comm]
theorem SubH.cs {x : AObj} {M H : AHeap} (h : SubH M H) : SubH (x :: M) (x :: H) := by
  cases x with
  | gone => exact h
  | raw g o es us => exact ⟨rfl, h⟩
  | own g c => cases c <;> exact ⟨rfl, h⟩
theorem SubH.c4 {x y z w : AObj} {M H : AHeap} (h : SubH M H) : SubH (x :: y :: z :: w :: M) (x :: y :: z :: w :: H) := h.cs.cs.cs.cs
theorem Frees.weak {m : Nat} {Kk : AV → AHeap → Prop} {r : AV} {H : AHeap} (q : Nat) {gg : Nat} {cs : List AV} (hX : H[q]? = some (.own gg cs)) (h : Frees m Kk r (H.set q (.own gg []))) : Frees m Kk r H :=
  fun st0 w0 st w v hm he hH hr => h st0 w0 st w v hm he (hH.weak hX) hr
abbrev ecC (e : Ech) : List AV := [I e.p, I e.h, I e.lo, I e.hi]
def tkA (t : Trk) : AV := tkV t.sp.1 t.sp.2 (.vs 4 (t.ec.map ecV))
def readA (r : Trk × Int × Int) : AV := .tup [tkA r.1, I r.2.1, I r.2.2]
def heapT (X1 X2 X3 X4 : AObj) (t : Trk) : AHeap := [X1, X2, X3, X4, .own 0 [I t.sp.1, I t.sp.2, .ms 4 5 t.ec.length 0 t.ec.length], .own t.ec.length (t.ec.flatMap ecC)]
theorem wk_zero {b c : Int} : Wk (.tup [.agg [I 0, I 0, .lit (.slice none 0 0)], I b, I c]) (readA (trk0, b, c)) :=
  Wk.tup ⟨Wk.agg ⟨Wk.rfl, Wk.rfl, Wk.nil, trivial⟩, Wk.rfl, Wk.rfl, trivial⟩
theorem nidL_ec (l : List Ech) : AV.nidL (l.flatMap ecC) = true := by
  induction l with
  | nil => rfl
  | cons x l ih => simpa [AV.nidL, AV.nid, List.flatMap_cons] using ih
theorem Elems_ec (l : List Ech) : Elems 4 (l.map ecV) (l.flatMap ecC) := Elems_map (f := ecV) (g := ecC) (sz := 4) (fun _ => rfl) (fun _ => rfl) (fun _ => rfl) l
theorem tk_frees {X1 X2 X3 X4 : AObj} (hG : Globs [X1, X2, X3, X4]) {a b u v : Int} {es : List Ech} {n g : Nat} {ec tc : List AV} (h1 : n = es.length) (h3 : ec = es.flatMap ecC)
    {Kk : AV → AHeap → Prop} (h : Kk (readA (⟨(a, b), es⟩, u, v)) [X1, X2, X3, X4]) :
    Frees 4 Kk (.tup [.agg [I a, I b, .ms 4 5 n 0 n], I u, I v]) [X1, X2, X3, X4, .own g tc, .own n ec] := by
  obtain ⟨_, _, _, _, _, e, _, g2, m2, o2, g3, o3, g4, o4, e1, e2, e3, e4⟩ := hG.split
  cases e
  subst e1 e2 e3 e4
  have hE1 : Elems 4 (es.map ecV) ec := by rw [h3]; exact Elems_ec es
  have hx1 : AV.nidL ec = true := by rw [h3]; exact nidL_ec _
  have l1 : (es.map ecV).take n = es.map ecV := List.take_of_length_le (by simp [h1])
  clear h3
  obtain ⟨xs, hxs⟩ : ∃ z, z = es.map ecV := ⟨_, rfl⟩
  have k1 : n ≤ xs.length := by rw [hxs]; simp [h1]
  unfold readA tkA at h
  simp only at h
  rw [← hxs] at hE1 l1 h
  refine Frees.weak 4 rfl (Frees.frz 5 n 4 xs rfl hE1 ?_)
  have hnid : (AV.tup [tkV a b (.vs 4 xs), I u, I v]).nid = true := by simp [AV.nid, AV.nidL]
  have := Frees.self (m := 4) (Kk := Kk) (H := [.own 0 [], rawT 1 g2 m2 o2, rawG 2 g3 o3, rawG 3 g4 o4]) (T := [.own g [], .gone]) rfl hnid (Globs.ltH hG) h
  have e1 : frzH 5 n 4 xs (([.own 0 [], rawT 1 g2 m2 o2, rawG 2 g3 o3, rawG 3 g4 o4, .own g [], .own n ec] : AHeap).set 5 .gone) = [.own 0 [], rawT 1 g2 m2 o2, rawG 2 g3 o3, rawG 3 g4 o4] ++ [.own g [], .gone] := by
    simp [frzH, AObj.frz, AV.frzL, AV.frz, rawG, rawT]
  have e2 : AV.frz 5 n 4 xs (.tup [.agg [I a, I b, .ms 4 5 n 0 n], I u, I v]) = .tup [.agg [I a, I b, .vs 4 xs], I u, I v] := by
    simp [AV.frzL, AV.frz, l1, k1]
  show Frees 4 Kk (AV.frz 5 n 4 xs _) (frzH 5 n 4 xs (([.own 0 [], rawT 1 g2 m2 o2, rawG 2 g3 o3, rawG 3 g4 o4, .own g [], .own n ec] : AHeap).set 5 .gone))
  rw [e1, e2]
  exact this
def eCheckT : List AV → Option ((AV → Prop) → Prop)
  | [.agg [.lit (.int .i64 a), .lit (.int .i64 b), .vs 4 xs]] => some fun K => ∃ es : List Ech, xs = es.map ecV ∧ es.length ≤ 9223372036854775807 ∧ ∀ q, q = checkT ⟨(a, b), es⟩ → K (I q)
  | _ => none
theorem eCheckT_ok {f : Nat} (hf : ∀ (t : Trk) (_ : t.ec.length ≤ 9223372036854775807) (H : AHeap) {Kk : AV → AHeap → Prop}, Kk (I (checkT t)) H → ACalls Tryz.prog f [tkV t.sp.1 t.sp.2 (.vs 4 (t.ec.map ecV))] H Kk) :
    ∀ args pt, eCheckT args = some pt → ∀ (H : AHeap) (Kk : AV → AHeap → Prop), pt (fun r => Kk r H) → ACalls Tryz.prog f args H Kk := by
  intro args pt h H Kk hk
  unfold eCheckT at h
  split at h
  · cases h
    obtain ⟨es, rfl, h1, h2⟩ := hk
    exact hf ⟨(_, _), es⟩ h1 H (h2 _ rfl)
  · cases h
set_option maxHeartbeats 4000000 in
theorem p9 (tb : ByteArray) (H : AHeap) (hGH : Globs H) {Kk : AV → AHeap → Prop} (h : Kk (readA (readK tb.data.toList)) H) : ACalls Tryz.prog 9 [.lit (.string tb)] H Kk := by
  refine liftG hGH rfl (by simp [readA, tkA, AV.nid, AV.nidL]) ?_ h
  clear h hGH
  intro X1 X2 X3 X4 hG Kk h
  refine ACalls.frees ?_
  obtain ⟨W, hW⟩ : ∃ W, W = readK tb.data.toList := ⟨_, rfl⟩
  rw [← hW] at h
  obtain ⟨A, hA⟩ : ∃ A, A = std := ⟨_, rfl⟩
  obtain ⟨F, hF⟩ : ∃ F, F = Frees 4 Kk := ⟨_, rfl⟩
  refine go9 rfl (AGo.weaken (SGo_run (R := RetH _ [X1, X2, X3, X4] F) hA ⟨[5], [1005, 2000004], [], (33, eSplit) :: (34, eNums) :: (27, eMut eCheckT) :: []⟩ .nil (.cons eSplit_ok (.cons (eNums_ok p34) (.cons (eMut_ok (eCheckT_ok p27)) .nil))) 200 fun T TD hT hTD => ?_) (fun _ _ _ h => by rw [hF] at h; exact RetH.p hG.ltH h) (by simp))
  have hzero : ∀ b c, W = (trk0, b, c) → F (.tup [.agg [I 0, I 0, .lit (.slice none 0 0)], I b, I c]) [X1, X2, X3, X4] := fun b c hw => by
    rw [hw] at h; rw [hF]; exact Frees.wk wk_zero (Frees.now h)
  cbv
  split <;> cbv
  · rename_i hq
    have hq : 20000 < tb.data.toList.length := by
      subst hA; clear hW; revert hq; rcases tb with ⟨⟨l⟩⟩
      cases l <;> simp [std, iLt, iLen] <;> omega
    exact hzero 0 5 (by rw [hW]; unfold readK readT; rw [if_pos hq])
  rename_i hq
  have hq : ¬ 20000 < tb.data.toList.length := by
    subst hA; clear hW; revert hq; rcases tb with ⟨⟨l⟩⟩
    cases l <;> simp [std, iLt, iLen] <;> omega
  refine And.intro ⟨hG.app [_], by omega, _, rfl⟩ fun xs hxs => ?_
  have hxs : xs = (splitL 10 tb.data.toList).map strA := hxs.eq 10 rfl
  obtain ⟨rs, lst, hsp⟩ : ∃ rs lst, splitL 10 tb.data.toList = rs ++ [lst] := ⟨_, _, (List.dropLast_concat_getLast (splitL_ne _)).symm⟩
  have hlens : rs.length ≤ 20000 := by
    have := splitL_len (c := 10) tb.data.toList
    rw [hsp] at this
    have h2 := List.count_le_length (a := (10 : UInt8)) (l := tb.data.toList)
    rw [List.length_append, List.length_singleton] at this
    generalize List.count 10 tb.data.toList = q at this h2
    omega
  have hparts : ∀ x ∈ rs, x.length ≤ 1000000 := fun x hx => by
    have := splitL_part (c := 10) (l := tb.data.toList) (x := x) (by rw [hsp]; exact List.mem_append_left _ hx)
    omega
  rw [hsp] at hxs
  have hsub : A.sub .i64 (A.vlen xs) 1 = iLen rs.length := by
    subst hA; rw [hxs]; simp only [std]
    show iSub .i64 (iLen _) 1 = _
    unfold iLen
    rw [iSub_id] <;> simp <;> omega
  obtain ⟨ys, hys⟩ : ∃ ys : List AV, ys = rs.map strA := ⟨_, rfl⟩
  have hsl : A.slv 1 1 xs none (some (A.sub .i64 (A.vlen xs) 1)) ys := by
    rw [hsub]; subst hA; rw [hxs, hys]
    refine ⟨rfl, 0, rs.length, rfl, by simp [bdI, iLen], by omega, by simp, ?_⟩
    simp
  cbv
  refine Exists.intro ys (And.intro hsl ?_); cbv
  rw [hT]
  refine AGo_nilcell 4 2 4 rfl rfl ?_
  have hWt : W = if (takeT trk0 0 rs).2 ≠ 0 then (trk0, ((takeT trk0 0 rs).2 : Int), 3) else if rs.length = 0 ∨ lst ≠ [] then (trk0, ((rs.length + 1 : Nat) : Int), 3) else if checkT (takeT trk0 0 rs).1 ≠ 0 then (trk0, 0, checkT (takeT trk0 0 rs).1) else ((takeT trk0 0 rs).1, 0, 0) := by
    rw [hW]; unfold readK readT
    rw [if_neg hq]
    simp only [hsp, List.dropLast_concat, List.length_append, List.length_singleton, List.getLast?_concat]
    simp
  refine AGo_upE [2, 5, 6, 25, 26] rs.length (fun j (t : Trk) => takeT trk0 0 rs = takeT t j (rs.drop j) ∧ t.ec.length ≤ j) (fun _ _ i => [(27, I i)]) (fun _ t => heapT X1 X2 X3 X4 t) trk0 ⟨rfl, Nat.le_refl _⟩ ⟨rfl, trivial⟩ (.inl rfl) fun j t i hi hj hP Bk hB => ?_
  obtain ⟨hT0, hel⟩ := hP
  have hlt : A.lt i (A.vlen ys) = decide (j < rs.length) := by subst hA; exact lt_len (by simp [hys]) hi
  have hadd : ∀ N, j < N → N ≤ 9223372036854775807 → A.add .i64 i 1 = iLen (j + 1) := fun N hj hN => by subst hA; exact add_one hi hj hN
  obtain ⟨⟨a, b⟩, es⟩ := t
  simp only at hel
  unfold heapT
  simp only
  obtain ⟨n1, hn1⟩ : ∃ n, n = es.length := ⟨_, rfl⟩
  have hn1l := hn1
  obtain ⟨cc, hcc⟩ : ∃ n, n = es.flatMap ecC := ⟨_, rfl⟩
  rw [← hn1, ← hcc]
  have hG6 : Globs [X1, X2, X3, X4, .own 0 [I a, I b, .ms 4 5 n1 0 n1], .own n1 cc] := hG.app [_, _]
  have hz : A.eq i 0 = decide (j = 0) := by subst hA; rw [hi]; simp only [std, iEq, iLen]; rw [Bool.eq_iff_iff]; simp
  refine SGo_run hA ⟨[5], [1005, 2000004], [], (33, eSplit) :: (34, eNums) :: (27, eMut eCheckT) :: []⟩ .nil (.cons eSplit_ok (.cons (eNums_ok p34) (.cons (eMut_ok (eCheckT_ok p27)) .nil))) 200 fun T TD hT hTD => ?_
  cbv
  split <;> cbv
  · rename_i hk1
    have hlt1 : j < rs.length := by have := hlt.symm.trans hk1; simpa using this
    obtain ⟨x, hx⟩ : ∃ x, rs[j]? = some x := ⟨_, List.getElem?_eq_getElem hlt1⟩
    obtain ⟨t, ht⟩ : ∃ t, t = bA x := ⟨_, rfl⟩
    have htd : t.data.toList = x := by rw [ht, bA_data]
    have hxl := hparts x (List.mem_of_getElem? hx)
    have hix2 : A.ix 1 1 ys i [.lit (.string t)] := by subst hA; exact ix_map hys hi hx (by rw [ht]; rfl)
    have hadd := hadd rs.length hlt1 (by omega)
    have hbn0 : A.bnot false = true := by subst hA; rfl
    have hbn1 : A.bnot true = false := by subst hA; rfl
    have hdr := drop_cons hx
    rw [hdr] at hT0
    simp only [takeT] at hT0
    refine Exists.intro _ (And.intro hix2 ?_); cbv
    split <;> cbv
    · rename_i hq0
      have hq0 : j = 0 := by have := hz.symm.trans hq0; simpa using this
      subst hq0
      refine And.intro ⟨hG6, by rw [htd]; exact hxl, .inl rfl⟩ (And.intro (fun hno => ?_) fun ns hns => ?_)
      · have hno : numsL radarW 2 t.data.toList = none := hno.eq
        rw [htd] at hno
        simp only [stepT, hno] at hT0
        cbv
        split <;> cbv
        · exact hzero 1 3 (by rw [hWt, hT0]; simp)
        · rename_i hq2
          exact absurd (hbn0.symm.trans hq2) (by decide)
      · obtain ⟨u, v, rfl⟩ := hns.two
        have hn : numsL radarW 2 t.data.toList = some [u, v] := hns.eq
        rw [htd] at hn
        simp only [stepT, hn] at hT0
        have hi0 : A.ix 1 1 [I u, I v] 0 [I u] := by subst hA; exact ⟨rfl, by decide, _, rfl, rfl⟩
        have hi1 : A.ix 1 1 [I u, I v] 1 [I v] := by subst hA; exact ⟨rfl, by decide, _, rfl, rfl⟩
        cbv
        split
        · rename_i hq2
          exact absurd (hbn1.symm.trans hq2) (by decide)
        cbv
        refine Exists.intro _ (And.intro hi0 ?_); cbv
        refine Exists.intro _ (And.intro hi1 ?_); cbv
        refine hB ⟨(u, v), es⟩ _ _ hlt1 ⟨hT0, by simp only; omega⟩ ⟨congrArg I hadd, trivial⟩ ⟨rfl, rfl, rfl, rfl, rfl, trivial⟩ (.inl ?_)
        rw [hcc, hn1]; rfl
    · rename_i hq0
      have hq0 : ¬ j = 0 := by have := hz.symm.trans hq0; simpa using this
      obtain ⟨jj, rfl⟩ : ∃ q, j = q + 1 := ⟨j - 1, by omega⟩
      refine And.intro ⟨hG6, by rw [htd]; exact hxl, .inr rfl⟩ (And.intro (fun hno => ?_) fun ns hns => ?_)
      · have hno : numsL echoW 4 t.data.toList = none := hno.eq
        rw [htd] at hno
        simp only [stepT, hno] at hT0
        cbv
        split <;> cbv
        · have := hzero (A.add .i64 i 1) 3 (by rw [hadd, hWt, hT0]; simp [iLen])
          exact this
        · rename_i hq2
          exact absurd (hbn0.symm.trans hq2) (by decide)
      · obtain ⟨u, v, z, w, rfl⟩ := hns.four
        have hn : numsL echoW 4 t.data.toList = some [u, v, z, w] := hns.eq
        rw [htd] at hn
        simp only [stepT, hn] at hT0
        have hj0 : A.ix 1 1 [I u, I v, I z, I w] 0 [I u] := by subst hA; exact ⟨rfl, by decide, _, rfl, rfl⟩
        have hj1 : A.ix 1 1 [I u, I v, I z, I w] 1 [I v] := by subst hA; exact ⟨rfl, by decide, _, rfl, rfl⟩
        have hj2 : A.ix 1 1 [I u, I v, I z, I w] 2 [I z] := by subst hA; exact ⟨rfl, by decide, _, rfl, rfl⟩
        have hj3 : A.ix 1 1 [I u, I v, I z, I w] 3 [I w] := by subst hA; exact ⟨rfl, by decide, _, rfl, rfl⟩
        obtain ⟨o2, ho2⟩ : ∃ c2, c2 = cc ++ [I u, I v, I z, I w] := ⟨_, rfl⟩
        have happ : A.app 4 4 32 cc 0 n1 [.agg [I u, I v, I z, I w]] o2 (n1 + 1) := by subst hA; rw [ho2]; exact app_one (by rw [hcc, hn1l]; exact flen (f := ecC) (k := 4) (fun _ => rfl) _) rfl (by omega)
        cbv
        split
        · rename_i hq2
          exact absurd (hbn1.symm.trans hq2) (by decide)
        cbv
        refine Exists.intro _ (And.intro hj0 ?_); cbv
        refine Exists.intro _ (And.intro hj1 ?_); cbv
        refine Exists.intro _ (And.intro hj2 ?_); cbv
        refine Exists.intro _ (And.intro hj3 ?_); cbv
        refine And.intro (by subst hA; rfl) (Exists.intro _ (Exists.intro _ (And.intro happ (And.intro rfl ?_)))); cbv
        refine And.intro (by subst hA; exact .inr ⟨SubH.c4 (by simp [SubH]), trivial, by first | exact .inl rfl | exact .inr fun _ => SubH.c4 (by simp [SubH])⟩) ?_; cbv
        refine hB ⟨(a, b), es ++ [⟨u, v, z, w⟩]⟩ _ _ hlt1 ⟨hT0, by simp only [List.length_append, List.length_singleton]; omega⟩ ⟨congrArg I hadd, trivial⟩ ⟨rfl, rfl, rfl, rfl, rfl, trivial⟩ (.inl ?_)
        unfold heapT
        simp only [List.length_append, List.length_singleton, List.flatMap_append, ← hcc, ← hn1]
        rw [show cc ++ [(⟨u, v, z, w⟩ : Ech)].flatMap ecC = o2 by rw [ho2]; rfl]
  · rename_i hk1
    have hk1 : ¬ j < rs.length := by have := hlt.symm.trans hk1; simpa using this
    rw [List.drop_eq_nil_of_le (by omega)] at hT0
    have hz0 : A.eq (A.sub .i64 (A.vlen xs) 1) 0 = decide (rs.length = 0) := by
      rw [hsub]; subst hA; simp only [std, iEq, iLen]; rw [Bool.eq_iff_iff]; simp
    have hadd1 : A.add .i64 (A.sub .i64 (A.vlen xs) 1) 1 = iLen (rs.length + 1) := by
      rw [hsub]; subst hA; exact add_one (N := rs.length + 1) rfl (by omega) (by omega)
    have hix3 : A.ix 1 1 xs (A.sub .i64 (A.vlen xs) 1) [.lit (.string (bA lst))] := by
      rw [hsub]; subst hA; rw [hxs]
      exact ⟨rfl, Int.natCast_nonneg _, strA lst, by simp [iLen], rfl⟩
    obtain ⟨tl, htl⟩ : ∃ t, t = bA lst := ⟨_, rfl⟩
    rw [← htl] at hix3
    have hsq : A.bnot (A.seq tl ⟨[].toArray⟩) = decide (lst ≠ []) := by
      subst hA htl; simp only [std]
      rw [Bool.eq_iff_iff]
      simp only [Bool.not_eq_true', decide_eq_true_eq, ne_eq]
      rw [← Bool.not_eq_true, seq_iff, bA_data]
    have hT1 : takeT trk0 0 rs = (⟨(a, b), es⟩, 0) := by rw [hT0]; cases j <;> rfl
    rw [hT1] at hWt
    simp only [ne_eq, not_true_eq_false, if_false] at hWt
    split <;> cbv
    · rename_i hq1
      have hq1 : rs.length = 0 := by have := hz0.symm.trans hq1; simpa using this
      have := hzero (A.add .i64 (A.sub .i64 (A.vlen xs) 1) 1) 3 (by rw [hadd1, hWt, if_pos (.inl hq1)]; rfl)
      exact this
    rename_i hq1
    have hq1 : ¬ rs.length = 0 := by have := hz0.symm.trans hq1; simpa using this
    refine Exists.intro _ (And.intro hix3 ?_); cbv
    split <;> cbv
    · rename_i hq2
      have hq2 : lst ≠ [] := by have := hsq.symm.trans hq2; simpa using this
      have := hzero (A.add .i64 (A.sub .i64 (A.vlen xs) 1) 1) 3 (by rw [hadd1, hWt, if_pos (.inr hq2)]; rfl)
      exact this
    rename_i hq2
    have hq2 : lst = [] := by have := hsq.symm.trans hq2; simpa using this
    rw [if_neg (by rintro (h | h); exact hq1 h; exact h hq2)] at hWt
    have hE2 : Elems 4 (es.map ecV) cc := by rw [hcc]; exact Elems_ec es
    obtain ⟨zo, hzo⟩ : ∃ z, z = es.map ecV := ⟨_, rfl⟩
    rw [← hzo] at hE2
    refine Exists.intro zo (And.intro ⟨rfl, hE2, by rw [hzo, hn1]; simp⟩ ?_); cbv
    refine Exists.intro es (And.intro hzo (And.intro (by omega) ?_))
    intro q hqe; cbv
    have hne : A.ne q 0 = decide (q ≠ 0) := by subst hA; simp only [std, iNe]; rw [Bool.eq_iff_iff]; simp
    split <;> cbv
    · rename_i hq3
      have hq3 : q ≠ 0 := by have := hne.symm.trans hq3; simpa using this
      exact hzero 0 q (by rw [hWt, ← hqe, if_pos hq3])
    rename_i hq3
    have hq3 : ¬ q ≠ 0 := by have := hne.symm.trans hq3; simpa using this
    rw [← hqe, if_neg hq3] at hWt
    rw [hWt] at h
    rw [hF]
    exact tk_frees hG hn1 hcc h
end Go.Sas
