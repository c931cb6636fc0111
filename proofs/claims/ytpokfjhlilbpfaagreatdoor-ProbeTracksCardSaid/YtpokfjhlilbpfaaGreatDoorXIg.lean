/-
Radar files: the reference's check of a track, its rows and its file: contracts.
Radar files: what is read of a text: contract of the reference's function.
Conditions: none.
-/
import Derived.Test.YtpokfjhlilbpfaaGreatDoorXHg
import Derived.Test.YtpokfjhlilbpfaaGreatDoorQPT1
import Derived.Test.YtpokfjhlilbpfaaGreatDoorXJg
set_option linter.unusedVariables false
set_option linter.unusedSimpArgs false
namespace Go.Sas
open Go.Proofs
set_option maxRecDepth 100000
set_option maxHeartbeats 1000000 in
theorem p35 (t : Trk) (hl : t.ec.length ≤ 9223372036854775807) (H : AHeap) {Kk : AV → AHeap → Prop} (h : Kk (I (checkT t)) H) : ACalls Tryz.prog 35 [tkV t.sp.1 t.sp.2 (.vs 4 (t.ec.map ecV))] H Kk := by
  refine (fun q => pureC (by rfl) (by rfl) q H h) ?_
  clear h
  intro Kk h
  obtain ⟨⟨s1, s2⟩, l⟩ := t
  dsimp only at hl h ⊢
  obtain ⟨ys, hys⟩ : ∃ ys, ys = l.map ecV := ⟨_, rfl⟩
  rw [← hys]
  obtain ⟨W, hW⟩ : ∃ W, W = checkT ⟨(s1, s2), l⟩ := ⟨_, rfl⟩
  rw [← hW] at h
  have hW1 : ¬ ((1 ≤ s1 ∧ s1 ≤ 1000) ∧ (1 ≤ s2 ∧ s2 ≤ 1000)) → W = 2 := fun hh => by rw [hW]; unfold checkT; rw [if_pos hh]
  have hW2 : ((1 ≤ s1 ∧ s1 ≤ 1000) ∧ (1 ≤ s2 ∧ s2 ≤ 1000)) → s2 < s1 → W = 11 := fun hh h2 => by rw [hW]; unfold checkT; rw [if_neg (Decidable.not_not.2 hh), if_pos h2]
  have hW3 : ((1 ≤ s1 ∧ s1 ≤ 1000) ∧ (1 ≤ s2 ∧ s2 ≤ 1000)) → ¬ s2 < s1 → 200 < l.length → W = 8 := fun hh h2 h3 => by rw [hW]; unfold checkT; rw [if_neg (Decidable.not_not.2 hh), if_neg h2, if_pos h3]
  have hW4 : ((1 ≤ s1 ∧ s1 ≤ 1000) ∧ (1 ≤ s2 ∧ s2 ≤ 1000)) → ¬ s2 < s1 → ¬ 200 < l.length → W = firstE echE l := fun hh h2 h3 => by rw [hW]; unfold checkT; rw [if_neg (Decidable.not_not.2 hh), if_neg h2, if_neg h3]
  clear hW
  obtain ⟨A, hA⟩ : ∃ A, A = std := ⟨_, rfl⟩
  have hv : A.lt 200 (A.vlen ys) = decide (200 < l.length) := by subst hA; simp only [std, iLt, hys, List.length_map, iLen]; rw [decide_eq_decide]; omega
  have hls : A.lt s2 s1 = decide (s2 < s1) := by subst hA; rfl
  have hbn : ∀ b, A.bnot b = !b := by subst hA; intro b; rfl
  refine go35 rfl (SGo_run hA ⟨[], [], (53, eIn) :: [], []⟩ (.cons (eIn_ok p53) .nil) .nil 200 fun T TD hT hTD => ?_)
  cbv
  repeat' (first | (intro qq hfq; cbv) | (split <;> cbv))
  all_goals try
    refine leaf h (congrArg I ?_) rfl
    clear hT hTD hA hys h hW4
    simp only [hv, hls, hbn] at *
    subst_vars
    simp only [Bool.not_eq_true', Bool.not_eq_false', decide_eq_true_eq, decide_eq_false_iff_not] at *
    first | exact hW1 (by omega) | exact hW2 (by omega) (by omega) | exact hW3 (by omega) (by omega) (by omega)
  rename_i q1 hf1 b1 he1 b2 he2 b3 he3 b4 he4
  have e1 : 1 ≤ s1 ∧ s1 ≤ 1000 := by rw [hbn, hf1] at he1; simpa using he1
  have e2 : 1 ≤ s2 ∧ s2 ≤ 1000 := by rw [hbn, hfq] at he2; simpa using he2
  have e3 : ¬ s2 < s1 := by rw [hls] at he3; simpa using he3
  have e4 : ¬ 200 < l.length := by rw [hv] at he4; simpa using he4
  have hW := hW4 ⟨e1, e2⟩ e3 e4
  clear hW1 hW2 hW3 hW4 he1 he2 he3 he4 hf1 hfq hv hls
  rw [hT]
  refine AGo_upE [1] l.length (fun j (_ : Unit) => W = firstE echE (l.drop j)) (fun _ _ i => [(3, I i)]) (fun _ _ => [.own 0 [I s1, I s2, .vs 4 ys]]) () hW ⟨rfl, trivial⟩ (.inl rfl) fun j _ i hi hj hP Bk hB => ?_
  have hlt : A.lt i (A.vlen ys) = decide (j < l.length) := by subst hA; exact lt_len (by simp [hys]) hi
  have hadd : ∀ N, j < N → N ≤ 9223372036854775807 → A.add .i64 i 1 = iLen (j + 1) := fun N hj hN => by subst hA; exact add_one hi hj hN
  refine SGo_run hA ⟨[], [], (53, eIn) :: [], []⟩ (.cons (eIn_ok p53) .nil) .nil 200 fun T TD hT hTD => ?_
  cbv
  split <;> cbv
  · rename_i hk0
    have hk1 : j < l.length := by have hz := hlt.symm.trans hk0; simpa using hz
    clear hk0
    obtain ⟨⟨x1, x2, x3, x4⟩, hx⟩ : ∃ x, l[j]? = some x := ⟨_, List.getElem?_eq_getElem hk1⟩
    have hix : A.ix 4 4 ys i [I x1, I x2, I x3, I x4] := by subst hA; exact ix_map hys hi hx rfl
    rw [firstE_drop hx] at hP
    have hR : ∀ e, e ≠ 0 → echE ⟨x1, x2, x3, x4⟩ = e → W = e := fun e h0 h => by rw [hP, h, if_neg h0]
    have hN : echE ⟨x1, x2, x3, x4⟩ = 0 → W = firstE echE (l.drop (j + 1)) := fun h => by rw [hP, if_pos h]
    have hlt2 : A.lt x4 x3 = decide (x4 < x3) := by subst hA; rfl
    have hE : echE ⟨x1, x2, x3, x4⟩ = if (0 ≤ x1 ∧ x1 ≤ 999) ∧ (0 ≤ x2 ∧ x2 ≤ 10000) ∧ (0 ≤ x3 ∧ x3 ≤ 1000000) ∧ (0 ≤ x4 ∧ x4 ≤ 1000000) then (if x3 ≤ x4 then 0 else 11) else 2 := rfl
    refine Exists.intro _ (And.intro hix ?_); cbv
    repeat' (first | (intro qq hfq; cbv) | (split <;> cbv))
    all_goals first
      | refine hB () _ _ hk1 (hN ?_) ⟨congrArg I (hadd _ hk1 (by omega)), trivial⟩ ⟨rfl, trivial⟩ (.inr ⟨⟨_, rfl⟩, Nat.zero_le _, by simp [ltG, AV.lt, AV.ltL, keepS, look], by simp [ltH, AObj.lt, AV.lt, AV.ltL]⟩)
      | refine leaf h (congrArg I (hR _ (by decide) ?_)) rfl
    all_goals
      clear hR hN hP hix hlt hadd hB hx h hl e4 hk1 hi hj hT hTD hys hA hW
      simp only [hbn, hlt2] at *
      subst_vars
      simp only [Bool.not_eq_true', Bool.not_eq_false', decide_eq_true_eq, decide_eq_false_iff_not] at *
      first | (rw [hE, if_neg (by omega)]) | (rw [hE, if_pos (by omega), if_neg (by omega)]) | (rw [hE, if_pos (by omega), if_pos (by omega)])
  · rename_i hk0
    have hk1 : ¬ j < l.length := by have hz := hlt.symm.trans hk0; simpa using hz
    clear hk0
    have hf : W = 0 := by rw [hP, List.drop_eq_nil_of_le (by omega)]; rfl
    exact leaf h (congrArg I hf) rfl
theorem scat_ok {x y : List UInt8} (h : x.length + y.length ≤ 1000000000) : scatS (bA x) (bA y) (bA (x ++ y)) := by
  refine ⟨?_, ?_⟩
  · rw [bA_size, bA_size]; omega
  · apply ByteArray.ext
    rw [ByteArray.data_append]
    apply Array.ext'
    simp [bA]
theorem num_len {n : Int} (h : I64 n) : (Lib.itoa n).length ≤ 21 := by
  have := Lib.itoa_length_le n h.1 h.2
  omega
set_option maxHeartbeats 4000000 in
theorem p36 (wl : List UInt8) (l : List Int) (hw : wl.length ≤ 100) (hl : l.length ≤ 10) (hn : ∀ n ∈ l, I64 n) (H : AHeap) (hGH : Globs H) {Kk : AV → AHeap → Prop} (h : Kk (.lit (.string (bA (rowL wl l ++ [10])))) H) :
    ACalls Tryz.prog 36 [.lit (.string (bA wl)), .vs 1 (l.map I)] H Kk := by
  refine liftG hGH (by simp [AV.nid, AV.nidL]) (by rfl) ?_ h
  clear h hGH
  intro X1 X2 X3 X4 hG Kk h
  obtain ⟨xs, hxs⟩ : ∃ xs, xs = l.map I := ⟨_, rfl⟩
  obtain ⟨w0, hw0⟩ : ∃ w, w = bA wl := ⟨_, rfl⟩
  rw [← hxs, ← hw0]
  obtain ⟨A, hA⟩ : ∃ A, A = std := ⟨_, rfl⟩
  refine go36 rfl (AGo.weaken (SGo_run (R := RetH _ [X1, X2, X3, X4] Kk) hA ⟨[], [], [], (30, eItoa) :: []⟩ .nil (.cons eItoa_ok .nil) 200 fun T TD hT hTD => ?_) (fun _ _ _ h => RetH.p hG.ltH h) (by simp))
  cbv
  rw [hT]
  refine AGo_upE [1] l.length (fun j (s : List UInt8) => rowL wl l = s ++ (l.drop j).flatMap (fun n => 32 :: Lib.itoa n) ∧ s.length ≤ 100 + 22 * j) (fun _ s i => [(5, I i), (0, .lit (.string (bA s)))]) (fun _ _ => [X1, X2, X3, X4]) wl ⟨rfl, by omega⟩ ⟨rfl, congrArg (fun x => AV.lit (.string x)) hw0, trivial⟩ (.inl rfl) fun j s i hi hj hP Bk hB => ?_
  obtain ⟨hP1, hP2⟩ := hP
  have hlt : A.lt i (A.vlen xs) = decide (j < l.length) := by subst hA; exact lt_len (by simp [hxs]) hi
  have hadd : ∀ N, j < N → N ≤ 9223372036854775807 → A.add .i64 i 1 = iLen (j + 1) := fun N hj hN => by subst hA; exact add_one hi hj hN
  obtain ⟨sj, hsj⟩ : ∃ w, w = bA s := ⟨_, rfl⟩
  rw [← hsj]
  have hs1 : A.scat sj ⟨[32].toArray⟩ (bA (s ++ [32])) := by subst hA; rw [hsj]; exact scat_ok (y := [32]) (by simp; omega)
  obtain ⟨s1, hs1e⟩ : ∃ w, w = bA (s ++ [32]) := ⟨_, rfl⟩
  rw [← hs1e] at hs1
  have hs3 : A.scat sj ⟨[10].toArray⟩ (bA (s ++ [10])) := by subst hA; rw [hsj]; exact scat_ok (y := [10]) (by simp; omega)
  obtain ⟨s3, hs3e⟩ : ∃ w, w = bA (s ++ [10]) := ⟨_, rfl⟩
  rw [← hs3e] at hs3
  refine SGo_run hA ⟨[], [], [], (30, eItoa) :: []⟩ .nil (.cons eItoa_ok .nil) 200 fun T TD hT hTD => ?_
  cbv
  split <;> cbv
  · rename_i hk1
    have hlt1 : j < l.length := by have := hlt.symm.trans hk1; simpa using this
    obtain ⟨n, hx⟩ : ∃ x, l[j]? = some x := ⟨_, List.getElem?_eq_getElem hlt1⟩
    have hix : A.ix 1 1 xs i [I n] := by subst hA; exact ix_map hxs hi hx rfl
    have hadd := hadd l.length hlt1 (by omega)
    have hI := hn n (List.mem_of_getElem? hx)
    have hnl := num_len hI
    refine Exists.intro _ (And.intro hs1 ?_); cbv
    refine Exists.intro _ (And.intro hix ?_); cbv
    refine And.intro ⟨hG, hI⟩ fun tt htt => ?_
    have htt : tt = bA (Lib.itoa n) := htt.eq
    have hs2 : A.scat s1 tt (bA (s ++ [32] ++ Lib.itoa n)) := by subst hA; rw [hs1e, htt]; exact scat_ok (by simp; omega)
    obtain ⟨s2, hs2e⟩ : ∃ w, w = bA (s ++ [32] ++ Lib.itoa n) := ⟨_, rfl⟩
    rw [← hs2e] at hs2
    cbv
    refine Exists.intro _ (And.intro hs2 ?_); cbv
    refine hB (s ++ [32] ++ Lib.itoa n) _ _ hlt1 ⟨?_, by simp; omega⟩ ⟨congrArg I hadd, congrArg (fun x => AV.lit (.string x)) hs2e, trivial⟩ ⟨rfl, trivial⟩ (.inl rfl)
    rw [hP1, drop_cons hx]
    simp
  · rename_i hk1
    have hk1 : ¬ j < l.length := by have := hlt.symm.trans hk1; simpa using this
    rw [List.drop_eq_nil_of_le (by omega)] at hP1
    refine Exists.intro _ (And.intro hs3 ?_); cbv
    rw [hs3e]
    rw [hP1] at h
    have h : Kk (.lit (.string (bA (s ++ [10])))) [X1, X2, X3, X4] := by simpa using h
    exact h
structure RowPre (H : AHeap) (w : ByteArray) (xs : List AV) (l : List Int) : Prop where
  glob : Globs H
  xs : xs = l.map I
  wl : w.data.toList.length ≤ 100
  ll : l.length ≤ 10
  nl : ∀ n ∈ l, I64 n
structure RowIs (w : ByteArray) (l : List Int) (t : ByteArray) : Prop where
  eq : t = bA (rowL w.data.toList l ++ [10])
def eRowR : List AV → AHeap → Option PT
  | [.lit (.string w), .vs 1 xs], H => some fun K => ∃ l, RowPre H w xs l ∧ ∀ t, RowIs w l t → K (.lit (.string t)) H
  | _, _ => none
theorem eRowR_ok : ∀ args H pt, eRowR args H = some pt → ∀ (Kk : AV → AHeap → Prop), pt Kk → ACalls Tryz.prog 36 args H Kk := by
  intro args H pt h Kk hk
  unfold eRowR at h
  split at h
  · rename_i w xs
    cases h
    obtain ⟨l, ⟨hG, rfl, h1, h2, h3⟩, hk⟩ := hk
    have := p36 w.data.toList l h1 h2 h3 H hG (hk _ ⟨rfl⟩)
    rw [bA_of] at this
    exact this
  · cases h
theorem row_len {w : List UInt8} {l : List Int} (h : ∀ n ∈ l, I64 n) : (rowL w l ++ [10]).length ≤ w.length + 22 * l.length + 1 := by
  have := len_nums h
  simp only [rowL, List.length_append, List.length_cons, List.length_nil]
  omega
theorem glob_lt5 {X1 X2 X3 X4 : AObj} (hG : Globs [X1, X2, X3, X4]) {g : Nat} {cs : List AV} (hn : AV.nidL cs = true) : ltH 5 [X1, X2, X3, X4, .own g cs] := by
  obtain ⟨_, _, _, _, _, e, _, g2, m2, o2, g3, o3, g4, o4, e1, e2, e3, e4⟩ := hG.split
  cases e
  subst e1 e2 e3 e4
  simp [ltH, AObj.lt, rawG, rawT, AV.ltL, AV.lt, AV.ltL_nid hn]
set_option maxHeartbeats 4000000 in
theorem p13 (t : Trk) (hol : t.ec.length ≤ 9223372036854775807) (H : AHeap) (hGH : Globs H) {Kk : AV → AHeap → Prop}
    (h : Kk (.tup [.lit (.string ⟨(writeK t).toArray⟩), I (checkT t)]) H) :
    ACalls Tryz.prog 13 [tkV t.sp.1 t.sp.2 (.vs 4 (t.ec.map ecV))] H Kk := by
  refine liftG hGH (by simp [AV.nid, AV.nidL]) (by rfl) ?_ h
  clear h hGH
  intro X1 X2 X3 X4 hG Kk h
  obtain ⟨f, hf⟩ : ∃ f : Trk, f = t := ⟨_, rfl⟩
  rw [← hf] at h
  obtain ⟨⟨a, b⟩, os⟩ := t
  dsimp only at hol ⊢
  obtain ⟨ys, hys⟩ : ∃ ys, ys = os.map ecV := ⟨_, rfl⟩
  rw [← hys]
  unfold writeK at h
  obtain ⟨A, hA⟩ : ∃ A, A = std := ⟨_, rfl⟩
  have hne : ∀ q, A.ne q 0 = decide (q ≠ 0) := by subst hA; intro q; simp only [std, iNe]; rw [Bool.eq_iff_iff]; simp
  refine go13 rfl (AGo.weaken (SGo_run (R := RetH _ [X1, X2, X3, X4] Kk) hA ⟨[], [], (35, eCheckT) :: [], (36, eRowR) :: []⟩ (.cons (eCheckT_ok p35) .nil) (.cons eRowR_ok .nil) 200 fun T TD hT hTD => ?_) (fun _ _ _ h => RetH.p hG.ltH h) (by simp))
  cbv
  refine Exists.intro os (And.intro hys (And.intro hol ?_))
  intro q hq; cbv
  rw [← hf] at hq
  split <;> cbv
  · rename_i hz
    have hz : q ≠ 0 := by have := (hne q).symm.trans hz; simpa using this
    rw [← hq, if_neg hz] at h
    exact h
  rename_i hz
  have hz : q = 0 := by have := (hne q).symm.trans hz; simpa using this
  subst hz
  have hV := checkT_ok hq.symm
  rw [if_pos hq.symm, ← hq] at h
  have hV2 := hV
  rw [hf] at hV2
  have n2 := hV2.s1
  have n3 := hV2.s2
  have n4 := hV2.len
  dsimp only at n2 n3 n4
  have hI2 : ∀ n ∈ [a, b], I64 n := mem_2 ⟨by omega, by omega⟩ ⟨by omega, by omega⟩
  have htx : textT f = (headT f ++ [10]) ++ os.flatMap (fun o => echR o ++ [10]) := by
    rw [hf]
    simp [textT, rowsT, List.flatMap_map]
  refine Exists.intro [a, b] (And.intro ⟨hG.app [_], rfl, by decide, by simp, hI2⟩ fun t0 ht0 => ?_)
  have ht0 : t0 = bA (headT f ++ [10]) := by rw [hf]; exact ht0.eq
  have hl0 : (headT f ++ [10]).length ≤ 200 := by
    have := row_len (w := radarW) hI2
    rw [hf]
    simp only [headT, radarW, List.length_cons, List.length_nil] at this ⊢
    omega
  cbv
  rw [hT]
  refine AGo_upE [1] os.length (fun j (s : List UInt8) => textT f = s ++ (os.drop j).flatMap (fun o => echR o ++ [10]) ∧ s.length ≤ 200 + 100 * j) (fun _ s i => [(6, I i), (5, .lit (.string (bA s)))])
    (fun _ _ => [X1, X2, X3, X4, .own 0 [I a, I b, .vs 4 ys]]) (headT f ++ [10]) ⟨htx, hl0⟩ ⟨rfl, congrArg (fun x => AV.lit (.string x)) ht0, trivial⟩ (.inl rfl) fun j s i hi hj hP Bk hB => ?_
  obtain ⟨hP1, hP2⟩ := hP
  have hlt : A.lt i (A.vlen ys) = decide (j < os.length) := by subst hA; exact lt_len (by simp [hys]) hi
  have hadd : ∀ N, j < N → N ≤ 9223372036854775807 → A.add .i64 i 1 = iLen (j + 1) := fun N hj hN => by subst hA; exact add_one hi hj hN
  obtain ⟨sj, hsj⟩ : ∃ w, w = bA s := ⟨_, rfl⟩
  rw [← hsj]
  refine SGo_run hA ⟨[], [], (35, eCheckT) :: [], (36, eRowR) :: []⟩ (.cons (eCheckT_ok p35) .nil) (.cons eRowR_ok .nil) 200 fun T TD hT hTD => ?_
  cbv
  split <;> cbv
  · rename_i hk1
    have hlt1 : j < os.length := by have := hlt.symm.trans hk1; simpa using this
    obtain ⟨⟨ou, od, ol, ol2⟩, hx⟩ : ∃ x, os[j]? = some x := ⟨_, List.getElem?_eq_getElem hlt1⟩
    have hix : A.ix 4 4 ys i [I ou, I od, I ol, I ol2] := by subst hA; exact ix_map hys hi hx rfl
    have hadd := hadd os.length hlt1 (by omega)
    have hb := hV2.all _ (List.mem_of_getElem? hx)
    dsimp only at hb
    have hI4 : ∀ n ∈ [ou, od, ol, ol2], I64 n := mem_4 ⟨by omega, by omega⟩ ⟨by omega, by omega⟩ ⟨by omega, by omega⟩ ⟨by omega, by omega⟩
    refine Exists.intro _ (And.intro hix ?_); cbv
    refine Exists.intro [ou, od, ol, ol2] (And.intro ⟨hG.app [_, _], rfl, by decide, by simp, hI4⟩ fun t1 ht1 => ?_)
    have ht1 : t1 = bA (echR ⟨ou, od, ol, ol2⟩ ++ [10]) := ht1.eq
    have hl1 := row_len (w := echoW) hI4
    have hl1 : (echR ⟨ou, od, ol, ol2⟩ ++ [10]).length ≤ 100 := by
      simp only [echR, echoW, List.length_cons, List.length_nil] at hl1 ⊢
      omega
    have hs2 : A.scat sj t1 (bA (s ++ (echR ⟨ou, od, ol, ol2⟩ ++ [10]))) := by subst hA; rw [hsj, ht1]; exact scat_ok (by omega)
    obtain ⟨s2, hs2e⟩ : ∃ w, w = bA (s ++ (echR ⟨ou, od, ol, ol2⟩ ++ [10])) := ⟨_, rfl⟩
    rw [← hs2e] at hs2
    cbv
    refine Exists.intro _ (And.intro hs2 ?_); cbv
    refine hB (s ++ (echR ⟨ou, od, ol, ol2⟩ ++ [10])) _ _ hlt1 ⟨?_, by rw [List.length_append]; omega⟩ ⟨congrArg I hadd, congrArg (fun x => AV.lit (.string x)) hs2e, trivial⟩ ⟨rfl, trivial⟩ (.inr ⟨⟨_, rfl⟩, by simp, by simp [ltG, keepS, look, gset, AV.lt, AV.ltL], glob_lt5 hG (by simp [AV.nidL, AV.nid])⟩)
    rw [hP1, drop_cons hx]
    simp
  · rename_i hk1
    have hk1 : ¬ j < os.length := by have := hlt.symm.trans hk1; simpa using this
    rw [List.drop_eq_nil_of_le (by omega)] at hP1
    have hP1 : textT f = s := by simpa using hP1
    rw [hP1] at h
    rw [hsj]
    exact h
end Go.Sas
namespace Go.Sas
open Go.Proofs
set_option maxRecDepth 100000
structure NumsPreR (r : ByteArray) (n : Int) : Prop where
  len : r.data.toList.length ≤ 1000000
  two : n = 2 ∨ n = 4
def eNumsR : List AV → Option ((AV → Prop) → Prop)
  | [.lit (.string r), .lit (.string w), .lit (.int .i64 n)] => some fun K => NumsPreR r n ∧ (NumsNo r w n → K (.tup [.lit (.slice none 0 0), B false])) ∧ ∀ ns : List Int, NumsOk r w n ns → K (.tup [.vs 1 (ns.map I), B true])
  | _ => none
theorem eNumsR_ok : ∀ args pt, eNumsR args = some pt → ∀ (H : AHeap) (Kk : AV → AHeap → Prop), pt (fun r => Kk r H) → ACalls Tryz.prog 39 args H Kk := by
  intro args pt h H Kk hk
  unfold eNumsR at h
  split at h
  · rename_i r w n
    cases h
    obtain ⟨⟨hs, ht⟩, h1, h2⟩ := hk
    obtain ⟨m, hm, rfl⟩ : ∃ m : Nat, (1 ≤ m ∧ m ≤ 10) ∧ n = iLen m := by
      rcases ht with rfl | rfl
      · exact ⟨2, by omega, rfl⟩
      · exact ⟨4, by omega, rfl⟩
    refine p39 r w m hm hs H ?_
    cases hn : numsL w.data.toList m r.data.toList with
    | none => exact h1 ⟨hn⟩
    | some ns => exact h2 ns ⟨hn⟩
  · cases h
def heapU (Y : AObj) (t : Trk) : AHeap := [Y, .own 0 [I t.sp.1, I t.sp.2, .ms 4 2 t.ec.length 0 t.ec.length], .own t.ec.length (t.ec.flatMap ecC)]
theorem tkR_frees {a b u v : Int} {es : List Ech} {n g0 g : Nat} {ec tc rc : List AV} (h1 : n = es.length) (h3 : ec = es.flatMap ecC)
    {Kk : AV → AHeap → Prop} (h : Kk (readA (⟨(a, b), es⟩, u, v)) []) :
    Frees 0 Kk (.tup [.agg [I a, I b, .ms 4 2 n 0 n], I u, I v]) [.own g0 rc, .own g tc, .own n ec] := by
  have hE1 : Elems 4 (es.map ecV) ec := by rw [h3]; exact Elems_ec es
  have l1 : (es.map ecV).take n = es.map ecV := List.take_of_length_le (by simp [h1])
  clear h3
  obtain ⟨xs, hxs⟩ : ∃ z, z = es.map ecV := ⟨_, rfl⟩
  have k1 : n ≤ xs.length := by rw [hxs]; simp [h1]
  unfold readA tkA at h
  simp only at h
  rw [← hxs] at hE1 l1 h
  refine Frees.weak 0 rfl (Frees.weak 1 rfl (Frees.frz 2 n 4 xs rfl hE1 ?_))
  have e2 : AV.frz 2 n 4 xs (.tup [.agg [I a, I b, .ms 4 2 n 0 n], I u, I v]) = .tup [.agg [I a, I b, .vs 4 xs], I u, I v] := by
    simp [AV.frzL, AV.frz, l1, k1]
  rw [e2]
  exact Frees.drop0 h rfl
set_option maxHeartbeats 4000000 in
theorem p16 (tb : ByteArray) (H : AHeap) {Kk : AV → AHeap → Prop} (h : Kk (readA (readK tb.data.toList)) H) : ACalls Tryz.prog 16 [.lit (.string tb)] H Kk := by
  refine (fun q => pureF (by rfl) (by simp [readA, tkA, AV.nid, AV.nidL]) q H h) ?_
  clear h
  intro Kk h
  obtain ⟨W, hW⟩ : ∃ W, W = readK tb.data.toList := ⟨_, rfl⟩
  rw [← hW] at h
  obtain ⟨A, hA⟩ : ∃ A, A = std := ⟨_, rfl⟩
  obtain ⟨F, hF⟩ : ∃ F, F = Frees 0 Kk := ⟨_, rfl⟩
  rw [← hF]
  have hzero : ∀ (b c : Int) (H : AHeap), W = (trk0, b, c) → F (.tup [.agg [I 0, I 0, .lit (.slice none 0 0)], I b, I c]) H := fun b c H hw => by
    rw [hw] at h; rw [hF]; exact Frees.wk wk_zero (Frees.drop0 h rfl)
  have hlt : ∀ x y, A.lt x y = decide (x < y) := by subst hA; intro x y; rfl
  have hll : ∀ n : Nat, A.len n = (n : Int) := by subst hA; intro n; rfl
  refine go16 rfl (SGo_run hA ⟨[2], [1002, 2000001], (38, eSplitR) :: (39, eNumsR) :: [], (35, eMut eCheckT) :: []⟩ (.cons eSplitR_ok (.cons eNumsR_ok .nil)) (.cons (eMut_ok (eCheckT_ok p35)) .nil) 200 fun T TD hT hTD => ?_)
  cbv
  split <;> cbv
  · rename_i hq
    have hq : 20000 < tb.data.toList.length := by
      have hq9 := (hlt _ _).symm.trans hq
      rw [hll, ← List.length.eq_def] at hq9
      exact Int.ofNat_lt.1 (of_decide_eq_true hq9)
    exact hzero 0 5 _ (by rw [hW]; unfold readK readT; rw [if_pos hq])
  rename_i hq
  have hq : ¬ 20000 < tb.data.toList.length := by
    have hq9 := (hlt _ _).symm.trans hq
    rw [hll, ← List.length.eq_def] at hq9
    exact fun h9 => of_decide_eq_false hq9 (Int.ofNat_lt.2 h9)
  refine Exists.intro 10 (And.intro ⟨rfl, by omega⟩ fun xs hxs => ?_)
  have hxs : xs = (splitL 10 tb.data.toList).map strA := hxs.eq
  obtain ⟨rs, lst, hsp⟩ : ∃ rs lst, splitL 10 tb.data.toList = rs ++ [lst] := ⟨_, _, (List.dropLast_concat_getLast (splitL_ne _)).symm⟩
  have hlens : rs.length ≤ 20000 := by
    have := splitL_len (c := 10) tb.data.toList
    rw [hsp] at this
    have h2 := List.count_le_length (a := (10 : UInt8)) (l := tb.data.toList)
    rw [List.length_append, List.length_singleton] at this
    generalize List.count 10 tb.data.toList = q at this h2
    omega
  have hparts : ∀ x ∈ rs, x.length ≤ 1000000 := fun x hx => by
    have := splitL_part (c := 10) (l := tb.data.toList) (x := x) (by rw [hsp]; exact List.mem_append_left _ hx)
    omega
  rw [hsp] at hxs
  have hvl : A.vlen xs = iLen (rs.length + 1) := by subst hA; simp [std, hxs]
  have hsub : A.sub .i64 (A.vlen xs) 1 = iLen rs.length := by
    rw [hvl]; subst hA
    show iSub .i64 (iLen _) 1 = _
    unfold iLen
    rw [iSub_id] <;> simp <;> omega
  have hWt : W = if (takeT trk0 0 rs).2 ≠ 0 then (trk0, ((takeT trk0 0 rs).2 : Int), 3) else if rs.length = 0 ∨ lst ≠ [] then (trk0, ((rs.length + 1 : Nat) : Int), 3) else if checkT (takeT trk0 0 rs).1 ≠ 0 then (trk0, 0, checkT (takeT trk0 0 rs).1) else ((takeT trk0 0 rs).1, 0, 0) := by
    rw [hW]; unfold readK readT
    rw [if_neg hq]
    simp only [hsp, List.dropLast_concat, List.length_append, List.length_singleton, List.getLast?_concat]
    simp
  cbv
  rw [hT]
  refine AGo_nilcell 1 2 4 rfl rfl ?_
  refine AGo_upE [2, 5, 6] rs.length (fun j (t : Trk) => takeT trk0 0 rs = takeT t j (rs.drop j) ∧ t.ec.length ≤ j) (fun _ _ i => [(7, I i)]) (fun _ t => heapU (.own 0 [I 0, I 0, .lit (.slice none 0 0)]) t) trk0 ⟨rfl, Nat.le_refl _⟩ ⟨rfl, trivial⟩ (.inl rfl) fun j t i hi hj hP Bk hB => ?_
  obtain ⟨hT0, hel⟩ := hP
  have hltj : A.lt i (A.sub .i64 (A.vlen xs) 1) = decide (j < rs.length) := by
    rw [hsub, hi]; subst hA; simp only [std, iLt, iLen]; rw [Bool.eq_iff_iff]; simp
  have hadd : ∀ N, j < N → N ≤ 9223372036854775807 → A.add .i64 i 1 = iLen (j + 1) := fun N hj hN => by subst hA; exact add_one hi hj hN
  obtain ⟨⟨a, b⟩, es⟩ := t
  simp only at hel
  unfold heapU
  simp only
  obtain ⟨n1, hn1⟩ : ∃ n, n = es.length := ⟨_, rfl⟩
  have hn1l := hn1
  obtain ⟨cc, hcc⟩ : ∃ n, n = es.flatMap ecC := ⟨_, rfl⟩
  rw [← hn1, ← hcc]
  have hz : A.eq i 0 = decide (j = 0) := by subst hA; rw [hi]; simp only [std, iEq, iLen]; rw [Bool.eq_iff_iff]; simp
  refine SGo_run hA ⟨[2], [1002, 2000001], (38, eSplitR) :: (39, eNumsR) :: [], (35, eMut eCheckT) :: []⟩ (.cons eSplitR_ok (.cons eNumsR_ok .nil)) (.cons (eMut_ok (eCheckT_ok p35)) .nil) 200 fun T TD hT hTD => ?_
  cbv
  split <;> cbv
  · rename_i hk1
    have hlt1 : j < rs.length := by have := hltj.symm.trans hk1; simpa using this
    obtain ⟨x, hx⟩ : ∃ x, rs[j]? = some x := ⟨_, List.getElem?_eq_getElem hlt1⟩
    obtain ⟨t, ht⟩ : ∃ t, t = bA x := ⟨_, rfl⟩
    have htd : t.data.toList = x := by rw [ht, bA_data]
    have hxl := hparts x (List.mem_of_getElem? hx)
    have hadd := hadd rs.length hlt1 (by omega)
    have hbn0 : A.bnot false = true := by subst hA; rfl
    have hbn1 : A.bnot true = false := by subst hA; rfl
    have hdr := drop_cons hx
    rw [hdr] at hT0
    simp only [takeT] at hT0
    have hix2 : A.ix 1 1 xs i [.lit (.string t)] := by
      subst hA; exact ix_map (l := rs ++ [lst]) hxs hi (by rw [List.getElem?_append_left hlt1]; exact hx) (by rw [ht]; rfl)
    split <;> cbv
    · rename_i hq0
      have hq0 : j = 0 := by have := hz.symm.trans hq0; simpa using this
      subst hq0
      have hix0 : A.ix 1 1 xs 0 [.lit (.string t)] := by
        subst hA; exact ix_map (l := rs ++ [lst]) (j := 0) hxs rfl (by rw [List.getElem?_append_left hlt1]; exact hx) (by rw [ht]; rfl)
      refine Exists.intro _ (And.intro hix0 ?_); cbv
      refine And.intro ⟨by rw [htd]; exact hxl, .inl rfl⟩ (And.intro (fun hno => ?_) fun ns hns => ?_)
      · have hno : numsL radarW 2 t.data.toList = none := hno.eq
        rw [htd] at hno
        simp only [stepT, hno] at hT0
        cbv
        split <;> cbv
        · have := fun H => hzero 1 3 H (by rw [hWt, hT0]; simp)
          exact this _
        · rename_i hq2
          exact absurd (hbn0.symm.trans hq2) (by decide)
      · obtain ⟨u, v, rfl⟩ := hns.two
        have hn : numsL radarW 2 t.data.toList = some [u, v] := hns.eq
        rw [htd] at hn
        simp only [stepT, hn] at hT0
        have hi0 : A.ix 1 1 [I u, I v] 0 [I u] := by subst hA; exact ⟨rfl, by decide, _, rfl, rfl⟩
        have hi1 : A.ix 1 1 [I u, I v] 1 [I v] := by subst hA; exact ⟨rfl, by decide, _, rfl, rfl⟩
        cbv
        split
        · rename_i hq2
          exact absurd (hbn1.symm.trans hq2) (by decide)
        cbv
        refine Exists.intro _ (And.intro hi0 ?_); cbv
        refine Exists.intro _ (And.intro hi1 ?_); cbv
        refine hB ⟨(u, v), es⟩ _ _ hlt1 ⟨hT0, by simp only; omega⟩ ⟨congrArg I hadd, trivial⟩ ⟨rfl, rfl, rfl, trivial⟩ (.inl ?_)
        rw [hcc, hn1]; rfl
    · rename_i hq0
      have hq0 : ¬ j = 0 := by have := hz.symm.trans hq0; simpa using this
      obtain ⟨jj, rfl⟩ : ∃ q, j = q + 1 := ⟨j - 1, by omega⟩
      refine Exists.intro _ (And.intro hix2 ?_); cbv
      refine And.intro ⟨by rw [htd]; exact hxl, .inr rfl⟩ (And.intro (fun hno => ?_) fun ns hns => ?_)
      · have hno : numsL echoW 4 t.data.toList = none := hno.eq
        rw [htd] at hno
        simp only [stepT, hno] at hT0
        cbv
        split <;> cbv
        · have := fun H => hzero (A.add .i64 i 1) 3 H (by rw [hadd, hWt, hT0]; simp [iLen])
          exact this _
        · rename_i hq2
          exact absurd (hbn0.symm.trans hq2) (by decide)
      · obtain ⟨u, v, z, w, rfl⟩ := hns.four
        have hn : numsL echoW 4 t.data.toList = some [u, v, z, w] := hns.eq
        rw [htd] at hn
        simp only [stepT, hn] at hT0
        have hj0 : A.ix 1 1 [I u, I v, I z, I w] 0 [I u] := by subst hA; exact ⟨rfl, by decide, _, rfl, rfl⟩
        have hj1 : A.ix 1 1 [I u, I v, I z, I w] 1 [I v] := by subst hA; exact ⟨rfl, by decide, _, rfl, rfl⟩
        have hj2 : A.ix 1 1 [I u, I v, I z, I w] 2 [I z] := by subst hA; exact ⟨rfl, by decide, _, rfl, rfl⟩
        have hj3 : A.ix 1 1 [I u, I v, I z, I w] 3 [I w] := by subst hA; exact ⟨rfl, by decide, _, rfl, rfl⟩
        obtain ⟨o2, ho2⟩ : ∃ c2, c2 = cc ++ [I u, I v, I z, I w] := ⟨_, rfl⟩
        have happ : A.app 4 4 32 cc 0 n1 [.agg [I u, I v, I z, I w]] o2 (n1 + 1) := by subst hA; rw [ho2]; exact app_one (by rw [hcc, hn1l]; exact flen (f := ecC) (k := 4) (fun _ => rfl) _) rfl (by omega)
        cbv
        split
        · rename_i hq2
          exact absurd (hbn1.symm.trans hq2) (by decide)
        cbv
        refine Exists.intro _ (And.intro hj0 ?_); cbv
        refine Exists.intro _ (And.intro hj1 ?_); cbv
        refine Exists.intro _ (And.intro hj2 ?_); cbv
        refine Exists.intro _ (And.intro hj3 ?_); cbv
        refine And.intro (by subst hA; rfl) (Exists.intro _ (Exists.intro _ (And.intro happ (And.intro rfl ?_)))); cbv
        refine And.intro (by subst hA; exact .inr ⟨SubH.cs (by simp [SubH]), trivial, by first | exact .inl rfl | exact .inr fun _ => SubH.cs (by simp [SubH])⟩) ?_; cbv
        refine hB ⟨(a, b), es ++ [⟨u, v, z, w⟩]⟩ _ _ hlt1 ⟨hT0, by simp only [List.length_append, List.length_singleton]; omega⟩ ⟨congrArg I hadd, trivial⟩ ⟨rfl, rfl, rfl, trivial⟩ (.inl ?_)
        unfold heapU
        simp only [List.length_append, List.length_singleton, List.flatMap_append, ← hcc, ← hn1]
        rw [show cc ++ [(⟨u, v, z, w⟩ : Ech)].flatMap ecC = o2 by rw [ho2]; rfl]
  · rename_i hk1
    have hk1 : ¬ j < rs.length := by have := hltj.symm.trans hk1; simpa using this
    rw [List.drop_eq_nil_of_le (by omega)] at hT0
    have hz0 : A.eq (A.vlen xs) 1 = decide (rs.length = 0) := by
      rw [hvl]; subst hA; simp only [std, iEq, iLen]; rw [Bool.eq_iff_iff, beq_iff_eq, decide_eq_true_eq]; omega
    have hix3 : A.ix 1 1 xs (A.sub .i64 (A.vlen xs) 1) [.lit (.string (bA lst))] := by
      rw [hsub]; subst hA; rw [hxs]
      exact ⟨rfl, Int.natCast_nonneg _, strA lst, by simp [iLen], rfl⟩
    obtain ⟨tl, htl⟩ : ∃ t, t = bA lst := ⟨_, rfl⟩
    rw [← htl] at hix3
    have hsq : A.bnot (A.seq tl ⟨[].toArray⟩) = decide (lst ≠ []) := by
      subst hA htl; simp only [std]
      rw [Bool.eq_iff_iff]
      simp only [Bool.not_eq_true', decide_eq_true_eq, ne_eq]
      rw [← Bool.not_eq_true, seq_iff, bA_data]
    have hT1 : takeT trk0 0 rs = (⟨(a, b), es⟩, 0) := by rw [hT0]; cases j <;> rfl
    rw [hT1] at hWt
    simp only [ne_eq, not_true_eq_false, if_false] at hWt
    split <;> cbv
    · rename_i hq1
      have hq1 : rs.length = 0 := by have := hz0.symm.trans hq1; simpa using this
      have := fun H => hzero (A.vlen xs) 3 H (by rw [hvl, hWt, if_pos (.inl hq1)]; rfl)
      exact this _
    rename_i hq1
    have hq1 : ¬ rs.length = 0 := by have := hz0.symm.trans hq1; simpa using this
    refine Exists.intro _ (And.intro hix3 ?_); cbv
    split <;> cbv
    · rename_i hq2
      have hq2 : lst ≠ [] := by have := hsq.symm.trans hq2; simpa using this
      have := fun H => hzero (A.vlen xs) 3 H (by rw [hvl, hWt, if_pos (.inr hq2)]; rfl)
      exact this _
    rename_i hq2
    have hq2 : lst = [] := by have := hsq.symm.trans hq2; simpa using this
    rw [if_neg (by rintro (h | h); exact hq1 h; exact h hq2)] at hWt
    have hE2 : Elems 4 (es.map ecV) cc := by rw [hcc]; exact Elems_ec es
    obtain ⟨zo, hzo⟩ : ∃ z, z = es.map ecV := ⟨_, rfl⟩
    rw [← hzo] at hE2
    refine Exists.intro zo (And.intro ⟨rfl, hE2, by rw [hzo, hn1]; simp⟩ ?_); cbv
    refine Exists.intro es (And.intro hzo (And.intro (by omega) ?_))
    intro q hqe; cbv
    have hne : A.ne q 0 = decide (q ≠ 0) := by subst hA; simp only [std, iNe]; rw [Bool.eq_iff_iff]; simp
    split <;> cbv
    · rename_i hq3
      have hq3 : q ≠ 0 := by have := hne.symm.trans hq3; simpa using this
      exact hzero 0 q _ (by rw [hWt, ← hqe, if_pos hq3])
    rename_i hq3
    have hq3 : ¬ q ≠ 0 := by have := hne.symm.trans hq3; simpa using this
    rw [← hqe, if_neg hq3] at hWt
    rw [hWt] at h
    rw [hF]
    exact tkR_frees hn1 hcc h
end Go.Sas
