/-
Probe: a product of words, a slice of equal numbers: contracts.
Probe: a slice of equal numbers: contract.
Probe: verdicts of marks: contracts.
Conditions: none.
-/
import Derived.Test.YtpokfjhlilbpfaaDoorPHd
import Derived.Test.YtpokfjhlilbpfaaDoorPDd
import Derived.Test.YtpokfjhlilbpfaaDoorPNd
set_option linter.unusedVariables false
set_option linter.unusedSimpArgs false
namespace Go.Sas
open Go.Proofs
set_option maxRecDepth 100000
theorem wrapU_id {n : Int} (h0 : 0 ≤ n) (h1 : n < 18446744073709551616) : IntKind.u64.wrap n = n := by
  simp [IntKind.wrap, IntKind.signed, IntKind.bits]; omega
theorem andLow {n : Int} (h0 : 0 ≤ n) (h1 : n ≤ 1000000) : iAnd .u64 n 4294967295 = n := by
  obtain ⟨k, rfl⟩ : ∃ k : Nat, n = k := ⟨n.toNat, by omega⟩
  unfold iAnd
  have h2 : (BitVec.ofInt 64 (k : Int) &&& BitVec.ofInt 64 4294967295).toNat = k := by
    rw [BitVec.toNat_and]
    have e1 : (BitVec.ofInt 64 (k : Int)).toNat = k := by simp; omega
    have e2 : (BitVec.ofInt 64 4294967295).toNat = 2 ^ 32 - 1 := by decide
    rw [e1, e2, Nat.and_two_pow_sub_one_eq_mod]; omega
  show IntKind.u64.wrap ((BitVec.ofInt 64 (k : Int) &&& BitVec.ofInt 64 4294967295).toNat : Int) = k
  rw [h2]; exact wrapU_id (by omega) (by omega)
theorem shr32 {n : Int} (h0 : 0 ≤ n) (h1 : n ≤ 1000000) : iShr .u64 n 32 = 0 := by
  simp only [iShr]
  rw [show (min (32 : Int).toNat IntKind.u64.bits) = 32 from rfl, Int.fdiv_eq_ediv_of_nonneg _ (by decide)]
  omega
theorem mulU1 {n : Int} (h0 : 0 ≤ n) (h1 : n ≤ 1000000) : iMul .u64 1 n = n := by unfold iMul; rw [Int.one_mul]; exact wrapU_id h0 (by omega)
theorem mulU0 {n : Int} : iMul .u64 0 n = 0 := by unfold iMul; rw [Int.zero_mul]; rfl
theorem p74 (n : Int) (h0 : 0 ≤ n) (h1 : n ≤ 1000000) (H : AHeap) {Kk : AV → AHeap → Prop} (h : Kk (.tup [U 0, U n]) H) : ACalls Tryd.prog 74 [U 1, U n] H Kk := by
  refine (fun q => pureC (by rfl) (by rfl) q H h) ?_
  clear h
  intro Kk h
  obtain ⟨A, hA⟩ : ∃ A, A = std := ⟨_, rfl⟩
  refine go74 rfl (SGo_run hA ⟨[], [], [], []⟩ .nil .nil 200 fun T TD hT hTD => ?_)
  cbv
  refine leaf h ?_ rfl
  subst hA
  have a1 : iAnd .u64 1 4294967295 = 1 := andLow (by omega) (by omega)
  have a2 : iAnd .u64 n 4294967295 = n := andLow h0 h1
  have a3 : iShr .u64 1 32 = 0 := shr32 (n := 1) (by omega) (by omega)
  have a4 : iShr .u64 n 32 = 0 := shr32 h0 h1
  have a7 : iAdd .u64 0 0 = 0 := by rfl
  have a8 : iAnd .u64 0 4294967295 = 0 := andLow (n := 0) (by omega) (by omega)
  have a9 : iShr .u64 0 32 = 0 := shr32 (n := 0) (by omega) (by omega)
  obtain ⟨g11, hg⟩ : ∃ g, g = iAdd .u64 (iMul .u64 (iShr .u64 1 32) (iAnd .u64 n 4294967295)) (iShr .u64 (iMul .u64 (iAnd .u64 1 4294967295) (iAnd .u64 n 4294967295)) 32) := ⟨_, rfl⟩
  have hg2 := hg
  rw [a3, a1, a2, mulU0, mulU1 h0 h1, a4, a7] at hg2
  have : AV.tup [U 0, U n] = AV.tup [U (iAdd .u64 (iAdd .u64 (iMul .u64 (iShr .u64 1 32) (iShr .u64 n 32)) (iShr .u64 g11 32)) (iShr .u64 (iAdd .u64 (iAnd .u64 g11 4294967295) (iMul .u64 (iAnd .u64 1 4294967295) (iShr .u64 n 32))) 32)), U (iMul .u64 1 n)] := by
    rw [hg2, a1, a3, a4, a8, a9, mulU0, mulU1 (by omega) (by omega), mulU1 h0 h1, a7, a9, a7]
  rw [hg] at this
  exact this
def eMul64 : List AV → Option ((AV → Prop) → Prop)
  | [.lit (.int .u64 a), .lit (.int .u64 n)] => some fun K => ∃ _u : Unit, (a = 1 ∧ 0 ≤ n ∧ n ≤ 1000000) ∧ K (.tup [U 0, U n])
  | _ => none
theorem eMul64_ok {f : Nat} (hf : ∀ (n : Int), 0 ≤ n → n ≤ 1000000 → ∀ (H : AHeap) {Kk : AV → AHeap → Prop}, Kk (.tup [U 0, U n]) H → ACalls Tryd.prog f [U 1, U n] H Kk) : ∀ args pt, eMul64 args = some pt → ∀ (H : AHeap) (Kk : AV → AHeap → Prop), pt (fun r => Kk r H) → ACalls Tryd.prog f args H Kk := by
  intro args pt h H Kk hk
  unfold eMul64 at h
  split at h
  · cases h
    obtain ⟨_, ⟨rfl, h1, h2⟩, h3⟩ := hk
    exact hf _ h1 h2 H h3
  · cases h
theorem p67 (n : Int) (h0 : 0 ≤ n) (h1 : n ≤ 1000000) (H : AHeap) {Kk : AV → AHeap → Prop} (h : Kk (.tup [U 0, U n]) H) : ACalls Tryd.prog 67 [U 1, U n] H Kk := by
  refine (fun q => pureC (by rfl) (by rfl) q H h) ?_
  clear h
  intro Kk h
  obtain ⟨A, hA⟩ : ∃ A, A = std := ⟨_, rfl⟩
  refine go67 rfl (SGo_run hA ⟨[], [], (74, eMul64) :: [], []⟩ (.cons (eMul64_ok p74) .nil) .nil 200 fun T TD hT hTD => ?_)
  cbv
  refine Exists.intro () (And.intro ⟨rfl, h0, h1⟩ ?_); cbv
  exact h
end Go.Sas
namespace Go.Sas
open Go.Proofs
set_option maxRecDepth 100000
def repC (N k : Nat) (x : Int) : List AV := rowA N fun q => I (if q < k then x else 0)
theorem repC_eq {N k : Nat} {x : Int} (h : k ≤ N) : repC N k x = List.replicate k (I x) ++ List.replicate (N - k) (I 0) := by
  apply List.ext_getElem?
  intro i
  unfold repC rowA
  rw [List.getElem?_map]
  by_cases h1 : i < N
  · rw [List.getElem?_range h1]
    by_cases h2 : i < k
    · rw [List.getElem?_append_left (by simpa using h2), List.getElem?_replicate, if_pos h2]; simp [h2]
    · rw [List.getElem?_append_right (by simpa using h2), List.getElem?_replicate, if_pos (by simp; omega)]; simp [h2]
  · rw [List.getElem?_eq_none (by simpa using h1), List.getElem?_eq_none (by simp; omega)]; rfl
theorem repC_len {N k : Nat} {x : Int} : (repC N k x).length = N := rowA_len
theorem repC_cpy {N k r : Nat} {x : Int} (hk : k ≤ N) (hr : r = N - k) : repC N (k + min k r) x = (repC N k x).take k ++ ((repC N k x).take k).take (min k r * 1) ++ (repC N k x).drop (k + min k r * 1) := by
  rw [repC_eq hk, repC_eq (by omega), Nat.mul_one]
  have e1 : (List.replicate k (I x) ++ List.replicate (N - k) (I 0)).take k = List.replicate k (I x) := by rw [List.take_left' (by simp)]
  have e2 : (List.replicate k (I x) ++ List.replicate (N - k) (I 0)).drop (k + min k r) = List.replicate (N - (k + min k r)) (I 0) := by
    rw [List.drop_append, List.drop_eq_nil_of_le (by simp), List.nil_append, List.length_replicate, List.drop_replicate]; congr 1; omega
  rw [e1, e2, List.take_replicate, show min (min k r) k = min k r by omega, ← List.replicate_append_replicate]
theorem cpy_act {e : Env} {H : AHeap} {sz id g off len n : Nat} {d s : Od} {cs xs cs2 : List AV} (hd : ev e d = .ms sz id g off len) (hs : cellsOfSl H sz (ev e s) = some xs) (hn : lenOfSl (ev e s) = some n) (hX : H[id]? = some (.own g cs)) (hb : off + len * sz ≤ cs.length) {H2 : AHeap}
    (hc : cs2 = cs.take off ++ xs.take (min n len * sz) ++ cs.drop (off + min n len * sz)) (h2 : H.set id (.own g cs2) = H2) : opAct (ev e) H (.cpy sz d s) = some (I (iLen (min n len)), H2) := by
  subst h2 hc
  simp only [opAct, hs, hn, hd, hX]
  rw [if_pos ⟨trivial, trivial, hb⟩]; rfl
theorem p59 (N : Nat) (x : Int) (hN : N ≤ 1000) (h1 : 1 ≤ N) {Kk : AV → AHeap → Prop} (h : Kk (.ms 1 0 0 0 N) [.own 0 (repC N N x)]) : ACalls Tryd.prog 59 [.vs 1 [I x], I (iLen N)] [] Kk := by
  obtain ⟨n, hn⟩ : ∃ n, n = iLen N := ⟨_, rfl⟩
  rw [← hn]
  obtain ⟨A, hA⟩ : ∃ A, A = std := ⟨_, rfl⟩
  have hsg : ∀ g, A.sg g g := by subst hA; exact fun _ => rfl
  have hlt : A.lt n 0 = false := by subst hA; rw [hn]; simp only [std, iLt, decide_eq_false_iff_not]; unfold iLen; omega
  refine go59 rfl ?_
  refine AGo_opq fun RR hRR => ?_
  refine SGo_run hA ⟨[0], [], (67, eMul64) :: [], []⟩ (.cons (eMul64_ok p67) .nil) .nil 200 fun T TD hT hTD => ?_
  cbv
  split <;> cbv
  · rename_i hz; exact Bool.noConfusion (hz.symm.trans hlt)
  have hc1 : A.cv .u64 (A.vlen [I x]) = 1 := by subst hA; rfl
  have hc2 : A.cv .u64 n = n := by subst hA; rw [hn]; exact wrapU_id (by unfold iLen; omega) (by unfold iLen; omega)
  have hnb : 0 ≤ n ∧ n ≤ 1000 := by rw [hn]; unfold iLen; omega
  refine Exists.intro () (And.intro ⟨hc1, by show 0 ≤ A.cv .u64 n; rw [hc2]; omega, by show A.cv .u64 n ≤ _; rw [hc2]; omega⟩ ?_); cbv
  have hl0 : A.lt 0 0 = false := by subst hA; rfl
  have hl1 : A.lt 9223372036854775807 (A.cv .u64 n) = false := by rw [hc2]; subst hA; simp only [std, iLt, decide_eq_false_iff_not]; omega
  split <;> cbv
  · rename_i hz; exact Bool.noConfusion (hz.symm.trans hl0)
  split <;> cbv
  · rename_i hz; exact Bool.noConfusion (hz.symm.trans hl1)
  have hc3 : A.cv .i64 (A.cv .u64 n) = n := by rw [hc2]; subst hA; exact wrap_id (by omega) (by omega)
  have hmk : A.mkz 1 8 [.int .i64 0] (A.cv .i64 (A.cv .u64 n)) (A.cv .i64 (A.cv .u64 n)) (rowA N fun _ => I 0) N := by rw [hc3]; subst hA; exact mkS_rowA hn (by omega) (by omega)
  obtain ⟨z, hz⟩ : ∃ z, z = rowA N fun _ => I 0 := ⟨_, rfl⟩
  rw [← hz] at hmk
  have hzl : z.length = N := by rw [hz, rowA_len]
  refine Exists.intro z (Exists.intro N (And.intro hmk ?_)); cbv
  rw [hT]
  obtain ⟨RC, hRC⟩ : ∃ f : Nat → List AV, f = fun k => repC N k x := ⟨_, rfl⟩
  refine AGo_act (r := I 1) (H' := [.own 0 (RC 1)]) rfl ?_ ?_
  · have := cpy_act (e := ⟨[(32, .vs 1 [I x]), (31, .ms 1 0 0 0 N)], []⟩) (H := [.own 0 z]) (sz := 1) (d := .l 31) (s := .l 32) (xs := [I x]) (n := 1) (cs2 := RC 1) (H2 := [.own 0 (RC 1)]) rfl rfl rfl rfl (by omega) (by
      rw [hRC, hz]; dsimp only
      rw [repC_eq h1, show min 1 N * 1 = 1 by omega]
      have : (rowA N fun _ => I 0) = List.replicate N (I 0) := by
        have := repC_eq (N := N) (k := 0) (x := x) (Nat.zero_le _)
        simpa [repC] using this
      rw [this]; simp) rfl
    rw [show min 1 N = 1 by omega] at this
    exact this
  refine SGo_run hA ⟨[0], [], [], []⟩ .nil .nil 200 fun T TD hT hTD => ?_
  cbv
  rw [hT]
  refine AGo_whileE (σ := Nat) [7] (fun k => N - k) (fun k => 1 ≤ k ∧ k ≤ N) (fun k => [(8, I (iLen k))]) (fun k => [.own 0 (RC k)]) 1 ⟨Nat.le_refl _, h1⟩ ⟨rfl, trivial⟩ (.inl rfl) fun k hP Bk hB => ?_
  obtain ⟨hk1, hk2⟩ := hP
  obtain ⟨ik, hik⟩ : ∃ q, q = iLen k := ⟨_, rfl⟩
  rw [← hik]
  obtain ⟨cs, hcs⟩ : ∃ q, q = RC k := ⟨_, rfl⟩
  rw [← hcs]
  have hlt2 : A.lt ik (A.len N) = decide (k < N) := by subst hA; simp only [std, iLt]; rw [decide_eq_decide, hik]; unfold iLen; omega
  refine SGo_run hA ⟨[0], [0], [], []⟩ .nil .nil 200 fun T TD hT hTD => ?_
  cbv
  split <;> cbv
  · rename_i hz2
    have hkN : k < N := by have hz := hlt2.symm.trans hz2; simpa using hz
    obtain ⟨r, hr⟩ : ∃ r, r = N - k := ⟨_, rfl⟩
    have hs1 : A.slm 1 1 0 N (some ik) none k r := by
      rw [hr]
      subst hA; refine ⟨rfl, k, N, ?_, rfl, by omega, Nat.le_refl _, by omega, rfl⟩
      rw [hik]; simp only [bdI]; rw [if_pos (by unfold iLen; omega)]; rfl
    have hs2 : A.slm 1 1 0 N none (some ik) 0 k := by
      subst hA; refine ⟨rfl, 0, k, rfl, ?_, by omega, by omega, by omega, rfl⟩
      rw [hik]; simp only [bdI]; rw [if_pos (by unfold iLen; omega)]; rfl
    repeat refine And.intro (hsg _) ?_
    refine Exists.intro k (Exists.intro r (And.intro hs1 ?_)); cbv
    repeat refine And.intro (hsg _) ?_
    refine Exists.intro 0 (Exists.intro k (And.intro hs2 ?_)); cbv
    rw [hTD]
    obtain ⟨k2, hk3⟩ : ∃ k2, k2 = k + min k r := ⟨_, rfl⟩
    have hcl : cs.length = N := by rw [hcs, hRC]; exact repC_len
    refine DGo_act (r := I (iLen (min k r))) (H' := [.own 0 (RC k2)]) rfl rfl ?_ (by subst hA; simp [std, Keep, SubH, ResK]) ?_
    · refine cpy_act (sz := 1) (id := 0) (g := 0) (off := k) (len := r) (n := k) (cs := cs) (xs := cs.take k) rfl ?_ rfl rfl (by omega) ?_ rfl
      · show cellsOfSl [.own 0 cs] 1 (.ms 1 0 0 0 k) = _
        simp only [cellsOfSl, List.getElem?_cons_zero]
        rw [if_pos (by simp; omega)]; simp
      · rw [hcs, hRC]; dsimp only
        rw [hk3]; exact repC_cpy (by omega) hr
    have hn2 : A.add .i64 ik (iLen (min k r)) = iLen k2 := by
      subst hA; rw [hik, hk3]; show iAdd .i64 _ _ = _
      rw [iAdd_id (by unfold iLen; omega) (by unfold iLen; omega)]; unfold iLen; omega
    obtain ⟨ic, hic⟩ : ∃ q, q = iLen (min k r) := ⟨_, rfl⟩
    rw [← hic] at hn2 ⊢
    obtain ⟨cs2, hcs2⟩ : ∃ q, q = RC k2 := ⟨_, rfl⟩
    rw [← hcs2]
    refine SD_run hA ⟨[], [], [], []⟩ .nil .nil 200 200 ?_ fun T TD hT hTD => ?_
    · intro D' hD'; cases hD'; simp [SubH, KcOk]
    cbv
    refine hB k2 _ _ (by omega) ⟨by omega, by omega⟩ ⟨congrArg I hn2, trivial⟩ ⟨rfl, trivial⟩ (.inl (by rw [hcs2]))
  · rename_i hz2
    have hkN : ¬ k < N := by have hz := hlt2.symm.trans hz2; simpa using hz
    refine And.intro (hsg _) (hRR _ _ ?_)
    cbv
    have hcs : cs = repC N N x := by rw [hcs, hRC, show k = N by omega]
    rw [hcs]
    exact h
def eRepeat : List AV → AHeap → Option PT
  | [.vs 1 [.lit (.int .i64 x)], .lit (.int .i64 n)], H => some fun K => ∃ N : Nat, n = iLen N ∧ 1 ≤ N ∧ N ≤ 1000 ∧ ∀ cs, cs = repC N N x → K (.ms 1 H.length 0 0 N) (H ++ [.own 0 cs])
  | _, _ => none
theorem eRepeat_ok : ∀ args H pt, eRepeat args H = some pt → ∀ (Kk : AV → AHeap → Prop), pt Kk → ACalls Tryd.prog 59 args H Kk := by
  intro args H pt h Kk hk
  unfold eRepeat at h
  split at h
  · rename_i x n
    cases h
    obtain ⟨N, rfl, h1, h2, hk⟩ := hk
    have hk := hk _ rfl
    have hcn : AV.nidL (repC N N x) = true := nidL_rowA (fun _ => rfl)
    have h3 := p59 N x h2 h1 (Kk := fun r H' => r = .ms 1 0 0 0 N ∧ H' = [.own 0 (repC N N x)]) ⟨rfl, rfl⟩
    have h4 := ACalls.frame (H := H) [] h3 List.nodup_nil rfl (AV.ltL_nid (by rfl)) (by simp [ltH]) (fun k X hk => by simp at hk)
    rw [AV.renL_nid (by rfl)] at h4
    refine h4.mono fun r H' hx => ?_
    obtain ⟨r0, H1, ⟨rfl, rfl⟩, _, rfl, rfl⟩ := hx
    have hre : ∀ m0, AV.renL m0 (repC N N x) = repC N N x := fun m0 => AV.renL_nid hcn
    simpa [merge, updL, more, AV.ren, AV.renL, at_, AObj.ren, List.range', hre] using hk
  · cases h
end Go.Sas
namespace Go.Sas
open Go.Proofs
set_option maxRecDepth 100000
theorem putF_putF {f : Nat → Int} {l : Sps} {s : Int × Int} {v : Int} : putF (putF f l v) [s] v = putF f (l ++ [s]) v := by
  funext p
  unfold putF
  have e : inL (l ++ [s]) p = (inL l p || inL [s] p) := by simp [inL]
  rw [e]
  cases h1 : inL l p <;> cases h2 : inL [s] p <;> by_cases h3 : f p = 1 <;> by_cases h4 : v = 1 <;> simp [h3, h4]
def rowI (N : Nat) (f : Nat → Int) : List AV := rowA N fun q => I (f q)
theorem p60 (l : Sps) (v : Int) (N : Nat) (f : Nat → Int) (hN : N ≤ 1000) (hl : SpOk N l) {Kk : AV → AHeap → Prop} (h : Kk (.tup []) [.own 0 (rowI N (putF f l v)), .own 0 [.ms 1 0 0 0 N]]) : ACalls Tryd.prog 60 [.vs 2 (l.map sp), I v, .mp 1 0 0] [.own 0 (rowI N f), .own 0 [.ms 1 0 0 0 N]] Kk := by
  obtain ⟨xs, hxs⟩ : ∃ xs, xs = l.map sp := ⟨_, rfl⟩
  rw [← hxs]
  obtain ⟨hl1, hl2⟩ := hl
  have hl2 : ∀ s ∈ l, 0 ≤ s.1 ∧ s.2 ≤ iLen N - 1 := hl2
  obtain ⟨A, hA⟩ : ∃ A, A = std := ⟨_, rfl⟩
  have hsg : ∀ g, A.sg g g := by subst hA; exact fun _ => rfl
  obtain ⟨RW, hRW⟩ : ∃ F : (Nat → Int) → List AV, F = fun f => rowI N f := ⟨_, rfl⟩
  have e1 : rowI N f = RW f := by rw [hRW]
  have e2 : rowI N (putF f l v) = RW (putF f l v) := by rw [hRW]
  rw [e1]
  rw [e2] at h
  refine go60 rfl ?_
  refine AGo_opq fun RR hRR => ?_
  refine SGo_run hA ⟨[0], [], [], []⟩ .nil .nil 200 fun T TD hT hTD => ?_
  cbv
  rw [hT]
  have h0 : RW f = RW (putF f (l.take 0) v) := by congr 1; funext p; simp [putF, inL]
  refine AGo_upE [1, 2, 8, 9] l.length (fun j (_ : Unit) => True) (fun j _ i => [(10, I i)]) (fun j _ => [.own 0 (RW (putF f (l.take j) v)), .own 0 [.ms 1 0 0 0 N]]) () trivial ⟨rfl, trivial⟩ (.inl (by rw [← h0])) fun j _ i hi hj hP Bk hB => ?_
  have hlt : A.lt i (A.vlen xs) = decide (j < l.length) := by subst hA; exact lt_len (by simp [hxs]) hi
  have hadd : ∀ N, j < N → N ≤ 9223372036854775807 → A.add .i64 i 1 = iLen (j + 1) := fun N hj hN => by subst hA; exact add_one hi hj hN
  obtain ⟨c1, hc1⟩ : ∃ r, r = RW (putF f (l.take j) v) := ⟨_, rfl⟩
  rw [← hc1]
  refine SGo_run hA ⟨[0], [], [], []⟩ .nil .nil 200 fun T TD hT hTD => ?_
  cbv
  split <;> cbv
  · rename_i hk0
    have hk1 : j < l.length := by have hz := hlt.symm.trans hk0; simpa using hz
    clear hk0
    obtain ⟨⟨lo, hi2⟩, hx⟩ : ∃ x, l[j]? = some x := ⟨_, List.getElem?_eq_getElem hk1⟩
    have hix : A.ix 2 2 xs i [I lo, I hi2] := by subst hA; exact ix_map hxs hi hx rfl
    have hb := hl2 _ (List.mem_of_getElem? hx)
    dsimp only at hb
    refine Exists.intro _ (And.intro hix ?_); cbv
    rw [hT]
    obtain ⟨base, hbase⟩ : ∃ g, g = putF f (l.take j) v := ⟨_, rfl⟩
    rw [← hbase] at hc1
    obtain ⟨G, hG⟩ : ∃ G : Nat → Nat → Int, G = fun k => putF base [(lo, lo + iLen k - 1)] v := ⟨_, rfl⟩
    have hin : ∀ a b (p : Nat), inL [(a, b)] p = decide (a ≤ p ∧ (p : Int) ≤ b) := fun a b p => by simp [inL]
    have hG0 : RW base = RW (G 0) := by
      congr 1; funext p; rw [hG]; unfold putF; dsimp only; rw [hin, if_neg]
      rintro ⟨_, h2⟩; have := of_decide_eq_true h2; unfold iLen at this; omega
    have hGn : ∀ k, (lo + iLen k ≤ hi2 + 1 ∨ k = 0) → ¬ lo + iLen k ≤ hi2 → G k = putF f (l.take (j + 1)) v := by
      intro k h1 h2
      rw [hG, List.take_add_one, hx, Option.toList_some, ← putF_putF, ← hbase]
      funext p; unfold putF; dsimp only; rw [hin, hin]
      have : (lo ≤ (p : Int) ∧ (p : Int) ≤ lo + iLen k - 1) ↔ (lo ≤ (p : Int) ∧ (p : Int) ≤ hi2) := by
        unfold iLen at *; omega
      simp only [this]
    refine AGo_whileE (σ := Nat) [1, 2, 6, 8, 9, 10] (fun k => (hi2 + 1 - lo).toNat - k) (fun k => lo + iLen k ≤ hi2 + 1 ∨ k = 0) (fun k => [(7, I (lo + iLen k))]) (fun k => [.own 0 (RW (G k)), .own 0 [.ms 1 0 0 0 N], .own 0 [I lo, I hi2]]) 0 (.inr rfl) ⟨congrArg I (by unfold iLen; omega), trivial⟩ (.inl (by rw [hc1, hG0])) fun k hP Bk2 hB2 => ?_
    obtain ⟨ip, hip⟩ : ∃ q, q = lo + iLen k := ⟨_, rfl⟩
    rw [← hip]
    rw [← hip] at hP
    have hle : A.le ip hi2 = decide (ip ≤ hi2) := by subst hA; rfl
    obtain ⟨c2, hc2⟩ : ∃ r, r = RW (G k) := ⟨_, rfl⟩
    rw [← hc2]
    refine SGo_run hA ⟨[0], [], [], []⟩ .nil .nil 200 fun T TD hT hTD => ?_
    cbv
    split <;> cbv
    · rename_i hz
      have hz : ip ≤ hi2 := by have hz := hle.symm.trans hz; simpa using hz
      have hk0 : 0 ≤ iLen k := by unfold iLen; omega
      obtain ⟨p, hp⟩ : ∃ p : Nat, ip = iLen p := ⟨ip.toNat, by unfold iLen; omega⟩
      have hpk : (p : Int) = lo + iLen k := by rw [← hip, hp]; rfl
      have hpN : p < N := by unfold iLen at hp hb; omega
      have hixp : A.ixm 1 1 0 N ip p := by subst hA; exact ixm1 hp hpN
      obtain ⟨x, hx2⟩ : ∃ x, x = base p := ⟨_, rfl⟩
      have hGp : G k p = x := by
        rw [hG]; unfold putF; dsimp only; rw [hin, if_neg, hx2]
        rintro ⟨_, h2⟩; have this : lo ≤ (p : Int) ∧ (p : Int) ≤ lo + iLen k - 1 := of_decide_eq_true h2; omega
      have hGs : ∀ q, G (k + 1) q = if q = p then (if x ≠ 1 then v else x) else G k q := by
        intro q
        rw [hG]; unfold putF; dsimp only; rw [hin, hin]
        by_cases hq : q = p
        · subst hq
          rw [if_pos rfl, ← hx2]
          have : (lo ≤ (q : Int) ∧ (q : Int) ≤ lo + iLen (k + 1) - 1) := by unfold iLen at *; omega
          simp [this]
        · rw [if_neg hq]
          have : (lo ≤ (q : Int) ∧ (q : Int) ≤ lo + iLen (k + 1) - 1) ↔ (lo ≤ (q : Int) ∧ (q : Int) ≤ lo + iLen k - 1) := by unfold iLen at *; omega
          simp only [this]
      have hget : A.get none c2 p (I x) := by subst hA; rw [hc2, hRW]; exact getS_rowA hpN (congrArg I hGp)
      have hne : A.ne x 1 = decide (x ≠ 1) := by subst hA; simp only [std, iNe]; rw [Bool.eq_iff_iff]; simp
      have hadd : A.add .i64 ip 1 = lo + iLen (k + 1) := by
        subst hA; show iAdd .i64 ip 1 = _; rw [iAdd_id (by unfold iLen at hb hp; omega) (by unfold iLen at hb hp; omega), hip]; unfold iLen; omega
      have hmu : (hi2 + 1 - lo).toNat - (k + 1) < (hi2 + 1 - lo).toNat - k := by unfold iLen at hip; omega
      have hP' : lo + iLen (k + 1) ≤ hi2 + 1 ∨ k + 1 = 0 := .inl (by unfold iLen at *; omega)
      refine And.intro (hsg _) (Exists.intro p (And.intro hixp ?_)); cbv
      refine And.intro (hsg _) (Exists.intro _ (And.intro hget ?_)); cbv
      split <;> cbv
      · rename_i hz
        have hz := of_decide_eq_true (hne.symm.trans hz)
        obtain ⟨c3, hc3⟩ : ∃ r, r = RW (G (k + 1)) := ⟨_, rfl⟩
        have hxv : (if x ≠ 1 then v else x) = v := if_pos hz
        have hup : A.upd 1 c2 p [I v] c3 := by
          subst hA; rw [hc2, hc3, hRW]
          refine updS_rowA hpN fun q _ => ?_
          rw [hGs]
          by_cases hq : q = p
          · rw [if_pos hq, if_pos hq, hxv]
          · rw [if_neg hq, if_neg hq]
        refine And.intro (hsg _) (Exists.intro p (And.intro hixp ?_)); cbv
        refine And.intro (hsg _) (Exists.intro _ (And.intro hup ?_)); cbv
        exact hB2 (k + 1) _ _ hmu hP' ⟨congrArg I hadd, trivial⟩ ⟨rfl, rfl, rfl, rfl, rfl, rfl, trivial⟩ (.inl (by rw [hc3]))
      · rename_i hz
        have hz : x = 1 := by have := of_decide_eq_false (hne.symm.trans hz); omega
        refine hB2 (k + 1) _ _ hmu hP' ⟨congrArg I hadd, trivial⟩ ⟨rfl, rfl, rfl, rfl, rfl, rfl, trivial⟩ (.inl ?_)
        have : G (k + 1) = G k := by
          funext q; rw [hGs]
          by_cases hq : q = p
          · rw [if_pos hq, if_neg (by omega), hq, hGp]
          · rw [if_neg hq]
        rw [this, hc2]
    · rename_i hz
      have hz : ¬ ip ≤ hi2 := by have hz := hle.symm.trans hz; simpa using hz
      refine hB () _ _ hk1 trivial ⟨congrArg I (hadd _ hk1 (by omega)), trivial⟩ ⟨rfl, rfl, rfl, rfl, trivial⟩ (.inr ⟨⟨[.own 0 [I lo, I hi2]], ?_⟩, by simp, by simp [ltG, AV.lt, AV.ltL, keepS, look], ?_⟩)
      · rw [← hGn k (by rw [← hip]; exact hP) (by rw [← hip]; exact hz), ← hc2]; rfl
      · have hcl : ∀ n g, AV.ltL n (RW g) := fun n g => AV.ltL_nid (by rw [hRW]; exact nidL_rowA (fun _ => rfl))
        simp [ltH, AObj.lt, AV.lt, AV.ltL, hcl]
  · rename_i hk0
    have hk1 : ¬ j < l.length := by have hz := hlt.symm.trans hk0; simpa using hz
    clear hk0
    refine hRR _ _ (RetP.same (vs := []) rfl rfl ?_)
    rw [hc1, List.take_of_length_le (by omega)]; exact h
def ePutV : List AV → AHeap → Option PT
  | [.vs 2 xs, .lit (.int .i64 v), .mp 1 0 0], [.own 0 cs, .own 0 [.ms 1 0 0 0 n]] => some fun K => ∃ (N : Nat) (l : Sps) (f : Nat → Int), n = N ∧ xs = l.map sp ∧ cs = rowI N f ∧ N ≤ 1000 ∧ SpOk N l ∧ ∀ cs2, cs2 = rowI N (putF f l v) → K (.tup []) [.own 0 cs2, .own 0 [.ms 1 0 0 0 N]]
  | _, _ => none
theorem ePutV_ok : ∀ args H pt, ePutV args H = some pt → ∀ (Kk : AV → AHeap → Prop), pt Kk → ACalls Tryd.prog 60 args H Kk := by
  intro args H pt h Kk hk
  unfold ePutV at h
  split at h
  · cases h
    obtain ⟨N, l, f, rfl, rfl, rfl, h1, h2, h3⟩ := hk
    exact p60 _ _ _ _ h1 h2 (h3 _ rfl)
  · cases h
/-- what a mark covers, of marks of some kind -/
def eCov (C : List Mrk → Int → Int → Prop) : List AV → Option ((AV → Prop) → Prop)
  | [.vs 5 xs, .lit (.int .i64 i), .lit (.int .i64 h), .lit (.int .i64 n)] => some fun K => ∃ (m : List Mrk) (k : Nat), xs = m.map mkV ∧ i = iLen k ∧ k < m.length ∧ C m h n ∧
      ∀ may sure, (may, sure) = covS m k h n → SpOk n may → SpOk n sure → ∀ ys zs, ys = may.map sp → zs = sure.map sp → K (.tup [.vs 2 ys, .vs 2 zs])
  | _ => none
def CovOk (C : List Mrk → Int → Int → Prop) : Prop := ∀ args pt, eCov C args = some pt → ∀ (H : AHeap) (Kk : AV → AHeap → Prop), pt (fun r => Kk r H) → ACalls Tryd.prog 61 args H Kk
theorem CovOk.nil : CovOk fun m _ _ => m = [] := by
  intro args pt h H Kk hk
  unfold eCov at h
  split at h
  · cases h
    obtain ⟨m, k, _, _, h1, rfl, _⟩ := hk
    simp at h1
  · cases h
theorem p37 (C : List Mrk → Int → Int → Prop) (hC : CovOk C) (m : List Mrk) (h0 : Int) (N : Nat) (hm : C m h0 (iLen N)) (hl : m.length ≤ 1000000) (hN : N ≤ 1000) (hN1 : 1 ≤ N) (H : AHeap) {Kk : AV → AHeap → Prop}
    (h : Kk (.vs 1 (((List.range N).map (verdS m h0 (iLen N))).map I)) H) : ACalls Tryd.prog 37 [.vs 5 (m.map mkV), I h0, I (iLen N)] H Kk := by
  refine (fun q => pureF (by rfl) (by rfl) q H h) ?_
  clear h
  intro Kk h
  obtain ⟨xs, hxs⟩ : ∃ xs, xs = m.map mkV := ⟨_, rfl⟩
  rw [← hxs]
  obtain ⟨F, hF⟩ : ∃ F, F = Frees 0 Kk := ⟨_, rfl⟩
  rw [← hF]
  obtain ⟨n, hn⟩ : ∃ n, n = iLen N := ⟨_, rfl⟩
  rw [← hn] at hm h ⊢
  obtain ⟨VF, hVF⟩ : ∃ f : Nat → List AV, f = fun k => rowI N (verdF m h0 n k) := ⟨_, rfl⟩
  have hend : ∀ X, F (aTup [.ms 1 0 0 0 N]) [.own 0 (VF m.length), X] := by
    intro X
    rw [hF, hVF]
    have e : rowI N (verdF m h0 n m.length) = ((List.range N).map (verdS m h0 n)).map I := rowA_map
    dsimp only
    rw [e]
    refine Frees.frz 0 0 1 (((List.range N).map (verdS m h0 n)).map I) rfl (Elems_I _) ?_
    have e2 : AV.frz 0 0 1 (((List.range N).map (verdS m h0 n)).map I) (aTup [.ms 1 0 0 0 N]) = .vs 1 (((List.range N).map (verdS m h0 n)).map I) := frz_self (by simp)
    rw [e2]
    exact Frees.drop0 h rfl
  obtain ⟨A, hA⟩ : ∃ A, A = std := ⟨_, rfl⟩
  have hsg : ∀ g, A.sg g g := by subst hA; exact fun _ => rfl
  refine go37 rfl ?_
  refine AGo_opq fun RR hRR => ?_
  refine SGo_run hA ⟨[], [], [], (59, eRepeat) :: []⟩ .nil (.cons eRepeat_ok .nil) 200 fun T TD hT hTD => ?_
  cbv
  refine Exists.intro N (And.intro hn (And.intro hN1 (And.intro hN ?_)))
  intro c0 hc0; cbv
  have hc0 : c0 = VF 0 := by
    rw [hc0, hVF]; unfold repC; dsimp only
    exact rowA_congr fun q hq => by rw [if_pos hq]; rfl
  have hnn : n = (N : Int) := hn
  clear hn
  rw [hT]
  refine AGo_upE [0, 1, 2, 7, 8, 17] m.length (fun j (_ : Unit) => True) (fun j _ i => [(18, I i)]) (fun j _ => [.own 0 (VF j), .own 0 [.ms 1 0 0 0 N]]) () trivial ⟨rfl, trivial⟩ (.inl (by rw [hc0])) fun j _ i hi hj hP Bk hB => ?_
  have hlt : A.lt i (A.vlen xs) = decide (j < m.length) := by subst hA; exact lt_len (by simp [hxs]) hi
  have hadd : ∀ N, j < N → N ≤ 9223372036854775807 → A.add .i64 i 1 = iLen (j + 1) := fun N hj hN => by subst hA; exact add_one hi hj hN
  obtain ⟨c1, hc1⟩ : ∃ r, r = VF j := ⟨_, rfl⟩
  rw [← hc1]
  refine SGo_run hA ⟨[], [], (61, eCov C) :: [], (60, ePutV) :: []⟩ (.cons hC .nil) (.cons ePutV_ok .nil) 200 fun T TD hT hTD => ?_
  cbv
  split <;> cbv
  · rename_i hk0
    have hk1 : j < m.length := by have hz := hlt.symm.trans hk0; simpa using hz
    clear hk0
    refine Exists.intro m (Exists.intro j (And.intro hxs (And.intro hi (And.intro hk1 (And.intro hm ?_)))))
    intro may sure hms hmay hsure ys zs hys hzs; cbv
    have hc1 : c1 = rowI N (verdF m h0 n j) := by rw [hc1, hVF]
    refine Exists.intro N (Exists.intro may (Exists.intro (verdF m h0 n j) (And.intro rfl (And.intro hys (And.intro hc1 (And.intro hN (And.intro (by rw [← hnn]; exact hmay) ?_)))))))
    intro c2 hc2; cbv
    refine Exists.intro N (Exists.intro sure (Exists.intro _ (And.intro rfl (And.intro hzs (And.intro hc2 (And.intro hN (And.intro (by rw [← hnn]; exact hsure) ?_)))))))
    intro c3 hc3; cbv
    refine hB () _ _ hk1 trivial ⟨congrArg I (hadd _ hk1 (by omega)), trivial⟩ ⟨rfl, rfl, rfl, rfl, rfl, rfl, trivial⟩ (.inl ?_)
    rw [hc3, hVF]; simp only [verdF]; rw [← hms]
  · rename_i hk0
    have hk1 : ¬ j < m.length := by have hz := hlt.symm.trans hk0; simpa using hz
    clear hk0
    refine hRR _ _ ?_
    cbv
    rw [hc1, show j = m.length by omega]
    exact hend _
end Go.Sas
