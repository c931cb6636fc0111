/-
Radar files: small facts for the walk of the examples.
Radar files: the looks of a track: contracts of both functions.
Conditions: none.
-/
import Derived.Test.YtpokfjhlilbpfaaDoorQPC1
import Derived.Test.YtpokfjhlilbpfaaDoorP8d
import Derived.Test.YtpokfjhlilbpfaaDoorQR42
set_option linter.unusedVariables false
set_option linter.unusedSimpArgs false
namespace Go.Sas
open Go.Proofs
set_option maxRecDepth 100000
section
variable {cx : Cx} {m : Nat} {k : List AItm} {R : Env → AHeap → Prop} {e : Env} {H : AHeap}
/-- a slice that is nil, as an object without cells -/
theorem AGo_niltmp (t sz : Nat) (ht : look e.g t = .lit (.slice none 0 0)) (h : AGo cx m k R ⟨e.l, gset e.g t (.ms sz H.length 0 0 0)⟩ (H ++ [.own 0 []])) : AGo cx m k R e H :=
  AGo_turn (fun st w hH => by
    obtain ⟨g1, g2, g3⟩ := push_none hH []
    refine ⟨_, g1, g2, fun _ _ h => h.mono g1.le, fun s v hv => ?_, fun _ h => h, fun s hs => ?_⟩
    · simp only [look_gset]
      split
      · rename_i he; subst he
        rw [ht] at hv
        simp only [RelV] at hv ⊢
        exact ⟨_, g3, Nat.le_refl _, fun h => absurd h (Nat.lt_irrefl _), fun _ => ⟨none, 0, hv, Nat.le_refl _, fun h => absurd h (Nat.lt_irrefl _)⟩⟩
      · exact hv.mono g1.le
    · simp only [look_gset]
      split
      · rename_i he; subst he
        rw [ht] at hs; cases hs
      · exact hs) h
end
theorem flen {α : Type} {f : α → List AV} {k : Nat} (h : ∀ x, (f x).length = k) : ∀ l : List α, (l.flatMap f).length = l.length * k
  | [] => by simp
  | x :: l => by rw [List.flatMap_cons, List.length_append, h, flen h l, List.length_cons, Nat.add_mul, Nat.one_mul, Nat.add_comm]
theorem Frees.weak {m : Nat} {Kk : AV → AHeap → Prop} {r : AV} {H : AHeap} (q : Nat) {gg : Nat} {cs : List AV} (hX : H[q]? = some (.own gg cs)) (h : Frees m Kk r (H.set q (.own gg []))) : Frees m Kk r H :=
  fun st0 w0 st w v hm he hH hr => h st0 w0 st w v hm he (hH.weak hX) hr
def eCheckT : List AV → Option ((AV → Prop) → Prop)
  | [.agg [.lit (.int .i64 a), .lit (.int .i64 b), .vs 4 xs]] => some fun K => ∃ es : List Ech, xs = es.map ecV ∧ es.length ≤ 9223372036854775807 ∧ ∀ q, q = checkT ⟨(a, b), es⟩ → K (I q)
  | _ => none
theorem eCheckT_ok {f : Nat} (hf : ∀ (t : Trk) (_ : t.ec.length ≤ 9223372036854775807) (H : AHeap) {Kk : AV → AHeap → Prop}, Kk (I (checkT t)) H → ACalls Tryd.prog f [tkV t.sp.1 t.sp.2 (.vs 4 (t.ec.map ecV))] H Kk) :
    ∀ args pt, eCheckT args = some pt → ∀ (H : AHeap) (Kk : AV → AHeap → Prop), pt (fun r => Kk r H) → ACalls Tryd.prog f args H Kk := by
  intro args pt h H Kk hk
  unfold eCheckT at h
  split at h
  · cases h
    obtain ⟨es, rfl, h1, h2⟩ := hk
    exact hf ⟨(_, _), es⟩ h1 H (h2 _ rfl)
  · cases h
end Go.Sas
namespace Go.Sas
open Go.Proofs
set_option maxRecDepth 100000
def looksA (t : Trk) : AV := .tup [.vs 5 ((looksK t).map lkV), I (checkT t)]
abbrev lkCT (x : Lk) : List AV := [I x.k, I x.p, I x.h, I x.lo, I x.hi]
theorem Elems_lk (l : List Lk) : Elems 5 (l.map lkV) (l.flatMap lkCT) := Elems_map (f := lkV) (g := lkCT) (sz := 5) (fun _ => rfl) (fun _ => rfl) (fun _ => rfl) l
theorem nidL_lkCT (l : List Lk) : AV.nidL (l.flatMap lkCT) = true := by
  induction l with
  | nil => rfl
  | cons x l ih => simpa [AV.nidL, AV.nid, List.flatMap_cons] using ih
theorem wk_nilL {q : Int} : Wk (.tup [.lit (.slice none 0 0), I q]) (.tup [.vs 5 (([] : List Lk).map lkV), I q]) := Wk.tup ⟨Wk.nil, Wk.rfl, trivial⟩
theorem mul_bndT {a x : Int} (h1 : 0 ≤ a) (h2 : a ≤ 1000) (h3 : 0 ≤ x) (h4 : x ≤ 1000000) : 0 ≤ a * x ∧ a * x ≤ 1000000000 := by
  refine ⟨Int.mul_nonneg h1 h3, ?_⟩
  have := Int.mul_le_mul h2 h4 h3 (by omega : (0 : Int) ≤ 1000)
  omega
set_option maxHeartbeats 2000000 in
theorem p27 (t : Trk) (hl : t.ec.length ≤ 9223372036854775807) (H : AHeap) {Kk : AV → AHeap → Prop} (h : Kk (looksA t) H) : ACalls Tryd.prog 27 [tkV t.sp.1 t.sp.2 (.vs 4 (t.ec.map ecV))] H Kk := by
  refine (fun q => pureF (by rfl) (by simp [looksA, AV.nid, AV.nidL]) q H h) ?_
  clear h
  intro Kk h
  obtain ⟨⟨a, b⟩, es⟩ := t
  dsimp only at hl ⊢
  obtain ⟨ys, hys⟩ : ∃ ys, ys = es.map ecV := ⟨_, rfl⟩
  rw [← hys]
  obtain ⟨W, hW⟩ : ∃ W, W = looksK ⟨(a, b), es⟩ := ⟨_, rfl⟩
  obtain ⟨e0, he0⟩ : ∃ e, e = checkT ⟨(a, b), es⟩ := ⟨_, rfl⟩
  unfold looksA at h
  rw [← hW, ← he0] at h
  unfold looksK at hW
  rw [← he0] at hW
  obtain ⟨A, hA⟩ : ∃ A, A = std := ⟨_, rfl⟩
  obtain ⟨F, hF⟩ : ∃ F, F = Frees 0 Kk := ⟨_, rfl⟩
  rw [← hF]
  have hne : ∀ q, A.ne q 0 = decide (q ≠ 0) := by subst hA; intro q; simp only [std, iNe]; rw [Bool.eq_iff_iff]; simp
  refine go27 rfl (SGo_run hA ⟨[1], [], (48, eCheckT) :: [], []⟩ (.cons (eCheckT_ok p48) .nil) .nil 200 fun T TD hT hTD => ?_)
  cbv
  refine Exists.intro es (And.intro hys (And.intro hl ?_))
  intro q hq; cbv
  rw [← he0] at hq
  split <;> cbv
  · rename_i hz
    have hz : q ≠ 0 := by have := (hne q).symm.trans hz; simpa using this
    rw [← hq] at h hW
    rw [if_neg hz] at hW
    rw [hW] at h
    rw [hF]
    exact Frees.wk wk_nilL (Frees.drop0 h rfl)
  rename_i hz
  have hz : q = 0 := by have := (hne q).symm.trans hz; simpa using this
  subst hz
  have hV := checkT_ok (he0.symm.trans hq.symm)
  rw [← hq, if_pos rfl] at hW
  rw [← hq] at h
  have v1 := hV.s1
  have v2 := hV.s2
  have v3 := hV.len
  dsimp only at v1 v2 v3
  rw [hT]
  refine AGo_niltmp 5 5 rfl ?_
  refine AGo_upE [1, 16, 17] es.length (fun j (l : List Lk) => l.length = j ∧ W = l ++ (es.drop j).map (echL (a, b))) (fun j _ i => [(18, I i), (5, .ms 5 1 j 0 j)]) (fun j l => [.own 0 [I a, I b, .vs 4 ys], .own j (l.flatMap lkCT)]) [] ⟨rfl, hW⟩ ⟨rfl, rfl, trivial⟩ (.inl rfl) fun j l i hi hj hP Bk hB => ?_
  obtain ⟨hPl, hP⟩ := hP
  have hlt : A.lt i (A.vlen ys) = decide (j < es.length) := by subst hA; exact lt_len (by simp [hys]) hi
  have hadd : ∀ N, j < N → N ≤ 9223372036854775807 → A.add .i64 i 1 = iLen (j + 1) := fun N hj hN => by subst hA; exact add_one hi hj hN
  obtain ⟨cc, hcc⟩ : ∃ c, c = l.flatMap lkCT := ⟨_, rfl⟩
  rw [← hcc]
  have happ : ∀ v w x y z : Int, A.app 5 5 40 cc 0 j [.agg [I v, I w, I x, I y, I z]] (cc ++ [I v, I w, I x, I y, I z]) (j + 1) := fun v w x y z => by subst hA; exact app_one (by rw [hcc, flen (f := lkCT) (k := 5) (fun _ => rfl), hPl]) rfl (by omega)
  refine SGo_run hA ⟨[1], [], [], []⟩ .nil .nil 200 fun T TD hT hTD => ?_
  cbv
  split <;> cbv
  · rename_i hk0
    have hk1 : j < es.length := by have hz := hlt.symm.trans hk0; simpa using hz
    clear hk0
    obtain ⟨⟨x1, x2, x3, x4⟩, hx⟩ : ∃ x, es[j]? = some x := ⟨_, List.getElem?_eq_getElem hk1⟩
    have hix : A.ix 4 4 ys i [I x1, I x2, I x3, I x4] := by subst hA; exact ix_map hys hi hx rfl
    have hb := hV.all _ (List.mem_of_getElem? hx)
    dsimp only at hb
    have hm1 : 0 ≤ a * x3 ∧ a * x3 ≤ 1000000000 := mul_bndT (by omega) (by omega) (by omega) (by omega)
    have hm2 : 0 ≤ b * x4 ∧ b * x4 ≤ 1000000000 := mul_bndT (by omega) (by omega) (by omega) (by omega)
    rw [drop_cons hx] at hP
    refine Exists.intro _ (And.intro hix ?_); cbv
    obtain ⟨cc2, hcc2⟩ : ∃ c, c = cc ++ [I 3, I x1, I x2, I (A.min (A.quo .i64 (A.mul .i64 a x3) 2000) 3000), I (A.min (A.quo .i64 (A.add .i64 (A.mul .i64 b x4) 1999) 2000) 3000)] := ⟨_, rfl⟩
    have happ2 : A.app 5 5 40 cc 0 j [.agg [I 3, I x1, I x2, I (A.min (A.quo .i64 (A.mul .i64 a x3) 2000) 3000), I (A.min (A.quo .i64 (A.add .i64 (A.mul .i64 b x4) 1999) 2000) 3000)]] cc2 (j + 1) := by rw [hcc2]; exact happ _ _ _ _ _
    refine And.intro (by subst hA; rfl) (Exists.intro _ (Exists.intro _ (And.intro happ2 (And.intro rfl ?_)))); cbv
    have he1 : A.min (A.quo .i64 (A.mul .i64 a x3) 2000) 3000 = min (a * x3 / 2000) 3000 := by
      subst hA; simp only [std, iMin_eq]
      rw [iMul_id (by omega) (by omega)]
      generalize a * x3 = m at hm1
      rw [iQuo_id (by omega) (by omega) (by omega)]
    have he2 : A.min (A.quo .i64 (A.add .i64 (A.mul .i64 b x4) 1999) 2000) 3000 = min ((b * x4 + 1999) / 2000) 3000 := by
      subst hA; simp only [std, iMin_eq]
      rw [iMul_id (by omega) (by omega)]
      generalize b * x4 = m at hm2
      rw [iAdd_id (by omega) (by omega), iQuo_id (by omega) (by omega) (by omega)]
    refine hB (l ++ [echL (a, b) ⟨x1, x2, x3, x4⟩]) _ _ hk1 ⟨by simp [hPl], ?_⟩ ⟨congrArg I (hadd _ hk1 (by omega)), rfl, trivial⟩ ⟨rfl, rfl, rfl, trivial⟩ (.inr ⟨⟨[.own 0 [I x1, I x2, I x3, I x4]], ?_⟩, Nat.zero_le _, by simp [ltG, AV.lt, AV.ltL, keepS, look, gset], ?_⟩)
    · rw [hP]; simp
    · have : (l ++ [echL (a, b) ⟨x1, x2, x3, x4⟩]).flatMap lkCT = cc ++ [I 3, I x1, I x2, I (min (a * x3 / 2000) 3000), I (min ((b * x4 + 1999) / 2000) 3000)] := by
        rw [hcc]; simp [echL]
      rw [this, ← he1, ← he2, ← hcc2]; rfl
    · exact ⟨by simp [AObj.lt, AV.ltL, AV.lt], AV.ltL_nid (nidL_lkCT _), trivial⟩
  · rename_i hk0
    have hk1 : ¬ j < es.length := by have hz := hlt.symm.trans hk0; simpa using hz
    clear hk0
    rw [List.drop_eq_nil_of_le (by omega)] at hP
    have hP : W = l := by simpa using hP
    rw [hP] at h
    rw [hF]
    refine Frees.weak 0 rfl (Frees.frz 1 j 5 (l.map lkV) rfl (by rw [hcc]; exact Elems_lk l) ?_)
    have e : (l.map lkV).take j = l.map lkV := List.take_of_length_le (by simp [hPl])
    have e2 : AV.frz 1 j 5 (l.map lkV) (.tup [.ms 5 1 j 0 j, I 0]) = .tup [.vs 5 (l.map lkV), I 0] := by
      simp [AV.frzL, AV.frz, e, hPl]
    rw [show (aTup [AV.ms 5 1 j 0 j, I 0]) = .tup [.ms 5 1 j 0 j, I 0] from rfl, e2]
    exact Frees.drop0 h rfl
structure LooksIs (t : Trk) (xs : List AV) (q : Int) : Prop where
  xs : xs = (looksK t).map lkV
  q : q = checkT t
end Go.Sas
