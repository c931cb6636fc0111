/-
Season files: the reference's parts of a text, and its numbers: contracts.
Season files: the reference's number of a word, and numbers of a row: contracts.
Conditions: none.
-/
import Derived.Test.YtpokfjhlilbpfaaGreatDoorQSG1
import Derived.Test.YtpokfjhlilbpfaaGreatDoorXJg
import Derived.Test.YtpokfjhlilbpfaaGreatDoorQPN3
set_option linter.unusedVariables false
set_option linter.unusedSimpArgs false
namespace Go.Sas
open Go.Proofs
set_option maxRecDepth 100000
theorem bA_extract (s : ByteArray) (l h : Nat) : s.extract l h = bA ((s.data.toList.drop l).take (h - l)) := by
  apply ByteArray.ext
  rw [ByteArray.data_extract]
  apply Array.ext'
  rw [Array.toList_extract, bA_data]
theorem sls_ok {s : ByteArray} {a b : Nat} (hab : a ≤ b) (hb : b ≤ s.data.toList.length) : slsS s (some (iLen a)) (some (iLen b)) (bA ((s.data.toList.drop a).take (b - a))) :=
  ⟨a, b, by simp [bdI, iLen], by simp [bdI, iLen], hab, hb, (bA_extract s a b).symm⟩
theorem sget {s : ByteArray} {i : Nat} {x : UInt8} (h : s.data.toList[i]? = some x) : s[i]? = some x := by
  obtain ⟨hlt, hx⟩ := List.getElem?_eq_some_iff.1 h
  have hs : i < s.size := hlt
  rw [getElem?_pos s i hs]
  congr 1
theorem sx_ok {s : ByteArray} {i : Nat} {x : UInt8} {n : Int} (hn : n = iLen i) (h : s.data.toList[i]? = some x) : sxS s n x.toNat := by
  subst hn
  exact ⟨Int.natCast_nonneg _, x, by simpa [iLen] using sget h, rfl⟩
theorem Elems_one' (l : List (List UInt8)) : Elems 1 (l.map strA) (l.map strA) := by
  have := Elems_map (f := strA) (g := fun x => [strA x]) (sz := 1) (fun _ => rfl) (fun _ => rfl) (fun _ => rfl) l
  have e : ∀ l : List (List UInt8), l.flatMap (fun x => [strA x]) = l.map strA := fun l => by induction l with | nil => rfl | cons a l ih => simp [ih]
  rw [e] at this
  exact this
set_option maxHeartbeats 4000000 in
theorem p38 (sb : ByteArray) (c : UInt8) (hs : sb.data.toList.length ≤ 1000000) (H : AHeap) {Kk : AV → AHeap → Prop} (h : Kk (.vs 1 ((splitL c sb.data.toList).map strA)) H) :
    ACalls Tryz.prog 38 [.lit (.string sb), .lit (.int .u8 c.toNat)] H Kk := by
  refine (fun q => pureF (by rfl) (by rfl) q H h) ?_
  clear h
  intro Kk h
  obtain ⟨⟨l⟩⟩ := sb
  simp only at h hs
  obtain ⟨by_, hby⟩ : ∃ b : Int, b = c.toNat := ⟨_, rfl⟩
  rw [← hby]
  obtain ⟨A, hA⟩ : ∃ A, A = std := ⟨_, rfl⟩
  obtain ⟨F, hF⟩ : ∃ F, F = Frees 0 Kk := ⟨_, rfl⟩
  rw [← hF]
  have hle : ∀ x y, A.le x y = decide (x ≤ y) := by subst hA; intro x y; rfl
  have hee : ∀ x y, A.eq x y = decide (x = y) := by subst hA; intro x y; simp only [std, iEq]; rw [Bool.eq_iff_iff]; simp
  have hll : ∀ n : Nat, A.len n = (n : Int) := by subst hA; intro n; rfl
  refine go38 rfl (SGo_run hA ⟨[0], [], [], []⟩ .nil .nil 200 fun T TD hT hTD => ?_)
  cbv
  rw [hT]
  refine AGo_niltmp 5 1 rfl ?_
  refine AGo_upE [0, 1] (l.length + 1) (fun j (s : List (List UInt8) × Nat) => (j ≤ l.length → splitL c l = s.1 ++ splitL c (l.drop s.2) ∧ s.2 ≤ j ∧ ∀ k, s.2 ≤ k → k < j → l[k]? ≠ some c) ∧ (l.length < j → s.1 = splitL c l) ∧ s.1.length ≤ j)
    (fun j s i => [(7, I i), (6, I (iLen s.2)), (5, .ms 1 0 s.1.length 0 s.1.length)]) (fun j s => [.own s.1.length (s.1.map strA)]) ([], 0)
    ⟨fun _ => ⟨rfl, Nat.le_refl _, fun k h1 h2 => absurd h2 (by omega)⟩, fun h => absurd h (by omega), Nat.le_refl _⟩ ⟨rfl, rfl, rfl, trivial⟩ (.inl rfl) fun j s i hi hj hP Bk hB => ?_
  obtain ⟨P, fr⟩ := s
  obtain ⟨hP1, hP2, hPl⟩ := hP
  simp only at hP1 hP2 hPl
  have hadd : ∀ N, j < N → N ≤ 9223372036854775807 → A.add .i64 i 1 = iLen (j + 1) := fun N hj hN => by subst hA; exact add_one hi hj hN
  obtain ⟨n, hn⟩ : ∃ n, n = P.length := ⟨_, rfl⟩
  obtain ⟨pc, hpc⟩ : ∃ c, c = P.map strA := ⟨_, rfl⟩
  obtain ⟨fi, hfi⟩ : ∃ f : Int, f = iLen fr := ⟨_, rfl⟩
  simp only
  rw [← hn, ← hpc, ← hfi]
  have happ : ∀ x : List UInt8, A.app 1 1 16 pc 0 n [.lit (.string (bA x))] (pc ++ [.lit (.string (bA x))]) (n + 1) := fun x => by subst hA; exact app_one (by rw [hpc, hn]; simp) rfl (by omega)
  have hgo : ∀ x r : List UInt8, j < l.length + 1 → (j + 1 ≤ l.length → splitL c l = (P ++ [x]) ++ splitL c (l.drop (j + 1))) → (l.length < j + 1 → P ++ [x] = splitL c l) → ∀ (pc2 : List AV), pc2 = pc ++ [.lit (.string (bA x))] →
      ∀ e' : Env, Fits e' [(7, I (A.add .i64 i 1)), (6, I (A.add .i64 i 1)), (5, .ms 1 0 (n + 1) 0 (n + 1))] → Fits e' [(0, .lit (.string ⟨⟨l⟩⟩)), (1, .lit (.int .u8 by_))] → Bk e' [.own (n + 1) pc2] := by
    rintro x r h1 h2 h3 pc2 hpc2 e' ⟨f7, f6, f5, _⟩ hk
    have ha := hadd (l.length + 1) h1 (by omega)
    refine hB (P ++ [x], j + 1) _ _ h1 ⟨fun h4 => ⟨h2 h4, Nat.le_refl _, fun k h5 h6 => absurd h6 (by omega)⟩, fun h4 => h3 h4, by simp; omega⟩ ⟨f7.trans (congrArg I ha), f6.trans (congrArg I ha), ?_, trivial⟩ hk (.inl ?_)
    · rw [f5, hn]; simp
    · rw [hpc2, hpc, hn]; simp [strA, bA]
  refine SGo_run hA ⟨[0], [], [], []⟩ .nil .nil 200 fun T TD hT hTD => ?_
  cbv
  split <;> cbv
  · rename_i hq
    have hq : j ≤ l.length := by
      have hq9 := (hle _ _).symm.trans hq
      rw [hll, hi, ← List.length.eq_def] at hq9
      unfold iLen at hq9
      simpa using hq9
    have hjl := hq
    obtain ⟨hsp, hfj, hno⟩ := hP1 hq
    split <;> cbv
    · rename_i hq2
      have hq2 : j = l.length := by
        have hq9 := (hee _ _).symm.trans hq2
        rw [hll, hi, ← List.length.eq_def] at hq9
        unfold iLen at hq9
        exact Int.ofNat_inj.1 (of_decide_eq_true hq9)
      have hsl : A.sls ⟨⟨l⟩⟩ (some fi) (some i) (bA ((l.drop fr).take (j - fr))) := by
        rw [hfi, hi]; subst hA; exact sls_ok (s := ⟨⟨l⟩⟩) hfj hjl
      obtain ⟨pc2, hpc2⟩ : ∃ c, c = pc ++ [.lit (.string (bA ((l.drop fr).take (j - fr))))] := ⟨_, rfl⟩
      have happ := happ ((l.drop fr).take (j - fr))
      rw [← hpc2] at happ
      have hgo := hgo ((l.drop fr).take (j - fr)) [] (by omega) (fun h9 => absurd h9 (by omega)) (fun _ => by
        rw [splitL_last hsp (fun k h8 h9 => hno k h8 (by omega))]
        congr 2
        rw [hq2, List.take_of_length_le (by simp)]) pc2 hpc2
      obtain ⟨q, hqq⟩ : ∃ q, q = bA ((l.drop fr).take (j - fr)) := ⟨_, rfl⟩
      rw [← hqq] at hsl happ
      refine Exists.intro _ (And.intro hsl ?_); cbv
      refine And.intro (by subst hA; rfl) (Exists.intro _ (Exists.intro _ (And.intro happ (And.intro rfl ?_)))); cbv
      exact hgo _ ⟨rfl, rfl, rfl, trivial⟩ ⟨rfl, rfl, trivial⟩
    · rename_i hq2
      have hq2 : ¬ j = l.length := by
        have hq9 := (hee _ _).symm.trans hq2
        rw [hll, hi, ← List.length.eq_def] at hq9
        unfold iLen at hq9
        exact fun h9 => of_decide_eq_false hq9 (congrArg Nat.cast h9)
      obtain ⟨x, hx⟩ : ∃ x, l[j]? = some x := ⟨_, List.getElem?_eq_getElem (by omega)⟩
      have hsx : A.sx ⟨⟨l⟩⟩ i x.toNat := by subst hA; exact sx_ok hi hx
      obtain ⟨xi, hxi⟩ : ∃ n : Int, n = x.toNat := ⟨_, rfl⟩
      rw [← hxi] at hsx
      refine Exists.intro _ (And.intro hsx ?_); cbv
      have hxe : decide (xi = by_) = decide (x = c) := by
        rw [hxi, hby, Bool.eq_iff_iff]; simp only [decide_eq_true_eq]
        exact ⟨fun h => UInt8.toNat_inj.1 (Int.ofNat_inj.1 h), fun h => by rw [h]⟩
      split <;> cbv
      · rename_i hq3
        have hq3 : x = c := by have := (hxe.symm.trans ((hee _ _).symm.trans hq3)); simpa using this
        subst hq3
        have hsl : A.sls ⟨⟨l⟩⟩ (some fi) (some i) (bA ((l.drop fr).take (j - fr))) := by
          rw [hfi, hi]; subst hA; exact sls_ok (s := ⟨⟨l⟩⟩) hfj hjl
        obtain ⟨pc2, hpc2⟩ : ∃ c, c = pc ++ [.lit (.string (bA ((l.drop fr).take (j - fr))))] := ⟨_, rfl⟩
        have happ := happ ((l.drop fr).take (j - fr))
        rw [← hpc2] at happ
        have hgo := hgo ((l.drop fr).take (j - fr)) [] (by omega) (fun _ => splitL_step hsp hfj hno hx) (fun h9 => absurd h9 (by omega)) pc2 hpc2
        obtain ⟨q, hqq⟩ : ∃ q, q = bA ((l.drop fr).take (j - fr)) := ⟨_, rfl⟩
        rw [← hqq] at hsl happ
        refine Exists.intro _ (And.intro hsl ?_); cbv
        refine And.intro (by subst hA; rfl) (Exists.intro _ (Exists.intro _ (And.intro happ (And.intro rfl ?_)))); cbv
        exact hgo _ ⟨rfl, rfl, rfl, trivial⟩ ⟨rfl, rfl, trivial⟩
      · rename_i hq3
        have hq3 : ¬ x = c := by have := (hxe.symm.trans ((hee _ _).symm.trans hq3)); simpa using this
        have ha := hadd (l.length + 1) (by omega) (by omega)
        refine hB (P, fr) _ _ (by omega) ⟨fun h4 => ⟨hsp, by omega, fun k h5 h6 => ?_⟩, fun h4 => absurd h4 (by omega), by show P.length ≤ j + 1; omega⟩ ⟨congrArg I ha, congrArg I hfi, ?_, trivial⟩ ⟨rfl, rfl, trivial⟩ (.inl ?_)
        · by_cases h7 : k = j
          · subst h7; rw [hx]; intro h8; exact hq3 (Option.some.inj h8)
          · exact hno k h5 (by omega)
        · show AV.ms 1 0 n 0 n = _
          rw [hn]
        · rw [hpc, hn]
  · rename_i hq
    have hq : ¬ j ≤ l.length := by
      have hq9 := (hle _ _).symm.trans hq
      rw [hll, hi, ← List.length.eq_def] at hq9
      unfold iLen at hq9
      simpa using hq9
    have hPe := hP2 (by omega)
    rw [hF, hpc, hn]
    refine Frees.frz 0 _ 1 (P.map strA) rfl (Elems_one' P) ?_
    have e : (P.map strA).take P.length = P.map strA := List.take_of_length_le (by simp)
    rw [← hPe] at h
    simpa [frzH, AObj.frz, AV.frzL, AV.frz, aTup, e] using Frees.drop0 (H := [.gone]) h rfl
end Go.Sas
namespace Go.Sas
open Go.Proofs
set_option maxRecDepth 100000
def numR : Option Nat → AV
  | some u => .tup [I u, B true]
  | none => .tup [I 0, B false]
theorem dec_step {acc : Nat} {l : List UInt8} {j : Nat} {x : UInt8} (hx : l[j]? = some x) : Lib.decFrom acc (l.drop j) = match Lib.digitVal x with
    | some d => Lib.decFrom (acc * 10 + d) (l.drop (j + 1))
    | none => none := by
  rw [drop_cons hx]; rfl
theorem wrap_u8 {n : Int} (h1 : 0 ≤ n) (h2 : n ≤ 255) : IntKind.u8.wrap n = n := by
  have e : IntKind.u8.wrap n = n % 256 := by simp [IntKind.wrap, IntKind.bits, IntKind.signed]
  rw [e]; omega
set_option maxHeartbeats 4000000 in
theorem p54 (sb : ByteArray) (hs : sb.data.toList.length ≤ 1000000) (H : AHeap) {Kk : AV → AHeap → Prop} (h : Kk (numR (wordN sb.data.toList)) H) : ACalls Tryz.prog 54 [.lit (.string sb)] H Kk := by
  refine (fun q => pureF (by rfl) (by unfold numR; split <;> rfl) q H h) ?_
  clear h
  intro Kk h
  obtain ⟨⟨l⟩⟩ := sb
  simp only at h hs
  obtain ⟨A, hA⟩ : ∃ A, A = std := ⟨_, rfl⟩
  obtain ⟨F, hF⟩ : ∃ F, F = Frees 0 Kk := ⟨_, rfl⟩
  rw [← hF]
  have hr : ∀ W, wordN l = W → F (numR W) [] := fun W hw => by rw [hF]; rw [hw] at h; exact Frees.now h
  have hlt : ∀ x y, A.lt x y = decide (x < y) := by subst hA; intro x y; rfl
  have hee : ∀ x y, A.eq x y = decide (x = y) := by subst hA; intro x y; simp only [std, iEq]; rw [Bool.eq_iff_iff]; simp
  have hll : ∀ n : Nat, A.len n = (n : Int) := by subst hA; intro n; rfl
  refine go54 rfl (SGo_run hA ⟨[], [], [], []⟩ .nil .nil 200 fun T TD hT hTD => ?_)
  cbv
  split <;> cbv
  · rename_i hq
    have hq : l.length < 1 := by
      have hq9 := (hlt _ _).symm.trans hq
      rw [hll, ← List.length.eq_def] at hq9
      have := of_decide_eq_true hq9
      exact Int.ofNat_lt.1 this
    exact hr none (by unfold wordN; rw [if_pos (.inl hq)])
  rename_i hq
  have hq : ¬ l.length < 1 := by
    have hq9 := (hlt _ _).symm.trans hq
    rw [hll, ← List.length.eq_def] at hq9
    exact fun h9 => of_decide_eq_false hq9 (Int.ofNat_lt.2 h9)
  split <;> cbv
  · rename_i hq2
    have hq2 : 9 < l.length := by
      have hq9 := (hlt _ _).symm.trans hq2
      rw [hll, ← List.length.eq_def] at hq9
      exact Int.ofNat_lt.1 (of_decide_eq_true hq9)
    exact hr none (by unfold wordN; rw [if_pos (.inr (.inl hq2))])
  rename_i hq2
  have hq2 : ¬ 9 < l.length := by
    have hq9 := (hlt _ _).symm.trans hq2
    rw [hll, ← List.length.eq_def] at hq9
    exact fun h9 => of_decide_eq_false hq9 (Int.ofNat_lt.2 h9)
  obtain ⟨x0, hx0⟩ : ∃ x, l[0]? = some x := ⟨_, List.getElem?_eq_getElem (by omega)⟩
  obtain ⟨b0, hb0⟩ : ∃ n : Int, n = iLen x0.toNat := ⟨_, rfl⟩
  have hsx : A.sx ⟨⟨l⟩⟩ 0 b0 := by subst hA hb0; exact sx_ok (s := ⟨⟨l⟩⟩) (i := 0) rfl hx0
  refine Exists.intro _ (And.intro hsx ?_); cbv
  split <;> cbv
  · rename_i hq3
    have hq3 : b0 = 48 := of_decide_eq_true ((hee _ _).symm.trans hq3)
    split <;> cbv
    · rename_i hq4
      have hq4 : 1 < l.length := by
        have hq9 := (hlt _ _).symm.trans hq4
        rw [hll, ← List.length.eq_def] at hq9
        exact Int.ofNat_lt.1 (of_decide_eq_true hq9)
      have hh : l.head? = some 48 := by
        rw [List.head?_eq_getElem?, hx0]
        unfold iLen at hb0
        exact congrArg some (UInt8.toNat_inj.1 (by show x0.toNat = 48; omega))
      exact hr none (by unfold wordN; rw [if_pos (.inr (.inr ⟨hh, hq4⟩))])
    · rename_i hq4
      have hq4 : ¬ 1 < l.length := by
        have hq9 := (hlt _ _).symm.trans hq4
        rw [hll, ← List.length.eq_def] at hq9
        exact fun h9 => of_decide_eq_false hq9 (Int.ofNat_lt.2 h9)
      have hhd : ¬ (l.head? = some 48 ∧ 1 < l.length) := fun h9 => hq4 h9.2
      have hW : wordN l = Lib.decFrom 0 l := by
        unfold wordN; rw [if_neg]
        rintro (h9 | h9 | h9)
        · exact hq h9
        · exact hq2 h9
        · exact hhd h9
      rw [hT]
      refine AGo_upE [0] l.length (fun j (n : Nat) => Lib.decFrom 0 l = Lib.decFrom n (l.drop j) ∧ n < 10 ^ j) (fun _ n i => [(5, I i), (4, I (n : Int))]) (fun _ _ => []) 0 ⟨rfl, by decide⟩ ⟨rfl, rfl, trivial⟩ (.inl rfl) fun j n i hi hj hP Bk hB => ?_
      obtain ⟨hP1, hP2⟩ := hP
      have hadd : ∀ N, j < N → N ≤ 9223372036854775807 → A.add .i64 i 1 = iLen (j + 1) := fun N hj hN => by subst hA; exact add_one hi hj hN
      obtain ⟨ni, hni⟩ : ∃ m : Int, m = iLen n := ⟨_, rfl⟩
      rw [show ((n : Nat) : Int) = ni from hni.symm]
      refine SGo_run hA ⟨[], [], [], []⟩ .nil .nil 200 fun T TD hT hTD => ?_
      cbv
      split <;> cbv
      · rename_i hq5
        have hq5 : j < l.length := by
          have hq9 := (hlt _ _).symm.trans hq5
          rw [hll, hi, ← List.length.eq_def] at hq9
          unfold iLen at hq9
          exact Int.ofNat_lt.1 (of_decide_eq_true hq9)
        obtain ⟨x, hx⟩ : ∃ x, l[j]? = some x := ⟨_, List.getElem?_eq_getElem hq5⟩
        obtain ⟨b, hb⟩ : ∃ n : Int, n = iLen x.toNat := ⟨_, rfl⟩
        have hsx : A.sx ⟨⟨l⟩⟩ i b := by subst hA hb; exact sx_ok (s := ⟨⟨l⟩⟩) hi hx
        rw [dec_step hx] at hP1
        refine Exists.intro _ (And.intro hsx ?_); cbv
        split <;> cbv
        · rename_i hq6
          have hq6 : b < 48 := of_decide_eq_true ((hlt _ _).symm.trans hq6)
          refine hr none ?_
          rw [hW, hP1]
          have : Lib.digitVal x = none := by unfold Lib.digitVal; rw [if_neg (by unfold iLen at hb; omega)]
          rw [this]
        rename_i hq6
        have hq6 : ¬ b < 48 := of_decide_eq_false ((hlt _ _).symm.trans hq6)
        refine Exists.intro _ (And.intro hsx ?_); cbv
        split <;> cbv
        · rename_i hq7
          have hq7 : 57 < b := of_decide_eq_true ((hlt _ _).symm.trans hq7)
          refine hr none ?_
          rw [hW, hP1]
          have : Lib.digitVal x = none := by unfold Lib.digitVal; rw [if_neg (by unfold iLen at hb; omega)]
          rw [this]
        rename_i hq7
        have hq7 : ¬ 57 < b := of_decide_eq_false ((hlt _ _).symm.trans hq7)
        refine Exists.intro _ (And.intro hsx ?_); cbv
        have hdv : Lib.digitVal x = some (x.toNat - 48) := by unfold Lib.digitVal; rw [if_pos (by unfold iLen at hb; omega)]
        rw [hdv] at hP1
        have hpow : 10 ^ (j + 1) ≤ 10 ^ 9 := Nat.pow_le_pow_right (by decide) (by omega)
        unfold iLen at hb hni
        have hnb : n * 10 + (x.toNat - 48) < 10 ^ (j + 1) := by rw [Nat.pow_succ]; omega
        have hval : A.add .i64 (A.mul .i64 10 ni) (A.cv .i64 (A.sub .u8 b 48)) = ((n * 10 + (x.toNat - 48) : Nat) : Int) := by
          have e1 : A.sub .u8 b 48 = b - 48 := by subst hA; exact wrap_u8 (by omega) (by omega)
          have e2 : A.cv .i64 (b - 48) = b - 48 := by subst hA; exact wrap_id (by omega) (by omega)
          have e3 : A.mul .i64 10 ni = 10 * ni := by subst hA; exact iMul_id (by omega) (by omega)
          rw [e1, e2, e3]
          subst hA
          refine (iAdd_id (by omega) (by omega)).trans ?_
          omega
        exact hB (n * 10 + (x.toNat - 48)) _ _ hq5 ⟨hP1, hnb⟩ ⟨congrArg I (hadd _ hq5 (by omega)), congrArg I hval, trivial⟩ ⟨rfl, trivial⟩ (.inl rfl)
      · rename_i hq5
        have hq5 : ¬ j < l.length := by
          have hq9 := (hlt _ _).symm.trans hq5
          rw [hll, hi, ← List.length.eq_def] at hq9
          unfold iLen at hq9
          exact fun h9 => of_decide_eq_false hq9 (Int.ofNat_lt.2 h9)
        rw [List.drop_eq_nil_of_le (by omega)] at hP1
        have := hr (some n) (by rw [hW, hP1]; rfl)
        rw [hni]
        exact this
  · rename_i hq3
    have hq3 : ¬ b0 = 48 := of_decide_eq_false ((hee _ _).symm.trans hq3)
    have hhd : ¬ (l.head? = some 48 ∧ 1 < l.length) := fun h9 => by
      have h8 := h9.1
      rw [List.head?_eq_getElem?, hx0] at h8
      cases h8
      exact hq3 hb0
    have hW : wordN l = Lib.decFrom 0 l := by
      unfold wordN; rw [if_neg]
      rintro (h9 | h9 | h9)
      · exact hq h9
      · exact hq2 h9
      · exact hhd h9
    rw [hT]
    refine AGo_upE [0] l.length (fun j (n : Nat) => Lib.decFrom 0 l = Lib.decFrom n (l.drop j) ∧ n < 10 ^ j) (fun _ n i => [(5, I i), (4, I (n : Int))]) (fun _ _ => []) 0 ⟨rfl, by decide⟩ ⟨rfl, rfl, trivial⟩ (.inl rfl) fun j n i hi hj hP Bk hB => ?_
    obtain ⟨hP1, hP2⟩ := hP
    have hadd : ∀ N, j < N → N ≤ 9223372036854775807 → A.add .i64 i 1 = iLen (j + 1) := fun N hj hN => by subst hA; exact add_one hi hj hN
    obtain ⟨ni, hni⟩ : ∃ m : Int, m = iLen n := ⟨_, rfl⟩
    rw [show ((n : Nat) : Int) = ni from hni.symm]
    refine SGo_run hA ⟨[], [], [], []⟩ .nil .nil 200 fun T TD hT hTD => ?_
    cbv
    split <;> cbv
    · rename_i hq5
      have hq5 : j < l.length := by
        have hq9 := (hlt _ _).symm.trans hq5
        rw [hll, hi, ← List.length.eq_def] at hq9
        unfold iLen at hq9
        exact Int.ofNat_lt.1 (of_decide_eq_true hq9)
      obtain ⟨x, hx⟩ : ∃ x, l[j]? = some x := ⟨_, List.getElem?_eq_getElem hq5⟩
      obtain ⟨b, hb⟩ : ∃ n : Int, n = iLen x.toNat := ⟨_, rfl⟩
      have hsx : A.sx ⟨⟨l⟩⟩ i b := by subst hA hb; exact sx_ok (s := ⟨⟨l⟩⟩) hi hx
      rw [dec_step hx] at hP1
      refine Exists.intro _ (And.intro hsx ?_); cbv
      split <;> cbv
      · rename_i hq6
        have hq6 : b < 48 := of_decide_eq_true ((hlt _ _).symm.trans hq6)
        refine hr none ?_
        rw [hW, hP1]
        have : Lib.digitVal x = none := by unfold Lib.digitVal; rw [if_neg (by unfold iLen at hb; omega)]
        rw [this]
      rename_i hq6
      have hq6 : ¬ b < 48 := of_decide_eq_false ((hlt _ _).symm.trans hq6)
      refine Exists.intro _ (And.intro hsx ?_); cbv
      split <;> cbv
      · rename_i hq7
        have hq7 : 57 < b := of_decide_eq_true ((hlt _ _).symm.trans hq7)
        refine hr none ?_
        rw [hW, hP1]
        have : Lib.digitVal x = none := by unfold Lib.digitVal; rw [if_neg (by unfold iLen at hb; omega)]
        rw [this]
      rename_i hq7
      have hq7 : ¬ 57 < b := of_decide_eq_false ((hlt _ _).symm.trans hq7)
      refine Exists.intro _ (And.intro hsx ?_); cbv
      have hdv : Lib.digitVal x = some (x.toNat - 48) := by unfold Lib.digitVal; rw [if_pos (by unfold iLen at hb; omega)]
      rw [hdv] at hP1
      have hpow : 10 ^ (j + 1) ≤ 10 ^ 9 := Nat.pow_le_pow_right (by decide) (by omega)
      unfold iLen at hb hni
      have hnb : n * 10 + (x.toNat - 48) < 10 ^ (j + 1) := by rw [Nat.pow_succ]; omega
      have hval : A.add .i64 (A.mul .i64 10 ni) (A.cv .i64 (A.sub .u8 b 48)) = ((n * 10 + (x.toNat - 48) : Nat) : Int) := by
        have e1 : A.sub .u8 b 48 = b - 48 := by subst hA; exact wrap_u8 (by omega) (by omega)
        have e2 : A.cv .i64 (b - 48) = b - 48 := by subst hA; exact wrap_id (by omega) (by omega)
        have e3 : A.mul .i64 10 ni = 10 * ni := by subst hA; exact iMul_id (by omega) (by omega)
        rw [e1, e2, e3]
        subst hA
        refine (iAdd_id (by omega) (by omega)).trans ?_
        omega
      exact hB (n * 10 + (x.toNat - 48)) _ _ hq5 ⟨hP1, hnb⟩ ⟨congrArg I (hadd _ hq5 (by omega)), congrArg I hval, trivial⟩ ⟨rfl, trivial⟩ (.inl rfl)
    · rename_i hq5
      have hq5 : ¬ j < l.length := by
        have hq9 := (hlt _ _).symm.trans hq5
        rw [hll, hi, ← List.length.eq_def] at hq9
        unfold iLen at hq9
        exact fun h9 => of_decide_eq_false hq9 (Int.ofNat_lt.2 h9)
      rw [List.drop_eq_nil_of_le (by omega)] at hP1
      have := hr (some n) (by rw [hW, hP1]; rfl)
      rw [hni]
      exact this
structure SplRPre (s : ByteArray) (by_ : Int) (c : UInt8) : Prop where
  c : by_ = iLen c.toNat
  len : s.data.toList.length ≤ 1000000
structure SplRIs (s : ByteArray) (c : UInt8) (xs : List AV) : Prop where
  eq : xs = (splitL c s.data.toList).map strA
def eSplitR : List AV → Option ((AV → Prop) → Prop)
  | [.lit (.string s), .lit (.int .u8 b)] => some fun K => ∃ c : UInt8, SplRPre s b c ∧ ∀ xs, SplRIs s c xs → K (.vs 1 xs)
  | _ => none
theorem eSplitR_ok : ∀ args pt, eSplitR args = some pt → ∀ (H : AHeap) (Kk : AV → AHeap → Prop), pt (fun r => Kk r H) → ACalls Tryz.prog 38 args H Kk := by
  intro args pt h H Kk hk
  unfold eSplitR at h
  split at h
  · cases h
    obtain ⟨c, ⟨rfl, hs⟩, hk⟩ := hk
    exact p38 _ c hs H (hk _ ⟨rfl⟩)
  · cases h
structure NumYes (s : ByteArray) (u : Int) (n : Nat) : Prop where
  eq : wordN s.data.toList = some n
  u : u = iLen n
structure NumNo (s : ByteArray) : Prop where
  eq : wordN s.data.toList = none
structure NumPre (s : ByteArray) : Prop where
  len : s.data.toList.length ≤ 1000000
def eNumR : List AV → Option ((AV → Prop) → Prop)
  | [.lit (.string s)] => some fun K => NumPre s ∧ (NumNo s → K (.tup [I 0, B false])) ∧ ∀ u n, NumYes s u n → K (.tup [I u, B true])
  | _ => none
theorem eNumR_ok : ∀ args pt, eNumR args = some pt → ∀ (H : AHeap) (Kk : AV → AHeap → Prop), pt (fun r => Kk r H) → ACalls Tryz.prog 54 args H Kk := by
  intro args pt h H Kk hk
  unfold eNumR at h
  split at h
  · cases h
    obtain ⟨⟨hs⟩, h1, h2⟩ := hk
    refine p54 _ hs H ?_
    cases hw : wordN _ with
    | none => exact h1 ⟨hw⟩
    | some n => exact h2 _ n ⟨hw, rfl⟩
  · cases h
theorem outR_frees {ns : List Int} {n : Nat} (hn : n = ns.length) {Kk : AV → AHeap → Prop} (h : Kk (.tup [outA ns, B true]) []) :
    Frees 0 Kk (.tup [.ms 1 0 n 0 n, B true]) [.own n (ns.map I)] := by
  refine Frees.frz 0 n 1 (ns.map I) rfl (Elems_ints ns) ?_
  subst hn
  have e : (ns.map I).take ns.length = ns.map I := List.take_of_length_le (by simp)
  simpa [frzH, AObj.frz, AV.frzL, AV.frz, outA, e] using Frees.drop0 (H := [.gone]) h rfl
set_option maxHeartbeats 4000000 in
theorem p39 (rb wb : ByteArray) (many : Nat) (hm : 1 ≤ many ∧ many ≤ 10) (hrow : rb.data.toList.length ≤ 1000000) (H : AHeap) {Kk : AV → AHeap → Prop} (h : Kk (numsA (numsL wb.data.toList many rb.data.toList)) H) :
    ACalls Tryz.prog 39 [.lit (.string rb), .lit (.string wb), I (iLen many)] H Kk := by
  refine (fun q => pureF (by rfl) (by unfold numsA; split <;> simp [AV.nid, AV.nidL, outA]) q H h) ?_
  clear h
  intro Kk h
  obtain ⟨W, hW⟩ : ∃ W, W = numsL wb.data.toList many rb.data.toList := ⟨_, rfl⟩
  rw [← hW] at h
  obtain ⟨im, him⟩ : ∃ i : Int, i = iLen many := ⟨_, rfl⟩
  rw [← him]
  obtain ⟨A, hA⟩ : ∃ A, A = std := ⟨_, rfl⟩
  obtain ⟨F, hF⟩ : ∃ F, F = Frees 0 Kk := ⟨_, rfl⟩
  rw [← hF]
  have hnone : W = none → F (.tup [.lit (.slice none 0 0), B false]) [] := fun hw => by
    rw [hw] at h; rw [hF]; exact Frees.now h
  refine go39 rfl (SGo_run hA ⟨[0], [], (38, eSplitR) :: (54, eNumR) :: [], []⟩ (.cons eSplitR_ok (.cons eNumR_ok .nil)) .nil 200 fun T TD hT hTD => ?_)
  cbv
  refine Exists.intro 32 (And.intro ⟨rfl, hrow⟩ fun xs hxs => ?_)
  have hxs : xs = (splitL 32 rb.data.toList).map strA := hxs.eq
  obtain ⟨w0, ws, hsp⟩ : ∃ w0 ws, splitL 32 rb.data.toList = w0 :: ws := by
    cases hs : splitL 32 rb.data.toList with
    | nil => exact absurd hs (splitL_ne _)
    | cons a b => exact ⟨a, b, rfl⟩
  have hlens : ws.length ≤ 1000000 := by
    have := splitL_len (c := 32) rb.data.toList
    rw [hsp] at this
    have h2 := List.count_le_length (a := (32 : UInt8)) (l := rb.data.toList)
    rw [List.length_cons] at this
    have h3 := hrow
    generalize List.count 32 rb.data.toList = q at this h2
    generalize rb.data.toList.length = q2 at h2 h3
    omega
  have hparts : ∀ x ∈ ws, x.length ≤ 1000000 := fun x hx => by
    have := splitL_part (c := 32) (l := rb.data.toList) (x := x) (by rw [hsp]; exact List.mem_cons_of_mem _ hx)
    omega
  rw [hsp] at hxs
  obtain ⟨t0, ht0⟩ : ∃ t0, t0 = bA w0 := ⟨_, rfl⟩
  have hix : A.ix 1 1 xs 0 [.lit (.string t0)] := by
    subst hA; rw [hxs, ht0]
    exact ⟨rfl, Int.le_refl 0, strA w0, rfl, rfl⟩
  have hvl : A.vlen xs = iLen (ws.length + 1) := by subst hA; simp [std, hxs]
  have hadd1 : A.add .i64 im 1 = iLen (many + 1) := by
    subst hA him
    exact add_one (N := 11) rfl (by omega) (by decide)
  have hneq : A.ne (A.vlen xs) (A.add .i64 im 1) = decide (ws.length ≠ many) := by
    rw [hvl, hadd1]; subst hA; simp only [std, iNe, iLen]; rw [Bool.eq_iff_iff]; simp; omega
  have hsq : A.bnot (A.seq t0 wb) = decide (w0 ≠ wb.data.toList) := by
    subst hA ht0; simp only [std]
    rw [Bool.eq_iff_iff]
    simp only [Bool.not_eq_true', decide_eq_true_eq, ne_eq]
    rw [← Bool.not_eq_true, seq_iff, bA_data]
  cbv
  split <;> cbv
  · rename_i hq2
    have hq2 : ws.length ≠ many := by have := hneq.symm.trans hq2; simpa using this
    exact hnone (by rw [hW]; exact nums_none hsp (.inr hq2))
  rename_i hq2
  have hq2 : ws.length = many := by have := hneq.symm.trans hq2; simpa using this
  refine Exists.intro _ (And.intro hix ?_); cbv
  split <;> cbv
  · rename_i hq
    have hq : w0 ≠ wb.data.toList := by have := hsq.symm.trans hq; simpa using this
    exact hnone (by rw [hW]; exact nums_none hsp (.inl hq))
  rename_i hq
  have hq : w0 = wb.data.toList := by have := hsq.symm.trans hq; simpa using this
  have hWs : W = (ws.mapM wordN).map (·.map fun n : Nat => (n : Int)) := by rw [hW]; exact nums_some (hq ▸ hsp) hq2
  clear hneq hsq hadd1 hix
  rw [hT]
  refine AGo_niltmp 9 1 rfl ?_
  refine AGo_upE [8] ws.length (fun j (ns : List Int) => ns.length = j ∧ W = ((ws.drop j).mapM wordN).map fun l => ns ++ l.map fun n : Nat => (n : Int)) (fun j ns i => [(10, I (iLen (j + 1))), (9, .ms 1 0 j 0 j)]) (fun j ns => [.own j (ns.map I)]) [] ⟨rfl, by rw [hWs]; simp⟩ ⟨rfl, rfl, trivial⟩ (.inl rfl) fun j ns i hi hj hP Bk hB => ?_
  obtain ⟨hnl, hWj⟩ := hP
  have happ : ∀ v, A.app 1 1 8 (ns.map I) 0 j [I v] (ns.map I ++ [I v]) (j + 1) := fun v => by subst hA; exact app_one (by simp [hnl]) rfl (by omega)
  obtain ⟨nc, hnc⟩ : ∃ nc, nc = ns.map I := ⟨_, rfl⟩
  obtain ⟨ik, hik⟩ : ∃ k : Int, k = iLen (j + 1) := ⟨_, rfl⟩
  rw [← hnc] at happ ⊢
  rw [← hik]
  have hlt : A.lt ik (A.vlen xs) = decide (j < ws.length) := by
    rw [hvl, hik]; subst hA; simp only [std, iLt, iLen]; rw [Bool.eq_iff_iff]; simp
  have hadd : A.add .i64 ik 1 = iLen (j + 1 + 1) := by subst hA; exact add_one (N := j + 2) hik (by omega) (by omega)
  refine SGo_run hA ⟨[0], [], (38, eSplitR) :: (54, eNumR) :: [], []⟩ (.cons eSplitR_ok (.cons eNumR_ok .nil)) .nil 200 fun T TD hT hTD => ?_
  cbv
  split <;> cbv
  · rename_i hk1
    have hlt1 : j < ws.length := by have := hlt.symm.trans hk1; simpa using this
    obtain ⟨x, hx⟩ : ∃ x, ws[j]? = some x := ⟨_, List.getElem?_eq_getElem hlt1⟩
    obtain ⟨t, ht⟩ : ∃ t, t = bA x := ⟨_, rfl⟩
    have htd : t.data.toList = x := by rw [ht, bA_data]
    have hxl := hparts x (List.mem_of_getElem? hx)
    have hix2 : A.ix 1 1 xs ik [.lit (.string t)] := by
      subst hA; exact ix_map (l := w0 :: ws) hxs hik (by simpa using hx) (by rw [ht]; rfl)
    have hbn0 : A.bnot false = true := by subst hA; rfl
    have hbn1 : A.bnot true = false := by subst hA; rfl
    refine Exists.intro _ (And.intro hix2 ?_); cbv
    refine And.intro ⟨by rw [htd]; exact hxl⟩ (And.intro (fun hno => ?_) fun u k hy => ?_)
    · have hno : wordN x = none := by rw [← htd]; exact hno.eq
      cbv
      split <;> cbv
      · exact hnone (by rw [hWj, words_stop hx hno]; rfl)
      · rename_i hz
        exact absurd (hbn0.symm.trans hz) (by decide)
    · have hw : wordN x = some k := by rw [← htd]; exact hy.eq
      have hu : u = ((k : Nat) : Int) := hy.u
      obtain ⟨nc2, hnc2⟩ : ∃ c, c = nc ++ [I u] := ⟨_, rfl⟩
      have happ := happ u
      rw [← hnc2] at happ
      have hns : nc2 = (ns ++ [((k : Nat) : Int)]).map I := by rw [hnc2, hnc, hu]; simp
      have hWn := words_go (ns := ns) hx hw
      clear hu hy
      cbv
      split <;> cbv
      · rename_i hz
        exact absurd (hbn1.symm.trans hz) (by decide)
      refine And.intro (by subst hA; rfl) (Exists.intro _ (Exists.intro _ (And.intro happ (And.intro rfl ?_)))); cbv
      refine hB (ns ++ [((k : Nat) : Int)]) _ _ hlt1 ⟨by simp [hnl], ?_⟩ ⟨congrArg I hadd, rfl, trivial⟩ ⟨rfl, trivial⟩ (.inl ?_)
      · rw [hWj, hWn]
      · rw [← hns]
  · rename_i hk1
    have hk1 : ¬ j < ws.length := by have := hlt.symm.trans hk1; simpa using this
    have hWe : W = some ns := by rw [hWj, words_end hk1]; simp
    rw [hF, hnc]
    rw [hWe] at h
    exact outR_frees hnl.symm h
end Go.Sas
