/-
Freight: the next list of the same numbers: contract.
Freight: the reference's best plan: contract.
Freight: what the law FreightSpreads calls: contracts.
Conditions: none.
-/
import Derived.Test.YthpjckoklnhbcaaHF
import Derived.Test.YthpjckoklnhbcaaHI
import Derived.Test.YthpjckoklnhbcaaHX
import Derived.Test.YthpjckoklnhbcaaH8
set_option linter.unusedVariables false
set_option linter.unusedSimpArgs false
namespace Go.Sas
open Go.Proofs
set_option maxRecDepth 100000
end Go.Sas
namespace Go.Sas
open Go.Proofs
set_option maxRecDepth 100000
def hF (j k : Nat) : Int := if k < j then iLen k else 0
theorem nidL_natI (l : List Nat) : AV.nidL (l.map natI) = true := by
  induction l with
  | nil => rfl
  | cons x l ih => simpa [AV.nidL, AV.nid] using ih
end Go.Sas
namespace Go.Sas
open Go.Proofs
set_option maxRecDepth 100000
theorem p37 (l : List Int) (hc : l.length ≤ 1000000) (H : AHeap) {Kk : AV → AHeap → Prop} (h : Kk (.vs 1 (l.map I)) H) : ACalls Try.prog 37 [.vs 1 (l.map I)] H Kk := by
  refine (fun q => pureC (by rfl) (by rfl) q H h) ?_
  clear h
  intro Kk h
  have hfz : fzS 1 1 8 (l.map I) := ⟨rfl, by simp; omega, elemsOk_map (g := fun x => [I x]) (fun _ => rfl) (fun _ => rfl) (fun _ => rfl) l⟩
  obtain ⟨xs, hxs⟩ : ∃ xs, xs = l.map I := ⟨_, rfl⟩
  rw [← hxs] at hfz h ⊢
  obtain ⟨A, hA⟩ : ∃ A, A = std := ⟨_, rfl⟩
  have hfz : A.fz 1 1 8 xs := by subst hA; exact hfz
  refine go37 rfl (SGo_run hA ⟨[], [], [], []⟩ .nil .nil 200 fun T TD hT hTD => ?_)
  cbv
  refine And.intro hfz ?_
  exact h
def eOwnI : List AV → Option ((AV → Prop) → Prop)
  | [.vs 1 xs] => some fun K => ∃ l : List Int, (xs = l.map I ∧ l.length ≤ 1000000) ∧ K (.vs 1 xs)
  | _ => none
theorem eOwnI_ok : ∀ args pt, eOwnI args = some pt → ∀ (H : AHeap) (Kk : AV → AHeap → Prop), pt (fun r => Kk r H) → ACalls Try.prog 37 args H Kk := by
  intro args pt h H Kk hk
  unfold eOwnI at h
  split at h
  · cases h
    obtain ⟨l, ⟨rfl, h1⟩, h2⟩ := hk
    exact p37 _ h1 H h2
  · cases h
def eSameI2 : List AV → Option ((AV → Prop) → Prop)
  | [.vs 1 xs, .vs 1 ys] => some fun K => ∃ l : List Int, (xs = l.map I ∧ ys = l.map I ∧ l.length ≤ 9223372036854775807) ∧ K (B true)
  | _ => none
theorem eSameI2_ok : ∀ args pt, eSameI2 args = some pt → ∀ (H : AHeap) (Kk : AV → AHeap → Prop), pt (fun r => Kk r H) → ACalls Try.prog 28 args H Kk := by
  intro args pt h H Kk hk
  unfold eSameI2 at h
  split at h
  · cases h
    obtain ⟨l, ⟨rfl, rfl, h1⟩, h3⟩ := hk
    exact p28 _ _ h1 h1 H (by simpa using h3)
  · cases h
/-- ways are the same as themselves -/
theorem p40s (rows : List (List Int)) (hl : rows.length ≤ 1000000) (hr : ∀ r ∈ rows, r.length ≤ 1000000) (H : AHeap) {Kk : AV → AHeap → Prop} (h : Kk (B true) H) :
    ACalls Try.prog 40 [.vs 1 (rows.map fun r => .vs 1 (r.map I)), .vs 1 (rows.map fun r => .vs 1 (r.map I))] H Kk := by
  refine (fun q => pureC (by rfl) (by rfl) q H h) ?_
  clear h
  intro Kk h
  obtain ⟨xs, hxs⟩ : ∃ xs : List AV, xs = rows.map fun r => .vs 1 (r.map I) := ⟨_, rfl⟩
  rw [← hxs]
  obtain ⟨A, hA⟩ : ∃ A, A = std := ⟨_, rfl⟩
  have hnx : ∀ x, A.ne x x = false := by subst hA; intro x; simp [std, iNe]
  have hbt : A.bnot true = false := by subst hA; rfl
  refine go40 rfl (SGo_run hA ⟨[], [], [], []⟩ .nil .nil 200 fun T TD hT hTD => ?_)
  cbv
  split <;> cbv
  · rename_i hz; exact Bool.noConfusion (hz.symm.trans (hnx _))
  rw [hT]
  refine AGo_upE [0, 1] rows.length (fun j (_ : Unit) => True) (fun j _ i => [(5, I i)]) (fun _ _ => []) () trivial ⟨rfl, trivial⟩ (.inl rfl) fun j _ i hi hj hP Bk hB => ?_
  clear hT hTD T TD
  have hlt : A.lt i (A.vlen xs) = decide (j < rows.length) := by subst hA; exact lt_len (by simp [hxs]) hi
  have hadd : ∀ N, j < N → N ≤ 9223372036854775807 → A.add .i64 i 1 = iLen (j + 1) := fun N hj hN => by subst hA; exact add_one hi hj hN
  refine SGo_run hA ⟨[], [], (28, eSameI2) :: [], []⟩ (.cons eSameI2_ok .nil) .nil 200 fun T TD hT hTD => ?_
  cbv
  split <;> cbv
  · rename_i hk0
    have hk1 : j < rows.length := by have hz := hlt.symm.trans hk0; simpa using hz
    clear hk0
    obtain ⟨r, hx⟩ : ∃ x, rows[j]? = some x := ⟨_, List.getElem?_eq_getElem hk1⟩
    have hrl := hr r (List.mem_of_getElem? hx)
    obtain ⟨xr, hxr⟩ : ∃ x, x = r.map I := ⟨_, rfl⟩
    have hix : A.ix 1 1 xs i [.vs 1 xr] := by subst hA; rw [hxr]; exact ix_map hxs hi hx rfl
    refine Exists.intro _ (And.intro hix ?_); cbv
    refine Exists.intro _ (And.intro hix ?_); cbv
    refine Exists.intro r (And.intro ⟨hxr, hxr, by omega⟩ ?_); cbv
    split <;> cbv
    · rename_i hz; exact Bool.noConfusion (hz.symm.trans hbt)
    · exact hB () _ _ hk1 trivial ⟨congrArg I (hadd _ hk1 (by omega)), trivial⟩ ⟨rfl, rfl, trivial⟩ (.inl rfl)
  · exact h
def eSameW : List AV → Option ((AV → Prop) → Prop)
  | [.vs 1 xs, .vs 1 ys] => some fun K => ∃ rows : List (List Int), ((xs = rows.map fun r => .vs 1 (r.map I)) ∧ ys = xs ∧ rows.length ≤ 1000000 ∧ ∀ r ∈ rows, r.length ≤ 1000000) ∧ K (B true)
  | _ => none
theorem eSameW_ok : ∀ args pt, eSameW args = some pt → ∀ (H : AHeap) (Kk : AV → AHeap → Prop), pt (fun r => Kk r H) → ACalls Try.prog 40 args H Kk := by
  intro args pt h H Kk hk
  unfold eSameW at h
  split at h
  · cases h
    obtain ⟨l, ⟨rfl, rfl, h1, h2⟩, h3⟩ := hk
    exact p40s _ h1 h2 H h3
  · cases h
def winE (f : Frt) (w : Win) : Int := if w.caps.length ≠ f.caps.length then 3 else if winB f w then 0 else 2
theorem winS_eq {f : Frt} {w : Win} : checkWinterS f w = if checkF f ≠ 0 then checkF f else winE f w := rfl
theorem p94 (a b c d u v : Int) (cs : List (Int × Int)) (ys : List AV) (ws : List Int) (hc : cs.length ≤ 9223372036854775807) (hw : ws.length ≤ 9223372036854775807) (os : List Ord) (H : AHeap) {Kk : AV → AHeap → Prop} (h : Kk (I (winE ⟨(a, b), (c, d), cs, os⟩ ⟨u, v, ws⟩)) H) :
    ACalls Try.prog 94 [frV a b c d (.vs 2 (cs.map sp)) (.vs 4 ys), winV u v (.vs 1 (ws.map I))] H Kk := by
  refine (fun q => pureC (by rfl) (by rfl) q H h) ?_
  clear h
  intro Kk h
  obtain ⟨xs, hxs⟩ : ∃ xs, xs = cs.map sp := ⟨_, rfl⟩
  obtain ⟨zs, hzs⟩ : ∃ ys, ys = ws.map I := ⟨_, rfl⟩
  rw [← hxs, ← hzs]
  obtain ⟨W, hW⟩ : ∃ W, W = winE ⟨(a, b), (c, d), cs, os⟩ ⟨u, v, ws⟩ := ⟨_, rfl⟩
  rw [← hW] at h
  unfold winE at hW
  dsimp only at hW
  obtain ⟨A, hA⟩ : ∃ A, A = std := ⟨_, rfl⟩
  have hnb : ∀ b, A.bnot b = !b := by subst hA; intro b; rfl
  have hnl : A.ne (A.vlen zs) (A.vlen xs) = decide (ws.length ≠ cs.length) := by
    subst hA; simp only [std, iNe, hxs, hzs]; rw [Bool.eq_iff_iff]; unfold iLen; simp only [bne_iff_ne, ne_eq, List.length_map, decide_eq_true_eq]; omega
  refine go94 rfl (SGo_run hA ⟨[], [], (67, eIn) :: [], []⟩ (.cons (eIn_ok p67) .nil) .nil 200 fun T TD hT hTD => ?_)
  cbv
  split <;> cbv
  · rename_i hz2
    have hz2 := hnl.symm.trans hz2
    simp only [decide_eq_true_eq] at hz2
    rw [if_pos hz2] at hW
    exact leaf h (congrArg I hW) rfl
  rename_i hz2
  have hz2 : ws.length = cs.length := by have hz2 := hnl.symm.trans hz2; simpa using hz2
  rw [if_neg (by simp [hz2])] at hW
  have hbad : winB ⟨(a, b), (c, d), cs, os⟩ ⟨u, v, ws⟩ = false → W = 2 := fun h9 => by rw [hW, if_neg (by simp [h9])]
  have hwd : winB ⟨(a, b), (c, d), cs, os⟩ ⟨u, v, ws⟩ = ((inB u (a, b) && inB v (c, d)) && (ws.zip cs).all fun p => inB p.1 p.2) := rfl
  intro q1 hq1
  have hn1 := hnb q1
  have hq1 : q1 = inB u (a, b) := hq1
  cbv
  split <;> cbv
  · rename_i hz
    have hz : q1 = false := by have hz := hn1.symm.trans hz; simpa using hz
    exact leaf h (congrArg I (hbad (by rw [hwd, ← hq1, hz]; rfl))) rfl
  rename_i hz
  have hz : q1 = true := by have hz := hn1.symm.trans hz; simpa using hz
  intro q2 hq2
  have hn2 := hnb q2
  have hq2 : q2 = inB v (c, d) := hq2
  cbv
  split <;> cbv
  · rename_i hz3
    have hz3 : q2 = false := by have hz3 := hn2.symm.trans hz3; simpa using hz3
    exact leaf h (congrArg I (hbad (by rw [hwd, ← hq2, hz3]; simp))) rfl
  rename_i hz3
  have hz3 : q2 = true := by have hz3 := hn2.symm.trans hz3; simpa using hz3
  rw [← hq1, ← hq2, hz, hz3] at hwd
  rw [hT]
  obtain ⟨Z, hZ⟩ : ∃ Z, Z = ws.zip cs := ⟨_, rfl⟩
  have hZl : Z.length = ws.length := by rw [hZ]; simp [hz2]
  rw [← hZ] at hwd
  refine AGo_upE [2, 3] ws.length (fun j (_ : Unit) => ((Z.take j).all fun p => inB p.1 p.2) = true) (fun j r i => [(5, I i)]) (fun _ _ => [.own 0 [I a, I b, I c, I d, .vs 2 xs, .vs 4 ys], .own 0 [I u, I v, .vs 1 zs]]) () (by simp) ⟨rfl, trivial⟩ (.inl rfl) fun j r i hi hj hP Bk hB => ?_
  clear hT hTD T TD
  have hlt : A.lt i (A.vlen zs) = decide (j < ws.length) := by subst hA; exact lt_len (by simp [hzs]) hi
  have hadd : ∀ N, j < N → N ≤ 9223372036854775807 → A.add .i64 i 1 = iLen (j + 1) := fun N hj hN => by subst hA; exact add_one hi hj hN
  refine SGo_run hA ⟨[], [], (67, eIn) :: [], []⟩ (.cons (eIn_ok p67) .nil) .nil 200 fun T TD hT hTD => ?_
  cbv
  split <;> cbv
  · rename_i hk0
    have hk1 : j < ws.length := by have hz := hlt.symm.trans hk0; simpa using hz
    clear hk0
    obtain ⟨x, hx⟩ : ∃ x, ws[j]? = some x := ⟨_, List.getElem?_eq_getElem hk1⟩
    obtain ⟨⟨y1, y2⟩, hy⟩ : ∃ x, cs[j]? = some x := ⟨_, List.getElem?_eq_getElem (by omega)⟩
    have hix : A.ix 1 1 zs i [I x] := by subst hA; exact ix_map hzs hi hx rfl
    have hiy : A.ix 2 2 xs i [I y1, I y2] := by subst hA; exact ix_map hxs hi hy rfl
    have hzx : Z[j]? = some (x, y1, y2) := by rw [hZ, List.getElem?_zip_eq_some]; exact ⟨hx, hy⟩
    have hall := all_take_succ (p := fun p : Int × Int × Int => inB p.1 p.2) hzx
    refine Exists.intro _ (And.intro hix ?_); cbv
    refine Exists.intro _ (And.intro hiy ?_); cbv
    refine Exists.intro _ (And.intro hiy ?_); cbv
    intro q3 hq3
    have hn3 := hnb q3
    have hq3 : q3 = inB x (y1, y2) := hq3
    cbv
    split <;> cbv
    · rename_i hz4
      have hz4 : q3 = false := by have hz4 := hn3.symm.trans hz4; simpa using hz4
      refine leaf h (congrArg I (hbad ?_)) rfl
      rw [hwd]
      have : Z.all (fun p => inB p.1 p.2) = false := by
        rw [List.all_eq_false]
        exact ⟨_, List.mem_of_getElem? hzx, by dsimp only; rw [← hq3, hz4]; decide⟩
      rw [this]; rfl
    · rename_i hz4
      have hz4 : q3 = true := by have hz4 := hn3.symm.trans hz4; simpa using hz4
      refine hB () _ _ hk1 ?_ ⟨congrArg I (hadd _ hk1 (by omega)), trivial⟩ ⟨rfl, rfl, trivial⟩ (.inl rfl)
      rw [hall, hP]; dsimp only; rw [← hq3, hz4]; rfl
  · rename_i hk0
    have hk1 : ¬ j < ws.length := by have hz := hlt.symm.trans hk0; simpa using hz
    clear hk0
    rw [List.take_of_length_le (by omega)] at hP
    rw [hP] at hwd
    exact leaf h (congrArg I (by rw [hW, if_pos (by rw [hwd]; rfl)])) rfl
def eCheckWinR : List AV → Option ((AV → Prop) → Prop)
  | [.agg [.lit (.int .i64 a), .lit (.int .i64 b), .lit (.int .i64 c), .lit (.int .i64 d), .vs 2 xs, .vs 4 ys], .agg [.lit (.int .i64 u), .lit (.int .i64 v), .vs 1 zs]] =>
    some fun K => ∃ (cs : List (Int × Int)) (os : List Ord) (ws : List Int), (xs = cs.map sp ∧ ys = os.map orV ∧ zs = ws.map I ∧ cs.length ≤ 9223372036854775807 ∧ ws.length ≤ 9223372036854775807) ∧ ∀ q, q = winE ⟨(a, b), (c, d), cs, os⟩ ⟨u, v, ws⟩ → K (I q)
  | _ => none
theorem eCheckWinR_ok : ∀ args pt, eCheckWinR args = some pt → ∀ (H : AHeap) (Kk : AV → AHeap → Prop), pt (fun r => Kk r H) → ACalls Try.prog 94 args H Kk := by
  intro args pt h H Kk hk
  unfold eCheckWinR at h
  split at h
  · cases h
    obtain ⟨cs, os, ws, ⟨rfl, rfl, rfl, h1, h3⟩, h5⟩ := hk
    exact p94 _ _ _ _ _ _ _ _ _ h1 h3 os H (h5 _ rfl)
  · cases h
end Go.Sas
