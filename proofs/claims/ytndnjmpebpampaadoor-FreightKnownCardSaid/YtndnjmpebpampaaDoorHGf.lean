/-
Freight: rows that are as long as there are days: contracts.
Freight: ways that may be: contract.
Freight: what a plan delivers up to each day: plain laws.
Conditions: none.
-/
import Derived.Test.YtndnjmpebpampaaDoorHHf
set_option linter.unusedVariables false
set_option linter.unusedSimpArgs false
namespace Go.Sas
open Go.Proofs
set_option maxRecDepth 100000
abbrev fwH (a b c d : Int) (xs ys cw : List AV) : AHeap := [.own 0 [I a, I b, I c, I d, .vs 2 xs, .vs 4 ys], .own 0 cw]
theorem p41 (a b c d : Int) (xs ys cw rs : List AV) {Kk : AV → AHeap → Prop} (h : Kk (B (decide (rs.length ≠ xs.length))) (fwH a b c d xs ys cw)) : ACalls Tryd.prog 41 [.vs 1 rs, .mp 0 0 0] (fwH a b c d xs ys cw) Kk := by
  obtain ⟨q, hq⟩ : ∃ q, q = decide (rs.length ≠ xs.length) := ⟨_, rfl⟩
  rw [← hq] at h
  obtain ⟨A, hA⟩ : ∃ A, A = std := ⟨_, rfl⟩
  have hne : A.ne (A.vlen rs) (A.vlen xs) = q := by
    rw [hq]; subst hA; simp only [std, iNe]; rw [Bool.eq_iff_iff]; unfold iLen; simp only [bne_iff_ne, ne_eq, decide_eq_true_eq]; omega
  refine go41 rfl (SGo_run hA ⟨[], [], [], []⟩ .nil .nil 200 fun T TD hT hTD => ?_)
  cbv
  have h2 : Kk (B (A.ne (A.vlen rs) (A.vlen xs))) (fwH a b c d xs ys cw) := by rw [hne]; exact h
  exact ite_both h2
def e113 : List AV → AHeap → Option PT
  | [.vs 1 rs, .mp 0 0 0], [.own 0 [.lit (.int .i64 a), .lit (.int .i64 b), .lit (.int .i64 c), .lit (.int .i64 d), .vs 2 xs, .vs 4 ys], .own 0 cw] => some fun K => ∀ q, q = decide (rs.length ≠ xs.length) → K (B q) (fwH a b c d xs ys cw)
  | _, _ => none
theorem e113_ok : ∀ args H pt, e113 args H = some pt → ∀ (Kk : AV → AHeap → Prop), pt Kk → ACalls Tryd.prog 41 args H Kk := by
  intro args H pt h Kk hk
  unfold e113 at h
  split at h
  · cases h; exact p41 _ _ _ _ _ _ _ _ (hk _ rfl)
  · cases h
def idxP {α : Type} (p : α → Bool) : List α → Int → Int
  | [], _ => -1
  | x :: r, i => if p x then i else idxP p r (i + 1)
theorem idxP_any {α : Type} {p : α → Bool} : ∀ {l : List α} {i : Int}, 0 ≤ i → decide (0 ≤ idxP p l i) = l.any p
  | [], _, _ => by simp [idxP]
  | x :: r, i, h => by
    rw [List.any_cons]
    by_cases h1 : p x = true
    · have e : idxP p (x :: r) i = i := if_pos h1
      rw [e, h1]; simp [h]
    · have e : idxP p (x :: r) i = idxP p r (i + 1) := if_neg h1
      rw [e, idxP_any (by omega)]; simp [h1]
theorem p59 (a b c d : Int) (xs ys cw : List AV) (rows : List (List Int)) (hr : rows.length ≤ 9223372036854775807) {Kk : AV → AHeap → Prop} (h : Kk (I (idxP (fun r => decide (r.length ≠ xs.length)) rows 0)) (fwH a b c d xs ys cw)) :
    ACalls Tryd.prog 59 [.vs 1 (rows.map fun r => .vs 1 (r.map I)), .fn 41 [.mp 0 0 0]] (fwH a b c d xs ys cw) Kk := by
  obtain ⟨zs, hzs⟩ : ∃ zs : List AV, zs = rows.map fun r => .vs 1 (r.map I) := ⟨_, rfl⟩
  rw [← hzs]
  obtain ⟨p, hp⟩ : ∃ p : List Int → Bool, p = fun r => decide (r.length ≠ xs.length) := ⟨_, rfl⟩
  rw [← hp] at h
  obtain ⟨W, hW⟩ : ∃ W, W = idxP p rows 0 := ⟨_, rfl⟩
  rw [← hW] at h
  obtain ⟨A, hA⟩ : ∃ A, A = std := ⟨_, rfl⟩
  refine go59 rfl (SGo_run hA ⟨[], [], [], []⟩ .nil .nil 200 fun T TD hT hTD => ?_)
  cbv
  rw [hT]
  refine AGo_upE [0, 1, 7] rows.length (fun j (_ : Unit) => W = idxP p (rows.drop j) (iLen j)) (fun j _ i => [(8, I i)]) (fun _ _ => fwH a b c d xs ys cw) () hW ⟨rfl, trivial⟩ (.inl rfl) fun j _ i hi hj hP Bk hB => ?_
  have hlt : A.lt i (A.vlen zs) = decide (j < rows.length) := by subst hA; exact lt_len (by simp [hzs]) hi
  have hadd : ∀ N, j < N → N ≤ 9223372036854775807 → A.add .i64 i 1 = iLen (j + 1) := fun N hj hN => by subst hA; exact add_one hi hj hN
  refine SGo_run hA ⟨[], [], [], (41, e113) :: []⟩ .nil (.cons e113_ok .nil) 200 fun T TD hT hTD => ?_
  cbv
  split <;> cbv
  · rename_i hk0
    have hk1 : j < rows.length := by have hz := hlt.symm.trans hk0; simpa using hz
    clear hk0
    obtain ⟨r, hx⟩ : ∃ x, rows[j]? = some x := ⟨_, List.getElem?_eq_getElem hk1⟩
    obtain ⟨rs, hrs⟩ : ∃ rs, rs = r.map I := ⟨_, rfl⟩
    have hix : A.ix 1 1 zs i [.vs 1 rs] := by subst hA; rw [hrs]; exact ix_map hzs hi hx rfl
    rw [drop_cons hx] at hP
    simp only [idxP] at hP
    refine Exists.intro _ (And.intro hix ?_); cbv
    intro q hq
    have hq : q = p r := by rw [hq, hp, hrs]; simp
    cbv
    split <;> cbv
    · rename_i hz
      have hz : p r = true := hq.symm
      rw [if_pos hz] at hP
      have h2 : Kk (I i) (fwH a b c d xs ys cw) := by rw [hi, ← hP]; exact h
      exact ite_both h2
    · rename_i hz
      have hz : p r = false := hq.symm
      rw [if_neg (by simp [hz])] at hP
      exact hB () _ _ hk1 hP ⟨congrArg I (hadd _ hk1 (by omega)), trivial⟩ ⟨rfl, rfl, rfl, trivial⟩ (.inl rfl)
  · rename_i hk0
    have hk1 : ¬ j < rows.length := by have hz := hlt.symm.trans hk0; simpa using hz
    clear hk0
    rw [List.drop_eq_nil_of_le (by omega)] at hP
    have hP : W = -1 := hP
    have h2 : Kk (I (-1)) (fwH a b c d xs ys cw) := by rw [← hP]; exact h
    exact ite_both h2
def e121 : List AV → AHeap → Option PT
  | [.vs 1 zs, .fn 41 [.mp 0 0 0]], [.own 0 [.lit (.int .i64 a), .lit (.int .i64 b), .lit (.int .i64 c), .lit (.int .i64 d), .vs 2 xs, .vs 4 ys], .own 0 cw] =>
    some fun K => ∃ rows : List (List Int), (zs = rows.map fun r => .vs 1 (r.map I)) ∧ rows.length ≤ 9223372036854775807 ∧ ∀ q, q = idxP (fun r => decide (r.length ≠ xs.length)) rows 0 → K (I q) (fwH a b c d xs ys cw)
  | _, _ => none
theorem e121_ok : ∀ args H pt, e121 args H = some pt → ∀ (Kk : AV → AHeap → Prop), pt Kk → ACalls Tryd.prog 59 args H Kk := by
  intro args H pt h Kk hk
  unfold e121 at h
  split at h
  · cases h
    obtain ⟨rows, rfl, h1, h2⟩ := hk
    exact p59 _ _ _ _ _ _ _ _ h1 (h2 _ rfl)
  · cases h
theorem p40 (a b c d : Int) (xs ys cw : List AV) (rows : List (List Int)) (hr : rows.length ≤ 9223372036854775807) {Kk : AV → AHeap → Prop} (h : Kk (B (rows.any fun r => decide (r.length ≠ xs.length))) (fwH a b c d xs ys cw)) :
    ACalls Tryd.prog 40 [.vs 1 (rows.map fun r => .vs 1 (r.map I)), .fn 41 [.mp 0 0 0]] (fwH a b c d xs ys cw) Kk := by
  obtain ⟨zs, hzs⟩ : ∃ zs : List AV, zs = rows.map fun r => .vs 1 (r.map I) := ⟨_, rfl⟩
  rw [← hzs]
  obtain ⟨W, hW⟩ : ∃ W, W = rows.any fun r => decide (r.length ≠ xs.length) := ⟨_, rfl⟩
  rw [← hW] at h
  obtain ⟨A, hA⟩ : ∃ A, A = std := ⟨_, rfl⟩
  refine go40 rfl (SGo_run hA ⟨[], [], [], (59, e121) :: []⟩ .nil (.cons e121_ok .nil) 200 fun T TD hT hTD => ?_)
  cbv
  refine Exists.intro rows (And.intro hzs (And.intro hr ?_))
  intro q hq; cbv
  have hq2 : A.le 0 q = W := by rw [hW, hq, ← idxP_any (Int.le_refl _)]; subst hA; rfl
  have h2 : Kk (B (A.le 0 q)) (fwH a b c d xs ys cw) := by rw [hq2]; exact h
  exact ite_both h2
def e112 : List AV → AHeap → Option PT
  | [.vs 1 zs, .fn 41 [.mp 0 0 0]], [.own 0 [.lit (.int .i64 a), .lit (.int .i64 b), .lit (.int .i64 c), .lit (.int .i64 d), .vs 2 xs, .vs 4 ys], .own 0 cw] =>
    some fun K => ∃ rows : List (List Int), (zs = rows.map fun r => .vs 1 (r.map I)) ∧ rows.length ≤ 9223372036854775807 ∧ ∀ q, q = (rows.any fun r => decide (r.length ≠ xs.length)) → K (B q) (fwH a b c d xs ys cw)
  | _, _ => none
theorem e112_ok : ∀ args H pt, e112 args H = some pt → ∀ (Kk : AV → AHeap → Prop), pt Kk → ACalls Tryd.prog 40 args H Kk := by
  intro args H pt h Kk hk
  unfold e112 at h
  split at h
  · cases h
    obtain ⟨rows, rfl, h1, h2⟩ := hk
    exact p40 _ _ _ _ _ _ _ _ h1 (h2 _ rfl)
  · cases h
end Go.Sas
namespace Go.Sas
open Go.Proofs
set_option maxRecDepth 100000
/-- how many units go on a day -/
def colS (way : List (List Int)) (d : Nat) : Int := sumI (way.map fun r => r.getD d 0)
def okE (n : Int) : Bool := decide (0 ≤ n ∧ n ≤ 1000000)
def checkWayS (f : Frt) (w : Win) (way : List (List Int)) : Int :=
  if checkWinterS f w ≠ 0 then checkWinterS f w else
  if way.length ≠ f.ords.length ∨ (way.any fun r => decide (r.length ≠ f.caps.length)) = true then 3 else
  if (way.all fun r => r.all okE) = false then 2 else
  if ((List.range f.caps.length).all fun d => decide (colS way d ≤ roomW w d)) = false then 12 else
  if ((way.zip f.ords).all fun p => decide (sumI p.1 ≤ p.2.u)) = false then 14 else 0
theorem colS_app {a b : List (List Int)} {d : Nat} : colS (a ++ b) d = colS a d + colS b d := by simp [colS, sumI_append]
theorem okE_bnd {n : Int} (h : okE n = true) : 0 ≤ n ∧ n ≤ 1000000 := of_decide_eq_true h
theorem colS_bnd {way : List (List Int)} (h : (way.all fun r => r.all okE) = true) (d : Nat) : 0 ≤ colS way d ∧ colS way d ≤ 1000000 * way.length := by
  have := sumI_bnd (lo := 0) (hi := 1000000) (l := way.map fun r => r.getD d 0) fun x hx => by
    obtain ⟨r, hr, rfl⟩ := List.mem_map.1 hx
    rw [List.all_eq_true] at h
    have hr2 := h r hr
    rw [List.all_eq_true] at hr2
    rw [List.getD_eq_getElem?_getD]
    rcases hd : r[d]? with _ | y
    · simp
    · exact okE_bnd (hr2 y (List.mem_of_getElem? hd))
  unfold colS
  simp only [List.length_map] at this
  omega
theorem p25 (a b c d u v : Int) (cs : List (Int × Int)) (os : List Ord) (ws : List Int) (way : List (List Int)) (hc : cs.length ≤ 9223372036854775807) (ho : os.length ≤ 9223372036854775807) (hw : ws.length ≤ 9223372036854775807) (hy : way.length ≤ 9223372036854775807) (H : AHeap) {Kk : AV → AHeap → Prop} (h : Kk (I (checkWayS ⟨(a, b), (c, d), cs, os⟩ ⟨u, v, ws⟩ way)) H) :
    ACalls Tryd.prog 25 [frV a b c d (.vs 2 (cs.map sp)) (.vs 4 (os.map orV)), winV u v (.vs 1 (ws.map I)), .vs 1 (way.map fun r => .vs 1 (r.map I))] H Kk := by
  refine (fun q => pureC (by rfl) (by rfl) q H h) ?_
  clear h
  intro Kk h
  obtain ⟨xs, hxs⟩ : ∃ xs, xs = cs.map sp := ⟨_, rfl⟩
  obtain ⟨ys, hys⟩ : ∃ ys, ys = os.map orV := ⟨_, rfl⟩
  obtain ⟨zs, hzs⟩ : ∃ ys, ys = ws.map I := ⟨_, rfl⟩
  obtain ⟨rs, hrs⟩ : ∃ rs : List AV, rs = way.map fun r => .vs 1 (r.map I) := ⟨_, rfl⟩
  rw [← hxs, ← hys, ← hzs, ← hrs]
  obtain ⟨N, hN⟩ : ∃ N, N = os.length := ⟨_, rfl⟩
  obtain ⟨D, hDD⟩ : ∃ D, D = cs.length := ⟨_, rfl⟩
  obtain ⟨W, hW⟩ : ∃ W, W = checkWayS ⟨(a, b), (c, d), cs, os⟩ ⟨u, v, ws⟩ way := ⟨_, rfl⟩
  rw [← hW] at h
  have hxl : xs.length = D := by rw [hxs, hDD]; simp
  obtain ⟨A, hA⟩ : ∃ A, A = std := ⟨_, rfl⟩
  have hsg : ∀ g, A.sg g g := by subst hA; exact fun _ => rfl
  have hnb : ∀ b, A.bnot b = !b := by subst hA; intro b; rfl
  have hne : ∀ x, A.ne x 0 = decide (x ≠ 0) := by subst hA; intro x; simp only [std, iNe]; rw [Bool.eq_iff_iff]; simp
  have hv1 : A.vlen xs = iLen D := by subst hA; simp [std, hxl]
  have hnl : A.ne (A.vlen rs) (A.vlen ys) = decide (way.length ≠ N) := by
    subst hA; simp only [std, iNe, hrs, hys]; rw [Bool.eq_iff_iff, hN]; unfold iLen; simp only [bne_iff_ne, ne_eq, List.length_map, decide_eq_true_eq]; omega
  refine go25 rfl (SGo_run hA ⟨[], [1000038], (22, eCheckWin) :: [], (40, e112) :: []⟩ (.cons eCheckWin_ok .nil) (.cons e112_ok .nil) 200 fun T TD hT hTD => ?_)
  cbv
  refine Exists.intro cs (Exists.intro os (Exists.intro ws (And.intro hxs (And.intro hys (And.intro hzs (And.intro hc (And.intro ho (And.intro hw ?_))))))))
  intro q hq; cbv
  unfold checkWayS at hW
  rw [← hq] at hW
  split <;> cbv
  · rename_i hz
    have hz : q ≠ 0 := by have hz := (hne q).symm.trans hz; simpa using hz
    rw [if_pos hz] at hW
    exact leaf h (congrArg I hW) rfl
  rename_i hz
  have hz : q = 0 := by have hz := (hne q).symm.trans hz; simpa using hz
  rw [if_neg (by simp [hz])] at hW
  rw [hz] at hq
  obtain ⟨hV, hwv⟩ := checkWinterS_ok hq.symm
  have hwb := hwv.bnd hV
  have hwl := hwv.len
  have hc2 := hV.c2
  have ho2 := hV.o2
  dsimp only at hwl hc2 ho2 hwb hW
  rw [← hDD] at hc2 hwl hW
  rw [← hN] at ho2 hW
  split <;> cbv
  · rename_i hz2
    have hz2 := hnl.symm.trans hz2
    simp only [decide_eq_true_eq] at hz2
    rw [if_pos (.inl hz2)] at hW
    exact leaf h (congrArg I hW) rfl
  rename_i hz2
  have hz2 : way.length = N := by have hz2 := hnl.symm.trans hz2; simpa using hz2
  have hwy : LenIs way N := hz2
  refine Exists.intro way (And.intro hrs (And.intro hy ?_))
  intro q2 hq2
  have hq2 : q2 = way.any fun r => decide (r.length ≠ D) := by rw [hq2]; exact congrArg _ (by funext r; show decide (r.length ≠ xs.length) = _; rw [hxl])
  cbv
  split <;> cbv
  · rw [← hq2, if_pos (.inr rfl)] at hW
    exact leaf h (congrArg I hW) rfl
  rw [← hq2, if_neg (by simp [hz2])] at hW
  have hrl : ∀ r ∈ way, r.length = D := fun r hr => by
    have h9 := hq2.symm
    rw [List.any_eq_false] at h9
    have := h9 r hr
    simpa using this
  rw [hT]
  have hmk : mkS 1 8 [.int .i64 0] (A.vlen xs) (A.vlen xs) (rowF D fun _ => 0) D := by
    rw [hv1]; exact ⟨by unfold iLen; omega, Int.le_refl _, by unfold iLen; omega, by unfold iLen; omega, rfl, by unfold iLen; omega, by rw [← zeros_row]; rfl⟩
  obtain ⟨z0, hz0⟩ : ∃ z, z = rowF D fun _ => 0 := ⟨_, rfl⟩
  rw [← hz0] at hmk
  refine AGo_mkslN (q := 2) rfl rfl rfl hmk rfl rfl ?_
  refine SGo_run hA ⟨[2], [], [], []⟩ .nil .nil 200 fun T TD hT hTD => ?_
  cbv
  rw [hT]
  have hwN : way.length = N := hwy
  have hlr : A.vlen rs = iLen N := by subst hA; simp only [std, hrs, List.length_map]; exact congrArg iLen hwN
  obtain ⟨cw, hcw⟩ : ∃ x : List AV, x = [I u, I v, .vs 1 zs] := ⟨_, rfl⟩
  refine AGo_upE [2, 3, 4, 8, 39, 40] N (fun j (_ : Unit) => ((way.take j).all fun r => r.all okE) = true) (fun j _ i => [(41, I i)])
    (fun j _ => [.own 0 [I a, I b, I c, I d, .vs 2 xs, .vs 4 ys], .own 0 [I u, I v, .vs 1 zs], .own 0 (rowF D (colS (way.take j)))]) () (by simp) ⟨rfl, trivial⟩ (.inl (by rw [hz0]; rfl)) fun j _ i hi hj hP Bk hB => ?_
  have hlt : A.lt i (A.vlen rs) = decide (j < N) := by subst hA; exact lt_len (by unfold LenIs at hwy; simp [hrs, hwy]) hi
  have hadd : ∀ N, j < N → N ≤ 9223372036854775807 → A.add .i64 i 1 = iLen (j + 1) := fun N hj hN => by subst hA; exact add_one hi hj hN
  obtain ⟨z1, hz1⟩ : ∃ z, z = rowF D (colS (way.take j)) := ⟨_, rfl⟩
  rw [← hz1]
  refine SGo_run hA ⟨[2], [1000066], [], []⟩ .nil .nil 200 fun T TD hT hTD => ?_
  cbv
  split <;> cbv
  · rename_i hk0
    have hk1 : j < N := by have hz := hlt.symm.trans hk0; simpa using hz
    clear hk0
    obtain ⟨row, hx⟩ : ∃ x, way[j]? = some x := ⟨_, List.getElem?_eq_getElem (by unfold LenIs at hwy; omega)⟩
    have hrow := hrl row (List.mem_of_getElem? hx)
    obtain ⟨es, hes⟩ : ∃ es, es = row.map I := ⟨_, rfl⟩
    have hix : A.ix 1 1 rs i [.vs 1 es] := by subst hA; rw [hes]; exact ix_map hrs hi hx rfl
    have htk := take_succ_mem hx
    refine Exists.intro _ (And.intro hix ?_); cbv
    rw [hT]
    have htl : (way.take j).length ≤ 6 := by unfold LenIs at hwy; simp; omega
    have hcb : ∀ d, 0 ≤ colS (way.take j) d ∧ colS (way.take j) d ≤ 6000000 := fun d => by have := colS_bnd hP d; omega
    refine AGo_upE [2, 3, 4, 8, 39, 40, 41, 45, 46] D (fun y (_ : Unit) => ((row.take y).all okE) = true) (fun y _ i => [(47, I i)])
      (fun y _ => [.own 0 [I a, I b, I c, I d, .vs 2 xs, .vs 4 ys], .own 0 [I u, I v, .vs 1 zs], .own 0 (rowF D fun d => colS (way.take j) d + if d < y then row.getD d 0 else 0)]) () (by simp) ⟨rfl, trivial⟩ (.inl (by rw [hz1]; simp)) fun y _ i2 hi2 hy2 hP2 Bk2 hB2 => ?_
    have hlt2 : A.lt i2 (A.vlen es) = decide (y < D) := by subst hA; exact lt_len (by simp [hes, hrow]) hi2
    have hadd2 : ∀ N, y < N → N ≤ 9223372036854775807 → A.add .i64 i2 1 = iLen (y + 1) := fun N hj hN => by subst hA; exact add_one hi2 hj hN
    obtain ⟨z2, hz2'⟩ : ∃ z, z = rowF D fun d => colS (way.take j) d + if d < y then row.getD d 0 else 0 := ⟨_, rfl⟩
    rw [← hz2']
    refine SGo_run hA ⟨[2], [], (21, eIn) :: [], []⟩ (.cons (eIn_ok p21) .nil) .nil 200 fun T TD hT hTD => ?_
    cbv
    split <;> cbv
    · rename_i hk0
      have hk2 : y < D := by have hz := hlt2.symm.trans hk0; simpa using hz
      clear hk0
      obtain ⟨x, hxy⟩ : ∃ x, row[y]? = some x := ⟨_, List.getElem?_eq_getElem (by omega)⟩
      have hiy : A.ix 1 1 es i2 [I x] := by subst hA; exact ix_map hes hi2 hxy rfl
      have htk2 := all_take_succ (p := okE) hxy
      refine Exists.intro _ (And.intro hiy ?_); cbv
      intro q3 hq3
      have hq3 : q3 = okE x := hq3
      cbv
      split <;> cbv
      · rename_i hz3
        have hz3 : q3 = false := by have hz3 := (hnb q3).symm.trans hz3; simpa using hz3
        have hbad : (way.all fun r => r.all okE) = false := by
          rw [List.all_eq_false]
          refine ⟨row, List.mem_of_getElem? hx, ?_⟩
          rw [Bool.not_eq_true, List.all_eq_false]
          exact ⟨x, List.mem_of_getElem? hxy, by rw [← hq3, hz3]; simp⟩
        rw [if_pos hbad] at hW
        exact leaf h (congrArg I hW) rfl
      · rename_i hz3
        have hz3 : q3 = true := by have hz3 := (hnb q3).symm.trans hz3; simpa using hz3
        rw [hz3] at hq3
        have hxb := okE_bnd hq3.symm
        have hxk : A.ixm 1 1 0 D i2 y := by subst hA; exact ixm1 hi2 hk2
        have hcy := hcb y
        have hg : A.get none z2 y (I (colS (way.take j) y)) := by
          subst hA; rw [hz2']
          show getS none _ _ _
          have := getS_row (D := D) (d := y) (f := fun d => colS (way.take j) d + if d < y then row.getD d 0 else 0) hk2
          simpa using this
        have hsum : A.add .i64 (colS (way.take j) y) x = colS (way.take j) y + x := by subst hA; exact iAdd_id (by omega) (by omega)
        have hup : A.upd 1 z2 y [I (A.add .i64 (colS (way.take j) y) x)] (rowF D fun d => colS (way.take j) d + if d < y + 1 then row.getD d 0 else 0) := by
          rw [hsum]; subst hA; rw [hz2']
          have := updS_row (D := D) (d := y) (f := fun d => colS (way.take j) d + if d < y then row.getD d 0 else 0) (v := colS (way.take j) y + x) hk2
          rw [show rowF D (updF (fun d => colS (way.take j) d + if d < y then row.getD d 0 else 0) y (colS (way.take j) y + x)) = rowF D fun d => colS (way.take j) d + if d < y + 1 then row.getD d 0 else 0 from rowF_congr fun k _ => by
            unfold updF; dsimp only
            by_cases h1 : k = y
            · subst h1; rw [if_pos rfl, if_pos (by omega), List.getD_eq_getElem?_getD, hxy]; rfl
            · rw [if_neg h1]
              by_cases h2 : k < y
              · rw [if_pos h2, if_pos (by omega)]
              · rw [if_neg h2, if_neg (by omega)]] at this
          exact this
        obtain ⟨z3, hz3'⟩ : ∃ z, z = rowF D fun d => colS (way.take j) d + if d < y + 1 then row.getD d 0 else 0 := ⟨_, rfl⟩
        obtain ⟨cj, hcj⟩ : ∃ z, z = colS (way.take j) y := ⟨_, rfl⟩
        rw [← hz3', ← hcj] at hup
        rw [← hcj] at hg
        refine And.intro (hsg _) (Exists.intro y (And.intro hxk ?_)); cbv
        refine And.intro (hsg _) (Exists.intro _ (And.intro hg ?_)); cbv
        refine And.intro (hsg _) (Exists.intro y (And.intro hxk ?_)); cbv
        refine And.intro (hsg _) (Exists.intro z3 (And.intro hup ?_)); cbv
        refine hB2 () _ _ hk2 ?_ ⟨congrArg I (hadd2 _ hk2 (by omega)), trivial⟩ ⟨rfl, rfl, rfl, rfl, rfl, rfl, rfl, rfl, rfl, trivial⟩ (.inl (by rw [hz3']))
        rw [htk2, hP2, ← hq3]; rfl
    · rename_i hk0
      have hk2 : ¬ y < D := by have hz := hlt2.symm.trans hk0; simpa using hz
      clear hk0
      rw [List.take_of_length_le (by omega)] at hP2
      refine hB () _ _ hk1 ?_ ⟨congrArg I (hadd _ hk1 (by omega)), trivial⟩ ⟨rfl, rfl, rfl, rfl, rfl, rfl, trivial⟩ (.inl ?_)
      · rw [htk, List.all_append, hP]; simp [hP2]
      · rw [hz2', show (rowF D fun d => colS (way.take j) d + if d < y then row.getD d 0 else 0) = rowF D (colS (way.take (j + 1))) from rowF_congr fun k hk => by
          rw [if_pos (by omega), htk, colS_app]; simp [colS, sumI]]
  · rename_i hk0
    have hk1 : ¬ j < N := by have hz := hlt.symm.trans hk0; simpa using hz
    clear hk0
    have hjn : j = N := by omega
    rw [List.take_of_length_le (by unfold LenIs at hwy; omega)] at hP hz1
    rw [if_neg (by rw [hP]; simp)] at hW
    have hcb : ∀ d, 0 ≤ colS way d ∧ colS way d ≤ 6000000 := fun d => by have := colS_bnd hP d; unfold LenIs at hwy; omega
    subst hjn
    clear hB hadd hlt
    rw [hT]
    refine SGo_run hA ⟨[2], [], [], []⟩ .nil .nil 200 fun T TD hT hTD => ?_
    cbv
    refine And.intro (hsg _) ?_; cbv
    rw [hT]
    refine AGo_upE [2, 3, 13, 67, 68] D (fun y (_ : Unit) => ((List.range y).all fun d => decide (colS way d ≤ roomW ⟨u, v, ws⟩ d)) = true) (fun y _ i => [(69, I i)])
      (fun y _ => [.own 0 [I a, I b, I c, I d, .vs 2 xs, .vs 4 ys], .own 0 [I u, I v, .vs 1 zs], .own 0 z1, .own 0 [I a, I b, I c, I d, .vs 2 xs, .vs 4 ys, I u, I v, .vs 1 zs]]) () (by simp) ⟨rfl, trivial⟩ (.inl rfl) fun y _ i hi hy2 hP2 Bk hB => ?_
    have hlt : A.lt i (A.len D) = decide (y < D) := by subst hA; simp only [std, iLt, hi]; rw [Bool.eq_iff_iff]; unfold iLen; simp only [decide_eq_true_eq]; omega
    have hadd : ∀ N, y < N → N ≤ 9223372036854775807 → A.add .i64 i 1 = iLen (y + 1) := fun N hj hN => by subst hA; exact add_one hi hj hN
    refine SGo_run hA ⟨[2], [], (35, eRoom) :: [], []⟩ (.cons eRoom_ok .nil) .nil 200 fun T TD hT hTD => ?_
    cbv
    split <;> cbv
    · rename_i hk0
      have hk2 : y < D := by have hz := hlt.symm.trans hk0; simpa using hz
      clear hk0
      have hxk : A.ixm 1 1 0 D i y := by subst hA; exact ixm1 hi hk2
      obtain ⟨cy, hcy⟩ : ∃ z, z = colS way y := ⟨_, rfl⟩
      have hg : A.get none z1 y (I cy) := by subst hA; rw [hz1, hcy]; exact getS_row hk2
      refine And.intro (hsg _) (Exists.intro y (And.intro hxk ?_)); cbv
      refine And.intro (hsg _) (Exists.intro _ (And.intro hg ?_)); cbv
      refine Exists.intro ws (Exists.intro y (And.intro hzs (And.intro hi (And.intro (by omega) (And.intro hw ?_))))); cbv
      intro rm hrm; cbv
      have hgt : A.lt rm cy = decide (rm < cy) := by subst hA; rfl
      split <;> cbv
      · rename_i hz4
        have hz4 : rm < cy := by have hz4 := hgt.symm.trans hz4; simpa using hz4
        have hbad : ((List.range D).all fun d => decide (colS way d ≤ roomW ⟨u, v, ws⟩ d)) = false := by
          rw [List.all_eq_false]
          exact ⟨y, List.mem_range.2 hk2, by rw [← hrm, ← hcy]; simp; omega⟩
        rw [if_pos hbad] at hW
        exact leaf h (congrArg I hW) rfl
      · rename_i hz4
        have hz4 : ¬ rm < cy := by have hz4 := hgt.symm.trans hz4; simpa using hz4
        refine hB () _ _ hk2 ?_ ⟨congrArg I (hadd _ hk2 (by omega)), trivial⟩ ⟨rfl, rfl, rfl, rfl, rfl, trivial⟩ (.inl rfl)
        rw [List.range_succ, List.all_append, hP2]
        simp only [List.all_cons, List.all_nil, Bool.and_true, Bool.true_and, decide_eq_true_eq]
        rw [← hrm, ← hcy]; omega
    · rename_i hk0
      have hk2 : ¬ y < D := by have hz := hlt.symm.trans hk0; simpa using hz
      clear hk0
      have hyD : y = D := by omega
      rw [hyD] at hP2
      rw [if_neg (by rw [hP2]; simp)] at hW
      clear hB hadd hlt
      rw [hT]
      obtain ⟨Z, hZ⟩ : ∃ Z, Z = way.zip os := ⟨_, rfl⟩
      have hZl : Z.length = way.length := by rw [hZ]; simp; unfold LenIs at hwy; omega
      have hW : W = if (Z.all fun p => decide (sumI p.1 ≤ p.2.u)) = false then 14 else 0 := by rw [hW, hZ]
      refine AGo_upE [3, 80, 81] j (fun y (_ : Unit) => ((Z.take y).all fun p => decide (sumI p.1 ≤ p.2.u)) = true) (fun y _ i => [(82, I i)])
        (fun y _ => [.own 0 [I a, I b, I c, I d, .vs 2 xs, .vs 4 ys], .own 0 [I u, I v, .vs 1 zs], .own 0 z1, .own 0 [I a, I b, I c, I d, .vs 2 xs, .vs 4 ys, I u, I v, .vs 1 zs]]) () (by simp) ⟨rfl, trivial⟩ (.inl rfl) fun y2 _ i hi hy3 hP3 Bk hB => ?_
      have hlt : A.lt i (A.vlen rs) = decide (y2 < j) := by subst hA; exact lt_len (by unfold LenIs at hwy; simp [hrs, hwy]) hi
      have hadd : ∀ N, y2 < N → N ≤ 9223372036854775807 → A.add .i64 i 1 = iLen (y2 + 1) := fun N hj hN => by subst hA; exact add_one hi hj hN
      refine SGo_run hA ⟨[2], [], (42, eTotal) :: [], []⟩ (.cons (eTotal_ok p42) .nil) .nil 200 fun T TD hT hTD => ?_
      cbv
      split <;> cbv
      · rename_i hk0
        have hk3 : y2 < j := by have hz := hlt.symm.trans hk0; simpa using hz
        clear hk0
        obtain ⟨row, hx⟩ : ∃ x, way[y2]? = some x := ⟨_, List.getElem?_eq_getElem (by unfold LenIs at hwy; omega)⟩
        obtain ⟨⟨ou, od, ol, ol2⟩, hx2⟩ : ∃ x, os[y2]? = some x := ⟨_, List.getElem?_eq_getElem (by omega)⟩
        have hrow := hrl row (List.mem_of_getElem? hx)
        have hrb : ∀ x ∈ row, 0 ≤ x ∧ x ≤ 1000000000 := fun x hx9 => by
          rw [List.all_eq_true] at hP
          have h8 := hP row (List.mem_of_getElem? hx)
          rw [List.all_eq_true] at h8
          have := okE_bnd (h8 x hx9); omega
        obtain ⟨es, hes⟩ : ∃ es, es = row.map I := ⟨_, rfl⟩
        have hix : A.ix 1 1 rs i [.vs 1 es] := by subst hA; rw [hes]; exact ix_map hrs hi hx rfl
        have hiy : A.ix 4 4 ys i [I ou, I od, I ol, I ol2] := by subst hA; exact ix_map hys hi hx2 rfl
        have hzx : Z[y2]? = some (row, ⟨ou, od, ol, ol2⟩) := by rw [hZ, List.getElem?_zip_eq_some]; exact ⟨hx, hx2⟩
        have hall := all_take_succ (p := fun p : List Int × Ord => decide (sumI p.1 ≤ p.2.u)) hzx
        refine Exists.intro _ (And.intro hix ?_); cbv
        refine Exists.intro _ (And.intro hiy ?_); cbv
        refine Exists.intro row (And.intro hes (And.intro (by omega) (And.intro hrb ?_)))
        intro sm hsm; cbv
        have hgt : A.lt ou sm = decide (ou < sm) := by subst hA; rfl
        split <;> cbv
        · rename_i hz4
          have hz4 : ou < sm := by have hz4 := hgt.symm.trans hz4; simpa using hz4
          have hbad : (Z.all fun p => decide (sumI p.1 ≤ p.2.u)) = false := by
            rw [List.all_eq_false]
            exact ⟨_, List.mem_of_getElem? hzx, by dsimp only; rw [← hsm]; simp; omega⟩
          rw [if_pos hbad] at hW
          exact leaf h (congrArg I hW) rfl
        · rename_i hz4
          have hz4 : ¬ ou < sm := by have hz4 := hgt.symm.trans hz4; simpa using hz4
          refine hB () _ _ hk3 ?_ ⟨congrArg I (hadd _ hk3 (by omega)), trivial⟩ ⟨rfl, rfl, rfl, trivial⟩ (.inl rfl)
          rw [hall, hP3]
          simp only [Bool.true_and, decide_eq_true_eq]
          rw [← hsm]; omega
      · rename_i hk0
        have hk3 : ¬ y2 < j := by have hz := hlt.symm.trans hk0; simpa using hz
        clear hk0
        rw [List.take_of_length_le (by unfold LenIs at hwy; omega)] at hP3
        rw [if_neg (by rw [hP3]; simp)] at hW
        exact leaf h (congrArg I hW) rfl
end Go.Sas
namespace Go.Sas
/-- how many units may go before a day -/
def sumR (R : Nat → Int) : Nat → Int
  | 0 => 0
  | d + 1 => sumR R d + R d
theorem PlanP.nodup {n : Nat} {l : List Int} (h : PlanP n l) : (planN l).Nodup := by
  unfold planN
  have h1 := h.2.1
  have h2 := h.2.2
  clear h
  induction l with
  | nil => simp
  | cons x l ih =>
    obtain ⟨hx, hnd⟩ := List.nodup_cons.1 h2
    rw [List.map_cons, List.nodup_cons]
    refine ⟨fun hm => ?_, ih (fun k hk => h1 k (by simp [hk])) hnd⟩
    obtain ⟨y, hy, he⟩ := List.mem_map.1 hm
    have e1 := h1 x (by simp)
    have e2 := h1 y (by simp [hy])
    have : y = x := by omega
    exact hx (this ▸ hy)
/-- a list without doubles, as long as there are numbers below n, has them all -/
theorem nodup_all : ∀ (n : Nat) (p : List Nat), p.Nodup → (∀ k ∈ p, k < n) → p.length = n → ∀ k, k < n → k ∈ p := by
  intro n
  induction n with
  | zero => intro p _ _ _ k hk; omega
  | succ n ih =>
    intro p hnd hb hl k hk
    by_cases hn : n ∈ p
    · by_cases hkn : k = n
      · rw [hkn]; exact hn
      · have h2 := ih (p.erase n) (hnd.erase n) (fun x hx => by
          have h3 := List.mem_of_mem_erase hx
          have h4 := hb x h3
          have h5 : x ≠ n := fun e => by subst e; exact (List.Nodup.not_mem_erase hnd) hx
          omega) (by rw [List.length_erase_of_mem hn]; omega) k (by omega)
        exact List.mem_of_mem_erase h2
    · exfalso
      have hb2 : ∀ x ∈ p, x < n := fun x hx => by
        have h4 := hb x hx
        have : x ≠ n := fun e => hn (e ▸ hx)
        omega
      cases p with
      | nil => simp at hl
      | cons y q =>
        obtain ⟨hy, hq⟩ := List.nodup_cons.1 hnd
        have h6 := ih q hq (fun x hx => hb2 x (by simp [hx])) (by simpa using hl) y (hb2 y (by simp))
        exact hy h6
theorem PlanP.all {n : Nat} {l : List Int} (h : PlanP n l) : ∀ k, k < n → k ∈ planN l := nodup_all n _ h.nodup h.nat.2 (by rw [planN_len, h.1])
end Go.Sas
