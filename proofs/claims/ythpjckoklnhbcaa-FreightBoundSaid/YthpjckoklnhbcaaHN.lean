/-
Freight: the reference's bound: contract.
Freight: orders with the greatest keys first: contracts.
Conditions: none.
-/
import Derived.Test.YthpjckoklnhbcaaHM
import Derived.Test.YthpjckoklnhbcaaH8
import Derived.Test.YthpjckoklnhbcaaQG46
import Derived.Test.YthpjckoklnhbcaaHI
set_option linter.unusedVariables false
set_option linter.unusedSimpArgs false
namespace Go.Sas
open Go.Proofs
set_option maxRecDepth 100000
theorem minF_le {l : List Int} : ∀ {n : Int}, minF n l ≤ n ∧ ∀ x ∈ l, minF n l ≤ x := by
  induction l with
  | nil => intro n; simp [minF]
  | cons y l ih =>
    intro n
    have h := ih (n := min n y)
    simp only [minF, List.foldl_cons] at h ⊢
    refine ⟨by have := h.1; omega, fun x hx => ?_⟩
    rcases List.mem_cons.1 hx with rfl | hx
    · have := h.1; omega
    · exact h.2 x hx
theorem minF_ge {l : List Int} : ∀ {n : Int}, 0 ≤ n → (∀ x ∈ l, 0 ≤ x) → 0 ≤ minF n l := by
  induction l with
  | nil => intro n h _; simpa [minF] using h
  | cons y l ih =>
    intro n h hl
    simp only [minF, List.foldl_cons]
    exact ih (by have := hl y (by simp); omega) fun x hx => hl x (by simp [hx])
/-- what is left of the room, and the cost, are bounded -/
def OkA (j : Nat) (s : Int × Int) : Prop := -2000000000000 * iLen j ≤ s.1 ∧ s.1 ≤ 6000000000000 ∧ 0 ≤ s.2 ∧ s.2 ≤ 200000000
def OkL (D : Nat) (l : List Int) : Prop := l.length = D ∧ ∀ x ∈ l, 0 ≤ x ∧ x ≤ 200000000
def OrdK (o : Ord) : Prop := (0 ≤ o.u ∧ o.u ≤ 1000000) ∧ (0 ≤ o.d ∧ o.d ≤ 200) ∧ (0 ≤ o.l ∧ o.l ≤ o.s ∧ o.s ≤ 1000000)
theorem bndA_ok {j : Nat} {s : Int × Int} {o : Ord} {key : Ord → Int} (hk : key o = o.s - o.l) (ho : OrdK o) (h : OkA j s) : OkA (j + 1) (bndA key s o) := by
  obtain ⟨h1, h2, h3, h4⟩ := h
  obtain ⟨⟨g1, g2⟩, _, g3, g4, g5⟩ := ho
  have h5 := mul_bnd (a := min o.u s.2) (b := o.s - o.l) (A := 1000000) (B := 1000000) (by omega) (by omega) (by omega) (by omega)
  unfold OkA bndA
  rw [hk]
  dsimp only
  unfold iLen at *
  refine ⟨?_, ?_, by omega, by omega⟩
  · omega
  · have : 0 ≤ min o.u s.2 * (o.s - o.l) := Int.mul_nonneg (by omega) (by omega)
    omega
theorem bndB_ok {j D : Nat} {s : Int × List Int} {o : Ord} (ho : OrdK o) (h1 : -26000000000000 - 2000000000000 * iLen j ≤ s.1 ∧ s.1 ≤ 6000000000000) (h2 : OkL D s.2) : (-26000000000000 - 2000000000000 * iLen (j + 1) ≤ (bndB D s o).1 ∧ (bndB D s o).1 ≤ 6000000000000) ∧ OkL D (bndB D s o).2 := by
  obtain ⟨⟨g1, g2⟩, _, g3, g4, g5⟩ := ho
  obtain ⟨h3, h4⟩ := h2
  unfold bndB
  dsimp only
  obtain ⟨q, hq⟩ : ∃ q, q = min o.d.toNat (D - 1) := ⟨_, rfl⟩
  rw [← hq]
  obtain ⟨n, hn⟩ : ∃ n, n = minF o.u (s.2.drop q) := ⟨_, rfl⟩
  rw [← hn]
  have h5 := minF_le (n := o.u) (l := s.2.drop q)
  have h6 := minF_ge (n := o.u) (l := s.2.drop q) g1 fun x hx => (h4 x (List.mem_of_mem_drop hx)).1
  rw [← hn] at h5 h6
  have h7 := mul_bnd (a := n) (b := o.l) (A := 1000000) (B := 1000000) (by omega) (by omega) g3 (by omega)
  have h8 : 0 ≤ n * o.l := Int.mul_nonneg h6 g3
  refine ⟨⟨by unfold iLen at *; omega, by omega⟩, by simp [h3]; omega, fun x hx => ?_⟩
  rcases List.mem_append.1 hx with h9 | h9
  · exact h4 x (List.mem_of_mem_take h9)
  · obtain ⟨y, hy, rfl⟩ := List.mem_map.1 h9
    have h10 := h4 y (List.mem_of_mem_drop hy)
    have h11 := h5.2 y hy
    omega
def wlF (l : List Int) (q z : Nat) (n : Int) : List Int := l.take q ++ ((l.drop q).take z).map (· - n) ++ (l.drop q).drop z
theorem wlF_get {l : List Int} {q z : Nat} {n : Int} (h : q + z < l.length) : (wlF l q z n)[q + z]? = some (l.getD (q + z) 0) := by
  unfold wlF
  have hl : (l.take q ++ ((l.drop q).take z).map (· - n)).length = q + z := by simp; omega
  rw [List.getElem?_append_right (by omega), hl, Nat.sub_self, List.getElem?_drop, List.getElem?_drop, Nat.add_zero, List.getD_eq_getElem?_getD, List.getElem?_eq_getElem h]; rfl
theorem wlF_set {l : List Int} {q z : Nat} {n : Int} (h : q + z < l.length) : (wlF l q z n).set (q + z) (l.getD (q + z) 0 - n) = wlF l q (z + 1) n := by
  unfold wlF
  have hl : (l.take q ++ ((l.drop q).take z).map (· - n)).length = q + z := by simp; omega
  have hx : (l.drop q)[z]? = some (l.getD (q + z) 0) := by rw [List.getElem?_drop, List.getD_eq_getElem?_getD, List.getElem?_eq_getElem h]; rfl
  rw [List.set_append_right _ _ (by omega), hl, Nat.sub_self, drop_cons hx, List.set_cons_zero, take_succ_mem hx]
  simp
theorem wlF_zero {l : List Int} {q : Nat} {n : Int} : wlF l q 0 n = l := by unfold wlF; simp
theorem wlF_all {l : List Int} {q z : Nat} {n : Int} (h : l.length ≤ q + z) : wlF l q z n = l.take q ++ (l.drop q).map (· - n) := by
  unfold wlF
  have e : (l.drop q).drop z = [] := List.drop_eq_nil_of_le (by simp; omega)
  rw [List.take_of_length_le (l := l.drop q) (i := z) (by simp; omega), e, List.append_nil]
theorem wlF_len {l : List Int} {q z : Nat} {n : Int} (h : q + z ≤ l.length) : (wlF l q z n).length = l.length := by unfold wlF; simp; omega
theorem getS_I {l : List Int} {i : Nat} {x : Int} (h : l[i]? = some x) : getS none (l.map I) i (I x) := by simp [getS, getN, h]
theorem updS_I {l : List Int} {i : Nat} {x : Int} (h : i < l.length) : updS 1 (l.map I) i [I x] ((l.set i x).map I) := by
  refine ⟨rfl, by simp; omega, ?_⟩
  rw [List.set_eq_take_append_cons_drop, if_pos h]
  simp [List.map_append, List.map_take, List.map_drop]
end Go.Sas
namespace Go.Sas
open Go.Proofs
set_option maxRecDepth 100000
section
variable {α : Type} {g : α → List AV} {sz : Nat}
theorem flxDrop (hg : ∀ x, (g x).length = sz) : ∀ {l : List α} {i : Nat} {x : α}, l[i]? = some x → (l.flatMap g).drop (i * sz) = g x ++ (l.drop (i + 1)).flatMap g
  | [], i, x, h => by simp at h
  | y :: l, 0, x, h => by simp at h; subst h; simp
  | y :: l, i + 1, x, h => by
    simp only [List.getElem?_cons_succ] at h
    rw [List.flatMap_cons, show (i + 1) * sz = (g y).length + i * sz by rw [hg, Nat.add_mul]; omega, ← List.drop_drop, List.drop_left, flxDrop hg h]
    rfl
theorem flxTake (hg : ∀ x, (g x).length = sz) : ∀ {l : List α} {i : Nat}, i ≤ l.length → (l.flatMap g).take (i * sz) = (l.take i).flatMap g
  | l, 0, _ => by simp
  | [], i + 1, h => by simp at h
  | y :: l, i + 1, h => by
    rw [List.flatMap_cons, show (i + 1) * sz = (g y).length + i * sz by rw [hg, Nat.add_mul]; omega, List.take_length_add_append, flxTake hg (by simpa using h)]
    simp
theorem flxLen (hg : ∀ x, (g x).length = sz) (l : List α) : (l.flatMap g).length = l.length * sz := len_flat hg l
theorem flxGet (hg : ∀ x, (g x).length = sz) {l : List α} {i o : Nat} {x : α} (h : l[i]? = some x) (ho : o = i * sz) : getS (some sz) (l.flatMap g) o (.agg (g x)) := by
  subst ho
  have hi := (List.getElem?_eq_some_iff.1 h).1
  have hl := flxLen hg l
  have : (i + 1) * sz ≤ l.length * sz := Nat.mul_le_mul_right _ (by omega)
  rw [Nat.add_mul] at this
  unfold getS getN
  simp only
  rw [if_pos (by omega), flxDrop hg h, List.take_left' (hg x)]
theorem flxSet (hg : ∀ x, (g x).length = sz) {l : List α} {i o : Nat} {x y : α} (h : l[i]? = some x) (ho : o = i * sz) : updS sz (l.flatMap g) o (g y) ((l.set i y).flatMap g) := by
  subst ho
  have hi := (List.getElem?_eq_some_iff.1 h).1
  have hl := flxLen hg l
  have : (i + 1) * sz ≤ l.length * sz := Nat.mul_le_mul_right _ (by omega)
  rw [Nat.add_mul] at this
  refine ⟨hg y, by omega, ?_⟩
  rw [List.set_eq_take_append_cons_drop, if_pos hi, List.flatMap_append, List.flatMap_cons, flxTake hg (by omega)]
  have e2 : (l.flatMap g).drop (i * sz + sz) = (l.drop (i + 1)).flatMap g := by rw [← List.drop_drop, flxDrop hg h, List.drop_left' (hg x)]
  rw [e2]; simp
end
theorem p120 (n : Int) (H : AHeap) {Kk : AV → AHeap → Prop} (h : Kk (B false) H) : ACalls Try.prog 120 [I n] H Kk := by
  refine (fun q => pureC (by rfl) (by rfl) q H h) ?_
  clear h
  intro Kk h
  obtain ⟨A, hA⟩ : ∃ A, A = std := ⟨_, rfl⟩
  have hnx : A.ne n n = false := by subst hA; simp [std, iNe]
  refine go120 rfl (SGo_run hA ⟨[], [], [], []⟩ .nil .nil 200 fun T TD hT hTD => ?_)
  cbv
  exact leaf h (congrArg B hnx.symm) rfl
def eIsNaN : List AV → Option ((AV → Prop) → Prop)
  | [.lit (.int .i64 _)] => some fun K => K (B false)
  | _ => none
theorem eIsNaN_ok : ∀ args pt, eIsNaN args = some pt → ∀ (H : AHeap) (Kk : AV → AHeap → Prop), pt (fun r => Kk r H) → ACalls Try.prog 120 args H Kk := by
  intro args pt h H Kk hk
  unfold eIsNaN at h
  split at h
  · cases h; exact p120 _ H hk
  · cases h
def cmpI (a b : Int) : Int := if a < b then -1 else if b < a then 1 else 0
theorem p110 (x y : Int) (H : AHeap) {Kk : AV → AHeap → Prop} (h : Kk (I (cmpI x y)) H) : ACalls Try.prog 110 [I x, I y] H Kk := by
  refine (fun q => pureC (by rfl) (by rfl) q H h) ?_
  clear h
  intro Kk h
  obtain ⟨W, hW⟩ : ∃ W, W = cmpI x y := ⟨_, rfl⟩
  rw [← hW] at h
  unfold cmpI at hW
  obtain ⟨A, hA⟩ : ∃ A, A = std := ⟨_, rfl⟩
  have hl1 : A.lt x y = decide (x < y) := by subst hA; rfl
  have hl2 : A.lt y x = decide (y < x) := by subst hA; rfl
  refine go110 rfl (SGo_run hA ⟨[], [], (120, eIsNaN) :: [], []⟩ (.cons eIsNaN_ok .nil) .nil 200 fun T TD hT hTD => ?_)
  cbv
  split <;> cbv
  · rename_i hz
    have hz := hl1.symm.trans hz
    exact leaf h (congrArg I (by rw [hW, if_pos (by simpa using hz)])) rfl
  rename_i hz
  have hz := hl1.symm.trans hz
  split <;> cbv
  · rename_i hz2
    have hz2 := hl2.symm.trans hz2
    exact leaf h (congrArg I (by rw [hW, if_neg (by simpa using hz), if_pos (by simpa using hz2)])) rfl
  · rename_i hz2
    have hz2 := hl2.symm.trans hz2
    exact leaf h (congrArg I (by rw [hW, if_neg (by simpa using hz), if_neg (by simpa using hz2)])) rfl
def eCmp : List AV → Option ((AV → Prop) → Prop)
  | [.lit (.int .i64 x), .lit (.int .i64 y)] => some fun K => ∀ q, q = cmpI x y → K (I q)
  | _ => none
theorem eCmp_ok : ∀ args pt, eCmp args = some pt → ∀ (H : AHeap) (Kk : AV → AHeap → Prop), pt (fun r => Kk r H) → ACalls Try.prog 110 args H Kk := by
  intro args pt h H Kk hk
  unfold eCmp at h
  split at h
  · cases h; exact p110 _ _ H (hk _ rfl)
  · cases h
/-- the two keys -/
def keyF (f : Nat) (o : Ord) : Int := if f = 77 then o.s - o.l else o.l
theorem p77 (o : Ord) (hb : (0 ≤ o.l ∧ o.l ≤ 1000000) ∧ 0 ≤ o.s ∧ o.s ≤ 1000000) (H : AHeap) {Kk : AV → AHeap → Prop} (h : Kk (I (o.s - o.l)) H) : ACalls Try.prog 77 [orV o] H Kk := by
  obtain ⟨u, dd, l, s⟩ := o
  dsimp only at hb h
  refine (fun q => pureC (by rfl) (by rfl) q H h) ?_
  clear h
  intro Kk h
  obtain ⟨A, hA⟩ : ∃ A, A = std := ⟨_, rfl⟩
  have hs : A.sub .i64 s l = s - l := by subst hA; exact iSub_id (by omega) (by omega)
  refine go77 rfl (SGo_run hA ⟨[], [], [], []⟩ .nil .nil 200 fun T TD hT hTD => ?_)
  cbv
  exact leaf h (congrArg I hs.symm) rfl
theorem p79 (o : Ord) (H : AHeap) {Kk : AV → AHeap → Prop} (h : Kk (I o.l) H) : ACalls Try.prog 79 [orV o] H Kk := by
  obtain ⟨u, dd, l, s⟩ := o
  dsimp only at h
  refine (fun q => pureC (by rfl) (by rfl) q H h) ?_
  clear h
  intro Kk h
  obtain ⟨A, hA⟩ : ∃ A, A = std := ⟨_, rfl⟩
  refine go79 rfl (SGo_run hA ⟨[], [], [], []⟩ .nil .nil 200 fun T TD hT hTD => ?_)
  cbv
  exact h
def OrdB (o : Ord) : Prop := (0 ≤ o.l ∧ o.l ≤ 1000000) ∧ 0 ≤ o.s ∧ o.s ≤ 1000000
def eKey (f : Nat) : List AV → Option ((AV → Prop) → Prop)
  | [.agg [.lit (.int .i64 u), .lit (.int .i64 d), .lit (.int .i64 l), .lit (.int .i64 s)]] => some fun K => ∃ _u : Unit, OrdB ⟨u, d, l, s⟩ ∧ ∀ q, q = keyF f ⟨u, d, l, s⟩ → K (I q)
  | _ => none
theorem eKey77_ok : ∀ args pt, eKey 77 args = some pt → ∀ (H : AHeap) (Kk : AV → AHeap → Prop), pt (fun r => Kk r H) → ACalls Try.prog 77 args H Kk := by
  intro args pt h H Kk hk
  unfold eKey at h
  split at h
  · cases h
    obtain ⟨_, h1, h2⟩ := hk
    exact p77 ⟨_, _, _, _⟩ h1 H (h2 _ rfl)
  · cases h
theorem eKey79_ok : ∀ args pt, eKey 79 args = some pt → ∀ (H : AHeap) (Kk : AV → AHeap → Prop), pt (fun r => Kk r H) → ACalls Try.prog 79 args H Kk := by
  intro args pt h H Kk hk
  unfold eKey at h
  split at h
  · cases h
    obtain ⟨_, h1, h2⟩ := hk
    exact p79 ⟨_, _, _, _⟩ H (h2 _ rfl)
  · cases h
/-- the comparison: the greater key first -/
theorem p109l (f : Nat) (hf : f = 77 ∨ f = 79) (x y : Ord) (hx : OrdB x) (hy : OrdB y) (Kk : AV → AHeap → Prop) (h : Kk (I (cmpI (keyF f y) (keyF f x))) [.own 0 [.fn f []]]) : ACalls Try.prog 109 [orV x, orV y, .mp 0 0 0] [.own 0 [.fn f []]] Kk := by
  obtain ⟨W, hW⟩ : ∃ W, W = cmpI (keyF f y) (keyF f x) := ⟨_, rfl⟩
  rw [← hW] at h
  obtain ⟨u, d, l, s⟩ := x
  obtain ⟨u', d', l', s'⟩ := y
  obtain ⟨A, hA⟩ : ∃ A, A = std := ⟨_, rfl⟩
  rcases hf with rfl | rfl
  · refine go109 rfl (SGo_run hA ⟨[], [], (77, eKey 77) :: (110, eCmp) :: [], []⟩ (.cons eKey77_ok (.cons eCmp_ok .nil)) .nil 200 fun T TD hT hTD => ?_)
    cbv
    refine Exists.intro () (And.intro hy ?_)
    intro q1 hq1; cbv
    refine Exists.intro () (And.intro hx ?_)
    intro q2 hq2; cbv
    intro q3 hq3; cbv
    have e : q3 = W := by rw [hq3, hW, hq1, hq2]
    rw [e]; exact h
  · refine go109 rfl (SGo_run hA ⟨[], [], (79, eKey 79) :: (110, eCmp) :: [], []⟩ (.cons eKey79_ok (.cons eCmp_ok .nil)) .nil 200 fun T TD hT hTD => ?_)
    cbv
    refine Exists.intro () (And.intro hy ?_)
    intro q1 hq1; cbv
    refine Exists.intro () (And.intro hx ?_)
    intro q2 hq2; cbv
    intro q3 hq3; cbv
    have e : q3 = W := by rw [hq3, hW, hq1, hq2]
    rw [e]; exact h
theorem p109 (f : Nat) (hf : f = 77 ∨ f = 79) (x y : Ord) (hx : OrdB x) (hy : OrdB y) (H : AHeap) {id : Nat} (hX : H[id]? = some (.own 0 [.fn f []])) {Kk : AV → AHeap → Prop} (h : Kk (I (cmpI (keyF f y) (keyF f x))) H) : ACalls Try.prog 109 [orV x, orV y, .mp id 0 0] H Kk := by
  have h4 := p109l f hf x y hx hy (fun r H' => r = I (cmpI (keyF f y) (keyF f x)) ∧ H' = [.own 0 [.fn f []]]) ⟨rfl, rfl⟩
  have h5 := ACalls.frame (H := H) [id] h4 (by simp) (by simp) (by simp [AV.ltL, AV.lt]) (by simp [ltH, AObj.lt, AV.ltL, AV.lt]) (fun k X hk => by
    cases k with
    | zero => simp at hk; subst hk; simpa [at_, AObj.ren, AV.renL, AV.ren] using hX
    | succ k => simp at hk)
  have hset : H.set id (.own 0 [.fn f []]) = H := by
    apply List.ext_getElem?; intro i
    rw [List.getElem?_set]
    split
    · rename_i hi; subst hi
      rw [hX]; rw [if_pos (List.getElem?_eq_some_iff.1 hX).1]
    · rfl
  have e : AV.renL [id] [orV x, orV y, .mp 0 0 0] = [orV x, orV y, .mp id 0 0] := by simp [AV.renL, AV.ren, at_]
  rw [e] at h5
  refine h5.mono fun r H' hx => ?_
  obtain ⟨r0, H1, ⟨rfl, rfl⟩, _, rfl, rfl⟩ := hx
  simpa [merge, updL, AObj.ren, AV.ren, AV.renL, hset] using h
def eCmpO : List AV → AHeap → Option PT
  | [.agg [.lit (.int .i64 u), .lit (.int .i64 d), .lit (.int .i64 l), .lit (.int .i64 s)], .agg [.lit (.int .i64 u'), .lit (.int .i64 d'), .lit (.int .i64 l'), .lit (.int .i64 s')], .mp id 0 0], H => match H[id]? with
    | some (.own 0 [.fn f []]) => some fun K => ∃ _u : Unit, ((f = 77 ∨ f = 79) ∧ OrdB ⟨u, d, l, s⟩ ∧ OrdB ⟨u', d', l', s'⟩) ∧ ∀ q, q = cmpI (keyF f ⟨u', d', l', s'⟩) (keyF f ⟨u, d, l, s⟩) → K (I q) H
    | _ => none
  | _, _ => none
theorem eCmpO_ok : ∀ args H pt, eCmpO args H = some pt → ∀ (Kk : AV → AHeap → Prop), pt Kk → ACalls Try.prog 109 args H Kk := by
  intro args H pt h Kk hk
  unfold eCmpO at h
  split at h
  · split at h
    · rename_i hX
      cases h
      obtain ⟨_, ⟨hf, h1, h2⟩, h3⟩ := hk
      exact p109 _ hf ⟨_, _, _, _⟩ ⟨_, _, _, _⟩ h1 h2 _ hX (h3 _ rfl)
    · cases h
  · cases h
theorem ixm4 {len j o : Nat} {i : Int} (hi : i = iLen j) (h : j < len) (ho : o = j * 4) : ixmS 4 4 0 len i o := by
  subst hi ho; unfold ixmS iLen; refine ⟨rfl, by omega, by omega, by omega⟩
set_option maxHeartbeats 4000000 in
/-- orders are put in their places -/
theorem p124l (f : Nat) (hf : f = 77 ∨ f = 79) (l : List Ord) (hl : 1 ≤ l.length ∧ l.length ≤ 1000) (hb : ∀ o ∈ l, OrdB o) (Kk : AV → AHeap → Prop) (h : Kk (.tup []) [.own 0 ((sortV (keyF f) l).flatMap orC4), .own 0 [.fn f []]]) :
    ACalls Try.prog 124 [.ms 4 0 0 0 l.length, I 0, I (iLen l.length), .fn 109 [.mp 1 0 0]] [.own 0 (l.flatMap orC4), .own 0 [.fn f []]] Kk := by
  obtain ⟨n, hn⟩ : ∃ n, n = l.length := ⟨_, rfl⟩
  obtain ⟨iN, hiN⟩ : ∃ i : Int, i = iLen n := ⟨_, rfl⟩
  obtain ⟨lc, hlc⟩ : ∃ r, r = l.flatMap orC4 := ⟨_, rfl⟩
  rw [← hn, ← hiN, ← hlc]
  rw [← hn] at hl
  obtain ⟨A, hA⟩ : ∃ A, A = std := ⟨_, rfl⟩
  have hsg : ∀ g, A.sg g g := by subst hA; exact fun _ => rfl
  have hll : ∀ x y, A.lt x y = decide (x < y) := by subst hA; intro x y; rfl
  have h01 : A.add .i64 0 1 = iLen 1 := by subst hA; rfl
  refine go124 rfl (SGo_run hA ⟨[0], [], [], []⟩ .nil .nil 200 fun T TD hT hTD => ?_)
  cbv
  rw [hT]
  obtain ⟨d0, hd0⟩ : ∃ d : Ord, d = ⟨0, 0, 0, 0⟩ := ⟨_, rfl⟩
  have hst : ∀ j, j ≤ n → (sortV (keyF f) (l.take j) ++ l.drop j).length = n := fun j hj => by rw [List.length_append, sortV_len]; simp; omega
  have hs1 : sortV (keyF f) (l.take 1) ++ l.drop 1 = l := by
    cases l with
    | nil => simp at hn; omega
    | cons x l => simp [sortV, insV]
  refine AGo_upE [0, 1, 2, 3] (n - 1) (fun _ (_ : Unit) => True) (fun j _ _ => [(8, I (iLen (j + 1)))]) (fun j _ => [.own 0 ((sortV (keyF f) (l.take (j + 1)) ++ l.drop (j + 1)).flatMap orC4), .own 0 [.fn f []]]) () trivial ⟨congrArg I h01, trivial⟩ (.inl (by rw [hs1, hlc])) fun j _ i hi hj _ Bk hB => ?_
  clear hT hTD T TD
  obtain ⟨ij, hij⟩ : ∃ q, q = iLen (j + 1) := ⟨_, rfl⟩
  rw [← hij]
  have hlt : A.lt ij iN = decide (j < n - 1) := by rw [hll, hij, hiN]; unfold iLen; apply decide_eq_decide.2; omega
  have hadd : j + 1 < n → A.add .i64 ij 1 = iLen (j + 1 + 1) := fun hj => by subst hA; exact add_one hij (N := n) hj (by omega)
  obtain ⟨l1, hl1⟩ : ∃ r, r = sortV (keyF f) (l.take (j + 1)) ++ l.drop (j + 1) := ⟨_, rfl⟩
  obtain ⟨c1, hc1⟩ : ∃ r, r = l1.flatMap orC4 := ⟨_, rfl⟩
  rw [← hl1, ← hc1]
  refine SGo_run hA ⟨[0], [], [], []⟩ .nil .nil 200 fun T TD hT hTD => ?_
  cbv
  split <;> cbv
  · rename_i hk0
    have hk1 : j < (n - 1) := by have hz := hlt.symm.trans hk0; simpa using hz
    clear hk0
    have hstep := sort_step (key := keyF f) (d := d0) (l := l) (i := j + 1) (by omega)
    rw [← hl1] at hstep
    have hl1n : l1.length = n := by rw [hl1]; exact hst _ (by omega)
    have hl1b : ∀ o ∈ l1, OrdB o := fun o ho => by
      rw [hl1] at ho
      rcases List.mem_append.1 ho with h9 | h9
      · exact hb o (List.mem_of_mem_take (sortV_mem.1 h9))
      · exact hb o (List.mem_of_mem_drop h9)
    rw [hT]
    refine AGo_whileE [0, 1, 2, 3, 8] (fun (s : Nat × List Ord) => s.1) (fun s => s.1 ≤ j + 1 ∧ s.2.length = n ∧ (∀ o ∈ s.2, OrdB o) ∧ bubV (keyF f) d0 s.2 s.1 = sortV (keyF f) (l.take (j + 1 + 1)) ++ l.drop (j + 1 + 1)) (fun s => [(9, I (iLen s.1))]) (fun s => [.own 0 (s.2.flatMap orC4), .own 0 [.fn f []]]) (j + 1, l1) ⟨Nat.le_refl _, hl1n, hl1b, hstep⟩ ⟨congrArg I hij, trivial⟩ (.inl (by rw [hc1])) fun s hP Bk2 hB2 => ?_
    clear hT hTD T TD
    obtain ⟨m, l2⟩ := s
    obtain ⟨hP1, hP2, hP3, hP4⟩ := hP
    dsimp only at hP1 hP2 hP3 hP4 hB2 ⊢
    obtain ⟨im, him⟩ : ∃ q, q = iLen m := ⟨_, rfl⟩
    obtain ⟨c2, hc2⟩ : ∃ r, r = l2.flatMap orC4 := ⟨_, rfl⟩
    rw [← him, ← hc2]
    have hz0 := hll 0 im
    refine SGo_run hA ⟨[0], [2000000], [], (109, eCmpO) :: []⟩ .nil (.cons eCmpO_ok .nil) 200 fun T TD hT hTD => ?_
    cbv
    split <;> cbv
    · rename_i hz
      have hz : 0 < im := by have hz := hz0.symm.trans hz; simpa using hz
      obtain ⟨q, hq⟩ : ∃ q, m = q + 1 := ⟨m - 1, by unfold iLen at him; omega⟩
      subst hq
      obtain ⟨⟨xu, xd, xl, xs⟩, hx⟩ : ∃ x, l2[q + 1]? = some x := ⟨_, List.getElem?_eq_getElem (by omega)⟩
      obtain ⟨⟨yu, yd, yl, ys⟩, hy⟩ : ∃ x, l2[q]? = some x := ⟨_, List.getElem?_eq_getElem (by omega)⟩
      have hbx := hP3 _ (List.mem_of_getElem? hx)
      have hby := hP3 _ (List.mem_of_getElem? hy)
      have hgx : l2.getD (q + 1) d0 = ⟨xu, xd, xl, xs⟩ := by rw [List.getD_eq_getElem?_getD, hx]; rfl
      have hgy : l2.getD q d0 = ⟨yu, yd, yl, ys⟩ := by rw [List.getD_eq_getElem?_getD, hy]; rfl
      simp only [bubV, hgx, hgy] at hP4
      obtain ⟨o1, ho1⟩ : ∃ o, o = (q + 1) * 4 := ⟨_, rfl⟩
      obtain ⟨o2, ho2⟩ : ∃ o, o = q * 4 := ⟨_, rfl⟩
      have hsm : A.sub .i64 im 1 = iLen q := by subst hA; rw [him]; show iSub .i64 (iLen (q + 1)) 1 = _; unfold iLen; rw [iSub_id (by omega) (by omega)]; omega
      have hx1 : A.ixm 4 4 0 n im o1 := by subst hA; exact ixm4 him (by omega) ho1
      have hx2 : A.ixm 4 4 0 n (A.sub .i64 im 1) o2 := by rw [hsm]; subst hA; exact ixm4 rfl (by omega) ho2
      have hg1 : A.get (some 4) c2 o1 (.agg [I xu, I xd, I xl, I xs]) := by subst hA; rw [hc2]; exact flxGet (g := orC4) (fun _ => rfl) hx ho1
      have hg2 : A.get (some 4) c2 o2 (.agg [I yu, I yd, I yl, I ys]) := by subst hA; rw [hc2]; exact flxGet (g := orC4) (fun _ => rfl) hy ho2
      obtain ⟨c3, hc3⟩ : ∃ r, r = (l2.set (q + 1) ⟨yu, yd, yl, ys⟩).flatMap orC4 := ⟨_, rfl⟩
      obtain ⟨c4, hc4⟩ : ∃ r, r = ((l2.set (q + 1) ⟨yu, yd, yl, ys⟩).set q ⟨xu, xd, xl, xs⟩).flatMap orC4 := ⟨_, rfl⟩
      have hu1 : A.upd 4 c2 o1 [I yu, I yd, I yl, I ys] c3 := by subst hA; rw [hc2, hc3]; exact flxSet (g := orC4) (fun _ => rfl) hx ho1
      have hu2 : A.upd 4 c3 o2 [I xu, I xd, I xl, I xs] c4 := by subst hA; rw [hc3, hc4]; exact flxSet (g := orC4) (fun _ => rfl) (by rw [List.getElem?_set_ne (by omega)]; exact hy) ho2
      refine And.intro (hsg _) (Exists.intro _ (And.intro hx1 ?_)); cbv
      refine And.intro (hsg _) (Exists.intro _ (And.intro hg1 ?_)); cbv
      refine And.intro (hsg _) (Exists.intro _ (And.intro hx2 ?_)); cbv
      refine And.intro (hsg _) (Exists.intro _ (And.intro hg2 ?_)); cbv
      refine Exists.intro () (And.intro ⟨hf, hbx, hby⟩ ?_)
      intro cq hcq
      have hl0 := hll cq 0
      have hcmp : cq < 0 ↔ keyF f ⟨yu, yd, yl, ys⟩ < keyF f ⟨xu, xd, xl, xs⟩ := by
        rw [hcq]; unfold cmpI
        split
        · rename_i h9; exact ⟨fun _ => h9, fun _ => by decide⟩
        · rename_i h9
          split
          · exact ⟨fun h8 => absurd h8 (by decide), fun h8 => absurd h8 h9⟩
          · exact ⟨fun h8 => absurd h8 (by decide), fun h8 => absurd h8 h9⟩
      clear hcq
      cbv
      refine And.intro (by subst hA; exact .inr ⟨⟨rfl, SubH.same trivial⟩, by simp [ResK], .inr fun _ => SubH.same (SubH.same trivial)⟩) ?_
      cbv
      split <;> cbv
      · rename_i hz9
        have hz9 := hl0.symm.trans hz9
        rw [decide_eq_true_eq, hcmp] at hz9
        rw [if_pos hz9] at hP4
        have hset : ∀ z, z ∈ ((l2.set (q + 1) ⟨yu, yd, yl, ys⟩).set q ⟨xu, xd, xl, xs⟩) → OrdB z := fun z hz8 => by
          rcases List.mem_or_eq_of_mem_set hz8 with h8 | h8
          · rcases List.mem_or_eq_of_mem_set h8 with h7 | h7
            · exact hP3 z h7
            · rw [h7]; exact hby
          · rw [h8]; exact hbx
        refine And.intro (hsg _) (Exists.intro _ (And.intro hx2 ?_)); cbv
        refine And.intro (hsg _) (Exists.intro _ (And.intro hg2 ?_)); cbv
        refine And.intro (hsg _) (Exists.intro _ (And.intro hx1 ?_)); cbv
        refine And.intro (hsg _) (Exists.intro _ (And.intro hg1 ?_)); cbv
        refine And.intro (hsg _) (Exists.intro _ (And.intro hx1 ?_)); cbv
        refine And.intro (hsg _) (Exists.intro _ (And.intro hu1 ?_)); cbv
        refine And.intro (by subst hA; exact .inr ⟨⟨rfl, SubH.same trivial⟩, trivial, .inl rfl⟩) ?_; cbv
        refine And.intro (hsg _) (Exists.intro _ (And.intro hx2 ?_)); cbv
        refine And.intro (hsg _) (Exists.intro _ (And.intro hu2 ?_)); cbv
        exact hB2 (q, (l2.set (q + 1) ⟨yu, yd, yl, ys⟩).set q ⟨xu, xd, xl, xs⟩) _ _ (by dsimp only; omega) ⟨by dsimp only; omega, by simp [hP2], hset, hP4⟩ ⟨congrArg I hsm, trivial⟩ ⟨rfl, rfl, rfl, rfl, rfl, trivial⟩ (.inl (by rw [hc4]))
      · rename_i hz9
        have hz9 := hl0.symm.trans hz9
        rw [decide_eq_false_iff_not, hcmp] at hz9
        rw [if_neg hz9] at hP4
        exact hB () _ _ hk1 trivial ⟨congrArg I (hadd (by omega)), trivial⟩ ⟨rfl, rfl, rfl, rfl, trivial⟩ (.inl (by rw [hc2, hP4]))
    · rename_i hz
      have hz : ¬ 0 < im := by have hz := hz0.symm.trans hz; simpa using hz
      have hm0 : m = 0 := by unfold iLen at him; omega
      subst hm0
      have hend : l2 = sortV (keyF f) (l.take (j + 1 + 1)) ++ l.drop (j + 1 + 1) := hP4
      exact hB () _ _ hk1 trivial ⟨congrArg I (hadd (by omega)), trivial⟩ ⟨rfl, rfl, rfl, rfl, trivial⟩ (.inl (by rw [hc2, hend]))
  · rename_i hk0
    have hk1 : ¬ j < (n - 1) := by have hz := hlt.symm.trans hk0; simpa using hz
    clear hk0
    have hjn : j + 1 = n := by omega
    have hend : c1 = (sortV (keyF f) l).flatMap orC4 := by
      rw [hc1, hl1, hjn, hn, List.take_length, List.drop_length, List.append_nil]
    rw [← hend] at h
    exact ite_both h
end Go.Sas
