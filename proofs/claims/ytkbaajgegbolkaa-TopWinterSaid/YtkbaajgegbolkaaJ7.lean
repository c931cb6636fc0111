/-
Probe: marks in the order of their hours: plain functions; rows of many cells that are written to.
Probe: marks are put in the order of their hours: contracts.
Probe: the mends of a mark: contract.
Probe: places are taken out of spans: contract.
Probe: spans grow: contract of the closure of covered.
Probe: what a mark covers: contract.
Freight: contracts of the small checks.
Freight: what freights are, and which are valid.
Freight: winters, ways of delivering, what they deliver: what the functions yield.
Freight: Check.
Freight: how many units may go on a day, and the sum of a row: contracts.
Rows of rows: how they are handed back.
Freight: a plan's way of delivering: contract.
Freight: what a way delivers, and what it costs: contract.
Freight: worst and best seasons and winters: contracts.
Freight: what a plan costs: contract.
Freight: lists of plans: Contains, Clone.
Freight: all plans are handed out: contract.
Freight: all plans are handed out: contract of the function that grows them.
Freight: what valid freights are; entries of tables.
Freight: functions that draw numbers, comparisons of lists.
Freight: freights, plans, winters made of numbers: contracts.
TopWinter: the winter of a road, a road's open days, a freight that is written to: contracts.
TopWinter: a freight made of numbers whose days may be written to: contract.
An abstract machine over values, part 21: a run by reckoning. A function is run on the abstract machine by a plain function of Lean with fuel, and what it yields is what the function yields.
Conditions: none.
-/
import Derived.Test.YtkbaajgegbolkaaJ6
import Derived.Test.YtkbaajgegbolkaaJ3
import Derived.Test.YtkbaajgegbolkaaJ4
import Derived.Test.YtkbaajgegbolkaaJ5
set_option linter.unusedVariables false
set_option linter.unusedSimpArgs false
namespace Go.Sas
theorem insV_len {α : Type} {lt : α → Bool} {x : α} : ∀ {l : List α}, (insV lt x l).length = l.length + 1
  | [] => rfl
  | y :: r => by
    simp only [insV]
    split
    · simp [insV_len (l := r)]
    · simp
theorem insV_mem {α : Type} {lt : α → Bool} {x z : α} : ∀ {l : List α}, z ∈ insV lt x l ↔ z = x ∨ z ∈ l
  | [] => by simp [insV]
  | y :: r => by
    simp only [insV]
    split
    · simp only [List.mem_cons, insV_mem (l := r)]
      constructor
      · rintro (h | h | h)
        · exact .inr (.inl h)
        · exact .inl h
        · exact .inr (.inr h)
      · rintro (h | h | h)
        · exact .inr (.inl h)
        · exact .inl h
        · exact .inr (.inr h)
    · simp
theorem sortV_mem {α : Type} {key : α → Int} {z : α} {l : List α} : z ∈ sortV key l ↔ z ∈ l := by
  unfold sortV
  rw [List.mem_reverse]
  have : ∀ (l s : List α), z ∈ l.foldl (fun s x => insV (fun y => decide (key y < key x)) x s) s ↔ z ∈ s ∨ z ∈ l := by
    intro l
    induction l with
    | nil => intro s; simp
    | cons x l ih =>
      intro s
      rw [List.foldl_cons, ih, insV_mem]
      simp only [List.mem_cons]
      constructor
      · rintro ((h | h) | h)
        · exact .inr (.inl h)
        · exact .inl h
        · exact .inr (.inr h)
      · rintro (h | h | h)
        · exact .inl (.inr h)
        · exact .inl (.inl h)
        · exact .inr h
  rw [this]; simp
theorem sortV_len {α : Type} {key : α → Int} {l : List α} : (sortV key l).length = l.length := by
  unfold sortV
  rw [List.length_reverse]
  have : ∀ (l s : List α), (l.foldl (fun s x => insV (fun y => decide (key y < key x)) x s) s).length = s.length + l.length := by
    intro l
    induction l with
    | nil => intro s; simp
    | cons x l ih => intro s; rw [List.foldl_cons, ih, insV_len]; simp; omega
  rw [this]; simp
/-- one goes towards the front as long as those before it are less -/
def bubV {α : Type} (key : α → Int) (d : α) : List α → Nat → List α
  | l, 0 => l
  | l, j + 1 => if key (l.getD j d) < key (l.getD (j + 1) d) then bubV key d ((l.set (j + 1) (l.getD j d)).set j (l.getD (j + 1) d)) j else l
theorem bubV_eq {α : Type} {key : α → Int} {d : α} (x : α) : ∀ (zs rest : List α), bubV key d (zs.reverse ++ x :: rest) zs.length = (insV (fun y => decide (key y < key x)) x zs).reverse ++ rest
  | [], rest => by simp [bubV, insV]
  | y :: zs, rest => by
    have hl : (zs.reverse).length = zs.length := by simp
    have e1 : ((y :: zs).reverse ++ x :: rest) = zs.reverse ++ y :: x :: rest := by simp
    have g1 : (zs.reverse ++ y :: x :: rest).getD zs.length d = y := by
      rw [List.getD_eq_getElem?_getD, List.getElem?_append_right (by simp)]; simp
    have g2 : (zs.reverse ++ y :: x :: rest).getD (zs.length + 1) d = x := by
      rw [List.getD_eq_getElem?_getD, List.getElem?_append_right (by simp)]; simp
    rw [e1]
    simp only [List.length_cons, bubV, g1, g2, insV, decide_eq_true_eq]
    by_cases h : key y < key x
    · rw [if_pos h, if_pos h]
      have e2 : ((zs.reverse ++ y :: x :: rest).set (zs.length + 1) y).set zs.length x = zs.reverse ++ x :: (y :: rest) := by
        rw [List.set_append_right _ _ (by simp)]
        rw [List.set_append_right _ _ (by simp)]
        simp
      rw [e2, bubV_eq x zs (y :: rest)]
      simp
    · rw [if_neg h, if_neg h]; simp
/-- what is put in its place before i -/
theorem sort_step {α : Type} {key : α → Int} {d : α} {l : List α} {i : Nat} (hi : i < l.length) :
    bubV key d (sortV key (l.take i) ++ l.drop i) i = sortV key (l.take (i + 1)) ++ l.drop (i + 1) := by
  obtain ⟨x, hx⟩ : ∃ x, l[i]? = some x := ⟨_, List.getElem?_eq_getElem hi⟩
  have hlen : (sortV key (l.take i)).length = i := by rw [sortV_len]; simp; omega
  have hd : l.drop i = x :: l.drop (i + 1) := by
    obtain ⟨h, rfl⟩ := List.getElem?_eq_some_iff.1 hx
    exact List.drop_eq_getElem_cons h
  have ht : l.take (i + 1) = l.take i ++ [x] := by
    obtain ⟨h, rfl⟩ := List.getElem?_eq_some_iff.1 hx
    exact List.take_succ_eq_append_getElem h
  obtain ⟨zs, hzs⟩ : ∃ zs, zs = (l.take i).foldl (fun s x => insV (fun y => decide (key y < key x)) x s) [] := ⟨_, rfl⟩
  have hs : sortV key (l.take i) = zs.reverse := by rw [hzs]; rfl
  have hzl : zs.length = i := by rw [hs] at hlen; simpa using hlen
  rw [hs, hd]
  have := bubV_eq (key := key) (d := d) x zs (l.drop (i + 1))
  rw [hzl] at this
  rw [this]
  congr 1
  unfold sortV
  rw [ht, List.foldl_append, ← hzs]; rfl
section
variable {α : Type} {g : α → List AV} {sz : Nat}
theorem flxDrop (hg : ∀ x, (g x).length = sz) : ∀ {l : List α} {i : Nat} {x : α}, l[i]? = some x → (l.flatMap g).drop (i * sz) = g x ++ (l.drop (i + 1)).flatMap g
  | [], i, x, h => by simp at h
  | y :: l, 0, x, h => by simp at h; subst h; simp
  | y :: l, i + 1, x, h => by
    simp only [List.getElem?_cons_succ] at h
    rw [List.flatMap_cons, show (i + 1) * sz = (g y).length + i * sz by rw [hg, Nat.add_mul]; omega, ← List.drop_drop, List.drop_left, flxDrop hg h]
    rfl
theorem flxTake (hg : ∀ x, (g x).length = sz) : ∀ {l : List α} {i : Nat}, i ≤ l.length → (l.flatMap g).take (i * sz) = (l.take i).flatMap g
  | l, 0, _ => by simp
  | [], i + 1, h => by simp at h
  | y :: l, i + 1, h => by
    rw [List.flatMap_cons, show (i + 1) * sz = (g y).length + i * sz by rw [hg, Nat.add_mul]; omega, List.take_length_add_append, flxTake hg (by simpa using h)]
    simp
theorem flxLen (hg : ∀ x, (g x).length = sz) (l : List α) : (l.flatMap g).length = l.length * sz := len_flat hg l
theorem flxGet (hg : ∀ x, (g x).length = sz) {l : List α} {i o : Nat} {x : α} (h : l[i]? = some x) (ho : o = i * sz) : getS (some sz) (l.flatMap g) o (.agg (g x)) := by
  subst ho
  have hi := (List.getElem?_eq_some_iff.1 h).1
  have hl := flxLen hg l
  have : (i + 1) * sz ≤ l.length * sz := Nat.mul_le_mul_right _ (by omega)
  rw [Nat.add_mul] at this
  unfold getS getN
  simp only
  rw [if_pos (by omega), flxDrop hg h, List.take_left' (hg x)]
theorem flxSet (hg : ∀ x, (g x).length = sz) {l : List α} {i o : Nat} {x y : α} (h : l[i]? = some x) (ho : o = i * sz) : updS sz (l.flatMap g) o (g y) ((l.set i y).flatMap g) := by
  subst ho
  have hi := (List.getElem?_eq_some_iff.1 h).1
  have hl := flxLen hg l
  have : (i + 1) * sz ≤ l.length * sz := Nat.mul_le_mul_right _ (by omega)
  rw [Nat.add_mul] at this
  refine ⟨hg y, by omega, ?_⟩
  rw [List.set_eq_take_append_cons_drop, if_pos hi, List.flatMap_append, List.flatMap_cons, flxTake hg (by omega)]
  have e2 : (l.flatMap g).drop (i * sz + sz) = (l.drop (i + 1)).flatMap g := by rw [← List.drop_drop, flxDrop hg h, List.drop_left' (hg x)]
  rw [e2]; simp
end
end Go.Sas
namespace Go.Sas
open Go.Proofs
set_option maxRecDepth 100000
theorem ite_bM {c : Prop} {i : Decidable c} {p : Prop} (h : p) : @ite _ c i p p := by split <;> exact h
theorem p77 (n : Int) (H : AHeap) {Kk : AV → AHeap → Prop} (h : Kk (B false) H) : ACalls Try.prog 77 [I n] H Kk := by
  refine (fun q => pureC (by rfl) (by rfl) q H h) ?_
  clear h
  intro Kk h
  obtain ⟨A, hA⟩ : ∃ A, A = std := ⟨_, rfl⟩
  have hnx : A.ne n n = false := by subst hA; simp [std, iNe]
  refine go77 rfl (SGo_run hA ⟨[], [], [], []⟩ .nil .nil 200 fun T TD hT hTD => ?_)
  cbv
  exact leaf h (congrArg B hnx.symm) rfl
def eIsNaN : List AV → Option ((AV → Prop) → Prop)
  | [.lit (.int .i64 _)] => some fun K => K (B false)
  | _ => none
theorem eIsNaN_ok : ∀ args pt, eIsNaN args = some pt → ∀ (H : AHeap) (Kk : AV → AHeap → Prop), pt (fun r => Kk r H) → ACalls Try.prog 77 args H Kk := by
  intro args pt h H Kk hk
  unfold eIsNaN at h
  split at h
  · cases h; exact p77 _ H hk
  · cases h
def cmpI (a b : Int) : Int := if a < b then -1 else if b < a then 1 else 0
theorem p67 (x y : Int) (H : AHeap) {Kk : AV → AHeap → Prop} (h : Kk (I (cmpI x y)) H) : ACalls Try.prog 67 [I x, I y] H Kk := by
  refine (fun q => pureC (by rfl) (by rfl) q H h) ?_
  clear h
  intro Kk h
  obtain ⟨W, hW⟩ : ∃ W, W = cmpI x y := ⟨_, rfl⟩
  rw [← hW] at h
  unfold cmpI at hW
  obtain ⟨A, hA⟩ : ∃ A, A = std := ⟨_, rfl⟩
  have hl1 : A.lt x y = decide (x < y) := by subst hA; rfl
  have hl2 : A.lt y x = decide (y < x) := by subst hA; rfl
  refine go67 rfl (SGo_run hA ⟨[], [], (77, eIsNaN) :: [], []⟩ (.cons eIsNaN_ok .nil) .nil 200 fun T TD hT hTD => ?_)
  cbv
  split <;> cbv
  · rename_i hz
    have hz := hl1.symm.trans hz
    exact leaf h (congrArg I (by rw [hW, if_pos (by simpa using hz)])) rfl
  rename_i hz
  have hz := hl1.symm.trans hz
  split <;> cbv
  · rename_i hz2
    have hz2 := hl2.symm.trans hz2
    exact leaf h (congrArg I (by rw [hW, if_neg (by simpa using hz), if_pos (by simpa using hz2)])) rfl
  · rename_i hz2
    have hz2 := hl2.symm.trans hz2
    exact leaf h (congrArg I (by rw [hW, if_neg (by simpa using hz), if_neg (by simpa using hz2)])) rfl
def eCmp : List AV → Option ((AV → Prop) → Prop)
  | [.lit (.int .i64 x), .lit (.int .i64 y)] => some fun K => ∀ q, q = cmpI x y → K (I q)
  | _ => none
theorem eCmp_ok : ∀ args pt, eCmp args = some pt → ∀ (H : AHeap) (Kk : AV → AHeap → Prop), pt (fun r => Kk r H) → ACalls Try.prog 67 args H Kk := by
  intro args pt h H Kk hk
  unfold eCmp at h
  split at h
  · cases h; exact p67 _ _ H (hk _ rfl)
  · cases h
theorem p89 (x y : Mrk) (H : AHeap) {Kk : AV → AHeap → Prop} (h : Kk (I (cmpI x.h y.h)) H) : ACalls Try.prog 89 [mkV x, mkV y] H Kk := by
  obtain ⟨xk, xf, xt, xh, xs⟩ := x
  obtain ⟨yk, yf, yt, yh, ys⟩ := y
  dsimp only at h
  refine (fun q => pureC (by rfl) (by rfl) q H h) ?_
  clear h
  intro Kk h
  obtain ⟨W, hW⟩ : ∃ W, W = cmpI xh yh := ⟨_, rfl⟩
  rw [← hW] at h
  obtain ⟨A, hA⟩ : ∃ A, A = std := ⟨_, rfl⟩
  refine go89 rfl (SGo_run hA ⟨[], [], (67, eCmp) :: [], []⟩ (.cons eCmp_ok .nil) .nil 200 fun T TD hT hTD => ?_)
  cbv
  intro q hq; cbv
  rw [hq.trans hW.symm]
  exact h
def eCmpM : List AV → Option ((AV → Prop) → Prop)
  | [.agg [.lit (.int .i64 k), .lit (.int .i64 f), .lit (.int .i64 t), .lit (.int .i64 h), .lit (.int .i64 s)], .agg [.lit (.int .i64 k'), .lit (.int .i64 f'), .lit (.int .i64 t'), .lit (.int .i64 h'), .lit (.int .i64 s')]] => some fun K => ∀ q, q = cmpI h h' → K (I q)
  | _ => none
theorem eCmpM_ok : ∀ args pt, eCmpM args = some pt → ∀ (H : AHeap) (Kk : AV → AHeap → Prop), pt (fun r => Kk r H) → ACalls Try.prog 89 args H Kk := by
  intro args pt h H Kk hk
  unfold eCmpM at h
  split at h
  · rename_i k f t h0 s k' f' t' h0' s'
    cases h
    exact p89 ⟨k, f, t, h0, s⟩ ⟨k', f', t', h0', s'⟩ H (hk _ rfl)
  · cases h
theorem ixm5M {len j o : Nat} {i : Int} (hi : i = iLen j) (h : j < len) (ho : o = j * 5) : ixmS 5 5 0 len i o := by
  subst hi ho; unfold ixmS iLen; refine ⟨rfl, by omega, by omega, by omega⟩
set_option maxHeartbeats 4000000 in
/-- marks are put in their places -/
theorem p93 (g : Nat) (l : List Mrk) (hl : l.length ≤ 1000) (Kk : AV → AHeap → Prop) (h : Kk (.tup []) [.own g ((sortV keyM l).flatMap mkC)]) :
    ACalls Try.prog 93 [.ms 5 0 g 0 l.length, I 0, I (iLen l.length), .fn 89 []] [.own g (l.flatMap mkC)] Kk := by
  obtain ⟨n, hn⟩ : ∃ n, n = l.length := ⟨_, rfl⟩
  obtain ⟨iN, hiN⟩ : ∃ i : Int, i = iLen n := ⟨_, rfl⟩
  obtain ⟨lc, hlc⟩ : ∃ r, r = l.flatMap mkC := ⟨_, rfl⟩
  rw [← hn, ← hiN, ← hlc]
  rw [← hn] at hl
  obtain ⟨A, hA⟩ : ∃ A, A = std := ⟨_, rfl⟩
  have hsg : ∀ g, A.sg g g := by subst hA; exact fun _ => rfl
  have hll : ∀ x y, A.lt x y = decide (x < y) := by subst hA; intro x y; rfl
  have h01 : A.add .i64 0 1 = iLen 1 := by subst hA; rfl
  refine go93 rfl (SGo_run hA ⟨[0], [], [], []⟩ .nil .nil 200 fun T TD hT hTD => ?_)
  cbv
  rw [hT]
  obtain ⟨d0, hd0⟩ : ∃ d : Mrk, d = mk0 := ⟨_, rfl⟩
  have hst : ∀ j, j ≤ n → (sortV keyM (l.take j) ++ l.drop j).length = n := fun j hj => by rw [List.length_append, sortV_len]; simp; omega
  have hs1 : sortV keyM (l.take 1) ++ l.drop 1 = l := by
    cases l with
    | nil => rfl
    | cons x l => simp [sortV, insV]
  refine AGo_upE [0, 1, 2, 3] (n - 1) (fun _ (_ : Unit) => True) (fun j _ _ => [(8, I (iLen (j + 1)))]) (fun j _ => [.own g ((sortV keyM (l.take (j + 1)) ++ l.drop (j + 1)).flatMap mkC)]) () trivial ⟨congrArg I h01, trivial⟩ (.inl (by rw [hs1, hlc])) fun j _ i hi hj _ Bk hB => ?_
  clear hT hTD T TD
  obtain ⟨ij, hij⟩ : ∃ q, q = iLen (j + 1) := ⟨_, rfl⟩
  rw [← hij]
  have hlt : A.lt ij iN = decide (j < n - 1) := by rw [hll, hij, hiN]; unfold iLen; apply decide_eq_decide.2; omega
  have hadd : j + 1 < n → A.add .i64 ij 1 = iLen (j + 1 + 1) := fun hj => by subst hA; exact add_one hij (N := n) hj (by omega)
  obtain ⟨l1, hl1⟩ : ∃ r, r = sortV keyM (l.take (j + 1)) ++ l.drop (j + 1) := ⟨_, rfl⟩
  obtain ⟨c1, hc1⟩ : ∃ r, r = l1.flatMap mkC := ⟨_, rfl⟩
  rw [← hl1, ← hc1]
  refine SGo_run hA ⟨[0], [], [], []⟩ .nil .nil 200 fun T TD hT hTD => ?_
  cbv
  split <;> cbv
  · rename_i hk0
    have hk1 : j < (n - 1) := by have hz := hlt.symm.trans hk0; simpa using hz
    clear hk0
    have hstep := sort_step (key := keyM) (d := d0) (l := l) (i := j + 1) (by omega)
    rw [← hl1] at hstep
    have hl1n : l1.length = n := by rw [hl1]; exact hst _ (by omega)
    rw [hT]
    refine AGo_whileE [0, 1, 2, 3, 8] (fun (s : Nat × List Mrk) => s.1) (fun s => s.1 ≤ j + 1 ∧ s.2.length = n ∧ bubV keyM d0 s.2 s.1 = sortV keyM (l.take (j + 1 + 1)) ++ l.drop (j + 1 + 1)) (fun s => [(9, I (iLen s.1))]) (fun s => [.own g (s.2.flatMap mkC)]) (j + 1, l1) ⟨Nat.le_refl _, hl1n, hstep⟩ ⟨congrArg I hij, trivial⟩ (.inl (by rw [hc1])) fun s hP Bk2 hB2 => ?_
    clear hT hTD T TD
    obtain ⟨m, l2⟩ := s
    obtain ⟨hP1, hP2, hP4⟩ := hP
    dsimp only at hP1 hP2 hP4 hB2 ⊢
    obtain ⟨im, him⟩ : ∃ q, q = iLen m := ⟨_, rfl⟩
    obtain ⟨c2, hc2⟩ : ∃ r, r = l2.flatMap mkC := ⟨_, rfl⟩
    rw [← him, ← hc2]
    have hz0 := hll 0 im
    refine SGo_run hA ⟨[0], [2000000], (89, eCmpM) :: [], []⟩ (.cons eCmpM_ok .nil) .nil 200 fun T TD hT hTD => ?_
    cbv
    split <;> cbv
    · rename_i hz
      have hz : 0 < im := by have hz := hz0.symm.trans hz; simpa using hz
      obtain ⟨q, hq⟩ : ∃ q, m = q + 1 := ⟨m - 1, by unfold iLen at him; omega⟩
      subst hq
      obtain ⟨⟨xk, xf, xt, xh, xs⟩, hx⟩ : ∃ x, l2[q + 1]? = some x := ⟨_, List.getElem?_eq_getElem (by omega)⟩
      obtain ⟨⟨yk, yf, yt, yh, ys⟩, hy⟩ : ∃ x, l2[q]? = some x := ⟨_, List.getElem?_eq_getElem (by omega)⟩
      have hgx : l2.getD (q + 1) d0 = ⟨xk, xf, xt, xh, xs⟩ := by rw [List.getD_eq_getElem?_getD, hx]; rfl
      have hgy : l2.getD q d0 = ⟨yk, yf, yt, yh, ys⟩ := by rw [List.getD_eq_getElem?_getD, hy]; rfl
      simp only [bubV, hgx, hgy] at hP4
      obtain ⟨o1, ho1⟩ : ∃ o, o = (q + 1) * 5 := ⟨_, rfl⟩
      obtain ⟨o2, ho2⟩ : ∃ o, o = q * 5 := ⟨_, rfl⟩
      have hsm : A.sub .i64 im 1 = iLen q := by subst hA; rw [him]; show iSub .i64 (iLen (q + 1)) 1 = _; unfold iLen; rw [iSub_id (by omega) (by omega)]; omega
      have hx1 : A.ixm 5 5 0 n im o1 := by subst hA; exact ixm5M him (by omega) ho1
      have hx2 : A.ixm 5 5 0 n (A.sub .i64 im 1) o2 := by rw [hsm]; subst hA; exact ixm5M rfl (by omega) ho2
      have hg1 : A.get (some 5) c2 o1 (.agg [I xk, I xf, I xt, I xh, I xs]) := by subst hA; rw [hc2]; exact flxGet (g := mkC) (fun _ => rfl) hx ho1
      have hg2 : A.get (some 5) c2 o2 (.agg [I yk, I yf, I yt, I yh, I ys]) := by subst hA; rw [hc2]; exact flxGet (g := mkC) (fun _ => rfl) hy ho2
      obtain ⟨c3, hc3⟩ : ∃ r, r = (l2.set (q + 1) ⟨yk, yf, yt, yh, ys⟩).flatMap mkC := ⟨_, rfl⟩
      obtain ⟨c4, hc4⟩ : ∃ r, r = ((l2.set (q + 1) ⟨yk, yf, yt, yh, ys⟩).set q ⟨xk, xf, xt, xh, xs⟩).flatMap mkC := ⟨_, rfl⟩
      have hu1 : A.upd 5 c2 o1 [I yk, I yf, I yt, I yh, I ys] c3 := by subst hA; rw [hc2, hc3]; exact flxSet (g := mkC) (fun _ => rfl) hx ho1
      have hu2 : A.upd 5 c3 o2 [I xk, I xf, I xt, I xh, I xs] c4 := by subst hA; rw [hc3, hc4]; exact flxSet (g := mkC) (fun _ => rfl) (by rw [List.getElem?_set_ne (by omega)]; exact hy) ho2
      refine And.intro (hsg _) (Exists.intro _ (And.intro hx1 ?_)); cbv
      refine And.intro (hsg _) (Exists.intro _ (And.intro hg1 ?_)); cbv
      refine And.intro (hsg _) (Exists.intro _ (And.intro hx2 ?_)); cbv
      refine And.intro (hsg _) (Exists.intro _ (And.intro hg2 ?_)); cbv
      intro cq hcq
      have hl0 := hll cq 0
      have hcmp : cq < 0 ↔ keyM ⟨yk, yf, yt, yh, ys⟩ < keyM ⟨xk, xf, xt, xh, xs⟩ := by
        rw [hcq]; unfold cmpI
        show _ ↔ -yh < -xh
        split
        · rename_i h9; exact ⟨fun _ => by omega, fun _ => by decide⟩
        · rename_i h9
          split
          · exact ⟨fun h8 => absurd h8 (by decide), fun h8 => by omega⟩
          · exact ⟨fun h8 => absurd h8 (by decide), fun h8 => by omega⟩
      clear hcq
      cbv
      split <;> cbv
      · rename_i hz9
        have hz9 := hl0.symm.trans hz9
        rw [decide_eq_true_eq, hcmp] at hz9
        rw [if_pos hz9] at hP4
        refine And.intro (hsg _) (Exists.intro _ (And.intro hx2 ?_)); cbv
        refine And.intro (hsg _) (Exists.intro _ (And.intro hg2 ?_)); cbv
        refine And.intro (hsg _) (Exists.intro _ (And.intro hx1 ?_)); cbv
        refine And.intro (hsg _) (Exists.intro _ (And.intro hg1 ?_)); cbv
        refine And.intro (hsg _) (Exists.intro _ (And.intro hx1 ?_)); cbv
        refine And.intro (hsg _) (Exists.intro _ (And.intro hu1 ?_)); cbv
        refine And.intro (by subst hA; exact .inr ⟨⟨rfl, trivial⟩, trivial, .inl rfl⟩) ?_; cbv
        refine And.intro (hsg _) (Exists.intro _ (And.intro hx2 ?_)); cbv
        refine And.intro (hsg _) (Exists.intro _ (And.intro hu2 ?_)); cbv
        exact hB2 (q, (l2.set (q + 1) ⟨yk, yf, yt, yh, ys⟩).set q ⟨xk, xf, xt, xh, xs⟩) _ _ (by dsimp only; omega) ⟨by dsimp only; omega, by simp [hP2], hP4⟩ ⟨congrArg I hsm, trivial⟩ ⟨rfl, rfl, rfl, rfl, rfl, trivial⟩ (.inl (by rw [hc4]))
      · rename_i hz9
        have hz9 := hl0.symm.trans hz9
        rw [decide_eq_false_iff_not, hcmp] at hz9
        rw [if_neg hz9] at hP4
        exact hB () _ _ hk1 trivial ⟨congrArg I (hadd (by omega)), trivial⟩ ⟨rfl, rfl, rfl, rfl, trivial⟩ (.inl (by rw [hc2, hP4]))
    · rename_i hz
      have hz : ¬ 0 < im := by have hz := hz0.symm.trans hz; simpa using hz
      have hm0 : m = 0 := by unfold iLen at him; omega
      subst hm0
      have hend : l2 = sortV keyM (l.take (j + 1 + 1)) ++ l.drop (j + 1 + 1) := hP4
      exact hB () _ _ hk1 trivial ⟨congrArg I (hadd (by omega)), trivial⟩ ⟨rfl, rfl, rfl, rfl, trivial⟩ (.inl (by rw [hc2, hend]))
  · rename_i hk0
    have hk1 : ¬ j < (n - 1) := by have hz := hlt.symm.trans hk0; simpa using hz
    clear hk0
    have hend : c1 = (sortV keyM l).flatMap mkC := by
      rw [hc1, hl1, List.take_of_length_le (by omega), List.drop_eq_nil_of_le (by omega), List.append_nil]
    rw [← hend] at h
    exact ite_bM h
def eIns : List AV → AHeap → Option PT
  | [.ms 5 0 g 0 n, .lit (.int .i64 a), .lit (.int .i64 i), .fn fid []], H => some fun K => ∃ l : List Mrk, (H = [.own g (l.flatMap mkC)] ∧ n = l.length ∧ a = 0 ∧ i = iLen n ∧ fid = 89 ∧ n ≤ 1000) ∧ ∀ cs, cs = (sortV keyM l).flatMap mkC → K (.tup []) [.own g cs]
  | _, _ => none
theorem eIns_ok : ∀ args H pt, eIns args H = some pt → ∀ (Kk : AV → AHeap → Prop), pt Kk → ACalls Try.prog 93 args H Kk := by
  intro args H pt h Kk hk
  unfold eIns at h
  split at h
  · cases h
    obtain ⟨l, ⟨rfl, rfl, rfl, rfl, rfl, h1⟩, h2⟩ := hk
    exact p93 _ _ h1 Kk (h2 _ rfl)
  · cases h
theorem p91 (g : Nat) (l : List Mrk) (hl : l.length ≤ 19) (Kk : AV → AHeap → Prop) (h : Kk (.tup []) [.own g ((sortV keyM l).flatMap mkC)]) :
    ACalls Try.prog 91 [.ms 5 0 g 0 l.length, I (iLen l.length), .fn 89 []] [.own g (l.flatMap mkC)] Kk := by
  obtain ⟨n, hn⟩ : ∃ n, n = l.length := ⟨_, rfl⟩
  obtain ⟨iN, hiN⟩ : ∃ i : Int, i = iLen n := ⟨_, rfl⟩
  obtain ⟨lc, hlc⟩ : ∃ r, r = l.flatMap mkC := ⟨_, rfl⟩
  rw [← hn, ← hiN, ← hlc]
  rw [← hn] at hl
  obtain ⟨A, hA⟩ : ∃ A, A = std := ⟨_, rfl⟩
  have hle : A.le 20 iN = false := by subst hA; simp only [std, iLe, decide_eq_false_iff_not]; rw [hiN]; unfold iLen; omega
  have hlt : A.lt 20 iN = false := by subst hA; simp only [std, iLt, decide_eq_false_iff_not]; rw [hiN]; unfold iLen; omega
  refine go91 rfl (SGo_run hA ⟨[], [], [], []⟩ .nil .nil 200 fun T TD hT hTD => ?_)
  cbv
  rw [hT]
  refine AGo_whileE (σ := Unit) [0, 1, 2] (fun _ => 0) (fun _ => True) (fun _ => [(6, I 20), (7, I 0), (8, I 20)]) (fun _ => [.own g lc]) () trivial ⟨rfl, rfl, rfl, trivial⟩ (.inl rfl) fun _ _ Bk hB => ?_
  refine SGo_run hA ⟨[0], [], [], (93, eIns) :: []⟩ .nil (.cons eIns_ok .nil) 200 fun T TD hT hTD => ?_
  cbv
  split <;> cbv
  · rename_i hz; exact Bool.noConfusion (hz.symm.trans hle)
  refine Exists.intro l (And.intro ⟨by rw [hlc], hn, rfl, hiN, rfl, by omega⟩ ?_)
  intro cs hcs; cbv
  rw [hT]
  refine AGo_whileE (σ := Unit) [0, 1, 2] (fun _ => 0) (fun _ => True) (fun _ => [(6, I 20)]) (fun _ => [.own g cs]) () trivial ⟨rfl, trivial⟩ (.inl rfl) fun _ _ Bk2 hB2 => ?_
  refine SGo_run hA ⟨[0], [], [], []⟩ .nil .nil 200 fun T TD hT hTD => ?_
  cbv
  split <;> cbv
  · rename_i hz; exact Bool.noConfusion (hz.symm.trans hlt)
  rw [hcs]
  exact ite_bM h
def eStab : List AV → AHeap → Option PT
  | [.ms 5 0 g 0 n, .lit (.int .i64 i), .fn fid []], H => some fun K => ∃ l : List Mrk, (H = [.own g (l.flatMap mkC)] ∧ n = l.length ∧ i = iLen n ∧ fid = 89 ∧ n ≤ 19) ∧ ∀ cs, cs = (sortV keyM l).flatMap mkC → K (.tup []) [.own g cs]
  | _, _ => none
theorem eStab_ok : ∀ args H pt, eStab args H = some pt → ∀ (Kk : AV → AHeap → Prop), pt Kk → ACalls Try.prog 91 args H Kk := by
  intro args H pt h Kk hk
  unfold eStab at h
  split at h
  · cases h
    obtain ⟨l, ⟨rfl, rfl, rfl, rfl, h1⟩, h2⟩ := hk
    exact p91 _ _ h1 Kk (h2 _ rfl)
  · cases h
theorem p88 (g : Nat) (l : List Mrk) (hl : l.length ≤ 19) (Kk : AV → AHeap → Prop) (h : Kk (.tup []) [.own g ((sortV keyM l).flatMap mkC)]) :
    ACalls Try.prog 88 [.ms 5 0 g 0 l.length, .fn 89 []] [.own g (l.flatMap mkC)] Kk := by
  obtain ⟨n, hn⟩ : ∃ n, n = l.length := ⟨_, rfl⟩
  obtain ⟨lc, hlc⟩ : ∃ r, r = l.flatMap mkC := ⟨_, rfl⟩
  rw [← hn, ← hlc]
  rw [← hn] at hl
  obtain ⟨A, hA⟩ : ∃ A, A = std := ⟨_, rfl⟩
  have hsg : ∀ g, A.sg g g := by subst hA; exact fun _ => rfl
  have hln : A.len n = iLen n := by subst hA; rfl
  refine go88 rfl (SGo_run hA ⟨[0], [], [], (91, eStab) :: []⟩ .nil (.cons eStab_ok .nil) 200 fun T TD hT hTD => ?_)
  cbv
  refine And.intro (hsg _) ?_; cbv
  refine Exists.intro l (And.intro ⟨by rw [hlc], hn, hln, rfl, by omega⟩ ?_)
  intro cs hcs; cbv
  rw [hcs]
  exact ite_bM h
theorem mkC_nid (l : List Mrk) : AV.nidL (l.flatMap mkC) = true := nidL_flat (fun _ => rfl) l
def eSortM : List AV → AHeap → Option PT
  | [.ms 5 id g 0 n, .fn fid []], H => match H[id]? with
    | some (.own g' cs) => some fun K => ∃ l : List Mrk, (g' = g ∧ cs = l.flatMap mkC ∧ n = l.length ∧ fid = 89 ∧ n ≤ 19) ∧ ∀ cs', cs' = (sortV keyM l).flatMap mkC → K (.tup []) (H.set id (.own g cs'))
    | _ => none
  | _, _ => none
theorem eSortM_ok : ∀ args H pt, eSortM args H = some pt → ∀ (Kk : AV → AHeap → Prop), pt Kk → ACalls Try.prog 88 args H Kk := by
  intro args H pt h Kk hk
  unfold eSortM at h
  split at h
  · rename_i id g n fid
    split at h
    · rename_i g' cs hX
      cases h
      obtain ⟨l, ⟨rfl, rfl, rfl, rfl, h1⟩, h2⟩ := hk
      have g1 := p88 g' l h1 (fun r H' => r = .tup [] ∧ H' = [.own g' ((sortV keyM l).flatMap mkC)]) ⟨rfl, rfl⟩
      have g2 := ACalls.frame (H := H) [id] g1 (by simp) (by simp) (by simp [AV.ltL, AV.lt]) (by simp [ltH, AObj.lt, AV.ltL_nid (mkC_nid l)]) (fun k X hk => by
        cases k with
        | zero => simp at hk; subst hk; simpa [at_, AObj.ren, AV.renL_nid (mkC_nid l)] using hX
        | succ k => simp at hk)
      have e : AV.renL [id] [.ms 5 0 g' 0 l.length, .fn 89 []] = [.ms 5 id g' 0 l.length, .fn 89 []] := by simp [AV.renL, AV.ren, at_]
      rw [e] at g2
      refine g2.mono fun r H' hx => ?_
      obtain ⟨r0, H1, ⟨rfl, rfl⟩, _, rfl, rfl⟩ := hx
      have := h2 _ rfl
      simpa [merge, updL, AObj.ren, AV.ren, AV.renL, AV.renL_nid (mkC_nid _)] using this
    · cases h
  · cases h
end Go.Sas
namespace Go.Sas
open Go.Proofs
set_option maxRecDepth 100000
theorem p80 (m : List Mrk) (k : Nat) (h0 : Int) (hm : m.length ≤ 19) (hk : k < m.length) (H : AHeap) {Kk : AV → AHeap → Prop} (h : Kk (.vs 5 ((mendS m k h0).map mkV)) H) : ACalls Try.prog 80 [.vs 5 (m.map mkV), I (iLen k), I h0] H Kk := by
  refine (fun q => pureF (by simp [AV.nidL, AV.nid, nidL_map (g := mkV) (fun _ => rfl) m]) (by simp [AV.nid]) q H h) ?_
  clear h
  intro Kk h
  obtain ⟨xs, hxs⟩ : ∃ xs, xs = m.map mkV := ⟨_, rfl⟩
  obtain ⟨ik, hik⟩ : ∃ i, i = iLen k := ⟨_, rfl⟩
  rw [← hxs, ← hik]
  obtain ⟨M, hM⟩ : ∃ M, M = m.length := ⟨_, rfl⟩
  obtain ⟨mk, hmk⟩ : ∃ x, x = m.getD k mk0 := ⟨_, rfl⟩
  have hmk' : m[k]? = some mk := by rw [hmk, List.getD_eq_getElem?_getD, List.getElem?_eq_getElem hk]; rfl
  obtain ⟨F, hF⟩ : ∃ F, F = Frees 0 Kk := ⟨_, rfl⟩
  rw [← hF]
  obtain ⟨A, hA⟩ : ∃ A, A = std := ⟨_, rfl⟩
  have hne : ∀ x y, A.ne x y = decide (x ≠ y) := by subst hA; intro x y; simp only [std, iNe]; rw [Bool.eq_iff_iff]; simp
  have hee : ∀ x y, A.eq x y = decide (x = y) := by subst hA; intro x y; exact iEq_dec _ _
  have hll : ∀ x y, A.lt x y = decide (x < y) := by subst hA; intro x y; rfl
  have hle : ∀ x y, A.le x y = decide (x ≤ y) := by subst hA; intro x y; rfl
  have hnb : ∀ b, A.bnot b = !b := by subst hA; intro b; rfl
  have hbd : ∀ x y, A.band x y = (x && y) := by subst hA; intro x y; rfl
  have hsg : ∀ g, A.sg g g := by subst hA; exact fun _ => rfl
  have hvv : A.vlen xs = iLen M := by subst hA; rw [hxs, hM]; simp [std]
  obtain ⟨ML, hML⟩ : ∃ f : Nat → List Mrk, f = fun j => ((m.zipIdx.take j).filter fun p => isMend m k h0 p.2 p.1).map (·.1) := ⟨_, rfl⟩
  have hMLs : ∀ j x, m[j]? = some x → ML (j + 1) = ML j ++ (if isMend m k h0 j x = true then [x] else []) := fun j x hx => by
    rw [hML]; dsimp only
    have hz : m.zipIdx[j]? = some (x, j) := by rw [List.getElem?_zipIdx, hx]; simp
    obtain ⟨h8, he⟩ := List.getElem?_eq_some_iff.1 hz
    rw [List.take_succ_eq_append_getElem h8, he, List.filter_append, List.map_append]
    congr 1
    by_cases hq : isMend m k h0 j x = true <;> simp [hq]
  have hMLl : ∀ j, (ML j).length ≤ j := fun j => by
    rw [hML]; simp only [List.length_map]
    refine Nat.le_trans (List.length_filter_le _ _) ?_
    rw [List.length_take]; omega
  have hMLe : ML M = mendL m k h0 := by rw [hML]; unfold mendL; dsimp only; rw [List.take_of_length_le (by simp; omega)]
  refine go80 rfl (SGo_run hA ⟨[], [], [], []⟩ .nil .nil 200 fun T TD hT hTD => ?_)
  cbv
  rw [hT]
  refine AGo_nilms 7 5 rfl ?_
  refine AGo_upE [0, 1, 2, 10, 11] M (fun _ (_ : Unit) => True) (fun j _ i => [(7, .ms 5 0 (ML j).length 0 (ML j).length), (12, I i)]) (fun j _ => [.own (ML j).length ((ML j).flatMap mkC)]) () trivial ⟨by rw [hML]; rfl, rfl, trivial⟩ (.inl (by rw [hML]; rfl)) fun j _ i hi hj _ Bk hB => ?_
  have hlt : A.lt i (A.vlen xs) = decide (j < M) := by rw [hvv, hll, hi, decide_eq_decide]; unfold iLen; omega
  have hadd : ∀ N, j < N → N ≤ 9223372036854775807 → A.add .i64 i 1 = iLen (j + 1) := fun N hj hN => by subst hA; exact add_one hi hj hN
  obtain ⟨n, hn⟩ : ∃ n, n = (ML j).length := ⟨_, rfl⟩
  obtain ⟨cc, hcc⟩ : ∃ c, c = (ML j).flatMap mkC := ⟨_, rfl⟩
  rw [← hn, ← hcc]
  have hcl : cc.length = n * 5 := by rw [hcc, hn, len_flat (k := 5) (fun _ => rfl)]
  have hn19 : n ≤ 19 := by have := hMLl j; omega
  refine SGo_run hA ⟨[0], [1000], [], (88, eSortM) :: []⟩ .nil (.cons eSortM_ok .nil) 200 fun T TD hT hTD => ?_
  cbv
  split <;> cbv
  · rename_i hk0
    have hk1 : j < M := by have hz := hlt.symm.trans hk0; simpa using hz
    clear hk0
    obtain ⟨x, hx⟩ : ∃ x, m[j]? = some x := ⟨_, List.getElem?_eq_getElem (by omega)⟩
    have hs := hMLs j x hx
    obtain ⟨xk, xf, xt, xh, xp⟩ := x
    obtain ⟨yk, yf, yt, yh, yp⟩ := mk
    have hix : A.ix 5 5 xs i (mkC ⟨xk, xf, xt, xh, xp⟩) := by subst hA; exact ix_map hxs hi hx rfl
    have hiy : A.ix 5 5 xs ik (mkC ⟨yk, yf, yt, yh, yp⟩) := by subst hA; exact ix_map hxs hik hmk' rfl
    have hIM : isMend m k h0 j ⟨xk, xf, xt, xh, xp⟩ = (decide (xk = 4) && (decide (xh ≤ h0) && (decide (yh < xh) || (decide (xh = yh) && decide (k < j))))) := by
      unfold isMend; rw [← hmk]; rw [Bool.eq_iff_iff]; simp
    refine Exists.intro _ (And.intro hix ?_); cbv
    have hq1 : A.eq xk 4 = decide (xk = 4) := hee _ _
    have hq2 : A.le xh h0 = decide (xh ≤ h0) := hle _ _
    have hq3 : A.lt yh xh = decide (yh < xh) := hll _ _
    have hq4 : A.eq xh yh = decide (xh = yh) := hee _ _
    have hq5 : A.lt ik i = decide (k < j) := by rw [hll, hik, hi, decide_eq_decide]; unfold iLen; omega
    have hadj := hadd _ hk1 (by omega)
    have hcn : ∀ q (l : List Mrk), AV.ltL q (l.flatMap mkC) := fun q l => AV.ltL_nid (mkC_nid l)
    split <;> cbv
    · rename_i z1
      have z1 := hq1.symm.trans z1
      split <;> cbv
      · rename_i z2
        have z2 := hq2.symm.trans z2
        refine Exists.intro _ (And.intro hiy ?_); cbv
        split <;> cbv
        · rename_i z3
          have z3 := hq3.symm.trans z3
          have hs' : ML (j + 1) = ML j ++ [⟨xk, xf, xt, xh, xp⟩] := by rw [hs, if_pos (by rw [hIM, z1, z2, z3]; rfl)]
          obtain ⟨c1, hc1⟩ : ∃ x, x = cc ++ mkC ⟨xk, xf, xt, xh, xp⟩ := ⟨_, rfl⟩
          refine And.intro (hsg _) (Exists.intro c1 (Exists.intro (n + 1) (And.intro (by subst hA; rw [hc1]; exact app_one hcl rfl (by omega)) (And.intro rfl ?_)))); cbv
          have hfin : c1 = (ML (j + 1)).flatMap mkC := by rw [hc1, hs', hcc]; simp
          have hlen : (ML (j + 1)).length = n + 1 := by rw [hs']; simp [hn]
          exact hB () _ _ hk1 trivial (by rw [hlen]; exact ⟨rfl, congrArg I hadj, trivial⟩) ⟨rfl, rfl, rfl, rfl, rfl, trivial⟩ (.inr ⟨⟨_, by rw [hlen, ← hfin]; rfl⟩, by simp, by simp [ltG, AV.lt, AV.ltL, keepS, look, gset], by simp [ltH, AObj.lt, AV.lt, AV.ltL, hcn, -List.flatMap_append]⟩)
        · rename_i z3
          have z3 := hq3.symm.trans z3
          refine Exists.intro _ (And.intro hiy ?_); cbv
          split <;> cbv
          · rename_i z4
            have z4 := hq4.symm.trans z4
            split <;> cbv
            · rename_i z5
              have z5 := hq5.symm.trans z5
              have hs' : ML (j + 1) = ML j ++ [⟨xk, xf, xt, xh, xp⟩] := by rw [hs, if_pos (by rw [hIM, z1, z2, z3, z4, z5]; rfl)]
              obtain ⟨c1, hc1⟩ : ∃ x, x = cc ++ mkC ⟨xk, xf, xt, xh, xp⟩ := ⟨_, rfl⟩
              refine And.intro (hsg _) (Exists.intro c1 (Exists.intro (n + 1) (And.intro (by subst hA; rw [hc1]; exact app_one hcl rfl (by omega)) (And.intro rfl ?_)))); cbv
              have hfin : c1 = (ML (j + 1)).flatMap mkC := by rw [hc1, hs', hcc]; simp
              have hlen : (ML (j + 1)).length = n + 1 := by rw [hs']; simp [hn]
              exact hB () _ _ hk1 trivial (by rw [hlen]; exact ⟨rfl, congrArg I hadj, trivial⟩) ⟨rfl, rfl, rfl, rfl, rfl, trivial⟩ (.inr ⟨⟨_, by rw [hlen, ← hfin]; rfl⟩, by simp, by simp [ltG, AV.lt, AV.ltL, keepS, look, gset], by simp [ltH, AObj.lt, AV.lt, AV.ltL, hcn, -List.flatMap_append]⟩)
            · rename_i z5
              have z5 := hq5.symm.trans z5
              have hs' : ML (j + 1) = ML j := by rw [hs, if_neg (by rw [hIM, z1, z2, z3, z4, z5]; simp), List.append_nil]
              have hfin : cc = (ML (j + 1)).flatMap mkC := by rw [hs', hcc]
              have hlen : (ML (j + 1)).length = n := by rw [hs', hn]
              exact hB () _ _ hk1 trivial (by rw [hlen]; exact ⟨rfl, congrArg I hadj, trivial⟩) ⟨rfl, rfl, rfl, rfl, rfl, trivial⟩ (.inr ⟨⟨_, by rw [hlen, ← hfin]; rfl⟩, by simp, by simp [ltG, AV.lt, AV.ltL, keepS, look, gset], by simp [ltH, AObj.lt, AV.lt, AV.ltL, hcn, -List.flatMap_append]⟩)
          · rename_i z4
            have z4 := hq4.symm.trans z4
            have hs' : ML (j + 1) = ML j := by rw [hs, if_neg (by rw [hIM, z1, z2, z3, z4]; simp), List.append_nil]
            have hfin : cc = (ML (j + 1)).flatMap mkC := by rw [hs', hcc]
            have hlen : (ML (j + 1)).length = n := by rw [hs', hn]
            exact hB () _ _ hk1 trivial (by rw [hlen]; exact ⟨rfl, congrArg I hadj, trivial⟩) ⟨rfl, rfl, rfl, rfl, rfl, trivial⟩ (.inr ⟨⟨_, by rw [hlen, ← hfin]; rfl⟩, by simp, by simp [ltG, AV.lt, AV.ltL, keepS, look, gset], by simp [ltH, AObj.lt, AV.lt, AV.ltL, hcn, -List.flatMap_append]⟩)
      · rename_i z2
        have z2 := hq2.symm.trans z2
        have hs' : ML (j + 1) = ML j := by rw [hs, if_neg (by rw [hIM, z1, z2]; simp), List.append_nil]
        have hfin : cc = (ML (j + 1)).flatMap mkC := by rw [hs', hcc]
        have hlen : (ML (j + 1)).length = n := by rw [hs', hn]
        exact hB () _ _ hk1 trivial (by rw [hlen]; exact ⟨rfl, congrArg I hadj, trivial⟩) ⟨rfl, rfl, rfl, rfl, rfl, trivial⟩ (.inr ⟨⟨_, by rw [hlen, ← hfin]; rfl⟩, by simp, by simp [ltG, AV.lt, AV.ltL, keepS, look, gset], by simp [ltH, AObj.lt, AV.lt, AV.ltL, hcn, -List.flatMap_append]⟩)
    · rename_i z1
      have z1 := hq1.symm.trans z1
      have hs' : ML (j + 1) = ML j := by rw [hs, if_neg (by rw [hIM, z1]; simp), List.append_nil]
      have hfin : cc = (ML (j + 1)).flatMap mkC := by rw [hs', hcc]
      have hlen : (ML (j + 1)).length = n := by rw [hs', hn]
      exact hB () _ _ hk1 trivial (by rw [hlen]; exact ⟨rfl, congrArg I hadj, trivial⟩) ⟨rfl, rfl, rfl, rfl, rfl, trivial⟩ (.inr ⟨⟨_, by rw [hlen, ← hfin]; rfl⟩, by simp, by simp [ltG, AV.lt, AV.ltL, keepS, look, gset], by simp [ltH, AObj.lt, AV.lt, AV.ltL, hcn, -List.flatMap_append]⟩)
  · rename_i hk0
    have hk1 : ¬ j < M := by have hz := hlt.symm.trans hk0; simpa using hz
    clear hk0
    have hjM : j = M := by omega
    refine Exists.intro (ML j) (And.intro ⟨rfl, hcc, hn, rfl, hn19⟩ ?_)
    intro cs hcs; cbv
    have hmv : sortV keyM (ML j) = mendS m k h0 := by rw [hjM, hMLe]; rfl
    rw [hmv] at hcs
    obtain ⟨zs, hzs⟩ : ∃ z, z = (mendS m k h0).map mkV := ⟨_, rfl⟩
    have hE : Elems 5 zs cs := by rw [hcs, hzs]; exact Elems_map (f := mkV) (g := mkC) (sz := 5) (fun _ => rfl) (fun _ => rfl) (fun _ => rfl) _
    have hzl : zs.length = n := by rw [hzs, hn, List.length_map, ← hmv, sortV_len]
    rw [← hzs] at h
    rw [hF]
    refine Frees.frz 0 n 5 zs rfl hE ?_
    have e1 : AV.frz 0 n 5 zs (aTup [.ms 5 0 n 0 n]) = .vs 5 zs := frz_self hzl
    rw [e1]
    exact Frees.drop0 h (by simp [AV.nid])
def eMends : List AV → Option ((AV → Prop) → Prop)
  | [.vs 5 xs, .lit (.int .i64 i), .lit (.int .i64 h)] => some fun K => ∃ (m : List Mrk) (k : Nat), (xs = m.map mkV ∧ i = iLen k ∧ m.length ≤ 19 ∧ k < m.length) ∧ ∀ ys, ys = (mendS m k h).map mkV → K (.vs 5 ys)
  | _ => none
theorem eMends_ok : ∀ args pt, eMends args = some pt → ∀ (H : AHeap) (Kk : AV → AHeap → Prop), pt (fun r => Kk r H) → ACalls Try.prog 80 args H Kk := by
  intro args pt h H Kk hk
  unfold eMends at h
  split at h
  · cases h
    obtain ⟨m, k, ⟨rfl, rfl, h1, h2⟩, h3⟩ := hk
    exact p80 m k _ h1 h2 H (h3 _ rfl)
  · cases h
end Go.Sas
namespace Go.Sas
open Go.Proofs
set_option maxRecDepth 100000
abbrev spC2 (x : Int × Int) : List AV := [I x.1, I x.2]
theorem withoutS_len {f t : Int} : ∀ {l : Sps}, (withoutS l f t).length ≤ 2 * l.length
  | [] => by simp [withoutS]
  | x :: l => by
    have ih := withoutS_len (f := f) (t := t) (l := l)
    unfold withoutS at ih ⊢
    rw [List.flatMap_cons, List.length_append, List.length_cons]
    have : ((if x.1 ≤ min x.2 (f - 1) then [(x.1, min x.2 (f - 1))] else []) ++ (if max x.1 (t + 1) ≤ x.2 then [(max x.1 (t + 1), x.2)] else []) : Sps).length ≤ 2 := by
      split <;> split <;> simp
    omega
theorem p81 (l : Sps) (f t : Int) (hl : l.length ≤ 1000000) (hb : ∀ s ∈ l, (-1000000000 ≤ s.1 ∧ s.1 ≤ 1000000000) ∧ -1000000000 ≤ s.2 ∧ s.2 ≤ 1000000000) (hf : 0 ≤ f ∧ f ≤ 1000000) (ht : 0 ≤ t ∧ t ≤ 1000000) (H : AHeap) {Kk : AV → AHeap → Prop}
    (h : Kk (.vs 2 ((withoutS l f t).map sp)) H) : ACalls Try.prog 81 [.vs 2 (l.map sp), I f, I t] H Kk := by
  refine (fun q => pureF (by simp [AV.nidL, AV.nid, nidL_map (g := sp) (fun _ => rfl) l]) (by simp [AV.nid]) q H h) ?_
  clear h
  intro Kk h
  obtain ⟨xs, hxs⟩ : ∃ xs, xs = l.map sp := ⟨_, rfl⟩
  rw [← hxs]
  obtain ⟨M, hM⟩ : ∃ M, M = l.length := ⟨_, rfl⟩
  obtain ⟨F, hF⟩ : ∃ F, F = Frees 0 Kk := ⟨_, rfl⟩
  rw [← hF]
  obtain ⟨A, hA⟩ : ∃ A, A = std := ⟨_, rfl⟩
  have hne : ∀ x y, A.ne x y = decide (x ≠ y) := by subst hA; intro x y; simp only [std, iNe]; rw [Bool.eq_iff_iff]; simp
  have hee : ∀ x y, A.eq x y = decide (x = y) := by subst hA; intro x y; exact iEq_dec _ _
  have hll : ∀ x y, A.lt x y = decide (x < y) := by subst hA; intro x y; rfl
  have hle : ∀ x y, A.le x y = decide (x ≤ y) := by subst hA; intro x y; rfl
  have hnb : ∀ b, A.bnot b = !b := by subst hA; intro b; rfl
  have hbd : ∀ x y, A.band x y = (x && y) := by subst hA; intro x y; rfl
  have hsg : ∀ g, A.sg g g := by subst hA; exact fun _ => rfl
  have hvv : A.vlen xs = iLen M := by subst hA; rw [hxs, hM]; simp [std]
  have hf1 : A.sub .i64 f 1 = f - 1 := by subst hA; exact iSub_id (by omega) (by omega)
  have ht1 : A.add .i64 t 1 = t + 1 := by subst hA; exact iAdd_id (by omega) (by omega)
  obtain ⟨ML, hML⟩ : ∃ g : Nat → Sps, g = fun j => withoutS (l.take j) f t := ⟨_, rfl⟩
  have hMLs : ∀ j x, l[j]? = some x → ML (j + 1) = ML j ++ ((if x.1 ≤ min x.2 (f - 1) then [(x.1, min x.2 (f - 1))] else []) ++ (if max x.1 (t + 1) ≤ x.2 then [(max x.1 (t + 1), x.2)] else [])) := fun j x hx => by
    rw [hML]; unfold withoutS; dsimp only
    obtain ⟨h8, he⟩ := List.getElem?_eq_some_iff.1 hx
    rw [List.take_succ_eq_append_getElem h8, he, List.flatMap_append]
    simp
  have hMLl : ∀ j, (ML j).length ≤ 2 * j := fun j => by
    rw [hML]; refine Nat.le_trans withoutS_len ?_
    rw [List.length_take]; omega
  have hMLe : ML M = withoutS l f t := by rw [hML]; dsimp only; rw [List.take_of_length_le (by omega)]
  refine go81 rfl (SGo_run hA ⟨[], [], [], []⟩ .nil .nil 200 fun T TD hT hTD => ?_)
  cbv
  rw [hT]
  refine AGo_nilms 7 2 rfl ?_
  refine AGo_upE [1, 2, 12, 13] M (fun _ (_ : Unit) => True) (fun j _ i => [(7, .ms 2 0 (ML j).length 0 (ML j).length), (14, I i)]) (fun j _ => [.own (ML j).length ((ML j).flatMap spC2)]) () trivial ⟨by rw [hML]; rfl, rfl, trivial⟩ (.inl (by rw [hML]; rfl)) fun j _ i hi hj _ Bk hB => ?_
  have hlt : A.lt i (A.vlen xs) = decide (j < M) := by rw [hvv, hll, hi, decide_eq_decide]; unfold iLen; omega
  have hadd : ∀ N, j < N → N ≤ 9223372036854775807 → A.add .i64 i 1 = iLen (j + 1) := fun N hj hN => by subst hA; exact add_one hi hj hN
  obtain ⟨n, hn⟩ : ∃ n, n = (ML j).length := ⟨_, rfl⟩
  obtain ⟨cc, hcc⟩ : ∃ c, c = (ML j).flatMap spC2 := ⟨_, rfl⟩
  rw [← hn, ← hcc]
  have hcl : cc.length = n * 2 := by rw [hcc, hn, len_flat (k := 2) (fun _ => rfl)]
  have hn2 : n ≤ 2000000 := by have := hMLl j; omega
  have hcn : ∀ q (l : Sps), AV.ltL q (l.flatMap spC2) := fun q l => AV.ltL_nid (nidL_flat (fun _ => rfl) l)
  refine SGo_run hA ⟨[0], [], [], []⟩ .nil .nil 200 fun T TD hT hTD => ?_
  cbv
  split <;> cbv
  · rename_i hk0
    have hk1 : j < M := by have hz := hlt.symm.trans hk0; simpa using hz
    clear hk0
    obtain ⟨⟨u, v⟩, hx⟩ : ∃ x, l[j]? = some x := ⟨_, List.getElem?_eq_getElem (by omega)⟩
    have hs := hMLs j _ hx
    have hbx := hb _ (List.mem_of_getElem? hx)
    dsimp only at hs hbx
    have hix : A.ix 2 2 xs i [I u, I v] := by subst hA; exact ix_map hxs hi hx rfl
    have hmn : A.min v (A.sub .i64 f 1) = min v (f - 1) := by rw [hf1]; subst hA; exact iMin_eq _ _
    have hmx : A.max u (A.add .i64 t 1) = max u (t + 1) := by rw [ht1]; subst hA; exact iMax_eq _ _
    have hl1 : A.le u (A.min v (A.sub .i64 f 1)) = decide (u ≤ min v (f - 1)) := by rw [hmn, hle]
    have hl2 : A.le (A.max u (A.add .i64 t 1)) v = decide (max u (t + 1) ≤ v) := by rw [hmx, hle]
    have hadj := hadd _ hk1 (by omega)
    refine Exists.intro _ (And.intro hix ?_); cbv
    split <;> cbv
    · rename_i hz1
      have hz1 := of_decide_eq_true (hl1.symm.trans hz1)
      rw [if_pos hz1] at hs
      obtain ⟨c1, hc1⟩ : ∃ x, x = cc ++ [I u, I (A.min v (A.sub .i64 f 1))] := ⟨_, rfl⟩
      refine And.intro (hsg _) (Exists.intro c1 (Exists.intro (n + 1) (And.intro (by subst hA; rw [hc1]; exact app_one hcl rfl (by omega)) (And.intro rfl ?_)))); cbv
      rw [hmn] at hc1
      have hcl1 : c1.length = (n + 1) * 2 := by rw [hc1]; simp [hcl]; omega
      split <;> cbv
      · rename_i hz2
        have hz2 := of_decide_eq_true (hl2.symm.trans hz2)
        rw [if_pos hz2] at hs
        obtain ⟨c2, hc2⟩ : ∃ x, x = c1 ++ [I (A.max u (A.add .i64 t 1)), I v] := ⟨_, rfl⟩
        refine And.intro (hsg _) (Exists.intro c2 (Exists.intro (n + 2) (And.intro (by subst hA; rw [hc2]; exact app_one hcl1 rfl (by omega)) (And.intro rfl ?_)))); cbv
        rw [hmx] at hc2
        have hfin : c2 = (ML (j + 1)).flatMap spC2 := by rw [hc2, hc1, hs, hcc]; simp
        have hlen : (ML (j + 1)).length = n + 2 := by rw [hs]; simp [hn]
        exact hB () _ _ hk1 trivial (by rw [hlen]; exact ⟨rfl, congrArg I hadj, trivial⟩) ⟨rfl, rfl, rfl, rfl, trivial⟩ (.inr ⟨⟨_, by rw [hlen, ← hfin]; rfl⟩, by simp, by simp [ltG, AV.lt, AV.ltL, keepS, look, gset], by simp [ltH, AObj.lt, AV.lt, AV.ltL, hcn, -List.flatMap_append]⟩)
      · rename_i hz2
        have hz2 := of_decide_eq_false (hl2.symm.trans hz2)
        rw [if_neg hz2] at hs
        have hfin : c1 = (ML (j + 1)).flatMap spC2 := by rw [hc1, hs, hcc]; simp
        have hlen : (ML (j + 1)).length = n + 1 := by rw [hs]; simp [hn]
        exact hB () _ _ hk1 trivial (by rw [hlen]; exact ⟨rfl, congrArg I hadj, trivial⟩) ⟨rfl, rfl, rfl, rfl, trivial⟩ (.inr ⟨⟨_, by rw [hlen, ← hfin]; rfl⟩, by simp, by simp [ltG, AV.lt, AV.ltL, keepS, look, gset], by simp [ltH, AObj.lt, AV.lt, AV.ltL, hcn, -List.flatMap_append]⟩)
    · rename_i hz1
      have hz1 := of_decide_eq_false (hl1.symm.trans hz1)
      rw [if_neg hz1] at hs
      split <;> cbv
      · rename_i hz2
        have hz2 := of_decide_eq_true (hl2.symm.trans hz2)
        rw [if_pos hz2] at hs
        obtain ⟨c2, hc2⟩ : ∃ x, x = cc ++ [I (A.max u (A.add .i64 t 1)), I v] := ⟨_, rfl⟩
        refine And.intro (hsg _) (Exists.intro c2 (Exists.intro (n + 1) (And.intro (by subst hA; rw [hc2]; exact app_one hcl rfl (by omega)) (And.intro rfl ?_)))); cbv
        rw [hmx] at hc2
        have hfin : c2 = (ML (j + 1)).flatMap spC2 := by rw [hc2, hs, hcc]; simp
        have hlen : (ML (j + 1)).length = n + 1 := by rw [hs]; simp [hn]
        exact hB () _ _ hk1 trivial (by rw [hlen]; exact ⟨rfl, congrArg I hadj, trivial⟩) ⟨rfl, rfl, rfl, rfl, trivial⟩ (.inr ⟨⟨_, by rw [hlen, ← hfin]; rfl⟩, by simp, by simp [ltG, AV.lt, AV.ltL, keepS, look, gset], by simp [ltH, AObj.lt, AV.lt, AV.ltL, hcn, -List.flatMap_append]⟩)
      · rename_i hz2
        have hz2 := of_decide_eq_false (hl2.symm.trans hz2)
        rw [if_neg hz2] at hs
        have hfin : cc = (ML (j + 1)).flatMap spC2 := by rw [hs, hcc]; simp
        have hlen : (ML (j + 1)).length = n := by rw [hs]; simp [hn]
        exact hB () _ _ hk1 trivial (by rw [hlen]; exact ⟨rfl, congrArg I hadj, trivial⟩) ⟨rfl, rfl, rfl, rfl, trivial⟩ (.inr ⟨⟨_, by rw [hlen, ← hfin]; rfl⟩, by simp, by simp [ltG, AV.lt, AV.ltL, keepS, look, gset], by simp [ltH, AObj.lt, AV.lt, AV.ltL, hcn, -List.flatMap_append]⟩)
  · rename_i hk0
    have hk1 : ¬ j < M := by have hz := hlt.symm.trans hk0; simpa using hz
    clear hk0
    have hjM : j = M := by omega
    have hcv : cc = (withoutS l f t).flatMap spC2 := by rw [hcc, hjM, hMLe]
    have hnv : n = (withoutS l f t).length := by rw [hn, hjM, hMLe]
    have hE : Elems 2 ((withoutS l f t).map sp) cc := by rw [hcv]; exact Elems_map (f := sp) (g := spC2) (sz := 2) (fun _ => rfl) (fun _ => rfl) (fun _ => rfl) _
    rw [hF]
    refine Frees.frz 0 n 2 ((withoutS l f t).map sp) rfl hE ?_
    have e1 : AV.frz 0 n 2 ((withoutS l f t).map sp) (aTup [.ms 2 0 n 0 n]) = .vs 2 ((withoutS l f t).map sp) := frz_self (by simp [hnv])
    rw [e1]
    exact Frees.drop0 h (by simp [AV.nid])
def eWithout : List AV → Option ((AV → Prop) → Prop)
  | [.vs 2 xs, .lit (.int .i64 f), .lit (.int .i64 t)] => some fun K => ∃ l : Sps, (xs = l.map sp ∧ l.length ≤ 1000000 ∧ ∀ s ∈ l, (-1000000000 ≤ s.1 ∧ s.1 ≤ 1000000000) ∧ -1000000000 ≤ s.2 ∧ s.2 ≤ 1000000000) ∧ (0 ≤ f ∧ f ≤ 1000000) ∧ (0 ≤ t ∧ t ≤ 1000000) ∧ ∀ ys, ys = (withoutS l f t).map sp → K (.vs 2 ys)
  | _ => none
theorem eWithout_ok : ∀ args pt, eWithout args = some pt → ∀ (H : AHeap) (Kk : AV → AHeap → Prop), pt (fun r => Kk r H) → ACalls Try.prog 81 args H Kk := by
  intro args pt h H Kk hk
  unfold eWithout at h
  split at h
  · cases h
    obtain ⟨l, ⟨rfl, h1, h2⟩, h3, h4, h5⟩ := hk
    exact p81 l _ _ h1 h2 h3 h4 H (h5 _ rfl)
  · cases h
end Go.Sas
namespace Go.Sas
open Go.Proofs
set_option maxRecDepth 100000
def SpB (N b : Int) (l : Sps) : Prop := ∀ s ∈ l, (0 ≤ s.1 ∧ s.1 ≤ b) ∧ -b ≤ s.2 ∧ s.2 ≤ N - 1
theorem SpB.spread {N b y : Int} {l : Sps} (h : SpB N b l) (hN : 1 ≤ N ∧ N ≤ 1000) (hb : 0 ≤ b) (hy : -1000000 ≤ y ∧ y ≤ 1000000) : SpB N (b + 1000000) (spreadS N y l) := by
  intro s hs
  unfold spreadS at hs
  obtain ⟨u, hu, rfl⟩ := List.mem_map.1 hs
  have := h u hu
  dsimp only
  omega
theorem SpB.without {N b f t : Int} {l : Sps} (h : SpB N b l) (hb : 1001 ≤ b) (hf : 0 ≤ f ∧ f ≤ 1000) (ht : 0 ≤ t ∧ t ≤ 1000) : SpB N b (withoutS l f t) := by
  intro s hs
  unfold withoutS at hs
  obtain ⟨u, hu, hs⟩ := List.mem_flatMap.1 hs
  have := h u hu
  rcases List.mem_append.1 hs with hs | hs
  · split at hs
    · simp only [List.mem_singleton] at hs; subst hs; dsimp only; omega
    · cases hs
  · split at hs
    · simp only [List.mem_singleton] at hs; subst hs; dsimp only; omega
    · cases hs
set_option maxHeartbeats 2000000 in
theorem p79b (to at0 N xk xf xt xh xs : Int) (l : Sps) (hl : l.length ≤ 1000000) (b : Int) (hb : 0 ≤ b ∧ b ≤ 100000000) (hB0 : SpB N b l) (hN : 1 ≤ N ∧ N ≤ 1000) (ht : (0 ≤ to ∧ to ≤ 10000) ∧ 0 ≤ at0 ∧ at0 ≤ 10000) (hs : 0 ≤ xs ∧ xs ≤ 100) {Kk : AV → AHeap → Prop}
    (h : Kk (.tup []) [.own 0 [I N], .own 0 [.vs 2 ((spreadS N ((to - at0) * xs) l).map sp)], .own 0 [I xk, I xf, I xt, I xh, I xs], .own 0 [I to]]) :
    ACalls Try.prog 79 [I to, .mp 3 0 0, .mp 2 0 0, .mp 1 0 0, .mp 0 0 0] [.own 0 [I N], .own 0 [.vs 2 (l.map sp)], .own 0 [I xk, I xf, I xt, I xh, I xs], .own 0 [I at0]] Kk := by
  refine ACalls.frees ?_
  obtain ⟨ys, hys⟩ : ∃ ys, ys = l.map sp := ⟨_, rfl⟩
  rw [← hys]
  obtain ⟨M, hM⟩ : ∃ M, M = l.length := ⟨_, rfl⟩
  obtain ⟨F, hF⟩ : ∃ F, F = Frees 4 Kk := ⟨_, rfl⟩
  show ACalls Try.prog 79 _ _ (Frees 4 Kk)
  rw [← hF]
  obtain ⟨A, hA⟩ : ∃ A, A = std := ⟨_, rfl⟩
  have hne : ∀ x y, A.ne x y = decide (x ≠ y) := by subst hA; intro x y; simp only [std, iNe]; rw [Bool.eq_iff_iff]; simp
  have hee : ∀ x y, A.eq x y = decide (x = y) := by subst hA; intro x y; exact iEq_dec _ _
  have hll : ∀ x y, A.lt x y = decide (x < y) := by subst hA; intro x y; rfl
  have hle : ∀ x y, A.le x y = decide (x ≤ y) := by subst hA; intro x y; rfl
  have hnb : ∀ b, A.bnot b = !b := by subst hA; intro b; rfl
  have hbd : ∀ x y, A.band x y = (x && y) := by subst hA; intro x y; rfl
  have hsg : ∀ g, A.sg g g := by subst hA; exact fun _ => rfl
  have hvv : A.vlen ys = iLen M := by subst hA; rw [hys, hM]; simp [std]
  have hs1 : A.sub .i64 to at0 = to - at0 := by subst hA; exact iSub_id (by omega) (by omega)
  have hmb : -1000000 ≤ (to - at0) * xs ∧ (to - at0) * xs ≤ 1000000 := by
    have h1 : (to - at0) * xs ≤ 10000 * xs := Int.mul_le_mul_of_nonneg_right (by omega) hs.1
    have h2 : -10000 * xs ≤ (to - at0) * xs := Int.mul_le_mul_of_nonneg_right (by omega) hs.1
    omega
  obtain ⟨y, hy⟩ : ∃ y, y = (to - at0) * xs := ⟨_, rfl⟩
  have hm1 : A.mul .i64 (A.sub .i64 to at0) xs = y := by rw [hs1, hy]; subst hA; exact iMul_id (by omega) (by omega)
  rw [← hy] at hmb h
  obtain ⟨ML, hML⟩ : ∃ g : Nat → Sps, g = fun j => spreadS N y (l.take j) := ⟨_, rfl⟩
  have hMLs : ∀ j x, l[j]? = some x → ML (j + 1) = ML j ++ [(max 0 (x.1 - y), min (N - 1) (x.2 + y))] := fun j x hx => by
    rw [hML]; unfold spreadS; dsimp only
    obtain ⟨h8, he⟩ := List.getElem?_eq_some_iff.1 hx
    rw [List.take_succ_eq_append_getElem h8, he, List.map_append]; rfl
  have hMLl : ∀ j, j ≤ M → (ML j).length = j := fun j hj => by
    rw [hML]; simp [spreadS]; omega
  have hMLe : ML M = spreadS N y l := by rw [hML]; dsimp only; rw [List.take_of_length_le (by omega)]
  refine go79 rfl (SGo_run hA ⟨[4], [], [], []⟩ .nil .nil 200 fun T TD hT hTD => ?_)
  cbv
  refine Exists.intro [] (Exists.intro 0 (And.intro (by show A.mkz 2 16 [.int .i64 0, .int .i64 0] 0 (A.vlen ys) [] 0; rw [hvv]; subst hA; exact ⟨by decide, by unfold iLen; omega, by unfold iLen; omega, by unfold iLen; omega, rfl, rfl, rfl⟩) ?_)); cbv
  rw [hT]
  refine AGo_upE [0, 1, 3, 4, 6, 19, 20] M (fun _ (_ : Unit) => True) (fun j _ i => [(7, .ms 2 4 j 0 j), (21, I i)]) (fun j _ => [.own 0 [I N], .own 0 [.vs 2 ys], .own 0 [I xk, I xf, I xt, I xh, I xs], .own 0 [I at0], .own j ((ML j).flatMap spC2)]) () trivial ⟨rfl, rfl, trivial⟩ (.inl (by rw [hML]; rfl)) fun j _ i hi hj _ Bk hB => ?_
  have hlt : A.lt i (A.vlen ys) = decide (j < M) := by rw [hvv, hll, hi, decide_eq_decide]; unfold iLen; omega
  have hadd : ∀ N, j < N → N ≤ 9223372036854775807 → A.add .i64 i 1 = iLen (j + 1) := fun N hj hN => by subst hA; exact add_one hi hj hN
  obtain ⟨cc, hcc⟩ : ∃ c, c = (ML j).flatMap spC2 := ⟨_, rfl⟩
  rw [← hcc]
  have hcl : cc.length = j * 2 := by rw [hcc, len_flat (k := 2) (fun _ => rfl), hMLl j hj]
  have hcn : ∀ q (l : Sps), AV.ltL q (l.flatMap spC2) := fun q l => AV.ltL_nid (nidL_flat (fun _ => rfl) l)
  refine SGo_run hA ⟨[4], [], [], []⟩ .nil .nil 200 fun T TD hT hTD => ?_
  cbv
  split <;> cbv
  · rename_i hk0
    have hk1 : j < M := by have hz := hlt.symm.trans hk0; simpa using hz
    clear hk0
    obtain ⟨⟨u, v⟩, hx⟩ : ∃ x, l[j]? = some x := ⟨_, List.getElem?_eq_getElem (by omega)⟩
    have hst := hMLs j _ hx
    have hbx := hB0 _ (List.mem_of_getElem? hx)
    dsimp only at hst hbx
    have hix : A.ix 2 2 ys i [I u, I v] := by subst hA; exact ix_map hys hi hx rfl
    have hadj := hadd _ hk1 (by omega)
    have e1 : A.sub .i64 u (A.mul .i64 (A.sub .i64 to at0) xs) = u - y := by rw [hm1]; subst hA; exact iSub_id (by omega) (by omega)
    have e2 : A.add .i64 v (A.mul .i64 (A.sub .i64 to at0) xs) = v + y := by rw [hm1]; subst hA; exact iAdd_id (by omega) (by omega)
    have e3 : A.sub .i64 N 1 = N - 1 := by subst hA; exact iSub_id (by omega) (by omega)
    have e4 : A.max 0 (A.sub .i64 u (A.mul .i64 (A.sub .i64 to at0) xs)) = max 0 (u - y) := by rw [e1]; subst hA; exact iMax_eq _ _
    have e5 : A.min (A.sub .i64 N 1) (A.add .i64 v (A.mul .i64 (A.sub .i64 to at0) xs)) = min (N - 1) (v + y) := by rw [e2, e3]; subst hA; exact iMin_eq _ _
    refine Exists.intro _ (And.intro hix ?_); cbv
    obtain ⟨c1, hc1⟩ : ∃ x, x = cc ++ [I (A.max 0 (A.sub .i64 u (A.mul .i64 (A.sub .i64 to at0) xs))), I (A.min (A.sub .i64 N 1) (A.add .i64 v (A.mul .i64 (A.sub .i64 to at0) xs)))] := ⟨_, rfl⟩
    refine And.intro (hsg _) (Exists.intro c1 (Exists.intro (j + 1) (And.intro (by subst hA; rw [hc1]; exact app_one hcl rfl (by omega)) (And.intro rfl ?_)))); cbv
    rw [e4, e5] at hc1
    have hfin : c1 = (ML (j + 1)).flatMap spC2 := by rw [hc1, hst, hcc]; simp
    have hyl : ∀ q, AV.ltL q ys := fun q => AV.ltL_nid (by rw [hys]; exact nidL_map (g := sp) (fun _ => rfl) _)
    exact hB () _ _ hk1 trivial ⟨rfl, congrArg I hadj, trivial⟩ ⟨rfl, rfl, rfl, rfl, rfl, rfl, rfl, trivial⟩ (.inr ⟨⟨_, by rw [← hfin]; rfl⟩, by simp, by simp [ltG, AV.lt, AV.ltL, keepS, look, gset], by simp [ltH, AObj.lt, AV.lt, AV.ltL, hyl, hcn, -List.flatMap_append]⟩)
  · rename_i hk0
    have hk1 : ¬ j < M := by have hz := hlt.symm.trans hk0; simpa using hz
    clear hk0
    have hjM : j = M := by omega
    have hcv : cc = (spreadS N y l).flatMap spC2 := by rw [hcc, hjM, hMLe]
    have hjv : j = (spreadS N y l).length := by rw [hjM, ← hMLe, hMLl M (Nat.le_refl _)]
    have hE : Elems 2 ((spreadS N y l).map sp) cc := by rw [hcv]; exact Elems_map (f := sp) (g := spC2) (sz := 2) (fun _ => rfl) (fun _ => rfl) (fun _ => rfl) _
    obtain ⟨zs, hzs⟩ : ∃ zs, zs = (spreadS N y l).map sp := ⟨_, rfl⟩
    have hzl : zs.length = j := by rw [hzs, hjv]; simp
    rw [← hzs] at hE h
    rw [hF]
    refine Frees.frz 4 j 2 zs rfl hE ?_
    have e1 : AV.frz 4 j 2 zs (.ms 2 4 j 0 j) = .vs 2 zs := frz_self hzl
    have hH : frzH 4 j 2 zs [.own 0 [I N], .own 0 [.ms 2 4 j 0 j], .own 0 [I xk, I xf, I xt, I xh, I xs], .own 0 [I to], .gone] = [.own 0 [I N], .own 0 [.vs 2 zs], .own 0 [I xk, I xf, I xt, I xh, I xs], .own 0 [I to]] ++ [.gone] := by
      simp only [frzH, AObj.frz, AV.frzL, e1]; simp [AV.frz]
    show Frees 4 Kk _ (frzH 4 j 2 zs [.own 0 [I N], .own 0 [.ms 2 4 j 0 j], .own 0 [I xk, I xf, I xt, I xh, I xs], .own 0 [I to], .gone])
    rw [hH]
    exact Frees.drop (by simp) (by rfl) (by simp [ltHB, AV.ltLB, AV.ltB]) (Frees.now h)
def eSpread : List AV → AHeap → Option PT
  | [.lit (.int .i64 to), .mp 3 0 0, .mp 2 0 0, .mp 1 0 0, .mp 0 0 0], .own 0 [.lit (.int .i64 N)] :: .own 0 [.vs 2 ys] :: .own 0 [.lit (.int .i64 xk), .lit (.int .i64 xf), .lit (.int .i64 xt), .lit (.int .i64 xh), .lit (.int .i64 xs)] :: .own 0 [.lit (.int .i64 at0)] :: rest =>
    some fun K => ∃ (l : Sps) (b : Int), (ys = l.map sp ∧ l.length ≤ 1000000 ∧ (0 ≤ b ∧ b ≤ 100000000) ∧ SpB N b l) ∧ (1 ≤ N ∧ N ≤ 1000) ∧ ((0 ≤ to ∧ to ≤ 10000) ∧ 0 ≤ at0 ∧ at0 ≤ 10000) ∧ (0 ≤ xs ∧ xs ≤ 100) ∧ ∀ zs, zs = (spreadS N ((to - at0) * xs) l).map sp →
      K (.tup []) (.own 0 [I N] :: .own 0 [.vs 2 zs] :: .own 0 [I xk, I xf, I xt, I xh, I xs] :: .own 0 [I to] :: rest)
  | _, _ => none
theorem eSpread_ok : ∀ args H pt, eSpread args H = some pt → ∀ (Kk : AV → AHeap → Prop), pt Kk → ACalls Try.prog 79 args H Kk := by
  intro args H pt h Kk hk
  unfold eSpread at h
  split at h
  · rename_i to N ys xk xf xt xh xs at0 rest
    cases h
    obtain ⟨l, b, ⟨rfl, h1, h2, h3⟩, h4, h5, h6, h7⟩ := hk
    have g1 := p79b to at0 N xk xf xt xh xs l h1 b h2 h3 h4 h5 h6 (Kk := fun r H' => r = .tup [] ∧ H' = [.own 0 [I N], .own 0 [.vs 2 ((spreadS N ((to - at0) * xs) l).map sp)], .own 0 [I xk, I xf, I xt, I xh, I xs], .own 0 [I to]]) ⟨rfl, rfl⟩
    have g2 := ACalls.frame (H := .own 0 [I N] :: .own 0 [.vs 2 (l.map sp)] :: .own 0 [I xk, I xf, I xt, I xh, I xs] :: .own 0 [I at0] :: rest) [0, 1, 2, 3] g1 (by decide) rfl (by simp [AV.ltL, AV.lt]) (by simp [ltH, AObj.lt, AV.ltL, AV.lt])
      (fun k X hX => by
        match k with
        | 0 => simp at hX; subst hX; simp [at_, AObj.ren, AV.renL, AV.ren]
        | 1 => simp at hX; subst hX; simp [at_, AObj.ren, AV.renL, AV.ren]
        | 2 => simp at hX; subst hX; simp [at_, AObj.ren, AV.renL, AV.ren]
        | 3 => simp at hX; subst hX; simp [at_, AObj.ren, AV.renL, AV.ren]
        | k + 4 => simp at hX)
    rw [show AV.renL [0, 1, 2, 3] [I to, .mp 3 0 0, .mp 2 0 0, .mp 1 0 0, .mp 0 0 0] = [I to, .mp 3 0 0, .mp 2 0 0, .mp 1 0 0, .mp 0 0 0] by simp [AV.renL, AV.ren, at_]] at g2
    refine g2.mono fun r H' hx => ?_
    obtain ⟨r0', H1, ⟨rfl, rfl⟩, _, rfl, rfl⟩ := hx
    have := h7 _ rfl
    simpa [merge, updL, AObj.ren, AV.renL, AV.ren, more, at_] using this
  · cases h
end Go.Sas
namespace Go.Sas
open Go.Proofs
set_option maxRecDepth 100000
/-- few marks that may be, on a road with so many places -/
def CovM (m : List Mrk) (h N : Int) : Prop := m.length ≤ 19 ∧ (∀ x ∈ m, MkOk N x) ∧ (0 ≤ h ∧ h ≤ 10000) ∧ 1 ≤ N ∧ N ≤ 1000
theorem mendS_mem {m : List Mrk} {k : Nat} {h : Int} {x : Mrk} (hx : x ∈ mendS m k h) : x ∈ m := by
  unfold mendS sortM at hx
  rw [sortV_mem] at hx
  unfold mendL at hx
  obtain ⟨p, hp, rfl⟩ := List.mem_map.1 hx
  have := (List.mem_filter.1 hp).1
  exact List.fst_mem_of_mem_zipIdx this
theorem mendS_len {m : List Mrk} {k : Nat} {h : Int} : (mendS m k h).length ≤ m.length := by
  unfold mendS sortM
  rw [sortV_len]
  unfold mendL
  rw [List.length_map]
  refine Nat.le_trans (List.length_filter_le _ _) ?_
  simp
abbrev Cst := Sps × Sps × Int
/-- what is known of may, sure and the hour after j mends -/
structure CovI (N : Int) (j : Nat) (s : Cst) : Prop where
  l1 : s.1.length ≤ 2 ^ j
  l2 : s.2.1.length ≤ 2 ^ j
  b1 : SpB N (1001 + 1000000 * iLen j) s.1
  b2 : SpB N 1001 s.2.1
  t : 0 ≤ s.2.2 ∧ s.2.2 ≤ 10000
theorem CovI.step {N sp0 : Int} {j : Nat} {s : Cst} (h : CovI N j s) (hN : 1 ≤ N ∧ N ≤ 1000) (hs : 0 ≤ sp0 ∧ sp0 ≤ 100) {y : Mrk} (hy : MkOk N y) : CovI N (j + 1) (covStep N sp0 s y) := by
  obtain ⟨h1, h2, h3, h4, h5⟩ := h
  obtain ⟨_, y1, y2, y3, y4, y5, y6⟩ := hy
  have hm : -1000000 ≤ (y.h - s.2.2) * sp0 ∧ (y.h - s.2.2) * sp0 ≤ 1000000 := by
    have e1 : (y.h - s.2.2) * sp0 ≤ 10000 * sp0 := Int.mul_le_mul_of_nonneg_right (by omega) hs.1
    have e2 : -10000 * sp0 ≤ (y.h - s.2.2) * sp0 := Int.mul_le_mul_of_nonneg_right (by omega) hs.1
    omega
  have hp : 2 ^ (j + 1) = 2 * 2 ^ j := by rw [Nat.pow_succ]; omega
  refine ⟨?_, ?_, ?_, ?_, y4⟩
  · refine Nat.le_trans withoutS_len ?_
    simp only [spreadS, List.length_map]; omega
  · refine Nat.le_trans withoutS_len ?_
    omega
  · have hj : (1001 : Int) + 1000000 * iLen (j + 1) = 1001 + 1000000 * iLen j + 1000000 := by unfold iLen; omega
    rw [hj]
    exact SpB.without (SpB.spread h3 hN (by unfold iLen; omega) hm) (by unfold iLen; omega) (by omega) (by omega)
  · exact SpB.without h4 (by omega) (by omega) (by omega)
theorem pow19 {j : Nat} (h : j ≤ 19) : 2 ^ j ≤ 524288 := by
  have : 2 ^ j ≤ 2 ^ 19 := Nat.pow_le_pow_right (by decide) h
  simpa using this
theorem SpB.big {N b : Int} {l : Sps} (h : SpB N b l) (hN : N ≤ 1000) (hb : b ≤ 100000000) : ∀ s ∈ l, (-1000000000 ≤ s.1 ∧ s.1 ≤ 1000000000) ∧ -1000000000 ≤ s.2 ∧ s.2 ≤ 1000000000 := fun s hs => by
  have := h s hs; omega
set_option maxHeartbeats 4000000 in
theorem p70 (m : List Mrk) (k : Nat) (h0 N : Int) (hC : CovM m h0 N) (hk : k < m.length) (H : AHeap) {Kk : AV → AHeap → Prop}
    (h : ∀ may sure, (may, sure) = covS m k h0 N → SpOk N may → SpOk N sure → ∀ ys zs, ys = may.map sp → zs = sure.map sp → Kk (.tup [.vs 2 ys, .vs 2 zs]) H) :
    ACalls Try.prog 70 [.vs 5 (m.map mkV), I (iLen k), I h0, I N] H Kk := by
  obtain ⟨hm, hmk, hh0, hN⟩ := hC
  obtain ⟨mk, hmk0⟩ : ∃ x, x = m.getD k mk0 := ⟨_, rfl⟩
  have hmk' : m[k]? = some mk := by rw [hmk0, List.getD_eq_getElem?_getD, List.getElem?_eq_getElem hk]; rfl
  have hmo := hmk _ (List.mem_of_getElem? hmk')
  obtain ⟨ms, hms⟩ : ∃ x, x = mendS m k h0 := ⟨_, rfl⟩
  have hmsl : ms.length ≤ 19 := by rw [hms]; exact Nat.le_trans mendS_len hm
  have hmso : ∀ x ∈ ms, MkOk N x := fun x hx => hmk x (mendS_mem (by rw [← hms]; exact hx))
  -- the states
  obtain ⟨ST, hST⟩ : ∃ f : Nat → Cst, f = fun j => (ms.take j).foldl (covStep N mk.s) ([(mk.f, mk.t)], [(mk.f, mk.t)], mk.h) := ⟨_, rfl⟩
  have hSTs : ∀ j y, ms[j]? = some y → ST (j + 1) = covStep N mk.s (ST j) y := fun j y hy => by
    rw [hST]; dsimp only
    obtain ⟨h8, he⟩ := List.getElem?_eq_some_iff.1 hy
    rw [List.take_succ_eq_append_getElem h8, he, List.foldl_append]; rfl
  have hI : ∀ j, j ≤ ms.length → CovI N j (ST j) := fun j => by
    induction j with
    | zero =>
      intro _
      obtain ⟨_, y1, y2, y3, y4, y5, y6⟩ := hmo
      rw [hST]
      refine ⟨by simp, by simp, fun s hs => ?_, fun s hs => ?_, y4⟩
      · simp only [List.take_zero, List.foldl_nil, List.mem_singleton] at hs; subst hs; dsimp only; unfold iLen; omega
      · simp only [List.take_zero, List.foldl_nil, List.mem_singleton] at hs; subst hs; dsimp only; omega
    | succ j ih =>
      intro hj
      obtain ⟨y, hy⟩ : ∃ y, ms[j]? = some y := ⟨_, List.getElem?_eq_getElem (by omega)⟩
      rw [hSTs j y hy]
      exact (ih (by omega)).step hN ⟨hmo.2.2.2.2.2.1, hmo.2.2.2.2.2.2⟩ (hmso _ (List.mem_of_getElem? hy))
  have hcov : covS m k h0 N = if mk.k = 4 ∨ h0 < mk.h then ([], []) else (spreadS N ((h0 - (ST ms.length).2.2) * mk.s) (ST ms.length).1, (ST ms.length).2.1) := by
    unfold covS; rw [← hmk0, ← hms, hST]; dsimp only; rw [List.take_length]
  obtain ⟨W, hW⟩ : ∃ W, W = covS m k h0 N := ⟨_, rfl⟩
  rw [← hW] at hcov
  have hok : SpOk N W.1 ∧ SpOk N W.2 := by
    rw [hcov]
    split
    · exact ⟨⟨by simp, by simp⟩, by simp, by simp⟩
    · have hi := hI _ (Nat.le_refl _)
      have hp := pow19 hmsl
      refine ⟨⟨?_, fun s hs => ?_⟩, ?_, fun s hs => ?_⟩
      · simp only [spreadS, List.length_map]; have := hi.l1; omega
      · unfold spreadS at hs
        obtain ⟨u, hu, rfl⟩ := List.mem_map.1 hs
        dsimp only; omega
      · have := hi.l2; dsimp only at this ⊢; omega
      · have := hi.b2 s hs; omega
  have h : Kk (.tup [.vs 2 (W.1.map sp), .vs 2 (W.2.map sp)]) H := h W.1 W.2 hW hok.1 hok.2 _ _ rfl rfl
  have hnw : AV.nidL (m.map mkV) = true := nidL_map (g := mkV) (fun _ => rfl) m
  refine (fun q => pureF (by simp [AV.nidL, AV.nid, hnw]) (by simp [AV.nid, AV.nidL]) q H h) ?_
  clear h hok
  intro Kk h
  obtain ⟨xs, hxs⟩ : ∃ xs, xs = m.map mkV := ⟨_, rfl⟩
  obtain ⟨ik, hik⟩ : ∃ i, i = iLen k := ⟨_, rfl⟩
  rw [← hxs, ← hik]
  obtain ⟨F, hF⟩ : ∃ F, F = Frees 0 Kk := ⟨_, rfl⟩
  rw [← hF]
  obtain ⟨A, hA⟩ : ∃ A, A = std := ⟨_, rfl⟩
  have hne : ∀ x y, A.ne x y = decide (x ≠ y) := by subst hA; intro x y; simp only [std, iNe]; rw [Bool.eq_iff_iff]; simp
  have hee : ∀ x y, A.eq x y = decide (x = y) := by subst hA; intro x y; exact iEq_dec _ _
  have hll : ∀ x y, A.lt x y = decide (x < y) := by subst hA; intro x y; rfl
  have hle : ∀ x y, A.le x y = decide (x ≤ y) := by subst hA; intro x y; rfl
  have hnb : ∀ b, A.bnot b = !b := by subst hA; intro b; rfl
  have hbd : ∀ x y, A.band x y = (x && y) := by subst hA; intro x y; rfl
  have hsg : ∀ g, A.sg g g := by subst hA; exact fun _ => rfl
  obtain ⟨xk, xf, xt, xh, xp⟩ := mk
  have hix : A.ix 5 5 xs ik (mkC ⟨xk, xf, xt, xh, xp⟩) := by subst hA; exact ix_map hxs hik hmk' rfl
  obtain ⟨_, y1, y2, y3, y4, y5, y6⟩ := hmo
  dsimp only at y1 y2 y3 y4 y5 y6 hcov hSTs hST
  refine go70 rfl (SGo_run hA ⟨[], [], (80, eMends) :: [], []⟩ (.cons eMends_ok .nil) .nil 200 fun T TD hT hTD => ?_)
  cbv
  refine Exists.intro _ (And.intro hix ?_); cbv
  have he4 : A.eq xk 4 = decide (xk = 4) := hee _ _
  have hl4 : A.lt h0 xh = decide (h0 < xh) := hll _ _
  have hno : (xk = 4 ∨ h0 < xh) → ∀ H1, F (.tup [NS, NS]) H1 := fun hq H1 => by
    rw [if_pos hq] at hcov
    rw [hF]
    rw [hcov] at h
    exact Frees.wk (r' := .tup [.vs 2 [], .vs 2 []]) (Wk.tup ⟨Wk.nil, Wk.nil, trivial⟩) (Frees.drop0 h rfl)
  split <;> cbv
  · rename_i z1
    exact hno (.inl (of_decide_eq_true (he4.symm.trans z1))) _
  rename_i z1
  have z1 := of_decide_eq_false (he4.symm.trans z1)
  split <;> cbv
  · rename_i z2
    exact hno (.inr (of_decide_eq_true (hl4.symm.trans z2))) _
  rename_i z2
  have z2 := of_decide_eq_false (hl4.symm.trans z2)
  clear hno he4 hl4
  rw [if_neg (fun hh => hh.elim z1 z2)] at hcov
  refine Exists.intro m (Exists.intro k (And.intro ⟨hxs, hik, hm, hk⟩ ?_))
  intro ys hys; cbv
  have hys : ys = ms.map mkV := by rw [hms]; exact hys
  have hvv : A.vlen ys = iLen ms.length := by subst hA; rw [hys]; simp [std]
  rw [hT]
  refine AGo_upE [2, 8, 12, 41, 42] ms.length (fun _ (_ : Unit) => True) (fun j _ i => [(9, .vs 2 ((ST j).2.1.map sp)), (43, I i)]) (fun j _ => [.own 0 [I N], .own 0 [.vs 2 ((ST j).1.map sp)], .own 0 [I xk, I xf, I xt, I xh, I xp], .own 0 [I (ST j).2.2]]) () trivial ⟨by rw [hST]; rfl, rfl, trivial⟩ (.inl (by rw [hST]; rfl)) fun j _ i hi hj _ Bk hB => ?_
  have hlt : A.lt i (A.vlen ys) = decide (j < ms.length) := by rw [hvv, hll, hi, decide_eq_decide]; unfold iLen; omega
  have hadd : ∀ N, j < N → N ≤ 9223372036854775807 → A.add .i64 i 1 = iLen (j + 1) := fun N hj hN => by subst hA; exact add_one hi hj hN
  obtain ⟨hi1, hi2, hi3, hi4, hi5⟩ := hI j hj
  have hS1 := hSTs j
  obtain ⟨s, hs⟩ : ∃ s, s = ST j := ⟨_, rfl⟩
  rw [← hs] at hi1 hi2 hi3 hi4 hi5 hS1
  rw [← hs]
  obtain ⟨may, sure, at0⟩ := s
  dsimp only at hi1 hi2 hi3 hi4 hi5
  have hpw := pow19 (j := j) (by omega)
  obtain ⟨bj, hbj⟩ : ∃ b : Int, b = 1001 + 1000000 * iLen j := ⟨_, rfl⟩
  have hbb : 1001 ≤ bj ∧ bj ≤ 20000000 := by rw [hbj]; unfold iLen; omega
  rw [← hbj] at hi3
  obtain ⟨vm, hvm⟩ : ∃ v, v = may.map sp := ⟨_, rfl⟩
  obtain ⟨vs, hvs⟩ : ∃ v, v = sure.map sp := ⟨_, rfl⟩
  rw [← hvm, ← hvs]
  refine SGo_run hA ⟨[], [2000001], (81, eWithout) :: [], (79, eSpread) :: []⟩ (.cons eWithout_ok .nil) (.cons eSpread_ok .nil) 200 fun T TD hT hTD => ?_
  cbv
  split <;> cbv
  · rename_i hk0
    have hk1 : j < ms.length := by have hz := hlt.symm.trans hk0; simpa using hz
    clear hk0
    obtain ⟨⟨yk, yf, yt, yh, yp⟩, hy⟩ : ∃ y, ms[j]? = some y := ⟨_, List.getElem?_eq_getElem (by omega)⟩
    have hS1 := hS1 _ hy
    obtain ⟨_, w1, w2, w3, w4, w5, w6⟩ := hmso _ (List.mem_of_getElem? hy)
    dsimp only at w1 w2 w3 w4 w5 w6
    have hiy : A.ix 5 5 ys i (mkC ⟨yk, yf, yt, yh, yp⟩) := by subst hA; exact ix_map hys hi hy rfl
    have hadj := hadd _ hk1 (by omega)
    have hmul : -1000000 ≤ (yh - at0) * xp ∧ (yh - at0) * xp ≤ 1000000 := by
      have e1 : (yh - at0) * xp ≤ 10000 * xp := Int.mul_le_mul_of_nonneg_right (by omega) y5
      have e2 : -10000 * xp ≤ (yh - at0) * xp := Int.mul_le_mul_of_nonneg_right (by omega) y5
      omega
    have hspr := SpB.spread hi3 hN (by omega) hmul
    have hspb := SpB.big hspr hN.2 (by omega)
    have hsub := SpB.big hi4 hN.2 (by omega)
    have hsl : (spreadS N ((yh - at0) * xp) may).length ≤ 1000000 := by simp only [spreadS, List.length_map]; omega
    refine Exists.intro _ (And.intro hiy ?_); cbv
    refine Exists.intro may (Exists.intro bj (And.intro ⟨hvm, by omega, by omega, hi3⟩ (And.intro hN (And.intro ⟨w4, hi5⟩ (And.intro ⟨y5, y6⟩ ?_)))))
    intro z hz; cbv
    refine Exists.intro _ (And.intro ⟨hz, hsl, hspb⟩ (And.intro ⟨by omega, by omega⟩ (And.intro ⟨by omega, by omega⟩ ?_)))
    intro u hu; cbv
    refine Exists.intro sure (And.intro ⟨hvs, by omega, hsub⟩ (And.intro ⟨by omega, by omega⟩ (And.intro ⟨by omega, by omega⟩ ?_)))
    intro v hv; cbv
    refine And.intro (by subst hA; first | (simp [std, Keep, SubH, ResK]; done) | exact .inr ⟨⟨rfl, SubH.self _⟩, trivial, .inr fun _ => ⟨rfl, SubH.self _⟩⟩ | exact .inr ⟨SubH.self _, trivial, .inr fun _ => SubH.self _⟩ | exact .inr ⟨by simp [SubH], trivial, .inl rfl⟩ | exact .inr ⟨by simp [SubH], trivial, .inr fun _ => by simp [SubH]⟩) ?_
    cbv
    unfold covStep at hS1
    dsimp only at hS1
    exact hB () _ _ hk1 trivial ⟨by rw [hS1, hv]; rfl, congrArg I hadj, trivial⟩ ⟨rfl, rfl, rfl, rfl, rfl, trivial⟩ (.inr ⟨⟨_, by rw [hS1]; dsimp only; rw [← hu]; rfl⟩, by simp, by simp [ltG, AV.lt, AV.ltL, keepS, look, gset], by simp [ltH, AObj.lt, AV.lt, AV.ltL]⟩)
  · rename_i hk0
    have hk1 : ¬ j < ms.length := by have hz := hlt.symm.trans hk0; simpa using hz
    clear hk0
    have hjM : j = ms.length := by omega
    rw [← hjM, ← hs] at hcov
    dsimp only at hcov
    refine Exists.intro may (Exists.intro bj (And.intro ⟨hvm, by omega, by omega, hi3⟩ (And.intro hN (And.intro ⟨hh0, hi5⟩ (And.intro ⟨y5, y6⟩ ?_)))))
    intro zs hzs; cbv
    rw [hcov] at h
    dsimp only at h
    rw [← hzs, ← hvs] at h
    rw [hF]
    exact Frees.drop0 h rfl
theorem CovM.ok : CovOk CovM := by
  intro args pt h H Kk hk
  unfold eCov at h
  split at h
  · cases h
    obtain ⟨m, k, rfl, rfl, h1, h2, h3⟩ := hk
    exact p70 m k _ _ h2 h1 H h3
  · cases h
end Go.Sas
namespace Go.Sas
open Go.Proofs
set_option maxRecDepth 100000
theorem p40 (n a b : Int) (H : AHeap) {Kk : AV → AHeap → Prop} (h : Kk (B (decide (a ≤ n ∧ n ≤ b))) H) : ACalls Try.prog 40 [I n, I a, I b] H Kk := by
  refine (fun q => pureC (by rfl) (by rfl) q H h) ?_
  clear h
  intro Kk h
  obtain ⟨A, hA⟩ : ∃ A, A = std := ⟨_, rfl⟩
  refine go40 rfl (SGo_run hA ⟨[], [], [], []⟩ .nil .nil 200 fun T TD hT hTD => ?_)
  cbv
  split <;> cbv
  all_goals
    refine leaf h (congrArg B ?_) rfl
    subst hA
    simp only [std, iLe, decide_eq_true_eq, decide_eq_false_iff_not] at *
    simp [*]
/-- a span of numbers -/
def faultF (a b lo hi : Int) : Int := if a < lo ∨ hi < a ∨ b < lo ∨ hi < b then 2 else if b < a then 11 else 0
def eInF : List AV → Option ((AV → Prop) → Prop)
  | [.lit (.int .i64 n), .lit (.int .i64 a), .lit (.int .i64 b)] => some fun K => ∀ q, q = decide (a ≤ n ∧ n ≤ b) → K (B q)
  | _ => none
theorem eIn_okF {f : Nat} (hf : ∀ (n a b : Int) (H : AHeap) {Kk : AV → AHeap → Prop}, Kk (B (decide (a ≤ n ∧ n ≤ b))) H → ACalls Try.prog f [I n, I a, I b] H Kk) : ∀ args pt, eInF args = some pt → ∀ (H : AHeap) (Kk : AV → AHeap → Prop), pt (fun r => Kk r H) → ACalls Try.prog f args H Kk := by
  intro args pt h H Kk hk
  unfold eInF at h
  split at h
  · cases h; exact hf _ _ _ H (hk _ rfl)
  · cases h
theorem p56 (a b lo hi : Int) (H : AHeap) {Kk : AV → AHeap → Prop} (h : Kk (I (faultF a b lo hi)) H) : ACalls Try.prog 56 [.agg [I a, I b], I lo, I hi] H Kk := by
  refine pureC (by rfl) (by rfl) (fun Kk h => ?_) H h
  obtain ⟨A, hA⟩ : ∃ A, A = std := ⟨_, rfl⟩
  obtain ⟨W, hW⟩ : ∃ W, W = faultF a b lo hi := ⟨_, rfl⟩
  rw [← hW] at h
  refine go56 rfl (SGo_run hA ⟨[], [], [(40, eInF)], []⟩ (.cons (eIn_okF p40) .nil) .nil 200 fun T TD hT hTD => ?_)
  clear hT hTD
  cbv
  intro q1 hq1
  cbv
  repeat' (first | (intro q2 hq2; cbv) | (split <;> cbv))
  all_goals
    refine leaf h (congrArg I ?_) rfl
    subst hA hW
    simp only [std, iLt] at *
    simp only [faultF]
    by_cases h1 : lo ≤ a ∧ a ≤ hi <;> by_cases h2 : lo ≤ b ∧ b ≤ hi <;> by_cases h3 : b < a <;> simp_all <;> (repeat' split) <;> omega
end Go.Sas
namespace Go.Sas
structure Ord where
  u : Int
  d : Int
  l : Int
  s : Int
/-- a freight: its first and last days, what may go, its orders -/
structure Frt where
  fi : Int × Int
  la : Int × Int
  caps : List (Int × Int)
  ords : List Ord
abbrev orV (o : Ord) : AV := .agg [I o.u, I o.d, I o.l, I o.s]
abbrev frV (a b c d : Int) (xs os : AV) : AV := .agg [I a, I b, I c, I d, xs, os]
/-- the first error of a row -/
def firstEF {α : Type} (f : α → Int) : List α → Int
  | [] => 0
  | x :: r => if f x = 0 then firstEF f r else f x
def ordE (o : Ord) : Int := if ¬(1 ≤ o.u ∧ o.u ≤ 1000000) ∨ ¬(0 ≤ o.d ∧ o.d ≤ 200) ∨ ¬(0 ≤ o.l ∧ o.l ≤ 1000000) ∨ ¬(0 ≤ o.s ∧ o.s ≤ 1000000) then 2 else if o.s < o.l then 11 else 0
def capE (x : Int × Int) : Int := faultF x.1 x.2 0 1000000
def orsF (os : List Ord) : Int := if os.length = 0 then 6 else if 6 < os.length then 8 else firstEF ordE os
def orElseF (a b : Int) : Int := if a = 0 then b else a
def checkF (f : Frt) : Int :=
  if f.caps.length = 0 then 6 else if 200 < f.caps.length then 8 else
  orElseF (firstEF capE f.caps) (orElseF (faultF f.fi.1 f.fi.2 0 (f.caps.length - 1)) (orElseF (faultF f.la.1 f.la.2 0 (f.caps.length - 1)) (orsF f.ords)))
theorem firstE_dropF {α : Type} {f : α → Int} {l : List α} {i : Nat} {x : α} (h : l[i]? = some x) : firstEF f (l.drop i) = if f x = 0 then firstEF f (l.drop (i + 1)) else f x := by
  rw [drop_cons h]; rfl
end Go.Sas
namespace Go.Sas
/-- a winter -/
structure Win where
  fi : Int
  la : Int
  caps : List Int
abbrev seaV (a b c d : Int) (xs os : AV) (u v : Int) (ws : AV) : AV := .agg [I a, I b, I c, I d, xs, os, I u, I v, ws]
abbrev winV (a b : Int) (c : AV) : AV := .agg [I a, I b, c]
def roomW (w : Win) (d : Nat) : Int := if w.fi ≤ d ∧ d ≤ w.la then w.caps.getD d 0 else 0
def updF {α : Type} (f : Nat → α) (k : Nat) (v : α) : Nat → α := fun i => if i = k then v else f i
/-- an order is given what it can be given on a day: what may still go, what is left, the way -/
def give (d : Nat) (s : Int × (Nat → Int) × (Nat → Nat → Int)) (k : Nat) : Int × (Nat → Int) × (Nat → Nat → Int) :=
  (s.1 - min s.1 (s.2.1 k), updF s.2.1 k (s.2.1 k - min s.1 (s.2.1 k)), updF s.2.2 k (updF (s.2.2 k) d (min s.1 (s.2.1 k))))
def dayG (R : Nat → Int) (plan : List Nat) (s : (Nat → Int) × (Nat → Nat → Int)) (d : Nat) : (Nat → Int) × (Nat → Nat → Int) := (plan.foldl (give d) (R d, s.1, s.2)).2
def daysG (R : Nat → Int) (plan : List Nat) (u : Nat → Int) (D : Nat) : (Nat → Int) × (Nat → Nat → Int) := (List.range D).foldl (dayG R plan) (u, fun _ _ => 0)
/-- a plan's way of delivering -/
def spreadG (R : Nat → Int) (plan : List Nat) (u : Nat → Int) (D : Nat) : Nat → Nat → Int := (daysG R plan u D).2
def unitS (os : List Ord) (k : Nat) : Int := match os[k]? with | some o => o.u | none => 0
def rowF (D : Nat) (f : Nat → Int) : List AV := (List.range D).map fun d => I (f d)
def wayV (n D : Nat) (w : Nat → Nat → Int) : AV := .vs 1 ((List.range n).map fun k => .vs 1 (rowF D (w k)))
/-- the objects of a way -/
def wayH (n D : Nat) (w : Nat → Nat → Int) : AHeap := (List.range n).map fun k => .own 0 (rowF D (w k))
theorem rowF_len {D : Nat} {f : Nat → Int} : (rowF D f).length = D := by simp [rowF]
theorem wayH_len {n D : Nat} {w : Nat → Nat → Int} : (wayH n D w).length = n := by simp [wayH]
theorem rowF_get {D d : Nat} {f : Nat → Int} (h : d < D) : (rowF D f)[d]? = some (I (f d)) := by simp [rowF, h]
theorem wayH_get {n D k : Nat} {w : Nat → Nat → Int} (h : k < n) : (wayH n D w)[k]? = some (.own 0 (rowF D (w k))) := by simp [wayH, h]
theorem rowF_set {D d : Nat} {f : Nat → Int} {v : Int} : (rowF D f).set d (I v) = rowF D (updF f d v) := by
  apply List.ext_getElem?; intro i
  rw [List.getElem?_set]
  by_cases hi : i < D
  · by_cases hd : d = i
    · subst hd; simp [rowF, hi, updF]
    · rw [if_neg hd]; simp [rowF, hi, updF]; intro h; exact absurd h.symm hd
  · simp [rowF, hi]; intro h; omega
theorem wayH_set {n D k : Nat} {w : Nat → Nat → Int} {f : Nat → Int} : (wayH n D w).set k (.own 0 (rowF D f)) = wayH n D (updF w k f) := by
  apply List.ext_getElem?; intro i
  rw [List.getElem?_set]
  by_cases hi : i < n
  · by_cases hd : k = i
    · subst hd; simp [wayH, hi, updF]
    · rw [if_neg hd]; simp [wayH, hi, updF]; rw [if_neg (fun h => hd h.symm)]
  · simp [wayH, hi]; intro h; omega
theorem wayH_succ {n D : Nat} {w : Nat → Nat → Int} : wayH (n + 1) D w = wayH n D w ++ [.own 0 (rowF D (w n))] := by simp [wayH, List.range_succ]
theorem updS_row {D d : Nat} {f : Nat → Int} {v : Int} (h : d < D) : updS 1 (rowF D f) d [I v] (rowF D (updF f d v)) := by
  refine ⟨rfl, by rw [rowF_len]; omega, ?_⟩
  rw [← rowF_set, List.set_eq_take_append_cons_drop, if_pos (by rw [rowF_len]; exact h)]
  simp
theorem getS_row {D d : Nat} {f : Nat → Int} (h : d < D) : getS none (rowF D f) d (I (f d)) := rowF_get h
theorem zeros_row {D : Nat} : List.flatten (List.replicate D ([Value.int .i64 0].map AV.lit)) = rowF D fun _ => 0 := by
  have h1 : ∀ D, List.flatten (List.replicate D ([Value.int .i64 0].map AV.lit)) = List.replicate D (I 0) := by
    intro D
    induction D with
    | zero => rfl
    | succ D ih => rw [List.replicate_succ, List.flatten_cons, ih]; rfl
  rw [h1]
  simp [rowF, List.map_const']
theorem daysG_succ {R : Nat → Int} {plan : List Nat} {u : Nat → Int} {D : Nat} : daysG R plan u (D + 1) = dayG R plan (daysG R plan u D) D := by
  simp [daysG, List.range_succ, List.foldl_append]
def GiveOk (s : Int × (Nat → Int) × (Nat → Nat → Int)) : Prop := (0 ≤ s.1 ∧ s.1 ≤ 1000000) ∧ ∀ k, 0 ≤ s.2.1 k ∧ s.2.1 k ≤ 1000000
theorem GiveOk.give {s : Int × (Nat → Int) × (Nat → Nat → Int)} (h : GiveOk s) (d k : Nat) : GiveOk (give d s k) := by
  obtain ⟨h1, h2⟩ := h
  have hk := h2 k
  refine ⟨by simp only [Go.Sas.give]; omega, fun i => ?_⟩
  simp only [Go.Sas.give, updF]
  split
  · omega
  · exact h2 i
theorem GiveOk.foldl {d : Nat} : ∀ {l : List Nat} {s : Int × (Nat → Int) × (Nat → Nat → Int)}, GiveOk s → GiveOk (l.foldl (Go.Sas.give d) s)
  | [], _, h => h
  | k :: l, s, h => by rw [List.foldl_cons]; exact GiveOk.foldl (l := l) (s := Go.Sas.give d s k) (h.give d k)
theorem roomW_bnd {w : Win} (hw : ∀ x ∈ w.caps, 0 ≤ x ∧ x ≤ 1000000) (d : Nat) : 0 ≤ roomW w d ∧ roomW w d ≤ 1000000 := by
  unfold roomW
  split
  · rw [List.getD_eq_getElem?_getD]
    rcases h : w.caps[d]? with _ | x
    · simp
    · have := hw x (List.mem_of_getElem? h); simpa using this
  · omega
theorem foldl_take_succF {α β : Type} {f : β → α → β} {b : β} {l : List α} {j : Nat} {x : α} (hx : l[j]? = some x) : (l.take (j + 1)).foldl f b = f ((l.take j).foldl f b) x := by
  obtain ⟨h, rfl⟩ := List.getElem?_eq_some_iff.1 hx
  rw [List.take_succ_eq_append_getElem h, List.foldl_append]; rfl
theorem unitS_bnd {os : List Ord} (hu : ∀ o ∈ os, 0 ≤ o.u ∧ o.u ≤ 1000000) (k : Nat) : 0 ≤ unitS os k ∧ unitS os k ≤ 1000000 := by
  unfold unitS
  split
  · rename_i o h; exact hu o (List.mem_of_getElem? h)
  · omega
theorem unitS_none {os : List Ord} {k : Nat} (h : os.length ≤ k) : unitS os k = 0 := by
  simp [unitS, h]
/-- what an order gets -/
structure Dlv where
  on : Int
  late : Int
  lost : Int
  day : Int
abbrev dlV (x : Dlv) : AV := .agg [I x.on, I x.late, I x.lost, I x.day]
def sumI : List Int → Int
  | [] => 0
  | x :: r => x + sumI r
/-- the last day on which something goes; -1: none -/
def lastP (d : Int) : List Int → Int → Int
  | [], l => l
  | x :: r, l => lastP (d + 1) r (if 0 < x then d else l)
def tellO (o : Ord) (row : List Int) : Dlv :=
  ⟨sumI (row.take (o.d.toNat + 1)), sumI row - sumI (row.take (o.d.toNat + 1)), o.u - sumI row, if o.u - sumI row = 0 then lastP 0 row (-1) else -1⟩
def fineO (o : Ord) (x : Dlv) : Int := x.late * o.l + x.lost * o.s
def tellS (os : List Ord) (rows : List (List Int)) : List Dlv := (os.zip rows).map fun p => tellO p.1 p.2
def penS (os : List Ord) (rows : List (List Int)) : Int := sumI ((os.zip rows).map fun p => fineO p.1 (tellO p.1 p.2))
theorem sumI_append {a b : List Int} : sumI (a ++ b) = sumI a + sumI b := by
  induction a with
  | nil => simp [sumI]
  | cons x a ih => simp only [List.cons_append, sumI, ih]; omega
theorem sumI_bnd {lo hi : Int} {l : List Int} (h : ∀ x ∈ l, lo ≤ x ∧ x ≤ hi) : lo * l.length ≤ sumI l ∧ sumI l ≤ hi * l.length := by
  induction l with
  | nil => simp [sumI]
  | cons x l ih =>
    have h1 := h x (by simp)
    have h2 := ih fun y hy => h y (by simp [hy])
    have e1 : lo * ((l.length + 1 : Nat) : Int) = lo * l.length + lo := by rw [Int.natCast_add, Int.mul_add]; simp
    have e2 : hi * ((l.length + 1 : Nat) : Int) = hi * l.length + hi := by rw [Int.natCast_add, Int.mul_add]; simp
    simp only [sumI, List.length_cons]
    omega
abbrev dlC (x : Dlv) : List AV := [I x.on, I x.late, I x.lost, I x.day]
/-- rows that can be reckoned with -/
def RowsV (n D : Nat) (rows : List (List Int)) : Prop := rows.length = n ∧ ∀ r ∈ rows, r.length = D ∧ ∀ x ∈ r, 0 ≤ x ∧ x ≤ 1000000
def OrdsV (os : List Ord) : Prop := ∀ o ∈ os, (0 ≤ o.u ∧ o.u ≤ 1000000) ∧ (0 ≤ o.d ∧ o.d ≤ 200) ∧ (0 ≤ o.l ∧ o.l ≤ 1000000) ∧ (0 ≤ o.s ∧ o.s ≤ 1000000)
def rowsF (n D : Nat) (w : Nat → Nat → Int) : List (List Int) := (List.range n).map fun k => (List.range D).map (w k)
theorem wayV_rows {n D : Nat} {w : Nat → Nat → Int} : wayV n D w = .vs 1 ((rowsF n D w).map fun r => .vs 1 (r.map I)) := by
  simp [wayV, rowsF, rowF, List.map_map]
/-- the rows of a way, as they stand while the way is laid -/
def outC (b j n D : Nat) : List AV := (List.range n).map fun k => if k < j then .ms 1 (b + k) 0 0 D else .lit (.slice none 0 0)
theorem outC_len {b j n D : Nat} : (outC b j n D).length = n := by simp [outC]
theorem outC_zero {b n D : Nat} : List.flatten (List.replicate n ([Value.slice none 0 0].map AV.lit)) = outC b 0 n D := by
  have h1 : ∀ D, List.flatten (List.replicate D ([Value.slice none 0 0].map AV.lit)) = List.replicate D (.lit (.slice none 0 0)) := by
    intro D
    induction D with
    | zero => rfl
    | succ D ih => rw [List.replicate_succ, List.flatten_cons, ih]; rfl
  rw [h1]
  simp [outC, List.map_const']
theorem outC_set {b j n D : Nat} (h : j < n) : updS 1 (outC b j n D) j [.ms 1 (b + j) 0 0 D] (outC b (j + 1) n D) := by
  refine ⟨rfl, by rw [outC_len]; omega, ?_⟩
  have : (outC b j n D).set j (.ms 1 (b + j) 0 0 D) = outC b (j + 1) n D := by
    apply List.ext_getElem?; intro i
    rw [List.getElem?_set]
    by_cases hi : i < n
    · by_cases hd : j = i
      · subst hd; simp [outC, hi]
      · rw [if_neg hd]; simp only [outC, List.getElem?_map, List.getElem?_range hi, Option.map_some]
        congr 1
        by_cases h1 : i < j
        · rw [if_pos h1, if_pos (by omega)]
        · rw [if_neg h1, if_neg (by omega)]
    · simp [outC, hi]; intro h; omega
  rw [← this, List.set_eq_take_append_cons_drop, if_pos (by rw [outC_len]; exact h)]
  simp
theorem outC_get {b n D k : Nat} (h : k < n) : getS none (outC b n n D) k (.ms 1 (b + k) 0 0 D) := by
  simp [getS, getN, outC, h]
theorem rowF_congr {D : Nat} {f g : Nat → Int} (h : ∀ d, d < D → f d = g d) : rowF D f = rowF D g := by
  apply List.map_congr_left; intro d hd; rw [h d (List.mem_range.1 hd)]
theorem unitS_get {os : List Ord} {k : Nat} {o : Ord} (h : os[k]? = some o) : unitS os k = o.u := by
  simp [unitS, h]
def WayOk (w : Nat → Nat → Int) : Prop := ∀ k d, 0 ≤ w k d ∧ w k d ≤ 1000000
theorem give_way {d k : Nat} {s : Int × (Nat → Int) × (Nat → Nat → Int)} (h : GiveOk s) (hw : WayOk s.2.2) : WayOk (give d s k).2.2 := by
  intro i j
  have h1 := h.1; have h2 := h.2 k
  unfold give
  dsimp only
  by_cases hi : i = k
  · subst hi
    by_cases hj : j = d
    · subst hj; simp only [updF, if_true]; omega
    · simp only [updF, if_true, if_neg hj]; exact hw i j
  · simp only [updF, if_neg hi]; exact hw i j
theorem foldl_way {d : Nat} : ∀ {l : List Nat} {s : Int × (Nat → Int) × (Nat → Nat → Int)}, GiveOk s → WayOk s.2.2 → WayOk (l.foldl (give d) s).2.2
  | [], _, _, h => h
  | k :: l, s, h, hw => by rw [List.foldl_cons]; exact foldl_way (l := l) (s := give d s k) (h.give d k) (give_way h hw)
theorem daysG_ok {R : Nat → Int} {plan : List Nat} {u : Nat → Int} (hR : ∀ d, 0 ≤ R d ∧ R d ≤ 1000000) (hu : ∀ k, 0 ≤ u k ∧ u k ≤ 1000000) (D : Nat) : (∀ k, 0 ≤ (daysG R plan u D).1 k ∧ (daysG R plan u D).1 k ≤ 1000000) ∧ WayOk (daysG R plan u D).2 := by
  induction D with
  | zero => exact ⟨hu, fun _ _ => by simp [daysG]⟩
  | succ D ih =>
    rw [daysG_succ, dayG]
    have h1 : GiveOk (R D, (daysG R plan u D).1, (daysG R plan u D).2) := ⟨hR D, ih.1⟩
    exact ⟨(GiveOk.foldl (d := D) (l := plan) h1).2, foldl_way h1 ih.2⟩
end Go.Sas
namespace Go.Sas
open Go.Proofs
set_option maxRecDepth 100000
def eFaultF : List AV → Option ((AV → Prop) → Prop)
  | [.agg [.lit (.int .i64 a), .lit (.int .i64 b)], .lit (.int .i64 lo), .lit (.int .i64 hi)] => some fun K => ∀ q, q = faultF a b lo hi → K (I q)
  | _ => none
theorem eFaultF_ok {f : Nat} (hf : ∀ (a b lo hi : Int) (H : AHeap) {Kk : AV → AHeap → Prop}, Kk (I (faultF a b lo hi)) H → ACalls Try.prog f [.agg [I a, I b], I lo, I hi] H Kk) : ∀ args pt, eFaultF args = some pt → ∀ (H : AHeap) (Kk : AV → AHeap → Prop), pt (fun r => Kk r H) → ACalls Try.prog f args H Kk := by
  intro args pt h H Kk hk
  unfold eFaultF at h
  split at h
  · cases h; exact hf _ _ _ _ H (hk _ rfl)
  · cases h
theorem p39 (a b c d : Int) (cs : List (Int × Int)) (os : List Ord) (hc : cs.length ≤ 9223372036854775807) (ho : os.length ≤ 9223372036854775807) (H : AHeap) {Kk : AV → AHeap → Prop} (h : Kk (I (checkF ⟨(a, b), (c, d), cs, os⟩)) H) :
    ACalls Try.prog 39 [frV a b c d (.vs 2 (cs.map sp)) (.vs 4 (os.map orV))] H Kk := by
  refine pureC (by rfl) (by rfl) (fun Kk h => ?_) H h
  obtain ⟨xs, hxs⟩ : ∃ xs, xs = cs.map sp := ⟨_, rfl⟩
  rw [← hxs]
  obtain ⟨ys, hys⟩ : ∃ ys, ys = os.map orV := ⟨_, rfl⟩
  rw [← hys]
  obtain ⟨A, hA⟩ : ∃ A, A = std := ⟨_, rfl⟩
  obtain ⟨W, hW⟩ : ∃ W, W = checkF ⟨(a, b), (c, d), cs, os⟩ := ⟨_, rfl⟩
  rw [← hW] at h
  have hv : A.vlen xs = iLen cs.length := by subst hA; simp [std, hxs]
  have hw : A.vlen ys = iLen os.length := by subst hA; simp [std, hys]
  refine go39 rfl (SGo_run hA ⟨[], [], [(40, eInF), (56, eFaultF)], []⟩ (.cons (eIn_okF p40) (.cons (eFaultF_ok p56) .nil)) .nil 200 fun T TD hT hTD => ?_)
  cbv
  split <;> cbv
  · refine leaf h (congrArg I ?_) rfl
    rename_i hq; have hq : A.eq (A.vlen xs) 0 = true := hq
    rw [hv] at hq
    subst hA hW
    simp only [std, iEq, iLen, beq_iff_eq] at hq
    simp only [checkF]; rw [if_pos (by omega)]
  rename_i hq; have hq : A.eq (A.vlen xs) 0 = false := hq
  split <;> cbv
  · refine leaf h (congrArg I ?_) rfl
    rename_i hr; have hr : A.lt 200 (A.vlen xs) = true := hr
    rw [hv] at hq hr
    subst hA hW
    simp only [std, iEq, iLt, iLen, beq_eq_false_iff_ne, ne_eq, decide_eq_true_eq] at hq hr
    simp only [checkF]; rw [if_neg (by omega), if_pos (by omega)]
  rename_i hr; have hr : A.lt 200 (A.vlen xs) = false := hr
  obtain ⟨V4, hV4⟩ : ∃ V, V = orsF os := ⟨_, rfl⟩
  obtain ⟨V3, hV3⟩ : ∃ V, V = orElseF (faultF c d 0 (A.sub .i64 (A.vlen xs) 1)) V4 := ⟨_, rfl⟩
  obtain ⟨V2, hV2⟩ : ∃ V, V = orElseF (faultF a b 0 (A.sub .i64 (A.vlen xs) 1)) V3 := ⟨_, rfl⟩
  have hW : W = orElseF (firstEF capE cs) V2 := by
    have hs : A.sub .i64 (iLen cs.length) 1 = (cs.length : Int) - 1 := by subst hA; exact iSub_id (by simp only [iLen]; omega) (by simp only [iLen]; omega)
    rw [hv] at hq hr hV3 hV2
    rw [hV2, hV3, hV4, hs]
    subst hA hW
    simp only [std, iEq, iLt, iLen, beq_eq_false_iff_ne, ne_eq, decide_eq_false_iff_not] at hq hr
    simp only [checkF]; rw [if_neg (by omega), if_neg (by omega)]
  clear hq hr
  rw [hT]
  refine AGo_up cs.length (fun j => W = orElseF (firstEF capE (cs.drop j)) V2) (fun _ i => [(0, frV a b c d (.vs 2 xs) (.vs 4 ys)), (1, .mp 0 0 0), (2, I 0), (22, .vs 2 xs), (23, I (A.vlen xs)), (24, I i)]) (fun _ => [.own 0 [I a, I b, I c, I d, .vs 2 xs, .vs 4 ys]]) hW ⟨rfl, rfl, rfl, rfl, rfl, rfl, trivial⟩ (.inl rfl) fun j i hi hj hP Bk hB => ?_
  have hlt : A.lt i (A.vlen xs) = decide (j < cs.length) := by subst hA; exact lt_len (by simp [hxs]) hi
  have hadd : ∀ N, j < N → N ≤ 9223372036854775807 → A.add .i64 i 1 = iLen (j + 1) := fun N hj hN => by subst hA; exact add_one hi hj hN
  refine SGo_run hA ⟨[], [], [(40, eInF), (56, eFaultF)], []⟩ (.cons (eIn_okF p40) (.cons (eFaultF_ok p56) .nil)) .nil 200 fun T TD hT hTD => ?_
  cbv
  split <;> cbv
  · rename_i hk1
    have hk1 : j < cs.length := by have := hlt.symm.trans hk1; simpa using this
    obtain ⟨⟨x, y⟩, hx⟩ : ∃ x, cs[j]? = some x := ⟨_, List.getElem?_eq_getElem hk1⟩
    have hix : A.ix 2 2 xs i [I x, I y] := by subst hA; exact ix_map hxs hi hx rfl
    rw [firstE_dropF hx] at hP
    refine Exists.intro _ (And.intro hix ?_); cbv
    intro q hfq
    cbv
    split <;> cbv
    · rename_i hn; have hn : A.ne q 0 = true := hn
      refine leaf h (congrArg I ?_) rfl
      subst hA
      simp only [std, iNe, bne_iff_ne, ne_eq] at hn
      rw [hP, hfq]
      rw [hfq] at hn
      have hE : capE (x, y) ≠ 0 := hn
      rw [if_neg hE]; unfold orElseF; rw [if_neg hE]; rfl
    · rename_i hn; have hn : A.ne q 0 = false := hn
      refine hB _ _ hk1 ?_ ⟨rfl, rfl, rfl, rfl, rfl, congrArg I (hadd _ hk1 (by omega)), trivial⟩ (.inr ⟨⟨_, rfl⟩, Nat.zero_le _, by simp [ltG, AV.lt, AV.ltL], by simp [ltH, AObj.lt, AV.lt, AV.ltL]⟩)
      subst hA
      simp only [std, iNe, bne_eq_false_iff_eq] at hn
      rw [hP]
      have h0 : capE (x, y) = 0 := hfq.symm.trans hn
      rw [if_pos h0]
  · rename_i hk1
    have hk1 : ¬ j < cs.length := by have := hlt.symm.trans hk1; simpa using this
    have hW : W = V2 := by rw [hP, List.drop_eq_nil_of_le (by omega)]; rfl
    clear hP hB hlt hadd hk1
    rw [hT]
    refine AGo_up 2 (fun j => W = match j with | 0 => V2 | 1 => V3 | _ => V4) (fun _ i => [(0, frV a b c d (.vs 2 xs) (.vs 4 ys)), (1, .mp 0 0 0), (2, I 0), (38, .agg [I a, I b, I c, I d]), (39, I i)]) (fun _ => [.own 0 [I a, I b, I c, I d, .vs 2 xs, .vs 4 ys]]) hW ⟨rfl, rfl, rfl, rfl, rfl, trivial⟩ (.inl rfl) fun j i hi hj hP Bk hB => ?_
    have hlt : A.lt i 2 = decide (j < 2) := by subst hA hi; simp only [std, iLt, iLen, decide_eq_decide]; omega
    have hadd : j < 2 → A.add .i64 i 1 = iLen (j + 1) := fun hj => by subst hA; exact add_one hi hj (by omega)
    have hcase : j < 2 → ∃ p r Vn, A.aix 2 2 (some 2) [I a, I b, I c, I d] i (.agg [I p, I r]) ∧ W = orElseF (faultF p r 0 (A.sub .i64 (A.vlen xs) 1)) Vn ∧ (W = Vn → W = match j + 1 with | 0 => V2 | 1 => V3 | _ => V4) := by
      intro h2
      have : j = 0 ∨ j = 1 := by omega
      rcases this with rfl | rfl
      · exact ⟨a, b, V3, by subst hA hi; exact ⟨by decide, by decide, rfl⟩, hP.trans hV2, fun h => h⟩
      · exact ⟨c, d, V4, by subst hA hi; exact ⟨by decide, by decide, rfl⟩, hP.trans hV3, fun h => h⟩
    refine SGo_run hA ⟨[], [], [(40, eInF), (56, eFaultF)], []⟩ (.cons (eIn_okF p40) (.cons (eFaultF_ok p56) .nil)) .nil 200 fun T TD hT hTD => ?_
    cbv
    split <;> cbv
    · rename_i hk1
      have hk1 : j < 2 := by have := hlt.symm.trans hk1; simpa using this
      obtain ⟨p, r, Vn, hix, hPn, hnx⟩ := hcase hk1
      refine Exists.intro _ (And.intro hix ?_); cbv
      intro q hfq
      cbv
      split <;> cbv
      · rename_i hn; have hn : A.ne q 0 = true := hn
        refine leaf h (congrArg I ?_) rfl
        rw [hPn, ← hfq]
        subst hA
        simp only [std, iNe, bne_iff_ne, ne_eq] at hn
        unfold orElseF; rw [if_neg hn]
      · rename_i hn; have hn : A.ne q 0 = false := hn
        refine hB _ _ hk1 (hnx ?_) ⟨rfl, rfl, rfl, rfl, congrArg I (hadd hk1), trivial⟩ (.inr ⟨⟨_, rfl⟩, Nat.zero_le _, by simp [ltG, AV.lt, AV.ltL], by simp [ltH, AObj.lt, AV.lt, AV.ltL]⟩)
        rw [hPn, ← hfq]
        subst hA
        simp only [std, iNe, bne_eq_false_iff_eq] at hn
        unfold orElseF; rw [if_pos hn]
    · rename_i hk1
      have hk1 : ¬ j < 2 := by have := hlt.symm.trans hk1; simpa using this
      have hW : W = V4 := by
        have : j = 2 := by omega
        subst this; exact hP
      clear hP hB hlt hadd hk1 hcase
      split <;> cbv
      · refine leaf h (congrArg I ?_) rfl
        rename_i hq1; have hq1 : A.eq (A.vlen ys) 0 = true := hq1
        rw [hw] at hq1
        rw [hW, hV4]
        subst hA
        simp only [std, iEq, iLen, beq_iff_eq] at hq1
        simp only [orsF]; rw [if_pos (by omega)]
      rename_i hq1; have hq1 : A.eq (A.vlen ys) 0 = false := hq1
      split <;> cbv
      · refine leaf h (congrArg I ?_) rfl
        rename_i hr1; have hr1 : A.lt 6 (A.vlen ys) = true := hr1
        rw [hw] at hq1 hr1
        rw [hW, hV4]
        subst hA
        simp only [std, iEq, iLt, iLen, beq_eq_false_iff_ne, ne_eq, decide_eq_true_eq] at hq1 hr1
        simp only [orsF]; rw [if_neg (by omega), if_pos (by omega)]
      rename_i hr1; have hr1 : A.lt 6 (A.vlen ys) = false := hr1
      have hW : W = firstEF ordE os := by
        rw [hw] at hq1 hr1
        rw [hW, hV4]
        subst hA
        simp only [std, iEq, iLt, iLen, beq_eq_false_iff_ne, ne_eq, decide_eq_false_iff_not] at hq1 hr1
        simp only [orsF]; rw [if_neg (by omega), if_neg (by omega)]
      clear hq1 hr1
      rw [hT]
      refine AGo_up os.length (fun j => W = firstEF ordE (os.drop j)) (fun _ i => [(0, frV a b c d (.vs 2 xs) (.vs 4 ys)), (1, .mp 0 0 0), (2, I 0), (63, .vs 4 ys), (64, I (A.vlen ys)), (65, I i)]) (fun _ => [.own 0 [I a, I b, I c, I d, .vs 2 xs, .vs 4 ys]]) hW ⟨rfl, rfl, rfl, rfl, rfl, rfl, trivial⟩ (.inl rfl) fun j i hi hj hP Bk hB => ?_
      have hlt : A.lt i (A.vlen ys) = decide (j < os.length) := by subst hA; exact lt_len (by simp [hys]) hi
      have hadd : ∀ N, j < N → N ≤ 9223372036854775807 → A.add .i64 i 1 = iLen (j + 1) := fun N hj hN => by subst hA; exact add_one hi hj hN
      refine SGo_run hA ⟨[], [], [(40, eInF), (56, eFaultF)], []⟩ (.cons (eIn_okF p40) (.cons (eFaultF_ok p56) .nil)) .nil 200 fun T TD hT hTD => ?_
      cbv
      split <;> cbv
      · rename_i hk1
        have hk1 : j < os.length := by have := hlt.symm.trans hk1; simpa using this
        obtain ⟨⟨ou, od, ol, ol2⟩, hx⟩ : ∃ x, os[j]? = some x := ⟨_, List.getElem?_eq_getElem hk1⟩
        have hix : A.ix 4 4 ys i [I ou, I od, I ol, I ol2] := by subst hA; exact ix_map hys hi hx rfl
        rw [firstE_dropF hx] at hP
        have hR : ∀ e, e ≠ 0 → ordE ⟨ou, od, ol, ol2⟩ = e → W = e := fun e he h => by rw [hP, h, if_neg he]
        have hN : ordE ⟨ou, od, ol, ol2⟩ = 0 → W = firstEF ordE (os.drop (j + 1)) := fun h => by rw [hP, if_pos h]
        refine Exists.intro _ (And.intro hix ?_); cbv
        repeat' (first | (intro q hfq; cbv) | (split <;> cbv))
        all_goals first
          | refine hB _ _ hk1 (hN ?_) ⟨rfl, rfl, rfl, rfl, rfl, congrArg I (hadd _ hk1 (by omega)), trivial⟩ (.inr ⟨⟨_, rfl⟩, Nat.zero_le _, by simp [ltG, AV.lt, AV.ltL], by simp [ltH, AObj.lt, AV.lt, AV.ltL]⟩)
          | refine leaf h (congrArg I (hR _ (by decide) ?_)) rfl
        all_goals
          clear hR hN hP hix hv hw hW hlt hadd hB hx
          subst hA
          simp only [std, iLt] at *
          simp only [ordE]
          by_cases u1 : 1 ≤ ou ∧ ou ≤ 1000000 <;> by_cases u2 : 0 ≤ od ∧ od ≤ 200 <;> by_cases u3 : 0 ≤ ol ∧ ol ≤ 1000000 <;> by_cases u4 : 0 ≤ ol2 ∧ ol2 ≤ 1000000 <;> by_cases u5 : ol2 < ol <;> simp_all
      · refine leaf h (congrArg I ?_) rfl
        rename_i hk1
        have hk1 : ¬ j < os.length := by have := hlt.symm.trans hk1; simpa using this
        rw [hP, List.drop_eq_nil_of_le (by omega)]; rfl
end Go.Sas
namespace Go.Sas
open Go.Proofs
set_option maxRecDepth 100000
theorem p41 (a b c d u v : Int) (xs os : List AV) (ws : List Int) (n : Nat) (hn : n < ws.length) (hw : ws.length ≤ 9223372036854775807) (H : AHeap) {Kk : AV → AHeap → Prop} (h : Kk (I (roomW ⟨u, v, ws⟩ n)) H) :
    ACalls Try.prog 41 [seaV a b c d (.vs 2 xs) (.vs 4 os) u v (.vs 1 (ws.map I)), I (iLen n)] H Kk := by
  refine (fun q => pureC (by rfl) (by rfl) q H h) ?_
  clear h
  intro Kk h
  obtain ⟨ys, hys⟩ : ∃ xs, xs = ws.map I := ⟨_, rfl⟩
  obtain ⟨i, hi⟩ : ∃ i : Int, i = iLen n := ⟨_, rfl⟩
  rw [← hys, ← hi]
  obtain ⟨W, hW⟩ : ∃ W, W = roomW ⟨u, v, ws⟩ n := ⟨_, rfl⟩
  rw [← hW] at h
  obtain ⟨x, hx⟩ : ∃ x, ws[n]? = some x := ⟨_, List.getElem?_eq_getElem hn⟩
  have hWx : W = if u ≤ iLen n ∧ iLen n ≤ v then x else 0 := by rw [hW]; simp only [roomW, List.getD_eq_getElem?_getD, hx]; rfl
  clear hW
  obtain ⟨A, hA⟩ : ∃ A, A = std := ⟨_, rfl⟩
  have hix : A.ix 1 1 ys i [I x] := by subst hA; exact ix_map hys hi hx rfl
  refine go41 rfl (SGo_run hA ⟨[], [], [(40, eInF)], []⟩ (.cons (eIn_okF p40) .nil) .nil 200 fun T TD hT hTD => ?_)
  cbv
  intro q hq
  cbv
  split <;> cbv
  · rename_i hn
    refine leaf h (congrArg I ?_) rfl
    subst hA
    rw [hWx, ← hi]
    have hq2 : q = false := by simpa [std] using hn
    rw [hq2] at hq
    rw [if_neg (by intro h9; have := of_decide_eq_false hq.symm; exact this h9)]
  · rename_i hn
    refine Exists.intro _ (And.intro hix ?_); cbv
    refine leaf h (congrArg I ?_) rfl
    subst hA
    rw [hWx, ← hi]
    have hq2 : q = true := by simpa [std] using hn
    rw [hq2] at hq
    rw [if_pos (of_decide_eq_true hq.symm)]
theorem p44 (l : List Int) (hl : l.length ≤ 1000) (hb : ∀ x ∈ l, 0 ≤ x ∧ x ≤ 1000000000) (H : AHeap) {Kk : AV → AHeap → Prop} (h : Kk (I (sumI l)) H) : ACalls Try.prog 44 [.vs 1 (l.map I)] H Kk := by
  refine (fun q => pureC (by rfl) (by rfl) q H h) ?_
  clear h
  intro Kk h
  obtain ⟨xs, hxs⟩ : ∃ xs, xs = l.map I := ⟨_, rfl⟩
  rw [← hxs]
  obtain ⟨A, hA⟩ : ∃ A, A = std := ⟨_, rfl⟩
  refine go44 rfl (SGo_run hA ⟨[], [], [], []⟩ .nil .nil 200 fun T TD hT hTD => ?_)
  cbv
  rw [hT]
  refine AGo_upE [6, 7] l.length (fun j (s : Int) => s + sumI (l.drop j) = sumI l ∧ 0 ≤ s ∧ s ≤ 1000000000 * iLen j) (fun j s i => [(3, I s), (8, I i)]) (fun _ _ => []) 0 ⟨by simp, by omega, by unfold iLen; omega⟩ ⟨rfl, rfl, trivial⟩ (.inl rfl) fun j s i hi hj hP Bk hB => ?_
  have hlt : A.lt i (A.vlen xs) = decide (j < l.length) := by subst hA; exact lt_len (by simp [hxs]) hi
  have hadd : ∀ N, j < N → N ≤ 9223372036854775807 → A.add .i64 i 1 = iLen (j + 1) := fun N hj hN => by subst hA; exact add_one hi hj hN
  refine SGo_run hA ⟨[], [], [], []⟩ .nil .nil 200 fun T TD hT hTD => ?_
  cbv
  split <;> cbv
  · rename_i hk1
    have hk1 : j < l.length := by have := hlt.symm.trans hk1; simpa using this
    obtain ⟨x, hx⟩ : ∃ x, l[j]? = some x := ⟨_, List.getElem?_eq_getElem hk1⟩
    have hix : A.ix 1 1 xs i [I x] := by subst hA; exact ix_map hxs hi hx rfl
    refine Exists.intro _ (And.intro hix ?_); cbv
    have hbx := hb _ (List.mem_of_getElem? hx)
    obtain ⟨h1, h2, h3⟩ := hP
    rw [drop_cons hx] at h1
    have ha : A.add .i64 s x = s + x := by subst hA; unfold iLen at h3; exact iAdd_id (by omega) (by omega)
    refine hB (s + x) _ _ hk1 ⟨by rw [← h1]; simp only [sumI]; omega, by omega, by unfold iLen at h3 ⊢; omega⟩ ⟨congrArg I ha, congrArg I (hadd _ hk1 (by omega)), trivial⟩ ⟨rfl, rfl, trivial⟩ (.inl rfl)
  · rename_i hk1
    have hk1 : ¬ j < l.length := by have := hlt.symm.trans hk1; simpa using this
    refine leaf h (congrArg I ?_) rfl
    obtain ⟨h1, h2, h3⟩ := hP
    rw [← h1, List.drop_eq_nil_of_le (by omega)]; simp [sumI]
def eRoom : List AV → Option ((AV → Prop) → Prop)
  | [.agg [.lit (.int .i64 _), .lit (.int .i64 _), .lit (.int .i64 _), .lit (.int .i64 _), .vs 2 _, .vs 4 _, .lit (.int .i64 u), .lit (.int .i64 v), .vs 1 zs], .lit (.int .i64 n)] =>
    some fun K => ∃ (ws : List Int) (k : Nat), zs = ws.map I ∧ n = iLen k ∧ k < ws.length ∧ ws.length ≤ 9223372036854775807 ∧ ∀ q, q = roomW ⟨u, v, ws⟩ k → K (I q)
  | _ => none
theorem eRoom_ok : ∀ args pt, eRoom args = some pt → ∀ (H : AHeap) (Kk : AV → AHeap → Prop), pt (fun r => Kk r H) → ACalls Try.prog 41 args H Kk := by
  intro args pt h H Kk hk
  unfold eRoom at h
  split at h
  · cases h
    obtain ⟨ws, k, rfl, rfl, h1, h2, h3⟩ := hk
    exact p41 _ _ _ _ _ _ _ _ _ _ h1 h2 H (h3 _ rfl)
  · cases h
def eTotal : List AV → Option ((AV → Prop) → Prop)
  | [.vs 1 xs] => some fun K => ∃ l : List Int, xs = l.map I ∧ l.length ≤ 1000 ∧ (∀ x ∈ l, 0 ≤ x ∧ x ≤ 1000000000) ∧ ∀ q, q = sumI l → K (I q)
  | _ => none
theorem eTotal_ok {f : Nat} (hf : ∀ (l : List Int) (_ : l.length ≤ 1000) (_ : ∀ x ∈ l, 0 ≤ x ∧ x ≤ 1000000000) (H : AHeap) {Kk : AV → AHeap → Prop}, Kk (I (sumI l)) H → ACalls Try.prog f [.vs 1 (l.map I)] H Kk) : ∀ args pt, eTotal args = some pt → ∀ (H : AHeap) (Kk : AV → AHeap → Prop), pt (fun r => Kk r H) → ACalls Try.prog f args H Kk := by
  intro args pt h H Kk hk
  unfold eTotal at h
  split at h
  · cases h
    obtain ⟨l, rfl, h1, h2, h3⟩ := hk
    exact hf l h1 h2 H (h3 _ rfl)
  · cases h
end Go.Sas
namespace Go.Sas
variable {m : Nat} {H : AHeap} {Kk : AV → AHeap → Prop} {r r' : AV}
theorem nidL_rowF {D : Nat} {f : Nat → Int} : AV.nidL (rowF D f) = true := by
  have : ∀ l : List Nat, AV.nidL (l.map fun d => I (f d)) = true := by
    intro l; induction l with
    | nil => rfl
    | cons a l ih => simpa [AV.nidL, AV.nid] using ih
  exact this _
theorem AObj.frz_nid {id g sz : Nat} {xs0 : List AV} {X : AObj} (h : X.nid) : X.frz id g sz xs0 = X := by
  cases X with
  | gone => rfl
  | own g' cs => simp only [AObj.frz, AV.frzL_nid h]
  | raw _ _ _ _ => exact h.elim
def outM (b i n D : Nat) (w : Nat → Nat → Int) : List AV := (List.range n).map fun k => if k < i then .ms 1 (b + k) 0 0 D else .vs 1 (rowF D (w k))
theorem outM_frz {b i n D : Nat} {w : Nat → Nat → Int} : AV.frzL (b + i) 0 1 (rowF D (w i)) (outM b (i + 1) n D w) = outM b i n D w := by
  rw [frzL_map, outM, outM, List.map_map]
  apply List.map_congr_left
  intro k hk
  simp only [Function.comp]
  by_cases h1 : k < i
  · rw [if_pos (by omega), if_pos h1]; simp only [AV.frz]; rw [if_neg (by omega)]
  · rw [if_neg h1]
    by_cases h2 : k = i
    · subst h2; rw [if_pos (by omega)]; simp only [AV.frz, if_true]
      rw [if_pos ⟨trivial, trivial, by simp, by simp [rowF_len]⟩]
      simp [rowF_len, List.take_of_length_le]
    · rw [if_neg (by omega)]; rfl
theorem Frees.fam {b n D q g0 : Nat} {w : Nat → Nat → Int} (pre : AHeap) (hb : pre.length = b) (hq : q < b) (hpre : ∀ i X, pre[i]? = some X → i ≠ q → X.nid) (hX : pre[q]? = some (.own g0 (outC b n n D))) (h : Kk (wayV n D w) []) :
    Frees 0 Kk (.ms 1 q g0 0 n) (pre ++ wayH n D w) := by
  have key : ∀ i T, i ≤ n → (∀ X ∈ T, X = AObj.gone) → Frees 0 Kk (.ms 1 q g0 0 n) ((pre.set q (.own g0 (outM b i n D w)) ++ wayH i D w) ++ T) := by
    intro i
    induction i with
    | zero =>
      intro T _ hT
      have hE : Elems 1 ((List.range n).map fun k => .vs 1 (rowF D (w k))) (outM b 0 n D w) := by
        have := Elems_map (f := fun k => AV.vs 1 (rowF D (w k))) (g := fun k => [AV.vs 1 (rowF D (w k))]) (sz := 1) (fun _ => rfl) (fun _ => rfl) (fun _ => rfl) (List.range n)
        rw [show outM b 0 n D w = (List.range n).flatMap fun k => [AV.vs 1 (rowF D (w k))] from by
          have : ∀ l : List Nat, (l.map fun k => if k < 0 then AV.ms 1 (b + k) 0 0 D else .vs 1 (rowF D (w k))) = l.flatMap fun k => [AV.vs 1 (rowF D (w k))] := by
            intro l; induction l with
            | nil => rfl
            | cons a l ih => rw [List.map_cons, List.flatMap_cons, ih]; simp
          exact this _]
        exact this
      refine Frees.frz q g0 1 _ (by simp [List.getElem?_append_left, hb, hq]) hE ?_
      have : AV.frz q g0 1 ((List.range n).map fun k => .vs 1 (rowF D (w k))) (.ms 1 q g0 0 n) = wayV n D w := by
        simp only [AV.frz, if_true]
        rw [if_pos ⟨trivial, trivial, by simp, by simp⟩]
        simp [wayV, List.take_of_length_le]
      rw [this]
      exact Frees.drop0 h rfl
    | succ i ih =>
      intro T hi hT
      have h1 := ih (.gone :: T) (by omega) (by intro X hX; rcases List.mem_cons.1 hX with rfl | hX; rfl; exact hT X hX)
      refine Frees.frz (b + i) 0 1 (rowF D (w i)) (cs := rowF D (w i)) ?_ ?_ ?_
      · rw [List.getElem?_append_left (by simp [wayH_len, hb]), List.getElem?_append_right (by simp [hb])]
        simp only [List.length_set, hb, Nat.add_sub_cancel_left]
        exact wayH_get (by omega)
      · have := Elems_I ((List.range D).map (w i))
        rw [List.map_map] at this; exact this
      · have h2 : (AV.ms 1 q g0 0 n).frz (b + i) 0 1 (rowF D (w i)) = .ms 1 q g0 0 n := by simp only [AV.frz]; rw [if_neg (by omega)]
        rw [h2, frzH_map]
        have h3 : List.map (AObj.frz (b + i) 0 1 (rowF D (w i))) ((pre.set q (.own g0 (outM b (i + 1) n D w)) ++ wayH (i + 1) D w ++ T).set (b + i) .gone) = (pre.set q (.own g0 (outM b i n D w)) ++ wayH i D w) ++ .gone :: T := by
          rw [wayH_succ, ← List.append_assoc, List.append_assoc _ [_] T, List.set_append_right _ _ (by simp [wayH_len, hb])]
          simp only [List.length_append, List.length_set, hb, wayH_len, Nat.sub_self, List.singleton_append, List.set_cons_zero, List.map_append, List.map_cons]
          refine congr (congrArg _ (congr (congrArg _ ?_) ?_)) (congr (congrArg _ rfl) ?_)
          · rw [List.map_set]
            simp only [AObj.frz, outM_frz]
            apply List.ext_getElem?; intro k
            rw [List.getElem?_set, List.getElem?_set]
            split
            · simp
            · rename_i hk
              rw [List.getElem?_map]
              rcases hpk : pre[k]? with _ | X
              · rfl
              · simp only [Option.map_some]
                rw [AObj.frz_nid (hpre k X hpk (fun h => hk h.symm))]
          · rw [wayH, List.map_map]
            apply List.map_congr_left; intro k _
            simp only [Function.comp, AObj.frz, AV.frzL_nid nidL_rowF]
          · have : T.map (AObj.frz (b + i) 0 1 (rowF D (w i))) = T.map id := by
              apply List.map_congr_left; intro X hX; rw [hT X hX]; rfl
            simpa using this
        rw [h3]; exact h1
  have h4 := key n [] (Nat.le_refl _) (by simp)
  rw [List.append_nil] at h4
  have h5 : outM b n n D w = outC b n n D := by
    apply List.map_congr_left; intro k hk; rw [if_pos (List.mem_range.1 hk), if_pos (List.mem_range.1 hk)]
  rw [h5] at h4
  rwa [show pre.set q (.own g0 (outC b n n D)) = pre from by
    apply List.ext_getElem?; intro k; rw [List.getElem?_set]; split
    · rename_i hk; subst hk; rw [if_pos (by omega), hX]
    · rfl] at h4
end Go.Sas
namespace Go.Sas
open Go.Proofs
set_option maxRecDepth 100000
theorem p27 (a b c d u v : Int) (cs : List (Int × Int)) (os : List Ord) (ws : List Int) (plan : List Nat) (hD : ws.length = cs.length) (hD2 : cs.length ≤ 200) (hn : os.length ≤ 6) (hw : ∀ x ∈ ws, 0 ≤ x ∧ x ≤ 1000000) (hu : ∀ o ∈ os, 0 ≤ o.u ∧ o.u ≤ 1000000) (hp : ∀ k ∈ plan, k < os.length) (hpl : plan.length ≤ 1000) (H : AHeap) {Kk : AV → AHeap → Prop}
    (h : Kk (wayV os.length cs.length (spreadG (roomW ⟨u, v, ws⟩) plan (unitS os) cs.length)) H) :
    ACalls Try.prog 27 [seaV a b c d (.vs 2 (cs.map sp)) (.vs 4 (os.map orV)) u v (.vs 1 (ws.map I)), .vs 1 (plan.map fun k => I (iLen k))] H Kk := by
  refine (fun q => pureF (by rfl) (by rfl) q H h) ?_
  clear h
  intro Kk h
  obtain ⟨xs, hxs⟩ : ∃ xs, xs = cs.map sp := ⟨_, rfl⟩
  obtain ⟨ys, hys⟩ : ∃ ys, ys = os.map orV := ⟨_, rfl⟩
  obtain ⟨zs, hzs⟩ : ∃ zs, zs = ws.map I := ⟨_, rfl⟩
  obtain ⟨ps, hps⟩ : ∃ ps, ps = plan.map fun k => I (iLen k) := ⟨_, rfl⟩
  rw [← hxs, ← hys, ← hzs, ← hps]
  obtain ⟨N, hN⟩ : ∃ N, N = os.length := ⟨_, rfl⟩
  obtain ⟨D, hDD⟩ : ∃ D, D = cs.length := ⟨_, rfl⟩
  rw [← hDD] at hD hD2
  rw [← hN] at hn hp
  rw [← hDD, ← hN] at h
  obtain ⟨A, hA⟩ : ∃ A, A = std := ⟨_, rfl⟩
  obtain ⟨F, hF⟩ : ∃ F, F = Frees 0 Kk := ⟨_, rfl⟩
  rw [← hF]
  have hv1 : A.vlen xs = iLen D := by subst hA; simp [std, hxs, hDD]
  have hv2 : A.vlen ys = iLen N := by subst hA; simp [std, hys, hN]
  have hsg : ∀ g, A.sg g g := by subst hA; exact fun _ => rfl
  have hmk : A.mkz 1 24 [.slice none 0 0] (A.vlen ys) (A.vlen ys) (outC 4 0 N D) N := by
    rw [hv2]; subst hA; exact ⟨by unfold iLen; omega, Int.le_refl _, by unfold iLen; omega, by unfold iLen; omega, rfl, by unfold iLen; omega, by rw [← outC_zero]; rfl⟩
  refine go27 rfl (SGo_run hA ⟨[1, 2], [], [], []⟩ .nil .nil 200 fun T TD hT hTD => ?_)
  cbv
  refine Exists.intro (outC 4 0 N D) (Exists.intro N (And.intro hmk ?_))
  obtain ⟨oc, hoc⟩ : ∃ oc, oc = outC 4 0 N D := ⟨_, rfl⟩
  rw [← hoc]
  cbv
  rw [hT]
  refine AGo_place ?_
  refine AGo_upE [1, 2, 5, 6, 21, 22] N (fun _ (_ : Unit) => True) (fun j _ i => [(23, I i)])
    (fun j _ => .own 0 [I a, I b, I c, I d, .vs 2 xs, .vs 4 ys, I u, I v, .vs 1 zs] :: .own 0 (rowF 6 fun k => if k < j then unitS os k else 0) :: .own 0 (outC 4 j N D) :: .own j [] :: wayH j D fun _ _ => 0) () trivial ⟨rfl, trivial⟩ (.inl (by rw [hoc]; rfl)) fun j _ i hi hj _ Bk hB => ?_
  have hlt : A.lt i (A.vlen ys) = decide (j < N) := by subst hA; exact lt_len (by simp [hys, hN]) hi
  have hadd : ∀ N, j < N → N ≤ 9223372036854775807 → A.add .i64 i 1 = iLen (j + 1) := fun N hj hN => by subst hA; exact add_one hi hj hN
  obtain ⟨lr, hlr⟩ : ∃ r, r = rowF 6 fun k => if k < j then unitS os k else 0 := ⟨_, rfl⟩
  obtain ⟨oc2, hoc2⟩ : ∃ r, r = outC 4 j N D := ⟨_, rfl⟩
  rw [← hlr, ← hoc2]
  obtain ⟨WH, hWH⟩ : ∃ r, r = wayH j D fun _ _ => 0 := ⟨_, rfl⟩
  have hWl : LenIs WH j := by unfold LenIs; rw [hWH]; exact wayH_len
  rw [← hWH]
  refine SGo_run hA ⟨[1, 2], [1000008, 1000038], [], []⟩ .nil .nil 200 fun T TD hT hTD => ?_
  cbv
  split <;> cbv
  · rename_i hk0
    have hk1 : j < N := by have hz := hlt.symm.trans hk0; simpa using hz
    clear hk0
    obtain ⟨⟨ou, od, ol, ol2⟩, hx⟩ : ∃ x, os[j]? = some x := ⟨_, List.getElem?_eq_getElem (hN ▸ hk1)⟩
    have hix : A.ix 4 4 ys i [I ou, I od, I ol, I ol2] := by subst hA; exact ix_map hys hi hx rfl
    refine Exists.intro _ (And.intro hix ?_); cbv
    rw [hT]
    refine AGo_newAt 3 rfl rfl ?_
    have hix1 : A.ixm 1 1 0 6 i j := by subst hA; exact ixm1 hi (by omega)
    have hix2 : A.ixm 1 1 0 N i j := by subst hA; exact ixm1 hi hk1
    have hup : A.upd 1 lr j [I ou] (rowF 6 fun k => if k < j + 1 then unitS os k else 0) := by
      subst hA; rw [hlr]
      have := updS_row (D := 6) (d := j) (f := fun k => if k < j then unitS os k else 0) (v := ou) (by omega)
      rw [show rowF 6 (updF (fun k => if k < j then unitS os k else 0) j ou) = rowF 6 fun k => if k < j + 1 then unitS os k else 0 from rowF_congr fun k _ => by
        unfold updF; dsimp only
        by_cases h1 : k = j
        · subst h1; rw [if_pos rfl, if_pos (by omega), unitS_get hx]
        · rw [if_neg h1]
          by_cases h2 : k < j
          · rw [if_pos h2, if_pos (by omega)]
          · rw [if_neg h2, if_neg (by omega)]] at this
      exact this
    obtain ⟨lr2, hlr2⟩ : ∃ r, r = rowF 6 fun k => if k < j + 1 then unitS os k else 0 := ⟨_, rfl⟩
    rw [← hlr2] at hup
    refine SGo_run hA ⟨[1, 2], [1000038], [], []⟩ .nil .nil 200 fun T TD hT hTD => ?_
    cbv
    refine And.intro (hsg _) (Exists.intro j (And.intro hix1 ?_)); cbv
    refine And.intro (hsg _) (Exists.intro lr2 (And.intro hup ?_)); cbv
    rw [hT]
    have hmk2 : mkS 1 8 [.int .i64 0] (A.vlen xs) (A.vlen xs) (rowF D fun _ => 0) D := by
      rw [hv1]; exact ⟨by unfold iLen; omega, Int.le_refl _, by unfold iLen; omega, by unfold iLen; omega, rfl, by unfold iLen; omega, by rw [← zeros_row]; rfl⟩
    obtain ⟨z, hz⟩ : ∃ z, z = rowF D fun _ => 0 := ⟨_, rfl⟩
    rw [← hz] at hmk2
    obtain ⟨WH2, hWH2⟩ : ∃ r, r = WH ++ [.own 0 z] := ⟨_, rfl⟩
    refine AGo_mkslN (q := 4 + j) rfl rfl rfl hmk2 (by unfold LenIs at hWl; simp [hWl]; omega) (by simp only [List.cons_append]; rw [← hWH2]) ?_
    have hup2 : A.upd 1 oc2 j [.ms 1 (4 + j) 0 0 D] (outC 4 (j + 1) N D) := by subst hA; rw [hoc2]; exact outC_set hk1
    obtain ⟨oc3, hoc3⟩ : ∃ r, r = outC 4 (j + 1) N D := ⟨_, rfl⟩
    rw [← hoc3] at hup2
    obtain ⟨rid, hrid⟩ : ∃ r, r = 4 + j := ⟨_, rfl⟩
    rw [← hrid] at hup2 ⊢
    refine AGo_weakO 3 rfl ?_
    refine SGo_run hA ⟨[1, 2], [], [], []⟩ .nil .nil 200 fun T TD hT hTD => ?_
    cbv
    refine And.intro (hsg _) (Exists.intro j (And.intro hix2 ?_)); cbv
    refine And.intro (hsg _) (Exists.intro oc3 (And.intro hup2 ?_)); cbv
    refine hB () _ _ hk1 trivial ⟨congrArg I (hadd _ hk1 (by omega)), trivial⟩ ⟨rfl, rfl, rfl, rfl, rfl, rfl, trivial⟩ (.inl ?_)
    rw [hlr2, hoc3, hWH2, hWH, hz, wayH_succ]
  · rename_i hk0
    have hk1 : ¬ j < N := by have hz := hlt.symm.trans hk0; simpa using hz
    clear hk0
    have hjn : j = N := by omega
    have hlr6 : lr = rowF 6 (unitS os) := by
      rw [hlr, hjn]
      exact rowF_congr fun k _ => by
        by_cases h2 : k < N
        · rw [if_pos h2]
        · rw [if_neg h2, unitS_none (by omega)]
    have hoc6 : oc2 = outC 4 N N D := by rw [hoc2, hjn]
    subst hjn
    clear hB hlt hadd
    rw [hT]
    obtain ⟨R, hR⟩ : ∃ R, R = roomW ⟨u, v, ws⟩ := ⟨_, rfl⟩
    have hRb : ∀ d, 0 ≤ R d ∧ R d ≤ 1000000 := by rw [hR]; exact roomW_bnd hw
    refine AGo_upE [1, 2, 5, 6, 44] D (fun q (s : (Nat → Int) × (Nat → Nat → Int)) => s = daysG R plan (unitS os) q ∧ ∀ k, 0 ≤ s.1 k ∧ s.1 k ≤ 1000000) (fun q _ i => [(45, I i)])
      (fun q s => .own 0 [I a, I b, I c, I d, .vs 2 xs, .vs 4 ys, I u, I v, .vs 1 zs] :: .own 0 (rowF 6 s.1) :: .own 0 (outC 4 j j D) :: .own j [] :: wayH j D s.2) (unitS os, fun _ _ => 0) ⟨rfl, unitS_bnd hu⟩ ⟨rfl, trivial⟩ (.inl (by rw [hlr6, hoc6, hWH])) fun q s i hi hq hP Bk hB => ?_
    have hlt : A.lt i (A.vlen xs) = decide (q < D) := by subst hA; exact lt_len (by simp [hxs, hDD]) hi
    have hadd : ∀ N, q < N → N ≤ 9223372036854775807 → A.add .i64 i 1 = iLen (q + 1) := fun N hj hN => by subst hA; exact add_one hi hj hN
    obtain ⟨sl, sw⟩ := s
    obtain ⟨hP1, hP2⟩ := hP
    obtain ⟨lf, hlf⟩ : ∃ r, r = rowF 6 sl := ⟨_, rfl⟩
    obtain ⟨ot, hot⟩ : ∃ r, r = outC 4 j j D := ⟨_, rfl⟩
    obtain ⟨W2, hW2⟩ : ∃ r, r = wayH j D sw := ⟨_, rfl⟩
    dsimp only
    rw [← hlf, ← hot, ← hW2]
    refine SGo_run hA ⟨[1, 2], [1000068], (41, eRoom) :: [], []⟩ (.cons eRoom_ok .nil) .nil 200 fun T TD hT hTD => ?_
    cbv
    split <;> cbv
    · rename_i hk0
      have hk1 : q < D := by have hz := hlt.symm.trans hk0; simpa using hz
      clear hk0
      refine Exists.intro ws (Exists.intro q (And.intro hzs (And.intro hi (And.intro (by omega) (And.intro (by omega) ?_))))); cbv
      intro rm hrm
      rw [← hR] at hrm
      cbv
      rw [hT]
      have hrm0 := hRb q
      refine AGo_upE [1, 2, 5, 6, 9, 44, 45, 51, 52] plan.length (fun y (t : Int × (Nat → Int) × (Nat → Nat → Int)) => t = (plan.take y).foldl (give q) (R q, sl, sw) ∧ GiveOk t) (fun y t i => [(10, I t.1), (53, I i)])
        (fun y t => .own 0 [I a, I b, I c, I d, .vs 2 xs, .vs 4 ys, I u, I v, .vs 1 zs] :: .own 0 (rowF 6 t.2.1) :: .own 0 (outC 4 j j D) :: .own j [] :: wayH j D t.2.2) (R q, sl, sw) ⟨rfl, ⟨hRb q, hP2⟩⟩ ⟨congrArg I hrm, rfl, trivial⟩ (.inl (by rw [hlf, hot, hW2])) fun y t i2 hi2 hy hPt Bk2 hB2 => ?_
      have hlt2 : A.lt i2 (A.vlen ps) = decide (y < plan.length) := by subst hA; exact lt_len (by simp [hps]) hi2
      have hadd2 : ∀ N, y < N → N ≤ 9223372036854775807 → A.add .i64 i2 1 = iLen (y + 1) := fun N hj hN => by subst hA; exact add_one hi2 hj hN
      obtain ⟨tr, tl, tw⟩ := t
      obtain ⟨hPt1, hPt2⟩ := hPt
      dsimp only
      obtain ⟨lg, hlg⟩ : ∃ r, r = rowF 6 tl := ⟨_, rfl⟩
      obtain ⟨W3, hW3⟩ : ∃ r, r = wayH j D tw := ⟨_, rfl⟩
      rw [← hlg, ← hW3, ← hot]
      refine SGo_run hA ⟨[1, 2], [1000068], [], []⟩ .nil .nil 200 fun T TD hT hTD => ?_
      cbv
      split <;> cbv
      · rename_i hk0
        have hk2 : y < plan.length := by have hz := hlt2.symm.trans hk0; simpa using hz
        clear hk0
        obtain ⟨k, hx⟩ : ∃ x, plan[y]? = some x := ⟨_, List.getElem?_eq_getElem hk2⟩
        have hkn := hp k (List.mem_of_getElem? hx)
        have hix : A.ix 1 1 ps i2 [I (iLen k)] := by subst hA; exact ix_map hps hi2 hx rfl
        obtain ⟨ik, hik⟩ : ∃ i, i = iLen k := ⟨_, rfl⟩
        rw [← hik] at hix
        have hx1 : A.ixm 1 1 0 6 ik k := by subst hA; exact ixm1 hik (by omega)
        have hx2 : A.ixm 1 1 0 j ik k := by subst hA; exact ixm1 hik (by omega)
        have hg1 : A.get none lg k (I (tl k)) := by subst hA; rw [hlg]; exact getS_row (by omega)
        obtain ⟨rid, hrid⟩ : ∃ r, r = 4 + k := ⟨_, rfl⟩
        have hg2 : A.get none ot k (.ms 1 rid 0 0 D) := by subst hA; rw [hot, hrid]; exact outC_get (by omega)
        refine Exists.intro _ (And.intro hix ?_); cbv
        refine And.intro (hsg _) (Exists.intro k (And.intro hx1 ?_)); cbv
        refine And.intro (hsg _) (Exists.intro _ (And.intro hg1 ?_)); cbv
        refine And.intro (hsg _) (Exists.intro k (And.intro hx2 ?_)); cbv
        refine And.intro (hsg _) (Exists.intro _ (And.intro hg2 ?_)); cbv
        rw [hT]
        have hjq : ixmS 1 1 0 D i q := ixm1 hi hk1
        have hXr : ∀ (o0 o1 o2 o3 : AObj), (o0 :: o1 :: o2 :: o3 :: W3)[rid]? = some (.own 0 (rowF D (tw k))) := fun o0 o1 o2 o3 => by
          rw [hrid, hW3, Nat.add_comm]; exact wayH_get hkn
        refine AGo_iaN rfl rfl rfl (hXr _ _ _ _) hjq ?_
        obtain ⟨mn, hmn⟩ : ∃ r, r = A.min tr (tl k) := ⟨_, rfl⟩
        have hmn2 : mn = min tr (tl k) := by rw [hmn]; subst hA; exact iMin_eq _ _
        obtain ⟨W4, hW4⟩ : ∃ r, r = wayH j D (updF tw k (updF (tw k) q mn)) := ⟨_, rfl⟩
        have hXs : ∀ (o0 o1 o2 o3 : AObj), (o0 :: o1 :: o2 :: o3 :: W3).set rid (.own 0 (rowF D (updF (tw k) q mn))) = o0 :: o1 :: o2 :: o3 :: W4 := fun o0 o1 o2 o3 => by
          rw [hrid, hW3, hW4, Nat.add_comm, ← wayH_set]; rfl
        refine AGo_stN (xs := [I mn]) rfl rfl (by rw [hmn]; rfl) (hXr _ _ _ _) (updS_row (v := mn) hk1) (hXs _ _ _ _) ?_
        have hg3 : A.upd 1 lg k [I (A.sub .i64 (tl k) (A.min tr (tl k)))] (rowF 6 (updF tl k (A.sub .i64 (tl k) (A.min tr (tl k))))) := by subst hA; rw [hlg]; exact updS_row (by omega)
        obtain ⟨lh, hlh⟩ : ∃ r, r = rowF 6 (updF tl k (A.sub .i64 (tl k) (A.min tr (tl k)))) := ⟨_, rfl⟩
        rw [← hlh] at hg3
        refine SGo_run hA ⟨[1, 2], [], [], []⟩ .nil .nil 200 fun T TD hT hTD => ?_
        cbv
        refine And.intro (hsg _) (Exists.intro k (And.intro hx1 ?_)); cbv
        refine And.intro (hsg _) (Exists.intro _ (And.intro hg1 ?_)); cbv
        refine And.intro (hsg _) (Exists.intro k (And.intro hx1 ?_)); cbv
        refine And.intro (hsg _) (Exists.intro lh (And.intro hg3 ?_)); cbv
        have hs1 : A.sub .i64 (tl k) (A.min tr (tl k)) = tl k - mn := by
          rw [← hmn]; have := hPt2.2 k; have := hPt2.1; dsimp only at *; subst hA; exact iSub_id (by omega) (by omega)
        have hs2 : A.sub .i64 tr (A.min tr (tl k)) = tr - mn := by
          rw [← hmn]; have := hPt2.2 k; have := hPt2.1; dsimp only at *; subst hA; exact iSub_id (by omega) (by omega)
        refine hB2 (tr - mn, updF tl k (tl k - mn), updF tw k (updF (tw k) q mn)) _ _ hk2 ⟨?_, ?_⟩ ⟨congrArg I hs2, congrArg I (hadd2 _ hk2 (by omega)), trivial⟩ ⟨rfl, rfl, rfl, rfl, rfl, rfl, rfl, rfl, rfl, trivial⟩ (.inl (by rw [hlh, hs1, hot, hW4]))
        · rw [foldl_take_succF hx, ← hPt1, hmn2]; rfl
        · rw [hmn2]; exact hPt2.give q k
      · rename_i hk0
        have hk2 : ¬ y < plan.length := by have hz := hlt2.symm.trans hk0; simpa using hz
        clear hk0
        refine hB (tl, tw) _ _ hk1 ⟨?_, hPt2.2⟩ ⟨congrArg I (hadd _ hk1 (by omega)), trivial⟩ ⟨rfl, rfl, rfl, rfl, rfl, trivial⟩ (.inl (by rw [hlg, hot, hW3]))
        rw [daysG_succ, ← hP1, dayG]
        rw [List.take_of_length_le (by omega)] at hPt1
        rw [← hPt1]
    · rename_i hk0
      have hk1 : ¬ q < D := by have hz := hlt.symm.trans hk0; simpa using hz
      clear hk0
      rw [hF]
      have hend := Frees.fam (Kk := Kk) (b := 4) (n := j) (D := D) (q := 2) (g0 := 0) (w := sw) [.own 0 [I a, I b, I c, I d, .vs 2 xs, .vs 4 ys, I u, I v, .vs 1 zs], .own 0 lf, .own 0 ot, .own j []] rfl (by omega) (fun i X hX hi => by
        match i, hX, hi with
        | 0, hX, _ => cases hX; rfl
        | 1, hX, _ => cases hX; rw [hlf]; exact nidL_rowF
        | 2, _, hi => exact absurd rfl hi
        | 3, hX, _ => cases hX; rfl) (by rw [hot]; rfl) (by
        have : sw = spreadG R plan (unitS os) D := by rw [spreadG, ← show q = D by omega, ← hP1]
        rw [this, hR]; exact h)
      rw [← hW2] at hend
      exact hend
def eSpreadF : List AV → Option ((AV → Prop) → Prop)
  | [.agg [.lit (.int .i64 _), .lit (.int .i64 _), .lit (.int .i64 _), .lit (.int .i64 _), .vs 2 xs, .vs 4 ys, .lit (.int .i64 u), .lit (.int .i64 v), .vs 1 zs], .vs 1 ps] =>
    some fun K => ∃ (cs : List (Int × Int)) (os : List Ord) (ws : List Int) (plan : List Nat), xs = cs.map sp ∧ ys = os.map orV ∧ zs = ws.map I ∧ (ps = plan.map fun k => I (iLen k)) ∧ ws.length = cs.length ∧ cs.length ≤ 200 ∧ os.length ≤ 6 ∧ (∀ x ∈ ws, 0 ≤ x ∧ x ≤ 1000000) ∧ (∀ o ∈ os, 0 ≤ o.u ∧ o.u ≤ 1000000) ∧ (∀ k ∈ plan, k < os.length) ∧ plan.length ≤ 1000 ∧
      ∀ zs2 : List AV, (zs2 = (rowsF os.length cs.length (spreadG (roomW ⟨u, v, ws⟩) plan (unitS os) cs.length)).map fun r => .vs 1 (r.map I)) → K (.vs 1 zs2)
  | _ => none
theorem eSpreadF_ok : ∀ args pt, eSpreadF args = some pt → ∀ (H : AHeap) (Kk : AV → AHeap → Prop), pt (fun r => Kk r H) → ACalls Try.prog 27 args H Kk := by
  intro args pt h H Kk hk
  unfold eSpreadF at h
  split at h
  · cases h
    obtain ⟨cs, os, ws, plan, rfl, rfl, rfl, rfl, h1, h2, h3, h4, h5, h6, h7, h8⟩ := hk
    exact p27 _ _ _ _ _ _ _ _ _ _ h1 h2 h3 h4 h5 h6 h7 H (by rw [wayV_rows]; exact h8 _ rfl)
  · cases h
end Go.Sas
namespace Go.Sas
open Go.Proofs
set_option maxRecDepth 100000
theorem p29 (a b c d u v : Int) (cs : List (Int × Int)) (os : List Ord) (ws : List AV) (rows : List (List Int)) (hD2 : cs.length ≤ 200) (hn : os.length ≤ 6) (ho : OrdsV os) (hr : RowsV os.length cs.length rows) (H : AHeap) {Kk : AV → AHeap → Prop}
    (h : Kk (.tup [.vs 4 ((tellS os rows).map dlV), I (penS os rows)]) H) :
    ACalls Try.prog 29 [seaV a b c d (.vs 2 (cs.map sp)) (.vs 4 (os.map orV)) u v (.vs 1 ws), .vs 1 (rows.map fun r => .vs 1 (r.map I))] H Kk := by
  refine (fun q => pureF (by rfl) (by rfl) q H h) ?_
  clear h
  intro Kk h
  obtain ⟨xs, hxs⟩ : ∃ xs, xs = cs.map sp := ⟨_, rfl⟩
  obtain ⟨ys, hys⟩ : ∃ ys, ys = os.map orV := ⟨_, rfl⟩
  obtain ⟨zs, hzs⟩ : ∃ zs : List AV, zs = rows.map fun r => .vs 1 (r.map I) := ⟨_, rfl⟩
  rw [← hxs, ← hys, ← hzs]
  obtain ⟨N, hN⟩ : ∃ N, N = os.length := ⟨_, rfl⟩
  obtain ⟨D, hDD⟩ : ∃ D, D = cs.length := ⟨_, rfl⟩
  rw [← hDD] at hD2 hr
  rw [← hN] at hn hr
  obtain ⟨hr1, hr2⟩ := hr
  have hzl : (os.zip rows).length = N := by rw [List.length_zip, hr1, ← hN, Nat.min_self]
  obtain ⟨A, hA⟩ : ∃ A, A = std := ⟨_, rfl⟩
  obtain ⟨F, hF⟩ : ∃ F, F = Frees 0 Kk := ⟨_, rfl⟩
  rw [← hF]
  have hv1 : A.vlen xs = iLen D := by subst hA; simp [std, hxs, hDD]
  have hv2 : A.vlen ys = iLen N := by subst hA; simp [std, hys, hN]
  have hsg : ∀ g, A.sg g g := by subst hA; exact fun _ => rfl
  refine go29 rfl (SGo_run hA ⟨[1], [], [], []⟩ .nil .nil 200 fun T TD hT hTD => ?_)
  cbv
  rw [hT]
  refine AGo_nilms 4 4 rfl ?_
  refine AGo_upE [1, 2, 15, 16] N (fun j (s : List Dlv × Int) => s.1 = ((os.zip rows).take j).map (fun p => tellO p.1 p.2) ∧ s.2 = sumI (((os.zip rows).take j).map fun p => fineO p.1 (tellO p.1 p.2)) ∧ -400000000000000 * iLen j ≤ s.2 ∧ s.2 ≤ 400000000000000 * iLen j)
    (fun j s i => [(4, .ms 4 1 j 0 j), (5, I s.2), (17, I i)])
    (fun j s => [.own 0 [I a, I b, I c, I d, .vs 2 xs, .vs 4 ys, I u, I v, .vs 1 ws], .own j (s.1.flatMap dlC)]) ([], 0) ⟨rfl, rfl, by simp [iLen], by simp [iLen]⟩ ⟨rfl, rfl, rfl, trivial⟩ (.inl rfl) fun j s i hi hj hP Bk hB => ?_
  have hlt : A.lt i (A.vlen ys) = decide (j < N) := by subst hA; exact lt_len (by simp [hys, hN]) hi
  have hadd : ∀ N, j < N → N ≤ 9223372036854775807 → A.add .i64 i 1 = iLen (j + 1) := fun N hj hN => by subst hA; exact add_one hi hj hN
  obtain ⟨dl, pen⟩ := s
  obtain ⟨hP1, hP2, hP3, hP4⟩ := hP
  dsimp only at hP1 hP2 hP3 hP4 ⊢
  have hdl : dl.length = j := by rw [hP1]; simp [hzl]; omega
  obtain ⟨dc, hdc⟩ : ∃ c, c = dl.flatMap dlC := ⟨_, rfl⟩
  rw [← hdc]
  refine SGo_run hA ⟨[1], [], (44, eTotal) :: [], []⟩ (.cons (eTotal_ok p44) .nil) .nil 200 fun T TD hT hTD => ?_
  cbv
  split <;> cbv
  · rename_i hk0
    have hk1 : j < N := by have hz := hlt.symm.trans hk0; simpa using hz
    clear hk0
    obtain ⟨⟨ou, od, ol, ol2⟩, hx⟩ : ∃ x, os[j]? = some x := ⟨_, List.getElem?_eq_getElem (hN ▸ hk1)⟩
    obtain ⟨row, hy⟩ : ∃ x, rows[j]? = some x := ⟨_, List.getElem?_eq_getElem (by omega)⟩
    have hix : A.ix 4 4 ys i [I ou, I od, I ol, I ol2] := by subst hA; exact ix_map hys hi hx rfl
    have hiy : A.ix 1 1 zs i [.vs 1 (row.map I)] := by subst hA; exact ix_map hzs hi hy rfl
    obtain ⟨hb1, hb2, hb3, hb4⟩ := ho _ (List.mem_of_getElem? hx)
    obtain ⟨hrl, hrb⟩ := hr2 _ (List.mem_of_getElem? hy)
    dsimp only at hb1 hb2 hb3 hb4
    obtain ⟨rs, hrs⟩ : ∃ r, r = row.map I := ⟨_, rfl⟩
    rw [← hrs] at hiy
    obtain ⟨rt, hrt⟩ : ∃ r, r = (row.take (od.toNat + 1)).map I := ⟨_, rfl⟩
    have hsl : A.slv 1 1 rs none (some (A.min (A.add .i64 od 1) (A.vlen xs))) rt := by
      rw [hv1]; subst hA
      refine ⟨rfl, 0, (min (od + 1) (D : Int)).toNat, rfl, ?_, Nat.zero_le _, by rw [hrs]; simp [hrl]; omega, ?_⟩
      · simp only [std, bdI, iMin_eq]; rw [iAdd_id (by omega) (by omega)]; unfold iLen; rw [if_pos (by omega)]
      · rw [hrt, hrs]; simp only [List.drop_zero, Nat.sub_zero, ← List.map_take]
        congr 1
        by_cases h1 : od + 1 ≤ D
        · rw [show (min (od + 1) (D : Int)).toNat = od.toNat + 1 by omega]
        · rw [List.take_of_length_le (by omega), List.take_of_length_le (by omega)]
    have hbt : ∀ x ∈ row.take (od.toNat + 1), 0 ≤ x ∧ x ≤ 1000000000 := fun x hx => by have := hrb x (List.mem_of_mem_take hx); omega
    have hba : ∀ x ∈ row, 0 ≤ x ∧ x ≤ 1000000000 := fun x hx => by have := hrb x hx; omega
    have hs1 := sumI_bnd (lo := 0) (hi := 1000000) (l := row) hrb
    have hs2 := sumI_bnd (lo := 0) (hi := 1000000) (l := row.take (od.toNat + 1)) fun x hx => hrb x (List.mem_of_mem_take hx)
    have hs3 := sumI_bnd (lo := 0) (hi := 1000000) (l := row.drop (od.toNat + 1)) fun x hx => hrb x (List.mem_of_mem_drop hx)
    have hs4 : sumI row = sumI (row.take (od.toNat + 1)) + sumI (row.drop (od.toNat + 1)) := by rw [← sumI_append, List.take_append_drop]
    have hlt1 : (row.take (od.toNat + 1)).length ≤ 1000 := by simp; omega
    have hlt2 : row.length ≤ 1000 := by omega
    have hson : 0 ≤ sumI (row.take (od.toNat + 1)) ∧ sumI (row.take (od.toNat + 1)) ≤ sumI row ∧ sumI row ≤ 200000000 := by omega
    clear hs1 hs2 hs3 hs4
    refine Exists.intro _ (And.intro hix ?_); cbv
    refine Exists.intro _ (And.intro hiy ?_); cbv
    refine Exists.intro rt (And.intro hsl ?_); cbv
    refine Exists.intro _ (And.intro hrt (And.intro hlt1 (And.intro hbt ?_))); cbv
    intro q1 hq1; cbv
    refine Exists.intro _ (And.intro hiy ?_); cbv
    refine Exists.intro _ (And.intro hrs (And.intro hlt2 (And.intro hba ?_))); cbv
    intro q2 hq2; cbv
    have hq12 : 0 ≤ q1 ∧ q1 ≤ q2 ∧ q2 ≤ 200000000 := by rw [hq1, hq2]; exact hson
    have hl1 : A.sub .i64 q2 q1 = q2 - q1 := by subst hA; exact iSub_id (by omega) (by omega)
    have hl2 : A.sub .i64 ou q2 = ou - q2 := by subst hA; exact iSub_id (by omega) (by omega)
    have hm1 := mul_bnd (a := q2 - q1) (b := ol) (A := 200000000) (B := 1000000) (by omega) (by omega) hb3.1 hb3.2
    have hm2 := mul_bnd (a := ou - q2) (b := ol2) (A := 200000000) (B := 1000000) (by omega) (by omega) hb4.1 hb4.2
    have hpn : A.add .i64 pen (A.add .i64 (A.mul .i64 (A.sub .i64 q2 q1) ol) (A.mul .i64 (A.sub .i64 ou q2) ol2)) = pen + ((q2 - q1) * ol + (ou - q2) * ol2) := by
      rw [hl1, hl2]
      unfold iLen at hP3 hP4
      subst hA
      simp only [std]
      rw [iMul_id (by omega) (by omega), iMul_id (by omega) (by omega), iAdd_id (a := (q2 - q1) * ol) (by omega) (by omega), iAdd_id (by omega) (by omega)]
    have hfi : fineO ⟨ou, od, ol, ol2⟩ (tellO ⟨ou, od, ol, ol2⟩ row) = (q2 - q1) * ol + (ou - q2) * ol2 := by rw [hq1, hq2]; rfl
    have hzx : (os.zip rows)[j]? = some (⟨ou, od, ol, ol2⟩, row) := by rw [List.getElem?_zip_eq_some]; exact ⟨hx, hy⟩
    have htk : (os.zip rows).take (j + 1) = (os.zip rows).take j ++ [(⟨ou, od, ol, ol2⟩, row)] := by
      obtain ⟨h, he⟩ := List.getElem?_eq_some_iff.1 hzx
      rw [List.take_succ_eq_append_getElem h, he]
    have hend : ∀ (dy : Int) (dc2 : List AV) (e' : Env), dy = (if ou - q2 = 0 then lastP 0 row (-1) else -1) → dc2 = dc ++ [I q1, I (A.sub .i64 q2 q1), I (A.sub .i64 ou q2), I dy] →
        Fits e' [(4, .ms 4 1 (j + 1) 0 (j + 1)), (5, I (A.add .i64 pen (A.add .i64 (A.mul .i64 (A.sub .i64 q2 q1) ol) (A.mul .i64 (A.sub .i64 ou q2) ol2)))), (17, I (A.add .i64 i 1))] →
        Fits e' [(1, .vs 1 zs), (2, .mp 0 0 0), (15, .vs 4 ys), (16, I (A.vlen ys))] → ∀ H', (∃ T, H' = [.own 0 [I a, I b, I c, I d, .vs 2 xs, .vs 4 ys, I u, I v, .vs 1 ws], .own (j + 1) dc2] ++ T) → Bk e' H' := by
      intro dy dc2 e' hdy hdc2 hf1 hf2 H' hH
      rw [hpn, hadd _ hk1 (by omega)] at hf1
      have hd1 : dl ++ [⟨q1, q2 - q1, ou - q2, dy⟩] = ((os.zip rows).take (j + 1)).map fun p => tellO p.1 p.2 := by
        rw [htk, List.map_append, ← hP1]
        simp only [List.map_cons, List.map_nil, tellO, ← hq1, ← hq2, ← hdy]
      refine hB (dl ++ [⟨q1, q2 - q1, ou - q2, dy⟩], pen + ((q2 - q1) * ol + (ou - q2) * ol2)) e' H' hk1 ⟨hd1, ?_, ?_, ?_⟩ hf1 hf2 (.inr ⟨?_, Nat.zero_le _, ?_, ?_⟩)
      · rw [htk, List.map_append, sumI_append, ← hP2]; simp only [List.map_cons, List.map_nil, sumI]; rw [hfi]; omega
      · unfold iLen at hP3 ⊢; dsimp only; omega
      · unfold iLen at hP4 ⊢; dsimp only; omega
      · obtain ⟨T, rfl⟩ := hH
        exact ⟨T, by rw [hdc2, hdc, hl1, hl2]; simp [List.flatMap_append]⟩
      · simp [ltG, keepS, look, gset, AV.lt, AV.ltL]
      · exact ⟨by simp [AObj.lt, AV.ltL, AV.lt], AV.ltL_nid (nidL_flat (fun _ => rfl) _), trivial⟩
    split <;> cbv
    · rename_i hz
      have hz0 : ou - q2 = 0 := by have hz : A.eq (A.sub .i64 ou q2) 0 = true := hz; rw [hl2] at hz; subst hA; simpa [std, iEq] using hz
      refine Exists.intro _ (And.intro hiy ?_); cbv
      rw [hT]
      refine AGo_upE [1, 2, 4, 5, 7, 8, 9, 10, 15, 16, 17, 56, 57] row.length (fun y (dy : Int) => lastP (iLen y) (row.drop y) dy = lastP 0 row (-1)) (fun y dy i => [(58, I i)])
        (fun y dy => [.own 0 [I a, I b, I c, I d, .vs 2 xs, .vs 4 ys, I u, I v, .vs 1 ws], .own j dc, .own 0 [I ou, I od, I ol, I ol2], .own 0 [I q1, I (A.sub .i64 q2 q1), I (A.sub .i64 ou q2), I dy]]) (-1) rfl ⟨rfl, trivial⟩ (.inl rfl) fun y dy i2 hi2 hy hPt Bk2 hB2 => ?_
      have hlt2 : A.lt i2 (A.vlen rs) = decide (y < row.length) := by subst hA; exact lt_len (by simp [hrs]) hi2
      have hadd2 : ∀ N, y < N → N ≤ 9223372036854775807 → A.add .i64 i2 1 = iLen (y + 1) := fun N hj hN => by subst hA; exact add_one hi2 hj hN
      refine SGo_run hA ⟨[1], [], [], []⟩ .nil .nil 200 fun T TD hT hTD => ?_
      cbv
      split <;> cbv
      · rename_i hk0
        have hk2 : y < row.length := by have hz := hlt2.symm.trans hk0; simpa using hz
        clear hk0
        obtain ⟨x, hx2⟩ : ∃ x, row[y]? = some x := ⟨_, List.getElem?_eq_getElem hk2⟩
        have hix2 : A.ix 1 1 rs i2 [I x] := by subst hA; exact ix_map hrs hi2 hx2 rfl
        have hgt : A.lt 0 x = decide (0 < x) := by subst hA; rfl
        rw [drop_cons hx2] at hPt
        simp only [lastP] at hPt
        have hi3 : iLen y + 1 = iLen (y + 1) := rfl
        refine Exists.intro _ (And.intro hix2 ?_); cbv
        split <;> cbv
        · rename_i hg
          have hg1 : 0 < x := by have hg := hgt.symm.trans hg; simpa using hg
          rw [if_pos hg1] at hPt
          refine hB2 (iLen y) _ _ hk2 hPt ⟨congrArg I (hadd2 _ hk2 (by omega)), trivial⟩ ⟨rfl, rfl, rfl, rfl, rfl, rfl, rfl, rfl, rfl, rfl, rfl, rfl, rfl, trivial⟩ (.inl (by rw [hi2]))
        · rename_i hg
          have hg1 : ¬ 0 < x := by have hg := hgt.symm.trans hg; simpa using hg
          rw [if_neg hg1] at hPt
          refine hB2 dy _ _ hk2 hPt ⟨congrArg I (hadd2 _ hk2 (by omega)), trivial⟩ ⟨rfl, rfl, rfl, rfl, rfl, rfl, rfl, rfl, rfl, rfl, rfl, rfl, rfl, trivial⟩ (.inl rfl)
      · rename_i hk0
        have hk2 : ¬ y < row.length := by have hz := hlt2.symm.trans hk0; simpa using hz
        clear hk0
        rw [List.drop_eq_nil_of_le (by omega)] at hPt
        simp only [lastP] at hPt
        refine And.intro (hsg _) (Exists.intro (dc ++ [I q1, I (A.sub .i64 q2 q1), I (A.sub .i64 ou q2), I dy]) (Exists.intro (j + 1) (And.intro ?_ (And.intro rfl ?_))))
        · subst hA; exact app_one (by rw [hdc, len_flat (k := 4) (fun _ => rfl), hdl]) rfl (by omega)
        generalize hdc2 : dc ++ _ = dc2
        cbv
        refine hend dy dc2 _ ?_ hdc2.symm ⟨rfl, rfl, rfl, trivial⟩ ⟨rfl, rfl, rfl, rfl, trivial⟩ _ ⟨_, rfl⟩
        rw [if_pos hz0]; exact hPt
    · rename_i hz
      have hz0 : ¬ ou - q2 = 0 := by have hz : A.eq (A.sub .i64 ou q2) 0 = false := hz; rw [hl2] at hz; subst hA; simpa [std, iEq] using hz
      refine And.intro (hsg _) (Exists.intro (dc ++ [I q1, I (A.sub .i64 q2 q1), I (A.sub .i64 ou q2), I (-1)]) (Exists.intro (j + 1) (And.intro ?_ (And.intro rfl ?_))))
      · subst hA; exact app_one (by rw [hdc, len_flat (k := 4) (fun _ => rfl), hdl]) rfl (by omega)
      generalize hdc2 : dc ++ _ = dc2
      cbv
      refine hend (-1) dc2 _ ?_ hdc2.symm ⟨rfl, rfl, rfl, trivial⟩ ⟨rfl, rfl, rfl, rfl, trivial⟩ _ ⟨_, rfl⟩
      rw [if_neg hz0]
  · rename_i hk0
    have hk1 : ¬ j < N := by have hz := hlt.symm.trans hk0; simpa using hz
    clear hk0
    rw [hF]
    have hzt : (os.zip rows).take j = os.zip rows := List.take_of_length_le (by omega)
    rw [hzt] at hP1 hP2
    refine Frees.frz 1 j 4 (dl.map dlV) rfl (by rw [hdc]; exact Elems_map (f := dlV) (g := dlC) (sz := 4) (fun _ => rfl) (fun _ => rfl) (fun _ => rfl) dl) (Frees.drop0 ?_ ?_)
    · have : AV.frz 1 j 4 (dl.map dlV) (.ms 4 1 j 0 j) = .vs 4 (dl.map dlV) := frz_self (by simp [hdl])
      simp only [aTup, AV.frz, AV.frzL] at this ⊢
      rw [this, hP1, hP2]; exact h
    · simp only [aTup, AV.frz, AV.frzL, AV.nid, AV.nidL, if_true]
      split <;> rfl
def eTellF : List AV → Option ((AV → Prop) → Prop)
  | [.agg [.lit (.int .i64 _), .lit (.int .i64 _), .lit (.int .i64 _), .lit (.int .i64 _), .vs 2 xs, .vs 4 ys, .lit (.int .i64 _), .lit (.int .i64 _), .vs 1 _], .vs 1 zs] =>
    some fun K => ∃ (cs : List (Int × Int)) (os : List Ord) (rows : List (List Int)), xs = cs.map sp ∧ ys = os.map orV ∧ (zs = rows.map fun r => .vs 1 (r.map I)) ∧ cs.length ≤ 200 ∧ os.length ≤ 6 ∧ OrdsV os ∧ RowsV os.length cs.length rows ∧
      ∀ ds q, ds = (tellS os rows).map dlV → q = penS os rows → K (.tup [.vs 4 ds, I q])
  | _ => none
theorem eTellF_ok : ∀ args pt, eTellF args = some pt → ∀ (H : AHeap) (Kk : AV → AHeap → Prop), pt (fun r => Kk r H) → ACalls Try.prog 29 args H Kk := by
  intro args pt h H Kk hk
  unfold eTellF at h
  split at h
  · cases h
    obtain ⟨cs, os, rows, rfl, rfl, rfl, h1, h2, h3, h4, h5⟩ := hk
    exact p29 _ _ _ _ _ _ _ _ _ _ h1 h2 h3 h4 H (h5 _ _ rfl rfl)
  · cases h
end Go.Sas
namespace Go.Sas
open Go.Proofs
set_option maxRecDepth 100000
end Go.Sas
namespace Go.Sas
open Go.Proofs
set_option maxRecDepth 100000
/-- what a plan costs in a winter -/
def costSF (os : List Ord) (D : Nat) (w : Win) (plan : List Nat) : Int := penS os (rowsF os.length D (spreadG (roomW w) plan (unitS os) D))
theorem OrdsV.u {os : List Ord} (h : OrdsV os) : ∀ o ∈ os, 0 ≤ o.u ∧ o.u ≤ 1000000 := fun o ho => (h o ho).1
end Go.Sas
namespace Go.Sas
open Go.Proofs
set_option maxRecDepth 100000
abbrev natI (k : Nat) : AV := I (iLen k)
/-- what is handed over is nobody's to write any more -/
theorem ACalls.frz {P : Program} {f : Nat} {args : List AV} {H : AHeap} {K : AV → AHeap → Prop} (id g sz : Nat) {cs : List AV} (xs0 : List AV) (hX : H[id]? = some (.own g cs)) (hE : Elems sz xs0 cs) (h : ACalls P f (AV.frzL id g sz xs0 args) (frzH id g sz xs0 (H.set id .gone)) K) : ACalls P f args H K := by
  refine ⟨h.1, fun st w vals hH hv => ?_⟩
  obtain ⟨st', g1, g2, g3⟩ := freezeAll hH hX hE
  have hr : ∀ {bs : List AV} {us : List Value}, RelL st bs us → RelL st' (AV.frzL id g sz xs0 bs) us := by
    intro bs
    induction bs with
    | nil => intro us hu; simp only [RelL] at hu; subst hu; exact RelL.nil
    | cons a bs ih => intro us hu; obtain ⟨u, us', rfl, h1, h2⟩ := hu.uncons; exact RelL.cons (g3 _ _ h1) (ih h2)
  refine (h.2 st' w vals g2 (hr hv)).mono fun x w' hx => ?_
  obtain ⟨v, r, H', st2, e1, e2, e3, e4, e5⟩ := hx
  exact ⟨v, r, H', st2, e1, g1.trans e2, e3, e4, e5⟩
theorem RetP.both {rs : List ARes} {m : Nat} {Kk : AV → AHeap → Prop} {e : Env} {H : AHeap} {vs : List AV} (h1 : aResL e H rs = some vs) (h : Kk (aTup vs) H) (h' : Kk (aTup vs) (H.take m)) : RetP rs m Kk e H := by
  unfold RetP
  rw [h1]
  dsimp only
  split
  · exact h'
  · exact h
end Go.Sas
namespace Go.Sas
open Go.Proofs
set_option maxRecDepth 100000
theorem RetP.take {rs : List ARes} {m : Nat} {Kk : AV → AHeap → Prop} {e : Env} {H : AHeap} {vs : List AV} (h1 : aResL e H rs = some vs) (hv : AV.ltB m (aTup vs) = true) (hl : ltHB m (H.take m) = true) (h' : Kk (aTup vs) (H.take m)) : RetP rs m Kk e H := by
  unfold RetP
  rw [h1]
  dsimp only
  rw [if_pos (by rw [hv, hl]; rfl)]
  exact h'
theorem ite_bothF {c p : Prop} {d : Decidable c} (h : p) : @ite _ c d p p := by split <;> exact h
end Go.Sas
namespace Go.Sas
open Go.Proofs
set_option maxRecDepth 100000
/-- what a round does: which plan is best so far, and what it costs -/
structure Rnd where
  σ : Type
  pa : σ → AV
  na : σ → AV
  stp : σ → List Nat → σ
  hp : ∀ s, (pa s).nid = true
  hn : ∀ s, (na s).nid = true
end Go.Sas
namespace Go.Sas
open Go.Proofs
set_option maxRecDepth 100000
theorem firstE_ok0 {α : Type} {f : α → Int} : ∀ {l : List α}, firstEF f l = 0 → ∀ x ∈ l, f x = 0
  | [], _, _, hx => by simp at hx
  | a :: l, h, x, hx => by
    simp only [firstEF] at h
    by_cases h1 : f a = 0
    · rw [if_pos h1] at h
      rcases List.mem_cons.1 hx with rfl | hx
      · exact h1
      · exact firstE_ok0 h x hx
    · rw [if_neg h1] at h; exact absurd h h1
structure FrtV (f : Frt) : Prop where
  c1 : 1 ≤ f.caps.length
  c2 : f.caps.length ≤ 200
  cb : ∀ x ∈ f.caps, 0 ≤ x.1 ∧ x.1 ≤ x.2 ∧ x.2 ≤ 1000000
  fi : 0 ≤ f.fi.1 ∧ f.fi.1 ≤ f.fi.2 ∧ f.fi.2 ≤ f.caps.length - 1
  la : 0 ≤ f.la.1 ∧ f.la.1 ≤ f.la.2 ∧ f.la.2 ≤ f.caps.length - 1
  o1 : 1 ≤ f.ords.length
  o2 : f.ords.length ≤ 6
  ob : ∀ o ∈ f.ords, (1 ≤ o.u ∧ o.u ≤ 1000000) ∧ (0 ≤ o.d ∧ o.d ≤ 200) ∧ (0 ≤ o.l ∧ o.l ≤ o.s ∧ o.s ≤ 1000000)
theorem faultF_ok {a b lo hi : Int} (h : faultF a b lo hi = 0) : lo ≤ a ∧ a ≤ b ∧ b ≤ hi := by
  unfold faultF at h
  split at h
  · omega
  · split at h <;> omega
theorem faultF_ok' {a b lo hi : Int} (h : lo ≤ a ∧ a ≤ b ∧ b ≤ hi) : faultF a b lo hi = 0 := by
  unfold faultF
  rw [if_neg (by omega), if_neg (by omega)]
theorem ordE_ok {o : Ord} (h : ordE o = 0) : (1 ≤ o.u ∧ o.u ≤ 1000000) ∧ (0 ≤ o.d ∧ o.d ≤ 200) ∧ (0 ≤ o.l ∧ o.l ≤ o.s ∧ o.s ≤ 1000000) := by
  unfold ordE at h
  split at h
  · omega
  · split at h <;> omega
theorem orElse_ok {a b : Int} (h : orElseF a b = 0) : a = 0 ∧ b = 0 := by
  unfold orElseF at h
  split at h <;> omega
theorem checkF_ok {f : Frt} (h : checkF f = 0) : FrtV f := by
  unfold checkF at h
  split at h
  · omega
  split at h
  · omega
  obtain ⟨h1, h2⟩ := orElse_ok h
  obtain ⟨h2, h3⟩ := orElse_ok h2
  obtain ⟨h3, h4⟩ := orElse_ok h3
  unfold orsF at h4
  split at h4
  · omega
  split at h4
  · omega
  exact ⟨by omega, by omega, fun x hx => faultF_ok (firstE_ok0 h1 x hx), faultF_ok h2, faultF_ok h3, by omega, by omega, fun o ho => ordE_ok (firstE_ok0 h4 o ho)⟩
theorem FrtV.ords {f : Frt} (h : FrtV f) : OrdsV f.ords := fun o ho => by
  obtain ⟨h1, h2, h3⟩ := h.ob o ho
  exact ⟨by omega, h2, by omega, by omega⟩
theorem FrtV.lo {f : Frt} (h : FrtV f) : ∀ x ∈ f.caps.map (·.1), 0 ≤ x ∧ x ≤ 1000000 := fun x hx => by
  obtain ⟨y, hy, rfl⟩ := List.mem_map.1 hx
  have := h.cb y hy; omega
theorem FrtV.hi {f : Frt} (h : FrtV f) : ∀ x ∈ f.caps.map (·.2), 0 ≤ x ∧ x ≤ 1000000 := fun x hx => by
  obtain ⟨y, hy, rfl⟩ := List.mem_map.1 hx
  have := h.cb y hy; omega
def eCheckFr : List AV → Option ((AV → Prop) → Prop)
  | [.agg [.lit (.int .i64 a), .lit (.int .i64 b), .lit (.int .i64 c), .lit (.int .i64 d), .vs 2 xs, .vs 4 ys]] =>
    some fun K => ∃ (cs : List (Int × Int)) (os : List Ord), xs = cs.map sp ∧ ys = os.map orV ∧ cs.length ≤ 9223372036854775807 ∧ os.length ≤ 9223372036854775807 ∧ ∀ q, q = checkF ⟨(a, b), (c, d), cs, os⟩ → K (I q)
  | _ => none
theorem eCheckFr_ok {f : Nat} (hf : ∀ (a b c d : Int) (cs : List (Int × Int)) (os : List Ord) (_ : cs.length ≤ 9223372036854775807) (_ : os.length ≤ 9223372036854775807) (H : AHeap) {Kk : AV → AHeap → Prop}, Kk (I (checkF ⟨(a, b), (c, d), cs, os⟩)) H → ACalls Try.prog f [frV a b c d (.vs 2 (cs.map sp)) (.vs 4 (os.map orV))] H Kk) :
    ∀ args pt, eCheckFr args = some pt → ∀ (H : AHeap) (Kk : AV → AHeap → Prop), pt (fun r => Kk r H) → ACalls Try.prog f args H Kk := by
  intro args pt h H Kk hk
  unfold eCheckFr at h
  split at h
  · cases h
    obtain ⟨cs, os, rfl, rfl, h1, h2, h3⟩ := hk
    exact hf _ _ _ _ _ _ h1 h2 H (h3 _ rfl)
  · cases h
end Go.Sas
namespace Go.Sas
open Go.Proofs
set_option maxRecDepth 100000
theorem d22 (a b : Int) (h0 : -1000000000 ≤ a ∧ a ≤ b ∧ b ≤ 1000000000) : Draws Try.prog 22 [I a, I b] (Spn a b) := by
  refine .of rfl (by rintro r ⟨n, m, rfl, _⟩; rfl) fun w Kk h => ?_
  obtain ⟨A, hA⟩ : ∃ A, A = std := ⟨_, rfl⟩
  refine go22 rfl (SGo_run hA ⟨[], [], [], ed2⟩ .nil ed2_ok 200 fun T TD hT hTD => ?_)
  clear hT hTD
  cbv
  refine Exists.intro () (And.intro (by omega) ?_)
  rintro w1 _ ⟨k, rfl, hk1, hk2⟩
  cbv
  refine Exists.intro () (And.intro (by omega) ?_)
  rintro w2 _ ⟨q, rfl, hq1, hq2⟩
  cbv
  have hmn : A.min b (A.add .i64 (A.add .i64 k 1) (A.quo .i64 (A.sub .i64 b a) 10)) = min b (k + 1 + (b - a) / 10) := by
    subst hA; simp only [std, iMin_eq]; simp (disch := omega) only [iAdd_id, iSub_id, iQuo_id]
  split <;> cbv
  · refine Exists.intro () (And.intro (by refine ⟨by omega, ?_⟩; show _ ≤ A.min b (A.add .i64 (A.add .i64 k 1) (A.quo .i64 (A.sub .i64 b a) 10)) ∧ A.min b (A.add .i64 (A.add .i64 k 1) (A.quo .i64 (A.sub .i64 b a) 10)) ≤ _; rw [hmn]; omega) ?_)
    rintro w3 _ ⟨t, rfl, ht1, ht2⟩
    cbv
    have ht2 : t ≤ A.min b (A.add .i64 (A.add .i64 k 1) (A.quo .i64 (A.sub .i64 b a) 10)) ∨ t = k := ht2
    rw [hmn] at ht2
    exact h _ _ ⟨_, _, rfl, by omega, by omega, by omega⟩
  split <;> cbv
  · refine Exists.intro () (And.intro (by omega) ?_)
    rintro w3 _ ⟨t, rfl, ht1, ht2⟩
    cbv
    exact h _ _ ⟨_, _, rfl, by omega, by omega, by omega⟩
  · exact h _ _ ⟨_, _, rfl, by omega, by omega, by omega⟩
theorem sSpan_ok : ∀ rest pre Q, sSpan rest = some (pre, Q) → pre () → Draws Try.prog 22 rest Q := by
  intro rest pre Q h hp
  unfold sSpan at h
  split at h
  · cases h; exact d22 _ _ hp
  · cases h
def ed3F : ETab := (22, eDraw sSpan) :: ed2
theorem ed3_okF : ETabOk Try.prog ed3F := .cons (eDraw_ok sSpan_ok) ed2_ok
end Go.Sas
namespace Go.Sas
open Go.Proofs
set_option maxRecDepth 100000
abbrev orC4 (o : Ord) : List AV := [I o.u, I o.d, I o.l, I o.s]
abbrev spC (x : Int × Int) : List AV := [I x.1, I x.2]
/-- an order of a freight of so many days -/
def OrdD (n : Int) (o : Ord) : Prop := 1 ≤ o.u ∧ o.u ≤ 20 ∧ 0 ≤ o.d ∧ o.d ≤ n ∧ 0 ≤ o.l ∧ o.l ≤ o.s ∧ o.s ≤ 30
theorem firstE_allF {α : Type} {f : α → Int} : ∀ {l : List α}, (∀ x ∈ l, f x = 0) → firstEF f l = 0
  | [], _ => rfl
  | x :: l, h => by simp only [firstEF]; rw [if_pos (h x (by simp))]; exact firstE_allF fun y hy => h y (by simp [hy])
theorem checkF_ok' {a b c d nv : Int} {cs : List (Int × Int)} {os : List Ord} {j N : Nat} (h1 : cs.length = j) (h2 : ∀ x ∈ cs, 0 ≤ x.1 ∧ x.1 ≤ x.2 ∧ x.2 ≤ 9) (h3 : 0 ≤ a ∧ a ≤ b ∧ b ≤ nv - 1) (h4 : 0 ≤ c ∧ c ≤ d ∧ d ≤ nv - 1)
    (h5 : ∀ o ∈ os, OrdD nv o) (h6 : 1 ≤ os.length) (h7 : os.length ≤ 6) (h8 : 1 ≤ nv ∧ nv ≤ 200) (h9 : nv = iLen N) (h10 : j = N := by omega) : checkF ⟨(a, b), (c, d), cs, os⟩ = 0 := by
  have hjn : nv = (cs.length : Int) := by rw [h9, h1, h10]; rfl
  have e1 : firstEF capE cs = 0 := firstE_allF fun x hx => faultF_ok' (by have := h2 x hx; omega)
  have e2 : orsF os = 0 := by
    unfold orsF
    rw [if_neg (by omega), if_neg (by omega)]
    exact firstE_allF fun o ho => by have := h5 o ho; unfold OrdD at this; unfold ordE; rw [if_neg (by omega), if_neg (by omega)]
  have e3 : faultF a b 0 (cs.length - 1) = 0 := faultF_ok' (by omega)
  have e4 : faultF c d 0 (cs.length - 1) = 0 := faultF_ok' (by omega)
  unfold checkF
  dsimp only
  rw [if_neg (by omega), if_neg (by omega), e1, e3, e4, e2]
  rfl
end Go.Sas
namespace Go.Sas
open Go.Proofs
set_option maxRecDepth 100000
def capB (u : Int) (b : Bool) : Int := if b then u else 0
theorem flat_B : ∀ l : List Bool, l.flatMap (fun b => [B b]) = l.map B
  | [] => rfl
  | b :: l => by rw [List.flatMap_cons, flat_B l]; rfl
theorem Elems_B (l : List Bool) : Elems 1 (l.map B) (l.map B) := by
  have h := Elems_map (f := B) (g := fun b => [B b]) (sz := 1) (fun _ => rfl) (fun _ => rfl) (fun _ => rfl) l
  rwa [flat_B] at h
theorem nidL_B (l : List Bool) : AV.nidL (l.map B) = true := nidL_map (g := B) (fun _ => rfl) l
theorem p15 (l : List Bool) (u : Int) (hl : l.length ≤ 1000000) (H : AHeap) {Kk : AV → AHeap → Prop} (h : Kk (winV 0 (iLen l.length - 1) (.vs 1 ((l.map (capB u)).map I))) H) :
    ACalls Try.prog 15 [.vs 1 (l.map B), I u] H Kk := by
  refine (fun q => pureF (by rfl) (by rfl) q H h) ?_
  clear h
  intro Kk h
  obtain ⟨xs, hxs⟩ : ∃ xs, xs = l.map B := ⟨_, rfl⟩
  rw [← hxs]
  obtain ⟨D, hDD⟩ : ∃ D, D = l.length := ⟨_, rfl⟩
  rw [← hDD] at hl h
  obtain ⟨A, hA⟩ : ∃ A, A = std := ⟨_, rfl⟩
  obtain ⟨F, hF⟩ : ∃ F, F = Frees 0 Kk := ⟨_, rfl⟩
  rw [← hF]
  have hv1 : A.vlen xs = iLen D := by subst hA; simp [std, hxs, hDD]
  have hsg : ∀ g, A.sg g g := by subst hA; exact fun _ => rfl
  have hsb : A.sub .i64 (A.vlen xs) 1 = iLen D - 1 := by rw [hv1]; subst hA; exact iSub_id (by unfold iLen; omega) (by unfold iLen; omega)
  obtain ⟨la, hla⟩ : ∃ x, x = A.sub .i64 (A.vlen xs) 1 := ⟨_, rfl⟩
  refine go15 rfl (SGo_run hA ⟨[], [], [], []⟩ .nil .nil 200 fun T TD hT hTD => ?_)
  cbv
  rw [hT]
  refine AGo_nilcell 1 2 1 rfl rfl ?_
  refine AGo_upE [0, 1, 4, 5] D (fun j (_ : Unit) => True) (fun j _ i => [(6, I i)])
    (fun j _ => [.own 0 [I 0, I 0, .lit (.slice none 0 0)], .own 0 [I 0, I la, .ms 1 2 j 0 j], .own j ((l.take j).map fun x => I (capB u x))]) () trivial ⟨rfl, trivial⟩ (.inl (by rw [hla]; rfl)) fun j _ i hi hj hP Bk hB => ?_
  have hlt : A.lt i (A.vlen xs) = decide (j < D) := by subst hA; exact lt_len (by simp [hxs, hDD]) hi
  have hadd : ∀ N, j < N → N ≤ 9223372036854775807 → A.add .i64 i 1 = iLen (j + 1) := fun N hj hN => by subst hA; exact add_one hi hj hN
  obtain ⟨cc, hcc⟩ : ∃ r, r = (l.take j).map fun x => I (capB u x) := ⟨_, rfl⟩
  have hcl : LenIs cc j := by unfold LenIs; rw [hcc]; simp; omega
  rw [← hcc]
  refine SGo_run hA ⟨[2], [1002], [], []⟩ .nil .nil 200 fun T TD hT hTD => ?_
  cbv
  split <;> cbv
  · rename_i hk0
    have hk1 : j < D := by have hz := hlt.symm.trans hk0; simpa using hz
    clear hk0
    obtain ⟨x, hx⟩ : ∃ x, l[j]? = some x := ⟨_, List.getElem?_eq_getElem (hDD ▸ hk1)⟩
    have hix : A.ix 1 1 xs i [B x] := by subst hA; exact ix_map hxs hi hx rfl
    refine Exists.intro _ (And.intro hix ?_); cbv
    have happ : ∀ v : Int, A.app 1 1 8 cc 0 j [I v] (cc ++ [I v]) (j + 1) := fun v => by subst hA; exact app_one (by unfold LenIs at hcl; omega) rfl (by omega)
    have htk : ∀ cc2, cc2 = cc ++ [I (capB u x)] → (l.take (j + 1)).map (fun x => I (capB u x)) = cc2 := fun cc2 hc2 => by
      obtain ⟨h9, he⟩ := List.getElem?_eq_some_iff.1 hx
      rw [hc2, hcc, List.take_succ_eq_append_getElem h9, he]; simp
    cases x <;> cbv
    · refine And.intro (hsg _) (Exists.intro _ (Exists.intro (j + 1) (And.intro (happ 0) (And.intro rfl ?_))))
      generalize hc2 : cc ++ _ = cc2
      cbv
      refine hB () _ _ hk1 trivial ⟨congrArg I (hadd _ hk1 (by omega)), trivial⟩ ⟨rfl, rfl, rfl, rfl, trivial⟩ (.inl (by rw [htk _ hc2.symm]))
    · refine And.intro (hsg _) (Exists.intro _ (Exists.intro (j + 1) (And.intro (happ u) (And.intro rfl ?_))))
      generalize hc2 : cc ++ _ = cc2
      cbv
      refine hB () _ _ hk1 trivial ⟨congrArg I (hadd _ hk1 (by omega)), trivial⟩ ⟨rfl, rfl, rfl, rfl, trivial⟩ (.inl (by rw [htk _ hc2.symm]))
  · rename_i hk0
    have hk1 : ¬ j < D := by have hz := hlt.symm.trans hk0; simpa using hz
    clear hk0
    rw [hF]
    have hts : l.take j = l := List.take_of_length_le (by omega)
    rw [hts] at hcc
    have hcc : cc = (l.map (capB u)).map I := by rw [hcc, List.map_map]; rfl
    refine Frees.frz 2 j 1 ((l.map (capB u)).map I) rfl (by rw [hcc]; exact Elems_I _) (Frees.drop0 ?_ ?_)
    · have : AV.frz 2 j 1 ((l.map (capB u)).map I) (.ms 1 2 j 0 j) = .vs 1 ((l.map (capB u)).map I) := frz_self (by simp; omega)
      simp only [aTup, AV.frz, AV.frzL] at this ⊢
      rw [this, hla, hsb]
      exact h
    · simp only [aTup, AV.frz, AV.frzL, AV.nid, AV.nidL, if_true]
      split <;> rfl
/-- is a road open on a day -/
def openS (rs : List Rch) (a b c : Int) (l : List Lk) (m : List Mrk) (need : Int) (t : Nat) : Bool := decide ((closeL rs a b c l m need (iLen t)).length = 0)
theorem p13 (rs : List Rch) (a b c : Int) (l : List Lk) (m : List Mrk) (need : Int) (D : Nat) (h1 : rs.length ≤ 9223372036854775807) (h2 : l.length ≤ 9223372036854775807) (h3 : m.length ≤ 9223372036854775807) (hD : D ≤ 1000)
    (hask : ∀ t, t < D → askE rs a b c l m need (iLen t) = 0) (hcov : ∀ t, t < D → CovM (pastM m (iLen t)) (iLen t) (sumLg rs)) (H : AHeap) {Kk : AV → AHeap → Prop}
    (h : Kk (.tup [.vs 1 (((List.range D).map (openS rs a b c l m need)).map B), B true]) H) : ACalls Try.prog 13 [svV (.vs 5 (rs.map rcV)) a b c, .vs 5 (l.map lkV), .vs 5 (m.map mkV), I need, I (iLen D)] H Kk := by
  have hnr := nidL_rc rs
  refine (fun q => pureF (by simp [AV.nidL, AV.nid, hnr, nidL_map (g := lkV) (fun _ => rfl) l, nidL_map (g := mkV) (fun _ => rfl) m]) (by simp [AV.nidL, AV.nid, nidL_B]) q H h) ?_
  clear h
  intro Kk h
  obtain ⟨xs, hxs⟩ : ∃ xs, xs = rs.map rcV := ⟨_, rfl⟩
  rw [← hxs]
  obtain ⟨ls, hls⟩ : ∃ ys, ys = l.map lkV := ⟨_, rfl⟩
  rw [← hls]
  obtain ⟨ms, hms⟩ : ∃ ys, ys = m.map mkV := ⟨_, rfl⟩
  rw [← hms]
  obtain ⟨d, hd⟩ : ∃ d, d = iLen D := ⟨_, rfl⟩
  rw [← hd]
  have hxl : ∀ n, AV.ltL n xs := fun n => AV.ltL_nid (by rw [hxs]; exact hnr)
  obtain ⟨A, hA⟩ : ∃ A, A = std := ⟨_, rfl⟩
  obtain ⟨F, hF⟩ : ∃ F, F = Frees 0 Kk := ⟨_, rfl⟩
  rw [← hF]
  have hsg : ∀ g, A.sg g g := by subst hA; exact fun _ => rfl
  have hne : ∀ x, A.ne x 0 = decide (x ≠ 0) := by subst hA; intro x; simp only [std, iNe]; rw [Bool.eq_iff_iff]; simp
  refine go13 rfl (SGo_run hA ⟨[], [], [], []⟩ .nil .nil 200 fun T TD hT hTD => ?_)
  cbv
  rw [hT]
  refine AGo_nilms 12 1 rfl ?_
  refine AGo_upE [1, 2, 3, 4, 5] D (fun j (_ : Unit) => True) (fun j _ i => [(12, .ms 1 1 j 0 j), (13, I i)])
    (fun j _ => [.own 0 [.vs 5 xs, I a, I b, I c], .own j (((List.range j).map (openS rs a b c l m need)).map B)]) () trivial ⟨rfl, rfl, trivial⟩ (.inl rfl) fun j _ i hi hj hP Bk hB => ?_
  have hlt : A.lt i d = decide (j < D) := by subst hA; simp only [std, iLt, hi, hd]; rw [Bool.eq_iff_iff]; unfold iLen; simp only [decide_eq_true_eq]; omega
  have hadd : ∀ N, j < N → N ≤ 9223372036854775807 → A.add .i64 i 1 = iLen (j + 1) := fun N hj hN => by subst hA; exact add_one hi hj hN
  obtain ⟨cc, hcc⟩ : ∃ r, r = ((List.range j).map (openS rs a b c l m need)).map B := ⟨_, rfl⟩
  have hcl : LenIs cc j := by unfold LenIs; rw [hcc]; simp
  rw [← hcc]
  refine SGo_run hA ⟨[1], [0, 1001], (24, eClose CovM) :: [], []⟩ (.cons (eClose_ok CovM.ok) .nil) .nil 200 fun T TD hT hTD => ?_
  cbv
  split <;> cbv
  · rename_i hk0
    have hk1 : j < D := by have hz := hlt.symm.trans hk0; simpa using hz
    clear hk0
    refine Exists.intro rs (Exists.intro l (Exists.intro m (And.intro hxs (And.intro hls (And.intro hms (And.intro h1 (And.intro h2 (And.intro h3 (And.intro (fun _ => by rw [hi]; exact hcov j hk1) ?_)))))))))
    intro e1 y1 he1 hy1; cbv
    have he1 : e1 = 0 := by rw [he1, hi]; exact hask j hk1
    subst he1
    have hn0 : A.ne 0 0 = false := by rw [hne]; rfl
    split <;> first | (rename_i hz; exact Bool.noConfusion (hz.symm.trans hn0)) | cbv
    have hop : A.eq (A.vlen y1) 0 = openS rs a b c l m need j := by
      unfold openS
      subst hA; show iEq (iLen y1.length) 0 = _
      rw [iEq_dec, decide_eq_decide, hy1, List.length_map, hi]; unfold iLen; omega
    refine And.intro (hsg _) (Exists.intro (cc ++ [B (A.eq (A.vlen y1) 0)]) (Exists.intro (j + 1) (And.intro ?_ (And.intro rfl ?_))))
    · subst hA; exact app_one (by unfold LenIs at hcl; omega) rfl (by omega)
    generalize hc2 : cc ++ _ = cc2
    rw [hop] at hc2
    cbv
    have htk : ((List.range (j + 1)).map (openS rs a b c l m need)).map B = cc2 := by rw [← hc2, hcc, List.range_succ]; simp
    refine hB () _ _ hk1 trivial ⟨rfl, congrArg I (hadd _ hk1 (by omega)), trivial⟩ ⟨rfl, rfl, rfl, rfl, rfl, trivial⟩ (.inl (by rw [htk]))
  · rename_i hk0
    have hk1 : ¬ j < D := by have hz := hlt.symm.trans hk0; simpa using hz
    clear hk0
    have hjD : j = D := by omega
    subst hjD
    rw [hF]
    refine Frees.frz 1 j 1 (((List.range j).map (openS rs a b c l m need)).map B) rfl (by rw [hcc]; exact Elems_B _) (Frees.drop0 ?_ ?_)
    · have : AV.frz 1 j 1 (((List.range j).map (openS rs a b c l m need)).map B) (.ms 1 1 j 0 j) = .vs 1 (((List.range j).map (openS rs a b c l m need)).map B) := frz_self (by simp)
      simp only [aTup, AV.frz, AV.frzL] at this ⊢
      rw [this]
      exact h
    · simp only [aTup, AV.frz, AV.frzL, AV.nid, AV.nidL, if_true]
      split <;> rfl
end Go.Sas
namespace Go.Sas
open Go.Proofs
set_option maxRecDepth 100000
theorem Frees.weak {m : Nat} {Kk : AV → AHeap → Prop} {r : AV} {H : AHeap} (q : Nat) {gg : Nat} {cs : List AV} (hX : H[q]? = some (.own gg cs)) (h : Frees m Kk r (H.set q (.own gg []))) : Frees m Kk r H :=
  fun st0 w0 st w v hm he hH hr => h st0 w0 st w v hm he (hH.weak hX) hr
set_option maxHeartbeats 2000000 in
theorem d9b (days orders : Int) (hd : 1 ≤ days ∧ days ≤ 200) (ho : 1 ≤ orders ∧ orders ≤ 6) (w : Int) {Kk : AV → AHeap → Prop}
    (h : ∀ (w' a b c d : Int) (cs : List (Int × Int)) (os : List Ord), checkF ⟨(a, b), (c, d), cs, os⟩ = 0 → iLen cs.length ≤ days → iLen os.length ≤ orders → (∀ x ∈ cs, x.2 ≤ 9) → (∀ o ∈ os, o.u ≤ 20 ∧ o.s ≤ 30) →
      Kk (frV a b c d (.ms 2 3 cs.length 0 cs.length) (.vs 4 (os.map orV))) [.own 0 [U w'], .own 0 [], .own 0 [], .own cs.length (cs.flatMap spC), .gone]) :
    ACalls Try.prog 9 [.mp 0 0 0, I days, I orders] [.own 0 [U w]] Kk := by
  refine ACalls.frees ?_
  obtain ⟨A, hA⟩ : ∃ A, A = std := ⟨_, rfl⟩
  have hsg : ∀ g, A.sg g g := by subst hA; exact fun _ => rfl
  obtain ⟨F, hF⟩ : ∃ F, F = Frees 1 Kk := ⟨_, rfl⟩
  rw [show Frees [AObj.own 0 [U w]].length Kk = F from hF.symm]
  refine go9 rfl (SGo_run hA ⟨[], [], [], ed3F⟩ .nil ed3_okF 200 fun T TD hT hTD => ?_)
  cbv
  refine Exists.intro () (And.intro (by omega) ?_)
  rintro w1 _ ⟨nv, rfl, hn1, hn2⟩
  have hn2 : nv ≤ days := by omega
  cbv
  rw [hT]
  refine AGo_nilcell 2 4 2 rfl rfl ?_
  obtain ⟨N, hN⟩ : ∃ N : Nat, nv = iLen N := ⟨nv.toNat, by unfold iLen; omega⟩
  refine AGo_upE [0, 2, 6, 7, 8] N (fun j (s : Int × List (Int × Int)) => s.2.length = j ∧ ∀ x ∈ s.2, 0 ≤ x.1 ∧ x.1 ≤ x.2 ∧ x.2 ≤ 9) (fun j _ i => [(9, I i)])
    (fun j s => [.own 0 [U s.1], .own 0 [I 0, I 0, I 0, I 0, .lit (.slice none 0 0), .lit (.slice none 0 0)], .own 0 [I 0, I 0, I 0, I 0, .ms 2 3 j 0 j, .lit (.slice none 0 0)], .own j (s.2.flatMap spC)]) (w1, []) ⟨rfl, by simp⟩ ⟨rfl, trivial⟩ (.inl rfl) fun j s i hi hj hP Bk hB => ?_
  have hlt : A.lt i nv = decide (j < N) := by subst hA; simp only [std, iLt, hi, hN]; rw [Bool.eq_iff_iff]; unfold iLen; simp only [decide_eq_true_eq]; omega
  have hadd : ∀ N, j < N → N ≤ 9223372036854775807 → A.add .i64 i 1 = iLen (j + 1) := fun N hj hN => by subst hA; exact add_one hi hj hN
  obtain ⟨w2, cs⟩ := s
  obtain ⟨hP1, hP2⟩ := hP
  dsimp only at hP1 hP2 ⊢
  have hNb : N ≤ 200 := by unfold iLen at hN; omega
  obtain ⟨cc, hcc⟩ : ∃ c, c = cs.flatMap spC := ⟨_, rfl⟩
  rw [← hcc]
  refine SGo_run hA ⟨[3], [0, 1003], [], ed3F⟩ .nil ed3_okF 200 fun T TD hT hTD => ?_
  cbv
  split <;> cbv
  · rename_i hk0
    have hk1 : j < N := by have hz := hlt.symm.trans hk0; simpa using hz
    clear hk0
    refine Exists.intro () (And.intro ⟨by simp, by simp, by exact AllI_lits (l := [3, 9])⟩ ?_)
    rintro w3 _ ⟨t, rfl, ht⟩
    simp at ht
    cbv
    refine And.intro (by subst hA; simp [std, Keep, SubH, ResK]) ?_; cbv
    refine Exists.intro () (And.intro (by omega) ?_)
    rintro w4 _ ⟨u, v, rfl, hu1, hu2, hu3⟩
    cbv
    refine And.intro (by subst hA; simp [std, Keep, SubH, ResK]) ?_; cbv
    refine And.intro (hsg _) (Exists.intro (cc ++ [I u, I v]) (Exists.intro (j + 1) (And.intro ?_ (And.intro rfl ?_))))
    · subst hA; exact app_one (by rw [hcc, len_flat (k := 2) (fun _ => rfl), hP1]) rfl (by omega)
    generalize hc2 : cc ++ _ = cc2
    refine And.intro (by subst hA; simp [std, Keep, SubH, ResK]) ?_
    cbv
    refine hB (w4, cs ++ [(u, v)]) _ _ hk1 ⟨by simp [hP1], ?_⟩ ⟨congrArg I (hadd _ hk1 (by omega)), trivial⟩ ⟨rfl, rfl, rfl, rfl, rfl, trivial⟩ (.inl (by rw [← hc2, hcc]; simp))
    intro x hx
    rcases List.mem_append.1 hx with hx | hx
    · exact hP2 x hx
    · simp at hx; subst hx; dsimp only; omega
  · rename_i hk0
    have hk1 : ¬ j < N := by have hz := hlt.symm.trans hk0; simpa using hz
    clear hk0
    have hjN : j = N := by omega
    subst hjN
    clear hB hadd hlt
    have hsub : A.sub .i64 nv 1 = nv - 1 := by subst hA; exact iSub_id (by omega) (by omega)
    have hquo : A.quo .i64 (A.sub .i64 nv 1) 2 = (nv - 1) / 2 := by rw [hsub]; subst hA; exact iQuo_id (by omega) (by omega) (by omega)
    refine Exists.intro () (And.intro (by show _ ≤ _ ∧ _ ≤ A.quo .i64 (A.sub .i64 nv 1) 2 ∧ A.quo .i64 (A.sub .i64 nv 1) 2 ≤ _; rw [hquo]; omega) ?_)
    rintro w5 _ ⟨fa, fb, rfl, hf1, hf2, hf3⟩
    have hf3 : fb ≤ A.quo .i64 (A.sub .i64 nv 1) 2 := hf3
    rw [hquo] at hf3
    cbv
    refine Exists.intro () (And.intro (by show _ ≤ A.quo .i64 (A.sub .i64 nv 1) 2 ∧ A.quo .i64 (A.sub .i64 nv 1) 2 ≤ A.sub .i64 nv 1 ∧ A.sub .i64 nv 1 ≤ _; rw [hquo, hsub]; omega) ?_)
    rintro w6 _ ⟨la, lb, rfl, hl1, hl2, hl3⟩
    have hl1 : A.quo .i64 (A.sub .i64 nv 1) 2 ≤ la := hl1
    have hl3 : lb ≤ A.sub .i64 nv 1 := hl3
    rw [hquo] at hl1
    rw [hsub] at hl3
    cbv
    refine Exists.intro () (And.intro (by omega) ?_)
    rintro w7 _ ⟨yb, rfl⟩
    cbv
    split <;> cbv
    · refine Exists.intro () (And.intro (by show _ ≤ _ ∧ _ ≤ A.sub .i64 nv 1 ∧ A.sub .i64 nv 1 ≤ _; rw [hsub]; omega) ?_)
      rintro w17 _ ⟨fa2, fb2, rfl, hg1, hg2, hg3⟩
      have hg3 : fb2 ≤ A.sub .i64 nv 1 := hg3
      rw [hsub] at hg3
      cbv
      refine Exists.intro () (And.intro (by show _ ≤ _ ∧ _ ≤ A.sub .i64 nv 1 ∧ A.sub .i64 nv 1 ≤ _; rw [hsub]; omega) ?_)
      rintro w18 _ ⟨la3, lb3, rfl, hm1, hm2, hm3⟩
      have hm3 : lb3 ≤ A.sub .i64 nv 1 := hm3
      rw [hsub] at hm3
      cbv
      refine Exists.intro () (And.intro (by omega) ?_)
      rintro w8 _ ⟨k2, rfl, hkk1, hkk2⟩
      cbv
      rw [hT]
      refine AGo_nilcell 2 5 4 rfl rfl ?_
      refine AGo_whileE (σ := Int × Int × List Ord) [0, 6, 7, 8] (fun s => s.2.1.toNat) (fun s => 0 ≤ s.2.1 ∧ s.2.1 + iLen s.2.2.length = k2 ∧ ∀ o ∈ s.2.2, OrdD nv o) (fun s => [(10, I s.2.1)])
        (fun s => [.own 0 [U s.1], .own 0 [I 0, I 0, I 0, I 0, .lit (.slice none 0 0), .lit (.slice none 0 0)], .own 0 [I fa2, I fb2, I la3, I lb3, .ms 2 3 j 0 j, .ms 4 4 s.2.2.length 0 s.2.2.length], .own j cc, .own s.2.2.length (s.2.2.flatMap orC4)]) (w8, k2, []) ⟨by dsimp only; omega, by simp [iLen], by simp⟩ ⟨rfl, trivial⟩ (.inl rfl) fun s hP Bk hB => ?_
      obtain ⟨w9, dd, os⟩ := s
      obtain ⟨hd0, hdl, hoa⟩ := hP
      dsimp only at hd0 hdl hoa ⊢
      obtain ⟨oc, hoc⟩ : ∃ c, c = os.flatMap orC4 := ⟨_, rfl⟩
      obtain ⟨n2, hn2'⟩ : ∃ n, n = os.length := ⟨_, rfl⟩
      rw [← hoc, ← hn2']
      rw [← hn2'] at hdl
      have hgt : A.lt 0 dd = decide (0 < dd) := by subst hA; rfl
      have hsub2 : A.sub .i64 dd 1 = dd - 1 := by unfold iLen at hdl; subst hA; exact iSub_id (by omega) (by omega)
      have hn61 : n2 ≤ 6 := by unfold iLen at hdl; omega
      refine SGo_run hA ⟨[4], [0], [], ed3⟩ .nil ed3_ok 200 fun T TD hT hTD => ?_
      cbv
      split <;> cbv
      · rename_i hq
        have hq1 : 0 < dd := by have hq := hgt.symm.trans hq; simpa using hq
        clear hq
        refine Exists.intro () (And.intro ⟨by simp, by simp, by exact AllI_lits (l := [4, 20])⟩ ?_)
        rintro w10 _ ⟨t1, rfl, ht1⟩
        simp at ht1
        cbv
        refine Exists.intro () (And.intro (by omega) ?_)
        rintro w11 _ ⟨uu, rfl, huu1, huu2⟩
        cbv
        have hadd3 : A.add .i64 nv 1 = nv + 1 := by subst hA; exact iAdd_id (by omega) (by omega)
        refine Exists.intro () (And.intro (by show A.add .i64 nv 1 ≤ _; rw [hadd3]; omega) ?_)
        rintro w12 _ ⟨du, rfl, hdu1, hdu2⟩
        have hdu2 : du < A.add .i64 nv 1 ∨ du = 0 := hdu2
        rw [hadd3] at hdu2
        cbv
        refine Exists.intro () (And.intro (by omega) ?_)
        rintro w13 _ ⟨la2, rfl, hla1, hla2⟩
        cbv
        refine Exists.intro () (And.intro (by omega) ?_)
        rintro w14 _ ⟨t2, rfl, ht21, ht22⟩
        cbv
        refine And.intro (by subst hA; exact .inr ⟨⟨rfl, SubH.self _⟩, trivial, .inr fun _ => ⟨rfl, SubH.self _⟩⟩) ?_; cbv
        refine Exists.intro () (And.intro ⟨by simp, by simp, by exact AllI_lits (l := [0, t2])⟩ ?_)
        rintro w15 _ ⟨t3, rfl, ht3⟩
        simp at ht3
        cbv
        refine And.intro (by subst hA; exact .inr ⟨⟨rfl, SubH.self _⟩, trivial, .inr fun _ => ⟨rfl, SubH.self _⟩⟩) ?_; cbv
        have hls : A.add .i64 la2 t3 = la2 + t3 := by subst hA; exact iAdd_id (by omega) (by omega)
        refine And.intro (hsg _) (Exists.intro (oc ++ [I uu, I du, I la2, I (A.add .i64 la2 t3)]) (Exists.intro (n2 + 1) (And.intro ?_ (And.intro rfl ?_))))
        · subst hA; exact app_one (by rw [hoc, len_flat (k := 4) (fun _ => rfl), hn2']) rfl (by omega)
        generalize hoc2 : oc ++ _ = oc2
        cbv
        rw [hls] at hoc2
        refine hB (w15, dd - 1, os ++ [⟨uu, du, la2, la2 + t3⟩]) _ _ (by dsimp only; omega) ⟨by dsimp only; omega, by dsimp only; unfold iLen at hdl ⊢; simp; omega, ?_⟩ ⟨congrArg I hsub2, trivial⟩ ⟨rfl, rfl, rfl, rfl, trivial⟩ (.inr ⟨⟨[.own 0 [I uu, I du, I la2, I (A.add .i64 la2 t3)]], ?_⟩, by simp, by simp [ltG, keepS, look, gset, AV.lt, AV.ltL], ?_⟩)
        · intro o ho9
          rcases List.mem_append.1 ho9 with ho9 | ho9
          · exact hoa o ho9
          · simp at ho9; subst ho9; unfold OrdD; dsimp only; omega
        · rw [← hoc2, hoc, hn2']; simp
        · exact ⟨by simp [AObj.lt, AV.ltL, AV.lt], by simp [AObj.lt, AV.ltL, AV.lt], by simp [AObj.lt, AV.ltL, AV.lt], AV.ltL_nid (by rw [hcc]; exact nidL_flat (fun _ => rfl) _), AV.ltL_nid (nidL_flat (fun _ => rfl) _), trivial⟩
      · rename_i hq
        have hq1 : ¬ 0 < dd := by have hq := hgt.symm.trans hq; simpa using hq
        clear hq
        rw [hF]
        have hck : checkF ⟨(fa2, fb2), (la3, lb3), cs, os⟩ = 0 := checkF_ok' hP1 hP2 (by omega) (by omega) hoa (by rw [← hn2']; unfold iLen at hdl; omega) (by omega) (by unfold iLen at hN; omega) hN
        refine Frees.frz 4 n2 4 (os.map orV) (cs := oc) rfl (by rw [hoc]; exact Elems_map (f := orV) (g := orC4) (sz := 4) (fun _ => rfl) (fun _ => rfl) (fun _ => rfl) os) ?_
        have e2 : AV.frz 4 n2 4 (os.map orV) (.ms 4 4 n2 0 n2) = .vs 4 (os.map orV) := frz_self (by simp [hn2'])
        have e3 : AV.frz 4 n2 4 (os.map orV) (.ms 2 3 j 0 j) = .ms 2 3 j 0 j := by simp [AV.frz]
        have e4 : AV.frz 4 n2 4 (os.map orV) (.agg [I fa2, I fb2, I la3, I lb3, .ms 2 3 j 0 j, .ms 4 4 n2 0 n2]) = frV fa2 fb2 la3 lb3 (.ms 2 3 j 0 j) (.vs 4 (os.map orV)) := by
          simp only [AV.frz, AV.frzL] at e2 e3 ⊢
          rw [e2]
          simp
        have e5 : AV.frzL 4 n2 4 (os.map orV) cc = cc := AV.frzL_nid (by rw [hcc]; exact nidL_flat (fun _ => rfl) _)
        rw [show AV.frz 4 n2 4 (os.map orV) (aTup [.agg [I fa2, I fb2, I la3, I lb3, .ms 2 3 j 0 j, .ms 4 4 n2 0 n2]]) = frV fa2 fb2 la3 lb3 (.ms 2 3 j 0 j) (.vs 4 (os.map orV)) from e4]
        refine Frees.weak 1 rfl (Frees.weak (cs := [I fa2, I fb2, I la3, I lb3, AV.frz 4 n2 4 (os.map orV) (.ms 2 3 j 0 j), AV.frz 4 n2 4 (os.map orV) (.ms 4 4 n2 0 n2)]) 2 rfl ?_)
        refine Frees.now ?_
        have h9 := h w9 fa2 fb2 la3 lb3 cs os hck (by rw [hP1, ← hN]; exact hn2) (by unfold iLen at hdl ⊢; omega) (fun x hx => (hP2 x hx).2.2) (fun o ho9 => by have := hoa o ho9; unfold OrdD at this; omega)
        rw [hP1, ← hcc] at h9
        show Kk _ [.own 0 [U w9], .own 0 [], .own 0 [], .own j (AV.frzL 4 n2 4 (os.map orV) cc), .gone]
        rw [e5]
        exact h9
    · refine Exists.intro () (And.intro (by omega) ?_)
      rintro w8 _ ⟨k2, rfl, hkk1, hkk2⟩
      cbv
      rw [hT]
      refine AGo_nilcell 2 5 4 rfl rfl ?_
      refine AGo_whileE (σ := Int × Int × List Ord) [0, 6, 7, 8] (fun s => s.2.1.toNat) (fun s => 0 ≤ s.2.1 ∧ s.2.1 + iLen s.2.2.length = k2 ∧ ∀ o ∈ s.2.2, OrdD nv o) (fun s => [(10, I s.2.1)])
        (fun s => [.own 0 [U s.1], .own 0 [I 0, I 0, I 0, I 0, .lit (.slice none 0 0), .lit (.slice none 0 0)], .own 0 [I fa, I fb, I la, I lb, .ms 2 3 j 0 j, .ms 4 4 s.2.2.length 0 s.2.2.length], .own j cc, .own s.2.2.length (s.2.2.flatMap orC4)]) (w8, k2, []) ⟨by dsimp only; omega, by simp [iLen], by simp⟩ ⟨rfl, trivial⟩ (.inl rfl) fun s hP Bk hB => ?_
      obtain ⟨w9, dd, os⟩ := s
      obtain ⟨hd0, hdl, hoa⟩ := hP
      dsimp only at hd0 hdl hoa ⊢
      obtain ⟨oc, hoc⟩ : ∃ c, c = os.flatMap orC4 := ⟨_, rfl⟩
      obtain ⟨n2, hn2'⟩ : ∃ n, n = os.length := ⟨_, rfl⟩
      rw [← hoc, ← hn2']
      rw [← hn2'] at hdl
      have hgt : A.lt 0 dd = decide (0 < dd) := by subst hA; rfl
      have hsub2 : A.sub .i64 dd 1 = dd - 1 := by unfold iLen at hdl; subst hA; exact iSub_id (by omega) (by omega)
      have hn61 : n2 ≤ 6 := by unfold iLen at hdl; omega
      refine SGo_run hA ⟨[4], [0], [], ed3⟩ .nil ed3_ok 200 fun T TD hT hTD => ?_
      cbv
      split <;> cbv
      · rename_i hq
        have hq1 : 0 < dd := by have hq := hgt.symm.trans hq; simpa using hq
        clear hq
        refine Exists.intro () (And.intro ⟨by simp, by simp, by exact AllI_lits (l := [4, 20])⟩ ?_)
        rintro w10 _ ⟨t1, rfl, ht1⟩
        simp at ht1
        cbv
        refine Exists.intro () (And.intro (by omega) ?_)
        rintro w11 _ ⟨uu, rfl, huu1, huu2⟩
        cbv
        have hadd3 : A.add .i64 nv 1 = nv + 1 := by subst hA; exact iAdd_id (by omega) (by omega)
        refine Exists.intro () (And.intro (by show A.add .i64 nv 1 ≤ _; rw [hadd3]; omega) ?_)
        rintro w12 _ ⟨du, rfl, hdu1, hdu2⟩
        have hdu2 : du < A.add .i64 nv 1 ∨ du = 0 := hdu2
        rw [hadd3] at hdu2
        cbv
        refine Exists.intro () (And.intro (by omega) ?_)
        rintro w13 _ ⟨la2, rfl, hla1, hla2⟩
        cbv
        refine Exists.intro () (And.intro (by omega) ?_)
        rintro w14 _ ⟨t2, rfl, ht21, ht22⟩
        cbv
        refine And.intro (by subst hA; exact .inr ⟨⟨rfl, SubH.self _⟩, trivial, .inr fun _ => ⟨rfl, SubH.self _⟩⟩) ?_; cbv
        refine Exists.intro () (And.intro ⟨by simp, by simp, by exact AllI_lits (l := [0, t2])⟩ ?_)
        rintro w15 _ ⟨t3, rfl, ht3⟩
        simp at ht3
        cbv
        refine And.intro (by subst hA; exact .inr ⟨⟨rfl, SubH.self _⟩, trivial, .inr fun _ => ⟨rfl, SubH.self _⟩⟩) ?_; cbv
        have hls : A.add .i64 la2 t3 = la2 + t3 := by subst hA; exact iAdd_id (by omega) (by omega)
        refine And.intro (hsg _) (Exists.intro (oc ++ [I uu, I du, I la2, I (A.add .i64 la2 t3)]) (Exists.intro (n2 + 1) (And.intro ?_ (And.intro rfl ?_))))
        · subst hA; exact app_one (by rw [hoc, len_flat (k := 4) (fun _ => rfl), hn2']) rfl (by omega)
        generalize hoc2 : oc ++ _ = oc2
        cbv
        rw [hls] at hoc2
        refine hB (w15, dd - 1, os ++ [⟨uu, du, la2, la2 + t3⟩]) _ _ (by dsimp only; omega) ⟨by dsimp only; omega, by dsimp only; unfold iLen at hdl ⊢; simp; omega, ?_⟩ ⟨congrArg I hsub2, trivial⟩ ⟨rfl, rfl, rfl, rfl, trivial⟩ (.inr ⟨⟨[.own 0 [I uu, I du, I la2, I (A.add .i64 la2 t3)]], ?_⟩, by simp, by simp [ltG, keepS, look, gset, AV.lt, AV.ltL], ?_⟩)
        · intro o ho9
          rcases List.mem_append.1 ho9 with ho9 | ho9
          · exact hoa o ho9
          · simp at ho9; subst ho9; unfold OrdD; dsimp only; omega
        · rw [← hoc2, hoc, hn2']; simp
        · exact ⟨by simp [AObj.lt, AV.ltL, AV.lt], by simp [AObj.lt, AV.ltL, AV.lt], by simp [AObj.lt, AV.ltL, AV.lt], AV.ltL_nid (by rw [hcc]; exact nidL_flat (fun _ => rfl) _), AV.ltL_nid (nidL_flat (fun _ => rfl) _), trivial⟩
      · rename_i hq
        have hq1 : ¬ 0 < dd := by have hq := hgt.symm.trans hq; simpa using hq
        clear hq
        rw [hF]
        have hck : checkF ⟨(fa, fb), (la, lb), cs, os⟩ = 0 := checkF_ok' hP1 hP2 (by omega) (by omega) hoa (by rw [← hn2']; unfold iLen at hdl; omega) (by omega) (by unfold iLen at hN; omega) hN
        refine Frees.frz 4 n2 4 (os.map orV) (cs := oc) rfl (by rw [hoc]; exact Elems_map (f := orV) (g := orC4) (sz := 4) (fun _ => rfl) (fun _ => rfl) (fun _ => rfl) os) ?_
        have e2 : AV.frz 4 n2 4 (os.map orV) (.ms 4 4 n2 0 n2) = .vs 4 (os.map orV) := frz_self (by simp [hn2'])
        have e3 : AV.frz 4 n2 4 (os.map orV) (.ms 2 3 j 0 j) = .ms 2 3 j 0 j := by simp [AV.frz]
        have e4 : AV.frz 4 n2 4 (os.map orV) (.agg [I fa, I fb, I la, I lb, .ms 2 3 j 0 j, .ms 4 4 n2 0 n2]) = frV fa fb la lb (.ms 2 3 j 0 j) (.vs 4 (os.map orV)) := by
          simp only [AV.frz, AV.frzL] at e2 e3 ⊢
          rw [e2]
          simp
        have e5 : AV.frzL 4 n2 4 (os.map orV) cc = cc := AV.frzL_nid (by rw [hcc]; exact nidL_flat (fun _ => rfl) _)
        rw [show AV.frz 4 n2 4 (os.map orV) (aTup [.agg [I fa, I fb, I la, I lb, .ms 2 3 j 0 j, .ms 4 4 n2 0 n2]]) = frV fa fb la lb (.ms 2 3 j 0 j) (.vs 4 (os.map orV)) from e4]
        refine Frees.weak 1 rfl (Frees.weak (cs := [I fa, I fb, I la, I lb, AV.frz 4 n2 4 (os.map orV) (.ms 2 3 j 0 j), AV.frz 4 n2 4 (os.map orV) (.ms 4 4 n2 0 n2)]) 2 rfl ?_)
        refine Frees.now ?_
        have h9 := h w9 fa fb la lb cs os hck (by rw [hP1, ← hN]; exact hn2) (by unfold iLen at hdl ⊢; omega) (fun x hx => (hP2 x hx).2.2) (fun o ho9 => by have := hoa o ho9; unfold OrdD at this; omega)
        rw [hP1, ← hcc] at h9
        show Kk _ [.own 0 [U w9], .own 0 [], .own 0 [], .own j (AV.frzL 4 n2 4 (os.map orV) cc), .gone]
        rw [e5]
        exact h9
theorem d9m (days orders : Int) (hd : 1 ≤ days ∧ days ≤ 200) (ho : 1 ≤ orders ∧ orders ≤ 6) (w : Int) (id : Nat) (H : AHeap) (hH : H[id]? = some (.own 0 [U w])) {Kk : AV → AHeap → Prop}
    (h : ∀ (w' a b c d : Int) (cs : List (Int × Int)) (os : List Ord), checkF ⟨(a, b), (c, d), cs, os⟩ = 0 → iLen cs.length ≤ days → iLen os.length ≤ orders → (∀ x ∈ cs, x.2 ≤ 9) → (∀ o ∈ os, o.u ≤ 20 ∧ o.s ≤ 30) →
      Kk (frV a b c d (.ms 2 (H.length + 2) cs.length 0 cs.length) (.vs 4 (os.map orV))) (H.set id (.own 0 [U w']) ++ [.own 0 [], .own 0 [], .own cs.length (cs.flatMap spC), .gone])) :
    ACalls Try.prog 9 [.mp id 0 0, I days, I orders] H Kk := by
  have h1 := d9b days orders hd ho w (Kk := fun r H' => ∃ (w' a b c d : Int) (cs : List (Int × Int)) (os : List Ord), (checkF ⟨(a, b), (c, d), cs, os⟩ = 0 ∧ iLen cs.length ≤ days ∧ iLen os.length ≤ orders ∧ (∀ x ∈ cs, x.2 ≤ 9) ∧ ∀ o ∈ os, o.u ≤ 20 ∧ o.s ≤ 30) ∧
      r = frV a b c d (.ms 2 3 cs.length 0 cs.length) (.vs 4 (os.map orV)) ∧ H' = [.own 0 [U w'], .own 0 [], .own 0 [], .own cs.length (cs.flatMap spC), .gone])
    fun w' a b c d cs os e1 e2 e3 e4 e5 => ⟨w', a, b, c, d, cs, os, ⟨e1, e2, e3, e4, e5⟩, rfl, rfl⟩
  have h2 := ACalls.frame (H := H) [id] h1 (by simp) rfl (by simp [AV.ltL, AV.lt]) (by simp [ltH, AObj.lt, AV.ltL, AV.lt])
    (fun k X hX => by
      cases k with
      | zero => simp at hX; subst hX; simpa [at_, AObj.ren, AV.renL, AV.ren] using hH
      | succ k => simp at hX)
  rw [show AV.renL [id] [.mp 0 0 0, I days, I orders] = [.mp id 0 0, I days, I orders] by simp [AV.renL, AV.ren, at_]] at h2
  refine h2.mono fun r H' hx => ?_
  obtain ⟨r0, H1, ⟨w', a, b, c, d, cs, os, ⟨e1, e2, e3, e4, e5⟩, rfl, rfl⟩, _, rfl, rfl⟩ := hx
  have h3 := h w' a b c d cs os e1 e2 e3 e4 e5
  obtain ⟨cc, hcc⟩ : ∃ c, c = cs.flatMap spC := ⟨_, rfl⟩
  have hcn : ∀ ι, AV.renL ι cc = cc := fun ι => AV.renL_nid (by rw [hcc]; exact nidL_flat (fun _ => rfl) _)
  rw [← hcc] at h3 ⊢
  simpa [merge, updL, AObj.ren, AV.renL, AV.ren, more, at_, hcn, List.range'] using h3
/-- a freight whose days may be written to -/
def eFrM : List AV → AHeap → Option PT
  | [.mp id 0 0, .lit (.int .i64 days), .lit (.int .i64 orders)], H => match H[id]? with
    | some (.own 0 [.lit (.int .u64 _)]) => some fun K => ((1 ≤ days ∧ days ≤ 200) ∧ 1 ≤ orders ∧ orders ≤ 6) ∧
        ∀ (w' a b c d : Int) (cs : List (Int × Int)) (os : List Ord) n cc ys, checkF ⟨(a, b), (c, d), cs, os⟩ = 0 → iLen cs.length ≤ days → iLen os.length ≤ orders → (∀ x ∈ cs, x.2 ≤ 9) → (∀ o ∈ os, o.u ≤ 20 ∧ o.s ≤ 30) → n = cs.length → cc = cs.flatMap spC → ys = os.map orV →
          K (.agg [I a, I b, I c, I d, .ms 2 (H.length + 2) n 0 n, .vs 4 ys]) (H.set id (.own 0 [U w']) ++ [.own 0 [], .own 0 [], .own n cc, .gone])
    | _ => none
  | _, _ => none
theorem eFrM_ok : ∀ args H pt, eFrM args H = some pt → ∀ (Kk : AV → AHeap → Prop), pt Kk → ACalls Try.prog 9 args H Kk := by
  intro args H pt h Kk hk
  unfold eFrM at h
  split at h
  · split at h
    · rename_i hH
      cases h
      obtain ⟨⟨h1, h2⟩, h4⟩ := hk
      exact d9m _ _ h1 h2 _ _ H hH fun w' a b c d cs os e1 e2 e3 e4 e5 => h4 w' a b c d cs os _ _ _ e1 e2 e3 e4 e5 rfl rfl rfl
    · cases h
  · cases h
end Go.Sas
namespace Go.Sas

/-! ### Equal values -/
def vEq : Value → Value → Bool
  | .int k n, .int k' n' => decide (k = k') && decide (n = n')
  | .bool b, .bool b' => b == b'
  | .slice none 0 0, .slice none 0 0 => true
  | _, _ => false
theorem vEq_spec {a b : Value} (h : vEq a b = true) : a = b := by
  unfold vEq at h
  split at h
  · simp only [Bool.and_eq_true, decide_eq_true_eq] at h; rw [h.1, h.2]
  · simp only [beq_iff_eq] at h; rw [h]
  · rfl
  · cases h

mutual
def avEq (a b : AV) : Bool := match a, b with
  | .bad, .bad => true
  | .lit u, .lit v => vEq u v
  | .agg as, .agg bs => avEqL as bs
  | .tup as, .tup bs => avEqL as bs
  | .vs sz as, .vs sz' bs => Nat.beq sz sz' && avEqL as bs
  | .vp as, .vp bs => avEqL as bs
  | .mp id g o, .mp id' g' o' => Nat.beq id id' && Nat.beq g g' && Nat.beq o o'
  | .ms sz id g o n, .ms sz' id' g' o' n' => Nat.beq sz sz' && Nat.beq id id' && Nat.beq g g' && Nat.beq o o' && Nat.beq n n'
  | .es, .es => true
  | .nni, .nni => true
  | .fn f as, .fn f' bs => Nat.beq f f' && avEqL as bs
  | .yl id g, .yl id' g' => Nat.beq id id' && Nat.beq g g'
  | _, _ => false
def avEqL (as bs : List AV) : Bool := match as, bs with
  | [], [] => true
  | a :: as, b :: bs => avEq a b && avEqL as bs
  | _, _ => false
end
mutual
theorem avEq_spec : ∀ {a b : AV}, avEq a b = true → a = b
  | .bad, b, h => by cases b <;> first | rfl | (simp [avEq] at h)
  | .lit u, b, h => by
    cases b <;> simp only [avEq] at h
    all_goals first | (rw [vEq_spec h]) | cases h
  | .agg as, b, h => by
    cases b <;> simp only [avEq] at h
    all_goals first | (rw [avEqL_spec h]) | cases h
  | .tup as, b, h => by
    cases b <;> simp only [avEq] at h
    all_goals first | (rw [avEqL_spec h]) | cases h
  | .vs sz as, b, h => by
    cases b <;> simp only [avEq, Bool.and_eq_true] at h
    all_goals first | (rw [Nat.eq_of_beq_eq_true h.1, avEqL_spec h.2]) | cases h
  | .vp as, b, h => by
    cases b <;> simp only [avEq] at h
    all_goals first | (rw [avEqL_spec h]) | cases h
  | .mp id g o, b, h => by
    cases b <;> simp only [avEq, Bool.and_eq_true] at h
    all_goals first | (rw [Nat.eq_of_beq_eq_true h.1.1, Nat.eq_of_beq_eq_true h.1.2, Nat.eq_of_beq_eq_true h.2]) | cases h
  | .ms sz id g o n, b, h => by
    cases b <;> simp only [avEq, Bool.and_eq_true] at h
    all_goals first | (rw [Nat.eq_of_beq_eq_true h.1.1.1.1, Nat.eq_of_beq_eq_true h.1.1.1.2, Nat.eq_of_beq_eq_true h.1.1.2, Nat.eq_of_beq_eq_true h.1.2, Nat.eq_of_beq_eq_true h.2]) | cases h
  | .es, b, h => by cases b <;> first | rfl | (simp [avEq] at h)
  | .nni, b, h => by cases b <;> first | rfl | (simp [avEq] at h)
  | .fn f as, b, h => by
    cases b <;> simp only [avEq, Bool.and_eq_true] at h
    all_goals first | (rw [Nat.eq_of_beq_eq_true h.1, avEqL_spec h.2]) | cases h
  | .yl id g, b, h => by
    cases b <;> simp only [avEq, Bool.and_eq_true] at h
    all_goals first | (rw [Nat.eq_of_beq_eq_true h.1, Nat.eq_of_beq_eq_true h.2]) | cases h
theorem avEqL_spec : ∀ {as bs : List AV}, avEqL as bs = true → as = bs
  | [], bs, h => by cases bs <;> first | rfl | (simp [avEqL] at h)
  | a :: as, bs, h => by
    cases bs with
    | nil => simp [avEqL] at h
    | cons b bs => simp only [avEqL, Bool.and_eq_true] at h; rw [avEq_spec h.1, avEqL_spec h.2]
end

/-- of the second heap nothing else holds than what the first one says -/
def subHB : AHeap → AHeap → Bool
  | [], _ => true
  | .gone :: M, _ :: H => subHB M H
  | .own g cs :: M, .own g' cs' :: H => Nat.beq g g' && (cs.isEmpty || avEqL cs cs') && subHB M H
  | _, _ => false
theorem subHB_spec : ∀ {M H : AHeap}, subHB M H = true → SubH M H
  | [], H, _ => by simp [SubH]
  | .gone :: M, [], h => by simp [subHB] at h
  | .gone :: M, y :: H, h => by
    simp only [subHB] at h
    have := subHB_spec h
    simp only [SubH]; exact this
  | .own g cs :: M, [], h => by simp [subHB] at h
  | .own g cs :: M, y :: H, h => by
    cases y <;> simp only [subHB, Bool.and_eq_true, Bool.or_eq_true] at h
    case own g' cs' =>
      have ih := subHB_spec h.2
      have hg := Nat.eq_of_beq_eq_true h.1.1; subst hg
      rcases h.1.2 with he | he
      · have : cs = [] := by cases cs <;> first | rfl | cases he
        subst this
        simp only [SubH]
        first | exact ⟨rfl, ih⟩ | exact ⟨trivial, ih⟩ | exact ih
      · have := avEqL_spec he; subst this
        cases cs <;> simp only [SubH] <;> first | exact ⟨rfl, ih⟩ | exact ⟨trivial, ih⟩ | exact ih
    all_goals cases h
  | .raw _ _ _ _ :: M, H, h => by cases H <;> simp [subHB] at h
/-! ### Values made plain: for the kernel, so that nothing is put off -/
section
variable {β : Type}
def fN (n : Nat) (f : Nat → β) : β := match n with
  | 0 => f 0
  | n + 1 => f (n + 1)
theorem fN_eq {n : Nat} {f : Nat → β} : fN n f = f n := by cases n <;> rfl
def fI (n : Int) (f : Int → β) : β := match n with
  | .ofNat m => fN m fun m => f (.ofNat m)
  | .negSucc m => fN m fun m => f (.negSucc m)
theorem fI_eq {n : Int} {f : Int → β} : fI n f = f n := by cases n <;> simp only [fI, fN_eq]
def fV (v : Value) (f : Value → β) : β := match v with
  | .int k n => fI n fun n => f (.int k n)
  | .bool b => (match b with
    | true => f (.bool true)
    | false => f (.bool false))
  | v => f v
theorem fV_eq {v : Value} {f : Value → β} : fV v f = f v := by
  unfold fV
  split
  · exact fI_eq
  · split <;> rfl
  · rfl
def fA1 (a : AV) (f : AV → β) : β := match a with
  | .lit v => f (.lit v)
  | .agg cs => f (.agg cs)
  | .tup cs => f (.tup cs)
  | .vs sz es => f (.vs sz es)
  | .vp cs => f (.vp cs)
  | .mp id g o => f (.mp id g o)
  | .ms sz id g o n => f (.ms sz id g o n)
  | .fn k cs => f (.fn k cs)
  | .bad => f .bad
  | .es => f .es
  | .nni => f .nni
  | .yl id g => f (.yl id g)
theorem fA1_eq {a : AV} {f : AV → β} : fA1 a f = f a := by cases a <;> rfl
noncomputable def fS (as : List AV) (f : List AV → β) : β := List.rec (motive := fun _ => (List AV → β) → β) (fun f => f []) (fun a _ ih f => fA1 a fun a => ih fun as => f (a :: as)) as f
theorem fS_eq : ∀ {as : List AV} {f : List AV → β}, fS as f = f as
  | [], f => rfl
  | a :: as, f => by
    have : fS (a :: as) f = fA1 a fun a => fS as fun as => f (a :: as) := rfl
    rw [this, fA1_eq, fS_eq]
noncomputable def fAV (a : AV) (f : AV → β) : β := match a with
  | .lit v => fV v fun v => f (.lit v)
  | .agg cs => fS cs fun cs => f (.agg cs)
  | .tup cs => fS cs fun cs => f (.tup cs)
  | .vs sz es => fS es fun es => f (.vs sz es)
  | .vp cs => fS cs fun cs => f (.vp cs)
  | .mp id g o => fN id fun id => fN g fun g => fN o fun o => f (.mp id g o)
  | .ms sz id g o n => fN id fun id => fN g fun g => fN o fun o => fN n fun n => f (.ms sz id g o n)
  | .fn k cs => fS cs fun cs => f (.fn k cs)
  | .bad => f .bad
  | .es => f .es
  | .nni => f .nni
  | .yl id g => f (.yl id g)
theorem fAV_eq {a : AV} {f : AV → β} : fAV a f = f a := by cases a <;> simp only [fAV, fV_eq, fS_eq, fN_eq]
noncomputable def fL (as : List AV) (f : List AV → β) : β := fS as f
theorem fL_eq {as : List AV} {f : List AV → β} : fL as f = f as := fS_eq
def fOb (x : AObj) (f : AObj → β) (fs : List AV → (List AV → β) → β) : β := match x with
  | .own g cs => fN g fun g => fs cs fun cs => f (.own g cs)
  | .gone => f .gone
  | .raw g o es us => f (.raw g o es us)
noncomputable def fHp (H : AHeap) (f : AHeap → β) : β := List.rec (motive := fun _ => (AHeap → β) → β) (fun f => f []) (fun x _ ih f => fOb x (fun x => ih fun H => f (x :: H)) fS) H f
theorem fHp_eq : ∀ {H : AHeap} {f : AHeap → β}, fHp H f = f H
  | [], f => rfl
  | x :: H, f => by
    have : fHp (x :: H) f = fOb x (fun x => fHp H fun H => f (x :: H)) fS := rfl
    rw [this]
    cases x <;> simp only [fOb, fN_eq, fS_eq] <;> rw [fHp_eq]
noncomputable def gsetK (l : List (Nat × AV)) (t : Nat) (v : AV) (f : List (Nat × AV) → β) : β :=
  List.rec (motive := fun _ => (List (Nat × AV) → β) → β) (fun f => f [(t, v)]) (fun x r ih f => Prod.rec (fun i u => Bool.rec (ih fun r => f ((i, u) :: r)) (f ((i, v) :: r)) (Nat.beq i t)) x) l f
theorem gsetK_eq : ∀ {l : List (Nat × AV)} {t : Nat} {v : AV} {f : List (Nat × AV) → β}, gsetK l t v f = f (gset l t v)
  | [], t, v, f => rfl
  | (i, u) :: r, t, v, f => by
    have : gsetK ((i, u) :: r) t v f = Bool.rec (gsetK r t v fun r => f ((i, u) :: r)) (f ((i, v) :: r)) (Nat.beq i t) := rfl
    rw [this]
    simp only [gset]
    cases h : Nat.beq i t with
    | true => rw [if_pos (Nat.eq_of_beq_eq_true h)]
    | false =>
      rw [if_neg (fun he => by subst he; simp at h)]
      exact gsetK_eq
noncomputable def putK (e : Env) (d : Option (Bool × Nat)) (v : AV) (f : Env → β) : β := match e with
  | ⟨l, g⟩ => match d with
    | none => f ⟨l, g⟩
    | some (b, t) => match b with
      | true => gsetK g t v fun g => f ⟨l, g⟩
      | false => f ⟨(t, v) :: l, g⟩
theorem putK_eq {e : Env} {d : Option (Bool × Nat)} {v : AV} {f : Env → β} : putK e d v f = f (put e d v) := by
  obtain ⟨l, g⟩ := e
  rcases d with _ | ⟨_ | _, t⟩ <;> simp only [putK, put, gsetK_eq]
def clrK (e : Env) (f : Env → β) : β := match e with
  | ⟨_, g⟩ => f ⟨[], g⟩
theorem clrK_eq {e : Env} {f : Env → β} : clrK e f = f ⟨[], e.g⟩ := rfl
noncomputable def argsK (i : Nat) (as : List AV) (f : List (Nat × AV) → β) : β :=
  List.rec (motive := fun _ => Nat → (List (Nat × AV) → β) → β) (fun _ f => f []) (fun a _ ih i f => fN (i + 1) fun j => ih j fun r => f ((i, a) :: r)) as i f
theorem argsK_eq : ∀ {as : List AV} {i : Nat} {f : List (Nat × AV) → β}, argsK i as f = f (argsG i as)
  | [], i, f => rfl
  | a :: as, i, f => by
    have : argsK i (a :: as) f = fN (i + 1) fun j => argsK j as fun r => f ((i, a) :: r) := rfl
    rw [this, fN_eq, argsK_eq]; rfl
end
noncomputable def lookK (l : List (Nat × AV)) (t : Nat) : AV := List.rec (motive := fun _ => AV) .bad (fun x _ ih => Prod.rec (fun i v => Bool.rec ih v (Nat.beq i t)) x) l
theorem lookK_eq : ∀ {l : List (Nat × AV)} {t : Nat}, lookK l t = look l t
  | [], t => rfl
  | (i, v) :: r, t => by
    have : lookK ((i, v) :: r) t = Bool.rec (lookK r t) v (Nat.beq i t) := rfl
    rw [this]
    simp only [look]
    cases h : Nat.beq i t with
    | true => rw [if_pos (Nat.eq_of_beq_eq_true h)]
    | false =>
      rw [if_neg (fun he => by subst he; simp at h)]
      exact lookK_eq
noncomputable def evK (e : Env) : Od → AV
  | .l t => lookK e.l t
  | .g t => lookK e.g t
  | .c a => a
theorem evK_eq {e : Env} : evK e = ev e := by
  funext x; cases x <;> simp only [evK, ev, lookK_eq]

def wrapK (n : Int) : Int := match n with
  | .ofNat m => match Nat.ble m 9223372036854775807 with
    | true => .ofNat m
    | false => IntKind.i64.wrap (.ofNat m)
  | .negSucc m => match Nat.ble m 9223372036854775807 with
    | true => .negSucc m
    | false => IntKind.i64.wrap (.negSucc m)
theorem wrapK_eq {n : Int} : wrapK n = IntKind.i64.wrap n := by
  unfold wrapK
  split
  · split
    · rename_i m h
      have := Nat.le_of_ble_eq_true h
      exact (wrap_id (by simp only [Int.ofNat_eq_natCast]; omega) (by simp only [Int.ofNat_eq_natCast]; omega)).symm
    · rfl
  · split
    · rename_i m h
      have := Nat.le_of_ble_eq_true h
      exact (wrap_id (by omega) (by omega)).symm
    · rfl
def ltK (a b : Int) : Bool := match a, b with
  | .ofNat m, .ofNat n => Nat.ble (m + 1) n
  | .ofNat _, .negSucc _ => false
  | .negSucc _, .ofNat _ => true
  | .negSucc m, .negSucc n => Nat.ble (n + 1) m
theorem ltK_eq {a b : Int} : ltK a b = iLt a b := by
  unfold ltK iLt
  split
  · rename_i m n
    rw [Bool.eq_iff_iff, Nat.ble_eq, decide_eq_true_eq]; simp only [Int.ofNat_eq_natCast]; omega
  · symm; rw [decide_eq_false_iff_not]; simp only [Int.ofNat_eq_natCast]; omega
  · symm; rw [decide_eq_true_eq]; simp only [Int.ofNat_eq_natCast]; omega
  · rename_i m n
    rw [Bool.eq_iff_iff, Nat.ble_eq, decide_eq_true_eq]; omega
def eqK (a b : Int) : Bool := match a, b with
  | .ofNat m, .ofNat n => Nat.beq m n
  | .negSucc m, .negSucc n => Nat.beq m n
  | _, _ => false
theorem eqK_eq {a b : Int} : eqK a b = iEq a b := by
  unfold eqK iEq
  split
  · rename_i m n
    rw [Bool.eq_iff_iff, Nat.beq_eq, beq_iff_eq]; simp only [Int.ofNat_eq_natCast]; omega
  · rename_i m n
    rw [Bool.eq_iff_iff, Nat.beq_eq, beq_iff_eq]; omega
  · rename_i h1 h2
    symm
    cases a <;> cases b
    · exact absurd rfl (h1 _ _ rfl)
    · simp
    · simp
    · exact absurd rfl (h2 _ _ rfl)
theorem leK_eq {a b : Int} : (!iLt b a) = iLe a b := by
  unfold iLt iLe
  rw [Bool.eq_iff_iff]; simp
end Go.Sas
