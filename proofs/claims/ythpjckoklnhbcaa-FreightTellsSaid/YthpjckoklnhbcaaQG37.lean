/-
Freight: what may go on a day (of the kit): contract.
Conditions: none.
-/
import Derived.Test.YthpjckoklnhbcaaHK
set_option linter.unusedVariables false
set_option linter.unusedSimpArgs false
namespace Go.Sas
open Go.Proofs
set_option maxRecDepth 100000
theorem p44 (u v : Int) (ws : List Int) (n : Nat) (hn : n < ws.length) (hw : ws.length ≤ 9223372036854775807) (H : AHeap) {Kk : AV → AHeap → Prop} (h : Kk (I (roomW ⟨u, v, ws⟩ n)) H) :
    ACalls Try.prog 44 [winV u v (.vs 1 (ws.map I)), I (iLen n)] H Kk := by
  refine (fun q => pureC (by rfl) (by rfl) q H h) ?_
  clear h
  intro Kk h
  obtain ⟨ys, hys⟩ : ∃ xs, xs = ws.map I := ⟨_, rfl⟩
  obtain ⟨i, hi⟩ : ∃ i : Int, i = iLen n := ⟨_, rfl⟩
  rw [← hys, ← hi]
  obtain ⟨W, hW⟩ : ∃ W, W = roomW ⟨u, v, ws⟩ n := ⟨_, rfl⟩
  rw [← hW] at h
  obtain ⟨x, hx⟩ : ∃ x, ws[n]? = some x := ⟨_, List.getElem?_eq_getElem hn⟩
  have hWx : W = if u ≤ i ∧ i ≤ v then x else 0 := by rw [hW, hi]; simp only [roomW, List.getD_eq_getElem?_getD, hx]; rfl
  clear hW
  obtain ⟨A, hA⟩ : ∃ A, A = std := ⟨_, rfl⟩
  have hix : A.ix 1 1 ys i [I x] := by subst hA; exact ix_map hys hi hx rfl
  have hll : ∀ x y, A.lt x y = decide (x < y) := by subst hA; intro x y; rfl
  have hle : ∀ x y, A.le x y = decide (x ≤ y) := by subst hA; intro x y; rfl
  have hz1 : A.lt i 0 = false := by rw [hll, hi]; unfold iLen; simp
  have hz2 : A.le (A.vlen ys) i = false := by rw [hle, hi]; subst hA; simp [std, hys, iLen, hn]
  have hl1 := hll i u
  have hl2 := hll v i
  refine go44 rfl (SGo_run hA ⟨[], [], [], []⟩ .nil .nil 200 fun T TD hT hTD => ?_)
  cbv
  split <;> cbv
  · rename_i hz
    have hz : i < u := by have hz := hl1.symm.trans hz; simpa using hz
    exact leaf h (congrArg I (by rw [hWx, if_neg (by omega)])) rfl
  rename_i hz
  have hz : ¬ i < u := by have hz := hl1.symm.trans hz; simpa using hz
  split <;> cbv
  · rename_i hz3
    have hz3 : v < i := by have hz3 := hl2.symm.trans hz3; simpa using hz3
    exact leaf h (congrArg I (by rw [hWx, if_neg (by omega)])) rfl
  rename_i hz3
  have hz3 : ¬ v < i := by have hz3 := hl2.symm.trans hz3; simpa using hz3
  split <;> cbv
  · rename_i hz4; exact Bool.noConfusion (hz4.symm.trans hz1)
  split <;> cbv
  · rename_i hz4; exact Bool.noConfusion (hz4.symm.trans hz2)
  refine Exists.intro _ (And.intro hix ?_); cbv
  exact leaf h (congrArg I (by rw [hWx, if_pos (by omega)])) rfl
def eRoomK : List AV → Option ((AV → Prop) → Prop)
  | [.agg [.lit (.int .i64 u), .lit (.int .i64 v), .vs 1 zs], .lit (.int .i64 i)] =>
    some fun K => ∃ (ws : List Int) (n : Nat), (zs = ws.map I ∧ i = iLen n ∧ n < ws.length ∧ ws.length ≤ 9223372036854775807) ∧ ∀ q, q = roomW ⟨u, v, ws⟩ n → K (I q)
  | _ => none
theorem eRoomK_ok : ∀ args pt, eRoomK args = some pt → ∀ (H : AHeap) (Kk : AV → AHeap → Prop), pt (fun r => Kk r H) → ACalls Try.prog 44 args H Kk := by
  intro args pt h H Kk hk
  unfold eRoomK at h
  split at h
  · cases h
    obtain ⟨ws, n, ⟨rfl, rfl, h1, h2⟩, h3⟩ := hk
    exact p44 _ _ _ _ h1 h2 H (h3 _ rfl)
  · cases h
end Go.Sas
