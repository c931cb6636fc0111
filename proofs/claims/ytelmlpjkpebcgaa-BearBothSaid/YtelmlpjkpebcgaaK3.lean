/-
Lists that are drawn: loops that append, and how they end.
Conditions: none (lemmas over any program).
-/
import Derived.Test.YtelmlpjkpebcgaaK2
set_option linter.unusedVariables false
set_option linter.unusedSimpArgs false
namespace Go.Sas
variable {cx : Cx} {m : Nat} {k : List AItm} {R : Env → AHeap → Prop} {e : Env} {H : AHeap}
/-- a loop that counts down (by a measure) and appends an element in each round; t: what else changes -/
theorem AGo_grow {α τ : Type} {c : ACode} (g : α → List AV) (Pr : Int → List α → τ → Prop) (S : Int → Nat → τ → List (Nat × AV)) (w0 c0 : Int) (t0 : τ) (h0 : Pr c0 [] t0) (hf0 : Fits e (S c0 0 t0)) (hH0 : HFits m (S c0 0 t0) [.own 0 [U w0], .own 0 []] H)
    (hround : ∀ (w d : Int) (l : List α) (t : τ) (n : Nat) (cs : List AV), n = l.length → cs = l.flatMap g → Pr d l t →
      ∀ Bk : Env → AHeap → Prop, (∀ w' d' x t' e' H', d'.toNat < d.toNat → Pr d' (l ++ [x]) t' → Fits e' (S d' (n + 1) t') → HFits m (S d' (n + 1) t') [.own 0 [U w'], .own (n + 1) (cs ++ g x)] H' → Bk e' H') →
      AGo cx m (.code c :: .bk Bk :: k) R ⟨[], S d n t⟩ [.own 0 [U w], .own n cs]) : AGo cx m (.code (.loop c) :: k) R e H := by
  refine AGo_while (σ := { x : Int × Int × List α × τ // Pr x.2.1 x.2.2.1 x.2.2.2 }) (fun x => x.1.2.1.toNat) (fun x => S x.1.2.1 x.1.2.2.1.length x.1.2.2.2) (fun x => [.own 0 [U x.1.1], .own x.1.2.2.1.length (x.1.2.2.1.flatMap g)]) ⟨(w0, c0, [], t0), h0⟩ hf0 hH0 ?_
  rintro ⟨⟨w, d, l, t⟩, hP⟩ Bk hB
  refine hround w d l t l.length (l.flatMap g) rfl rfl hP Bk fun w' d' x t' e' H' h1 h2 h3 h4 => ?_
  refine hB ⟨(w', d', l ++ [x], t'), h2⟩ e' H' h1 ?_ ?_
  · simpa using h3
  · simpa using h4
/-- the same, where some cells are there already -/
theorem AGo_growC {α τ : Type} {c : ACode} (p0 : List AV) (g : α → List AV) (Pr : Int → List α → τ → Prop) (S : Int → Nat → τ → List (Nat × AV)) (w0 c0 : Int) (t0 : τ) (h0 : Pr c0 [] t0) (hf0 : Fits e (S c0 0 t0)) (hH0 : HFits m (S c0 0 t0) [.own 0 [U w0], .own 0 p0] H)
    (hround : ∀ (w d : Int) (l : List α) (t : τ) (n : Nat) (cs : List AV), n = l.length → cs = p0 ++ l.flatMap g → Pr d l t →
      ∀ Bk : Env → AHeap → Prop, (∀ w' d' x t' e' H', d'.toNat < d.toNat → Pr d' (l ++ [x]) t' → Fits e' (S d' (n + 1) t') → HFits m (S d' (n + 1) t') [.own 0 [U w'], .own (n + 1) (cs ++ g x)] H' → Bk e' H') →
      AGo cx m (.code c :: .bk Bk :: k) R ⟨[], S d n t⟩ [.own 0 [U w], .own n cs]) : AGo cx m (.code (.loop c) :: k) R e H := by
  refine AGo_while (σ := { x : Int × Int × List α × τ // Pr x.2.1 x.2.2.1 x.2.2.2 }) (fun x => x.1.2.1.toNat) (fun x => S x.1.2.1 x.1.2.2.1.length x.1.2.2.2) (fun x => [.own 0 [U x.1.1], .own x.1.2.2.1.length (p0 ++ x.1.2.2.1.flatMap g)]) ⟨(w0, c0, [], t0), h0⟩ hf0 (by simpa using hH0) ?_
  rintro ⟨⟨w, d, l, t⟩, hP⟩ Bk hB
  refine hround w d l t l.length (p0 ++ l.flatMap g) rfl rfl hP Bk fun w' d' x t' e' H' h1 h2 h3 h4 => ?_
  refine hB ⟨(w', d', l ++ [x], t'), h2⟩ e' H' h1 ?_ ?_
  · simpa using h3
  · simpa using h4
/-- spans within spans -/
def Inner : List (Int × Int) → List (Int × Int) → Prop
  | [], [] => True
  | x :: r, y :: l => (y.1 ≤ x.1 ∧ x.1 ≤ x.2 ∧ x.2 ≤ y.2) ∧ Inner r l
  | _, _ => False
theorem Inner.app {x y : Int × Int} : ∀ {r l : List (Int × Int)}, Inner r l → (y.1 ≤ x.1 ∧ x.1 ≤ x.2 ∧ x.2 ≤ y.2) → Inner (r ++ [x]) (l ++ [y])
  | [], [], _, h => ⟨h, trivial⟩
  | _ :: _, _ :: _, h, h' => ⟨h.1, Inner.app h.2 h'⟩
/-- a list, by its elements -/
def LsQ {α : Type} (sz : Nat) (f : α → AV) (P : List α → Prop) (r : AV) : Prop := ∃ l xs, r = .vs sz xs ∧ xs = l.map f ∧ P l
variable {Kk : AV → AHeap → Prop} {r r' : AV}
theorem Frees.row {w : Int} {n sz : Nat} {xs cs : List AV} (hE : Elems sz xs cs) (hr : r.frz 1 n sz xs = r') (hn : r'.nid = true) (h : Kk r' [.own 0 [U w]]) : Frees 1 Kk r [.own 0 [U w], .own n cs] := by
  refine Frees.frz 1 n sz xs rfl hE ?_
  rw [hr]
  have h2 : Frees 1 Kk r' ([.own 0 [U w]] ++ [.gone]) := by
    refine Frees.drop (by simp) ?_ (by simp [ltHB, AV.ltLB, AV.ltB]) (Frees.now h)
    exact ltB_up (Frees.drop0.nid_ltB hn)
  simpa [frzH, AObj.frz, AV.frzL, AV.frz] using h2
where
  ltB_up : ∀ {r : AV}, r.ltB 0 = true → r.ltB 1 = true
    | .bad, _ | .lit _, _ | .vs _ _, _ | .vp _, _ | .es, _ => by simp only [AV.ltB]
    | .agg cs, h => by simp only [AV.ltB] at h ⊢; exact ltLB_up h
    | .tup cs, h => by simp only [AV.ltB] at h ⊢; exact ltLB_up h
    | .fn f cs, h => by simp only [AV.ltB] at h ⊢; exact ltLB_up h
    | .mp _ _ _, h | .ms _ _ _ _ _, h | .yl _ _, h => by simp [AV.ltB] at h
  ltLB_up : ∀ {as : List AV}, AV.ltLB 0 as = true → AV.ltLB 1 as = true
    | [], _ => by simp only [AV.ltLB]
    | a :: as, h => by
      simp only [AV.ltLB, Bool.and_eq_true] at h ⊢
      exact ⟨ltB_up h.1, ltLB_up h.2⟩
theorem Frees.drop1 {w : Int} {T : AHeap} (hn : r.nid = true) (h : Kk r [.own 0 [U w]]) : Frees 1 Kk r (.own 0 [U w] :: T) :=
  Frees.drop (H := [.own 0 [U w]]) (by simp) (Frees.row.ltB_up (Frees.drop0.nid_ltB hn)) (by simp [ltHB, AV.ltLB, AV.ltB]) (Frees.now h)
end Go.Sas
