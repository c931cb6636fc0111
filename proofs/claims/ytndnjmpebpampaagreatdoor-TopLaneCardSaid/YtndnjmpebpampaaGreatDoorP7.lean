/-
Rows that grow: small lemmas.
Functions that draw numbers from a seed: contracts.
Lists that are drawn: loops that append, and how they end.
Values without references.
An abstract machine over values, part 24: loops that name only what changes; steps at objects whose number is not written out.
Conditions: none.
-/
import Derived.Test.YtndnjmpebpampaaGreatDoorP6
set_option linter.unusedVariables false
set_option linter.unusedSimpArgs false
namespace Go.Sas
variable {m : Nat} {H : AHeap} {Kk : AV → AHeap → Prop} {r r' : AV}
theorem Frees.wk (hw : Wk r r') (h : Frees m Kk r' H) : Frees m Kk r H := fun st0 w0 st w v hm he hH hr => h st0 w0 st w v hm he hH (hw _ _ hr)
theorem Wk.tup {as bs : List AV} (h : WkL as bs) : Wk (.tup as) (.tup bs) := fun st v hv => by
  simp only [RelV] at hv ⊢
  obtain ⟨us, h1, h2⟩ := hv
  exact ⟨us, h1, h.rel h2⟩
/-- one element more -/
theorem app_one {sz by_ n : Nat} {cs c : List AV} {v : AV} (hl : cs.length = n * sz) (hv : v.cells = some c) (hb : (n + 1) * by_ ≤ 140737488355328) : appS sz sz by_ cs 0 n [v] (cs ++ c) (n + 1) := by
  refine ⟨rfl, by omega, by simpa using hb, rfl, c, ?_, ?_⟩
  · rw [cellsL_eq]; simp [cellsL, hv]
  · rw [List.drop_zero, List.take_of_length_le (by omega)]
/-- the cells of typed elements -/
theorem cellsL_map {α : Type} {f : α → AV} {g : α → List AV} (hf : ∀ x, (f x).cells = some (g x)) : ∀ (l : List α), cellsL (l.map f) = some (l.flatMap g)
  | [] => rfl
  | x :: l => by simp [cellsL, hf, cellsL_map hf l]
theorem Elems_map {α : Type} {f : α → AV} {g : α → List AV} {sz : Nat} (hf : ∀ x, (f x).cells = some (g x)) (hn : ∀ x, (f x).nid = true) (hs : ∀ x, (g x).length = sz) (l : List α) : Elems sz (l.map f) (l.flatMap g) := by
  refine ⟨cellsL_map hf l, ?_⟩
  simp only [elemsOk, elemsLen, Bool.and_eq_true]
  constructor
  · induction l with
    | nil => rfl
    | cons x l ih => simp only [List.map_cons, AV.nidL, Bool.and_eq_true]; exact ⟨hn x, ih⟩
  · rw [List.all_eq_true]
    intro a ha
    obtain ⟨x, _, rfl⟩ := List.mem_map.1 ha
    rw [hf]; simp [hs]
/-- a row of numbers -/
theorem Elems_I (l : List Int) : Elems 1 (l.map I) (l.map I) := by
  have := Elems_map (f := I) (g := fun n => [I n]) (sz := 1) (fun _ => rfl) (fun _ => rfl) (fun _ => rfl) l
  rw [List.flatMap_singleton'' ] at this
  exact this
where
  List.flatMap_singleton'' : l.flatMap (fun n => [I n]) = l.map I := by
    induction l with
    | nil => rfl
    | cons x l ih => simp [ih]
theorem Elems_sp (l : List (Int × Int)) : Elems 2 (l.map sp) (l.flatMap fun x => [I x.1, I x.2]) := Elems_map (f := sp) (g := fun x => [I x.1, I x.2]) (sz := 2) (fun _ => rfl) (fun _ => rfl) (fun _ => rfl) l
theorem frz_self {id g sz len : Nat} {xs : List AV} (hl : xs.length = len) : AV.frz id g sz xs (.ms sz id g 0 len) = .vs sz xs := by
  simp only [AV.frz, if_true]
  rw [if_pos (by simp [hl])]
  simp [← hl]
theorem len_flat {α β : Type} {f : α → List β} {k : Nat} (hf : ∀ x, (f x).length = k) : ∀ (l : List α), (l.flatMap f).length = l.length * k
  | [] => by simp
  | x :: l => by simp [hf, len_flat hf l, Nat.add_mul]; omega
end Go.Sas
namespace Go.Sas
/-- called with a seed, wherever it lies, the function yields what is of Q, and the seed has another word -/
def Draws (P : Program) (f : Nat) (rest : List AV) (Q : AV → Prop) : Prop := ∀ (w : Int) (id : Nat) (H : AHeap), H[id]? = some (.own 0 [U w]) →
  ∀ (Kk : AV → AHeap → Prop), (∀ w' r, Q r → Kk r (H.set id (.own 0 [U w']))) → ACalls P f (.mp id 0 0 :: rest) H Kk

theorem Draws.of {P : Program} {f : Nat} {rest : List AV} {Q : AV → Prop} (hr : AV.nidL rest = true) (hQ : ∀ r, Q r → r.nid = true)
    (h : ∀ (w : Int) (Kk : AV → AHeap → Prop), (∀ w' r, Q r → Kk r [.own 0 [U w']]) → ACalls P f (.mp 0 0 0 :: rest) [.own 0 [U w]] Kk) : Draws P f rest Q := by
  intro w id H hH Kk hk
  have h1 := h w (fun r H' => ∃ w', Q r ∧ H' = [.own 0 [U w']]) fun w' r hq => ⟨w', hq, rfl⟩
  have h2 := ACalls.frame (H := H) [id] h1 (by simp) rfl (by simp only [AV.ltL, AV.lt, List.length_cons, List.length_nil]; exact ⟨by omega, AV.ltL_nid hr⟩) (by simp [ltH, AObj.lt, AV.ltL, AV.lt])
    (fun k X hX => by
      cases k with
      | zero => simp at hX; subst hX; simpa [at_, AObj.ren, AV.renL, AV.ren] using hH
      | succ k => simp at hX)
  rw [show AV.renL [id] (.mp 0 0 0 :: rest) = .mp id 0 0 :: rest by simp [AV.renL, AV.ren, at_, AV.renL_nid hr]] at h2
  refine h2.mono fun r H' hx => ?_
  obtain ⟨r0, H1, ⟨w', hq, rfl⟩, _, rfl, rfl⟩ := hx
  rw [AV.ren_nid (hQ _ hq)]
  have := hk w' r0 hq
  simpa [merge, updL, AObj.ren, AV.renL, AV.ren] using this

/-- an entry of a table of such functions -/
def eDraw (spec : List AV → Option ((Unit → Prop) × (AV → Prop))) : List AV → AHeap → Option PT
  | .mp id 0 0 :: rest, H => match spec rest with
    | some (pre, Q) => match H[id]? with
      | some (.own 0 [.lit (.int .u64 _)]) => some fun K => ∃ _u : Unit, pre () ∧ ∀ w' r, Q r → K r (H.set id (.own 0 [U w']))
      | _ => none
    | none => none
  | _, _ => none
theorem eDraw_ok {P : Program} {f : Nat} {spec : List AV → Option ((Unit → Prop) × (AV → Prop))} (h : ∀ rest pre Q, spec rest = some (pre, Q) → pre () → Draws P f rest Q) : ∀ args H pt, eDraw spec args H = some pt → ∀ (Kk : AV → AHeap → Prop), pt Kk → ACalls P f args H Kk := by
  intro args H pt hp Kk hk
  unfold eDraw at hp
  split at hp
  · split at hp
    · rename_i pre Q hQ
      split at hp
      · rename_i w hX
        cases hp
        obtain ⟨_, h1, h2⟩ := hk
        exact h _ _ _ hQ h1 _ _ _ hX Kk h2
      · cases hp
    · cases hp
  · cases hp
/-- a span between two numbers -/
def Spn (lo hi : Int) (r : AV) : Prop := ∃ a b, r = .agg [I a, I b] ∧ lo ≤ a ∧ a ≤ b ∧ b ≤ hi
def AllI (xs : List AV) : Prop := ∀ x ∈ xs, ∃ n, x = I n
def sNext : List AV → Option ((Unit → Prop) × (AV → Prop))
  | [] => some (fun _ => True, fun r => ∃ n, r = U n ∧ 0 ≤ n ∧ n < 18446744073709551616)
  | _ => none
def sBelow : List AV → Option ((Unit → Prop) × (AV → Prop))
  | [.lit (.int .i64 n)] => some (fun _ => n ≤ 9223372036854775807, fun r => ∃ k, r = I k ∧ 0 ≤ k ∧ (k < n ∨ k = 0))
  | _ => none
def sFrom : List AV → Option ((Unit → Prop) × (AV → Prop))
  | [.lit (.int .i64 a), .lit (.int .i64 b)] => some (fun _ => (-1000000000000 ≤ a ∧ a ≤ 1000000000000) ∧ (-1000000000000 ≤ b ∧ b ≤ 1000000000000), fun r => ∃ k, r = I k ∧ a ≤ k ∧ (k ≤ b ∨ k = a))
  | _ => none
def sYes : List AV → Option ((Unit → Prop) × (AV → Prop))
  | [.lit (.int .i64 n)] => some (fun _ => n ≤ 9223372036854775807, fun r => ∃ b, r = B b)
  | _ => none
def sOf : List AV → Option ((Unit → Prop) × (AV → Prop))
  | [x] => match asVs 1 x with
    | some xs => some (fun _ => xs ≠ [] ∧ xs.length < 1000000 ∧ AllI xs, fun r => ∃ k, r = I k ∧ I k ∈ xs)
    | none => none
  | _ => none
def sSpan : List AV → Option ((Unit → Prop) × (AV → Prop))
  | [.lit (.int .i64 a), .lit (.int .i64 b)] => some (fun _ => -1000000000 ≤ a ∧ a ≤ b ∧ b ≤ 1000000000, Spn a b)
  | _ => none
end Go.Sas
namespace Go.Sas
variable {cx : Cx} {m : Nat} {k : List AItm} {R : Env → AHeap → Prop} {e : Env} {H : AHeap}
/-- the same, where some cells are there already -/
theorem AGo_growC {α τ : Type} {c : ACode} (p0 : List AV) (g : α → List AV) (Pr : Int → List α → τ → Prop) (S : Int → Nat → τ → List (Nat × AV)) (w0 c0 : Int) (t0 : τ) (h0 : Pr c0 [] t0) (hf0 : Fits e (S c0 0 t0)) (hH0 : HFits m (S c0 0 t0) [.own 0 [U w0], .own 0 p0] H)
    (hround : ∀ (w d : Int) (l : List α) (t : τ) (n : Nat) (cs : List AV), n = l.length → cs = p0 ++ l.flatMap g → Pr d l t →
      ∀ Bk : Env → AHeap → Prop, (∀ w' d' x t' e' H', d'.toNat < d.toNat → Pr d' (l ++ [x]) t' → Fits e' (S d' (n + 1) t') → HFits m (S d' (n + 1) t') [.own 0 [U w'], .own (n + 1) (cs ++ g x)] H' → Bk e' H') →
      AGo cx m (.code c :: .bk Bk :: k) R ⟨[], S d n t⟩ [.own 0 [U w], .own n cs]) : AGo cx m (.code (.loop c) :: k) R e H := by
  refine AGo_while (σ := { x : Int × Int × List α × τ // Pr x.2.1 x.2.2.1 x.2.2.2 }) (fun x => x.1.2.1.toNat) (fun x => S x.1.2.1 x.1.2.2.1.length x.1.2.2.2) (fun x => [.own 0 [U x.1.1], .own x.1.2.2.1.length (p0 ++ x.1.2.2.1.flatMap g)]) ⟨(w0, c0, [], t0), h0⟩ hf0 (by simpa using hH0) ?_
  rintro ⟨⟨w, d, l, t⟩, hP⟩ Bk hB
  refine hround w d l t l.length (p0 ++ l.flatMap g) rfl rfl hP Bk fun w' d' x t' e' H' h1 h2 h3 h4 => ?_
  refine hB ⟨(w', d', l ++ [x], t'), h2⟩ e' H' h1 ?_ ?_
  · simpa using h3
  · simpa using h4
/-- spans within spans -/
def Inner : List (Int × Int) → List (Int × Int) → Prop
  | [], [] => True
  | x :: r, y :: l => (y.1 ≤ x.1 ∧ x.1 ≤ x.2 ∧ x.2 ≤ y.2) ∧ Inner r l
  | _, _ => False
theorem Inner.app {x y : Int × Int} : ∀ {r l : List (Int × Int)}, Inner r l → (y.1 ≤ x.1 ∧ x.1 ≤ x.2 ∧ x.2 ≤ y.2) → Inner (r ++ [x]) (l ++ [y])
  | [], [], _, h => ⟨h, trivial⟩
  | _ :: _, _ :: _, h, h' => ⟨h.1, Inner.app h.2 h'⟩
/-- a list, by its elements -/
def LsQ {α : Type} (sz : Nat) (f : α → AV) (P : List α → Prop) (r : AV) : Prop := ∃ l xs, r = .vs sz xs ∧ xs = l.map f ∧ P l
variable {Kk : AV → AHeap → Prop} {r r' : AV}
theorem Frees.row {w : Int} {n sz : Nat} {xs cs : List AV} (hE : Elems sz xs cs) (hr : r.frz 1 n sz xs = r') (hn : r'.nid = true) (h : Kk r' [.own 0 [U w]]) : Frees 1 Kk r [.own 0 [U w], .own n cs] := by
  refine Frees.frz 1 n sz xs rfl hE ?_
  rw [hr]
  have h2 : Frees 1 Kk r' ([.own 0 [U w]] ++ [.gone]) := by
    refine Frees.drop (by simp) ?_ (by simp [ltHB, AV.ltLB, AV.ltB]) (Frees.now h)
    exact ltB_up (Frees.drop0.nid_ltB hn)
  simpa [frzH, AObj.frz, AV.frzL, AV.frz] using h2
where
  ltB_up : ∀ {r : AV}, r.ltB 0 = true → r.ltB 1 = true
    | .bad, _ | .lit _, _ | .vs _ _, _ | .vp _, _ | .es, _ | .nni, _ => by simp only [AV.ltB]
    | .agg cs, h => by simp only [AV.ltB] at h ⊢; exact ltLB_up h
    | .tup cs, h => by simp only [AV.ltB] at h ⊢; exact ltLB_up h
    | .fn f cs, h => by simp only [AV.ltB] at h ⊢; exact ltLB_up h
    | .mp _ _ _, h | .ms _ _ _ _ _, h | .yl _ _, h => by simp [AV.ltB] at h
  ltLB_up : ∀ {as : List AV}, AV.ltLB 0 as = true → AV.ltLB 1 as = true
    | [], _ => by simp only [AV.ltLB]
    | a :: as, h => by
      simp only [AV.ltLB, Bool.and_eq_true] at h ⊢
      exact ⟨ltB_up h.1, ltLB_up h.2⟩
theorem Frees.drop1 {w : Int} {T : AHeap} (hn : r.nid = true) (h : Kk r [.own 0 [U w]]) : Frees 1 Kk r (.own 0 [U w] :: T) :=
  Frees.drop (H := [.own 0 [U w]]) (by simp) (Frees.row.ltB_up (Frees.drop0.nid_ltB hn)) (by simp [ltHB, AV.ltLB, AV.ltB]) (Frees.now h)
end Go.Sas
namespace Go.Sas
variable {m : Nat} {H : AHeap} {Kk : AV → AHeap → Prop} {r r' : AV}
mutual
theorem AV.frz_nid {id g sz : Nat} {xs0 : List AV} : ∀ {a : AV}, a.nid = true → a.frz id g sz xs0 = a
  | .bad, _ => rfl
  | .lit _, _ => rfl
  | .agg cs, h => by simp only [AV.nid] at h; simp only [AV.frz, AV.frzL_nid h]
  | .tup cs, h => by simp only [AV.nid] at h; simp only [AV.frz, AV.frzL_nid h]
  | .vs _ _, _ => rfl
  | .vp _, _ => rfl
  | .mp _ _ _, h => by simp [AV.nid] at h
  | .ms _ _ _ _ _, h => by simp [AV.nid] at h
  | .yl _ _, h => by simp [AV.nid] at h
  | .es, _ => rfl
  | .nni, _ => rfl
  | .fn _ cs, h => by simp only [AV.nid] at h; simp only [AV.frz, AV.frzL_nid h]
theorem AV.frzL_nid {id g sz : Nat} {xs0 : List AV} : ∀ {bs : List AV}, AV.nidL bs = true → AV.frzL id g sz xs0 bs = bs
  | [], _ => rfl
  | a :: bs, h => by
    simp only [AV.nidL, Bool.and_eq_true] at h
    simp only [AV.frzL, AV.frz_nid h.1, AV.frzL_nid h.2]
end
mutual
theorem nid_ltBn {n : Nat} : ∀ {a : AV}, a.nid = true → a.ltB n = true
  | .bad, _ => rfl
  | .lit _, _ => rfl
  | .agg cs, h => by simp only [AV.nid] at h; simp only [AV.ltB]; exact nidL_ltBn h
  | .tup cs, h => by simp only [AV.nid] at h; simp only [AV.ltB]; exact nidL_ltBn h
  | .vs _ _, _ => rfl
  | .vp _, _ => rfl
  | .mp _ _ _, h => by simp [AV.nid] at h
  | .ms _ _ _ _ _, h => by simp [AV.nid] at h
  | .yl _ _, h => by simp [AV.nid] at h
  | .es, _ => rfl
  | .nni, _ => rfl
  | .fn _ cs, h => by simp only [AV.nid] at h; simp only [AV.ltB]; exact nidL_ltBn h
theorem nidL_ltBn {n : Nat} : ∀ {bs : List AV}, AV.nidL bs = true → AV.ltLB n bs = true
  | [], _ => rfl
  | a :: bs, h => by
    simp only [AV.nidL, Bool.and_eq_true] at h
    simp only [AV.ltLB, nid_ltBn h.1, nidL_ltBn h.2, Bool.and_self]
end
theorem nidL_app : ∀ {a b : List AV}, AV.nidL a = true → AV.nidL b = true → AV.nidL (a ++ b) = true
  | [], _, _, h => h
  | x :: a, b, h, h' => by
    simp only [AV.nidL, Bool.and_eq_true, List.cons_append] at h ⊢
    exact ⟨h.1, nidL_app h.2 h'⟩
theorem nidL_flat {α : Type} {g : α → List AV} (h : ∀ x, AV.nidL (g x) = true) : ∀ (l : List α), AV.nidL (l.flatMap g) = true
  | [] => rfl
  | x :: l => by rw [List.flatMap_cons]; exact nidL_app (h x) (nidL_flat h l)
theorem nidL_map {α : Type} {g : α → AV} (h : ∀ x, (g x).nid = true) : ∀ (l : List α), AV.nidL (l.map g) = true
  | [] => rfl
  | x :: l => by simp only [List.map_cons, AV.nidL, h x, nidL_map h l, Bool.and_self]
/-- it names no object -/
def AObj.nid : AObj → Prop
  | .gone => True
  | .own _ cs => AV.nidL cs = true
  | .raw _ _ _ _ => False
end Go.Sas
namespace Go.Sas
variable {cx : Cx} {m : Nat} {k : List AItm} {R : Env → AHeap → Prop} {e : Env} {H H' : AHeap}
/-- what some temporaries hold -/
def keepS (ks : List Nat) (G : List (Nat × AV)) : List (Nat × AV) := ks.map fun t => (t, look G t)
theorem fits_app {e : Env} : ∀ {a b : List (Nat × AV)}, Fits e a → Fits e b → Fits e (a ++ b)
  | [], _, _, h => h
  | _ :: _, _, h1, h2 => ⟨h1.1, fits_app h1.2 h2⟩
theorem fits_keep {e : Env} : ∀ (ks : List Nat), Fits e (keepS ks e.g)
  | [] => trivial
  | _ :: ks => ⟨rfl, fits_keep ks⟩
/-- a loop that counts up: what changes, and what is kept -/
theorem AGo_upE {c : ACode} {σ : Type} (ks : List Nat) (N : Nat) (Pr : Nat → σ → Prop) (S : Nat → σ → Int → List (Nat × AV)) (HS : Nat → σ → AHeap) (s0 : σ) (h0 : Pr 0 s0) (hf0 : Fits e (S 0 s0 (iLen 0))) (hH0 : HFits m (S 0 s0 (iLen 0) ++ keepS ks e.g) (HS 0 s0) H)
    (hround : ∀ (j : Nat) (s : σ) (i : Int), i = iLen j → j ≤ N → Pr j s → ∀ Bk : Env → AHeap → Prop, (∀ s' e' H', j < N → Pr (j + 1) s' → Fits e' (S (j + 1) s' (iLen (j + 1))) → Fits e' (keepS ks e.g) → HFits m (S (j + 1) s' (iLen (j + 1)) ++ keepS ks e.g) (HS (j + 1) s') H' → Bk e' H') →
      AGo cx m (.code c :: .bk Bk :: k) R ⟨[], S j s i ++ keepS ks e.g⟩ (HS j s)) : AGo cx m (.code (.loop c) :: k) R e H :=
  AGo_upS N Pr (fun j s i => S j s i ++ keepS ks e.g) HS s0 h0 (fits_app hf0 (fits_keep ks)) hH0 fun j s i hi hj hP Bk hB =>
    hround j s i hi hj hP Bk fun s' e' H' h1 h2 h3 h4 h5 => hB s' e' H' h1 h2 (fits_app h3 h4) h5
/-- a loop, by a measure: what changes, and what is kept -/
theorem AGo_whileE {c : ACode} {σ : Type} (ks : List Nat) (μ : σ → Nat) (Pr : σ → Prop) (S : σ → List (Nat × AV)) (HS : σ → AHeap) (x0 : σ) (h0 : Pr x0) (hf0 : Fits e (S x0)) (hH0 : HFits m (S x0 ++ keepS ks e.g) (HS x0) H)
    (hround : ∀ (x : σ), Pr x → ∀ Bk : Env → AHeap → Prop, (∀ y e' H', μ y < μ x → Pr y → Fits e' (S y) → Fits e' (keepS ks e.g) → HFits m (S y ++ keepS ks e.g) (HS y) H' → Bk e' H') → AGo cx m (.code c :: .bk Bk :: k) R ⟨[], S x ++ keepS ks e.g⟩ (HS x)) : AGo cx m (.code (.loop c) :: k) R e H :=
  AGo_while (σ := { x : σ // Pr x }) (fun x => μ x.1) (fun x => S x.1 ++ keepS ks e.g) (fun x => HS x.1) ⟨x0, h0⟩ (fits_app hf0 (fits_keep ks)) hH0 fun x Bk hB =>
    hround x.1 x.2 Bk fun y e' H' h1 h2 h3 h4 h5 => hB ⟨y, h2⟩ e' H' h1 (fits_app h3 h4) h5
section
variable {d : Option (Bool × Nat)} {op : AOp} {g : Option (Od × Bool)} {rest : List AOper}
end
/-- of an object nothing is said any more -/
theorem RelH.weak {st : St} {w : World} {q gg : Nat} {cs : List AV} (hH : RelH st w H) (hX : H[q]? = some (.own gg cs)) : RelH st w (H.set q (.own gg [])) := by
  refine ⟨by simp [hH.len], hH.rd, fun id l X hl hXX => ?_, hH.inj⟩
  rw [List.getElem?_set] at hXX
  split at hXX
  · rename_i he; subst he
    split at hXX
    · cases hXX
      have h := hH.obj q l _ hl hX
      simp only [ObjOk] at h ⊢
      refine ⟨h.1, fun b o r hb => ?_⟩
      obtain ⟨arr, T, us, f1, f2, _, _, _, _⟩ := h.2 b o r hb
      exact ⟨arr, T, [], f1, f2, Nat.zero_le _, RelL.nil, by simp, by simp⟩
    · cases hXX
  · exact hH.obj id l X hl hXX
theorem RelL.setAt {st : St} {a : AV} : ∀ {cs : List AV} {us : List Value} {i : Nat}, RelL st cs us → (∀ u, us[i]? = some u → RelV st a u) → RelL st (cs.set i a) us
  | [], us, i, h, _ => by simpa using h
  | c :: cs, us, 0, h, ha => by
    obtain ⟨u, us', rfl, h2, h3⟩ := h.uncons
    exact RelL.cons (ha u (by simp)) h3
  | c :: cs, us, i + 1, h, ha => by
    obtain ⟨u, us', rfl, h2, h3⟩ := h.uncons
    exact RelL.cons h2 (RelL.setAt h3 fun v hv => ha v (by simpa using hv))
theorem AGo_nilcell {cx : Cx} {m : Nat} {k : List AItm} {R : Env → AHeap → Prop} {e : Env} {H : AHeap} (id i sz : Nat) {g : Nat} {cs : List AV} (hX : H[id]? = some (.own g cs)) (hi : cs[i]? = some (.lit (.slice none 0 0)))
    (h : AGo cx m k R e (H.set id (.own g (cs.set i (.ms sz H.length 0 0 0))) ++ [.own 0 []])) : AGo cx m k R e H := by
  refine AGo_turn (fun st w hH => ?_) (h := h)
  obtain ⟨g1, g2, g3⟩ := push_none hH []
  have hid := (List.getElem?_eq_some_iff.1 hX).1
  refine ⟨_, g1, ⟨by rw [g2.len]; simp, g2.rd, fun j l X hl hY => ?_, g2.inj⟩, fun t v hv => hv.mono g1.le, fun t v hv => hv.mono g1.le, fun _ h => h, fun _ h => h⟩
  rcases Nat.lt_trichotomy j H.length with hj | hj | hj
  · rw [List.getElem?_append_left (by simpa using hj)] at hY
    by_cases he : j = id
    · subst he
      rw [List.getElem?_set_self hid] at hY; cases hY
      have h4 := g2.obj j l _ hl (by rw [List.getElem?_append_left hj]; exact hX)
      simp only [ObjOk] at h4 ⊢
      refine ⟨h4.1, fun b o r hb => ?_⟩
      obtain ⟨arr, T, us, f1, f2, f3, f4, f5, f6⟩ := h4.2 b o r hb
      refine ⟨arr, T, us, f1, f2, by simpa using f3, RelL.setAt f4 fun u hu => ?_, f5, f6⟩
      obtain ⟨u2, e1, e2⟩ := f4.get hi
      rw [hu] at e1; cases e1
      simp only [RelV] at e2 ⊢
      exact ⟨_, g3, Nat.le_refl _, fun h => absurd h (Nat.lt_irrefl _), fun _ => ⟨none, 0, e2, Nat.le_refl _, fun h => absurd h (Nat.lt_irrefl _)⟩⟩
    · rw [List.getElem?_set_ne (Ne.symm he)] at hY
      exact g2.obj j l X hl (by rw [List.getElem?_append_left hj]; exact hY)
  · subst hj
    rw [List.getElem?_append_right (by simp)] at hY
    refine g2.obj _ l X hl ?_
    rw [List.getElem?_append_right (Nat.le_refl _)]
    simpa using hY
  · rw [List.getElem?_eq_none (by simp; omega)] at hY; cases hY
end Go.Sas
