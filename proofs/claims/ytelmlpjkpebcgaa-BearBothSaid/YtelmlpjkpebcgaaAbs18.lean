/-
An abstract machine over values, part 18: rules for everyday use.
Conditions: none (lemmas over any program).
-/
import Derived.Test.YtelmlpjkpebcgaaAbs17
set_option linter.unusedVariables false
set_option linter.unusedSimpArgs false
namespace Go.Sas
variable {cx : Cx} {m : Nat} {k : List AItm} {R : Env → AHeap → Prop} {e : Env} {H H' : AHeap} {D : Option DM} {L : List DItm} {it : DItm}

/-- a number, a word -/
abbrev I (n : Int) : AV := .lit (.int .i64 n)
abbrev U (n : Int) : AV := .lit (.int .u64 n)
abbrev B (b : Bool) : AV := .lit (.bool b)
/-- a pair of numbers -/
abbrev sp (x : Int × Int) : AV := .agg [I x.1, I x.2]

theorem leaf {Kk : AV → AHeap → Prop} {r r' : AV} {H H' : AHeap} (h : Kk r' H') (hr : r' = r) (hH : H' = H) : Kk r H := by subst hr; subst hH; exact h

theorem DGo_mov {D' : DM} {r : AV} (hm : movB it.o.op = true) (hg : gOk e it.o.grd = some true) (hn : ∀ z, it.o.op ≠ .new z) (hr : opVal (ev e) D'.M it.o.op = some r) (h : DGo cx m k R (some D') L (put e it.o.dst r) H) : DGo cx m k R (some D') (it :: L) e H := by
  simp only [DGo, JStep, hm]
  refine ⟨r, ?_, h⟩
  unfold MVal
  simp only [hg]
  try exact hr

/-- an element of a slice -/
theorem AGo_ia {d : Option (Bool × Nat)} {g : Option (Od × Bool)} {rest : List AOper} {sz : Nat} {x i : Od} {es c : List AV} {q : IntKind} {n : Int} (hg : gOk e g = some true) (hx : ev e x = .vs sz es) (hi : ev e i = .lit (.int q n))
    (hc : iaA H sz (.vs sz es) (.lit (.int q n)) = some (.vp c)) (h : AGo cx m (.ops rest :: k) R (put e d (.vp c)) H) : AGo cx m (.ops (⟨d, .ia sz x i, g⟩ :: rest) :: k) R e H :=
  AGo_val hg (by simp only [opVal, hx, hi]; exact hc) h

theorem DGo_ia {D' : DM} {d : Option (Bool × Nat)} {g : Option (Od × Bool)} {j : Nat} {tl : Bool} {ws : List Nat} {sz : Nat} {x i : Od} {es c : List AV} {q : IntKind} {n : Int} (hg : gOk e g = some true) (hx : ev e x = .vs sz es) (hi : ev e i = .lit (.int q n))
    (hc : iaA D'.M sz (.vs sz es) (.lit (.int q n)) = some (.vp c)) (h : DGo cx m k R (some D') L (put e d (.vp c)) H) : DGo cx m k R (some D') (⟨⟨d, .ia sz x i, g⟩, j, tl, ws⟩ :: L) e H :=
  DGo_mov rfl hg (by intro z hz; cases hz) (by simp only [opVal, hx, hi]; exact hc) h

/-- a loop that counts up -/
theorem AGo_for {c : ACode} (N : Nat) (S : Nat → List (Nat × AV)) (HS : Nat → AHeap) (k0 : Nat) (hk0 : k0 ≤ N) (h0 : Fits e (S k0)) (hH0 : HFits m (S k0) (HS k0) H)
    (hround : ∀ j, j ≤ N → AGo cx m (.code c :: .bk (fun e' H' => j < N ∧ Fits e' (S (j + 1)) ∧ HFits m (S (j + 1)) (HS (j + 1)) H') :: k) R ⟨[], S j⟩ (HS j)) : AGo cx m (.code (.loop c) :: k) R e H := by
  refine AGo_loop (σ := { j : Nat // j ≤ N }) (fun j => S j.1) (fun j => HS j.1) (fun j => N - j.1) ⟨k0, hk0⟩ h0 hH0 fun ⟨j, hj⟩ => ?_
  have := hround j hj
  intro st0 w0 kc hm hk st a w hr
  obtain ⟨y, k1, rfl, h1, h2⟩ := hk
  obtain ⟨y2, k2, rfl, h3, h4⟩ := h2
  cases y2 <;> simp only [TrItm] at h3
  subst h3
  have hgo := this st0 w0 (y :: .bk _ :: k2) hm ⟨_, _, rfl, h1, _, _, rfl, rfl, h4⟩ st a w hr
  cases y <;> simp only [TrItm] at h1
  simp only [GoK, ExK] at hgo ⊢
  refine wpIn_mono hgo fun ex a' w' hq => ?_
  cases ex <;> simp only at hq ⊢ <;> try exact hq
  obtain ⟨st', e', H', hr', hlt, hf, hh⟩ := hq
  exact ⟨st', e', H', hr', ⟨j + 1, by omega⟩, by simp only; omega, hf, hh⟩

/-! ### Numbers that fit -/
theorem wrap_id {n : Int} (h1 : -9223372036854775808 ≤ n) (h2 : n ≤ 9223372036854775807) : IntKind.i64.wrap n = n := by
  simp [IntKind.wrap, IntKind.signed, IntKind.bits]
  omega

/-- a number of Go's int -/
def Fit (n : Int) : Prop := -9223372036854775808 ≤ n ∧ n ≤ 9223372036854775807

theorem iAdd_id {a b : Int} (h1 : -9223372036854775808 ≤ a + b) (h2 : a + b ≤ 9223372036854775807) : iAdd .i64 a b = a + b := wrap_id h1 h2
theorem iSub_id {a b : Int} (h1 : -9223372036854775808 ≤ a - b) (h2 : a - b ≤ 9223372036854775807) : iSub .i64 a b = a - b := wrap_id h1 h2
theorem iMul_id {a b : Int} (h1 : -9223372036854775808 ≤ a * b) (h2 : a * b ≤ 9223372036854775807) : iMul .i64 a b = a * b := wrap_id h1 h2

theorem iaA_map {α : Type} {f : α → AV} {c : List AV} {es : List AV} {l : List α} {sz j : Nat} {x : α} {H : AHeap} {q : IntKind} {i : Int} (hes : es = l.map f) (hi : i = j) (hx : l[j]? = some x) (hc : (f x).cells = some c) :
    iaA H sz (.vs sz es) (.lit (.int q i)) = some (.vp c) := by
  subst hes; subst hi
  simp [iaA, hx, hc]
end Go.Sas
