/-
Freight: lists of plans: Contains, Clone.
Freight: all plans are handed out: contract.
Freight: all plans are handed out: contract of the function that grows them.
Freight: what valid freights are; entries of tables.
Conditions: none.
-/
import Derived.Test.YtafplipkiaolmaaHD
import Derived.Test.YtafplipkiaolmaaP6
set_option linter.unusedVariables false
set_option linter.unusedSimpArgs false
namespace Go.Sas
open Go.Proofs
set_option maxRecDepth 100000
abbrev natI (k : Nat) : AV := I (iLen k)
/-- what is handed over is nobody's to write any more -/
theorem ACalls.frz {P : Program} {f : Nat} {args : List AV} {H : AHeap} {K : AV → AHeap → Prop} (id g sz : Nat) {cs : List AV} (xs0 : List AV) (hX : H[id]? = some (.own g cs)) (hE : Elems sz xs0 cs) (h : ACalls P f (AV.frzL id g sz xs0 args) (frzH id g sz xs0 (H.set id .gone)) K) : ACalls P f args H K := by
  refine ⟨h.1, fun st w vals hH hv => ?_⟩
  obtain ⟨st', g1, g2, g3⟩ := freezeAll hH hX hE
  have hr : ∀ {bs : List AV} {us : List Value}, RelL st bs us → RelL st' (AV.frzL id g sz xs0 bs) us := by
    intro bs
    induction bs with
    | nil => intro us hu; simp only [RelL] at hu; subst hu; exact RelL.nil
    | cons a bs ih => intro us hu; obtain ⟨u, us', rfl, h1, h2⟩ := hu.uncons; exact RelL.cons (g3 _ _ h1) (ih h2)
  refine (h.2 st' w vals g2 (hr hv)).mono fun x w' hx => ?_
  obtain ⟨v, r, H', st2, e1, e2, e3, e4, e5⟩ := hx
  exact ⟨v, r, H', st2, e1, g1.trans e2, e3, e4, e5⟩
theorem RetP.both {rs : List ARes} {m : Nat} {Kk : AV → AHeap → Prop} {e : Env} {H : AHeap} {vs : List AV} (h1 : aResL e H rs = some vs) (h : Kk (aTup vs) H) (h' : Kk (aTup vs) (H.take m)) : RetP rs m Kk e H := by
  unfold RetP
  rw [h1]
  dsimp only
  split
  · exact h'
  · exact h
end Go.Sas
namespace Go.Sas
open Go.Proofs
set_option maxRecDepth 100000
theorem RetP.take {rs : List ARes} {m : Nat} {Kk : AV → AHeap → Prop} {e : Env} {H : AHeap} {vs : List AV} (h1 : aResL e H rs = some vs) (hv : AV.ltB m (aTup vs) = true) (hl : ltHB m (H.take m) = true) (h' : Kk (aTup vs) (H.take m)) : RetP rs m Kk e H := by
  unfold RetP
  rw [h1]
  dsimp only
  rw [if_pos (by rw [hv, hl]; rfl)]
  exact h'
theorem ite_bothF {c p : Prop} {d : Decidable c} (h : p) : @ite _ c d p p := by split <;> exact h
end Go.Sas
namespace Go.Sas
open Go.Proofs
set_option maxRecDepth 100000
/-- what a round does: which plan is best so far, and what it costs -/
structure Rnd where
  σ : Type
  pa : σ → AV
  na : σ → AV
  stp : σ → List Nat → σ
  hp : ∀ s, (pa s).nid = true
  hn : ∀ s, (na s).nid = true
end Go.Sas
namespace Go.Sas
open Go.Proofs
set_option maxRecDepth 100000
theorem firstE_ok0 {α : Type} {f : α → Int} : ∀ {l : List α}, firstEF f l = 0 → ∀ x ∈ l, f x = 0
  | [], _, _, hx => by simp at hx
  | a :: l, h, x, hx => by
    simp only [firstEF] at h
    by_cases h1 : f a = 0
    · rw [if_pos h1] at h
      rcases List.mem_cons.1 hx with rfl | hx
      · exact h1
      · exact firstE_ok0 h x hx
    · rw [if_neg h1] at h; exact absurd h h1
structure FrtV (f : Frt) : Prop where
  c1 : 1 ≤ f.caps.length
  c2 : f.caps.length ≤ 200
  cb : ∀ x ∈ f.caps, 0 ≤ x.1 ∧ x.1 ≤ x.2 ∧ x.2 ≤ 1000000
  fi : 0 ≤ f.fi.1 ∧ f.fi.1 ≤ f.fi.2 ∧ f.fi.2 ≤ f.caps.length - 1
  la : 0 ≤ f.la.1 ∧ f.la.1 ≤ f.la.2 ∧ f.la.2 ≤ f.caps.length - 1
  o1 : 1 ≤ f.ords.length
  o2 : f.ords.length ≤ 6
  ob : ∀ o ∈ f.ords, (1 ≤ o.u ∧ o.u ≤ 1000000) ∧ (0 ≤ o.d ∧ o.d ≤ 200) ∧ (0 ≤ o.l ∧ o.l ≤ o.s ∧ o.s ≤ 1000000)
theorem faultF_ok {a b lo hi : Int} (h : faultF a b lo hi = 0) : lo ≤ a ∧ a ≤ b ∧ b ≤ hi := by
  unfold faultF at h
  split at h
  · omega
  · split at h <;> omega
theorem faultF_ok' {a b lo hi : Int} (h : lo ≤ a ∧ a ≤ b ∧ b ≤ hi) : faultF a b lo hi = 0 := by
  unfold faultF
  rw [if_neg (by omega), if_neg (by omega)]
theorem ordE_ok {o : Ord} (h : ordE o = 0) : (1 ≤ o.u ∧ o.u ≤ 1000000) ∧ (0 ≤ o.d ∧ o.d ≤ 200) ∧ (0 ≤ o.l ∧ o.l ≤ o.s ∧ o.s ≤ 1000000) := by
  unfold ordE at h
  split at h
  · omega
  · split at h <;> omega
theorem orElse_ok {a b : Int} (h : orElseF a b = 0) : a = 0 ∧ b = 0 := by
  unfold orElseF at h
  split at h <;> omega
theorem checkF_ok {f : Frt} (h : checkF f = 0) : FrtV f := by
  unfold checkF at h
  split at h
  · omega
  split at h
  · omega
  obtain ⟨h1, h2⟩ := orElse_ok h
  obtain ⟨h2, h3⟩ := orElse_ok h2
  obtain ⟨h3, h4⟩ := orElse_ok h3
  unfold orsF at h4
  split at h4
  · omega
  split at h4
  · omega
  exact ⟨by omega, by omega, fun x hx => faultF_ok (firstE_ok0 h1 x hx), faultF_ok h2, faultF_ok h3, by omega, by omega, fun o ho => ordE_ok (firstE_ok0 h4 o ho)⟩
theorem FrtV.ords {f : Frt} (h : FrtV f) : OrdsV f.ords := fun o ho => by
  obtain ⟨h1, h2, h3⟩ := h.ob o ho
  exact ⟨by omega, h2, by omega, by omega⟩
theorem FrtV.lo {f : Frt} (h : FrtV f) : ∀ x ∈ f.caps.map (·.1), 0 ≤ x ∧ x ≤ 1000000 := fun x hx => by
  obtain ⟨y, hy, rfl⟩ := List.mem_map.1 hx
  have := h.cb y hy; omega
theorem FrtV.hi {f : Frt} (h : FrtV f) : ∀ x ∈ f.caps.map (·.2), 0 ≤ x ∧ x ≤ 1000000 := fun x hx => by
  obtain ⟨y, hy, rfl⟩ := List.mem_map.1 hx
  have := h.cb y hy; omega
def eCheckFr : List AV → Option ((AV → Prop) → Prop)
  | [.agg [.lit (.int .i64 a), .lit (.int .i64 b), .lit (.int .i64 c), .lit (.int .i64 d), .vs 2 xs, .vs 4 ys]] =>
    some fun K => ∃ (cs : List (Int × Int)) (os : List Ord), xs = cs.map sp ∧ ys = os.map orV ∧ cs.length ≤ 9223372036854775807 ∧ os.length ≤ 9223372036854775807 ∧ ∀ q, q = checkF ⟨(a, b), (c, d), cs, os⟩ → K (I q)
  | _ => none
theorem eCheckFr_ok {f : Nat} (hf : ∀ (a b c d : Int) (cs : List (Int × Int)) (os : List Ord) (_ : cs.length ≤ 9223372036854775807) (_ : os.length ≤ 9223372036854775807) (H : AHeap) {Kk : AV → AHeap → Prop}, Kk (I (checkF ⟨(a, b), (c, d), cs, os⟩)) H → ACalls Try.prog f [frV a b c d (.vs 2 (cs.map sp)) (.vs 4 (os.map orV))] H Kk) :
    ∀ args pt, eCheckFr args = some pt → ∀ (H : AHeap) (Kk : AV → AHeap → Prop), pt (fun r => Kk r H) → ACalls Try.prog f args H Kk := by
  intro args pt h H Kk hk
  unfold eCheckFr at h
  split at h
  · cases h
    obtain ⟨cs, os, rfl, rfl, h1, h2, h3⟩ := hk
    exact hf _ _ _ _ _ _ h1 h2 H (h3 _ rfl)
  · cases h
end Go.Sas
