/-
Walks over texts: a contract at the library's variables alone holds wherever they stand first; an empty slice as an object.
Conditions: none.
-/
import Derived.Test.YtpokfjhlilbpfaaGreatDoorQSE1
import Derived.Test.YtpokfjhlilbpfaaGreatDoorP7g
set_option linter.unusedVariables false
set_option linter.unusedSimpArgs false
namespace Go.Sas
open Go.Proofs
theorem rawT_ren {id g : Nat} {m : Int} {ob : Obj} {l : List Nat} (h : at_ l id = id) : (rawT id g m ob).ren l = rawT id g m ob := by
  simp [rawT, AObj.ren, AV.renL, AV.ren, h]
theorem rawG_ren {id g : Nat} {ob : Obj} {l : List Nat} (h : at_ l id = id) : (rawG id g ob).ren l = rawG id g ob := by
  simp [rawG, AObj.ren, AV.renL, AV.ren, h]
theorem Globs.split {H : AHeap} (hG : Globs H) : ∃ X1 X2 X3 X4 T, H = X1 :: X2 :: X3 :: X4 :: T ∧ Globs [X1, X2, X3, X4] ∧ (∃ g2 m2 o2 g3 o3 g4 o4, X1 = .own 0 [] ∧ X2 = rawT 1 g2 m2 o2 ∧ X3 = rawG 2 g3 o3 ∧ X4 = rawG 3 g4 o4) := by
  obtain ⟨h1, ⟨g, m, o2, h3, h4, h5⟩, ⟨o3, h6, h7⟩, o4, h8, h9⟩ := hG
  match H, h1, h4, h6, h8 with
  | x1 :: x2 :: x3 :: x4 :: T, h1, h4, h6, h8 =>
    simp at h1 h4 h6 h8
    subst h1 h4 h6 h8
    exact ⟨_, _, _, _, T, rfl, ⟨rfl, ⟨g, m, o2, h3, rfl, h5⟩, ⟨o3, rfl, h7⟩, o4, rfl, h9⟩, _, _, _, _, _, _, _, rfl, rfl, rfl, rfl⟩
  | [], h1, _, _, _ => simp at h1
  | [_], _, h4, _, _ => simp at h4
  | [_, _], _, _, h6, _ => simp at h6
  | [_, _, _], _, _, _, h8 => simp at h8
theorem Globs.ltH {X1 X2 X3 X4 : AObj} (hG : Globs [X1, X2, X3, X4]) : ltHB 4 [X1, X2, X3, X4] = true := by
  obtain ⟨_, _, _, _, _, e, _, g2, m2, o2, g3, o3, g4, o4, e1, e2, e3, e4⟩ := hG.split
  cases e
  subst e1 e2 e3 e4
  rfl
theorem liftG {P : Program} {f : Nat} {args : List AV} {res : AV} {H : AHeap} (hG : Globs H) (ha : AV.nidL args = true) (hr : res.nid = true)
    (h : ∀ X1 X2 X3 X4, Globs [X1, X2, X3, X4] → ∀ Kk : AV → AHeap → Prop, Kk res [X1, X2, X3, X4] → ACalls P f args [X1, X2, X3, X4] Kk) {Kk : AV → AHeap → Prop} (hk : Kk res H) : ACalls P f args H Kk := by
  obtain ⟨X1, X2, X3, X4, T, rfl, hG4, g2, m2, o2, g3, o3, g4, o4, rfl, rfl, rfl, rfl⟩ := hG.split
  have h0 := h _ _ _ _ hG4 (fun r H' => r = res ∧ H' = [.own 0 [], rawT 1 g2 m2 o2, rawG 2 g3 o3, rawG 3 g4 o4]) ⟨rfl, rfl⟩
  have hf := ACalls.frame (H := .own 0 [] :: rawT 1 g2 m2 o2 :: rawG 2 g3 o3 :: rawG 3 g4 o4 :: T) [0, 1, 2, 3] h0 (by decide) rfl (AV.ltL_nid ha) (by simp [Go.Sas.ltH, AObj.lt, rawG, rawT, AV.ltL, AV.lt]) (fun k X hX => by
    match k with
    | 0 => simp at hX; subst hX; rfl
    | 1 => simp at hX; subst hX; rw [rawT_ren rfl]; rfl
    | 2 => simp at hX; subst hX; rw [rawG_ren rfl]; rfl
    | 3 => simp at hX; subst hX; rw [rawG_ren rfl]; rfl
    | k + 4 => simp at hX)
  rw [AV.renL_nid ha] at hf
  refine hf.mono fun r H' hx => ?_
  obtain ⟨r0, H1, ⟨rfl, rfl⟩, _, rfl, rfl⟩ := hx
  rw [AV.ren_nid hr]
  simpa [merge, updL, more, rawG, rawT, AObj.ren, AV.renL, AV.ren, at_] using hk
/-- where a function returns that began at these objects -/
def RetH (rs : List ARes) (H0 : AHeap) (Kk : AV → AHeap → Prop) (e : Env) (H : AHeap) : Prop := match aResL e H rs with
  | none => False
  | some vs => match AV.ltB H0.length (aTup vs) with
    | true => H.take H0.length = H0 ∧ Kk (aTup vs) H0
    | false => Kk (aTup vs) H
theorem RetH.p {rs : List ARes} {H0 H : AHeap} {Kk : AV → AHeap → Prop} {e : Env} (h0 : ltHB H0.length H0 = true) (h : RetH rs H0 Kk e H) : RetP rs H0.length Kk e H := by
  unfold RetH at h
  unfold RetP
  split at h
  · exact h.elim
  · rename_i vs hvs
    rw [hvs]
    simp only
    split at h
    · rename_i hb
      obtain ⟨h1, h2⟩ := h
      rw [hb, h1, h0]
      exact h2
    · rename_i hb
      rw [hb]
      exact h
variable {cx : Cx} {m : Nat} {k : List AItm} {R : Env → AHeap → Prop} {e : Env} {H : AHeap}
/-- a slice that is nil, as an object without cells -/
theorem AGo_niltmp (t sz : Nat) (ht : look e.g t = .lit (.slice none 0 0)) (h : AGo cx m k R ⟨e.l, gset e.g t (.ms sz H.length 0 0 0)⟩ (H ++ [.own 0 []])) : AGo cx m k R e H :=
  AGo_turn (fun st w hH => by
    obtain ⟨g1, g2, g3⟩ := push_none hH []
    refine ⟨_, g1, g2, fun _ _ h => h.mono g1.le, fun s v hv => ?_, fun _ h => h, fun s hs => ?_⟩
    · simp only [look_gset]
      split
      · rename_i he; subst he
        rw [ht] at hv
        simp only [RelV] at hv ⊢
        exact ⟨_, g3, Nat.le_refl _, fun h => absurd h (Nat.lt_irrefl _), fun _ => ⟨none, 0, hv, Nat.le_refl _, fun h => absurd h (Nat.lt_irrefl _)⟩⟩
      · exact hv.mono g1.le
    · simp only [look_gset]
      split
      · rename_i he; subst he
        rw [ht] at hs; cases hs
      · exact hs) h
theorem Frees.self {m : Nat} {Kk : AV → AHeap → Prop} {r : AV} {H T : AHeap} (hm : m = H.length) (hr : r.nid = true) (hl : ltHB H.length H = true) (h : Kk r H) : Frees m Kk r (H ++ T) := by
  subst hm
  refine Frees.drop (Nat.le_refl _) ?_ hl (Frees.now h)
  exact up (Frees.drop0.nid_ltB hr)
where
  up : ∀ {n : Nat} {r : AV}, r.ltB 0 = true → r.ltB n = true
    | _, .bad, _ | _, .lit _, _ | _, .vs _ _, _ | _, .vp _, _ | _, .es, _ | _, .nni, _ => by simp only [AV.ltB]
    | _, .agg cs, h => by simp only [AV.ltB] at h ⊢; exact upL h
    | _, .tup cs, h => by simp only [AV.ltB] at h ⊢; exact upL h
    | _, .fn f cs, h => by simp only [AV.ltB] at h ⊢; exact upL h
    | _, .mp _ _ _, h | _, .ms _ _ _ _ _, h | _, .yl _ _, h => by simp [AV.ltB] at h
  upL : ∀ {n : Nat} {bs : List AV}, AV.ltLB 0 bs = true → AV.ltLB n bs = true
    | _, [], _ => by simp only [AV.ltLB]
    | _, a :: bs, h => by
      simp only [AV.ltLB, Bool.and_eq_true] at h ⊢
      exact ⟨up h.1, upL h.2⟩
/-! ### Words -/
theorem seq_iff {a b : ByteArray} : sEq a b = true ↔ a.data.toList = b.data.toList := by
  unfold sEq
  rw [beq_iff_eq, ByteArray.toList_eq, ByteArray.toList_eq]
def bA (x : List UInt8) : ByteArray := ⟨x.toArray⟩
theorem bA_data (x : List UInt8) : (bA x).data.toList = x := by simp [bA]
theorem bA_size (x : List UInt8) : (bA x).size = x.length := by simp [bA, ByteArray.size]
theorem bA_of (s : ByteArray) : bA s.data.toList = s := toB s
theorem nums_none {word : List UInt8} {many : Nat} {row : List UInt8} {w0 : List UInt8} {ws : List (List UInt8)} (h : splitL 32 row = w0 :: ws) (hn : w0 ≠ word ∨ ws.length ≠ many) : numsL word many row = none := by
  unfold numsL
  simp only [h]
  rw [if_neg]
  rintro ⟨h1, h2⟩
  simp at h1 h2
  exact hn.elim (fun h => h h2) (fun h => h h1)
theorem nums_some {word : List UInt8} {many : Nat} {row : List UInt8} {ws : List (List UInt8)} (h : splitL 32 row = word :: ws) (hn : ws.length = many) : numsL word many row = (ws.mapM wordN).map (·.map fun n : Nat => (n : Int)) := by
  unfold numsL
  simp only [h]
  rw [if_pos ⟨by simp [hn], rfl⟩]
  rfl
theorem words_go {ws : List (List UInt8)} {j : Nat} {x : List UInt8} {ns : List Int} {u : Nat} (hx : ws[j]? = some x) (hu : wordN x = some u) :
    ((ws.drop j).mapM wordN).map (fun l => ns ++ l.map fun n : Nat => (n : Int)) = ((ws.drop (j + 1)).mapM wordN).map fun l => (ns ++ [(u : Int)]) ++ l.map fun n : Nat => (n : Int) := by
  rw [drop_cons hx]
  simp only [List.mapM_cons, hu]
  cases (ws.drop (j + 1)).mapM wordN <;> simp
theorem words_stop {ws : List (List UInt8)} {j : Nat} {x : List UInt8} (hx : ws[j]? = some x) (hu : wordN x = none) : (ws.drop j).mapM wordN = none := by
  rw [drop_cons hx]
  simp [List.mapM_cons, hu]
theorem words_end {ws : List (List UInt8)} {j : Nat} (h : ¬ j < ws.length) : (ws.drop j).mapM wordN = some [] := by
  rw [List.drop_eq_nil_of_le (by omega)]; rfl
theorem prog_bad {x : List UInt8} (h : ∀ v, Lib.atoiAll x ≠ .ok v) : wordN x = none := by
  rw [← progN_eq]; unfold progN
  split
  · rename_i v hv; exact absurd hv (h v)
  · rfl
theorem prog_no {x : List UInt8} {v : Int} (h : Lib.atoiAll x = .ok v) (hn : ¬ (0 ≤ v ∧ x.length ≤ 9 ∧ Lib.itoa v = x)) : wordN x = none := by
  rw [← progN_eq]; unfold progN
  rw [h]; simp only
  rw [if_neg hn]
theorem prog_yes {x : List UInt8} {v : Int} (h : Lib.atoiAll x = .ok v) (hn : 0 ≤ v ∧ x.length ≤ 9 ∧ Lib.itoa v = x) : wordN x = some v.toNat := by
  rw [← progN_eq]; unfold progN
  rw [h]; simp only
  rw [if_pos hn]
end Go.Sas
