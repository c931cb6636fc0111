/-
Speeds that are sure: an entry of a table.
Conditions: none.
-/
import Derived.Test.YtelmlpjkpebcgaaM20
set_option linter.unusedVariables false
set_option linter.unusedSimpArgs false
namespace Go.Sas
open Go.Proofs
set_option maxRecDepth 100000
theorem eSpeedsA_ok {f : Nat} (hf : ∀ (p : Plate) {a b : Int} {xs ec : List AV} {ne ed gr lo hi sh wi : Int}, PlateIs p a b xs ec ne ed gr lo hi sh wi → Big p.shares → Big p.creep → ∀ (u v s : Int) (H : AHeap) {Kk : AV → AHeap → Prop}, Kk (.tup [.vs 2 ((speedsS p u v s).1.map sp), I (speedsS p u v s).2]) H →
    ACalls Try.prog f [plV a b (.vs 2 xs) (.vs 2 ec) ne ed gr lo hi sh wi, .agg [I u, I v], I s] H Kk) : ∀ args pt, eSpeedsA args = some pt → ∀ (H : AHeap) (Kk : AV → AHeap → Prop), pt (fun r => Kk r H) → ACalls Try.prog f args H Kk := by
  intro args pt h H Kk hk
  unfold eSpeedsA at h
  split at h
  · split at h
    · rename_i x hy
      cases h
      obtain ⟨a, b, xs, ec, ne, ed, gr, lo, hi, sh, wi⟩ := x
      obtain ⟨p, g1, g2, g3, g4⟩ := hk
      exact (hf p g1 g2 g3 _ _ _ H (g4 _ _ _ rfl rfl)).wk ⟨asPl_wk hy, Wk.rfl, Wk.rfl, trivial⟩
    · cases h
  · cases h
theorem speedsS_len {p : Plate} {a b s : Int} : BigL (speedsS p a b s).1 := by
  unfold speedsS BigL; split
  · simp
  · have := runS_len (q := fun v => decide (wverS p.grav (bandS p s).1 (bandS p s).2 (iLen v) a b = 1)) 1001
    simp only; omega
end Go.Sas
