/-
The law of the verdicts on loads answers true.
Conditions: none.
-/
import Derived.Test.YtelmlpjkpebcgaaB13
import Derived.Test.YtelmlpjkpebcgaaB17
import Derived.Test.YtelmlpjkpebcgaaT5
set_option linter.unusedVariables false
set_option linter.unusedSimpArgs false
namespace Go.Sas
open Go.Proofs
set_option maxRecDepth 100000
theorem p18 (a b : Int) (xs ec : List AV) (ne ed gr lo hi sh wi : Int) (H : AHeap) {Kk : AV → AHeap → Prop} (h : ∀ q, Kk (B q) H) : ACalls Try.prog 18 [plV a b (.vs 2 xs) (.vs 2 ec) ne ed gr lo hi sh wi] H Kk := by
  have h1 : ACalls Try.prog 18 [plV a b (.vs 2 xs) (.vs 2 ec) ne ed gr lo hi sh wi] [] fun r H' => H' = [] ∧ ∃ q, r = B q := by
    clear h Kk
    obtain ⟨Kk, hKk⟩ : ∃ K : AV → AHeap → Prop, K = fun r H' => H' = [] ∧ ∃ q, r = B q := ⟨_, rfl⟩
    rw [← hKk]
    obtain ⟨A, hA⟩ : ∃ A, A = std := ⟨_, rfl⟩
    refine go18 rfl (SGo_run hA ⟨[], [], [], []⟩ .nil .nil 200 fun T TD hT hTD => ?_)
    clear hT hTD
    cbv
    split <;> cbv
    all_goals (rw [hKk]; exact ⟨rfl, _, rfl⟩)
  have h2 := ACalls.frame (H := H) [] h1 List.nodup_nil rfl (AV.ltL_nid (by rfl)) (by simp [ltH]) (fun k X hk => by simp at hk)
  rw [AV.renL_nid (by rfl)] at h2
  refine h2.mono fun r H' hx => ?_
  obtain ⟨r0, H1, ⟨rfl, q, rfl⟩, _, rfl, rfl⟩ := hx
  simpa [merge, updL, AV.ren] using h q
def eBig : List AV → Option ((AV → Prop) → Prop)
  | [pl] => match asPl pl with
    | some _ => some fun K => ∀ q, K (B q)
    | none => none
  | _ => none
theorem eBig_ok : ∀ args pt, eBig args = some pt → ∀ (H : AHeap) (Kk : AV → AHeap → Prop), pt (fun r => Kk r H) → ACalls Try.prog 18 args H Kk := by
  intro args pt h H Kk hk
  unfold eBig at h
  split at h
  · split at h
    · rename_i x hy
      cases h
      obtain ⟨a, b, xs, ec, ne, ed, gr, lo, hi, sh, wi⟩ := x
      exact (p18 a b xs ec ne ed gr lo hi sh wi H hk).wk ⟨asPl_wk hy, trivial⟩
    · cases h
  · cases h
def eSeed : List AV → AHeap → Option PT
  | [x], H => match asVs 1 x with
    | some xs => some fun K => ∃ l : List Int, (xs = l.map I ∧ l.length ≤ 9223372036854775807) ∧ ∀ w, K (.mp H.length 0 0) (H ++ [.own 0 [U w]])
    | none => none
  | _, _ => none
theorem eSeed_ok : ∀ args H pt, eSeed args H = some pt → ∀ (Kk : AV → AHeap → Prop), pt Kk → ACalls Try.prog 20 args H Kk := by
  intro args H pt h Kk hk
  unfold eSeed at h
  split at h
  · split at h
    · rename_i xs hx
      cases h
      obtain ⟨l, ⟨rfl, b⟩, h1⟩ := hk
      exact (p20 l b H h1).wk ⟨asVs_wk hx, trivial⟩
    · cases h
  · cases h
def sBeds : List AV → Option ((Unit → Prop) × (AV → Prop))
  | [.lit (.int .i64 n)] => some (fun _ => 1 ≤ n ∧ n ≤ 1000, LsQ 2 sp fun l => (1 ≤ iLen l.length ∧ iLen l.length ≤ n) ∧ ∀ x ∈ l, 0 ≤ x.1 ∧ x.1 ≤ x.2 ∧ x.2 ≤ 1500)
  | _ => none
def sCracks : List AV → Option ((Unit → Prop) × (AV → Prop))
  | [.lit (.int .i64 q), .lit (.int .i64 n)] => some (fun _ => (1 ≤ q ∧ q ≤ 1000) ∧ 0 ≤ n ∧ n ≤ 1000, LsQ 2 sp fun l => iLen l.length ≤ n ∧ ∀ x ∈ l, 0 ≤ x.1 ∧ x.1 ≤ 100 * q - 1 ∧ x.1 ≤ x.2 ∧ x.2 ≤ x.1 + 30)
  | _ => none
def sLoads : List AV → Option ((Unit → Prop) × (AV → Prop))
  | [.lit (.int .i64 q), .lit (.int .i64 n)] => some (fun _ => (1 ≤ q ∧ q ≤ 1000) ∧ 0 ≤ n ∧ n ≤ 1000, LsQ 4 ldV fun l => iLen l.length ≤ n ∧ ∀ x ∈ l, LoadV q x)
  | _ => none
theorem sBeds_ok : ∀ rest pre Q, sBeds rest = some (pre, Q) → pre () → Draws Try.prog 22 rest Q := by
  intro rest pre Q h hp
  unfold sBeds at h
  split at h
  · cases h; exact d22 _ hp
  · cases h
theorem sCracks_ok : ∀ rest pre Q, sCracks rest = some (pre, Q) → pre () → Draws Try.prog 23 rest Q := by
  intro rest pre Q h hp
  unfold sCracks at h
  split at h
  · cases h; exact d23 _ _ hp.1 hp.2
  · cases h
theorem sLoads_ok : ∀ rest pre Q, sLoads rest = some (pre, Q) → pre () → Draws Try.prog 24 rest Q := by
  intro rest pre Q h hp
  unfold sLoads at h
  split at h
  · cases h; exact d24 _ _ hp.1 hp.2
  · cases h
def edl : ETab := (20, eSeed) :: (21, eDraw sPlate) :: (22, eDraw sBeds) :: (23, eDraw sCracks) :: (24, eDraw sLoads) :: ed3
theorem edl_ok : ETabOk Try.prog edl := .cons eSeed_ok (.cons (eDraw_ok sPlate_ok) (.cons (eDraw_ok sBeds_ok) (.cons (eDraw_ok sCracks_ok) (.cons (eDraw_ok sLoads_ok) ed3_ok))))
end Go.Sas
