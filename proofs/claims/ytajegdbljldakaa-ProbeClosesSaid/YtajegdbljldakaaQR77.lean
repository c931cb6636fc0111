/-
Probe: the reference's spread of a row that nobody writes to: contract.
Conditions: none.
-/
import Derived.Test.YtajegdbljldakaaPX
set_option linter.unusedVariables false
set_option linter.unusedSimpArgs false
namespace Go.Sas
open Go.Proofs
set_option maxRecDepth 100000
theorem p96v (N : Nat) (s : Int) (f : Nat → Bool) (hN : N ≤ 1000) (hs : 0 ≤ s ∧ s ≤ 100) (H : AHeap) {Kk : AV → AHeap → Prop} (h : Kk (.vs 1 (covR N (sprF N s f))) H) :
    ACalls Try.prog 96 [.vs 1 (covR N f), I s] H Kk := by
  refine (fun q => pureF (by simp [AV.nidL, AV.nid, covR, nidL_map (g := B) (fun _ => rfl)]) (by simp [AV.nid, covR, nidL_map (g := B) (fun _ => rfl)]) q H h) ?_
  clear h
  intro Kk h
  obtain ⟨F, hF⟩ : ∃ F, F = Frees 0 Kk := ⟨_, rfl⟩
  rw [← hF]
  obtain ⟨A, hA⟩ : ∃ A, A = std := ⟨_, rfl⟩
  have hsg : ∀ g, A.sg g g := by subst hA; exact fun _ => rfl
  have hle : ∀ a b, A.le a b = decide (a ≤ b) := by subst hA; intro a b; rfl
  have hll : ∀ a b, A.lt a b = decide (a < b) := by subst hA; intro a b; rfl
  obtain ⟨c0, hc0⟩ : ∃ c, c = covR N f := ⟨_, rfl⟩
  rw [← hc0]
  have hfin : F (aTup [.ms 1 0 0 0 N]) [.own 0 (rowB N (sprF N s f))] := by
    rw [hF, show rowB N (sprF N s f) = covR N (sprF N s f) from rowA_map]
    refine Frees.frz 0 0 1 (covR N (sprF N s f)) rfl (Elems_one (F := B) (fun _ => rfl) (fun _ => rfl) _) ?_
    have e : AV.frz 0 0 1 (covR N (sprF N s f)) (aTup [.ms 1 0 0 0 N]) = .vs 1 (covR N (sprF N s f)) := frz_self (by simp [covR])
    rw [e]
    exact Frees.drop0 h (by simp [AV.nid, covR, nidL_map (g := B) (fun _ => rfl)])
  obtain ⟨CS, hCS⟩ : ∃ F : Nat → Bool → List AV, F = fun p b => rowB N fun r => if r < p then sprF N s f r else if r = p then b else false := ⟨_, rfl⟩
  have hend : ∀ p, N ≤ p → CS p false = rowB N (sprF N s f) := fun p hp => by
    rw [hCS]; exact rowA_congr fun q hq => by dsimp only; rw [if_pos (by omega)]
  have hnx : ∀ p, CS p (sprF N s f p) = CS (p + 1) false := fun p => by
    rw [hCS]; refine rowA_congr fun q hq => congrArg B ?_
    dsimp only
    by_cases h1 : q < p
    · rw [if_pos h1, if_pos (by omega)]
    · rw [if_neg h1]
      by_cases h2 : q = p
      · rw [if_pos h2, if_pos (by omega), h2]
      · rw [if_neg h2, if_neg (by omega)]; simp
  have hlN : A.vlen c0 = iLen N := by subst hA; rw [hc0]; simp [std, covR]
  have hmk : A.mkz 1 1 [.bool false] (A.vlen c0) (A.vlen c0) (CS 0 false) N := by
    rw [hlN]; subst hA; rw [hCS]
    have : (rowB N fun r => if r < 0 then sprF N s f r else if r = 0 then false else false) = rowA N fun _ => .lit (.bool false) := rowA_congr fun q _ => by simp
    dsimp only; rw [this]; exact mkS_rowA rfl (by omega) (by omega)
  refine go96 rfl ?_
  refine AGo_opq fun RR hRR => ?_
  refine SGo_run hA ⟨[0], [], [], []⟩ .nil .nil 200 fun T TD hT hTD => ?_
  cbv
  refine Exists.intro _ (Exists.intro _ (And.intro hmk ?_)); cbv
  rw [hT]
  refine AGo_whileE (σ := Nat) [0, 1, 5] (fun p => N - p) (fun p => p ≤ N) (fun p => [(6, I (iLen p))]) (fun p => [.own 0 (CS p false)]) 0 (Nat.zero_le _) ⟨rfl, trivial⟩ (.inl rfl) fun p hp Bk hB => ?_
  obtain ⟨ip, hip⟩ : ∃ q, q = iLen p := ⟨_, rfl⟩
  rw [← hip]
  have hlt : A.lt ip (A.vlen c0) = decide (p < N) := by rw [hlN, hll, hip, decide_eq_decide]; unfold iLen; omega
  obtain ⟨c1, hc1⟩ : ∃ r, r = CS p false := ⟨_, rfl⟩
  rw [← hc1]
  refine SGo_run hA ⟨[0], [], [], []⟩ .nil .nil 200 fun T TD hT hTD => ?_
  cbv
  split <;> cbv
  · rename_i hz
    have hpN : p < N := of_decide_eq_true (hlt.symm.trans hz)
    have hadp : A.add .i64 ip 1 = iLen (p + 1) := by subst hA; exact add_one (N := 1000) hip (by omega) (by omega)
    obtain ⟨q0, hq0, hq1, hq2, hq3⟩ : ∃ q0 : Nat, iMax 0 (iLen p - s) = iLen q0 ∧ iLen p - s ≤ iLen q0 ∧ (iLen q0 ≤ iLen p - s ∨ q0 = 0) ∧ q0 ≤ p := by
      unfold iMax iLen
      split
      · exact ⟨((p : Nat) - s : Int).toNat, by omega, by omega, by omega, by omega⟩
      · exact ⟨0, by omega, by omega, by omega, by omega⟩
    have hsub : A.sub .i64 ip s = ip - s := by subst hA; exact iSub_id (by unfold iLen at hip; omega) (by unfold iLen at hip; omega)
    have hmx : A.max 0 (A.sub .i64 ip s) = iLen q0 := by rw [hsub]; subst hA; show iMax 0 (ip - s) = _; rw [hip]; exact hq0
    have hps : A.add .i64 ip s = ip + s := by subst hA; exact iAdd_id (by unfold iLen at hip; omega) (by unfold iLen at hip; omega)
    rw [hT]
    obtain ⟨E, hE⟩ : ∃ E : Nat → Bool, E = fun q => sprU s f p q := ⟨_, rfl⟩
    have hE0 : E q0 = false := by rw [hE]; exact sprU_0 (by unfold iLen at *; omega)
    have hEn : ∀ q, q ≤ N → (q = N ∨ iLen p + s < iLen q) → E q = sprF N s f p := fun q h1 h2 => by rw [hE]; exact sprU_N h1 h2
    have hEs : ∀ q : Nat, iLen p - s ≤ iLen q → iLen q ≤ iLen p + s → E (q + 1) = (E q || f q) := fun q h1 h2 => by rw [hE]; exact sprU_succ ⟨h1, h2⟩
    refine AGo_whileE (σ := Nat) [0, 1, 5, 6] (fun q => N - q) (fun q => q0 ≤ q ∧ q ≤ N) (fun q => [(7, I (iLen q))]) (fun q => [.own 0 (CS p (E q))]) q0 ⟨Nat.le_refl _, by omega⟩ ⟨congrArg I hmx, trivial⟩ (.inl (by rw [hc1, hE0])) fun q hq Bk2 hB2 => ?_
    obtain ⟨iq, hiq⟩ : ∃ x, x = iLen q := ⟨_, rfl⟩
    rw [← hiq]
    obtain ⟨c2, hc2⟩ : ∃ r, r = CS p (E q) := ⟨_, rfl⟩
    rw [← hc2]
    have hle2 : A.le iq (A.add .i64 ip s) = decide (iq ≤ ip + s) := by rw [hps]; exact hle _ _
    have hlt2 : A.lt iq (A.vlen c0) = decide (q < N) := by rw [hlN, hll, hiq, decide_eq_decide]; unfold iLen; omega
    have hstop : (q = N ∨ iLen p + s < iLen q) → ∀ (e1 : Env) (H1 : AHeap), H1 = [.own 0 c2] → H1 = [.own 0 (CS (p + 1) false)] := fun h1 e1 H1 h2 => by
      rw [h2, hc2, hEn q hq.2 h1, hnx]
    refine SGo_run hA ⟨[0], [], [], []⟩ .nil .nil 200 fun T TD hT hTD => ?_
    cbv
    split <;> cbv
    · rename_i hz2
      have hz2 : iq ≤ ip + s := of_decide_eq_true (hle2.symm.trans hz2)
      split <;> cbv
      · rename_i hz3
        have hqN : q < N := of_decide_eq_true (hlt2.symm.trans hz3)
        have hadq : A.add .i64 iq 1 = iLen (q + 1) := by subst hA; exact add_one (N := 1000) hiq (by omega) (by omega)
        have hixp : A.ixm 1 1 0 N ip p := by subst hA; exact ixm1 hip hpN
        have hEq : E (q + 1) = (E q || f q) := hEs q (by unfold iLen at *; omega) (by omega)
        obtain ⟨b, hb⟩ : ∃ b, b = E q := ⟨_, rfl⟩
        have hget : A.get none c2 p (B b) := by
          subst hA; rw [hc2, hCS]; exact getS_rowA hpN (congrArg B (by dsimp only; rw [if_neg (by omega), if_pos rfl, hb]))
        have hxf : A.ix 1 1 c0 iq [B (f q)] := covR_ix hA hc0 hiq hqN
        obtain ⟨c3, hc3⟩ : ∃ r, r = CS p (E (q + 1)) := ⟨_, rfl⟩
        have hup : A.upd 1 c2 p [B (E (q + 1))] c3 := by
          subst hA; rw [hc2, hc3, hCS]
          refine updS_rowA hpN fun x _ => ?_
          dsimp only
          by_cases hx : x = p
          · rw [if_pos hx, if_neg (by omega), if_pos hx]
          · simp only [if_neg hx]
        rw [← hb] at hEq
        refine And.intro (hsg _) (Exists.intro p (And.intro hixp ?_)); cbv
        refine And.intro (hsg _) (Exists.intro _ (And.intro hget ?_)); cbv
        cases b with
        | true =>
          cbv
          have hup : A.upd 1 c2 p [B true] c3 := by rw [hEq] at hup; exact hup
          refine And.intro (hsg _) (Exists.intro p (And.intro hixp ?_)); cbv
          refine And.intro (hsg _) (Exists.intro _ (And.intro hup ?_)); cbv
          exact hB2 (q + 1) _ _ (by omega) (by omega) ⟨congrArg I hadq, trivial⟩ ⟨rfl, rfl, rfl, rfl, trivial⟩ (.inl (by rw [hc3]))
        | false =>
          cbv
          have hup : A.upd 1 c2 p [B (f q)] c3 := by rw [hEq] at hup; exact hup
          refine Exists.intro _ (And.intro hxf ?_); cbv
          refine And.intro (hsg _) (Exists.intro p (And.intro hixp ?_)); cbv
          refine And.intro (hsg _) (Exists.intro _ (And.intro hup ?_)); cbv
          exact hB2 (q + 1) _ _ (by omega) (by omega) ⟨congrArg I hadq, trivial⟩ ⟨rfl, rfl, rfl, rfl, trivial⟩ (.inl (by rw [hc3]))
      · rename_i hz3
        have hqN : ¬ q < N := of_decide_eq_false (hlt2.symm.trans hz3)
        exact hB (p + 1) _ _ (by omega) (by omega) ⟨congrArg I hadp, trivial⟩ ⟨rfl, rfl, rfl, trivial⟩ (.inl (hstop (.inl (by omega)) ⟨[], []⟩ _ rfl))
    · rename_i hz2
      have hz2 : ¬ iq ≤ ip + s := of_decide_eq_false (hle2.symm.trans hz2)
      exact hB (p + 1) _ _ (by omega) (by omega) ⟨congrArg I hadp, trivial⟩ ⟨rfl, rfl, rfl, trivial⟩ (.inl (hstop (.inr (by omega)) ⟨[], []⟩ _ rfl))
  · rename_i hz
    have hpN : ¬ p < N := of_decide_eq_false (hlt.symm.trans hz)
    refine hRR _ _ ?_
    cbv
    rw [hc1, hend p (by omega)]
    exact hfin
def eSprV : List AV → Option ((AV → Prop) → Prop)
  | [.vs 1 xs, .lit (.int .i64 s)] => some fun K => ∃ (N : Nat) (f : Nat → Bool), (xs = covR N f ∧ N ≤ 1000 ∧ (0 ≤ s ∧ s ≤ 100)) ∧ ∀ ys, ys = covR N (sprF N s f) → K (.vs 1 ys)
  | _ => none
theorem eSprV_ok : ∀ args pt, eSprV args = some pt → ∀ (H : AHeap) (Kk : AV → AHeap → Prop), pt (fun r => Kk r H) → ACalls Try.prog 96 args H Kk := by
  intro args pt h H Kk hk
  unfold eSprV at h
  split at h
  · cases h
    obtain ⟨N, f, ⟨rfl, h1, h2⟩, h3⟩ := hk
    exact p96v N _ f h1 h2 H (h3 _ rfl)
  · cases h
end Go.Sas
