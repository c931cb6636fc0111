/-
Probe: the reference's rows of places: taken 111.
Probe: the reference's rows of places: spread 96.
Probe: the reference's rows of places: covered 94.
Conditions: none.
-/
import Derived.Test.YtajegdbljldakaaPI
import Derived.Test.YtajegdbljldakaaQRM17
import Derived.Test.YtajegdbljldakaaQRFg
import Derived.Test.YtajegdbljldakaaPC
set_option linter.unusedVariables false
set_option linter.unusedSimpArgs false
namespace Go.Sas
open Go.Proofs
set_option maxRecDepth 100000
def rowB (N : Nat) (f : Nat → Bool) : List AV := rowA N fun q => B (f q)
theorem any_mid' {α : Type} {P : α → Bool} {l : List α} {j k : Nat} {x : α} (hx : l[k]? = some x) (hjk : j ≤ k) : ((l.take (k + 1)).drop j).any P = (((l.take k).drop j).any P || P x) := by
  obtain ⟨h8, he⟩ := List.getElem?_eq_some_iff.1 hx
  rw [List.take_succ_eq_append_getElem h8, he, List.drop_append_of_le_length (by rw [List.length_take]; omega), List.any_append]; simp
theorem p111 (m : List Mrk) (k : Nat) (h0 : Int) (N : Nat) (f : Nat → Bool) (hN : N ≤ 1000) (hk : k ≤ m.length) (hl : m.length ≤ 1000) (hm : ∀ x ∈ m, MkOk (iLen N) x) {Kk : AV → AHeap → Prop} (h : Kk (.tup []) [.own 0 (rowB N (takF m k h0 f))]) :
    ACalls Try.prog 111 [.ms 1 0 0 0 N, .vs 5 (m.map mkV), I (iLen k), I h0] [.own 0 (rowB N f)] Kk := by
  obtain ⟨xs, hxs⟩ : ∃ xs, xs = m.map mkV := ⟨_, rfl⟩
  rw [← hxs]
  obtain ⟨A, hA⟩ : ∃ A, A = std := ⟨_, rfl⟩
  have hsg : ∀ g, A.sg g g := by subst hA; exact fun _ => rfl
  have hle : ∀ a b, A.le a b = decide (a ≤ b) := by subst hA; intro a b; rfl
  have hll : ∀ a b, A.lt a b = decide (a < b) := by subst hA; intro a b; rfl
  have hne : ∀ a b, A.ne a b = decide (a ≠ b) := by subst hA; intro a b; simp only [std, iNe]; rw [Bool.eq_iff_iff]; simp
  obtain ⟨RW, hRW⟩ : ∃ F : (Nat → Bool) → List AV, F = fun f => rowB N f := ⟨_, rfl⟩
  have e1 : rowB N f = RW f := by rw [hRW]
  have e2 : rowB N (takF m k h0 f) = RW (takF m k h0 f) := by rw [hRW]
  rw [e1]
  rw [e2] at h
  have hmv : A.vlen xs = iLen m.length := by subst hA; rw [hxs]; simp [std]
  refine go111 rfl ?_
  refine AGo_opq fun RR hRR => ?_
  refine SGo_run hA ⟨[0], [], [], []⟩ .nil .nil 200 fun T TD hT hTD => ?_
  cbv
  rw [hT]
  have hT0 : RW f = RW (takF (m.take k) k h0 f) := by
    congr 1; funext p; unfold takF; rw [List.drop_eq_nil_of_le (by rw [List.length_take]; omega)]; simp
  refine AGo_whileE (σ := Nat) [0, 1, 3] (fun i => m.length - i) (fun i => k ≤ i ∧ i ≤ m.length) (fun i => [(8, I (iLen i))]) (fun i => [.own 0 (RW (takF (m.take i) k h0 f))]) k ⟨Nat.le_refl _, hk⟩ ⟨rfl, trivial⟩ (.inl (by rw [← hT0])) fun i hP Bk hB => ?_
  obtain ⟨ii, hii⟩ : ∃ q, q = iLen i := ⟨_, rfl⟩
  rw [← hii]
  have hlt : A.lt ii (A.vlen xs) = decide (i < m.length) := by rw [hmv, hll, hii, decide_eq_decide]; unfold iLen; omega
  obtain ⟨base, hbase⟩ : ∃ g, g = takF (m.take i) k h0 f := ⟨_, rfl⟩
  rw [← hbase]
  obtain ⟨c1, hc1⟩ : ∃ r, r = RW base := ⟨_, rfl⟩
  rw [← hc1]
  refine SGo_run hA ⟨[0], [], [], []⟩ .nil .nil 200 fun T TD hT hTD => ?_
  cbv
  split <;> cbv
  · rename_i hz
    have hi1 : i < m.length := of_decide_eq_true (hlt.symm.trans hz)
    obtain ⟨⟨yk, yf, yt, yh, ysp⟩, hy⟩ : ∃ y, m[i]? = some y := ⟨_, List.getElem?_eq_getElem hi1⟩
    obtain ⟨o1, o2, o3, o4, o5, o6⟩ := hm _ (List.mem_of_getElem? hy)
    dsimp only at o1 o2 o3 o4 o5 o6
    have hix : A.ix 5 5 xs ii [I yk, I yf, I yt, I yh, I ysp] := by subst hA; exact ix_map hxs hii hy rfl
    have hadj : A.add .i64 ii 1 = iLen (i + 1) := by subst hA; exact add_one (N := 1000) hii (by omega) (by omega)
    have hst : ∀ p, takF (m.take (i + 1)) k h0 f p = (base p && !(takesB h0 p ⟨yk, yf, yt, yh, ysp⟩)) := fun p => by
      rw [hbase]; unfold takF; rw [any_mid' hy hP.1, Bool.not_or, Bool.and_assoc]
    have hq4 : A.ne yk 4 = decide (yk ≠ 4) := hne _ _
    have hqh : A.ne yh h0 = decide (yh ≠ h0) := hne _ _
    have hskip : (yk ≠ 4 ∨ yh ≠ h0) → c1 = RW (takF (m.take (i + 1)) k h0 f) := fun hq => by
      rw [hc1]; congr 1; funext p; rw [hst]; unfold takesB; dsimp only
      rcases hq with hq | hq <;> simp [hq]
    refine Exists.intro _ (And.intro hix ?_); cbv
    split <;> cbv
    · rename_i hz4
      have hz4 := of_decide_eq_true (hq4.symm.trans hz4)
      exact hB (i + 1) _ _ (by omega) ⟨by omega, hi1⟩ ⟨congrArg I hadj, trivial⟩ ⟨rfl, rfl, rfl, trivial⟩ (.inl (by rw [← hskip (.inl hz4)]))
    rename_i hz4
    have hz4 := of_decide_eq_false (hq4.symm.trans hz4)
    refine Exists.intro _ (And.intro hix ?_); cbv
    split <;> cbv
    · rename_i hzh
      have hzh := of_decide_eq_true (hqh.symm.trans hzh)
      exact hB (i + 1) _ _ (by omega) ⟨by omega, hi1⟩ ⟨congrArg I hadj, trivial⟩ ⟨rfl, rfl, rfl, trivial⟩ (.inl (by rw [← hskip (.inr hzh)]))
    rename_i hzh
    have hzh := of_decide_eq_false (hqh.symm.trans hzh)
    refine Exists.intro _ (And.intro hix ?_); cbv
    rw [hT]
    obtain ⟨G, hG⟩ : ∃ G : Nat → Nat → Bool, G = fun j p => base p && !(decide (yf ≤ (p : Int) ∧ (p : Int) < yf + iLen j)) := ⟨_, rfl⟩
    have hG0 : RW base = RW (G 0) := by
      congr 1; funext p; rw [hG]; dsimp only; rw [decide_eq_false (by unfold iLen; omega)]; simp
    have hGn : ∀ j, yf + iLen j = yt + 1 → RW (G j) = RW (takF (m.take (i + 1)) k h0 f) := fun j hj => by
      congr 1; funext p; rw [hG, hst]; unfold takesB inM; dsimp only
      rw [decide_eq_true (by omega : yk = 4), decide_eq_true (by omega : yh = h0), Bool.true_and, Bool.true_and]
      congr 2; rw [decide_eq_decide]; omega
    refine AGo_whileE (σ := Nat) [0, 1, 3, 8] (fun j => (yt + 1 - yf).toNat - j) (fun j => yf + iLen j ≤ yt + 1) (fun j => [(9, I (yf + iLen j))]) (fun j => [.own 0 (RW (G j))]) 0 (by unfold iLen; omega) ⟨congrArg I (by unfold iLen; omega), trivial⟩ (.inl (by rw [hc1, hG0])) fun j hP3 Bk2 hB2 => ?_
    obtain ⟨ip, hip⟩ : ∃ q, q = yf + iLen j := ⟨_, rfl⟩
    rw [← hip] at hP3 ⊢
    obtain ⟨c2, hc2⟩ : ∃ r, r = RW (G j) := ⟨_, rfl⟩
    rw [← hc2]
    have hlep : A.le ip yt = decide (ip ≤ yt) := hle _ _
    refine SGo_run hA ⟨[0], [], [], []⟩ .nil .nil 200 fun T TD hT hTD => ?_
    cbv
    refine Exists.intro _ (And.intro hix ?_); cbv
    split <;> cbv
    · rename_i hzp
      have hzp := of_decide_eq_true (hlep.symm.trans hzp)
      obtain ⟨p, hp⟩ : ∃ p : Nat, ip = iLen p := ⟨ip.toNat, by unfold iLen at *; omega⟩
      have hpN : p < N := by unfold iLen at hp o4; omega
      have hixp : A.ixm 1 1 0 N ip p := by subst hA; exact ixm1 hp hpN
      obtain ⟨c3, hc3⟩ : ∃ r, r = RW (G (j + 1)) := ⟨_, rfl⟩
      have hup : A.upd 1 c2 p [B false] c3 := by
        subst hA; rw [hc2, hc3, hRW]
        refine updS_rowA hpN fun q _ => ?_
        by_cases hq : q = p
        · rw [if_pos hq, hq, hG]; dsimp only
          rw [decide_eq_true (show yf ≤ (p : Int) ∧ (p : Int) < yf + iLen (j + 1) by unfold iLen at *; omega)]; simp
        · rw [if_neg hq, hG]; dsimp only
          have : (yf ≤ (q : Int) ∧ (q : Int) < yf + iLen (j + 1)) ↔ (yf ≤ (q : Int) ∧ (q : Int) < yf + iLen j) := by unfold iLen at *; omega
          simp only [this]
      have hadd : A.add .i64 ip 1 = yf + iLen (j + 1) := by
        subst hA; show iAdd .i64 ip 1 = _; rw [iAdd_id (by unfold iLen at hp; omega) (by unfold iLen at hp; omega), hip]; unfold iLen; omega
      refine And.intro (hsg _) (Exists.intro p (And.intro hixp ?_)); cbv
      refine And.intro (hsg _) (Exists.intro _ (And.intro hup ?_)); cbv
      exact hB2 (j + 1) _ _ (by unfold iLen at hip; omega) (by unfold iLen at *; omega) ⟨congrArg I hadd, trivial⟩ ⟨rfl, rfl, rfl, rfl, trivial⟩ (.inl (by rw [hc3]))
    · rename_i hzp
      have hzp := of_decide_eq_false (hlep.symm.trans hzp)
      exact hB (i + 1) _ _ (by omega) ⟨by omega, hi1⟩ ⟨congrArg I hadj, trivial⟩ ⟨rfl, rfl, rfl, trivial⟩ (.inl (by rw [← hGn j (by omega), hc2]))
  · rename_i hz
    have hi1 : ¬ i < m.length := of_decide_eq_false (hlt.symm.trans hz)
    refine hRR _ _ (RetP.same (vs := []) rfl rfl ?_)
    rw [hc1, hbase, List.take_of_length_le (by omega)]; exact h
end Go.Sas
namespace Go.Sas
open Go.Proofs
set_option maxRecDepth 100000
/-- up to a place -/
def sprU (s : Int) (f : Nat → Bool) (p q : Nat) : Bool := (List.range q).any fun x => f x && decide (iLen p - s ≤ iLen x ∧ iLen x ≤ iLen p + s)
theorem sprU_N {N : Nat} {s : Int} {f : Nat → Bool} {p q : Nat} (hq : q ≤ N) (h : q = N ∨ iLen p + s < iLen q) : sprU s f p q = sprF N s f p := by
  unfold sprU sprF iLen at *
  rw [Bool.eq_iff_iff, List.any_eq_true, List.any_eq_true]
  constructor
  · rintro ⟨x, hx, h1⟩; exact ⟨x, List.mem_range.2 (by have := List.mem_range.1 hx; omega), h1⟩
  · rintro ⟨x, hx, h1⟩
    refine ⟨x, List.mem_range.2 ?_, h1⟩
    rw [Bool.and_eq_true, decide_eq_true_eq] at h1
    have := List.mem_range.1 hx
    omega
theorem sprU_0 {s : Int} {f : Nat → Bool} {p q : Nat} (h : iLen q ≤ iLen p - s ∨ q = 0) : sprU s f p q = false := by
  unfold sprU iLen at *
  rw [List.any_eq_false]
  intro x hx
  have := List.mem_range.1 hx
  rw [Bool.and_eq_true, decide_eq_true_eq]; omega
theorem sprU_succ {s : Int} {f : Nat → Bool} {p q : Nat} (h : iLen p - s ≤ iLen q ∧ iLen q ≤ iLen p + s) : sprU s f p (q + 1) = (sprU s f p q || f q) := by
  unfold sprU
  rw [List.range_succ, List.any_append]; simp [h]
theorem p96 (N : Nat) (s : Int) (f : Nat → Bool) (hN : N ≤ 1000) (hs : 0 ≤ s ∧ s ≤ 100) {Kk : AV → AHeap → Prop} (h : Kk (.ms 1 1 0 0 N) [.own 0 (rowB N f), .own 0 (rowB N (sprF N s f))]) :
    ACalls Try.prog 96 [.ms 1 0 0 0 N, I s] [.own 0 (rowB N f)] Kk := by
  obtain ⟨A, hA⟩ : ∃ A, A = std := ⟨_, rfl⟩
  have hsg : ∀ g, A.sg g g := by subst hA; exact fun _ => rfl
  have hle : ∀ a b, A.le a b = decide (a ≤ b) := by subst hA; intro a b; rfl
  have hll : ∀ a b, A.lt a b = decide (a < b) := by subst hA; intro a b; rfl
  obtain ⟨c0, hc0⟩ : ∃ c, c = rowB N f := ⟨_, rfl⟩
  rw [← hc0] at h ⊢
  obtain ⟨CS, hCS⟩ : ∃ F : Nat → Bool → List AV, F = fun p b => rowB N fun r => if r < p then sprF N s f r else if r = p then b else false := ⟨_, rfl⟩
  have hend : ∀ p, N ≤ p → CS p false = rowB N (sprF N s f) := fun p hp => by
    rw [hCS]; exact rowA_congr fun q hq => by dsimp only; rw [if_pos (by omega)]
  have hnx : ∀ p, CS p (sprF N s f p) = CS (p + 1) false := fun p => by
    rw [hCS]; refine rowA_congr fun q hq => congrArg B ?_
    dsimp only
    by_cases h1 : q < p
    · rw [if_pos h1, if_pos (by omega)]
    · rw [if_neg h1]
      by_cases h2 : q = p
      · rw [if_pos h2, if_pos (by omega), h2]
      · rw [if_neg h2, if_neg (by omega)]; simp
  have hlN : A.len N = iLen N := by subst hA; rfl
  have hmk : A.mkz 1 1 [.bool false] (A.len N) (A.len N) (CS 0 false) N := by
    rw [hlN]; subst hA; rw [hCS]
    have : (rowB N fun r => if r < 0 then sprF N s f r else if r = 0 then false else false) = rowA N fun _ => .lit (.bool false) := rowA_congr fun q _ => by simp
    dsimp only; rw [this]; exact mkS_rowA rfl (by omega) (by omega)
  refine go96 rfl ?_
  refine AGo_opq fun RR hRR => ?_
  refine SGo_run hA ⟨[0, 1], [], [], []⟩ .nil .nil 200 fun T TD hT hTD => ?_
  cbv
  refine And.intro (hsg _) (Exists.intro _ (Exists.intro _ (And.intro hmk ?_))); cbv
  rw [hT]
  refine AGo_whileE (σ := Nat) [0, 1, 5] (fun p => N - p) (fun p => p ≤ N) (fun p => [(6, I (iLen p))]) (fun p => [.own 0 c0, .own 0 (CS p false)]) 0 (Nat.zero_le _) ⟨rfl, trivial⟩ (.inl rfl) fun p hp Bk hB => ?_
  obtain ⟨ip, hip⟩ : ∃ q, q = iLen p := ⟨_, rfl⟩
  rw [← hip]
  have hlt : A.lt ip (A.len N) = decide (p < N) := by rw [hlN, hll, hip, decide_eq_decide]; unfold iLen; omega
  obtain ⟨c1, hc1⟩ : ∃ r, r = CS p false := ⟨_, rfl⟩
  rw [← hc1]
  refine SGo_run hA ⟨[0, 1], [], [], []⟩ .nil .nil 200 fun T TD hT hTD => ?_
  cbv
  split <;> cbv
  · rename_i hz
    have hpN : p < N := of_decide_eq_true (hlt.symm.trans hz)
    have hadp : A.add .i64 ip 1 = iLen (p + 1) := by subst hA; exact add_one (N := 1000) hip (by omega) (by omega)
    obtain ⟨q0, hq0, hq1, hq2, hq3⟩ : ∃ q0 : Nat, iMax 0 (iLen p - s) = iLen q0 ∧ iLen p - s ≤ iLen q0 ∧ (iLen q0 ≤ iLen p - s ∨ q0 = 0) ∧ q0 ≤ p := by
      unfold iMax iLen
      split
      · exact ⟨((p : Nat) - s : Int).toNat, by omega, by omega, by omega, by omega⟩
      · exact ⟨0, by omega, by omega, by omega, by omega⟩
    have hsub : A.sub .i64 ip s = ip - s := by subst hA; exact iSub_id (by unfold iLen at hip; omega) (by unfold iLen at hip; omega)
    have hmx : A.max 0 (A.sub .i64 ip s) = iLen q0 := by rw [hsub]; subst hA; show iMax 0 (ip - s) = _; rw [hip]; exact hq0
    have hps : A.add .i64 ip s = ip + s := by subst hA; exact iAdd_id (by unfold iLen at hip; omega) (by unfold iLen at hip; omega)
    refine And.intro (hsg _) ?_
    rw [hT]
    obtain ⟨E, hE⟩ : ∃ E : Nat → Bool, E = fun q => sprU s f p q := ⟨_, rfl⟩
    have hE0 : E q0 = false := by rw [hE]; exact sprU_0 (by unfold iLen at *; omega)
    have hEn : ∀ q, q ≤ N → (q = N ∨ iLen p + s < iLen q) → E q = sprF N s f p := fun q h1 h2 => by rw [hE]; exact sprU_N h1 h2
    have hEs : ∀ q : Nat, iLen p - s ≤ iLen q → iLen q ≤ iLen p + s → E (q + 1) = (E q || f q) := fun q h1 h2 => by rw [hE]; exact sprU_succ ⟨h1, h2⟩
    refine AGo_whileE (σ := Nat) [0, 1, 5, 6] (fun q => N - q) (fun q => q0 ≤ q ∧ q ≤ N) (fun q => [(7, I (iLen q))]) (fun q => [.own 0 c0, .own 0 (CS p (E q))]) q0 ⟨Nat.le_refl _, by omega⟩ ⟨congrArg I hmx, trivial⟩ (.inl (by rw [hc1, hE0])) fun q hq Bk2 hB2 => ?_
    obtain ⟨iq, hiq⟩ : ∃ x, x = iLen q := ⟨_, rfl⟩
    rw [← hiq]
    obtain ⟨c2, hc2⟩ : ∃ r, r = CS p (E q) := ⟨_, rfl⟩
    rw [← hc2]
    have hle2 : A.le iq (A.add .i64 ip s) = decide (iq ≤ ip + s) := by rw [hps]; exact hle _ _
    have hlt2 : A.lt iq (A.len N) = decide (q < N) := by rw [hlN, hll, hiq, decide_eq_decide]; unfold iLen; omega
    have hstop : (q = N ∨ iLen p + s < iLen q) → ∀ (e1 : Env) (H1 : AHeap), H1 = [.own 0 c0, .own 0 c2] → H1 = [.own 0 c0, .own 0 (CS (p + 1) false)] := fun h1 e1 H1 h2 => by
      rw [h2, hc2, hEn q hq.2 h1, hnx]
    refine SGo_run hA ⟨[0, 1], [], [], []⟩ .nil .nil 200 fun T TD hT hTD => ?_
    cbv
    split <;> cbv
    · rename_i hz2
      have hz2 : iq ≤ ip + s := of_decide_eq_true (hle2.symm.trans hz2)
      refine And.intro (hsg _) ?_; cbv
      split <;> cbv
      · rename_i hz3
        have hqN : q < N := of_decide_eq_true (hlt2.symm.trans hz3)
        have hadq : A.add .i64 iq 1 = iLen (q + 1) := by subst hA; exact add_one (N := 1000) hiq (by omega) (by omega)
        have hixp : A.ixm 1 1 0 N ip p := by subst hA; exact ixm1 hip hpN
        have hixq : A.ixm 1 1 0 N iq q := by subst hA; exact ixm1 hiq hqN
        have hEq : E (q + 1) = (E q || f q) := hEs q (by unfold iLen at *; omega) (by omega)
        obtain ⟨b, hb⟩ : ∃ b, b = E q := ⟨_, rfl⟩
        have hget : A.get none c2 p (B b) := by
          subst hA; rw [hc2, hCS]; exact getS_rowA hpN (congrArg B (by dsimp only; rw [if_neg (by omega), if_pos rfl, hb]))
        have hgf : A.get none c0 q (B (f q)) := by subst hA; rw [hc0]; exact getS_rowA hqN rfl
        obtain ⟨c3, hc3⟩ : ∃ r, r = CS p (E (q + 1)) := ⟨_, rfl⟩
        have hup : A.upd 1 c2 p [B (E (q + 1))] c3 := by
          subst hA; rw [hc2, hc3, hCS]
          refine updS_rowA hpN fun x _ => ?_
          dsimp only
          by_cases hx : x = p
          · rw [if_pos hx, if_neg (by omega), if_pos hx]
          · simp only [if_neg hx]
        rw [← hb] at hEq
        refine And.intro (hsg _) (Exists.intro p (And.intro hixp ?_)); cbv
        refine And.intro (hsg _) (Exists.intro _ (And.intro hget ?_)); cbv
        cases b with
        | true =>
          cbv
          have hup : A.upd 1 c2 p [B true] c3 := by rw [hEq] at hup; exact hup
          refine And.intro (hsg _) (Exists.intro p (And.intro hixp ?_)); cbv
          refine And.intro (hsg _) (Exists.intro _ (And.intro hup ?_)); cbv
          exact hB2 (q + 1) _ _ (by omega) (by omega) ⟨congrArg I hadq, trivial⟩ ⟨rfl, rfl, rfl, rfl, trivial⟩ (.inl (by rw [hc3]))
        | false =>
          cbv
          have hup : A.upd 1 c2 p [B (f q)] c3 := by rw [hEq] at hup; exact hup
          refine And.intro (hsg _) (Exists.intro q (And.intro hixq ?_)); cbv
          refine And.intro (hsg _) (Exists.intro _ (And.intro hgf ?_)); cbv
          refine And.intro (hsg _) (Exists.intro p (And.intro hixp ?_)); cbv
          refine And.intro (hsg _) (Exists.intro _ (And.intro hup ?_)); cbv
          exact hB2 (q + 1) _ _ (by omega) (by omega) ⟨congrArg I hadq, trivial⟩ ⟨rfl, rfl, rfl, rfl, trivial⟩ (.inl (by rw [hc3]))
      · rename_i hz3
        have hqN : ¬ q < N := of_decide_eq_false (hlt2.symm.trans hz3)
        exact hB (p + 1) _ _ (by omega) (by omega) ⟨congrArg I hadp, trivial⟩ ⟨rfl, rfl, rfl, trivial⟩ (.inl (hstop (.inl (by omega)) ⟨[], []⟩ _ rfl))
    · rename_i hz2
      have hz2 : ¬ iq ≤ ip + s := of_decide_eq_false (hle2.symm.trans hz2)
      exact hB (p + 1) _ _ (by omega) (by omega) ⟨congrArg I hadp, trivial⟩ ⟨rfl, rfl, rfl, trivial⟩ (.inl (hstop (.inr (by omega)) ⟨[], []⟩ _ rfl))
  · rename_i hz
    have hpN : ¬ p < N := of_decide_eq_false (hlt.symm.trans hz)
    refine And.intro (hsg _) (hRR _ _ ?_)
    cbv
    rw [hc1, hend p (by omega)]
    exact h
end Go.Sas
namespace Go.Sas
open Go.Proofs
set_option maxRecDepth 100000
theorem nidL_rowB {N : Nat} {f : Nat → Bool} : AV.nidL (rowB N f) = true := nidL_rowA fun _ => rfl
theorem set_self {α : Type} {H : List α} {id : Nat} {X : α} (hX : H[id]? = some X) : H.set id X = H := by
  apply List.ext_getElem?; intro i
  rw [List.getElem?_set]
  split
  · rename_i hi; subst hi
    rw [hX, if_pos (List.getElem?_eq_some_iff.1 hX).1]
  · rfl
theorem p96H (N : Nat) (s : Int) (f : Nat → Bool) (hN : N ≤ 1000) (hs : 0 ≤ s ∧ s ≤ 100) (H : AHeap) {id : Nat} (hX : H[id]? = some (.own 0 (rowB N f))) {Kk : AV → AHeap → Prop}
    (h : ∀ cs, cs = rowB N (sprF N s f) → Kk (.ms 1 H.length 0 0 N) (H ++ [.own 0 cs])) : ACalls Try.prog 96 [.ms 1 id 0 0 N, I s] H Kk := by
  have h3 := p96 N s f hN hs (Kk := fun r H' => r = .ms 1 1 0 0 N ∧ H' = [.own 0 (rowB N f), .own 0 (rowB N (sprF N s f))]) ⟨rfl, rfl⟩
  have h4 := ACalls.frame (H := H) [id] h3 (by simp) (by simp) (by simp [AV.ltL, AV.lt]) (by simp [ltH, AObj.lt, AV.ltL_nid nidL_rowB]) (fun k X hk => by
    cases k with
    | zero => simp at hk; subst hk; simpa [at_, AObj.ren, AV.renL_nid nidL_rowB] using hX
    | succ k => simp at hk)
  have e : AV.renL [id] [.ms 1 0 0 0 N, I s] = [.ms 1 id 0 0 N, I s] := by simp [AV.renL, AV.ren, at_]
  rw [e] at h4
  refine h4.mono fun r H' hx => ?_
  obtain ⟨r0, H1, ⟨rfl, rfl⟩, _, rfl, rfl⟩ := hx
  have := h _ rfl
  simpa [merge, updL, AObj.ren, AV.ren, AV.renL_nid nidL_rowB, set_self hX, more, at_] using this
theorem p111H (m : List Mrk) (k : Nat) (h0 : Int) (N : Nat) (f : Nat → Bool) (hN : N ≤ 1000) (hk : k ≤ m.length) (hl : m.length ≤ 1000) (hm : ∀ x ∈ m, MkOk (iLen N) x) (H : AHeap) {id : Nat} (hX : H[id]? = some (.own 0 (rowB N f))) {Kk : AV → AHeap → Prop}
    (h : ∀ cs, cs = rowB N (takF m k h0 f) → Kk (.tup []) (H.set id (.own 0 cs))) : ACalls Try.prog 111 [.ms 1 id 0 0 N, .vs 5 (m.map mkV), I (iLen k), I h0] H Kk := by
  have h3 := p111 m k h0 N f hN hk hl hm (Kk := fun r H' => r = .tup [] ∧ H' = [.own 0 (rowB N (takF m k h0 f))]) ⟨rfl, rfl⟩
  have hmn : AV.nidL (m.map mkV) = true := nidL_map (g := mkV) (fun _ => rfl) _
  have h4 := ACalls.frame (H := H) [id] h3 (by simp) (by simp) (by simp [AV.ltL, AV.lt, AV.ltL_nid hmn]) (by simp [ltH, AObj.lt, AV.ltL_nid nidL_rowB]) (fun k X hk => by
    cases k with
    | zero => simp at hk; subst hk; simpa [at_, AObj.ren, AV.renL_nid nidL_rowB] using hX
    | succ k => simp at hk)
  have e : AV.renL [id] [.ms 1 0 0 0 N, .vs 5 (m.map mkV), I (iLen k), I h0] = [.ms 1 id 0 0 N, .vs 5 (m.map mkV), I (iLen k), I h0] := by simp [AV.renL, AV.ren, at_, AV.renL_nid hmn]
  rw [e] at h4
  refine h4.mono fun r H' hx => ?_
  obtain ⟨r0, H1, ⟨rfl, rfl⟩, _, rfl, rfl⟩ := hx
  have := h _ rfl
  simpa [merge, updL, AObj.ren, AV.ren, AV.renL, AV.renL_nid nidL_rowB] using this
def eSpr : List AV → AHeap → Option PT
  | [.ms 1 id 0 0 n, .lit (.int .i64 s)], H => some fun K => ∃ f : Nat → Bool, (n ≤ 1000 ∧ (0 ≤ s ∧ s ≤ 100) ∧ H[id]? = some (.own 0 (rowB n f))) ∧ ∀ cs id' H', cs = rowB n (sprF n s f) → id' = H.length → H' = H ++ [.own 0 cs] → K (.ms 1 id' 0 0 n) H'
  | _, _ => none
theorem eSpr_ok : ∀ args H pt, eSpr args H = some pt → ∀ (Kk : AV → AHeap → Prop), pt Kk → ACalls Try.prog 96 args H Kk := by
  intro args H pt h Kk hk
  unfold eSpr at h
  split at h
  · cases h
    obtain ⟨f, ⟨h1, h2, h3⟩, h4⟩ := hk
    exact p96H _ _ _ h1 h2 H h3 fun cs hcs => h4 cs _ _ hcs rfl rfl
  · cases h
def eTak : List AV → AHeap → Option PT
  | [.ms 1 id 0 0 n, .vs 5 xs, .lit (.int .i64 i), .lit (.int .i64 h)], H => some fun K => ∃ (m : List Mrk) (k : Nat) (f : Nat → Bool), (xs = m.map mkV ∧ i = iLen k ∧ n ≤ 1000 ∧ k ≤ m.length ∧ m.length ≤ 1000 ∧ (∀ x ∈ m, MkOk (iLen n) x) ∧ H[id]? = some (.own 0 (rowB n f))) ∧
      ∀ cs H', cs = rowB n (takF m k h f) → H' = H.set id (.own 0 cs) → K (.tup []) H'
  | _, _ => none
theorem eTak_ok : ∀ args H pt, eTak args H = some pt → ∀ (Kk : AV → AHeap → Prop), pt Kk → ACalls Try.prog 111 args H Kk := by
  intro args H pt h Kk hk
  unfold eTak at h
  split at h
  · cases h
    obtain ⟨m, k, f, ⟨rfl, rfl, h1, h2, h3, h4, h5⟩, h6⟩ := hk
    exact p111H m k _ _ f h1 h2 h3 h4 H h5 fun cs hcs => h6 cs _ hcs rfl
  · cases h
theorem frzH_get {id g sz : Nat} {xs0 : List AV} : ∀ {H : AHeap} {i : Nat} {X : AObj}, H[i]? = some X → (frzH id g sz xs0 H)[i]? = some (X.frz id g sz xs0)
  | [], i, X, h => by simp at h
  | Y :: H, 0, X, h => by simp at h; subst h; rfl
  | Y :: H, i + 1, X, h => by simp only [frzH, List.getElem?_cons_succ] at h ⊢; exact frzH_get h
theorem Frees.two {id1 id2 N : Nat} (hne : id1 ≠ id2) {xs ys : List AV} (hx : xs.length = N) (hy : ys.length = N) (hxn : AV.nidL xs = true) (hyn : AV.nidL ys = true) (hE1 : Elems 1 xs xs) (hE2 : Elems 1 ys ys) {H : AHeap} {Kk : AV → AHeap → Prop}
    (h1 : H[id1]? = some (.own 0 xs)) (h2 : H[id2]? = some (.own 0 ys)) (h : Kk (.tup [.vs 1 xs, .vs 1 ys]) []) : Frees 0 Kk (.tup [.ms 1 id1 0 0 N, .ms 1 id2 0 0 N]) H := by
  refine Frees.frz id1 0 1 xs h1 hE1 ?_
  have e1 : AV.frz id1 0 1 xs (.tup [.ms 1 id1 0 0 N, .ms 1 id2 0 0 N]) = .tup [.vs 1 xs, .ms 1 id2 0 0 N] := by
    simp [AV.frz, AV.frzL, hx, Ne.symm hne, List.take_of_length_le (Nat.le_of_eq hx)]
  rw [e1]
  have h3 : (frzH id1 0 1 xs (H.set id1 .gone))[id2]? = some (.own 0 ys) := by
    have := frzH_get (id := id1) (g := 0) (sz := 1) (xs0 := xs) (show (H.set id1 AObj.gone)[id2]? = some (.own 0 ys) by rw [List.getElem?_set_ne hne]; exact h2)
    rw [this, AObj.frz, AV.frzL_nid hyn]
  refine Frees.frz id2 0 1 ys h3 hE2 ?_
  have e2 : AV.frz id2 0 1 ys (.tup [.vs 1 xs, .ms 1 id2 0 0 N]) = .tup [.vs 1 xs, .vs 1 ys] := by
    simp [AV.frz, AV.frzL, hy, List.take_of_length_le (Nat.le_of_eq hy)]
  rw [e2]
  refine Frees.drop0 h ?_
  simp [AV.nid, AV.nidL, hxn, hyn]
theorem p94 (m : List Mrk) (k : Nat) (h0 : Int) (N : Nat) (hN : 1 ≤ N ∧ N ≤ 1000) (hk : k < m.length) (hl : m.length ≤ 1000) (hm : ∀ x ∈ m, MkOk (iLen N) x) (hh : 0 ≤ h0 ∧ h0 ≤ 10000) (H : AHeap) {Kk : AV → AHeap → Prop}
    (h : Kk (.tup [.vs 1 (((List.range N).map (covB m k h0 N).1).map B), .vs 1 (((List.range N).map (covB m k h0 N).2).map B)]) H) : ACalls Try.prog 94 [I (iLen N), .vs 5 (m.map mkV), I (iLen k), I h0] H Kk := by
  refine (fun q => pureF (by rfl) (by rfl) q H h) ?_
  clear h
  intro Kk h
  obtain ⟨xs, hxs⟩ : ∃ xs, xs = m.map mkV := ⟨_, rfl⟩
  rw [← hxs]
  obtain ⟨F, hF⟩ : ∃ F, F = Frees 0 Kk := ⟨_, rfl⟩
  rw [← hF]
  obtain ⟨A, hA⟩ : ∃ A, A = std := ⟨_, rfl⟩
  have hsg : ∀ g, A.sg g g := by subst hA; exact fun _ => rfl
  have hle : ∀ a b, A.le a b = decide (a ≤ b) := by subst hA; intro a b; rfl
  have hll : ∀ a b, A.lt a b = decide (a < b) := by subst hA; intro a b; rfl
  have hee : ∀ a b : Int, A.eq a b = decide (a = b) := fun a b => by subst hA; simp only [std, iEq]; rw [Bool.eq_iff_iff]; simp
  obtain ⟨ik, hik⟩ : ∃ q, q = iLen k := ⟨_, rfl⟩
  obtain ⟨iN, hiN⟩ : ∃ q, q = iLen N := ⟨_, rfl⟩
  rw [← hik, ← hiN]
  obtain ⟨⟨xk, xf, xt, xh, xsp⟩, hx⟩ : ∃ y, m[k]? = some y := ⟨_, List.getElem?_eq_getElem hk⟩
  have hix : A.ix 5 5 xs ik [I xk, I xf, I xt, I xh, I xsp] := by subst hA; exact ix_map hxs hik hx rfl
  obtain ⟨o1, o2, o3, o4, o5, o6⟩ := hm _ (List.mem_of_getElem? hx)
  dsimp only at o1 o2 o3 o4 o5 o6
  obtain ⟨RW, hRW⟩ : ∃ F : (Nat → Bool) → List AV, F = fun f => rowB N f := ⟨_, rfl⟩
  have hmk : A.mkz 1 1 [.bool false] iN iN (RW fun _ => false) N := by
    rw [hiN]; subst hA; rw [hRW]; exact mkS_rowA rfl (by omega) (by omega)
  refine go94 rfl ?_
  refine AGo_opq fun RR hRR => ?_
  refine SGo_run hA ⟨[0, 1], [], [], []⟩ .nil .nil 200 fun T TD hT hTD => ?_
  cbv
  rw [hT]
  refine AGo_drwN [] (RW fun _ => false) N ?_
  refine SD_run hA ⟨[0, 1], [], [], []⟩ .nil .nil 200 200 (fun D' hD => by cases hD; show SubH [] _; simp [SubH]) fun T TD hT hTD => ?_
  cbv
  refine And.intro hmk (And.intro hmk (Exists.intro _ (And.intro hix ?_))); cbv
  have hend : ∀ (fm fs : Nat → Bool), (∀ p < N, fm p = (covB m k h0 N).1 p) → (∀ p < N, fs p = (covB m k h0 N).2 p) → ∀ (id : Nat) (H : AHeap), id ≠ 1 → H[id]? = some (.own 0 (RW fm)) → H[1]? = some (.own 0 (RW fs)) → F (aTup [.ms 1 id 0 0 N, .ms 1 1 0 0 N]) H := by
    intro fm fs e1 e2 id H hid q1 q2
    rw [hF]
    have w1 : RW fm = ((List.range N).map (covB m k h0 N).1).map B := by rw [hRW, ← rowA_map]; exact rowA_congr fun q hq => by rw [e1 q hq]
    have w2 : RW fs = ((List.range N).map (covB m k h0 N).2).map B := by rw [hRW, ← rowA_map]; exact rowA_congr fun q hq => by rw [e2 q hq]
    rw [w1] at q1
    rw [w2] at q2
    exact Frees.two hid (by simp) (by simp) (nidL_map (g := B) (fun _ => rfl) _) (nidL_map (g := B) (fun _ => rfl) _) (Elems_one (F := B) (fun _ => rfl) (fun _ => rfl) _) (Elems_one (F := B) (fun _ => rfl) (fun _ => rfl) _) q1 q2 h
  have d1 : m.getD k mk0 = ⟨xk, xf, xt, xh, xsp⟩ := by rw [List.getD_eq_getElem?_getD, hx]; rfl
  have hno : (xk = 4 ∨ h0 < xh) → F (aTup [.ms 1 0 0 0 N, .ms 1 1 0 0 N]) [.own 0 (RW fun _ => false), .own 0 (RW fun _ => false), .own 0 [I xk, I xf, I xt, I xh, I xsp]] := fun hq => by
    have hc : covB m k h0 N = (fun _ => false, fun _ => false) := by unfold covB; rw [d1, if_pos hq]
    exact hend _ _ (fun p _ => by rw [hc]) (fun p _ => by rw [hc]) 0 _ (by decide) rfl rfl
  have g4 : A.eq xk 4 = decide (xk = 4) := hee _ _
  have gh : A.lt h0 xh = decide (h0 < xh) := hll _ _
  split <;> cbv
  · rename_i hz
    have hz : xk = 4 := of_decide_eq_true (g4.symm.trans hz)
    refine hRR _ _ ?_
    cbv
    exact hno (.inl hz)
  rename_i hz4
  have hz4 : ¬ xk = 4 := of_decide_eq_false (g4.symm.trans hz4)
  split <;> cbv
  · rename_i hz
    have hz : h0 < xh := of_decide_eq_true (gh.symm.trans hz)
    refine hRR _ _ ?_
    cbv
    exact hno (.inr hz)
  rename_i hz5
  have hz5 : ¬ h0 < xh := of_decide_eq_false (gh.symm.trans hz5)
  obtain ⟨J, hJ⟩ : ∃ J, J = (h0 - xh).toNat := ⟨_, rfl⟩
  have hcov : covB m k h0 N = hrsF m k N ⟨xk, xf, xt, xh, xsp⟩ J := by unfold covB; rw [d1, if_neg (by dsimp only; omega), hJ]
  obtain ⟨HF, hHF⟩ : ∃ f, f = hrsF m k N ⟨xk, xf, xt, xh, xsp⟩ := ⟨_, rfl⟩
  rw [← hHF] at hcov
  clear hno hix
  rw [hT]
  have hmo : ∀ x ∈ m, MkOk (iLen N) x := hm
  obtain ⟨G, hG⟩ : ∃ G : Nat → Nat → Bool, G = fun j p => decide (xf ≤ iLen p ∧ iLen p < xf + iLen j) := ⟨_, rfl⟩
  have hG0 : RW (fun _ => false) = RW (G 0) := by
    congr 1; funext p; rw [hG]; dsimp only; rw [decide_eq_false (by unfold iLen; omega)]
  have hGn : ∀ j, xf + iLen j = xt + 1 → RW (G j) = RW (fun p => inM p ⟨xk, xf, xt, xh, xsp⟩) := fun j hj => by
    congr 1; funext p; rw [hG]; unfold inM; dsimp only
    rw [decide_eq_decide]; unfold iLen at *; omega
  refine AGo_whileE (σ := Nat) [1, 2, 3, 10, 11, 12] (fun j => (xt + 1 - xf).toNat - j) (fun j => xf + iLen j ≤ xt + 1) (fun j => [(13, I (xf + iLen j))]) (fun j => [.own 0 (RW (G j)), .own 0 (RW (G j)), .own 0 [I xk, I xf, I xt, I xh, I xsp]]) 0 (by unfold iLen; omega) ⟨congrArg I (by unfold iLen; omega), trivial⟩ (.inl (by rw [hG0])) fun j hP3 Bk2 hB2 => ?_
  obtain ⟨ip, hip⟩ : ∃ q, q = xf + iLen j := ⟨_, rfl⟩
  rw [← hip] at hP3 ⊢
  obtain ⟨c2, hc2⟩ : ∃ r, r = RW (G j) := ⟨_, rfl⟩
  rw [← hc2]
  have hlep : A.le ip xt = decide (ip ≤ xt) := hle _ _
  refine SGo_run hA ⟨[0, 1], [], [], (111, eTak) :: (96, eSpr) :: []⟩ .nil (.cons eTak_ok (.cons eSpr_ok .nil)) 200 fun T TD hT hTD => ?_
  cbv
  split <;> cbv
  · rename_i hzp
    have hzp := of_decide_eq_true (hlep.symm.trans hzp)
    obtain ⟨p, hp⟩ : ∃ p : Nat, ip = iLen p := ⟨ip.toNat, by unfold iLen at *; omega⟩
    have hpN : p < N := by unfold iLen at hp o4; omega
    have hixp : A.ixm 1 1 0 N ip p := by subst hA; exact ixm1 hp hpN
    obtain ⟨c3, hc3⟩ : ∃ r, r = RW (G (j + 1)) := ⟨_, rfl⟩
    have hup : A.upd 1 c2 p [B true] c3 := by
      subst hA; rw [hc2, hc3, hRW]
      refine updS_rowA hpN fun q _ => ?_
      by_cases hq : q = p
      · rw [if_pos hq, hq, hG]; dsimp only
        rw [decide_eq_true (show xf ≤ iLen p ∧ iLen p < xf + iLen (j + 1) by unfold iLen at *; omega)]
      · rw [if_neg hq, hG]; dsimp only
        have : (xf ≤ iLen q ∧ iLen q < xf + iLen (j + 1)) ↔ (xf ≤ iLen q ∧ iLen q < xf + iLen j) := by unfold iLen at *; omega
        simp only [this]
    have hadd : A.add .i64 ip 1 = xf + iLen (j + 1) := by
      subst hA; show iAdd .i64 ip 1 = _; rw [iAdd_id (by unfold iLen at hp; omega) (by unfold iLen at hp; omega), hip]; unfold iLen; omega
    refine And.intro (hsg _) (Exists.intro p (And.intro hixp ?_)); cbv
    refine And.intro (hsg _) (Exists.intro _ (And.intro hup ?_)); cbv
    refine And.intro (hsg _) (Exists.intro p (And.intro hixp ?_)); cbv
    refine And.intro (hsg _) (Exists.intro _ (And.intro hup ?_)); cbv
    exact hB2 (j + 1) _ _ (by unfold iLen at hip; omega) (by unfold iLen at *; omega) ⟨congrArg I hadd, trivial⟩ ⟨rfl, rfl, rfl, rfl, rfl, rfl, trivial⟩ (.inl (by rw [hc3]))
  rename_i hzp
  have hzp := of_decide_eq_false (hlep.symm.trans hzp)
  have hcI : c2 = RW (fun p => inM p ⟨xk, xf, xt, xh, xsp⟩) := by rw [hc2]; exact hGn j (by omega)
  have hadk : A.add .i64 ik 1 = iLen (k + 1) := by subst hA; exact add_one (N := 1000) hik (by omega) (by omega)
  clear hB2 hG0 hGn
  refine Exists.intro m (Exists.intro (k + 1) (Exists.intro _ (And.intro ⟨hxs, hadk, hN.2, hk, hl, hmo, by rw [hcI, hRW]; rfl⟩ ?_)))
  rintro c4 _ hc4 rfl; cbv
  refine Exists.intro m (Exists.intro (k + 1) (Exists.intro _ (And.intro ⟨hxs, hadk, hN.2, hk, hl, hmo, by rw [hcI, hRW]; rfl⟩ ?_)))
  rintro c5 _ hc5 rfl; cbv
  have hc4 : c4 = RW (HF 0).1 := by rw [hc4, hRW, hHF]; rfl
  have hc5 : c5 = RW (HF 0).2 := by rw [hc5, hRW, hHF]; rfl
  rw [hT]
  refine AGo_whileE (σ := Nat × Nat × AObj × AHeap) [1, 3, 11, 12] (fun s => J - s.1) (fun s => s.1 ≤ J ∧ s.2.1 ≠ 1 ∧ (s.2.2.1 :: .own 0 (RW (HF s.1).2) :: .own 0 [I xk, I xf, I xt, I xh, I xsp] :: s.2.2.2)[s.2.1]? = some (.own 0 (RW (HF s.1).1)))
    (fun s => [(10, .ms 1 s.2.1 0 0 N), (14, I (xh + iLen (s.1 + 1)))]) (fun s => s.2.2.1 :: .own 0 (RW (HF s.1).2) :: .own 0 [I xk, I xf, I xt, I xh, I xsp] :: s.2.2.2) (0, 0, .own 0 c4, []) ⟨Nat.zero_le _, Nat.zero_ne_one, by rw [hc4]; rfl⟩ ⟨rfl, congrArg I (by subst hA; exact iAdd_id (by omega) (by omega)), trivial⟩ (.inl (by rw [hc5])) fun s hP Bk hB => ?_
  obtain ⟨j, id, X0, rest⟩ := s
  obtain ⟨hjJ, hid, hX⟩ := hP
  dsimp only at hjJ hid hX ⊢
  obtain ⟨ih, hih⟩ : ∃ q, q = xh + iLen (j + 1) := ⟨_, rfl⟩
  rw [← hih]
  obtain ⟨c6, hc6⟩ : ∃ c, c = RW (HF j).2 := ⟨_, rfl⟩
  rw [← hc6] at hX ⊢
  have hleh : A.le ih h0 = decide (j < J) := by rw [hle, decide_eq_decide, hih, hJ]; unfold iLen; omega
  refine SGo_run hA ⟨[0, 1], [], [], (111, eTak) :: (96, eSpr) :: []⟩ .nil (.cons eTak_ok (.cons eSpr_ok .nil)) 200 fun T TD hT hTD => ?_
  cbv
  split <;> cbv
  · rename_i hz
    have hjJ2 : j < J := of_decide_eq_true (hleh.symm.trans hz)
    have hadj : A.add .i64 ih 1 = xh + iLen (j + 1 + 1) := by
      subst hA; show iAdd .i64 ih 1 = _
      rw [iAdd_id (by unfold iLen at hih; omega) (by unfold iLen at hih; omega), hih]; unfold iLen; omega
    refine Exists.intro (HF j).1 (And.intro ⟨hN.2, o6, by rw [hRW] at hX; exact hX⟩ ?_)
    intro c7 id7 H7 hc7 hid7 hH7
    have hid7 : id7 = rest.length + 3 := hid7
    have hH7 : H7 = X0 :: .own 0 c6 :: .own 0 [I xk, I xf, I xt, I xh, I xsp] :: (rest ++ [.own 0 c7]) := hH7
    cbv
    refine Exists.intro m (Exists.intro 0 (Exists.intro (sprF N xsp (HF j).1) (And.intro ⟨hxs, rfl, hN.2, Nat.zero_le _, hl, hmo, by rw [hH7, hid7, hc7]; simp⟩ ?_)))
    intro c8 H8 hc8 hH8
    have hH8 : H8 = X0 :: .own 0 c6 :: .own 0 [I xk, I xf, I xt, I xh, I xsp] :: (rest ++ [.own 0 c8]) := by
      have hH8 : H8 = H7.set id7 (.own 0 c8) := hH8
      rw [hH8, hH7, hid7]; simp
    cbv
    refine Exists.intro m (Exists.intro 0 (Exists.intro (HF j).2 (And.intro ⟨hxs, rfl, hN.2, Nat.zero_le _, hl, hmo, by rw [hH8, hc6, hRW]; rfl⟩ ?_)))
    intro c9 H9 hc9 hH9
    have hH9 : H9 = X0 :: .own 0 c9 :: .own 0 [I xk, I xf, I xt, I xh, I xsp] :: (rest ++ [.own 0 c8]) := by
      have hH9 : H9 = H8.set 1 (.own 0 c9) := hH9
      rw [hH9, hH8]; rfl
    cbv
    have hc8 : c8 = RW (HF (j + 1)).1 := by rw [hc8, hRW, hHF]; dsimp only; rw [hih]; rfl
    have hc9 : c9 = RW (HF (j + 1)).2 := by rw [hc9, hRW, hHF]; dsimp only; rw [hih]; rfl
    exact hB (j + 1, id7, X0, rest ++ [.own 0 c8]) _ _ (by dsimp only; omega) ⟨by dsimp only; omega, by dsimp only; omega, by dsimp only; rw [hid7, hc8]; simp⟩ ⟨rfl, congrArg I hadj, trivial⟩ ⟨rfl, rfl, rfl, rfl, trivial⟩ (.inl (by dsimp only; rw [hH9, hc9]))
  · rename_i hz
    have hjJ2 : ¬ j < J := of_decide_eq_false (hleh.symm.trans hz)
    refine hRR _ _ ?_
    cbv
    exact hend (HF j).1 (HF j).2 (fun p _ => by rw [hcov, show j = J by omega]) (fun p _ => by rw [hcov, show j = J by omega]) id _ hid hX (by rw [hc6]; rfl)
end Go.Sas
