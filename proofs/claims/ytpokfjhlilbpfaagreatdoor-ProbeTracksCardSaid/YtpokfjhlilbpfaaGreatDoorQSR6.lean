/-
Texts that are damaged: contracts of Wrap and Damage.
Conditions: none.
-/
import Derived.Test.YtpokfjhlilbpfaaGreatDoorXHg
import Derived.Test.YtpokfjhlilbpfaaGreatDoorXJg
set_option linter.unusedVariables false
set_option linter.unusedSimpArgs false
namespace Go.Sas
open Go.Proofs
set_option maxRecDepth 100000
theorem liftQ {P : Program} {f : Nat} {args : List AV} {Q : AV → Prop} (ha : AV.nidL args = true) (hQ : ∀ r, Q r → r.nid = true) (h : ∀ Kk : AV → AHeap → Prop, (∀ r, Q r → Kk r []) → ACalls P f args [] Kk) (H : AHeap) {Kk : AV → AHeap → Prop} (hk : ∀ r, Q r → Kk r H) : ACalls P f args H Kk := by
  have h0 := h (fun r H' => Q r ∧ H' = []) fun r hr => ⟨hr, rfl⟩
  have := ACalls.frame (H := H) [] h0 List.nodup_nil rfl (AV.ltL_nid ha) (by simp [ltH]) (fun k X hk => by simp at hk)
  rw [AV.renL_nid ha] at this
  refine this.mono fun r H' hx => ?_
  obtain ⟨r0, H1, ⟨hq, rfl⟩, _, rfl, rfl⟩ := hx
  rw [AV.ren_nid (hQ _ hq)]
  simpa [merge, updL] using hk _ hq
structure WrapIs (s k : Int) : Prop where
  lo : 0 ≤ k
  hi : k < s ∨ k = 0
theorem p37 (n s : Int) (hn : I64 n) (hs : 0 ≤ s ∧ s ≤ 1000000000) (H : AHeap) {Kk : AV → AHeap → Prop} (h : ∀ k, WrapIs s k → Kk (I k) H) : ACalls Tryz.prog 37 [I n, I s] H Kk := by
  refine liftQ (Q := fun r => ∃ k, r = I k ∧ WrapIs s k) (by rfl) (by rintro r ⟨k, rfl, _⟩; rfl) ?_ H (by rintro r ⟨k, rfl, hk⟩; exact h k hk)
  clear h
  intro Kk h
  have h : ∀ k, WrapIs s k → Kk (I k) [] := fun k hk => h _ ⟨k, rfl, hk⟩
  obtain ⟨A, hA⟩ : ∃ A, A = std := ⟨_, rfl⟩
  have hlt : ∀ x y, A.lt x y = decide (x < y) := by subst hA; intro x y; rfl
  refine go37 rfl (SGo_run hA ⟨[], [], [], []⟩ .nil .nil 200 fun T TD hT hTD => ?_)
  cbv
  split <;> cbv
  · exact h 0 ⟨Int.le_refl 0, .inr rfl⟩
  rename_i hq
  have hq : ¬ s < 2 := of_decide_eq_false ((hlt _ _).symm.trans hq)
  have hnz : A.nz s := by subst hA; show s ≠ 0; omega
  refine And.intro hnz ?_; cbv
  refine And.intro hnz ?_; cbv
  refine h _ ?_
  obtain ⟨h1, h2⟩ := hn
  have e1 : A.rem .i64 n s = n.tmod s := by subst hA; rfl
  have b1 : -s < n.tmod s ∧ n.tmod s < s := by
    have := Int.tmod_lt_of_pos n (show 0 < s by omega)
    have h3 := Int.lt_tmod_of_pos n (show 0 < s by omega)
    exact ⟨h3, this⟩
  have e2 : A.add .i64 (A.rem .i64 n s) s = n.tmod s + s := by rw [e1]; subst hA; exact iAdd_id (by omega) (by omega)
  have e3 : A.rem .i64 (A.add .i64 (A.rem .i64 n s) s) s = (n.tmod s + s).tmod s := by rw [e2]; subst hA; rfl
  have b2 : 0 ≤ (n.tmod s + s).tmod s := Int.tmod_nonneg _ (by omega)
  have b3 : (n.tmod s + s).tmod s < s := Int.tmod_lt_of_pos _ (by omega)
  show WrapIs s (A.rem .i64 (A.add .i64 (A.rem .i64 n s) s) s)
  rw [e3]
  exact ⟨b2, .inl b3⟩
structure WrapPre (n s : Int) : Prop where
  n : I64 n
  s : 0 ≤ s ∧ s ≤ 1000000000
def eWrap : List AV → Option ((AV → Prop) → Prop)
  | [.lit (.int .i64 n), .lit (.int .i64 s)] => some fun K => WrapPre n s ∧ ∀ k, WrapIs s k → K (I k)
  | _ => none
theorem eWrap_ok : ∀ args pt, eWrap args = some pt → ∀ (H : AHeap) (Kk : AV → AHeap → Prop), pt (fun r => Kk r H) → ACalls Tryz.prog 37 args H Kk := by
  intro args pt h H Kk hk
  unfold eWrap at h
  split at h
  · cases h
    obtain ⟨⟨h1, h2⟩, hk⟩ := hk
    exact p37 _ _ h1 h2 H hk
  · cases h
theorem slsL_ok {s : ByteArray} {b : Nat} (hb : b ≤ s.data.toList.length) : slsS s none (some (iLen b)) (bA (s.data.toList.take b)) :=
  ⟨0, b, rfl, by simp [bdI, iLen], Nat.zero_le _, hb, by rw [bA_extract]; simp⟩
theorem slsR_ok {s : ByteArray} {a : Nat} (ha : a ≤ s.data.toList.length) : slsS s (some (iLen a)) none (bA (s.data.toList.drop a)) :=
  ⟨a, s.size, by simp [bdI, iLen], rfl, ha, Nat.le_refl _, by
    rw [bA_extract, List.take_of_length_le]
    rw [List.length_drop]; exact Nat.le_refl _⟩
theorem scat_ex (x y : ByteArray) (hx : x.size ≤ 100000000) (hy : y.size ≤ 100000000) : ∃ r, scatS x y r ∧ r.size = x.size + y.size :=
  ⟨x ++ y, ⟨by omega, rfl⟩, by simp [ByteArray.size_append]⟩
set_option maxHeartbeats 4000000 in
theorem p15 (sb : ByteArray) (at_ how by_ : Int) (hs : sb.data.toList.length ≤ 1000000) (ha : I64 at_) (hh : I64 how) (H : AHeap) {Kk : AV → AHeap → Prop} (h : ∀ t, Kk (.lit (.string t)) H) :
    ACalls Tryz.prog 15 [.lit (.string sb), I at_, I how, .lit (.int .u8 by_)] H Kk := by
  refine liftQ (Q := fun r => ∃ t, r = .lit (.string t)) (by rfl) (by rintro r ⟨k, rfl⟩; rfl) ?_ H (by rintro r ⟨k, rfl⟩; exact h k)
  clear h
  intro Kk h
  have h : ∀ t, Kk (.lit (.string t)) [] := fun t => h _ ⟨t, rfl⟩
  obtain ⟨⟨l⟩⟩ := sb
  simp only at hs
  obtain ⟨A, hA⟩ : ∃ A, A = std := ⟨_, rfl⟩
  have hlt : ∀ x y, A.lt x y = decide (x < y) := by subst hA; intro x y; rfl
  have hee : ∀ x y, A.eq x y = decide (x = y) := by subst hA; intro x y; simp only [std, iEq]; rw [Bool.eq_iff_iff]; simp
  have hll : ∀ n : Nat, A.len n = (n : Int) := by subst hA; intro n; rfl
  have hsc : ∀ x y : ByteArray, x.size ≤ 100000000 → y.size ≤ 100000000 → ∃ r, A.scat x y r ∧ r.size = x.size + y.size := by subst hA; exact scat_ex
  refine go15 rfl (SGo_run hA ⟨[], [], (37, eWrap) :: [], []⟩ (.cons eWrap_ok .nil) .nil 200 fun T TD hT hTD => ?_)
  cbv
  split <;> cbv
  · exact h _
  rename_i hq
  have hq : ¬ l.length = 0 := by
    have hq9 := (hee _ _).symm.trans hq
    rw [hll, ← List.length.eq_def] at hq9
    exact fun h9 => of_decide_eq_false hq9 (congrArg Nat.cast h9)
  refine And.intro ⟨ha, ?_⟩ fun k hk => ?_
  · rw [← List.length.eq_def]
    exact (show 0 ≤ A.len l.length ∧ A.len l.length ≤ 1000000000 from by rw [hll]; exact ⟨Int.natCast_nonneg _, Int.le_trans (Int.ofNat_le.2 hs) (by decide)⟩)
  have hk1 := hk.lo
  have hk2 : k < (l.length : Int) := by
    have h9 := hk.hi
    rw [← List.length.eq_def] at h9
    have h9 : k < A.len l.length ∨ k = 0 := h9
    rw [hll] at h9
    rcases h9 with h9 | h9
    · exact h9
    · omega
  clear hk
  obtain ⟨kn, hkn⟩ : ∃ n : Nat, k = iLen n := ⟨k.toNat, by unfold iLen; omega⟩
  have hkl : kn < l.length := by unfold iLen at hkn; omega
  have e1 : A.add .i64 k 1 = iLen (kn + 1) := by subst hA; exact add_one (N := kn + 1) hkn (by omega) (by omega)
  have s1 : A.sls ⟨⟨l⟩⟩ none (some k) (bA (l.take kn)) := by rw [hkn]; subst hA; exact slsL_ok (s := ⟨⟨l⟩⟩) (Nat.le_of_lt hkl)
  have s2 : A.sls ⟨⟨l⟩⟩ (some (A.add .i64 k 1)) none (bA (l.drop (kn + 1))) := by rw [e1]; subst hA; exact slsR_ok (s := ⟨⟨l⟩⟩) hkl
  have s3 : A.sls ⟨⟨l⟩⟩ (some k) none (bA (l.drop kn)) := by rw [hkn]; subst hA; exact slsR_ok (s := ⟨⟨l⟩⟩) (Nat.le_of_lt hkl)
  have z1 : (bA (l.take kn)).size ≤ 1000000 := by rw [bA_size]; simp; omega
  have z2 : (bA (l.drop (kn + 1))).size ≤ 1000000 := by rw [bA_size]; simp; omega
  have z3 : (bA (l.drop kn)).size ≤ 1000000 := by rw [bA_size]; simp; omega
  generalize bA (l.take kn) = t1 at s1 z1
  generalize bA (l.drop (kn + 1)) = t2 at s2 z2
  generalize bA (l.drop kn) = t3 at s3 z3
  cbv
  refine And.intro ⟨hh, by omega⟩ fun k2 hk2' => ?_
  cbv
  split <;> cbv
  · refine Exists.intro _ (And.intro s1 ?_); cbv
    obtain ⟨r1, g1, g2⟩ := hsc t1 ⟨#[UInt8.ofNat by_.toNat]⟩ (by omega) (show 1 ≤ 100000000 by decide)
    have g2 : r1.size = t1.size + 1 := g2
    refine Exists.intro r1 (And.intro g1 ?_); cbv
    refine Exists.intro _ (And.intro s2 ?_); cbv
    obtain ⟨r2, g3, g4⟩ := hsc r1 t2 (by omega) (by omega)
    refine Exists.intro r2 (And.intro g3 ?_); cbv
    exact h _
  split <;> cbv
  · refine Exists.intro _ (And.intro s1 ?_); cbv
    refine Exists.intro _ (And.intro s2 ?_); cbv
    obtain ⟨r2, g3, g4⟩ := hsc t1 t2 (by omega) (by omega)
    refine Exists.intro r2 (And.intro g3 ?_); cbv
    exact h _
  · refine Exists.intro _ (And.intro s1 ?_); cbv
    obtain ⟨r1, g1, g2⟩ := hsc t1 ⟨#[UInt8.ofNat by_.toNat]⟩ (by omega) (show 1 ≤ 100000000 by decide)
    have g2 : r1.size = t1.size + 1 := g2
    refine Exists.intro r1 (And.intro g1 ?_); cbv
    refine Exists.intro _ (And.intro s3 ?_); cbv
    obtain ⟨r2, g3, g4⟩ := hsc r1 t3 (by omega) (by omega)
    refine Exists.intro r2 (And.intro g3 ?_); cbv
    exact h _
end Go.Sas
