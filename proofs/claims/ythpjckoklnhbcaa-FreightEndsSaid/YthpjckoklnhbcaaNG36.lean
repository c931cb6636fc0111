/-
Freight: the law FreightEnds: its core.
Conditions: none.
-/
import Derived.Test.YthpjckoklnhbcaaZ18
import Derived.Test.YthpjckoklnhbcaaNFL12
import Derived.Test.YthpjckoklnhbcaaZ10
set_option linter.unusedVariables false
set_option linter.unusedSimpArgs false
namespace Go.Sas
open Go.Proofs
set_option maxRecDepth 100000
def eWinE (u v : Int → Int → Int → Int → Int) (w : Int × Int → Int) : List AV → Option ((AV → Prop) → Prop)
  | [.agg [.lit (.int .i64 a), .lit (.int .i64 b), .lit (.int .i64 c), .lit (.int .i64 d), .vs 2 xs, .vs 4 _]] =>
    some fun K => ∃ (cs : List (Int × Int)), (xs = cs.map sp ∧ cs.length ≤ 1000000) ∧ ∀ zs : List AV, zs = (cs.map w).map I → K (winV (u a b c d) (v a b c d) (.vs 1 zs))
  | _ => none
theorem eBestE_ok : ∀ args pt, eWinE (fun a _ _ _ => a) (fun _ _ _ d => d) (·.2) args = some pt → ∀ (H : AHeap) (Kk : AV → AHeap → Prop), pt (fun r => Kk r H) → ACalls Try.prog 52 args H Kk := by
  intro args pt h H Kk hk
  unfold eWinE at h
  split at h
  · cases h
    obtain ⟨cs, ⟨rfl, h1⟩, h2⟩ := hk
    exact p52 _ _ _ _ _ _ h1 H (h2 _ (by rw [List.map_map]; rfl))
  · cases h
theorem eWorstE_ok : ∀ args pt, eWinE (fun _ b _ _ => b) (fun _ _ c _ => c) (·.1) args = some pt → ∀ (H : AHeap) (Kk : AV → AHeap → Prop), pt (fun r => Kk r H) → ACalls Try.prog 41 args H Kk := by
  intro args pt h H Kk hk
  unfold eWinE at h
  split at h
  · cases h
    obtain ⟨cs, ⟨rfl, h1⟩, h2⟩ := hk
    exact p41 _ _ _ _ _ _ h1 H (h2 _ (by rw [List.map_map]; rfl))
  · cases h
set_option maxHeartbeats 4000000 in
theorem core12 (nums : List Int) (hn1 : nums.length ≤ 9223372036854775807) : ACalls Try.prog 12 [.vs 1 (nums.map I)] [] fun r _ => r = .lit (.bool true) := by
  obtain ⟨Kk, hKk⟩ : ∃ K : AV → AHeap → Prop, K = fun r _ => r = .lit (.bool true) := ⟨_, rfl⟩
  rw [← hKk]
  have h : ∀ H, Kk (B true) H := fun H => by rw [hKk]
  clear hKk
  obtain ⟨xn, hxn⟩ : ∃ ys, ys = nums.map I := ⟨_, rfl⟩
  rw [← hxn]
  obtain ⟨A, hA⟩ : ∃ A, A = std := ⟨_, rfl⟩
  have hne0 : A.ne 0 0 = false := by subst hA; rfl
  have hnn : ∀ x y, A.ne x y = decide (x ≠ y) := by subst hA; intro x y; simp only [std, iNe]; rw [Bool.eq_iff_iff]; simp
  have hee : ∀ x y, A.eq x y = decide (x = y) := by subst hA; intro x y; simp only [std, iEq]; rw [Bool.eq_iff_iff]; simp
  have hll : ∀ x y, A.lt x y = decide (x < y) := by subst hA; intro x y; rfl
  have hnb : ∀ b, A.bnot b = !b := by subst hA; intro b; rfl
  have hbq : ∀ b b', A.beq b b' = (b == b') := by subst hA; intro b b'; rfl
  have hba : ∀ b b', A.band b b' = (b && b') := by subst hA; intro b b'; rfl
  refine go12 rfl (SGo_run hA ⟨[], [0], (17, eAwake) :: (30, eRange) :: (33, ePromise) :: (41, eWinE (fun _ b _ _ => b) (fun _ _ c _ => c) (·.1)) :: (50, eDriven) :: (52, eWinE (fun a _ _ _ => a) (fun _ _ _ d => d) (·.2)) :: (53, eSpan) :: [], edF⟩ (.cons eAwake_ok (.cons eRange_ok (.cons ePromise_ok (.cons eWorstE_ok (.cons eDriven_ok (.cons eBestE_ok (.cons eSpan_ok .nil))))))) edF_ok 200 fun T TD hT hTD => ?_)
  cbv
  refine Exists.intro nums (And.intro ⟨hxn, hn1⟩ ?_)
  intro w1
  cbv
  refine Exists.intro () (And.intro (by omega) ?_)
  rintro w2 _ ⟨a, b, c, d, xs, ys, cs, os, rfl, hxs, hys, hf, _⟩
  have hV := checkF_ok hf
  have ho2 := hV.o2
  have hc2 := hV.c2
  dsimp only at ho2 hc2
  have hc6 : cs.length ≤ 1000000 := by omega
  have hwb : WinV ⟨(a, b), (c, d), cs, os⟩ ⟨a, d, cs.map (·.2)⟩ := best_win hV
  have hww : WinV ⟨(a, b), (c, d), cs, os⟩ ⟨b, c, cs.map (·.1)⟩ := worst_win hV
  cbv
  have hvl : A.vlen ys = iLen os.length := by subst hA; simp [std, hys]
  refine Exists.intro os.length (And.intro ⟨hvl, by omega⟩ ?_)
  rintro w3 _ ⟨ps, p, rfl, hps, hp⟩
  obtain ⟨hP, hpn, hpm⟩ := perm_plan hp
  rw [hpm] at hps
  cbv
  refine Exists.intro cs (And.intro ⟨hxs, hc6⟩ ?_)
  intro zb hzb
  cbv
  refine Exists.intro cs (Exists.intro os (Exists.intro (cs.map (·.2)) (Exists.intro (p.map iLen) (And.intro ⟨hxs, hys, hzb, hps⟩ (And.intro ⟨hf, hwb, hP⟩ ?_)))))
  intro dsb pb hdsb hpb
  cbv
  refine Exists.intro cs (And.intro ⟨hxs, hc6⟩ ?_)
  intro zw hzw
  cbv
  refine Exists.intro cs (Exists.intro os (Exists.intro (cs.map (·.1)) (Exists.intro (p.map iLen) (And.intro ⟨hxs, hys, hzw, hps⟩ (And.intro ⟨hf, hww, hP⟩ ?_)))))
  intro dsw pw hdsw hpw
  cbv
  refine Exists.intro cs (Exists.intro os (Exists.intro (p.map iLen) (And.intro ⟨hxs, hys, hps⟩ (And.intro ⟨hf, hP⟩ ?_))))
  intro lo hi hlo hhi
  cbv
  refine Exists.intro cs (Exists.intro os (Exists.intro (p.map iLen) (And.intro ⟨hxs, hys, hps⟩ (And.intro ⟨hf, hP⟩ ?_))))
  intro ms hms
  cbv
  have hlen : A.ne (A.vlen ms) (A.vlen dsb) = false := by rw [hnn]; subst hA; simp only [std, hms, hdsb, List.length_map, promS_len, tellW_len]; simp
  have hbt : A.bnot true = false := by rw [hnb]; rfl
  rw [hpn] at hms hdsb hdsw
  have e1 : lo = pb := by rw [hlo, hpb]; rfl
  have e2 : hi = pw := by rw [hhi, hpw]; rfl
  have hd1 : A.bnot (A.band (A.eq lo pb) (A.band (A.eq hi pw) true)) = false := by rw [e1, e2]; simp [hee, hnb, hba]
  have hpd : p.Nodup := by have := hP.nodup; rw [hpn] at this; exact this
  have htr := fun (k : Nat) (o : Ord) (ho : os[k]? = some o) => prom_ends (f := ⟨(a, b), (c, d), cs, os⟩) hV hpd (k := k) (o := o) ho
  clear hlo hhi hpb hpw e1 e2
  split <;> cbv
  · rename_i hz; exact Bool.noConfusion (hz.symm.trans hbt)
  split <;> cbv
  · rename_i hz; exact Bool.noConfusion (hz.symm.trans hbt)
  split <;> cbv
  · rename_i hz; exact Bool.noConfusion (hz.symm.trans hne0)
  split <;> cbv
  · rename_i hz; exact Bool.noConfusion (hz.symm.trans hne0)
  split <;> cbv
  · rename_i hz; exact Bool.noConfusion (hz.symm.trans hd1)
  split <;> cbv
  · rename_i hz; exact Bool.noConfusion (hz.symm.trans hlen)
  rw [hT]
  refine AGo_upE [4, 6, 9, 14] os.length (fun j (_ : Unit) => True) (fun j _ i => [(16, I i)]) (fun _ _ => [.own 0 [U w3], .own 0 [I a, I b, I c, I d, .vs 2 xs, .vs 4 ys], .own 0 [I lo, I hi]]) () trivial ⟨rfl, trivial⟩ (.inl rfl) fun j _ i hi hj _ Bk hB => ?_
  have hlt : A.lt i (A.vlen ms) = decide (j < os.length) := by subst hA; exact lt_len (by simp [hms, promS_len]) hi
  have hadd : ∀ N, j < N → N ≤ 9223372036854775807 → A.add .i64 i 1 = iLen (j + 1) := fun N hj hN => by subst hA; exact add_one hi hj hN
  refine SGo_run hA ⟨[], [], (17, eAwake) :: [], []⟩ (.cons eAwake_ok .nil) .nil 200 fun T TD hT hTD => ?_
  cbv
  split <;> cbv
  · rename_i hk0
    have hk1 : j < os.length := by have hz := hlt.symm.trans hk0; simpa using hz
    clear hk0
    obtain ⟨⟨ou, od, ol, ol2⟩, hx⟩ : ∃ x, os[j]? = some x := ⟨_, List.getElem?_eq_getElem hk1⟩
    obtain ⟨m, ⟨xon, xla, xlo, xda⟩, ⟨yon, yla, ylo, yda⟩, hm, hdx, hdy, hm1, hm2⟩ := htr j _ hx
    dsimp only at hm1 hm2
    have hix : A.ix 4 4 ys i [I ou, I od, I ol, I ol2] := by subst hA; exact ix_map hys hi hx rfl
    have hixx : A.ix 4 4 dsw i [I xon, I xla, I xlo, I xda] := by subst hA; exact ix_map hdsw hi hdx rfl
    have hixy : A.ix 4 4 dsb i [I yon, I yla, I ylo, I yda] := by subst hA; exact ix_map hdsb hi hdy rfl
    have hixm : A.ix 1 1 ms i [I m] := by subst hA; exact ix_map hms hi hm rfl
    refine Exists.intro _ (And.intro hix ?_); cbv
    refine Exists.intro _ (And.intro hixm ?_); cbv
    refine Exists.intro _ (And.intro hixx ?_); cbv
    have hz1 : A.bnot (A.beq (A.eq m 1) (A.eq xon ou)) = false := by rw [hnb, hbq, hee, hee, show decide (m = 1) = decide (xon = ou) from decide_eq_decide.2 hm1]; simp
    have hz2 : A.bnot (A.beq (A.eq m 2) (A.lt yon ou)) = false := by rw [hnb, hbq, hee, hll, show decide (m = 2) = decide (yon < ou) from decide_eq_decide.2 hm2]; simp
    split <;> cbv
    · rename_i hz; exact Bool.noConfusion (hz.symm.trans hz1)
    refine Exists.intro _ (And.intro hixm ?_); cbv
    refine Exists.intro _ (And.intro hixy ?_); cbv
    split <;> cbv
    · rename_i hz; exact Bool.noConfusion (hz.symm.trans hz2)
    · exact hB () _ _ hk1 trivial ⟨congrArg I (hadd _ hk1 (by omega)), trivial⟩ ⟨rfl, rfl, rfl, rfl, trivial⟩ (.inl rfl)
  · exact h _
end Go.Sas
