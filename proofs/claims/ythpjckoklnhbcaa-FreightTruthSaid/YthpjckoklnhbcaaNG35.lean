/-
Freight: the law FreightTruth: its core.
Conditions: none.
-/
import Derived.Test.YthpjckoklnhbcaaZ18
import Derived.Test.YthpjckoklnhbcaaNFL11
set_option linter.unusedVariables false
set_option linter.unusedSimpArgs false
namespace Go.Sas
open Go.Proofs
set_option maxRecDepth 100000
set_option maxHeartbeats 4000000 in
theorem core11 (nums : List Int) (hn1 : nums.length ≤ 9223372036854775807) : ACalls Try.prog 11 [.vs 1 (nums.map I)] [] fun r _ => r = .lit (.bool true) := by
  obtain ⟨Kk, hKk⟩ : ∃ K : AV → AHeap → Prop, K = fun r _ => r = .lit (.bool true) := ⟨_, rfl⟩
  rw [← hKk]
  have h : ∀ H, Kk (B true) H := fun H => by rw [hKk]
  clear hKk
  obtain ⟨xn, hxn⟩ : ∃ ys, ys = nums.map I := ⟨_, rfl⟩
  rw [← hxn]
  obtain ⟨A, hA⟩ : ∃ A, A = std := ⟨_, rfl⟩
  have hne0 : A.ne 0 0 = false := by subst hA; rfl
  have hnn : ∀ x y, A.ne x y = decide (x ≠ y) := by subst hA; intro x y; simp only [std, iNe]; rw [Bool.eq_iff_iff]; simp
  have hee : ∀ x y, A.eq x y = decide (x = y) := by subst hA; intro x y; simp only [std, iEq]; rw [Bool.eq_iff_iff]; simp
  have hnb : ∀ b, A.bnot b = !b := by subst hA; intro b; rfl
  refine go11 rfl (SGo_run hA ⟨[], [0], (17, eAwake) :: (30, eRange) :: (33, ePromise) :: (50, eDriven) :: (51, eHas) :: [], edF⟩ (.cons eAwake_ok (.cons eRange_ok (.cons ePromise_ok (.cons eDriven_ok (.cons eHas_ok .nil))))) edF_ok 200 fun T TD hT hTD => ?_)
  cbv
  refine Exists.intro nums (And.intro ⟨hxn, hn1⟩ ?_)
  intro w1
  cbv
  refine Exists.intro () (And.intro (by omega) ?_)
  rintro w2 _ ⟨a, b, c, d, xs, ys, cs, os, rfl, hxs, hys, hf, _⟩
  have hV := checkF_ok hf
  have ho2 := hV.o2
  dsimp only at ho2
  cbv
  have hvl : A.vlen ys = iLen os.length := by subst hA; simp [std, hys]
  refine Exists.intro os.length (And.intro ⟨hvl, by omega⟩ ?_)
  rintro w3 _ ⟨ps, p, rfl, hps, hp⟩
  obtain ⟨hP, hpn, hpm⟩ := perm_plan hp
  rw [hpm] at hps
  cbv
  refine And.intro (by subst hA; first | (simp [std, Keep, SubH, ResK]; done) | exact .inr ⟨⟨rfl, SubH.self _⟩, trivial, .inr fun _ => ⟨rfl, SubH.self _⟩⟩ | exact .inr ⟨SubH.self _, trivial, .inr fun _ => SubH.self _⟩) ?_
  cbv
  refine Exists.intro cs (Exists.intro os (And.intro ⟨hxs, hys, hf⟩ ?_))
  rintro w4 _ ⟨u, v, zs, ws, rfl, hzs, hwv⟩
  cbv
  refine And.intro (by subst hA; first | (simp [std, Keep, SubH, ResK]; done) | exact .inr ⟨⟨rfl, SubH.self _⟩, trivial, .inr fun _ => ⟨rfl, SubH.self _⟩⟩ | exact .inr ⟨SubH.self _, trivial, .inr fun _ => SubH.self _⟩) ?_
  cbv
  refine Exists.intro cs (Exists.intro os (Exists.intro ws (Exists.intro (p.map iLen) (And.intro ⟨hxs, hys, hzs, hps⟩ (And.intro ⟨hf, hwv, hP⟩ ?_)))))
  intro ds pn hds hpn2
  cbv
  refine Exists.intro cs (Exists.intro os (Exists.intro (p.map iLen) (And.intro ⟨hxs, hys, hps⟩ (And.intro ⟨hf, hP⟩ ?_))))
  intro lo hi hlo hhi
  cbv
  refine Exists.intro cs (Exists.intro os (Exists.intro (p.map iLen) (And.intro ⟨hxs, hys, hps⟩ (And.intro ⟨hf, hP⟩ ?_))))
  intro ms hms
  cbv
  have hlen : A.ne (A.vlen ms) (A.vlen ds) = false := by rw [hnn]; subst hA; simp only [std, hms, hds, List.length_map, promS_len, tellW_len]; simp
  have hbt : A.bnot true = false := by rw [hnb]; rfl
  rw [hpn] at hms hds hlo hhi hpn2
  have hlow := cost_mono hV (hwv.bnd hV) hV.best hP.nodup (le_best hV hwv)
  have hhiw := cost_mono hV hV.worst (hwv.bnd hV) hP.nodup (worst_le hV hwv)
  rw [hpn] at hlow hhiw
  have hin : lo ≤ pn ∧ pn ≤ hi := ⟨by rw [hlo, hpn2]; exact hlow, by rw [hhi, hpn2]; exact hhiw⟩
  have hpd : p.Nodup := by have := hP.nodup; rw [hpn] at this; exact this
  have htr := fun (k : Nat) (o : Ord) (ho : os[k]? = some o) => prom_true (f := ⟨(a, b), (c, d), cs, os⟩) hV hwv hpd (k := k) (o := o) ho
  clear hlow hhiw hlo hhi hpn2
  split <;> cbv
  · rename_i hz; exact Bool.noConfusion (hz.symm.trans hbt)
  split <;> cbv
  · rename_i hz; exact Bool.noConfusion (hz.symm.trans hne0)
  split <;> cbv
  · rename_i hz; exact Bool.noConfusion (hz.symm.trans hne0)
  split <;> cbv
  · rename_i hz; exact Bool.noConfusion (hz.symm.trans hlen)
  intro q hq
  have hq1 : A.bnot q = false := by rw [hnb, hq]; simp [hin]
  cbv
  split <;> cbv
  · rename_i hz; exact Bool.noConfusion (hz.symm.trans hq1)
  rw [hT]
  refine AGo_upE [4, 7, 12] os.length (fun j (_ : Unit) => True) (fun j _ i => [(14, I i)]) (fun _ _ => [.own 0 [U w4], .own 0 [I a, I b, I c, I d, .vs 2 xs, .vs 4 ys], .own 0 [I u, I v, .vs 1 zs], .own 0 [I lo, I hi]]) () trivial ⟨rfl, trivial⟩ (.inl rfl) fun j _ i hi hj _ Bk hB => ?_
  have hlt : A.lt i (A.vlen ms) = decide (j < os.length) := by subst hA; exact lt_len (by simp [hms, promS_len]) hi
  have hadd : ∀ N, j < N → N ≤ 9223372036854775807 → A.add .i64 i 1 = iLen (j + 1) := fun N hj hN => by subst hA; exact add_one hi hj hN
  refine SGo_run hA ⟨[], [], (17, eAwake) :: [], []⟩ (.cons eAwake_ok .nil) .nil 200 fun T TD hT hTD => ?_
  cbv
  split <;> cbv
  · rename_i hk0
    have hk1 : j < os.length := by have hz := hlt.symm.trans hk0; simpa using hz
    clear hk0
    obtain ⟨⟨ou, od, ol, ol2⟩, hx⟩ : ∃ x, os[j]? = some x := ⟨_, List.getElem?_eq_getElem hk1⟩
    obtain ⟨m, ⟨don, dla, dlo, dda⟩, hm, hd, hm1, hm2⟩ := htr j _ hx
    dsimp only at hm1 hm2
    have hix : A.ix 4 4 ys i [I ou, I od, I ol, I ol2] := by subst hA; exact ix_map hys hi hx rfl
    have hixd : A.ix 4 4 ds i [I don, I dla, I dlo, I dda] := by subst hA; exact ix_map hds hi hd rfl
    have hixm : A.ix 1 1 ms i [I m] := by subst hA; exact ix_map hms hi hm rfl
    refine Exists.intro _ (And.intro hixd ?_); cbv
    refine Exists.intro _ (And.intro hix ?_); cbv
    refine Exists.intro _ (And.intro hixm ?_); cbv
    have hee1 := hee m 1
    have hee2 := hee m 2
    have hee3 := hee don ou
    have hnb3 := hnb (A.eq don ou)
    rw [hee3] at hnb3
    split <;> cbv
    · rename_i hz
      have hz : m = 1 := by have hz := hee1.symm.trans hz; simpa using hz
      have hz3 : A.bnot (A.eq don ou) = false := by rw [hee3, hnb]; simp [hm1 hz]
      split <;> cbv
      · rename_i hz4; exact Bool.noConfusion (hz4.symm.trans hz3)
      refine Exists.intro _ (And.intro hixm ?_); cbv
      split <;> cbv
      · rename_i hz4
        have hz4 : m = 2 := by have hz4 := hee2.symm.trans hz4; simpa using hz4
        exfalso; clear hB; omega
      · exact hB () _ _ hk1 trivial ⟨congrArg I (hadd _ hk1 (by omega)), trivial⟩ ⟨rfl, rfl, rfl, trivial⟩ (.inl rfl)
    · refine Exists.intro _ (And.intro hixm ?_); cbv
      split <;> cbv
      · rename_i hz4
        have hz4 : m = 2 := by have hz4 := hee2.symm.trans hz4; simpa using hz4
        have hz5 : A.eq don ou = false := by rw [hee3]; simp [hm2 hz4]
        split <;> cbv
        · rename_i hz6; exact Bool.noConfusion (hz6.symm.trans hz5)
        · exact hB () _ _ hk1 trivial ⟨congrArg I (hadd _ hk1 (by omega)), trivial⟩ ⟨rfl, rfl, rfl, trivial⟩ (.inl rfl)
      · exact hB () _ _ hk1 trivial ⟨congrArg I (hadd _ hk1 (by omega)), trivial⟩ ⟨rfl, rfl, rfl, trivial⟩ (.inl rfl)
  · exact h _
end Go.Sas
