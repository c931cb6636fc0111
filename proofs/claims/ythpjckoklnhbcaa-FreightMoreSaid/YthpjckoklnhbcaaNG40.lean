/-
Freight: the law FreightMore: its core.
Conditions: none.
-/
import Derived.Test.YthpjckoklnhbcaaZ20
import Derived.Test.YthpjckoklnhbcaaZM3
import Derived.Test.YthpjckoklnhbcaaNFL13
set_option linter.unusedVariables false
set_option linter.unusedSimpArgs false
namespace Go.Sas
open Go.Proofs
set_option maxRecDepth 100000
theorem ixm2 {len j o : Nat} {i : Int} (hi : i = iLen j) (h : j < len) (ho : o = j * 2) : ixmS 2 2 0 len i o := by
  subst hi ho; unfold ixmS iLen; refine ⟨rfl, by omega, by omega, by omega⟩
theorem flat2_len (l : List (Int × Int)) : (l.flatMap spC).length = l.length * 2 := len_flat (k := 2) (fun _ => rfl) l
theorem flat2_mid {a b : List (Int × Int)} {x : Int × Int} : (a ++ x :: b).flatMap spC = a.flatMap spC ++ (I x.1 :: I x.2 :: b.flatMap spC) := by simp [spC]
theorem get_sp2 {a b : List (Int × Int)} {x : Int × Int} {o : Nat} (ho : o = a.length * 2) : getS (some 2) ((a ++ x :: b).flatMap spC) o (.agg [I x.1, I x.2]) := by
  have hl := flat2_len a
  rw [flat2_mid]
  unfold getS getN
  simp only
  rw [if_pos (by rw [List.length_append, hl, List.length_cons, List.length_cons]; omega), List.drop_left' (by omega)]
  rfl
theorem upd_sp2 {a b : List (Int × Int)} {x y : Int × Int} {o : Nat} (ho : o = a.length * 2) : updS 2 ((a ++ x :: b).flatMap spC) o [I y.1, I y.2] ((a ++ y :: b).flatMap spC) := by
  have hl := flat2_len a
  rw [flat2_mid, flat2_mid]
  refine ⟨rfl, by rw [List.length_append, hl, List.length_cons, List.length_cons]; omega, ?_⟩
  have e1 : List.take o (a.flatMap spC ++ (I x.1 :: I x.2 :: b.flatMap spC)) = a.flatMap spC := List.take_left' (by omega)
  have e2 : List.drop (o + 2) (a.flatMap spC ++ (I x.1 :: I x.2 :: b.flatMap spC)) = b.flatMap spC := by
    rw [Nat.add_comm, ← List.drop_drop, ]
    rw [show List.drop o (List.drop 2 (a.flatMap spC ++ (I x.1 :: I x.2 :: b.flatMap spC))) = List.drop 2 (List.drop o (a.flatMap spC ++ (I x.1 :: I x.2 :: b.flatMap spC))) by rw [List.drop_drop, List.drop_drop, Nat.add_comm]]
    rw [List.drop_left' (by omega)]; rfl
  rw [e1, e2]; simp
theorem sumR_bnd {R : Nat → Int} (h : ∀ d, 0 ≤ R d ∧ R d ≤ 1000000) : ∀ d, 0 ≤ sumR R d ∧ sumR R d ≤ 1000000 * (d : Int)
  | 0 => by simp [sumR]
  | d + 1 => by
    have h1 := sumR_bnd h d
    have h2 := h d
    simp only [sumR]
    omega
set_option maxHeartbeats 4000000 in
theorem core13 (nums : List Int) (hn1 : nums.length ≤ 9223372036854775807) : ACalls Try.prog 13 [.vs 1 (nums.map I)] [] fun r _ => r = .lit (.bool true) := by
  obtain ⟨Kk, hKk⟩ : ∃ K : AV → AHeap → Prop, K = fun r _ => r = .lit (.bool true) := ⟨_, rfl⟩
  rw [← hKk]
  have h : ∀ H, Kk (B true) H := fun H => by rw [hKk]
  clear hKk
  obtain ⟨xn, hxn⟩ : ∃ ys, ys = nums.map I := ⟨_, rfl⟩
  rw [← hxn]
  obtain ⟨A, hA⟩ : ∃ A, A = std := ⟨_, rfl⟩
  have hne0 : A.ne 0 0 = false := by subst hA; rfl
  have hnn : ∀ x y, A.ne x y = decide (x ≠ y) := by subst hA; intro x y; simp only [std, iNe]; rw [Bool.eq_iff_iff]; simp
  have hee : ∀ x y, A.eq x y = decide (x = y) := by subst hA; intro x y; simp only [std, iEq]; rw [Bool.eq_iff_iff]; simp
  have hll : ∀ x y, A.lt x y = decide (x < y) := by subst hA; intro x y; rfl
  have hle : ∀ x y, A.le x y = decide (x ≤ y) := by subst hA; intro x y; rfl
  have hnb : ∀ b, A.bnot b = !b := by subst hA; intro b; rfl
  have hbq : ∀ b b', A.beq b b' = (b == b') := by subst hA; intro b b'; rfl
  have hsg : ∀ g, A.sg g g := by subst hA; exact fun _ => rfl
  have hba : ∀ b b', A.band b b' = (b && b') := by subst hA; intro b b'; rfl
  refine go13 rfl (SGo_run hA ⟨[], [0], (50, eDriven) :: [], edF⟩ (.cons eDriven_ok .nil) edF_ok 200 fun T TD hT hTD => ?_)
  cbv
  refine Exists.intro nums (And.intro ⟨hxn, hn1⟩ ?_)
  intro w1
  cbv
  refine Exists.intro () (And.intro (by omega) ?_)
  rintro w2 _ ⟨a, b, c, d, xs, ys, cs, os, rfl, hxs, hys, hf, _⟩
  have hV := checkF_ok hf
  have ho2 := hV.o2
  have hc2 := hV.c2
  dsimp only at ho2 hc2
  have hc6 : cs.length ≤ 1000000 := by omega
  have hfi := hV.fi
  have hla := hV.la
  dsimp only at hfi hla
  have hcb := hV.cb
  dsimp only at hcb
  have hfi : 0 ≤ a ∧ a ≤ b ∧ b ≤ 200 := by omega
  have hla : 0 ≤ c ∧ c ≤ d ∧ d ≤ 200 := by omega
  cbv
  have hvl : A.vlen ys = iLen os.length := by subst hA; simp [std, hys]
  refine Exists.intro os.length (And.intro ⟨hvl, by omega⟩ ?_)
  rintro w3 _ ⟨ps, p, rfl, hps, hp⟩
  obtain ⟨hP, hpn, hpm⟩ := perm_plan hp
  rw [hpm] at hps
  cbv
  refine Exists.intro cs (Exists.intro os (And.intro ⟨hxs, hys, hf⟩ ?_))
  rintro w4 _ ⟨u, v, zs, ws, rfl, hzs, hwv⟩
  cbv
  refine And.intro (by subst hA; first | (simp [std, Keep, SubH, ResK]; done) | exact .inr ⟨⟨rfl, SubH.self _⟩, trivial, .inr fun _ => ⟨rfl, SubH.self _⟩⟩ | exact .inr ⟨SubH.self _, trivial, .inr fun _ => SubH.self _⟩ | exact .inr ⟨by simp [SubH], trivial, .inl rfl⟩ | exact .inr ⟨by simp [SubH], trivial, .inr fun _ => by simp [SubH]⟩) ?_
  cbv
  refine Exists.intro cs (Exists.intro os (And.intro ⟨hxs, hys, hf⟩ ?_))
  rintro w5 _ ⟨u', v', zs', ws', rfl, hzs', hwv'⟩
  cbv
  refine And.intro (by subst hA; first | (simp [std, Keep, SubH, ResK]; done) | exact .inr ⟨⟨rfl, SubH.self _⟩, trivial, .inr fun _ => ⟨rfl, SubH.self _⟩⟩ | exact .inr ⟨SubH.self _, trivial, .inr fun _ => SubH.self _⟩ | exact .inr ⟨by simp [SubH], trivial, .inl rfl⟩ | exact .inr ⟨by simp [SubH], trivial, .inr fun _ => by simp [SubH]⟩) ?_
  cbv
  refine Exists.intro cs (Exists.intro os (Exists.intro ws (Exists.intro (p.map iLen) (And.intro ⟨hxs, hys, hzs, hps⟩ (And.intro ⟨hf, hwv, hP⟩ ?_)))))
  intro ds1 p1 hds1 hp1
  cbv
  refine Exists.intro cs (Exists.intro os (Exists.intro ws' (Exists.intro (p.map iLen) (And.intro ⟨hxs, hys, hzs', hps⟩ (And.intro ⟨hf, hwv', hP⟩ ?_)))))
  intro ds2 p2 hds2 hp2
  cbv
  rw [hT]
  obtain ⟨R1, hR1⟩ : ∃ R, R = roomW ⟨u, v, ws⟩ := ⟨_, rfl⟩
  obtain ⟨R2, hR2⟩ : ∃ R, R = roomW ⟨u', v', ws'⟩ := ⟨_, rfl⟩
  have hb1 : ∀ d, 0 ≤ R1 d ∧ R1 d ≤ 1000000 := by rw [hR1]; exact roomW_bnd (hwv.bnd hV)
  have hb2 : ∀ d, 0 ≤ R2 d ∧ R2 d ≤ 1000000 := by rw [hR2]; exact roomW_bnd (hwv'.bnd hV)
  have hwl : ws.length = cs.length := hwv.len
  have hwl' : ws'.length = cs.length := hwv'.len
  refine AGo_upE [3, 4, 5, 6, 7, 9, 10, 12, 13] cs.length (fun j (s : Bool × Bool) => (s.1 = true → ∀ d, d ≤ j → sumR R1 d ≤ sumR R2 d) ∧ (s.2 = true → ∀ d, d ≤ j → sumR R2 d ≤ sumR R1 d))
    (fun j s i => [(14, B s.1), (15, B s.2), (16, I (sumR R1 j)), (17, I (sumR R2 j)), (18, I i)])
    (fun _ _ => [.own 0 [U w5], .own 0 [I a, I b, I c, I d, .vs 2 xs, .vs 4 ys], .own 0 [I u, I v, .vs 1 zs], .own 0 [I u', I v', .vs 1 zs']]) (true, true)
    ⟨fun _ d hd => by have : d = 0 := by omega
                      subst this; exact Int.le_refl _, fun _ d hd => by have : d = 0 := by omega
                                                                        subst this; exact Int.le_refl _⟩ ⟨rfl, rfl, rfl, rfl, rfl, trivial⟩ (.inl rfl) fun j s i hi hj hPr Bk hB => ?_
  have hlt : A.lt i (A.vlen xs) = decide (j < cs.length) := by subst hA; exact lt_len (by simp [hxs]) hi
  have hadd : ∀ N, j < N → N ≤ 9223372036854775807 → A.add .i64 i 1 = iLen (j + 1) := fun N hj hN => by subst hA; exact add_one hi hj hN
  obtain ⟨less, more⟩ := s
  obtain ⟨hPl, hPm⟩ := hPr
  dsimp only at hPl hPm ⊢
  obtain ⟨s1, hs1⟩ : ∃ q, q = sumR R1 j := ⟨_, rfl⟩
  obtain ⟨s2, hs2⟩ : ∃ q, q = sumR R2 j := ⟨_, rfl⟩
  rw [← hs1, ← hs2]
  refine SGo_run hA ⟨[6], [0, 7, 2000006], (44, eRoomK) :: [], (18, eOwnFrM) :: edF⟩ (.cons eRoomK_ok .nil) (.cons eOwnFrM_ok edF_ok) 200 fun T TD hT hTD => ?_
  cbv
  split <;> cbv
  · rename_i hk0
    have hk1 : j < cs.length := by have hz := hlt.symm.trans hk0; simpa using hz
    clear hk0
    refine Exists.intro ws (Exists.intro j (And.intro ⟨hzs, hi, by omega, by omega⟩ ?_))
    intro q1 hq1; cbv
    refine Exists.intro ws' (Exists.intro j (And.intro ⟨hzs', hi, by omega, by omega⟩ ?_))
    intro q2 hq2; cbv
    have hq1b := hb1 j
    have hq2b := hb2 j
    have hs1b := sumR_bnd hb1 j
    have hs2b := sumR_bnd hb2 j
    rw [← hs1] at hs1b
    rw [← hs2] at hs2b
    rw [← hR1] at hq1
    rw [← hR2] at hq2
    have ht1 : A.add .i64 s1 q1 = sumR R1 (j + 1) := by subst hA; show iAdd .i64 s1 q1 = _; rw [iAdd_id (by omega) (by omega), hs1, hq1]; rfl
    have ht2 : A.add .i64 s2 q2 = sumR R2 (j + 1) := by subst hA; show iAdd .i64 s2 q2 = _; rw [iAdd_id (by omega) (by omega), hs2, hq2]; rfl
    have hPl2 : less = true → A.le (A.add .i64 s1 q1) (A.add .i64 s2 q2) = true → ∀ d, d ≤ j + 1 → sumR R1 d ≤ sumR R2 d := fun h1 h2 d hd => by
      rw [ht1, ht2, hle, decide_eq_true_eq] at h2
      rcases Nat.lt_or_ge j d with h3 | h3
      · have : d = j + 1 := by omega
        subst this; exact h2
      · exact hPl h1 d h3
    have hPm2 : more = true → A.le (A.add .i64 s2 q2) (A.add .i64 s1 q1) = true → ∀ d, d ≤ j + 1 → sumR R2 d ≤ sumR R1 d := fun h1 h2 d hd => by
      rw [ht1, ht2, hle, decide_eq_true_eq] at h2
      rcases Nat.lt_or_ge j d with h3 | h3
      · have : d = j + 1 := by omega
        subst this; exact h2
      · exact hPm h1 d h3
    have hi1 := hadd _ hk1 (by omega)
    clear hPl hPm
    cases less <;> cbv
    · cases more <;> cbv
      · exact hB (false, false) _ _ hk1 ⟨fun h => Bool.noConfusion h, fun h => Bool.noConfusion h⟩ ⟨rfl, rfl, congrArg I ht1, congrArg I ht2, congrArg I hi1, trivial⟩ ⟨rfl, rfl, rfl, rfl, rfl, rfl, rfl, rfl, rfl, trivial⟩ (.inl rfl)
      · exact hB (false, _) _ _ hk1 ⟨fun h => Bool.noConfusion h, hPm2 rfl⟩ ⟨rfl, rfl, congrArg I ht1, congrArg I ht2, congrArg I hi1, trivial⟩ ⟨rfl, rfl, rfl, rfl, rfl, rfl, rfl, rfl, rfl, trivial⟩ (.inl rfl)
    · cases more <;> cbv
      · exact hB (_, false) _ _ hk1 ⟨hPl2 rfl, fun h => Bool.noConfusion h⟩ ⟨rfl, rfl, congrArg I ht1, congrArg I ht2, congrArg I hi1, trivial⟩ ⟨rfl, rfl, rfl, rfl, rfl, rfl, rfl, rfl, rfl, trivial⟩ (.inl rfl)
      · exact hB (_, _) _ _ hk1 ⟨hPl2 rfl, hPm2 rfl⟩ ⟨rfl, rfl, congrArg I ht1, congrArg I ht2, congrArg I hi1, trivial⟩ ⟨rfl, rfl, rfl, rfl, rfl, rfl, rfl, rfl, rfl, trivial⟩ (.inl rfl)
  · rename_i hk0
    have hk1 : ¬ j < cs.length := by have hz := hlt.symm.trans hk0; simpa using hz
    clear hk0
    have hjc : j = cs.length := by omega
    subst hjc
    have hbt : A.bnot true = false := by rw [hnb]; rfl
    have hpd : p.Nodup := by have := hP.nodup; rw [hpn] at this; exact this
    rw [hpn] at hp1 hp2
    have hz1 : less = true → A.lt p1 p2 = false := fun hl => by
      rw [hll, decide_eq_false_iff_not]
      have := cost_mono hV (hwv.bnd hV) (hwv'.bnd hV) hpd (by rw [RoomLe, ← hR1, ← hR2]; exact hPl hl)
      rw [hp1, hp2]; dsimp only at this; omega
    have hz2 : more = true → A.lt p2 p1 = false := fun hl => by
      rw [hll, decide_eq_false_iff_not]
      have := cost_mono hV (hwv'.bnd hV) (hwv.bnd hV) hpd (by rw [RoomLe, ← hR1, ← hR2]; exact hPm hl)
      rw [hp1, hp2]; dsimp only at this; omega
    clear hPl hPm
    split <;> cbv
    · rename_i hz; exact Bool.noConfusion (hz.symm.trans hbt)
    split <;> cbv
    · rename_i hz; exact Bool.noConfusion (hz.symm.trans hbt)
    cases less <;> cases more <;> cbv
    all_goals try (split <;> cbv; rename_i hz; exact Bool.noConfusion (hz.symm.trans (hz1 rfl)))
    all_goals try (split <;> cbv; rename_i hz; exact Bool.noConfusion (hz.symm.trans (hz2 rfl)))
    all_goals
      refine Exists.intro cs (Exists.intro os (And.intro ⟨hxs, hys, hc6, by omega⟩ ?_))
      intro n cc hn hcc; cbv
      refine Exists.intro () (And.intro (by omega) ?_)
      rintro w6 _ ⟨fa, fb, rfl, hfab⟩; cbv
      refine And.intro (by subst hA; first | (simp [std, Keep, SubH, ResK]; done) | exact .inr ⟨⟨rfl, SubH.self _⟩, trivial, .inr fun _ => ⟨rfl, SubH.self _⟩⟩ | exact .inr ⟨SubH.self _, trivial, .inr fun _ => SubH.self _⟩ | exact .inr ⟨by simp [SubH], trivial, .inl rfl⟩ | exact .inr ⟨by simp [SubH], trivial, .inr fun _ => by simp [SubH]⟩) ?_
      cbv
      refine Exists.intro () (And.intro (by omega) ?_)
      rintro w7 _ ⟨la, lb, rfl, hlab⟩; cbv
      refine And.intro (by subst hA; first | (simp [std, Keep, SubH, ResK]; done) | exact .inr ⟨⟨rfl, SubH.self _⟩, trivial, .inr fun _ => ⟨rfl, SubH.self _⟩⟩ | exact .inr ⟨SubH.self _, trivial, .inr fun _ => SubH.self _⟩ | exact .inr ⟨by simp [SubH], trivial, .inl rfl⟩ | exact .inr ⟨by simp [SubH], trivial, .inr fun _ => by simp [SubH]⟩) ?_
      cbv
      refine And.intro (by subst hA; first | (simp [std, Keep, SubH, ResK]; done) | exact .inr ⟨⟨rfl, SubH.self _⟩, trivial, .inr fun _ => ⟨rfl, SubH.self _⟩⟩ | exact .inr ⟨SubH.self _, trivial, .inr fun _ => SubH.self _⟩ | exact .inr ⟨by simp [SubH], trivial, .inl rfl⟩ | exact .inr ⟨by simp [SubH], trivial, .inr fun _ => by simp [SubH]⟩) ?_
      cbv
      rw [hT]
      refine AGo_upE [3, 4, 5, 19] cs.length (fun j (s : Int × List (Int × Int)) => s.2.length = j ∧ ∀ (i : Nat) (x y : Int × Int), cs[i]? = some x → s.2[i]? = some y → x.1 ≤ y.1 ∧ y.1 ≤ y.2 ∧ y.2 ≤ x.2) (fun j _ i => [(20, I i)])
        (fun j s => [.own 0 [U s.1], .own 0 [I a, I b, I c, I d, .vs 2 xs, .vs 4 ys], .own 0 [I u, I v, .vs 1 zs], .own 0 [I u', I v', .vs 1 zs'], .own 0 [], .own 0 [], .own 1 ((s.2 ++ cs.drop j).flatMap spC), .own 0 [I fa, I fb, I la, I lb, .ms 2 6 1 0 n, .vs 4 ys]]) (w7, [])
        ⟨rfl, fun i x y _ h => by simp at h⟩ ⟨rfl, trivial⟩ (.inl (by rw [hcc]; rfl)) fun j2 s i2 hi2 hj2 hP2 Bk2 hB2 => ?_
      clear hT hTD T TD
      have hlt2 : A.lt i2 (A.len n) = decide (j2 < cs.length) := by rw [hll, hi2]; subst hA; show decide (iLen j2 < iLen n) = _; rw [hn]; simp [iLen]
      have hadd2 : ∀ N, j2 < N → N ≤ 9223372036854775807 → A.add .i64 i2 1 = iLen (j2 + 1) := fun N hj hN => by subst hA; exact add_one hi2 hj hN
      obtain ⟨w8, ts⟩ := s
      obtain ⟨hP1, hP2⟩ := hP2
      dsimp only at hP1 hP2 ⊢
      obtain ⟨cc2, hcc2⟩ : ∃ q, q = (ts ++ cs.drop j2).flatMap spC := ⟨_, rfl⟩
      rw [← hcc2]
      refine SGo_run hA ⟨[6], [0, 2000006, 1000143], [], edF⟩ .nil edF_ok 200 fun T TD hT hTD => ?_
      cbv
      refine And.intro (hsg _) ?_
      split <;> cbv
      · rename_i hk0
        have hk2 : j2 < cs.length := by have hz := hlt2.symm.trans hk0; simpa using hz
        obtain ⟨⟨x, y⟩, hx⟩ : ∃ x, cs[j2]? = some x := ⟨_, List.getElem?_eq_getElem hk2⟩
        have hbx := hcb _ (List.mem_of_getElem? hx)
        dsimp only at hbx
        obtain ⟨o, ho⟩ : ∃ o, o = j2 * 2 := ⟨_, rfl⟩
        have hixm : A.ixm 2 2 0 n i2 o := by subst hA; exact ixm2 hi2 (by omega) ho
        have hdr : cs.drop j2 = (x, y) :: cs.drop (j2 + 1) := drop_cons hx
        have hget : A.get (some 2) cc2 o (.agg [I x, I y]) := by subst hA; rw [hcc2, hdr]; exact get_sp2 (by rw [hP1]; exact ho)
        refine And.intro (hsg _) (Exists.intro o (And.intro hixm ?_)); cbv
        refine And.intro (hsg _) (Exists.intro _ (And.intro hget ?_)); cbv
        refine Exists.intro () (And.intro (by omega) ?_)
        rintro w9 _ ⟨nx, ny, rfl, hxy⟩; cbv
        refine And.intro (by subst hA; first | (simp [std, Keep, SubH, ResK]; done) | exact .inr ⟨⟨rfl, SubH.self _⟩, trivial, .inr fun _ => ⟨rfl, SubH.self _⟩⟩ | exact .inr ⟨SubH.self _, trivial, .inr fun _ => SubH.self _⟩ | exact .inr ⟨by simp [SubH], trivial, .inl rfl⟩ | exact .inr ⟨by simp [SubH], trivial, .inr fun _ => by simp [SubH]⟩) ?_
        cbv
        obtain ⟨cc3, hcc3⟩ : ∃ q, q = ((ts ++ [(nx, ny)]) ++ cs.drop (j2 + 1)).flatMap spC := ⟨_, rfl⟩
        have hupd : A.upd 2 cc2 o [I nx, I ny] cc3 := by subst hA; rw [hcc2, hcc3, hdr, List.append_assoc]; exact upd_sp2 (y := (nx, ny)) (by rw [hP1]; exact ho)
        refine And.intro (hsg _) (Exists.intro o (And.intro hixm ?_)); cbv
        refine And.intro (hsg _) (Exists.intro _ (And.intro hupd ?_)); cbv
        refine hB2 (w9, ts ++ [(nx, ny)]) _ _ hk2 ⟨by simp [hP1], ?_⟩ ⟨congrArg I (hadd2 _ hk2 (by omega)), trivial⟩ ⟨rfl, rfl, rfl, rfl, trivial⟩ (.inl (by rw [hcc3]))
        intro i3 x3 y3 h1 h2
        dsimp only at h2
        rcases Nat.lt_trichotomy i3 j2 with h3 | h3 | h3
        · rw [List.getElem?_append_left (by omega)] at h2; exact hP2 i3 x3 y3 h1 h2
        · subst h3
          rw [List.getElem?_append_right (by omega), hP1, Nat.sub_self] at h2
          rw [hx] at h1
          simp at h2; subst h2; cases h1
          dsimp only; omega
        · rw [List.getElem?_append_right (by omega)] at h2
          have : i3 - ts.length ≠ 0 := by omega
          simp [List.getElem?_singleton, this] at h2
      · rename_i hk0
        have hk2 : ¬ j2 < cs.length := by have hz := hlt2.symm.trans hk0; simpa using hz
        have hjc : j2 = cs.length := by omega
        subst hjc
        rw [List.drop_length, List.append_nil] at hcc2
        have hPF : PartF ⟨(a, b), (c, d), cs, os⟩ ⟨(fa, fb), (la, lb), ts, os⟩ := ⟨by dsimp only; omega, by dsimp only; omega, hP1, hP2, rfl⟩
        have hf' : checkF ⟨(fa, fb), (la, lb), ts, os⟩ = 0 := checkF_of (hPF.valid hV)
        have hrg := hPF.range hV hpd
        have hpr := fun (k : Nat) (o : Ord) (ho : os[k]? = some o) => hPF.prom (f := ⟨(a, b), (c, d), cs, os⟩) hV hpd (k := k) (o := o) ho
        clear hPF hP2
        obtain ⟨xf, hxf⟩ : ∃ q, q = ts.map sp := ⟨_, rfl⟩
        have hEl : Elems 2 xf cc2 := by rw [hxf, hcc2]; exact Elems_map (f := sp) (g := spC) (sz := 2) (fun _ => rfl) (fun _ => rfl) (fun _ => rfl) ts
        have e1 : AV.frz 6 1 2 xf (.ms 2 6 1 0 n) = .vs 2 xf := frz_self (by rw [hxf, hn]; simp [hP1])
        rw [hT]
        refine AGo_frz 6 1 2 xf rfl hEl ?_
        show AGo _ _ _ _ ⟨[], [(20, I i2), (3, .mp 0 0 0), (4, .mp 1 0 0), (5, .vs 1 ps), (19, .mp 7 0 0), (128, B false)]⟩ [.own 0 [U w8], .own 0 [I a, I b, I c, I d, .vs 2 xs, .vs 4 ys], .own 0 [I u, I v, .vs 1 zs], .own 0 [I u', I v', .vs 1 zs'], .own 0 [], .own 0 [], .gone, .own 0 [I fa, I fb, I la, I lb, AV.frz 6 1 2 xf (.ms 2 6 1 0 n), .vs 4 ys]]
        rw [e1]
        clear hT hTD T TD
        refine SGo_run hA ⟨[], [0], (17, eAwake) :: (30, eRange) :: (33, ePromise) :: (55, eInS) :: [], []⟩ (.cons eAwake_ok (.cons eRange_ok (.cons ePromise_ok (.cons eInS_ok .nil)))) .nil 200 fun T TD hT hTD => ?_
        cbv
        refine Exists.intro cs (Exists.intro os (Exists.intro (p.map iLen) (And.intro ⟨hxs, hys, hps⟩ (And.intro ⟨hf, hP⟩ ?_))))
        intro lo hi hlo hhi
        cbv
        refine Exists.intro ts (Exists.intro os (Exists.intro (p.map iLen) (And.intro ⟨hxf, hys, hps⟩ (And.intro ⟨hf', hP⟩ ?_))))
        intro lo' hi' hlo' hhi'
        cbv
        refine Exists.intro cs (Exists.intro os (Exists.intro (p.map iLen) (And.intro ⟨hxs, hys, hps⟩ (And.intro ⟨hf, hP⟩ ?_))))
        intro ms hms
        cbv
        refine Exists.intro ts (Exists.intro os (Exists.intro (p.map iLen) (And.intro ⟨hxf, hys, hps⟩ (And.intro ⟨hf', hP⟩ ?_))))
        intro ms' hms'
        cbv
        rw [hpn] at hms hms' hlo hhi hlo' hhi'
        have hlen : A.ne (A.vlen ms) (A.vlen ms') = false := by rw [hnn]; subst hA; simp only [std, hms, hms', List.length_map, promS_len]; simp
        have hin : lo ≤ lo' ∧ hi' ≤ hi := ⟨by rw [hlo, hlo']; exact hrg.1, by rw [hhi, hhi']; exact hrg.2⟩
        clear hlo hhi hlo' hhi' hrg
        split <;> cbv
        · rename_i hz; exact Bool.noConfusion (hz.symm.trans hne0)
        split <;> cbv
        · rename_i hz; exact Bool.noConfusion (hz.symm.trans hne0)
        split <;> cbv
        · rename_i hz; exact Bool.noConfusion (hz.symm.trans hne0)
        split <;> cbv
        · rename_i hz; exact Bool.noConfusion (hz.symm.trans hne0)
        intro q hq
        have hq1 : A.bnot q = false := by rw [hnb, hq]; simp [hin]
        cbv
        split <;> cbv
        · rename_i hz; exact Bool.noConfusion (hz.symm.trans hq1)
        split <;> cbv
        · rename_i hz; exact Bool.noConfusion (hz.symm.trans hlen)
        rw [hT]
        refine AGo_upE [25, 27] os.length (fun j (_ : Unit) => True) (fun j _ i => [(29, I i)]) (fun _ _ => []) () trivial ⟨rfl, trivial⟩ (.inr ⟨⟨_, rfl⟩, Nat.zero_le _, by simp [ltG, AV.lt, AV.ltL, keepS, look], trivial⟩) fun j3 _ i3 hi3 hj3 _ Bk3 hB3 => ?_
        clear hT hTD T TD
        have hlt3 : A.lt i3 (A.vlen ms) = decide (j3 < os.length) := by subst hA; exact lt_len (by simp [hms, promS_len]) hi3
        have hadd3 : ∀ N, j3 < N → N ≤ 9223372036854775807 → A.add .i64 i3 1 = iLen (j3 + 1) := fun N hj hN => by subst hA; exact add_one hi3 hj hN
        refine SGo_run hA ⟨[], [], (17, eAwake) :: [], []⟩ (.cons eAwake_ok .nil) .nil 200 fun T TD hT hTD => ?_
        cbv
        split <;> cbv
        · rename_i hk0
          have hk3 : j3 < os.length := by have hz := hlt3.symm.trans hk0; simpa using hz
          obtain ⟨oo, hx⟩ : ∃ x, os[j3]? = some x := ⟨_, List.getElem?_eq_getElem hk3⟩
          obtain ⟨m, m', hm, hm', hmm⟩ := hpr j3 _ hx
          have hixm : A.ix 1 1 ms i3 [I m] := by subst hA; exact ix_map hms hi3 hm rfl
          have hixm' : A.ix 1 1 ms' i3 [I m'] := by subst hA; exact ix_map hms' hi3 hm' rfl
          refine Exists.intro _ (And.intro hixm ?_); cbv
          have hi1 := hadd3 _ hk3 (by omega)
          have hn3 := hnn m 3
          split <;> cbv
          · rename_i hz
            have hz : m ≠ 3 := by have hz := hn3.symm.trans hz; simpa using hz
            have hz2 : A.ne m' m = false := by rw [hnn, hmm hz]; simp
            refine Exists.intro _ (And.intro hixm' ?_); cbv
            refine Exists.intro _ (And.intro hixm ?_); cbv
            split <;> cbv
            · rename_i hz; exact Bool.noConfusion (hz.symm.trans hz2)
            · exact hB3 () _ _ hk3 trivial ⟨congrArg I hi1, trivial⟩ ⟨rfl, rfl, trivial⟩ (.inl rfl)
          · exact hB3 () _ _ hk3 trivial ⟨congrArg I hi1, trivial⟩ ⟨rfl, rfl, trivial⟩ (.inl rfl)
        · exact h _
end Go.Sas
