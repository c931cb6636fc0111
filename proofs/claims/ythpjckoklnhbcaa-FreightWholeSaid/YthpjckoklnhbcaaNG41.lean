/-
Freight: the law FreightWhole: its core.
Conditions: none.
-/
import Derived.Test.YthpjckoklnhbcaaZ19
import Derived.Test.YthpjckoklnhbcaaZM4
import Derived.Test.YthpjckoklnhbcaaNFL9
set_option linter.unusedVariables false
set_option linter.unusedSimpArgs false
namespace Go.Sas
open Go.Proofs
set_option maxRecDepth 100000
theorem drive_eqs {f : Frt} {w : Win} {plan : List Int} (hf : checkF f = 0) (hwv : WinV f w) (hP : PlanP f.ords.length plan) :
    spreadC f w plan = 0 ∧ spreadR f w plan = rowsF f.ords.length f.caps.length (spreadG (roomW w) (planN plan) (unitS f.ords) f.caps.length) ∧
    checkWayS f w (rowsF f.ords.length f.caps.length (spreadG (roomW w) (planN plan) (unitS f.ords) f.caps.length)) = 0 ∧
    tellL f w (rowsF f.ords.length f.caps.length (spreadG (roomW w) (planN plan) (unitS f.ords) f.caps.length)) = tellW f w (planN plan) ∧
    tellP f w (rowsF f.ords.length f.caps.length (spreadG (roomW w) (planN plan) (unitS f.ords) f.caps.length)) = costS f.ords f.caps.length w (planN plan) := by
  have hV := checkF_ok hf
  have hcw := winS_of hf hwv
  have e0 : spreadC f w plan = 0 := by unfold spreadC; rw [if_neg (by simp [hcw])]; exact if_pos hP
  have e1 : spreadR f w plan = rowsF f.ords.length f.caps.length (spreadG (roomW w) (planN plan) (unitS f.ords) f.caps.length) := by unfold spreadR; rw [if_neg (by simp [e0])]
  have e2 := way_ok hV hwv hcw hP.nodup hP.nat.2
  refine ⟨e0, e1, e2, ?_, ?_⟩
  · unfold tellL; rw [if_neg (by simp [e2])]; rfl
  · unfold tellP; rw [if_neg (by simp [e2])]; rfl
set_option maxHeartbeats 4000000 in
theorem core9 (nums : List Int) (hn1 : nums.length ≤ 9223372036854775807) : ACalls Try.prog 9 [.vs 1 (nums.map I)] [] fun r _ => r = .lit (.bool true) := by
  obtain ⟨Kk, hKk⟩ : ∃ K : AV → AHeap → Prop, K = fun r _ => r = .lit (.bool true) := ⟨_, rfl⟩
  rw [← hKk]
  have h : ∀ H, Kk (B true) H := fun H => by rw [hKk]
  clear hKk
  obtain ⟨xn, hxn⟩ : ∃ ys, ys = nums.map I := ⟨_, rfl⟩
  rw [← hxn]
  obtain ⟨A, hA⟩ : ∃ A, A = std := ⟨_, rfl⟩
  have hne0 : A.ne 0 0 = false := by subst hA; rfl
  have hnn : ∀ x y, A.ne x y = decide (x ≠ y) := by subst hA; intro x y; simp only [std, iNe]; rw [Bool.eq_iff_iff]; simp
  have hee : ∀ x y, A.eq x y = decide (x = y) := by subst hA; intro x y; simp only [std, iEq]; rw [Bool.eq_iff_iff]; simp
  have hll : ∀ x y, A.lt x y = decide (x < y) := by subst hA; intro x y; rfl
  have hle : ∀ x y, A.le x y = decide (x ≤ y) := by subst hA; intro x y; rfl
  have hnb : ∀ b, A.bnot b = !b := by subst hA; intro b; rfl
  have hbq : ∀ b b', A.beq b b' = (b == b') := by subst hA; intro b b'; rfl
  have hba : ∀ b b', A.band b b' = (b && b') := by subst hA; intro b b'; rfl
  refine go9 rfl (SGo_run hA ⟨[], [0], (38, eSpreadR) :: (43, eTell) :: [], edF⟩ (.cons eSpreadR_ok (.cons eTell_ok .nil)) edF_ok 200 fun T TD hT hTD => ?_)
  cbv
  refine Exists.intro nums (And.intro ⟨hxn, hn1⟩ ?_)
  intro w1
  cbv
  refine Exists.intro () (And.intro (by omega) ?_)
  rintro w2 _ ⟨a, b, c, d, xs, ys, cs, os, rfl, hxs, hys, hf, _⟩
  have hV := checkF_ok hf
  have ho2 := hV.o2
  have hc2 := hV.c2
  dsimp only at ho2 hc2
  cbv
  refine Exists.intro cs (Exists.intro os (And.intro ⟨hxs, hys, hf⟩ ?_))
  rintro w4 _ ⟨u, v, zs, ws, rfl, hzs, hwv⟩
  cbv
  refine And.intro (by subst hA; first | (simp [std, Keep, SubH, ResK]; done) | exact .inr ⟨⟨rfl, SubH.self _⟩, trivial, .inr fun _ => ⟨rfl, SubH.self _⟩⟩ | exact .inr ⟨SubH.self _, trivial, .inr fun _ => SubH.self _⟩ | exact .inr ⟨by simp [SubH], trivial, .inl rfl⟩ | exact .inr ⟨by simp [SubH], trivial, .inr fun _ => by simp [SubH]⟩) ?_
  cbv
  have hvl : A.vlen ys = iLen os.length := by subst hA; simp [std, hys]
  refine Exists.intro os.length (And.intro ⟨hvl, by omega⟩ ?_)
  rintro w3 _ ⟨ps, p, rfl, hps, hp⟩
  obtain ⟨hP, hpn, hpm⟩ := perm_plan hp
  rw [hpm] at hps
  cbv
  refine And.intro (by subst hA; first | (simp [std, Keep, SubH, ResK]; done) | exact .inr ⟨⟨rfl, SubH.self _⟩, trivial, .inr fun _ => ⟨rfl, SubH.self _⟩⟩ | exact .inr ⟨SubH.self _, trivial, .inr fun _ => SubH.self _⟩ | exact .inr ⟨by simp [SubH], trivial, .inl rfl⟩ | exact .inr ⟨by simp [SubH], trivial, .inr fun _ => by simp [SubH]⟩) ?_
  cbv
  refine And.intro (by subst hA; first | (simp [std, Keep, SubH, ResK]; done) | exact .inr ⟨⟨rfl, SubH.self _⟩, trivial, .inr fun _ => ⟨rfl, SubH.self _⟩⟩ | exact .inr ⟨SubH.self _, trivial, .inr fun _ => SubH.self _⟩ | exact .inr ⟨by simp [SubH], trivial, .inl rfl⟩ | exact .inr ⟨by simp [SubH], trivial, .inr fun _ => by simp [SubH]⟩) ?_
  cbv
  obtain ⟨e0, e1, e2, e3, e4⟩ := drive_eqs hf hwv hP
  dsimp only at e0 e1 e2 e3 e4
  have hwl : ws.length = cs.length := hwv.len
  have hpl := hP.1
  obtain ⟨way, hway⟩ : ∃ way, way = rowsF os.length cs.length (spreadG (roomW ⟨u, v, ws⟩) (planN (p.map iLen)) (unitS os) cs.length) := ⟨_, rfl⟩
  rw [← hway] at e1 e2 e3 e4
  have hyl : way.length = os.length := by rw [hway]; simp [rowsF]
  refine Exists.intro cs (Exists.intro os (Exists.intro ws (Exists.intro (p.map iLen) (And.intro hxs (And.intro hys (And.intro hzs (And.intro hps (And.intro (by omega) (And.intro (by omega) (And.intro (by omega) (And.intro (by omega) ?_)))))))))))
  intro rs q hrs hq
  rw [e0] at hq; subst hq
  rw [e1] at hrs
  cbv
  refine Exists.intro cs (Exists.intro os (Exists.intro ws (Exists.intro way (And.intro hxs (And.intro hys (And.intro hzs (And.intro hrs (And.intro (by omega) (And.intro (by omega) (And.intro (by omega) (And.intro (by omega) ?_)))))))))))
  intro ds pn q hds hpn2 hq
  rw [e2] at hq; subst hq
  rw [e3, hpn] at hds
  rw [e4, hpn] at hpn2
  rw [hpn] at hway
  have hlen1 : A.ne (A.vlen ds) (A.vlen ys) = false := by rw [hnn]; subst hA; simp only [std, hds, hys, List.length_map, tellW_len]; simp
  have hlen2 : A.ne (A.vlen rs) (A.vlen ys) = false := by rw [hnn]; subst hA; simp only [std, hrs, hys, List.length_map, hyl]; simp
  cbv
  split <;> cbv
  · rename_i hz; exact Bool.noConfusion (hz.symm.trans hne0)
  split <;> cbv
  · rename_i hz; exact Bool.noConfusion (hz.symm.trans hne0)
  split <;> cbv
  · rename_i hz; exact Bool.noConfusion (hz.symm.trans hlen1)
  split <;> cbv
  · rename_i hz; exact Bool.noConfusion (hz.symm.trans hlen2)
  rw [hT]
  obtain ⟨fl, hfl⟩ : ∃ fl, fl = (os.zip (rowsF os.length cs.length (spreadG (roomW ⟨u, v, ws⟩) p (unitS os) cs.length))).map fun q => fineO q.1 (tellO q.1 q.2) := ⟨_, rfl⟩
  have hfn : fl.length = os.length := by rw [hfl]; simp [rowsF]
  have hpf : pn = sumI fl := by rw [hpn2, hfl]; rfl
  have hpd : p.Nodup := by have := hP.nodup; rw [hpn] at this; exact this
  have hdlv := fun (k : Nat) (o : Ord) (ho : os[k]? = some o) => whole_dlv (f := ⟨(a, b), (c, d), cs, os⟩) hV hwv hpd (k := k) (o := o) ho
  have hroom := fun (k : Nat) (o : Ord) (x : Dlv) (ho : os[k]? = some o) => whole_room (f := ⟨(a, b), (c, d), cs, os⟩) hV hwv hp (k := k) (o := o) (x := x) ho
  have hfg := fun (k : Nat) (o : Ord) (x : Dlv) (ho : os[k]? = some o) => cost_get (f := ⟨(a, b), (c, d), cs, os⟩) (w := ⟨u, v, ws⟩) (p := p) (k := k) (o := o) (x := x) ho
  dsimp only at hroom hfg
  rw [← hfl] at hfg
  have hob := hV.ob
  dsimp only at hob
  clear hpn2
  refine AGo_upE [4, 5, 7, 9, 10] os.length (fun j (s : Bool) => s = true → ∃ (k : Nat) (o : Ord) (x : Dlv), os[k]? = some o ∧ (tellW ⟨(a, b), (c, d), cs, os⟩ ⟨u, v, ws⟩ p)[k]? = some x ∧ 0 < x.lost)
    (fun j s i => [(12, B s), (13, I (sumI (fl.take j))), (14, I i)])
    (fun _ _ => [.own 0 [U w3], .own 0 [I a, I b, I c, I d, .vs 2 xs, .vs 4 ys], .own 0 [I u, I v, .vs 1 zs]]) false
    (fun h => Bool.noConfusion h) ⟨rfl, by simp [sumI, look], rfl, trivial⟩ (.inl rfl) fun j s i hi hj hPl Bk hB => ?_
  have hlt : A.lt i (A.vlen ds) = decide (j < os.length) := by subst hA; exact lt_len (by simp [hds, tellW_len]) hi
  have hadd : ∀ N, j < N → N ≤ 9223372036854775807 → A.add .i64 i 1 = iLen (j + 1) := fun N hj hN => by subst hA; exact add_one hi hj hN
  have hPs := fines_bnd hV hwv hpd hfl j
  obtain ⟨sj, hsj⟩ : ∃ q, q = sumI (fl.take j) := ⟨_, rfl⟩
  rw [← hsj] at hPs ⊢
  refine SGo_run hA ⟨[], [0], [], []⟩ .nil .nil 200 fun T TD hT hTD => ?_
  cbv
  split <;> cbv
  · rename_i hk0
    have hk1 : j < os.length := by have hz := hlt.symm.trans hk0; simpa using hz
    clear hk0
    obtain ⟨⟨ou, od, ol, ol2⟩, hx⟩ : ∃ x, os[j]? = some x := ⟨_, List.getElem?_eq_getElem hk1⟩
    have hix : A.ix 4 4 ys i [I ou, I od, I ol, I ol2] := by subst hA; exact ix_map hys hi hx rfl
    refine Exists.intro _ (And.intro hix ?_); cbv
    obtain ⟨⟨don, dla, dlo, dda⟩, hdx, hx1, hx2, hx3, hx4, hx5⟩ := hdlv j _ hx
    dsimp only at hx1 hx2 hx3 hx4 hx5
    have hixd : A.ix 4 4 ds i [I don, I dla, I dlo, I dda] := by subst hA; exact ix_map hds hi hdx rfl
    obtain ⟨row, hrow⟩ : ∃ r, way[j]? = some r := ⟨_, List.getElem?_eq_getElem (by omega)⟩
    have hrl : row.length = cs.length := by
      have := List.mem_of_getElem? hrow
      rw [hway] at this
      obtain ⟨k, _, rfl⟩ := List.mem_map.1 this
      simp
    obtain ⟨xr, hxr⟩ : ∃ x, x = row.map I := ⟨_, rfl⟩
    have hixr : A.ix 1 1 rs i [.vs 1 xr] := by subst hA; rw [hxr]; exact ix_map hrs hi hrow rfl
    have hofn := hfg j _ _ hx hdx
    have hbo := hob _ (List.mem_of_getElem? hx)
    dsimp only at hbo
    have hz1 : A.lt don 0 = false := by rw [hll]; simp; omega
    have hz2 : A.lt dla 0 = false := by rw [hll]; simp; omega
    have hz3 : A.lt dlo 0 = false := by rw [hll]; simp; omega
    have ha1 : A.add .i64 don dla = don + dla := by subst hA; exact iAdd_id (by omega) (by omega)
    have ha2 : A.add .i64 (don + dla) dlo = don + dla + dlo := by subst hA; exact iAdd_id (by omega) (by omega)
    have hz4 : A.ne (A.add .i64 (A.add .i64 don dla) dlo) ou = false := by rw [ha1, ha2, hx4, hnn]; simp
    have hz5 : A.bnot (A.beq (A.eq dda (-1)) (A.lt 0 dlo)) = false := by rw [hnb, hbq, hee, hll, show decide (dda = -1) = decide (0 < dlo) from decide_eq_decide.2 hx5]; simp
    have hz6 : A.ne (A.vlen xr) (A.vlen zs) = false := by rw [hnn]; subst hA; simp only [std, hxr, hzs, List.length_map, hrl, hwl]; simp
    refine Exists.intro _ (And.intro hixd ?_); cbv
    split <;> cbv
    · rename_i hz; exact Bool.noConfusion (hz.symm.trans hz1)
    refine Exists.intro _ (And.intro hixd ?_); cbv
    split <;> cbv
    · rename_i hz; exact Bool.noConfusion (hz.symm.trans hz2)
    refine Exists.intro _ (And.intro hixd ?_); cbv
    split <;> cbv
    · rename_i hz; exact Bool.noConfusion (hz.symm.trans hz3)
    refine Exists.intro _ (And.intro hixd ?_); cbv
    refine Exists.intro _ (And.intro hixd ?_); cbv
    refine Exists.intro _ (And.intro hixd ?_); cbv
    split <;> cbv
    · rename_i hz; exact Bool.noConfusion (hz.symm.trans hz4)
    refine Exists.intro _ (And.intro hixd ?_); cbv
    refine Exists.intro _ (And.intro hixd ?_); cbv
    split <;> cbv
    · rename_i hz; exact Bool.noConfusion (hz.symm.trans hz5)
    refine Exists.intro _ (And.intro hixr ?_); cbv
    split <;> cbv
    · rename_i hz; exact Bool.noConfusion (hz.symm.trans hz6)
    have hm1 := mulX (x := dla) (X := 1000000) (y := ol) (Y := 1000000) (by omega) (by omega)
    have hm2 := mulX (x := dlo) (X := 1000000) (y := ol2) (Y := 1000000) (by omega) (by omega)
    have hsum : A.add .i64 (A.add .i64 sj (A.mul .i64 dla ol)) (A.mul .i64 dlo ol2) = sumI (fl.take (j + 1)) := by
      have e1 : A.mul .i64 dla ol = dla * ol := by subst hA; exact iMul_id (by omega) (by omega)
      have e2 : A.mul .i64 dlo ol2 = dlo * ol2 := by subst hA; exact iMul_id (by omega) (by omega)
      have e3 : A.add .i64 sj (dla * ol) = sj + dla * ol := by subst hA; exact iAdd_id (by omega) (by omega)
      have e4 : A.add .i64 (sj + dla * ol) (dlo * ol2) = sj + dla * ol + dlo * ol2 := by subst hA; exact iAdd_id (by omega) (by omega)
      rw [e1, e2, e3, e4]
      obtain ⟨hlt9, he9⟩ := List.getElem?_eq_some_iff.1 hofn
      rw [List.take_succ_eq_append_getElem hlt9, sumI_append, ← hsj, he9]
      simp only [sumI, fineO]; omega
    have hi1 := hadd _ hk1 (by omega)
    cases s <;> cbv
    · refine Exists.intro _ (And.intro hixd ?_); cbv
      refine Exists.intro _ (And.intro hixd ?_); cbv
      refine Exists.intro _ (And.intro hixd ?_); cbv
      refine hB (A.lt 0 dlo) _ _ hk1 (fun h => ⟨j, _, _, hx, hdx, ?_⟩) ⟨rfl, congrArg I hsum, congrArg I hi1, trivial⟩ ⟨rfl, rfl, rfl, rfl, rfl, trivial⟩ (.inr ⟨⟨_, rfl⟩, Nat.zero_le _, by simp [ltG, AV.lt, AV.ltL, keepS, look], by simp [ltH, AObj.lt, AV.lt, AV.ltL]⟩)
      rw [hll, decide_eq_true_eq] at h; exact h
    · refine Exists.intro _ (And.intro hixd ?_); cbv
      refine Exists.intro _ (And.intro hixd ?_); cbv
      exact hB true _ _ hk1 (fun h => hPl h) ⟨rfl, congrArg I hsum, congrArg I hi1, trivial⟩ ⟨rfl, rfl, rfl, rfl, rfl, trivial⟩ (.inr ⟨⟨_, rfl⟩, Nat.zero_le _, by simp [ltG, AV.lt, AV.ltL, keepS, look], by simp [ltH, AObj.lt, AV.lt, AV.ltL]⟩)
  · rename_i hk0
    have hk1 : ¬ j < os.length := by have hz := hlt.symm.trans hk0; simpa using hz
    clear hk0
    have hjc : j = os.length := by omega
    subst hjc
    have hsp : sj = pn := by rw [hsj, hpf, ← hfn, List.take_length]
    obtain ⟨g, hg⟩ : ∃ g, g = spreadG (roomW ⟨u, v, ws⟩) p (unitS os) cs.length := ⟨_, rfl⟩
    have hgb : ∀ k d, 0 ≤ g k d ∧ g k d ≤ 1000000 := by rw [hg]; exact (daysG_ok (roomW_bnd (hwv.bnd hV)) (unitS_bnd hV.ords.u) (plan := p) cs.length).2
    have hall : s = true → ∀ d, d < cs.length → sumI ((List.range os.length).map fun k => g k d) = roomW ⟨u, v, ws⟩ d := fun hs d hd => by
      obtain ⟨k, o, x, h1, h2, h3⟩ := hPl hs
      rw [hg]; exact hroom k o x h1 h2 h3 hd
    rw [← hg] at hway
    have hwg : ∀ k, k < os.length → way[k]? = some ((List.range cs.length).map (g k)) := fun k hk => by rw [hway]; simp [rowsF, hk]
    clear hPl hfg hroom hdlv hfl hpf
    rw [hT]
    refine AGo_upE [5, 7, 10, 12, 13] cs.length (fun _ (_ : Unit) => True) (fun _ _ i => [(16, I i)]) (fun _ _ => [.own 0 [U w3], .own 0 [I a, I b, I c, I d, .vs 2 xs, .vs 4 ys], .own 0 [I u, I v, .vs 1 zs]]) () trivial ⟨rfl, trivial⟩ (.inl rfl) fun jd _ id hid hjd _ Bk2 hB2 => ?_
    clear hT hTD T TD
    have hltd : A.lt id (A.vlen zs) = decide (jd < cs.length) := by subst hA; exact lt_len (by simp [hzs, hwl]) hid
    have haddd : ∀ N, jd < N → N ≤ 9223372036854775807 → A.add .i64 id 1 = iLen (jd + 1) := fun N hj hN => by subst hA; exact add_one hid hj hN
    refine SGo_run hA ⟨[], [0], (17, eAwake) :: [], []⟩ (.cons eAwake_ok .nil) .nil 200 fun T TD hT hTD => ?_
    cbv
    split <;> cbv
    · rename_i hk0
      have hkd : jd < cs.length := by have hz := hltd.symm.trans hk0; simpa using hz
      have hid1 := haddd _ hkd (by omega)
      rw [hT]
      refine AGo_upE [5, 7, 10, 12, 13, 16] os.length (fun _ (_ : Unit) => True) (fun k _ i => [(17, I (sumI ((List.range k).map fun k => g k jd))), (18, I i)]) (fun _ _ => [.own 0 [U w3], .own 0 [I a, I b, I c, I d, .vs 2 xs, .vs 4 ys], .own 0 [I u, I v, .vs 1 zs]]) () trivial ⟨by simp [sumI, look], rfl, trivial⟩ (.inl rfl) fun jk _ ik hik hjk _ Bk3 hB3 => ?_
      clear hT hTD T TD
      have hltk : A.lt ik (A.vlen rs) = decide (jk < os.length) := by subst hA; exact lt_len (by simp [hrs, hyl]) hik
      have haddk : ∀ N, jk < N → N ≤ 9223372036854775807 → A.add .i64 ik 1 = iLen (jk + 1) := fun N hj hN => by subst hA; exact add_one hik hj hN
      obtain ⟨sk, hsk⟩ : ∃ q, q = sumI ((List.range jk).map fun k => g k jd) := ⟨_, rfl⟩
      have hskb : 0 ≤ sk ∧ sk ≤ 6000000 := by
        have := sumI_bnd (l := (List.range jk).map fun k => g k jd) (lo := 0) (hi := 1000000) (fun x hx => by obtain ⟨k, _, rfl⟩ := List.mem_map.1 hx; exact hgb k jd)
        rw [← hsk] at this
        simp at this
        omega
      rw [← hsk]
      refine SGo_run hA ⟨[], [0], (44, eRoomK) :: [], []⟩ (.cons eRoomK_ok .nil) .nil 200 fun T TD hT hTD => ?_
      cbv
      split <;> cbv
      · rename_i hk0
        have hkk : jk < os.length := by have hz := hltk.symm.trans hk0; simpa using hz
        have hik1 := haddk _ hkk (by omega)
        obtain ⟨xr, hxr⟩ : ∃ x, x = ((List.range cs.length).map (g jk)).map I := ⟨_, rfl⟩
        have hixr : A.ix 1 1 rs ik [.vs 1 xr] := by subst hA; rw [hxr]; exact ix_map hrs hik (hwg jk hkk) rfl
        have hixc : A.ix 1 1 xr id [I (g jk jd)] := by subst hA; exact ix_map hxr hid (by simp [hkd]) rfl
        refine Exists.intro _ (And.intro hixr ?_); cbv
        refine Exists.intro _ (And.intro hixc ?_); cbv
        have hgk := hgb jk jd
        have hs2 : A.add .i64 sk (g jk jd) = sumI ((List.range (jk + 1)).map fun k => g k jd) := by
          subst hA
          show iAdd .i64 sk (g jk jd) = _
          rw [iAdd_id (by omega) (by omega), List.range_succ, List.map_append, sumI_append, ← hsk]
          simp [sumI]
        exact hB3 () _ _ hkk trivial ⟨congrArg I hs2, congrArg I hik1, trivial⟩ ⟨rfl, rfl, rfl, rfl, rfl, rfl, trivial⟩ (.inl rfl)
      · rename_i hk0
        have hkk : ¬ jk < os.length := by have hz := hltk.symm.trans hk0; simpa using hz
        have hjc : jk = os.length := by omega
        subst hjc
        cases s <;> cbv
        · exact hB2 () _ _ hkd trivial ⟨congrArg I hid1, trivial⟩ ⟨rfl, rfl, rfl, rfl, rfl, trivial⟩ (.inl rfl)
        · refine Exists.intro ws (Exists.intro jd (And.intro ⟨hzs, hid, by omega, by omega⟩ ?_))
          intro q hq; cbv
          have hz1 : A.ne sk q = false := by rw [hnn, hq, hsk, hall rfl jd hkd]; simp
          split <;> cbv
          · rename_i hz; exact Bool.noConfusion (hz.symm.trans hz1)
          · exact hB2 () _ _ hkd trivial ⟨congrArg I hid1, trivial⟩ ⟨rfl, rfl, rfl, rfl, rfl, trivial⟩ (.inl rfl)
    · have hz1 : A.eq sj pn = true := by rw [hee, hsp]; simp
      split <;> cbv
      · exact h _
      · rename_i hz; exact Bool.noConfusion (hz.symm.trans hz1)
end Go.Sas
