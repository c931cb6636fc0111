/-
Numbers put together to spans.
All speeds that are sure: contracts.
All speeds that are sure, handed out one by one: contract.
Conditions: none.
-/
import Derived.Test.YtelmlpjkpebcgaaJ1
import Derived.Test.YtelmlpjkpebcgaaH6
import Derived.Test.YtelmlpjkpebcgaaJ6
import Derived.Test.YtelmlpjkpebcgaaQT8
set_option linter.unusedVariables false
set_option linter.unusedSimpArgs false
namespace Go.Sas
def addV (l : List (Int × Int)) (v : Int) : List (Int × Int) := match l.getLast? with
  | some x => if x.2 = v - 1 then l.dropLast ++ [(x.1, v)] else l ++ [(v, v)]
  | none => [(v, v)]
theorem addV_nil {v : Int} : addV [] v = [(v, v)] := rfl
theorem addV_last {l : List (Int × Int)} {x : Int × Int} {v : Int} : addV (l ++ [x]) v = if x.2 = v - 1 then l ++ [(x.1, v)] else l ++ [x] ++ [(v, v)] := by
  unfold addV; simp
def runS (q : Nat → Bool) : Nat → List (Int × Int)
  | 0 => []
  | v + 1 => if q v then addV (runS q v) (iLen v) else runS q v
theorem nil_or_snoc {α : Type} (l : List α) : l = [] ∨ ∃ l0 x, l = l0 ++ [x] := by
  rcases List.eq_nil_or_concat l with h | ⟨l0, x, h⟩
  · exact .inl h
  · exact .inr ⟨l0, x, by rw [h]; simp⟩
theorem addV_len {l : List (Int × Int)} {v : Int} : (addV l v).length ≤ l.length + 1 := by
  rcases nil_or_snoc l with rfl | ⟨l0, x, rfl⟩
  · simp [addV_nil]
  · rw [addV_last]; split <;> simp
theorem runS_len {q : Nat → Bool} : ∀ v, (runS q v).length ≤ v
  | 0 => by simp [runS]
  | v + 1 => by
    have ih := runS_len (q := q) v
    simp only [runS]
    split
    · have := addV_len (l := runS q v) (v := iLen v); omega
    · omega
abbrev spC (x : Int × Int) : List AV := [I x.1, I x.2]
theorem get_spl {l : List (Int × Int)} {x : Int × Int} {o : Nat} (ho : o = l.length * 2 + 1) : getS none ((l ++ [x]).flatMap spC) o (I x.2) := by
  subst ho
  have hl : (l.flatMap spC).length = l.length * 2 := len_flat (k := 2) (fun _ => rfl) l
  have : (l ++ [x]).flatMap spC = l.flatMap spC ++ [I x.1, I x.2] := by simp [spC]
  unfold getS
  rw [this]
  simp only [getN]
  rw [List.getElem?_append_right (by omega), hl]
  simp
theorem upd_spl {l : List (Int × Int)} {x : Int × Int} {v : Int} {o : Nat} (ho : o = l.length * 2 + 1) : updS 1 ((l ++ [x]).flatMap spC) o [I v] ((l ++ [(x.1, v)]).flatMap spC) := by
  subst ho
  have hl : (l.flatMap spC).length = l.length * 2 := len_flat (k := 2) (fun _ => rfl) l
  have h1 : (l ++ [x]).flatMap spC = l.flatMap spC ++ [I x.1, I x.2] := by simp [spC]
  have h2 : (l ++ [(x.1, v)]).flatMap spC = l.flatMap spC ++ [I x.1, I v] := by simp [spC]
  unfold updS
  rw [h1, h2]
  refine ⟨rfl, by rw [List.length_append, hl]; simp, ?_⟩
  rw [List.take_append, List.drop_append, hl, show l.length * 2 + 1 - l.length * 2 = 1 by omega, List.take_of_length_le (l := l.flatMap spC) (by omega), List.drop_of_length_le (l := l.flatMap spC) (by omega), show l.length * 2 + 1 + 1 - l.length * 2 = 2 by omega]
  simp
def speedsS (p : Plate) (a b shore : Int) : List (Int × Int) × Int := if waterS p a b shore ≠ 0 then ([], waterS p a b shore) else (runS (fun v => decide (wverS p.grav (bandS p shore).1 (bandS p shore).2 (iLen v) a b = 1)) 1001, 0)
/-! ### A row that is none yet, in a cell -/
theorem RelL.setAt {st : St} {a : AV} : ∀ {cs : List AV} {us : List Value} {i : Nat}, RelL st cs us → (∀ u, us[i]? = some u → RelV st a u) → RelL st (cs.set i a) us
  | [], us, i, h, _ => by simpa using h
  | c :: cs, us, 0, h, ha => by
    obtain ⟨u, us', rfl, h2, h3⟩ := h.uncons
    exact RelL.cons (ha u (by simp)) h3
  | c :: cs, us, i + 1, h, ha => by
    obtain ⟨u, us', rfl, h2, h3⟩ := h.uncons
    exact RelL.cons h2 (RelL.setAt h3 fun v hv => ha v (by simpa using hv))
theorem AGo_nilcell {cx : Cx} {m : Nat} {k : List AItm} {R : Env → AHeap → Prop} {e : Env} {H : AHeap} (id i sz : Nat) {g : Nat} {cs : List AV} (hX : H[id]? = some (.own g cs)) (hi : cs[i]? = some (.lit (.slice none 0 0)))
    (h : AGo cx m k R e (H.set id (.own g (cs.set i (.ms sz H.length 0 0 0))) ++ [.own 0 []])) : AGo cx m k R e H := by
  refine AGo_turn (fun st w hH => ?_) (h := h)
  obtain ⟨g1, g2, g3⟩ := push_none hH []
  have hid := (List.getElem?_eq_some_iff.1 hX).1
  refine ⟨_, g1, ⟨by rw [g2.len]; simp, g2.rd, fun j l X hl hY => ?_, g2.inj⟩, fun t v hv => hv.mono g1.le, fun t v hv => hv.mono g1.le, fun _ h => h, fun _ h => h⟩
  rcases Nat.lt_trichotomy j H.length with hj | hj | hj
  · rw [List.getElem?_append_left (by simpa using hj)] at hY
    by_cases he : j = id
    · subst he
      rw [List.getElem?_set_self hid] at hY; cases hY
      have h4 := g2.obj j l _ hl (by rw [List.getElem?_append_left hj]; exact hX)
      simp only [ObjOk] at h4 ⊢
      refine ⟨h4.1, fun b o r hb => ?_⟩
      obtain ⟨arr, T, us, f1, f2, f3, f4, f5, f6⟩ := h4.2 b o r hb
      refine ⟨arr, T, us, f1, f2, by simpa using f3, RelL.setAt f4 fun u hu => ?_, f5, f6⟩
      obtain ⟨u2, e1, e2⟩ := f4.get hi
      rw [hu] at e1; cases e1
      simp only [RelV] at e2 ⊢
      exact ⟨_, g3, Nat.le_refl _, fun h => absurd h (Nat.lt_irrefl _), fun _ => ⟨none, 0, e2, Nat.le_refl _, fun h => absurd h (Nat.lt_irrefl _)⟩⟩
    · rw [List.getElem?_set_ne (Ne.symm he)] at hY
      exact g2.obj j l X hl (by rw [List.getElem?_append_left hj]; exact hY)
  · subst hj
    rw [List.getElem?_append_right (by simp)] at hY
    refine g2.obj _ l X hl ?_
    rw [List.getElem?_append_right (Nat.le_refl _)]
    simpa using hY
  · rw [List.getElem?_eq_none (by simp; omega)] at hY; cases hY
end Go.Sas
namespace Go.Sas
open Go.Proofs
set_option maxRecDepth 100000
end Go.Sas
namespace Go.Sas
open Go.Proofs
set_option maxRecDepth 100000
def eSureF : List AV → AHeap → Option PT
  | [.agg [.lit (.int .i64 g), .lit (.int .i64 lo), .lit (.int .i64 hi)], .agg [.lit (.int .i64 a), .lit (.int .i64 b)]], H => some fun K => K (.fn 138 [.mp H.length 0 0, .mp (H.length + 1) 0 0]) (H ++ [.own 0 [I g, I lo, I hi], .own 0 [I a, I b]])
  | _, _ => none
theorem p100 (g lo hi a b : Int) (H : AHeap) {Kk : AV → AHeap → Prop} (h : Kk (.fn 138 [.mp H.length 0 0, .mp (H.length + 1) 0 0]) (H ++ [.own 0 [I g, I lo, I hi], .own 0 [I a, I b]])) : ACalls Try.prog 100 [.agg [I g, I lo, I hi], .agg [I a, I b]] H Kk := by
  have h1 : ACalls Try.prog 100 [.agg [I g, I lo, I hi], .agg [I a, I b]] [] fun r H' => r = .fn 138 [.mp 0 0 0, .mp 1 0 0] ∧ H' = [.own 0 [I g, I lo, I hi], .own 0 [I a, I b]] := by
    clear h Kk
    obtain ⟨Kk, hKk⟩ : ∃ K : AV → AHeap → Prop, K = fun r H' => r = .fn 138 [.mp 0 0 0, .mp 1 0 0] ∧ H' = [.own 0 [I g, I lo, I hi], .own 0 [I a, I b]] := ⟨_, rfl⟩
    rw [← hKk]
    obtain ⟨A, hA⟩ : ∃ A, A = std := ⟨_, rfl⟩
    refine go100 rfl (SGo_run hA ⟨[], [], [], []⟩ .nil .nil 200 fun T TD hT hTD => ?_)
    cbv
    rw [hKk]; exact ⟨rfl, rfl⟩
  have h2 := ACalls.frame (H := H) [] h1 List.nodup_nil rfl (AV.ltL_nid (by rfl)) (by simp [ltH]) (fun k X hk => by simp at hk)
  rw [AV.renL_nid (by rfl)] at h2
  refine h2.mono fun r H' hx => ?_
  obtain ⟨r0, H1, ⟨rfl, rfl⟩, _, rfl, rfl⟩ := hx
  simpa [merge, updL, more, AV.ren, AV.renL, at_, AObj.ren, List.range'] using h
theorem eSureF_ok : ∀ args H pt, eSureF args H = some pt → ∀ (Kk : AV → AHeap → Prop), pt Kk → ACalls Try.prog 100 args H Kk := by
  intro args H pt h Kk hk
  unfold eSureF at h
  split at h
  · cases h; exact p100 _ _ _ _ _ H hk
  · cases h
abbrev sureH (a b : Int) (xs ec : List AV) (ne ed gr lo hi sh wi u v : Int) (bl bh : Int) (n : Nat) (cs : List AV) : AHeap :=
  [.own 0 [I a, I b, .vs 2 xs, .vs 2 ec, I ne, I ed, I gr, I lo, I hi, I sh, I wi], .own 0 [I u, I v], .own 0 [.ms 2 5 n 0 n], .own 0 [I gr, I bl, I bh], .own 0 [I u, I v], .own n cs]
set_option maxHeartbeats 8000000 in
theorem p48 (p : Plate) {a b : Int} {xs ec : List AV} {ne ed gr lo hi sh wi : Int} (hp : PlateIs p a b xs ec ne ed gr lo hi sh wi) (h1 : Big p.shares) (h2 : Big p.creep) (u v s : Int) (H : AHeap) {Kk : AV → AHeap → Prop} (h : Kk (.tup [.vs 2 ((speedsS p u v s).1.map sp), I (speedsS p u v s).2]) H) :
    ACalls Try.prog 48 [plV a b (.vs 2 xs) (.vs 2 ec) ne ed gr lo hi sh wi, .agg [I u, I v], I s] H Kk := by
  refine (fun q => pureF (by rfl) (by rfl) q H h) ?_
  clear h
  intro Kk h
  obtain ⟨A, hA⟩ : ∃ A, A = std := ⟨_, rfl⟩
  obtain ⟨S3, hS3⟩ : ∃ S, S = st3 := ⟨_, rfl⟩
  obtain ⟨W, hW⟩ : ∃ W, W = speedsS p u v s := ⟨_, rfl⟩
  rw [← hW] at h
  obtain ⟨F, hF⟩ : ∃ F, F = Frees 0 Kk := ⟨_, rfl⟩
  rw [← hF]
  have hsg : ∀ g, A.sg g g := by subst hA; exact fun _ => rfl
  have hnb : ∀ b, A.bnot b = !b := by subst hA; intro b; rfl
  refine go48 rfl (SGo_run hA ⟨[], [], (93, eWater S3) :: (95, eWaves S3) :: [], (100, eSureF) :: []⟩ (.cons (eWater_ok p93 hS3) (.cons (eWaves_ok hS3) .nil)) (.cons eSureF_ok .nil) 200 fun T TD hT hTD => ?_)
  cbv
  refine Exists.intro p (And.intro hp (And.intro h1 (And.intro h2 ?_)))
  cbv
  have e1 : S3.water p u v s = waterS p u v s := by subst hS3; rfl
  unfold speedsS at hW
  split <;> cbv
  · rename_i hq
    have hq : waterS p u v s ≠ 0 := by have hq : A.ne (S3.water p u v s) 0 = true := hq; rw [e1] at hq; subst hA; simpa [std, iNe] using hq
    rw [if_pos hq] at hW
    rw [hF]
    refine Frees.wk (r' := .tup [.vs 2 [], I (S3.water p u v s)]) (Wk.tup ⟨Wk.nil, Wk.rfl, trivial⟩) (Frees.drop0 ?_ rfl)
    rw [hW] at h
    rw [e1]; exact h
  rename_i hq
  have hq : waterS p u v s = 0 := by have hq : A.ne (S3.water p u v s) 0 = false := hq; rw [e1] at hq; subst hA; simpa [std, iNe] using hq
  rw [if_neg (by simp [hq])] at hW
  obtain ⟨hV, hd, hn1, hn2⟩ := waterS_ok hq
  clear e1
  obtain ⟨Q, hQ⟩ : ∃ Q : Nat → Bool, Q = fun x => decide (wverS p.grav (bandS p s).1 (bandS p s).2 (iLen x) u v = 1) := ⟨_, rfl⟩
  rw [← hQ] at hW
  have hgr : gr = p.grav := hp.gr.symm
  have hbn := bandS_bnd hV s
  have hg1 := hV.g1
  have hg2 := hV.g2
  refine Exists.intro p (And.intro hp (And.intro hV ?_))
  obtain ⟨bl, hbl⟩ : ∃ z, z = (S3.band p s).1 := ⟨_, rfl⟩
  obtain ⟨bh, hbh⟩ : ∃ z, z = (S3.band p s).2 := ⟨_, rfl⟩
  have hbl2 : bl = (bandS p s).1 := by rw [hbl, hS3]; rfl
  have hbh2 : bh = (bandS p s).2 := by rw [hbh, hS3]; rfl
  rw [← hbl, ← hbh]
  cbv
  rw [hT]
  refine AGo_nilcell 2 0 2 (g := 0) (cs := [.lit (.slice none 0 0)]) rfl rfl ?_
  refine AGo_range (fid := 138) (caps := [.mp 3 0 0, .mp 4 0 0]) rfl rfl [(9, .mp 2 0 0)] ⟨rfl, trivial⟩ rfl ?_
  intro lp lb us hY
  show ACalls Try.prog 138 [.yl 6 0, .mp 3 0 0, .mp 4 0 0] (sureH a b xs ec ne ed gr lo hi sh wi u v bl bh 0 [] ++ [.raw 0 lp [.mp 2 0 0] us]) _
  refine go138 rfl ?_
  refine AGo_opq fun R hR => ?_
  refine SGo_run hA ⟨[], [], [], []⟩ .nil .nil 200 fun T TD hT hTD => ?_
  cbv
  rw [hT]
  refine AGo_up 1001 (fun _ => True) (fun j i => [(0, .yl 6 0), (1, .mp 3 0 0), (2, .mp 4 0 0), (5, I i)]) (fun j => sureH a b xs ec ne ed gr lo hi sh wi u v bl bh (runS Q j).length ((runS Q j).flatMap spC) ++ [.raw 0 lp [.mp 2 0 0] us]) trivial ⟨rfl, rfl, rfl, rfl, trivial⟩ (.inl rfl) fun j i hij hj _ Bk hB => ?_
  have hlt : A.lt i 1001 = decide (j < 1001) := by subst hA; simp only [std, iLt, hij]; unfold iLen; rw [decide_eq_decide]; omega
  have hadd : j < 1001 → A.add .i64 i 1 = iLen (j + 1) := fun hj => by subst hA; exact add_one hij hj (by omega)
  have hib : j < 1001 → 0 ≤ i ∧ i ≤ 1000 := fun h => by rw [hij]; unfold iLen; omega
  have hsub : j < 1001 → A.sub .i64 i 1 = i - 1 := fun h => by have := hib h; subst hA; exact iSub_id (by omega) (by omega)
  have hwb : j < 1001 → WaveV gr bl bh i := fun h => by have := hib h; rw [hgr, hbl2, hbh2]; exact ⟨⟨by omega, by omega⟩, ⟨by omega, by omega⟩, ⟨by omega, by omega⟩, by omega, by omega⟩
  have hwv : A.eq (S3.wver gr bl bh i u v) 1 = Q j := by
    rw [hQ, hgr, hbl2, hbh2]; subst hA hS3
    show (wverS p.grav (bandS p s).1 (bandS p s).2 i u v == 1) = _
    rw [hij]
    by_cases hz : wverS p.grav (bandS p s).1 (bandS p s).2 (iLen j) u v = 1
    · simp [hz]
    · simp [hz]
  have hrl := runS_len (q := Q) j
  obtain ⟨l, hl⟩ : ∃ l, l = runS Q j := ⟨_, rfl⟩
  rw [← hl] at hrl
  have hstep : runS Q (j + 1) = if Q j then addV l i else l := by simp only [runS]; rw [← hl, hij]
  have hfin : ¬ j < 1001 → W = (l, 0) := fun h => by rw [hW, hl, show j = 1001 by omega]
  have hB' : ∀ l2 e' H', j < 1001 → runS Q (j + 1) = l2 → Fits e' [(0, .yl 6 0), (1, .mp 3 0 0), (2, .mp 4 0 0), (5, I (A.add .i64 i 1))] →
      H' = sureH a b xs ec ne ed gr lo hi sh wi u v bl bh l2.length (l2.flatMap spC) ++ [.raw 0 lp [.mp 2 0 0] us] → Bk e' H' := fun l2 e' H' hj h2 hf hH => by
    rw [hadd hj] at hf
    subst h2
    exact hB _ _ hj trivial hf (.inl hH)
  clear hB
  rw [← hl]
  clear hl
  obtain ⟨n, hn⟩ : ∃ n, n = l.length := ⟨_, rfl⟩
  obtain ⟨cs, hcs⟩ : ∃ cs, cs = l.flatMap spC := ⟨_, rfl⟩
  rw [← hn, ← hcs]
  refine SGo_run hA ⟨[], [], (96, eWver S3) :: [], []⟩ (.cons (eWver_ok hS3) .nil) .nil 200 fun T TD hT hTD => ?_
  cbv
  split <;> cbv
  · rename_i z
    have hj1 : j < 1001 := by have z := hlt.symm.trans z; simpa using z
    refine Exists.intro () (And.intro (hwb hj1) (And.intro hd ?_))
    cbv
    split <;> cbv
    · rename_i z
      have z : Q j = true := hwv.symm.trans z
      rw [z, if_pos rfl] at hstep
      rw [hT]
      refine AGo_yield (id := 6) (gg := 0) rfl rfl rfl rfl ?_
      show AYields Try.prog 6 [I i] (sureH a b xs ec ne ed gr lo hi sh wi u v bl bh n cs ++ [.raw 0 lp [.mp 2 0 0] us]) _
      obtain ⟨HX, hHX⟩ : ∃ HX, HX = sureH a b xs ec ne ed gr lo hi sh wi u v bl bh n cs ++ [.raw 0 lp [.mp 2 0 0] us] := ⟨_, rfl⟩
      obtain ⟨R1, hR1⟩ : ∃ R1 : Env → AHeap → Prop, R1 = fun e1 H2 => Fits e1 [(9, .mp 2 0 0), (10, I i)] ∧ H2 = HX := ⟨_, rfl⟩
      refine hY [I i] _ _ R1 rfl rfl (fun ro => ?_) (fun ro e1 H2 hr1 => ?_)
      · refine SGo_run hA ⟨[], [], [], []⟩ .nil .nil 200 fun T TD hT hTD => ?_
        cbv
        rw [hR1]
        exact ⟨⟨rfl, rfl, trivial⟩, hHX.symm⟩
      · rw [hR1] at hr1
        obtain ⟨hf1, rfl⟩ := hr1
        rw [hHX]
        refine ⟨rfl, ?_⟩
        refine AGo_forget [(9, .mp 2 0 0), (10, I i)] _ hf1 (.inl rfl) ?_ (by simp)
        refine AGo_opq fun R2 hR2 => ?_
        have hgo : ∀ (n2 : Nat) (l2 : List (Int × Int)) (cs2 : List AV) e2, n2 = l2.length → cs2 = l2.flatMap spC → runS Q (j + 1) = l2 → R2 e2 (sureH a b xs ec ne ed gr lo hi sh wi u v bl bh n2 cs2 ++ [.raw 0 lb [.mp 2 0 0] us]) := fun n2 l2 cs2 e2 q1 q2 q3 => by
          refine hR2 _ _ ⟨rfl, ?_⟩
          have hb : A.bnot true = false := hnb true
          refine SGo_run hA ⟨[], [], [], []⟩ .nil .nil 200 fun T TD hT hTD => ?_
          cbv
          split <;> cbv
          · rename_i hq; exact Bool.noConfusion (hq.symm.trans hb)
          · exact hB' l2 _ _ hj1 q3 ⟨rfl, rfl, rfl, rfl, trivial⟩ (by rw [q1, q2]; rfl)
        clear hR2
        rcases nil_or_snoc l with rfl | ⟨l0, ⟨x, y⟩, rfl⟩
        · have hn : n = 0 := hn
          have hcs : cs = [] := hcs
          subst hn hcs
          have hl0 : A.le 0 (A.sub .i64 (A.len 0) 1) = false := by subst hA; rfl
          have happ : A.app 2 2 16 [] 0 0 [.agg [I i, I i]] (spC (i, i)) 1 := by subst hA; exact app_one (n := 0) (cs := []) rfl rfl (by omega)
          obtain ⟨c2, hc2⟩ : ∃ c, c = spC (i, i) := ⟨_, rfl⟩
          rw [← hc2] at happ
          refine SGo_run hA ⟨[5], [], [], []⟩ .nil .nil 200 fun T TD hT hTD => ?_
          cbv
          refine And.intro (hsg _) ?_
          split <;> cbv
          · rename_i hq; exact Bool.noConfusion (hq.symm.trans hl0)
          refine And.intro (hsg _) (Exists.intro c2 (Exists.intro 1 (And.intro happ (And.intro rfl ?_))))
          cbv
          exact hgo 1 [(i, i)] c2 _ rfl (by rw [hc2]; rfl) (by rw [hstep, addV_nil])
        · have hlen : (l0 ++ [(x, y)]).length = l0.length + 1 := by simp
          rw [hlen] at hrl hn
          obtain ⟨o, ho⟩ : ∃ o, o = l0.length * 2 := ⟨_, rfl⟩
          obtain ⟨o1, ho1⟩ : ∃ o1, o1 = o + 1 := ⟨_, rfl⟩
          obtain ⟨cs1, hcs1⟩ : ∃ cs, cs = (l0 ++ [(x, i)]).flatMap spC := ⟨_, rfl⟩
          obtain ⟨cs2, hcs2⟩ : ∃ cs, cs = (l0 ++ [(x, y)] ++ [(i, i)]).flatMap spC := ⟨_, rfl⟩
          have hl0 : A.le 0 (A.sub .i64 (A.len n) 1) = true := by
            subst hA
            show decide ((0 : Int) ≤ iSub .i64 (n : Int) 1) = true
            rw [iSub_id (by omega) (by omega), decide_eq_true_eq]; omega
          have hix : A.ixm 2 2 0 n (A.sub .i64 (A.len n) 1) o := by
            subst hA
            have e : iSub .i64 (iLen n) 1 = iLen l0.length := (iSub_id (by unfold iLen; omega) (by unfold iLen; omega)).trans (by unfold iLen; omega)
            show ixmS _ _ _ _ (iSub .i64 (iLen n) 1) _
            rw [e]
            exact ⟨rfl, by unfold iLen; omega, by unfold iLen; omega, by unfold iLen; omega⟩
          have hoff : A.off o 1 o1 := by subst hA; exact ho1
          have hget : A.get none cs o1 (I y) := by subst hA; rw [hcs]; exact get_spl (by omega)
          have hupd : A.upd 1 cs o1 [I i] cs1 := by subst hA; rw [hcs, hcs1]; exact upd_spl (by omega)
          have happ : A.app 2 2 16 cs 0 n [.agg [I i, I i]] cs2 (n + 1) := by
            subst hA
            have := app_one (sz := 2) (by_ := 16) (n := n) (cs := cs) (c := spC (i, i)) (v := .agg [I i, I i]) (by rw [hcs, len_flat (k := 2) (fun _ => rfl)]; simp; omega) rfl (by omega)
            rw [hcs2, List.flatMap_append, ← hcs]; exact this
          rw [addV_last (l := l0) (x := (x, y)) (v := i)] at hstep
          have heq : A.eq y (A.sub .i64 i 1) = decide (y = i - 1) := by rw [hsub hj1]; subst hA; rfl
          refine SGo_run hA ⟨[5], [], [], []⟩ .nil .nil 200 fun T TD hT hTD => ?_
          cbv
          refine And.intro (hsg _) ?_
          split <;> cbv
          · refine And.intro (hsg _) (Exists.intro o (And.intro hix ?_))
            cbv
            refine And.intro (hsg _) (Exists.intro o1 (And.intro hoff ?_))
            cbv
            refine And.intro (hsg _) (Exists.intro _ (And.intro hget ?_))
            cbv
            split <;> cbv
            · rename_i z2
              have z2 := heq.symm.trans z2
              simp only [decide_eq_true_eq] at z2
              rw [if_pos z2] at hstep
              refine And.intro (hsg _) (Exists.intro o (And.intro hix ?_))
              cbv
              refine And.intro (hsg _) (Exists.intro o1 (And.intro hoff ?_))
              cbv
              refine And.intro (hsg _) (Exists.intro cs1 (And.intro hupd ?_))
              cbv
              exact hgo n (l0 ++ [(x, i)]) cs1 _ (by simp [hn]) hcs1 hstep
            · rename_i z2
              have z2 := heq.symm.trans z2
              simp only [decide_eq_false_iff_not] at z2
              rw [if_neg z2] at hstep
              refine And.intro (hsg _) (Exists.intro cs2 (Exists.intro (n + 1) (And.intro happ (And.intro rfl ?_))))
              cbv
              exact hgo (n + 1) (l0 ++ [(x, y)] ++ [(i, i)]) cs2 _ (by simp [hn]) hcs2 hstep
          · rename_i hq; exact Bool.noConfusion (hq.symm.trans hl0)
    · rename_i z
      have z : Q j = false := hwv.symm.trans z
      exact hB' l _ _ hj1 (by rw [hstep, z]; rfl) ⟨rfl, rfl, rfl, rfl, trivial⟩ (by rw [hn, hcs]; rfl)
  · rename_i z
    have hj1 : ¬ j < 1001 := by have z := hlt.symm.trans z; simpa using z
    have hw := hfin hj1
    rw [hw] at h
    refine hR _ _ (RetP.same (vs := []) rfl rfl ⟨rfl, ?_⟩)
    refine SGo_run hA ⟨[], [], [], []⟩ .nil .nil 200 fun T TD hT hTD => ?_
    cbv
    rw [hF]
    refine Frees.frz 5 n 2 (l.map sp) rfl (by rw [hcs]; exact Elems_sp _) (Frees.drop0 ?_ ?_)
    · have : AV.frz 5 n 2 (l.map sp) (.ms 2 5 n 0 n) = .vs 2 (l.map sp) := frz_self (by simp [hn])
      simp only [aTup, AV.frz, AV.frzL] at this ⊢
      rw [this]; exact h
    · have : AV.frz 5 n 2 (l.map sp) (.ms 2 5 n 0 n) = .vs 2 (l.map sp) := frz_self (by simp [hn])
      simp only [aTup, AV.frz, AV.frzL, AV.nid, AV.nidL] at this ⊢
      rw [this]; rfl
end Go.Sas
