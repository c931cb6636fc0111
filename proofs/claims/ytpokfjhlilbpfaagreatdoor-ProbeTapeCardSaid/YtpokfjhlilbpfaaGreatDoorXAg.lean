/-
Laws with texts: plain law of numbers in words: what the program takes as a number is what the reference takes.
Laws with texts: plain law of parting a text at a byte; what Go's library parts, and what a loop parts.
Laws with texts: plain law of rows of a word and numbers, and of texts of rows.
Radar files: what is read of a track's file is the track; a text that is read is the file of what it gives.
Conditions: none.
-/
import Derived.Lib.Atoi
import Derived.Lib.AtoiTie
import Derived.Lib.ItoaMem
import Derived.Lib.Split
import Derived.Lib.IndexMore
set_option linter.unusedVariables false
set_option linter.unusedSimpArgs false
namespace Go.Sas
open Go.Lib
theorem decFrom_app : ∀ (l r : List UInt8) (acc : Nat), decFrom acc (l ++ r) = (decFrom acc l).bind fun n => decFrom n r
  | [], r, acc => rfl
  | b :: l, r, acc => by
    simp only [List.cons_append, decFrom]
    split
    · exact decFrom_app l r _
    · rfl
theorem head_app {α : Type} {l r : List α} (h : l ≠ []) : (l ++ r).head? = l.head? := by
  cases l with
  | nil => exact absurd rfl h
  | cons a l => rfl
theorem digit_of {d : Nat} (h : d < 10) : digitVal (UInt8.ofNat (48 + d)) = some d := by
  have h1 : (UInt8.ofNat (48 + d)).toNat = 48 + d := by simp; omega
  unfold digitVal
  rw [h1, if_pos (by omega)]
  congr 1; omega
theorem digit_to {b : UInt8} {d : Nat} (h : digitVal b = some d) : d < 10 ∧ b = UInt8.ofNat (48 + d) := by
  unfold digitVal at h
  split at h
  · rename_i hb
    cases h
    refine ⟨by omega, ?_⟩
    apply UInt8.toNat_inj.1
    have : b.toNat < 256 := b.toNat_lt
    simp; omega
  · cases h
theorem dec_digits (u : Nat) : decFrom 0 (decDigits u) = some u := by
  induction u using Nat.strongRecOn with
  | _ u ih =>
    by_cases h : u < 10
    · rw [decDigits, dif_pos h]
      simp only [decFrom, digit_of h]
      simp
    · rw [decDigits, dif_neg h, decFrom_app, ih (u / 10) (by omega)]
      simp only [Option.bind_some, decFrom, digit_of (show u % 10 < 10 by omega)]
      congr 1; omega
theorem dec_pos (u : Nat) : decDigits u ≠ [] := by
  intro h
  have h1 := decDigits_length u
  have h2 := nDigits_pos u
  rw [h] at h1; simp at h1; omega
theorem dec_head (u : Nat) (h : (decDigits u).head? = some 48) : u = 0 := by
  induction u using Nat.strongRecOn with
  | _ u ih =>
    by_cases hu : u < 10
    · rw [decDigits, dif_pos hu] at h
      simp only [List.head?_cons, Option.some.injEq] at h
      have : (UInt8.ofNat (48 + u)).toNat = (48 : UInt8).toNat := by rw [h]
      simp at this; omega
    · rw [decDigits, dif_neg hu, head_app (dec_pos _)] at h
      have := ih (u / 10) (by omega) h
      omega
theorem digits_dec : ∀ (n : Nat) (l : List UInt8) (u : Nat), l.length = n → l ≠ [] → ¬ (l.head? = some 48 ∧ 1 < l.length) → decFrom 0 l = some u → decDigits u = l
  | 0, l, u, hn, h0, _, _ => absurd (List.length_eq_zero_iff.1 hn) h0
  | n + 1, l, u, hn, h0, hh, hd => by
    have hlast := List.dropLast_concat_getLast h0
    obtain ⟨r, hr⟩ : ∃ r, r = l.dropLast := ⟨_, rfl⟩
    obtain ⟨b, hb⟩ : ∃ b, b = l.getLast h0 := ⟨_, rfl⟩
    rw [← hr, ← hb] at hlast
    rw [← hlast, decFrom_app] at hd
    have hrl : r.length = n := by rw [hr, List.length_dropLast, hn]; rfl
    cases hv : decFrom 0 r with
    | none => rw [hv] at hd; cases hd
    | some v =>
      rw [hv] at hd
      simp only [Option.bind_some, decFrom] at hd
      cases hb2 : digitVal b with
      | none => rw [hb2] at hd; cases hd
      | some d =>
        rw [hb2] at hd
        simp only [Option.some.injEq] at hd
        obtain ⟨hd10, hbd⟩ := digit_to hb2
        by_cases hr0 : r = []
        · rw [hr0] at hv hlast
          simp only [decFrom, Option.some.injEq] at hv
          subst hv
          rw [← hlast, ← hd, decDigits, dif_pos (by omega), hbd]
          simp
        · have hhead : l.head? = r.head? := by rw [← hlast, head_app hr0]
          have hrp : 0 < r.length := List.length_pos_iff.2 hr0
          have ih := digits_dec n r v hrl hr0 (fun h => hh ⟨by rw [hhead]; exact h.1, by omega⟩) hv
          have hv1 : v ≠ 0 := fun hv0 => by
            refine hh ⟨?_, by omega⟩
            rw [hhead, ← ih, hv0, decDigits, dif_pos (by decide)]
            rfl
          rw [← hd, decDigits, dif_neg (by omega), show (v * 10 + d) / 10 = v by omega, show (v * 10 + d) % 10 = d by omega, ih, ← hbd, hlast]
/-- the number that a word is, of at most 9 digits -/
def wordN (l : List UInt8) : Option Nat := if l.length < 1 ∨ 9 < l.length ∨ (l.head? = some 48 ∧ 1 < l.length) then none else decFrom 0 l
/-- as the program asks -/
def progN (l : List UInt8) : Option Nat := match atoiAll l with
  | .ok v => if 0 ≤ v ∧ l.length ≤ 9 ∧ itoa v = l then some v.toNat else none
  | _ => none
theorem word_atoi {l : List UInt8} {u : Nat} (h : wordN l = some u) : atoiAll l = .ok (u : Int) ∧ itoa (u : Int) = l ∧ 1 ≤ l.length ∧ l.length ≤ 9 := by
  unfold wordN at h
  split at h
  · cases h
  · rename_i hc
    have h0 : l ≠ [] := fun h9 => hc (.inl (by rw [h9]; decide))
    have h1 := digits_dec l.length l u rfl h0 (fun h9 => hc (.inr (.inr h9))) h
    refine ⟨?_, by rw [itoa_nonneg]; exact h1, by omega, by omega⟩
    rw [atoiAll_short l (by omega)]
    cases l with
    | nil => exact absurd rfl h0
    | cons b r =>
      have hdig : ∃ d, digitVal b = some d := by
        simp only [decFrom] at h
        split at h
        · rename_i d hd; exact ⟨d, hd⟩
        · cases h
      obtain ⟨d, hd⟩ := hdig
      have hbn : 48 ≤ b.toNat := by
        unfold digitVal at hd
        split at hd
        · rename_i hx; exact hx.1
        · cases hd
      have n45 : (b == 45) = false := by
        rw [beq_eq_false_iff_ne]; intro h9; subst h9; simp at hbn
      have n43 : (b == 43) = false := by
        rw [beq_eq_false_iff_ne]; intro h9; subst h9; simp at hbn
      simp only [atoi, n45, n43, Bool.false_eq_true, if_false, decNat, List.isEmpty_cons, h]
      rfl
theorem progN_eq (l : List UInt8) : progN l = wordN l := by
  cases hw : wordN l with
  | some u =>
    obtain ⟨h1, h2, h3, h4⟩ := word_atoi hw
    unfold progN
    rw [h1]
    simp only
    rw [if_pos ⟨by omega, h4, h2⟩]
    simp
  | none =>
    unfold progN
    split
    · rename_i v hv
      by_cases hc : 0 ≤ v ∧ l.length ≤ 9 ∧ itoa v = l
      · exfalso
        obtain ⟨c1, c2, c3⟩ := hc
        obtain ⟨u, rfl⟩ : ∃ u : Nat, v = u := ⟨v.toNat, by omega⟩
        rw [itoa_nonneg] at c3
        have hpos := nDigits_pos u
        have hlen := decDigits_length u
        rw [c3] at hlen
        unfold wordN at hw
        rw [if_neg] at hw
        · rw [← c3, dec_digits] at hw; cases hw
        · rintro (h | h | ⟨h, h9⟩)
          · omega
          · omega
          · rw [← c3] at h
            have := dec_head u h
            subst this
            rw [← c3, decDigits, dif_pos (by decide)] at h9
            simp at h9
      · rw [if_neg hc]
    · rfl
end Go.Sas
namespace Go.Sas
open Go.Lib
/-- the parts between separators -/
def splitL (c : UInt8) : List UInt8 → List (List UInt8)
  | [] => [[]]
  | b :: r => if b = c then [] :: splitL c r else match splitL c r with
    | h :: t => (b :: h) :: t
    | [] => [[b]]
theorem splitL_ne {c : UInt8} : ∀ l, splitL c l ≠ []
  | [] => by simp [splitL]
  | b :: r => by
    simp only [splitL]
    split
    · simp
    · split <;> simp
theorem splitL_miss {c : UInt8} : ∀ {x : List UInt8}, (∀ b ∈ x, b ≠ c) → splitL c x = [x]
  | [], _ => rfl
  | b :: r, h => by
    simp only [splitL]
    rw [if_neg (h b (List.mem_cons_self ..)), splitL_miss fun y hy => h y (List.mem_cons_of_mem _ hy)]
theorem splitL_hit {c : UInt8} {r : List UInt8} : ∀ {x : List UInt8}, (∀ b ∈ x, b ≠ c) → splitL c (x ++ c :: r) = x :: splitL c r
  | [], _ => by simp [splitL]
  | b :: x, h => by
    simp only [List.cons_append, splitL]
    rw [if_neg (h b (List.mem_cons_self ..)), splitL_hit fun y hy => h y (List.mem_cons_of_mem _ hy)]
theorem splitL_len {c : UInt8} : ∀ l : List UInt8, (splitL c l).length = l.count c + 1
  | [] => rfl
  | b :: r => by
    have ih := splitL_len (c := c) r
    simp only [splitL, List.count_cons]
    split
    · rename_i h; subst h; simp [ih]
    · rename_i h
      have hb : (b == c) = false := by rw [beq_eq_false_iff_ne]; exact h
      rw [hb]
      split
      · rename_i hd tl he; rw [he] at ih; simpa using ih
      · rename_i he; exact absurd he (splitL_ne r)
theorem splitL_part {c : UInt8} : ∀ {l x : List UInt8}, x ∈ splitL c l → x.length ≤ l.length
  | [], x, h => by simp [splitL] at h; subst h; simp
  | b :: r, x, h => by
    simp only [splitL] at h
    split at h
    · rcases List.mem_cons.1 h with rfl | h
      · simp
      · have := splitL_part h; simp; omega
    · split at h
      · rename_i hd tl he
        rcases List.mem_cons.1 h with rfl | h
        · have := splitL_part (c := c) (l := r) (x := hd) (by rw [he]; exact List.mem_cons_self ..)
          simp; omega
        · have := splitL_part (c := c) (l := r) (x := x) (by rw [he]; exact List.mem_cons_of_mem _ h)
          simp; omega
      · rename_i he; exact absurd he (splitL_ne r)
end Go.Sas
namespace Go.Sas
open Go.Lib
/-! ### Joining again -/
def joinL (c : UInt8) : List (List UInt8) → List UInt8
  | [] => []
  | [x] => x
  | x :: y :: r => x ++ c :: joinL c (y :: r)
theorem joinL_cons {c : UInt8} {x : List UInt8} {r : List (List UInt8)} (h : r ≠ []) : joinL c (x :: r) = x ++ c :: joinL c r := by
  cases r with
  | nil => exact absurd rfl h
  | cons y r => rfl
theorem join_split {c : UInt8} : ∀ l : List UInt8, joinL c (splitL c l) = l
  | [] => rfl
  | b :: r => by
    have ih := join_split (c := c) r
    simp only [splitL]
    split
    · rename_i h
      rw [joinL_cons (splitL_ne r), ih, h]; rfl
    · cases hs : splitL c r with
      | nil => exact absurd hs (splitL_ne r)
      | cons h t =>
        rw [hs] at ih
        simp only
        cases t with
        | nil => simp only [joinL] at ih ⊢; rw [ih]
        | cons y t => simp only [joinL] at ih ⊢; rw [← ih]; rfl
theorem split_join {c : UInt8} : ∀ {ws : List (List UInt8)}, ws ≠ [] → (∀ x ∈ ws, ∀ b ∈ x, b ≠ c) → splitL c (joinL c ws) = ws
  | [], h, _ => absurd rfl h
  | [x], _, h => splitL_miss (h x (List.mem_cons_self ..))
  | x :: y :: r, _, h => by
    rw [joinL_cons (by simp), splitL_hit (h x (List.mem_cons_self ..)), split_join (by simp) fun z hz => h z (List.mem_cons_of_mem _ hz)]
/-! ### Rows of a word and numbers -/
/-- words behind the first one -/
def wordsB (l : List Int) : List (List UInt8) := l.map itoa
def rowL (word : List UInt8) (l : List Int) : List UInt8 := word ++ l.flatMap (fun n => 32 :: itoa n)
theorem rowL_join (word : List UInt8) : ∀ l : List Int, rowL word l = joinL 32 (word :: wordsB l) := by
  intro l
  induction l generalizing word with
  | nil => simp [rowL, wordsB, joinL]
  | cons n l ih =>
    have := ih (itoa n)
    simp only [rowL, List.flatMap_cons, wordsB, List.map_cons] at this ⊢
    rw [joinL_cons (by simp), ← this]
    simp
/-- numbers of a row, or none -/
def numsL (word : List UInt8) (many : Nat) (row : List UInt8) : Option (List Int) :=
  let w := splitL 32 row
  if w.length = many + 1 ∧ w.head? = some word then (w.tail.mapM wordN).map (·.map fun n : Nat => (n : Int)) else none
theorem itoa_dig {n : Int} (h : 0 ≤ n) : ∀ b ∈ itoa n, 48 ≤ b.toNat ∧ b.toNat ≤ 57 := by
  obtain ⟨u, rfl⟩ : ∃ u : Nat, n = u := ⟨n.toNat, by omega⟩
  rw [itoa_nonneg]
  induction u using Nat.strongRecOn with
  | _ u ih =>
    intro b hb
    by_cases hu : u < 10
    · rw [decDigits, dif_pos hu] at hb
      simp only [List.mem_singleton] at hb
      subst hb
      simp; omega
    · rw [decDigits, dif_neg hu] at hb
      rcases List.mem_append.1 hb with hb | hb
      · exact ih (u / 10) (by omega) (by omega) b hb
      · simp only [List.mem_singleton] at hb
        subst hb
        simp; omega
theorem nDigits_pow : ∀ (k u : Nat), u < 10 ^ (k + 1) → nDigits u ≤ k + 1
  | 0, u, h => by rw [nDigits_small (by simpa using h)]; exact Nat.le_refl _
  | k + 1, u, h => by
    by_cases hu : u < 10
    · rw [nDigits_small hu]; omega
    · rw [nDigits_big hu]
      have := nDigits_pow k (u / 10) (by rw [Nat.pow_succ] at h; omega)
      omega
theorem word_itoa {n : Int} (h : 0 ≤ n) (h9 : n < 1000000000) : wordN (itoa n) = some n.toNat := by
  obtain ⟨u, rfl⟩ : ∃ u : Nat, n = u := ⟨n.toNat, by omega⟩
  rw [itoa_nonneg]
  have hl := decDigits_length u
  have hp := nDigits_pos u
  have hn : nDigits u ≤ 9 := nDigits_pow 8 u (by omega)
  unfold wordN
  rw [if_neg, dec_digits]
  · simp
  · rintro (h | h | ⟨h, h2⟩)
    · omega
    · omega
    · have := dec_head u h
      subst this
      rw [decDigits, dif_pos (by decide)] at h2
      simp at h2
theorem wordN_itoa {l : List UInt8} {u : Nat} (h : wordN l = some u) : itoa (u : Int) = l := (word_atoi h).2.1
theorem mapM_words : ∀ {l : List Int}, (∀ n ∈ l, 0 ≤ n ∧ n < 1000000000) → (wordsB l).mapM wordN = some (l.map Int.toNat)
  | [], _ => rfl
  | n :: l, h => by
    have h1 := h n (List.mem_cons_self ..)
    have ih := mapM_words (l := l) fun m hm => h m (List.mem_cons_of_mem _ hm)
    unfold wordsB at ih ⊢
    simp only [List.map_cons, List.mapM_cons, word_itoa h1.1 h1.2, ih]
    rfl
theorem map_back : ∀ {l : List Int}, (∀ n ∈ l, 0 ≤ n ∧ n < 1000000000) → (l.map Int.toNat).map (fun n : Nat => (n : Int)) = l
  | [], _ => rfl
  | n :: l, h => by
    have h1 := h n (List.mem_cons_self ..)
    simp only [List.map_cons]
    rw [map_back fun m hm => h m (List.mem_cons_of_mem _ hm)]
    congr 1; omega
def Sep (word : List UInt8) : Prop := ∀ b ∈ word, b ≠ 32 ∧ b ≠ 10
theorem words_sep {word : List UInt8} (hw : Sep word) {l : List Int} (h : ∀ n ∈ l, 0 ≤ n ∧ n < 1000000000) : ∀ x ∈ word :: wordsB l, ∀ b ∈ x, b ≠ 32 ∧ b ≠ 10 := by
  intro x hx b hb
  rcases List.mem_cons.1 hx with rfl | hx
  · exact hw b hb
  · obtain ⟨n, hn, rfl⟩ := List.mem_map.1 hx
    have := itoa_dig (h n hn).1 b hb
    constructor
    · rintro rfl; simp at this
    · rintro rfl; simp at this
theorem nums_row {word : List UInt8} (hw : Sep word) {l : List Int} (h : ∀ n ∈ l, 0 ≤ n ∧ n < 1000000000) : numsL word l.length (rowL word l) = some l := by
  unfold numsL
  have hs : splitL 32 (rowL word l) = word :: wordsB l := by
    rw [rowL_join]
    exact split_join (by simp) fun x hx b hb => (words_sep hw h x hx b hb).1
  simp only [hs]
  rw [if_pos ⟨by simp [wordsB], rfl⟩, List.tail_cons, mapM_words h]
  simp only [Option.map_some]
  rw [map_back h]
theorem mapM_itoa : ∀ {ws : List (List UInt8)} {ns : List Nat}, ws.mapM wordN = some ns → ws = wordsB (ns.map fun n : Nat => (n : Int))
  | [], ns, h => by simp at h; subst h; rfl
  | w :: ws, ns, h => by
    simp only [List.mapM_cons, Option.pure_def, Option.bind_eq_bind, Option.bind_eq_some_iff, Option.some.injEq] at h
    obtain ⟨n, h1, ns', h2, rfl⟩ := h
    rw [mapM_itoa h2]
    simp [wordsB, wordN_itoa h1]
theorem mapM_len : ∀ {ws : List (List UInt8)} {ns : List Nat}, ws.mapM wordN = some ns → ns.length = ws.length
  | [], ns, h => by simp at h; subst h; rfl
  | w :: ws, ns, h => by
    simp only [List.mapM_cons, Option.pure_def, Option.bind_eq_bind, Option.bind_eq_some_iff, Option.some.injEq] at h
    obtain ⟨n, h1, ns', h2, rfl⟩ := h
    simp [mapM_len h2]
/-- what is read of a row is what a row of it says -/
theorem row_nums {word : List UInt8} {many : Nat} {row : List UInt8} {l : List Int} (h : numsL word many row = some l) : row = rowL word l ∧ l.length = many ∧ ∀ n ∈ l, 0 ≤ n := by
  unfold numsL at h
  simp only at h
  split at h
  · rename_i hc
    obtain ⟨h1, h2⟩ := hc
    rw [Option.map_eq_some_iff] at h
    obtain ⟨ns, h3, rfl⟩ := h
    cases hw : splitL 32 row with
    | nil => exact absurd hw (splitL_ne row)
    | cons x t =>
      rw [hw] at h1 h2 h3
      simp at h1 h2
      simp only [List.tail_cons] at h3
      refine ⟨?_, by rw [List.length_map, mapM_len h3]; exact h1, fun n hn => ?_⟩
      · rw [rowL_join, ← mapM_itoa h3, ← h2, ← hw, join_split]
      · obtain ⟨m, _, rfl⟩ := List.mem_map.1 hn
        exact Int.natCast_nonneg m
  · cases h
theorem rowL_no10 {word : List UInt8} (hw : Sep word) {l : List Int} (h : ∀ n ∈ l, 0 ≤ n) : ∀ b ∈ rowL word l, b ≠ 10 := by
  intro b hb
  unfold rowL at hb
  rcases List.mem_append.1 hb with hb | hb
  · exact (hw b hb).2
  · obtain ⟨n, hn, hb⟩ := List.mem_flatMap.1 hb
    rcases List.mem_cons.1 hb with rfl | hb
    · decide
    · have := itoa_dig (h n hn) b hb
      rintro rfl
      simp at this
/-! ### Rows of a text -/
theorem split_rows : ∀ {rows : List (List UInt8)}, (∀ x ∈ rows, ∀ b ∈ x, b ≠ 10) → splitL 10 (rows.flatMap fun r => r ++ [10]) = rows ++ [[]]
  | [], _ => rfl
  | x :: rows, h => by
    rw [List.flatMap_cons, List.append_assoc, List.singleton_append, splitL_hit (h x (List.mem_cons_self ..)), split_rows fun y hy => h y (List.mem_cons_of_mem _ hy)]
    rfl
theorem rows_text : ∀ {rs : List (List UInt8)}, joinL 10 (rs ++ [[]]) = rs.flatMap fun r => r ++ [10]
  | [] => rfl
  | x :: rs => by
    rw [List.cons_append, joinL_cons (by simp), rows_text, List.flatMap_cons]
    simp
theorem text_rows {text : List UInt8} {rs : List (List UInt8)} (h : splitL 10 text = rs ++ [[]]) : text = rs.flatMap fun r => r ++ [10] := by
  rw [← rows_text, ← h, join_split]
end Go.Sas
namespace Go.Sas
open Go.Lib
/-- an echo: its place, its hour, its time -/
structure Ech where
  p : Int
  h : Int
  lo : Int
  hi : Int
structure Trk where
  sp : Int × Int
  ec : List Ech
def radarW : List UInt8 := [114, 97, 100, 97, 114]
def echoW : List UInt8 := [101, 99, 104, 111]
theorem radar_sep : Sep radarW := by intro b hb; simp [radarW] at hb; rcases hb with rfl | rfl | rfl | rfl | rfl <;> decide
theorem echo_sep : Sep echoW := by intro b hb; simp [echoW] at hb; rcases hb with rfl | rfl | rfl | rfl <;> decide
def headT (t : Trk) : List UInt8 := rowL radarW [t.sp.1, t.sp.2]
def echR (e : Ech) : List UInt8 := rowL echoW [e.p, e.h, e.lo, e.hi]
def rowsT (t : Trk) : List (List UInt8) := headT t :: t.ec.map echR
def textT (t : Trk) : List UInt8 := (rowsT t).flatMap fun r => r ++ [10]
/-- a row that is taken, by its place -/
def stepT (t : Trk) : Nat → List UInt8 → Option Trk
  | 0, row => match numsL radarW 2 row with
    | some [a, b] => some { t with sp := (a, b) }
    | _ => none
  | _ + 1, row => match numsL echoW 4 row with
    | some [a, b, c, d] => some { t with ec := t.ec ++ [⟨a, b, c, d⟩] }
    | _ => none
def takeT : Trk → Nat → List (List UInt8) → Trk × Nat
  | t, _, [] => (t, 0)
  | t, n, r :: rs => match stepT t n r with
    | some u => takeT u (n + 1) rs
    | none => (t, n + 1)
def trk0 : Trk := ⟨(0, 0), []⟩
def readT (eL eF : Int) (check : Trk → Int) (most : Nat) (text : List UInt8) : Trk × Int × Int :=
  if most < text.length then (trk0, 0, eL) else
  let rows := splitL 10 text
  let r := takeT trk0 0 rows.dropLast
  if r.2 ≠ 0 then (trk0, (r.2 : Int), eF) else
  if rows.length = 1 ∨ rows.getLast? ≠ some [] then (trk0, (rows.length : Int), eF) else
  if check r.1 ≠ 0 then (trk0, 0, check r.1) else (r.1, 0, 0)
theorem stepT_some {t u : Trk} {n : Nat} {row : List UInt8} (h : stepT t (n + 1) row = some u) : rowsT u = rowsT t ++ [row] := by
  simp only [stepT] at h
  split at h
  · rename_i a b c d hn
    cases h
    rw [(row_nums hn).1]
    simp [rowsT, headT, echR]
  · cases h
theorem takeT_more {u : Trk} : ∀ {rs : List (List UInt8)} {t : Trk} {n : Nat}, takeT t (n + 1) rs = (u, 0) → rowsT u = rowsT t ++ rs
  | [], t, n, h => by simp [takeT] at h; subst h; simp
  | r :: rs, t, n, h => by
    simp only [takeT] at h
    split at h
    · rename_i t2 hm
      rw [takeT_more h, stepT_some hm]; simp
    · cases h
theorem takeT_all {u : Trk} {rs : List (List UInt8)} (h : takeT trk0 0 rs = (u, 0)) (hne : rs ≠ []) : rs = rowsT u := by
  cases rs with
  | nil => exact absurd rfl hne
  | cons r rs =>
    simp only [takeT] at h
    split at h
    · rename_i t hf
      simp only [stepT] at hf
      split at hf
      · rename_i a b hn
        cases hf
        rw [takeT_more h, (row_nums hn).1]
        simp [rowsT, headT, trk0]
      · cases hf
    · cases h
/-- a text that is read is the file of what it gives -/
theorem read_textT {eL eF : Int} {check : Trk → Int} {most : Nat} {text : List UInt8} {t : Trk} {row : Int} (he : eL ≠ 0) (hf : eF ≠ 0) (h : readT eL eF check most text = (t, row, 0)) : textT t = text ∧ check t = 0 := by
  unfold readT at h
  split at h
  · simp at h; exact absurd h.2.2 he
  simp only at h
  split at h
  · simp at h; exact absurd h.2.2 hf
  rename_i h1
  split at h
  · simp at h; exact absurd h.2.2 hf
  rename_i h2
  split at h
  · rename_i h3; simp only [Prod.mk.injEq] at h; exact absurd h.2.2 h3
  rename_i h3
  simp only [Prod.mk.injEq] at h
  obtain ⟨hfr, _, _⟩ := h
  have h1 : (takeT trk0 0 (splitL 10 text).dropLast).2 = 0 := Decidable.not_not.1 h1
  have hg : takeT trk0 0 (splitL 10 text).dropLast = (t, 0) := Prod.ext hfr h1
  have hl : (splitL 10 text).getLast? = some [] := Decidable.not_not.1 fun h => h2 (.inr h)
  have hne := splitL_ne (c := 10) text
  have hsp : splitL 10 text = (splitL 10 text).dropLast ++ [[]] := by
    have := List.dropLast_concat_getLast hne
    rw [List.getLast?_eq_some_getLast hne] at hl
    rw [Option.some.inj hl] at this
    exact this.symm
  have hd : (splitL 10 text).dropLast ≠ [] := fun h => h2 (.inl (by rw [hsp, h]; rfl))
  refine ⟨?_, by rw [← hfr]; exact Decidable.not_not.1 h3⟩
  rw [textT, ← takeT_all hg hd]
  exact (text_rows hsp).symm
def NbT (n : Int) : Prop := 0 ≤ n ∧ n < 1000000000
structure TrkN (t : Trk) : Prop where
  a : NbT t.sp.1
  b : NbT t.sp.2
  es : ∀ e ∈ t.ec, NbT e.p ∧ NbT e.h ∧ NbT e.lo ∧ NbT e.hi
theorem takeT_echs : ∀ {es : List Ech} {t : Trk} {n : Nat}, (∀ e ∈ es, NbT e.p ∧ NbT e.h ∧ NbT e.lo ∧ NbT e.hi) → takeT t (n + 1) (es.map echR) = ({ t with ec := t.ec ++ es }, 0)
  | [], t, n, _ => by simp [takeT]
  | e :: es, t, n, h => by
    obtain ⟨h1, h2, h3, h4⟩ := h e (List.mem_cons_self ..)
    have hb : ∀ n ∈ [e.p, e.h, e.lo, e.hi], 0 ≤ n ∧ n < 1000000000 := by
      intro n hn; simp at hn; rcases hn with rfl | rfl | rfl | rfl <;> assumption
    have e2 : numsL echoW 4 (echR e) = some [e.p, e.h, e.lo, e.hi] := nums_row echo_sep hb
    have e3 : stepT t (n + 1) (echR e) = some { t with ec := t.ec ++ [e] } := by simp only [stepT]; rw [e2]
    simp only [List.map_cons, takeT, e3]
    rw [takeT_echs fun x hx => h x (List.mem_cons_of_mem _ hx)]
    simp
theorem rowsT_no10 {t : Trk} (h : TrkN t) : ∀ r ∈ rowsT t, ∀ b ∈ r, b ≠ 10 := by
  intro r hr
  unfold rowsT at hr
  rcases List.mem_cons.1 hr with rfl | hr
  · exact rowL_no10 radar_sep (by intro n hn; simp at hn; rcases hn with rfl | rfl; exact h.a.1; exact h.b.1)
  · obtain ⟨e, he, rfl⟩ := List.mem_map.1 hr
    have := h.es e he
    exact rowL_no10 echo_sep (by intro n hn; simp at hn; rcases hn with rfl | rfl | rfl | rfl; exact this.1.1; exact this.2.1.1; exact this.2.2.1.1; exact this.2.2.2.1)
/-- a track's file gives the track -/
theorem text_readT {eL eF : Int} {check : Trk → Int} {most : Nat} {t : Trk} (h : TrkN t) (hc : check t = 0) (hm : (textT t).length ≤ most) : readT eL eF check most (textT t) = (t, 0, 0) := by
  have hs : splitL 10 (textT t) = rowsT t ++ [[]] := split_rows (rowsT_no10 h)
  have hb : ∀ n ∈ [t.sp.1, t.sp.2], 0 ≤ n ∧ n < 1000000000 := by
    intro n hn; simp at hn; rcases hn with rfl | rfl; exact h.a; exact h.b
  have e1 : stepT trk0 0 (headT t) = some ⟨t.sp, []⟩ := by
    simp only [stepT]
    have : numsL radarW 2 (headT t) = some [t.sp.1, t.sp.2] := nums_row radar_sep hb
    rw [this]; rfl
  have ht : takeT trk0 0 (rowsT t) = (t, 0) := by
    unfold rowsT
    simp only [takeT, e1]
    rw [takeT_echs h.es]
    simp
  unfold readT
  rw [if_neg (by omega)]
  simp only [hs, List.dropLast_concat, ht]
  rw [if_neg (by simp), if_neg, if_neg (by simp [hc])]
  rintro (h | h)
  · simp [rowsT] at h
  · simp at h
end Go.Sas
