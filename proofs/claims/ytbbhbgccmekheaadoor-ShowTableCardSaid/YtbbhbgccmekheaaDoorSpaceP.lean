/- A space's words and its sectors: the plain laws. -/
import Derived.WalkKit
import Derived.Lib.TrailingZeros
import Derived.Lib.ItoaNum
namespace Bst
open Go
set_option linter.unusedVariables false
set_option linter.unusedSimpArgs false

/-- How many sectors are free. -/
def freeN : List Bool → Nat
  | [] => 0
  | b :: l => (if b then 0 else 1) + freeN l
theorem freeN_le (l : List Bool) : freeN l ≤ l.length := by
  induction l with
  | nil => simp [freeN]
  | cons b l ih => simp only [freeN, List.length_cons]; split <;> omega
theorem freeN_replicate (n : Nat) : freeN (List.replicate n false) = n := by
  induction n with
  | zero => rfl
  | succ n ih => simp [List.replicate_succ, freeN, ih]; omega
theorem freeN_set_true (l : List Bool) (k : Nat) (hk : k < l.length) (h : l[k] = false) : freeN (l.set k true) + 1 = freeN l := by
  induction l generalizing k with
  | nil => simp at hk
  | cons b l ih =>
    cases k with
    | zero => simp at h; subst h; simp [freeN]; omega
    | succ k => simp at h hk; have := ih k hk h; simp [freeN]; omega
theorem freeN_set_false (l : List Bool) (k : Nat) (hk : k < l.length) (h : l[k] = true) : freeN (l.set k false) = freeN l + 1 := by
  induction l generalizing k with
  | nil => simp at hk
  | cons b l ih =>
    cases k with
    | zero => simp at h; subst h; simp [freeN]; omega
    | succ k => simp at h hk; have := ih k hk h; simp [freeN]; omega
theorem freeN_pos (l : List Bool) (k : Nat) (hk : k < l.length) (h : l[k] = false) : 0 < freeN l := by
  have := freeN_set_true l k hk h; omega
/-- A sector, turned. -/
def flip (l : List Bool) (k : Nat) : List Bool := l.set k (!l.getD k false)
theorem flip_length (l : List Bool) (k : Nat) : (flip l k).length = l.length := by simp [flip]
theorem flip_getD (l : List Bool) (k j : Nat) (hk : k < l.length) : (flip l k).getD j false = if k = j then !l.getD k false else l.getD j false := by
  simp only [flip, List.getD_eq_getElem?_getD, List.getElem?_set]
  split
  · rename_i h; subst h; simp [hk]
  · rfl
theorem freeN_flip (l : List Bool) (k : Nat) (hk : k < l.length) : (freeN (flip l k) : Int) = if l.getD k false then (freeN l : Int) + 1 else (freeN l : Int) - 1 := by
  unfold flip
  by_cases h : l[k] = true
  · have e : l.getD k false = true := by simp [List.getD_eq_getElem?_getD, hk, h]
    rw [e]; have := freeN_set_false l k hk h; simp; omega
  · have h' : l[k] = false := by simpa using h
    have e : l.getD k false = false := by simp [List.getD_eq_getElem?_getD, hk, h']
    rw [e]; have := freeN_set_true l k hk h'; simp; omega
theorem flip_flip (l : List Bool) (k : Nat) : flip (flip l k) k = l := by
  unfold flip
  by_cases hk : k < l.length
  · simp [List.getD_eq_getElem?_getD, hk]
  · rw [List.set_eq_of_length_le (by simp; omega), List.set_eq_of_length_le (by omega)]

/-- The words of sectors: bit j of word i is sector 64 i + j. -/
structure Words (ws : List Nat) (T : List Bool) : Prop where
  len : ws.length = (T.length + 63) / 64
  lt : ∀ i, i < ws.length → ws.getD i 0 < 18446744073709551616
  bit : ∀ i, i < ws.length → ∀ j, j < 64 → (ws.getD i 0).testBit j = T.getD (64 * i + j) false
theorem Words.has {ws : List Nat} {T : List Bool} (h : Words ws T) {k : Nat} (hk : k < T.length) : (ws.getD (k / 64) 0).testBit (k % 64) = T.getD k false := by
  have := h.bit (k / 64) (by rw [h.len]; omega) (k % 64) (by omega)
  rw [this]; congr 1; omega
theorem Words.flip {ws : List Nat} {T : List Bool} (h : Words ws T) {k : Nat} (hk : k < T.length) :
    Words (ws.set (k / 64) (ws.getD (k / 64) 0 ^^^ 2 ^ (k % 64))) (flip T k) := by
  have hi : k / 64 < ws.length := by rw [h.len]; omega
  have hg : ∀ i, (ws.set (k / 64) (ws.getD (k / 64) 0 ^^^ 2 ^ (k % 64))).getD i 0 = if k / 64 = i then ws.getD (k / 64) 0 ^^^ 2 ^ (k % 64) else ws.getD i 0 := by
    intro i
    simp only [List.getD_eq_getElem?_getD, List.getElem?_set]
    split
    · rename_i e; subst e; simp [hi]
    · rfl
  refine ⟨by simp [h.len, flip_length], fun i hl => ?_, fun i hl j hj => ?_⟩
  · rw [hg]
    split
    · have := Nat.xor_lt_two_pow (n := 64) (x := ws.getD (k / 64) 0) (y := 2 ^ (k % 64)) (h.lt _ hi) (Nat.pow_lt_pow_right (by omega) (by omega))
      simpa using this
    · exact h.lt i (by simpa using hl)
  · rw [hg, flip_getD _ _ _ hk]
    by_cases e : k / 64 = i
    · subst e
      rw [if_pos rfl, Nat.testBit_xor, h.bit _ hi j hj, Nat.testBit_two_pow]
      by_cases e2 : k % 64 = j
      · subst e2
        rw [if_pos (by omega)]
        simp
        congr 2; omega
      · rw [if_neg (by omega)]; simp [e2]
    · rw [if_neg e, if_neg (by omega)]
      exact h.bit i (by simpa using hl) j hj
theorem shr_and_one (x k : Nat) (hx : x < 18446744073709551616) :
    (bits .and .u64 ((x : Int) / 2 ^ k) 1 == 0) = !x.testBit k := by
  have e : ((x : Int) / 2 ^ k) = ((x / 2 ^ k : Nat) : Int) := by simp
  have hlt : x / 2 ^ k < 18446744073709551616 := Nat.lt_of_le_of_lt (Nat.div_le_self _ _) hx
  have e1 := u64_and_nat (x / 2 ^ k) 1 hlt (by decide)
  rw [e]
  simp only [Int.natCast_one] at e1
  rw [e1, Nat.testBit_eq_decide_div_mod_eq, Nat.and_one_is_mod]
  have h2 : x / 2 ^ k % 2 = 0 ∨ x / 2 ^ k % 2 = 1 := by omega
  rcases h2 with h2 | h2 <;> simp [h2]
theorem xor_shl (x k : Nat) (hx : x < 18446744073709551616) (hk : k < 64) :
    bits .xor .u64 (x : Int) (IntKind.u64.wrap (2 ^ k)) = ((x ^^^ 2 ^ k : Nat) : Int) := by
  have h2 : 2 ^ k < 18446744073709551616 := by
    have := Nat.pow_lt_pow_right (a := 2) (m := k) (n := 64) (by omega) hk
    simpa using this
  have e : IntKind.u64.wrap (2 ^ k) = ((2 ^ k : Nat) : Int) := by
    rw [IntKind.wrap_u64]
    have : ((2 : Int) ^ k) = ((2 ^ k : Nat) : Int) := by simp
    rw [this]
    generalize 2 ^ k = y at h2
    omega
  rw [e, u64_xor_nat x _ hx h2]

/-- The lowest free sector. -/
def firstFree (T : List Bool) : Nat := T.findIdx (fun b => !b)
theorem firstFree_lt {T : List Bool} (h : 0 < freeN T) : firstFree T < T.length := by
  unfold firstFree
  rw [List.findIdx_lt_length]
  induction T with
  | nil => simp [freeN] at h
  | cons b l ih =>
    cases b
    · exact ⟨false, by simp, rfl⟩
    · obtain ⟨x, hx, h2⟩ := ih (by simpa [freeN] using h)
      exact ⟨x, by simp [hx], h2⟩
theorem firstFree_eq {T : List Bool} {n : Nat} (hn : n < T.length) (h : T.getD n false = false) (hlow : ∀ j, j < n → T.getD j false = true) : firstFree T = n := by
  unfold firstFree
  rw [List.findIdx_eq hn]
  refine ⟨by simpa [List.getD_eq_getElem?_getD, hn] using h, fun j hj => ?_⟩
  have := hlow j hj
  simpa [List.getD_eq_getElem?_getD, show j < T.length by omega] using this
theorem getD_firstFree {T : List Bool} (h : firstFree T < T.length) : T.getD (firstFree T) false = false := by
  have h2 : (!T[firstFree T]) = true := List.findIdx_getElem (xs := T) (p := fun b => !b) (w := h)
  rw [List.getD_eq_getElem?_getD, List.getElem?_eq_getElem h, Option.getD_some]
  revert h2
  cases T[firstFree T] <;> simp
theorem freeN_zero_of {T : List Bool} (h : ∀ j, j < T.length → T.getD j false = true) : freeN T = 0 := by
  induction T with
  | nil => rfl
  | cons b l ih =>
    have h0 := h 0 (by simp)
    simp at h0; subst h0
    simp only [freeN, if_true, Nat.zero_add]
    exact ih fun j hj => by simpa using h (j + 1) (by simpa using hj)
/-- The lowest k free sectors, and the sectors behind it. -/
def takeS : List Bool → Nat → List Int × List Bool
  | T, 0 => ([], T)
  | T, k + 1 => ((firstFree T : Int) :: (takeS (flip T (firstFree T)) k).1, (takeS (flip T (firstFree T)) k).2)
theorem freeN_flip_first {T : List Bool} (h : 0 < freeN T) : freeN (flip T (firstFree T)) + 1 = freeN T := by
  have h1 := freeN_flip T (firstFree T) (firstFree_lt h)
  rw [getD_firstFree (firstFree_lt h)] at h1
  simp at h1; omega
theorem takeS_length (T : List Bool) (k : Nat) : (takeS T k).1.length = k := by
  induction k generalizing T with
  | zero => rfl
  | succ k ih => simp [takeS, ih]
theorem takeS_len2 (T : List Bool) (k : Nat) : (takeS T k).2.length = T.length := by
  induction k generalizing T with
  | zero => rfl
  | succ k ih => simp [takeS, ih, flip_length]
theorem takeS_free (T : List Bool) (k : Nat) (h : k ≤ freeN T) : freeN (takeS T k).2 + k = freeN T := by
  induction k generalizing T with
  | zero => rfl
  | succ k ih =>
    have h1 := freeN_flip_first (T := T) (by omega)
    have := ih (flip T (firstFree T)) (by omega)
    simp only [takeS]; omega
theorem takeS_mem (T : List Bool) (k : Nat) (h : k ≤ freeN T) : ∀ x ∈ (takeS T k).1, 0 ≤ x ∧ x < T.length := by
  induction k generalizing T with
  | zero => intro x hx; simp [takeS] at hx
  | succ k ih =>
    intro x hx
    have h1 := freeN_flip_first (T := T) (by omega)
    have h2 := firstFree_lt (T := T) (by omega)
    simp only [takeS, List.mem_cons] at hx
    rcases hx with rfl | hx
    · omega
    · have := ih (flip T (firstFree T)) (by omega) x hx
      rw [flip_length] at this; exact this
theorem ctz_spec (y : Nat) (h0 : y ≠ 0) (h : y < 18446744073709551616) : Lib.ctz 64 y < 64 ∧ y.testBit (Lib.ctz 64 y) = true ∧ ∀ j, j < Lib.ctz 64 y → y.testBit j = false := by
  obtain ⟨m, hm, hlt⟩ := Lib.ctzFrom_spec 64 y (by omega) (by simpa using h)
  have e : Lib.ctz 64 y = Lib.ctzFrom 64 y := by simp [Lib.ctz, h0]
  rw [e]
  generalize Lib.ctzFrom 64 y = c at *
  subst hm
  refine ⟨hlt, ?_, fun j hj => ?_⟩
  · rw [Nat.testBit_two_pow_mul]; simp
  · rw [Nat.testBit_two_pow_mul]; simp; omega
theorem testBit_not (x j : Nat) (hx : x < 18446744073709551616) (hj : j < 64) : (18446744073709551615 - x).testBit j = !x.testBit j := by
  have := Nat.testBit_two_pow_sub_succ (n := 64) (x := x) (by simpa using hx) j
  have e : 2 ^ 64 - (x + 1) = 18446744073709551615 - x := by omega
  rw [e] at this
  rw [this]; simp [hj]
/-- What the lowest bit that is 0 of a word says, where all below the word are taken, and some are free. -/
theorem first_of_word {T : List Bool} {i x : Nat} (hx : x < 18446744073709551616) (hbit : ∀ j, j < 64 → x.testBit j = T.getD (64 * i + j) false) (hlow : ∀ j, j < 64 * i → T.getD j false = true)
    (hfree : 0 < freeN T) (hne : 18446744073709551615 - x ≠ 0) : firstFree T = 64 * i + Lib.ctz 64 (18446744073709551615 - x) := by
  obtain ⟨h1, h2, h3⟩ := ctz_spec (18446744073709551615 - x) hne (by omega)
  generalize Lib.ctz 64 (18446744073709551615 - x) = c at *
  have a2 : T.getD (64 * i + c) false = false := by
    rw [testBit_not x c hx h1] at h2
    rw [← hbit c h1]; simpa using h2
  have a3 : ∀ j, j < 64 * i + c → T.getD j false = true := fun j hj => by
    by_cases hj2 : j < 64 * i
    · exact hlow j hj2
    · have := h3 (j - 64 * i) (by omega)
      rw [testBit_not x _ hx (by omega), hbit _ (by omega)] at this
      rw [show 64 * i + (j - 64 * i) = j by omega] at this
      simpa using this
  refine firstFree_eq ?_ a2 a3
  rcases Nat.lt_or_ge (64 * i + c) T.length with h | h
  · exact h
  · have := freeN_zero_of (T := T) (fun j hj => a3 j (by omega))
    omega
theorem full_word {T : List Bool} {i x : Nat} (hx : x < 18446744073709551616) (hbit : ∀ j, j < 64 → x.testBit j = T.getD (64 * i + j) false) (hlow : ∀ j, j < 64 * i → T.getD j false = true)
    (he : 18446744073709551615 - x = 0) : ∀ j, j < 64 * (i + 1) → T.getD j false = true := by
  intro j hj
  by_cases hj2 : j < 64 * i
  · exact hlow j hj2
  · have := hbit (j - 64 * i) (by omega)
    rw [show 64 * i + (j - 64 * i) = j by omega] at this
    rw [← this]
    have h2 := testBit_not x (j - 64 * i) hx (by omega)
    rw [he] at h2
    simpa using h2.symm
theorem word_in {T : List Bool} {i : Nat} (hlow : ∀ j, j < 64 * i → T.getD j false = true) (hfree : 0 < freeN T) : i < (T.length + 63) / 64 := by
  rcases Nat.lt_or_ge i ((T.length + 63) / 64) with h | h
  · exact h
  · have := freeN_zero_of (T := T) (fun j hj => hlow j (by omega))
    omega
theorem not64 (x : Nat) (hx : x < 18446744073709551616) :
    bits .xor .u64 (if IntKind.u64.signed = true then -1 else IntKind.u64.max) (x : Int) = ((18446744073709551615 - x : Nat) : Int) := by
  have e : (if IntKind.u64.signed = true then (-1 : Int) else IntKind.u64.max) = ((18446744073709551615 : Nat) : Int) := by decide
  rw [e, u64_xor_nat _ x (by omega) hx]
  congr 1
  have h1 := Nat.testBit_two_pow_sub_succ (n := 64) (x := x) (by simpa using hx)
  have e2 : 2 ^ 64 - (x + 1) = 18446744073709551615 - x := by omega
  rw [e2] at h1
  apply Nat.eq_of_testBit_eq
  intro i
  rw [h1 i, Nat.testBit_xor]
  have e3 : (18446744073709551615 : Nat) = 2 ^ 64 - 1 := by decide
  rw [e3, Nat.testBit_two_pow_sub_one]
  by_cases hi : i < 64
  · simp [hi]
  · have : x.testBit i = false := Nat.testBit_lt_two_pow (Nat.lt_of_lt_of_le (by simpa using hx) (Nat.pow_le_pow_right (n := 2) (i := 64) (j := i) (by omega) (by omega)))
    simp [hi, this]
theorem take_step {T' : List Bool} {l : List Int} {k nf : Nat} {X : List Int} {Y : List Bool} (hlt : l.length < k) (hnf : firstFree T' = nf) (h1 : l ++ (takeS T' (k - l.length)).1 = X) (h2 : (takeS T' (k - l.length)).2 = Y) :
    (l ++ [(nf : Int)]) ++ (takeS (flip T' nf) (k - (l ++ [(nf : Int)]).length)).1 = X ∧ (takeS (flip T' nf) (k - (l ++ [(nf : Int)]).length)).2 = Y := by
  have e : k - l.length = (k - (l ++ [(nf : Int)]).length) + 1 := by simp; omega
  rw [e] at h1 h2
  simp only [takeS, hnf] at h1 h2
  exact ⟨by rw [List.append_assoc]; exact h1, h2⟩
theorem low_flip {T : List Bool} {n i : Nat} (hn : n < T.length) (hlow : ∀ j, j < i → T.getD j false = true) (hf : T.getD n false = false) : ∀ j, j < i → (flip T n).getD j false = true := by
  intro j hj
  rw [flip_getD _ _ _ hn]
  split
  · rename_i e; subst e; rw [hf]; rfl
  · exact hlow j hj

/-! Sectors turned, one after the other. -/
def flips (T : List Bool) (p : List Int) : List Bool := p.foldl (fun T n => flip T n.toNat) T
theorem flips_snoc (T : List Bool) (p : List Int) (n : Int) : flips T (p ++ [n]) = flip (flips T p) n.toNat := by simp [flips]
theorem flips_cons (T : List Bool) (p : List Int) (n : Int) : flips T (n :: p) = flips (flip T n.toNat) p := rfl
theorem flips_length (T : List Bool) (p : List Int) : (flips T p).length = T.length := by
  induction p generalizing T with
  | nil => rfl
  | cons n p ih => rw [flips_cons, ih, flip_length]
theorem flip_comm (T : List Bool) (a b : Nat) : flip (flip T a) b = flip (flip T b) a := by
  by_cases h : a = b
  · subst h; rfl
  · unfold flip
    rw [List.set_comm _ _ h]
    congr 1
    · congr 1
      simp [List.getD_eq_getElem?_getD, List.getElem?_set, h]
    · simp [List.getD_eq_getElem?_getD, List.getElem?_set, Ne.symm h]
theorem flip_flips (T : List Bool) (a : Nat) (p : List Int) : flip (flips T p) a = flips (flip T a) p := by
  induction p generalizing T with
  | nil => rfl
  | cons n p ih => rw [flips_cons, flips_cons, ih, flip_comm]
theorem flips_flips (T : List Bool) (p : List Int) : flips (flips T p) p = T := by
  induction p generalizing T with
  | nil => rfl
  | cons n p ih => rw [flips_cons, flips_cons, flip_flips, flip_flip, ih]
theorem flips_getD (T : List Bool) (p : List Int) (hr : ∀ n ∈ p, 0 ≤ n ∧ n < T.length) (hd : p.Nodup) (k : Nat) :
    (flips T p).getD k false = if (k : Int) ∈ p then !T.getD k false else T.getD k false := by
  induction p generalizing T with
  | nil => simp [flips]
  | cons n p ih =>
    have hn := hr n (by simp)
    rw [flips_cons, ih _ (fun m hm => by rw [flip_length]; exact hr m (by simp [hm])) (List.nodup_cons.1 hd).2, flip_getD _ _ _ (by omega)]
    have hnp := (List.nodup_cons.1 hd).1
    by_cases e : n.toNat = k
    · have e' : (k : Int) = n := by omega
      rw [e', if_neg hnp, if_pos e, if_pos (by simp), e]
    · have e' : (k : Int) ≠ n := by omega
      rw [if_neg e]
      simp [e']
/-- The first i of these may be turned. -/
def Upto (T : List Bool) (l : List Int) (was : Bool) (i : Nat) : Prop :=
  (∀ n ∈ l.take i, 0 ≤ n ∧ n < T.length ∧ T.getD n.toNat false = was) ∧ (l.take i).Nodup
abbrev TurnOk (T : List Bool) (l : List Int) (was : Bool) : Prop := (∀ n ∈ l, 0 ≤ n ∧ n < T.length ∧ T.getD n.toNat false = was) ∧ l.Nodup
theorem upto_zero (T : List Bool) (l : List Int) (was : Bool) : Upto T l was 0 := ⟨by simp, by simp⟩
theorem upto_all {T : List Bool} {l : List Int} {was : Bool} {i : Nat} (hi : l.length ≤ i) : Upto T l was i ↔ TurnOk T l was := by
  unfold Upto; rw [List.take_of_length_le hi]
theorem upto_mono {T : List Bool} {l : List Int} {was : Bool} (h : TurnOk T l was) (i : Nat) : Upto T l was i :=
  ⟨fun n hn => h.1 n (List.mem_of_mem_take hn), h.2.sublist (List.take_sublist i l)⟩
theorem upto_succ {T : List Bool} {l : List Int} {was : Bool} {i : Nat} (hi : i < l.length) :
    Upto T l was (i + 1) ↔ Upto T l was i ∧ (0 ≤ l[i] ∧ l[i] < T.length ∧ T.getD l[i].toNat false = was) ∧ l[i] ∉ l.take i := by
  have e : l.take (i + 1) = l.take i ++ [l[i]] := List.take_succ_eq_append_getElem hi
  unfold Upto
  rw [e, List.nodup_append]
  constructor
  · rintro ⟨h1, h2, h3, h4⟩
    refine ⟨⟨fun n hn => h1 n (List.mem_append.2 (.inl hn)), h2⟩, h1 _ (List.mem_append.2 (.inr (List.mem_singleton.2 rfl))), fun hm => h4 _ hm _ (List.mem_singleton.2 rfl) rfl⟩
  · rintro ⟨⟨h1, h2⟩, h3, h4⟩
    refine ⟨fun n hn => ?_, h2, by simp, fun a ha b hb => ?_⟩
    · rcases List.mem_append.1 hn with h | h
      · exact h1 n h
      · simp at h; subst h; exact h3
    · simp at hb; subst hb; rintro rfl; exact h4 ha
/-- Whether the next one may be turned, asked of the sectors as they stand by then. -/
theorem upto_next {T : List Bool} {l : List Int} {was : Bool} {i : Nat} (hi : i < l.length) (h : Upto T l was i) (h0 : 0 ≤ l[i]) (h1 : l[i] < T.length) :
    Upto T l was (i + 1) ↔ (flips T (l.take i)).getD l[i].toNat false = was := by
  rw [upto_succ hi, flips_getD T _ (fun n hn => ⟨(h.1 n hn).1, (h.1 n hn).2.1⟩) h.2]
  have e : ((l[i].toNat : Nat) : Int) = l[i] := by omega
  rw [e]
  by_cases hm : l[i] ∈ l.take i
  · have h3 := (h.1 _ hm).2.2
    rw [if_pos hm, h3]
    simp [hm]
  · rw [if_neg hm]
    simp [hm, h, h0, h1]
theorem not_upto {T : List Bool} {l : List Int} {was : Bool} {i : Nat} (h : ¬ Upto T l was i) : ¬ TurnOk T l was := fun hh => h (upto_mono hh i)
/-- What is answered, and the sectors behind it. -/
def turnS (T : List Bool) (l : List Int) (was : Bool) : Int × List Bool :=
  open Classical in if TurnOk T l was then (0, flips T l) else (2, T)
theorem turnS_yes {T : List Bool} {l : List Int} {was : Bool} (h : TurnOk T l was) : turnS T l was = (0, flips T l) := if_pos h
theorem turnS_no {T : List Bool} {l : List Int} {was : Bool} (h : ¬ TurnOk T l was) : turnS T l was = (2, T) := if_neg h
theorem turnS_length (T : List Bool) (l : List Int) (was : Bool) : (turnS T l was).2.length = T.length := by
  unfold turnS; split
  · exact flips_length T l
  · rfl

/-! Bits of a number, from the lowest on; the bytes of sectors. -/
def bitsN (f : Nat → Bool) : Nat → Nat
  | 0 => 0
  | n + 1 => 2 * bitsN (fun j => f (j + 1)) n + (f 0).toNat
theorem bitsN_lt (f : Nat → Bool) (n : Nat) : bitsN f n < 2 ^ n := by
  induction n generalizing f with
  | zero => simp [bitsN]
  | succ n ih => have := ih (fun j => f (j + 1)); have := Bool.toNat_le (f 0); simp only [bitsN, Nat.pow_succ]; omega
theorem testBit_bitsN (f : Nat → Bool) (n j : Nat) : (bitsN f n).testBit j = (decide (j < n) && f j) := by
  induction n generalizing f j with
  | zero => simp [bitsN]
  | succ n ih =>
    have hb : (f 0).toNat < 2 := Bool.toNat_lt (f 0)
    cases j with
    | zero =>
      rw [Nat.testBit_zero]
      cases h : f 0 <;> simp [bitsN, h] <;> omega
    | succ j =>
      rw [Nat.testBit_succ]
      have e : bitsN f (n + 1) / 2 = bitsN (fun j => f (j + 1)) n := by simp only [bitsN]; omega
      rw [e, ih]; simp
theorem bitsN_congr {f g : Nat → Bool} {n : Nat} (h : ∀ j, j < n → f j = g j) : bitsN f n = bitsN g n := by
  apply Nat.eq_of_testBit_eq
  intro j
  rw [testBit_bitsN, testBit_bitsN]
  by_cases hj : j < n
  · rw [h j hj]
  · simp [hj]
/-- The i-th byte of sectors. -/
def byteN (T : List Bool) (i : Nat) : Nat := bitsN (fun j => T.getD (8 * i + j) false) 8
theorem byteN_lt (T : List Bool) (i : Nat) : byteN T i < 256 := bitsN_lt _ 8
/-- The bytes of sectors. -/
def bytesS (T : List Bool) : List UInt8 := (List.range ((T.length + 7) / 8)).map fun i => UInt8.ofNat (byteN T i)
theorem bytesS_length (T : List Bool) : (bytesS T).length = (T.length + 7) / 8 := by simp [bytesS]
theorem bytesS_take_succ (T : List Bool) (k : Nat) (hk : k < (T.length + 7) / 8) : (bytesS T).take (k + 1) = (bytesS T).take k ++ [UInt8.ofNat (byteN T k)] := by
  rw [List.take_succ_eq_append_getElem (by rw [bytesS_length]; exact hk)]
  simp [bytesS]
theorem byte_of_word {T : List Bool} {x i : Nat} (hbit : ∀ j, j < 64 → x.testBit j = T.getD (64 * (i / 8) + j) false) : x / 2 ^ (8 * (i % 8)) % 256 = byteN T i := by
  apply Nat.eq_of_testBit_eq
  intro j
  have e : (256 : Nat) = 2 ^ 8 := by decide
  rw [e, Nat.testBit_mod_two_pow, Nat.testBit_div_two_pow, byteN, testBit_bitsN]
  by_cases hj : j < 8
  · rw [hbit _ (by omega)]
    congr 2; omega
  · simp [hj]
theorem bitsN_step (T : List Bool) (q p : Nat) (hp : p < 8) :
    bitsN (fun j => T.getD (8 * q + (p + j)) false) (8 - p) = 2 * bitsN (fun j => T.getD (8 * q + (p + 1 + j)) false) (8 - (p + 1)) + (T.getD (8 * q + p) false).toNat := by
  have e : 8 - p = (8 - (p + 1)) + 1 := by omega
  rw [e]
  simp only [bitsN, Nat.add_zero]
  congr 3
  funext j
  congr 1; omega
/-- The bits from p on of the q-th byte. -/
def highN (T : List Bool) (q p : Nat) : Nat := bitsN (fun j => T.getD (8 * q + (p + j)) false) (8 - p)
theorem highN_zero (T : List Bool) (q : Nat) : highN T q 0 = byteN T q := by unfold highN byteN; simp
theorem highN_eight (T : List Bool) (q : Nat) : highN T q 8 = 0 := rfl
theorem highN_lt (T : List Bool) (q p : Nat) : highN T q p < 256 := by
  have h1 := bitsN_lt (fun j => T.getD (8 * q + (p + j)) false) (8 - p)
  have hpw : 2 ^ (8 - p) ≤ 2 ^ 8 := Nat.pow_le_pow_right (by omega) (by omega)
  unfold highN; omega
theorem highN_step (T : List Bool) (q p : Nat) (hp : p < 8) : highN T q p = 2 * highN T q (p + 1) + (T.getD (8 * q + p) false).toNat := bitsN_step T q p hp

/-! The runs of free sectors. -/
def runsS (T : List Bool) : Nat → List (Int × Int)
  | 0 => []
  | n + 1 => if T.getD n false then runsS T n else
    match (runsS T n).getLast? with
    | some r => if r.1 + r.2 = n then (runsS T n).dropLast ++ [(r.1, r.2 + 1)] else runsS T n ++ [((n : Int), 1)]
    | none => [((n : Int), 1)]
theorem runsS_bounds (T : List Bool) (n : Nat) : (runsS T n).length ≤ n ∧ ∀ r ∈ runsS T n, 0 ≤ r.1 ∧ 1 ≤ r.2 ∧ r.1 + r.2 ≤ n := by
  induction n with
  | zero => simp [runsS]
  | succ n ih =>
    obtain ⟨h1, h2⟩ := ih
    unfold runsS
    split
    · exact ⟨by omega, fun r hr => by have := h2 r hr; omega⟩
    · split
      · rename_i r hr
        have hm := List.mem_of_getLast? hr
        have hb := h2 r hm
        split
        · refine ⟨by simp; omega, fun x hx => ?_⟩
          rcases List.mem_append.1 hx with h | h
          · have := h2 x (List.dropLast_subset _ h); omega
          · simp at h; subst h; simp only; omega
        · refine ⟨by simp; omega, fun x hx => ?_⟩
          rcases List.mem_append.1 hx with h | h
          · have := h2 x h; omega
          · simp at h; subst h; simp only; omega
      · refine ⟨by simp, fun x hx => ?_⟩
        simp at hx; subst hx; simp only; omega

/-! The highest taken sector. -/
def topUpto (T : List Bool) : Nat → Int
  | 0 => -1
  | n + 1 => if T.getD n false then (n : Int) else topUpto T n
def topS (T : List Bool) : Int := topUpto T T.length
theorem topUpto_eq {T : List Bool} {m : Nat} (h : T.getD m false = true) : ∀ n, m < n → (∀ j, m < j → j < n → T.getD j false = false) → topUpto T n = m
  | 0, hn, _ => by omega
  | n + 1, hn, hj => by
    unfold topUpto
    by_cases e : m = n
    · subst e; rw [if_pos h]
    · rw [if_neg (by rw [hj n (by omega) (by omega)]; simp), topUpto_eq h n (by omega) (fun j h1 h2 => hj j h1 (by omega))]
theorem topUpto_none {T : List Bool} : ∀ n, (∀ j, j < n → T.getD j false = false) → topUpto T n = -1
  | 0, _ => rfl
  | n + 1, h => by
    unfold topUpto
    rw [if_neg (by rw [h n (by omega)]; simp), topUpto_none n (fun j hj => h j (by omega))]
theorem getD_lt {T : List Bool} {m : Nat} (h : T.getD m false = true) : m < T.length := by
  rcases Nat.lt_or_ge m T.length with h1 | h1
  · exact h1
  · rw [List.getD_eq_getElem?_getD, List.getElem?_eq_none h1] at h; simp at h
theorem bitLen_bits (x : Nat) (h : x < 18446744073709551616) (h0 : x ≠ 0) : 1 ≤ Lib.bitLen x ∧ Lib.bitLen x ≤ 64 ∧ x.testBit (Lib.bitLen x - 1) = true ∧ ∀ j, Lib.bitLen x ≤ j → x.testBit j = false := by
  obtain ⟨h1, h2, h3⟩ := Lib.bitLenAux_bounds 64 x (by simpa using h) h0
  have h4 := Lib.bitLen_le x 64 (by omega) (by simpa using h)
  refine ⟨h1, h4, ?_, fun j hj => Nat.testBit_lt_two_pow (Nat.lt_of_lt_of_le h3 (Nat.pow_le_pow_right (by omega) hj))⟩
  unfold Lib.bitLen
  generalize Lib.bitLenAux 64 x = b at *
  obtain ⟨k, rfl⟩ : ∃ k, b = k + 1 := ⟨b - 1, by omega⟩
  rw [Nat.testBit_eq_decide_div_mod_eq]
  have e : x / 2 ^ (k + 1 - 1) = 1 := by
    rw [Nat.add_sub_cancel]
    rw [Nat.add_sub_cancel] at h2
    apply Nat.div_eq_of_lt_le
    · omega
    · rw [Nat.pow_succ] at h3; omega
  rw [e]; rfl
/-- The highest taken sector, by the highest word that is not 0. -/
theorem topS_word {ws : List Nat} {T : List Bool} (h : Words ws T) {i : Nat} (hi : i < ws.length) (h0 : ws.getD i 0 ≠ 0) (hup : ∀ k, i < k → k < ws.length → ws.getD k 0 = 0) :
    topS T = 64 * (i : Int) + Lib.bitLen (ws.getD i 0) - 1 := by
  obtain ⟨h1, h2, h3, h4⟩ := bitLen_bits _ (h.lt i hi) h0
  have hb := h.bit i hi
  generalize Lib.bitLen (ws.getD i 0) = b at *
  rw [hb (b - 1) (by omega)] at h3
  have hm := getD_lt h3
  have := topUpto_eq h3 T.length hm (fun j hj hjT => by
    by_cases hji : j / 64 = i
    · have := hb (j % 64) (by omega)
      rw [show 64 * i + j % 64 = j by omega] at this
      rw [← this, h4 _ (by omega)]
    · have hw := h.bit (j / 64) (by rw [h.len]; omega) (j % 64) (by omega)
      rw [show 64 * (j / 64) + j % 64 = j by omega] at hw
      rw [← hw, hup (j / 64) (by omega) (by rw [h.len]; omega)]; simp)
  unfold topS; rw [this]; omega
theorem topS_none {ws : List Nat} {T : List Bool} (h : Words ws T) (hup : ∀ k, k < ws.length → ws.getD k 0 = 0) : topS T = -1 :=
  topUpto_none _ (fun j hj => by
    have hw := h.bit (j / 64) (by rw [h.len]; omega) (j % 64) (by omega)
    rw [show 64 * (j / 64) + j % 64 = j by omega] at hw
    rw [← hw, hup (j / 64) (by rw [h.len]; omega)]; simp)
end Bst
