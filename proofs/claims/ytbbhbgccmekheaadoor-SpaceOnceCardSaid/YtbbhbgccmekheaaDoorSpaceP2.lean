/- A space read from bytes: the plain laws. -/
import Derived.Test.YtbbhbgccmekheaaDoorSpaceP
namespace Bst
open Go
set_option linter.unusedVariables false
set_option linter.unusedSimpArgs false

/-- Bit k of bytes. -/
def bitAt (b : List UInt8) (k : Nat) : Bool := (b.getD (k / 8) 0).toNat.testBit (k % 8)
/-- n sectors, the first m as bytes say. -/
def partS (n : Nat) (b : List UInt8) (m : Nat) : List Bool := (List.range n).map fun k => decide (k < m) && bitAt b k
theorem partS_length (n : Nat) (b : List UInt8) (m : Nat) : (partS n b m).length = n := by simp [partS]
theorem partS_getD (n : Nat) (b : List UInt8) (m k : Nat) : (partS n b m).getD k false = (decide (k < n) && (decide (k < m) && bitAt b k)) := by
  rw [List.getD_eq_getElem?_getD]
  unfold partS
  by_cases h : k < n
  · simp [h]
  · rw [List.getElem?_eq_none (by simp; omega)]; simp [h]
theorem partS_zero (n : Nat) (b : List UInt8) : partS n b 0 = List.replicate n false := by
  unfold partS
  apply List.ext_getElem
  · simp
  · intro i h1 h2; simp
theorem partS_set (n : Nat) (b : List UInt8) (k : Nat) (hb : bitAt b k = true) : partS n b (k + 1) = (partS n b k).set k true := by
  apply List.ext_getElem
  · simp [partS]
  · intro i h1 h2
    rw [List.getElem_set]
    simp only [partS, List.getElem_map, List.getElem_range]
    split
    · rename_i e; subst e; simp [hb]
    · rename_i e
      congr 1
      exact decide_eq_decide.2 (by omega)
theorem partS_skip (n : Nat) (b : List UInt8) (k : Nat) (hb : bitAt b k = false) : partS n b (k + 1) = partS n b k := by
  apply List.ext_getElem
  · simp [partS]
  · intro i h1 h2
    simp only [partS, List.getElem_map, List.getElem_range]
    by_cases e : i = k
    · subst e; simp [hb]
    · congr 1
      exact decide_eq_decide.2 (by omega)
theorem partS_full (n : Nat) (b : List UInt8) (m m' : Nat) (h : n ≤ m) (h' : n ≤ m') : partS n b m = partS n b m' := by
  apply List.ext_getElem
  · simp [partS]
  · intro i h1 h2
    simp [partS] at h1
    simp only [partS, List.getElem_map, List.getElem_range]
    congr 1
    exact decide_eq_decide.2 (by omega)
theorem u8_lt (c : UInt8) : c.toNat < 256 := UInt8.toNat_lt c

theorem testBit_byte {x j : Nat} (hx : x < 256) (hj : 8 ≤ j) : x.testBit j = false :=
  Nat.testBit_lt_two_pow (Nat.lt_of_lt_of_le hx (by
    have := Nat.pow_le_pow_right (n := 2) (by omega) hj
    simpa using this))
/-- Why bytes are no space of n; 0: they are one. -/
def readE (n : Nat) (b : List UInt8) : Int :=
  if b.length < (n + 7) / 8 then 10 else if (n + 7) / 8 < b.length then 12 else
  if n % 8 ≠ 0 ∧ (b.getD ((n + 7) / 8 - 1) 0).toNat / 2 ^ (n % 8) ≠ 0 then 11 else 0
theorem readE_zero {n : Nat} {b : List UInt8} (h : readE n b = 0) : b.length = (n + 7) / 8 ∧ ∀ k, n ≤ k → k < 8 * b.length → bitAt b k = false := by
  unfold readE at h
  split at h
  · simp at h
  · split at h
    · simp at h
    · split at h
      · simp at h
      · rename_i h1 h2 h3
        have hlen : b.length = (n + 7) / 8 := by omega
        refine ⟨hlen, fun k hk hk2 => ?_⟩
        have h8 : n % 8 ≠ 0 := by omega
        have h4 : (b.getD ((n + 7) / 8 - 1) 0).toNat / 2 ^ (n % 8) = 0 := by
          rcases Nat.eq_zero_or_pos ((b.getD ((n + 7) / 8 - 1) 0).toNat / 2 ^ (n % 8)) with h5 | h5
          · exact h5
          · exact absurd ⟨h8, by omega⟩ h3
        unfold bitAt
        rw [show k / 8 = (n + 7) / 8 - 1 by omega]
        have h6 : (b.getD ((n + 7) / 8 - 1) 0).toNat < 2 ^ (n % 8) := by
          rcases Nat.lt_or_ge (b.getD ((n + 7) / 8 - 1) 0).toNat (2 ^ (n % 8)) with h7 | h7
          · exact h7
          · have := Nat.div_pos h7 (Nat.two_pow_pos _); omega
        exact Nat.testBit_lt_two_pow (Nat.lt_of_lt_of_le h6 (Nat.pow_le_pow_right (by omega) (by omega)))
/-- What the reference finds: a bit behind the last sector. -/
theorem readE_bad {n : Nat} {b : List UInt8} (h1 : b.length = (n + 7) / 8) {k : Nat} (hk : n ≤ k) (hk2 : k < 8 * b.length) (hb : bitAt b k = true) : readE n b = 11 := by
  unfold readE
  rw [if_neg (by omega), if_neg (by omega), if_pos]
  refine ⟨by omega, fun h => ?_⟩
  have h6 : (b.getD ((n + 7) / 8 - 1) 0).toNat < 2 ^ (n % 8) := by
    rcases Nat.lt_or_ge (b.getD ((n + 7) / 8 - 1) 0).toNat (2 ^ (n % 8)) with h7 | h7
    · exact h7
    · have := Nat.div_pos h7 (Nat.two_pow_pos _); omega
  unfold bitAt at hb
  rw [show k / 8 = (n + 7) / 8 - 1 by omega, Nat.testBit_lt_two_pow (Nat.lt_of_lt_of_le h6 (Nat.pow_le_pow_right (by omega) (by omega)))] at hb
  simp at hb
theorem readE_good {n : Nat} {b : List UInt8} (h1 : b.length = (n + 7) / 8) (h : ∀ k, n ≤ k → k < 8 * b.length → bitAt b k = false) : readE n b = 0 := by
  unfold readE
  rw [if_neg (by omega), if_neg (by omega), if_neg]
  rintro ⟨h8, hne⟩
  apply hne
  generalize hx : (b.getD ((n + 7) / 8 - 1) 0).toNat = x at *
  have hx2 : x < 256 := by rw [← hx]; exact u8_lt _
  apply Nat.div_eq_of_lt
  have e : x % 2 ^ (n % 8) = x := by
    apply Nat.eq_of_testBit_eq
    intro j
    rw [Nat.testBit_mod_two_pow]
    by_cases hj : j < n % 8
    · simp [hj]
    · by_cases hj8 : j < 8
      · have := h (8 * ((n + 7) / 8 - 1) + j) (by omega) (by omega)
        unfold bitAt at this
        rw [show (8 * ((n + 7) / 8 - 1) + j) / 8 = (n + 7) / 8 - 1 by omega, show (8 * ((n + 7) / 8 - 1) + j) % 8 = j by omega, hx] at this
        rw [this]; simp
      · rw [testBit_byte hx2 (by omega)]; simp
  rw [← e]
  exact Nat.mod_lt _ (Nat.two_pow_pos _)
/-- A space's bytes are the bytes that it was read from. -/
theorem bytesS_read {n : Nat} {b : List UInt8} (h : readE n b = 0) : bytesS (partS n b n) = b := by
  obtain ⟨hlen, hz⟩ := readE_zero h
  unfold bytesS
  rw [partS_length]
  apply List.ext_getElem
  · simp [hlen]
  · intro i h1 h2
    simp only [List.getElem_map, List.getElem_range]
    have e : byteN (partS n b n) i = b[i].toNat := by
      apply Nat.eq_of_testBit_eq
      intro j
      unfold byteN
      rw [testBit_bitsN, partS_getD]
      by_cases hj : j < 8
      · have hbit : bitAt b (8 * i + j) = b[i].toNat.testBit j := by
          unfold bitAt
          rw [show (8 * i + j) / 8 = i by omega, show (8 * i + j) % 8 = j by omega]
          simp [List.getD_eq_getElem?_getD, h2]
        by_cases hn : 8 * i + j < n
        · simp [hj, hn, hbit]
        · have := hz (8 * i + j) (by omega) (by omega)
          rw [hbit] at this
          simp [hj, hn, this]
      · rw [testBit_byte (u8_lt b[i]) (by omega)]; simp [hj]
    rw [e]
    simp

/-! How many are taken. -/
def cntB (f : Nat → Bool) : Nat → Nat
  | 0 => 0
  | n + 1 => cntB f n + (f n).toNat
theorem cntB_congr {f g : Nat → Bool} {n : Nat} (h : ∀ k, k < n → f k = g k) : cntB f n = cntB g n := by
  induction n with
  | zero => rfl
  | succ n ih => simp only [cntB]; rw [ih (fun k hk => h k (by omega)), h n (by omega)]
theorem cntB_zero {f : Nat → Bool} {n : Nat} (h : ∀ k, k < n → f k = false) : cntB f n = 0 := by
  induction n with
  | zero => rfl
  | succ n ih => simp only [cntB]; rw [ih (fun k hk => h k (by omega)), h n (by omega)]; rfl
theorem cntB_add (f : Nat → Bool) (m n : Nat) : cntB f (m + n) = cntB f m + cntB (fun k => f (m + k)) n := by
  induction n with
  | zero => rfl
  | succ n ih => rw [← Nat.add_assoc]; simp only [cntB]; rw [ih]; omega
theorem freeN_append (a b : List Bool) : freeN (a ++ b) = freeN a + freeN b := by
  induction a with
  | nil => simp [freeN]
  | cons x a ih => simp [freeN, ih]; omega
theorem freeN_map (f : Nat → Bool) (n : Nat) : freeN ((List.range n).map f) + cntB f n = n := by
  induction n with
  | zero => rfl
  | succ n ih =>
    rw [List.range_succ, List.map_append, freeN_append]
    simp only [cntB, List.map_cons, List.map_nil, freeN]
    cases f n <;> simp <;> omega
theorem popAux_eq (m x : Nat) : Lib.popAux m x = cntB x.testBit m := by
  induction m generalizing x with
  | zero => rfl
  | succ m ih =>
    have h := cntB_add x.testBit 1 m
    rw [Nat.add_comm 1 m] at h
    rw [h]
    simp only [Lib.popAux, ih, cntB]
    have e : ∀ k, (x / 2).testBit k = x.testBit (1 + k) := fun k => by rw [Nat.testBit_div_two, Nat.add_comm]
    rw [cntB_congr (fun k _ => e k)]
    have e2 : (x.testBit 0).toNat = x % 2 := by
      rw [Nat.testBit_zero]
      have : x % 2 = 0 ∨ x % 2 = 1 := by omega
      rcases this with h | h <;> simp [h]
    omega
theorem onesCount_u8 (c : Nat) (hc : c < 256) : Lib.onesCount c = cntB c.testBit 8 := by
  unfold Lib.onesCount
  rw [popAux_eq]
  have := cntB_add c.testBit 8 56
  rw [this, cntB_zero (f := fun k => c.testBit (8 + k)) (n := 56) (fun k _ => testBit_byte hc (by omega))]
  rfl
theorem freeN_part {n : Nat} {b : List UInt8} (h : readE n b = 0) {i : Nat} (hi : i < b.length) :
    freeN (partS n b (8 * (i + 1))) + Lib.onesCount b[i].toNat = freeN (partS n b (8 * i)) := by
  obtain ⟨hlen, hz⟩ := readE_zero h
  have h1 := freeN_map (fun k => decide (k < 8 * (i + 1)) && bitAt b k) n
  have h2 := freeN_map (fun k => decide (k < 8 * i) && bitAt b k) n
  have hbit : ∀ j, j < 8 → bitAt b (8 * i + j) = b[i].toNat.testBit j := fun j hj => by
    unfold bitAt
    rw [show (8 * i + j) / 8 = i by omega, show (8 * i + j) % 8 = j by omega]
    simp [List.getD_eq_getElem?_getD, hi]
  rw [onesCount_u8 _ (u8_lt _)]
  have hin : 8 * i < n := by omega
  have e : ∀ (f : Nat → Bool), cntB f n = cntB f (8 * i) + cntB (fun k => f (8 * i + k)) (n - 8 * i) := fun f => by
    have := cntB_add f (8 * i) (n - 8 * i)
    rwa [show 8 * i + (n - 8 * i) = n by omega] at this
  rw [e] at h1 h2
  have a1 : cntB (fun k => decide (k < 8 * (i + 1)) && bitAt b k) (8 * i) = cntB (bitAt b) (8 * i) := cntB_congr (fun k hk => by simp; omega)
  have a2 : cntB (fun k => decide (k < 8 * i) && bitAt b k) (8 * i) = cntB (bitAt b) (8 * i) := cntB_congr (fun k hk => by simp [hk])
  have a3 : cntB (fun k => (fun k => decide (k < 8 * i) && bitAt b k) (8 * i + k)) (n - 8 * i) = 0 := cntB_zero (fun k hk => by simp; intro h; omega)
  have a4 : cntB (fun k => (fun k => decide (k < 8 * (i + 1)) && bitAt b k) (8 * i + k)) (n - 8 * i) = cntB b[i].toNat.testBit 8 := by
    by_cases h8 : 8 ≤ n - 8 * i
    · obtain ⟨q, hq⟩ : ∃ q, n - 8 * i = 8 + q := ⟨n - 8 * i - 8, by omega⟩
      rw [hq, cntB_add, cntB_zero (n := q) (fun k hk => by simp; omega), Nat.add_zero]
      exact cntB_congr (fun k hk => by simp only [hbit k hk]; simp; omega)
    · obtain ⟨q, hq⟩ : ∃ q, 8 = (n - 8 * i) + q := ⟨8 - (n - 8 * i), by omega⟩
      have h9 := cntB_add b[i].toNat.testBit (n - 8 * i) q
      rw [← hq] at h9
      rw [h9, cntB_zero (n := q) (fun k hk => by
        have := hz (8 * i + (n - 8 * i + k)) (by omega) (by omega)
        rw [hbit _ (by omega)] at this
        exact this), Nat.add_zero]
      exact cntB_congr (fun k hk => by simp only [hbit k (by omega)]; simp; omega)
  rw [a1, a4] at h1
  rw [a2, a3] at h2
  unfold partS
  omega

/-! A word with a byte more. -/
theorem or_shl (x c r : Nat) (hx : x < 18446744073709551616) (hc : c < 256) (hr : r < 8) :
    bits .or .u64 (x : Int) (IntKind.u64.wrap ((c : Int) * 2 ^ (8 * r))) = ((x ||| c * 2 ^ (8 * r) : Nat) : Int) := by
  have hp : 2 ^ (8 * r) ≤ 2 ^ 56 := Nat.pow_le_pow_right (by omega) (by omega)
  have h2 : c * 2 ^ (8 * r) < 18446744073709551616 := by
    have h3 : c * 2 ^ (8 * r) ≤ 255 * 2 ^ 56 := Nat.mul_le_mul (by omega) hp
    have h4 : 255 * 2 ^ 56 < 18446744073709551616 := by decide
    omega
  have e : IntKind.u64.wrap ((c : Int) * 2 ^ (8 * r)) = ((c * 2 ^ (8 * r) : Nat) : Int) := by
    rw [IntKind.wrap_u64]
    have : ((c : Int) * 2 ^ (8 * r)) = ((c * 2 ^ (8 * r) : Nat) : Int) := by simp
    rw [this]
    generalize c * 2 ^ (8 * r) = y at h2
    omega
  rw [e, u64_or_nat x _ hx h2]
theorem or_lt (x c r : Nat) (hx : x < 18446744073709551616) (hc : c < 256) (hr : r < 8) : x ||| c * 2 ^ (8 * r) < 18446744073709551616 := by
  have hp : 2 ^ (8 * r) ≤ 2 ^ 56 := Nat.pow_le_pow_right (by omega) (by omega)
  have h2 : c * 2 ^ (8 * r) < 18446744073709551616 := by
    have h3 : c * 2 ^ (8 * r) ≤ 255 * 2 ^ 56 := Nat.mul_le_mul (by omega) hp
    have h4 : 255 * 2 ^ 56 < 18446744073709551616 := by decide
    omega
  have := Nat.or_lt_two_pow (n := 64) (x := x) (y := c * 2 ^ (8 * r)) (by simpa using hx) (by simpa using h2)
  simpa using this
theorem or_byte_bit {n : Nat} {b : List UInt8} (h : readE n b = 0) {i x : Nat} (hi : i < b.length) (hbit : ∀ j, j < 64 → x.testBit j = (partS n b (8 * i)).getD (64 * (i / 8) + j) false) :
    ∀ j, j < 64 → (x ||| b[i].toNat * 2 ^ (8 * (i % 8))).testBit j = (partS n b (8 * (i + 1))).getD (64 * (i / 8) + j) false := by
  intro j hj
  obtain ⟨hlen, hz⟩ := readE_zero h
  rw [Nat.testBit_or, hbit j hj, partS_getD, partS_getD, Nat.testBit_mul_two_pow]
  by_cases h1 : j < 8 * (i % 8)
  · have e1 : decide (64 * (i / 8) + j < 8 * i) = true := decide_eq_true (by omega)
    have e2 : decide (64 * (i / 8) + j < 8 * (i + 1)) = true := decide_eq_true (by omega)
    have e3 : decide (8 * (i % 8) ≤ j) = false := decide_eq_false (by omega)
    rw [e1, e2, e3]; simp
  · have e1 : decide (64 * (i / 8) + j < 8 * i) = false := decide_eq_false (by omega)
    have e3 : decide (8 * (i % 8) ≤ j) = true := decide_eq_true (by omega)
    by_cases h2 : j < 8 * (i % 8) + 8
    · have e2 : decide (64 * (i / 8) + j < 8 * (i + 1)) = true := decide_eq_true (by omega)
      have hb : bitAt b (64 * (i / 8) + j) = b[i].toNat.testBit (j - 8 * (i % 8)) := by
        unfold bitAt
        rw [show (64 * (i / 8) + j) / 8 = i by omega, show (64 * (i / 8) + j) % 8 = j - 8 * (i % 8) by omega]
        simp [List.getD_eq_getElem?_getD, hi]
      rw [e1, e2, e3, hb]
      by_cases h3 : 64 * (i / 8) + j < n
      · simp [h3]
      · have := hz (64 * (i / 8) + j) (by omega) (by omega)
        rw [hb] at this
        simp [h3, this]
    · have e2 : decide (64 * (i / 8) + j < 8 * (i + 1)) = false := decide_eq_false (by omega)
      rw [e1, e2, e3, testBit_byte (u8_lt b[i]) (by omega)]; simp
theorem part_other {n : Nat} {b : List UInt8} {i k : Nat} (hk : k / 64 ≠ i / 8) : (partS n b (8 * (i + 1))).getD k false = (partS n b (8 * i)).getD k false := by
  rw [partS_getD, partS_getD]
  congr 2
  exact decide_eq_decide.2 (by omega)
theorem Words.setWord {ws : List Nat} {T T' : List Bool} (h : Words ws T) {i x : Nat} (hi : i < ws.length) (hl : T'.length = T.length) (hx : x < 18446744073709551616) (hbit : ∀ j, j < 64 → x.testBit j = T'.getD (64 * i + j) false)
    (ho : ∀ k, k / 64 ≠ i → T'.getD k false = T.getD k false) : Words (ws.set i x) T' := by
  have hg : ∀ k, (ws.set i x).getD k 0 = if i = k then x else ws.getD k 0 := by
    intro k
    simp only [List.getD_eq_getElem?_getD, List.getElem?_set]
    split
    · rename_i e; subst e; simp [hi]
    · rfl
  refine ⟨by simp [h.len, hl], fun k hk => ?_, fun k hk j hj => ?_⟩
  · rw [hg]; split
    · exact hx
    · exact h.lt k (by simpa using hk)
  · rw [hg]; split
    · rename_i e; subst e; exact hbit j hj
    · rename_i e
      rw [h.bit k (by simpa using hk) j hj, ho _ (by omega)]
end Bst
