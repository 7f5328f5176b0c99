/- The checksum, plainly: a step of a bit, of a byte, of bytes; a changed byte changes it. -/
import Derived.WalkKit
namespace Bst
set_option linter.unusedVariables false

/-- One bit. -/
def crcStep (x : Nat) : Nat := if x % 2 = 1 then (x / 2) ^^^ 3988292384 else x / 2
def crcSteps : Nat → Nat → Nat
  | 0, x => x
  | k + 1, x => crcStep (crcSteps k x)
def crcByte (x c : Nat) : Nat := crcSteps 8 (x ^^^ c)
def crcAll (x : Nat) : List UInt8 → Nat
  | [] => x
  | c :: l => crcAll (crcByte x c.toNat) l
/-- The sum of bytes. -/
def sumS (l : List UInt8) : Nat := 4294967295 - crcAll 4294967295 l

theorem crcStep_lt {x : Nat} (h : x < 4294967296) : crcStep x < 4294967296 := by
  unfold crcStep
  split
  · exact Nat.xor_lt_two_pow (n := 32) (by omega) (by omega)
  · omega
theorem crcSteps_lt {x : Nat} (h : x < 4294967296) : ∀ k, crcSteps k x < 4294967296
  | 0 => h
  | k + 1 => crcStep_lt (crcSteps_lt h k)
theorem xor_byte_lt {x c : Nat} (h : x < 4294967296) (hc : c < 256) : x ^^^ c < 4294967296 := Nat.xor_lt_two_pow (n := 32) h (by omega)
theorem crcByte_lt {x c : Nat} (h : x < 4294967296) (hc : c < 256) : crcByte x c < 4294967296 := crcSteps_lt (xor_byte_lt h hc) 8
theorem crcAll_lt : ∀ (l : List UInt8) {x : Nat}, x < 4294967296 → crcAll x l < 4294967296
  | [], _, h => h
  | c :: l, _, h => crcAll_lt l (crcByte_lt h (UInt8.toNat_lt c))
theorem crcAll_append (x : Nat) (a b : List UInt8) : crcAll x (a ++ b) = crcAll (crcAll x a) b := by
  induction a generalizing x with
  | nil => rfl
  | cons c a ih => exact ih _
theorem crcAll_snoc (x : Nat) (a : List UInt8) (c : UInt8) : crcAll x (a ++ [c]) = crcByte (crcAll x a) c.toNat := by
  rw [crcAll_append]; rfl
theorem sumS_lt (l : List UInt8) : sumS l < 4294967296 := by unfold sumS; omega

theorem crcStep_top {x : Nat} (h : x < 4294967296) : (crcStep x).testBit 31 = decide (x % 2 = 1) := by
  unfold crcStep
  have h2 : (x / 2).testBit 31 = false := Nat.testBit_lt_two_pow (by omega)
  split
  · rw [Nat.testBit_xor, h2]
    simp_all
    decide
  · rw [h2]; simp_all
theorem crcStep_inj {x y : Nat} (hx : x < 4294967296) (hy : y < 4294967296) (h : crcStep x = crcStep y) : x = y := by
  have e := crcStep_top hx
  rw [h, crcStep_top hy] at e
  have e2 : (y % 2 = 1) ↔ (x % 2 = 1) := by simpa using e
  unfold crcStep at h
  by_cases hp : x % 2 = 1
  · rw [if_pos hp, if_pos (e2.2 hp)] at h
    have h3 : x / 2 = y / 2 := by
      have := congrArg (· ^^^ 3988292384) h
      simpa [Nat.xor_assoc] using this
    have := e2.2 hp
    omega
  · rw [if_neg hp, if_neg (fun q => hp (e2.1 q))] at h
    have := fun q => hp (e2.1 q)
    omega
theorem crcSteps_inj {x y : Nat} (hx : x < 4294967296) (hy : y < 4294967296) : ∀ k, crcSteps k x = crcSteps k y → x = y
  | 0, h => h
  | k + 1, h => crcSteps_inj hx hy k (crcStep_inj (crcSteps_lt hx k) (crcSteps_lt hy k) h)
theorem xor_right_inj {x c d : Nat} (h : x ^^^ c = x ^^^ d) : c = d := by
  have := congrArg (x ^^^ ·) h
  simpa [← Nat.xor_assoc] using this
theorem xor_left_inj {x y c : Nat} (h : x ^^^ c = y ^^^ c) : x = y := by
  have := congrArg (· ^^^ c) h
  simpa [Nat.xor_assoc] using this
theorem crcAll_inj : ∀ (l : List UInt8) {x y : Nat}, x < 4294967296 → y < 4294967296 → crcAll x l = crcAll y l → x = y
  | [], _, _, _, _, h => h
  | c :: l, _, _, hx, hy, h => by
    have hc := UInt8.toNat_lt c
    have h1 := crcAll_inj l (crcByte_lt hx hc) (crcByte_lt hy hc) h
    exact xor_left_inj (crcSteps_inj (xor_byte_lt hx hc) (xor_byte_lt hy hc) 8 h1)
/-- One byte is another: so is the sum. -/
theorem sumS_set {l : List UInt8} {i : Nat} (hi : i < l.length) {c : UInt8} (hc : c ≠ l[i]) : sumS (l.set i c) ≠ sumS l := by
  have e1 : l = l.take i ++ l[i] :: l.drop (i + 1) := by simp
  have e2 : l.set i c = l.take i ++ c :: l.drop (i + 1) := by
    rw [List.set_eq_take_append_cons_drop, if_pos hi]
  intro h
  have hp : crcAll 4294967295 (l.take i) < 4294967296 := crcAll_lt _ (by omega)
  have l1 := crcAll_lt (l.set i c) (x := 4294967295) (by omega)
  have l2 := crcAll_lt l (x := 4294967295) (by omega)
  have h2 : crcAll 4294967295 (l.set i c) = crcAll 4294967295 l := by unfold sumS at h; omega
  rw [e2] at h2
  conv at h2 => rhs; rw [e1]
  rw [crcAll_append, crcAll_append] at h2
  generalize crcAll 4294967295 (l.take i) = x at *
  have c1 := UInt8.toNat_lt c
  have c2 := UInt8.toNat_lt l[i]
  have h3 := crcAll_inj (l.drop (i + 1)) (crcByte_lt hp c1) (crcByte_lt hp c2) h2
  have h4 := xor_right_inj (crcSteps_inj (xor_byte_lt hp c1) (xor_byte_lt hp c2) 8 h3)
  exact hc (UInt8.toNat_inj.1 h4)

/-- The reference's way: a byte's bits beside the sum's. -/
def refStep (x c : Nat) : Nat := if (x + c) % 2 = 1 then (x / 2) ^^^ 3988292384 else x / 2
def refSteps : Nat → Nat → Nat → Nat
  | 0, x, _ => x
  | k + 1, x, c => refStep (refSteps k x c) (c / 2 ^ k)
theorem xor_mod_two (x c : Nat) : (x ^^^ c) % 2 = (x + c) % 2 := by
  have h := Nat.xor_mod_two_pow (a := x) (b := c) (n := 1)
  simp only [Nat.pow_one] at h
  rw [h, Nat.add_mod]
  rcases Nat.mod_two_eq_zero_or_one x with h1 | h1 <;> rcases Nat.mod_two_eq_zero_or_one c with h2 | h2 <;> rw [h1, h2] <;> rfl
theorem xor_half (x c : Nat) : (x ^^^ c) / 2 = x / 2 ^^^ c / 2 := by
  apply Nat.eq_of_testBit_eq
  intro i
  simp [← Nat.testBit_succ, Nat.testBit_xor]
theorem refStep_eq (x c : Nat) : refStep x c ^^^ (c / 2) = crcStep (x ^^^ c) := by
  unfold refStep crcStep
  rw [xor_mod_two, xor_half]
  split
  · rw [Nat.xor_assoc, Nat.xor_assoc, Nat.xor_comm 3988292384]
  · rfl
theorem refSteps_eq (x c : Nat) : ∀ k, refSteps k x c ^^^ (c / 2 ^ k) = crcSteps k (x ^^^ c)
  | 0 => by simp [refSteps, crcSteps]
  | k + 1 => by
    have h := refStep_eq (refSteps k x c) (c / 2 ^ k)
    rw [refSteps_eq x c k] at h
    rw [Nat.div_div_eq_div_mul, ← Nat.pow_succ] at h
    exact h
theorem refSteps_eight {x c : Nat} (hc : c < 256) : refSteps 8 x c = crcByte x c := by
  have h := refSteps_eq x c 8
  rw [Nat.div_eq_of_lt hc] at h
  simpa [crcByte] using h
theorem refStep_lt {x c : Nat} (h : x < 4294967296) : refStep x c < 4294967296 := by
  unfold refStep
  split
  · exact Nat.xor_lt_two_pow (n := 32) (by omega) (by omega)
  · omega
theorem refSteps_lt {x c : Nat} (h : x < 4294967296) : ∀ k, refSteps k x c < 4294967296
  | 0 => h
  | k + 1 => refStep_lt (refSteps_lt h k)
end Bst
