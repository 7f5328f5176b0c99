/- Contracts: the checksum. -/
import Derived.Test.YtkmnjccklnfcdaaProg
import Derived.Test.YtkmnjccklnfcdaaLibRow
import Derived.Test.YtkmnjccklnfcdaaPlainA
import Derived.Deep.QuietTactic
import Derived.BigQuiet
import Derived.Outline
import Derived.LoopTactic
import Derived.Laws.BitsAllLaws
namespace Go.Proofs.Ytkmnjccklnfcdaa
open Go Go.RowKit Bst
set_option linter.unusedVariables false
set_option linter.unusedSimpArgs false

theorem not32 (x : Nat) (hx : x < 4294967296) : bits .xor .u32 IntKind.u32.max (x : Int) = ((4294967295 - x : Nat) : Int) := by
  have e : IntKind.u32.max = ((4294967295 : Nat) : Int) := by decide
  rw [e, u32_xor_nat _ x (by omega) hx]
  congr 1
  have h1 := Nat.testBit_two_pow_sub_succ (n := 32) (x := x) (by simpa using hx)
  have e2 : 2 ^ 32 - (x + 1) = 4294967295 - x := by omega
  rw [e2] at h1
  apply Nat.eq_of_testBit_eq
  intro i
  rw [h1 i, Nat.testBit_xor]
  have e3 : (4294967295 : Nat) = 2 ^ 32 - 1 := by decide
  rw [e3, Nat.testBit_two_pow_sub_one]
  by_cases hi : i < 32
  · simp [hi]
  · have : x.testBit i = false := Nat.testBit_lt_two_pow (Nat.lt_of_lt_of_le (by simpa using hx) (Nat.pow_le_pow_right (n := 2) (i := 32) (j := i) (by omega) (by omega)))
    simp [hi, this]
theorem Sl.row_at {α : Type} {K : Kd α} {F : List Nat} {w : World} {A : Option Addr} {c : Nat} {l : List (List α)} (h : Sl (Kd.slice K) F w A c l) {k : Nat} (hk : k < l.length) :
    ∃ g o A2 c2, A = some ⟨g, o, none⟩ ∧ w.cell? ⟨g, o + k, none⟩ = some (.slice A2 l[k].length c2) ∧ Sl K F w A2 c2 l[k] := by
  obtain ⟨g, o, rfl, _, _, hc⟩ := h.2.2 (by omega)
  obtain ⟨cs, ⟨A2, c2, rfl, hs⟩, hcell⟩ := hc k _ (getElem?_some_of_lt hk)
  exact ⟨g, o, A2, c2, rfl, by simpa [Kd.slice] using hcell 0 _ rfl, hs⟩

set_option maxHeartbeats 1000000 in
theorem sum_ok (F : List Nat) (w : World) (A : Option Addr) (c : Nat) (ps : List (List UInt8)) (hl : Sl (Kd.slice Kd.u8) F w A c ps) :
    Calls Try.prog 112 #[.slice A ps.length c] w fun e w' => e = .returned (.int .u32 (sumS ps.flatten : Int)) ∧ w = w' := by
  have hle := hl.len_le
  have HL := Lib.hid hl
  clear hl
  go_enter Try.func112, Try.ntmps112
  go_wp2
  go_loop [3, 10] (fun xv iv => ∃ k : Nat, k ≤ ps.length ∧ iv = .int .i64 (k : Int) ∧ xv = .int .u32 (crcAll 4294967295 (ps.take k).flatten : Int)) (fun _ iv => ps.length - (intOf iv).toNat)
  case atStart => exact ⟨0, Nat.zero_le _, rfl, rfl⟩
  case round =>
    obtain ⟨k, hk, rfl, rfl⟩ := hrel
    by_cases hlt : k < ps.length
    · obtain ⟨g, o, A2, c2, rfl, hc, hs⟩ := Sl.row_at HL.out hlt
      have HS := Lib.hid hs
      have hle2 := hs.len_le
      clear hs
      have hx := crcAll_lt (ps.take k).flatten (x := 4294967295) (by omega)
      have HN := Lib.hid (show crcAll 4294967295 (ps.take (k + 1)).flatten = crcAll (crcAll 4294967295 (ps.take k).flatten) ps[k] from by
        rw [List.take_succ_eq_append_getElem hlt, List.flatten_append, crcAll_append]; simp)
      generalize crcAll 4294967295 (ps.take k).flatten = x0 at *
      generalize ps[k] = p at *
      go_wp2
      go_loop [3, 16] (fun xv iv => ∃ q : Nat, q ≤ p.length ∧ iv = .int .i64 (q : Int) ∧ xv = .int .u32 (crcAll x0 (p.take q) : Int)) (fun _ iv => p.length - (intOf iv).toNat)
      case atStart => exact ⟨0, Nat.zero_le _, rfl, rfl⟩
      case round =>
        obtain ⟨q, hq, rfl, rfl⟩ := hrel
        by_cases hlq : q < p.length
        · obtain ⟨g2, o2, rfl, hc8⟩ := HS.out.u8_at hlq
          have h8 : p[q].toNat < 256 := UInt8.toNat_lt p[q]
          have hx1 := crcAll_lt (p.take q) hx
          have HB := Lib.hid (show crcAll x0 (p.take (q + 1)) = crcSteps 8 (crcAll x0 (p.take q) ^^^ p[q].toNat) from by
            rw [List.take_succ_eq_append_getElem hlq, crcAll_snoc]; rfl)
          generalize crcAll x0 (p.take q) = x at *
          generalize p[q].toNat = cc at *
          have hxx := u32_xor_nat x cc hx1 (by omega)
          have hxl := xor_byte_lt hx1 h8
          have e1 : (cc : Int) % 4294967296 = (cc : Int) := by omega
          go_wp2
          generalize x ^^^ cc = z at *
          clear hxx e1 hx1 h8
          go_loop [3, 24] (fun xv iv => ∃ j : Nat, j ≤ 8 ∧ iv = .int .i64 (j : Int) ∧ xv = .int .u32 (crcSteps j z : Int)) (fun _ iv => 8 - (intOf iv).toNat)
          case atStart => exact ⟨0, by omega, rfl, rfl⟩
          case round =>
            obtain ⟨j, hj, rfl, rfl⟩ := hrel
            have hy := crcSteps_lt hxl j
            by_cases hlt2 : j < 8
            · have HR := Lib.hid (show crcSteps (j + 1) z = crcStep (crcSteps j z) from rfl)
              generalize crcSteps j z = y at *
              have hand := u32_and_nat y 1 (by omega) (by omega)
              rw [Nat.and_one_is_mod] at hand
              by_cases hp : y % 2 = 1
              · have t1 : (bits .and .u32 (y : Int) 1 == 1) = true := by
                  simp only [Int.natCast_one] at hand
                  rw [hand, hp]; rfl
                have HX := Lib.hid (show bits .xor .u32 ((y : Int) / 2) 3988292384 = ((crcStep y : Nat) : Int) from by
                  unfold crcStep; rw [if_pos hp]; simpa using u32_xor_nat (y / 2) 3988292384 (by omega) (by omega))
                clear hp hand
                go_wp2
                go_round
                case rel => exact ⟨j + 1, by omega, by go_num, by rw [HR.out, HX.out]⟩
                case measure => simp [intOf] <;> omega
              · have t1 : (bits .and .u32 (y : Int) 1 == 1) = false := by
                  simp only [Int.natCast_one] at hand
                  rw [hand, show y % 2 = 0 by omega]; rfl
                have HX := Lib.hid (show crcStep y = y / 2 from by unfold crcStep; rw [if_neg hp])
                clear hp hand
                go_wp2
                go_round
                case rel => exact ⟨j + 1, by omega, by go_num, by rw [HR.out, HX.out]; rfl⟩
                case measure => simp [intOf] <;> omega
            · obtain rfl : j = 8 := by omega
              go_wp2
              go_round
              case rel => exact ⟨q + 1, by omega, by go_num, by rw [HB.out]⟩
              case measure => simp [intOf] <;> omega
        · have h1 : p.take q = p := List.take_of_length_le (by omega)
          rw [h1]
          rw [← HN.out]
          go_wp2
          go_round
          case rel => exact ⟨k + 1, by omega, by go_num, rfl⟩
          case measure => simp [intOf] <;> omega
    · have h1 : ps.take k = ps := List.take_of_length_le (by omega)
      rw [h1]
      have hx := crcAll_lt ps.flatten (x := 4294967295) (by omega)
      have HS := Lib.hid (show sumS ps.flatten = 4294967295 - crcAll 4294967295 ps.flatten from rfl)
      generalize crcAll 4294967295 ps.flatten = x at *
      go_wp2
      go_ret
      exact ⟨ret_int (by rw [HS.out, not32 x hx]), rfl⟩
end Go.Proofs.Ytkmnjccklnfcdaa
