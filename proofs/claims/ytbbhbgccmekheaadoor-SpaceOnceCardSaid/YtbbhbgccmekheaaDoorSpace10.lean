/- Contract: the reference's Read. -/
import Derived.Test.YtbbhbgccmekheaaDoorSpace6
import Derived.Test.YtbbhbgccmekheaaDoorSpaceP2
namespace Go.Proofs.YtbbhbgccmekheaaDoor
open Go Go.RowKit Bst
set_option linter.unusedVariables false
set_option linter.unusedSimpArgs false

theorem half_pow (x j : Nat) : x / 2 ^ j / 2 = x / 2 ^ (j + 1) := by rw [Nat.div_div_eq_div_mul, Nat.pow_succ]
theorem odd_bit (x j : Nat) : x / 2 ^ j % 2 = (x.testBit j).toNat := by
  rw [Nat.testBit_eq_decide_div_mod_eq]
  have : x / 2 ^ j % 2 = 0 ∨ x / 2 ^ j % 2 = 1 := by omega
  rcases this with h | h <;> simp [h]
/-- The bits of a number from the j-th on. -/
def downN (x j : Nat) : Nat := x / 2 ^ j
theorem downN_le (x j : Nat) : downN x j ≤ x := Nat.div_le_self _ _
set_option maxHeartbeats 4000000 in
theorem read19_ok (F : List Nat) (w : World) (n : Nat) (A : Option Addr) (c : Nat) (b : List UInt8) (hb : Sl Kd.u8 F w A c b) (hn : n ≤ 16384) (hlb : b.length ≤ 5000) :
    Calls Tryd.prog 23 #[.int .i64 (n : Int), .slice A b.length c] w fun e w' =>
      (readE n b ≠ 0 ∧ e = .returned (.tuple #[.slice none 0 0, .int .i64 (readE n b)]) ∧ Ext w w') ∨
      (readE n b = 0 ∧ ∃ m, e = .returned (.tuple #[.slice (some ⟨m, 0, none⟩) n n, .int .i64 0]) ∧ BoolsAt w' m (partS n b n) ∧ w.heap.size ≤ m ∧ Ext w w') := by
  have HB := Lib.hid hb
  clear hb
  by_cases h1 : b.length < (n + 7) / 8
  · have hE : Hid (readE n b = 10) := by show readE n b = 10; unfold readE; rw [if_pos h1]
    have d1 : decide (8 * (b.length : Int) < (n : Int)) = true := decide_eq_true (by omega)
    clear h1
    go_enter Tryd.func23, Tryd.ntmps23
    go_wp2
    go_ret2
    exact .inl ⟨by rw [hE.out]; decide, by rw [hE.out]; rfl, Ext.refl _⟩
  · by_cases h2 : (n + 7) / 8 < b.length
    · have hE : Hid (readE n b = 12) := by show readE n b = 12; unfold readE; rw [if_neg h1, if_pos h2]
      have d1 : decide (8 * (b.length : Int) < (n : Int)) = false := decide_eq_false (by omega)
      have d2 : decide ((n : Int) + 8 ≤ 8 * (b.length : Int)) = true := decide_eq_true (by omega)
      clear h1 h2
      go_enter Tryd.func23, Tryd.ntmps23
      go_wp2
      go_ret2
      exact .inl ⟨by rw [hE.out]; decide, by rw [hE.out]; rfl, Ext.refl _⟩
    · have hlen : b.length = (n + 7) / 8 := by omega
      have d1 : decide (8 * (b.length : Int) < (n : Int)) = false := decide_eq_false (by omega)
      have d2 : decide ((n : Int) + 8 ≤ 8 * (b.length : Int)) = false := decide_eq_false (by omega)
      have HLEN := Lib.hid hlen
      have hl1 : n ≤ 8 * b.length := by omega
      clear h1 h2 hlen
      go_enter Tryd.func23, Tryd.ntmps23
      go_wp2_with (at_make; go_must (refine wp_make et_bool rfl rfl _ _ (by rfl) w n (by rfl) (by rfl) (by omega) (by omega) (by omega) (by omega) ?_))
      go_loopw [7] (fun iv wr => ∃ i : Nat, i ≤ 8 * b.length ∧ iv = .int .i64 (i : Int) ∧ Hid (BoolsAt wr w.heap.size (partS n b i)) ∧ Hid (Ext w wr) ∧ Hid (∀ k, n ≤ k → k < i → bitAt b k = false)) (fun iv _ => 8 * b.length - (intOf iv).toNat)
      case atStart =>
        refine ⟨0, Nat.zero_le _, rfl, ⟨by rw [partS_length]; exact hn, ?_⟩, Ext.alloc _ _, fun k _ hk => by omega⟩
        have := Row.make w encB n false 4
        rw [partS_zero]
        exact this
      case round =>
        obtain ⟨i, hi, rfl, HBA, HE, HZ⟩ := hrel
        by_cases hlt : i < 8 * b.length
        · obtain ⟨g, o, hA, hcell⟩ := (HB.out.ext (HE.out.keep F)).u8_at (k := i / 8) (by omega)
          subst hA
          have hbit : bitAt b i = b[i / 8].toNat.testBit (i % 8) := by unfold bitAt; simp [List.getD_eq_getElem?_getD, show i / 8 < b.length by omega]
          have hc256 := u8_lt b[i / 8]
          generalize b[i / 8].toNat = c8 at *
          have HBIT := Lib.hid hbit
          clear hbit
          have hi8 : i / 8 < b.length := by omega
          go_wp2
          go_loop [8, 9] (fun cv jv => ∃ j : Nat, j ≤ i % 8 ∧ jv = .int .i64 (j : Int) ∧ cv = .int .i64 (downN c8 j : Int)) (fun _ jv => i % 8 - (intOf jv).toNat)
          case atStart => exact ⟨0, Nat.zero_le _, rfl, by simp [downN]⟩
          case round =>
            obtain ⟨j, hj, rfl, rfl⟩ := hrel
            have hle := downN_le c8 j
            by_cases hjl : j < i % 8
            · have HH : Hid (downN c8 j / 2 = downN c8 (j + 1)) := half_pow c8 j
              generalize downN c8 j = dj at *
              go_wp2
              go_round
              case rel => exact ⟨j + 1, by omega, by go_num, by rw [← HH.out]; simp⟩
              case measure => simp [intOf] <;> omega
            · have hje : j = i % 8 := by omega
              subst hje
              have hod : downN c8 (i % 8) % 2 = (bitAt b i).toNat := by rw [HBIT.out]; exact odd_bit _ _
              cases hbv : bitAt b i
              · rw [hbv] at hod
                have HS : Hid (partS n b (i + 1) = partS n b i) := partS_skip n b i hbv
                have HZ2 : Hid (∀ k, n ≤ k → k < i + 1 → bitAt b k = false) := fun k hk hk2 => by
                  by_cases e : k = i
                  · subst e; exact hbv
                  · exact HZ.out k hk (by omega)
                generalize downN c8 (i % 8) = dj at *
                have hod2 : dj % 2 = 0 := hod
                have hq : ((dj : Int) % 2 == 1) = false := by
                  rw [beq_eq_false_iff_ne]; omega
                clear hod hod2 hbv
                go_wp2
                go_roundw
                case rel => exact ⟨i + 1, by omega, by go_num, by rw [HS.out]; exact HBA.out, HE.out, HZ2.out⟩
                case measure => simp [intOf] <;> omega
              · rw [hbv] at hod
                have HBV := Lib.hid hbv
                generalize downN c8 (i % 8) = dj at *
                have hod2 : dj % 2 = 1 := hod
                have hq : ((dj : Int) % 2 == 1) = true := by
                  rw [beq_iff_eq]; omega
                clear hod hod2 hbv
                by_cases hin : i < n
                · obtain ⟨hcl, hf, hset⟩ := HBA.out.at_ (k := i) (by rw [partS_length]; exact hin)
                  have hs2 := hset true
                  rw [← partS_set n b i HBV.out] at hs2
                  have HS2 := Lib.hid hs2
                  have HE2 := Lib.hid (show Ext w (wr.setCell ⟨w.heap.size, i, none⟩ (.bool true)) from ((HE.out.keep [w.heap.size]).trans (Keep.setCell [w.heap.size] wr ⟨w.heap.size, i, none⟩ _ (by simp))).ext (by simp))
                  have HZ2 : Hid (∀ k, n ≤ k → k < i + 1 → bitAt b k = false) := fun k hk hk2 => HZ.out k hk (by omega)
                  have d3 : decide (n ≤ i) = false := decide_eq_false (by omega)
                  generalize (partS n b i).getD i false = cv at *
                  clear hset hs2
                  go_wp2
                  go_roundw
                  case rel => exact ⟨i + 1, by omega, by go_num, HS2.out, HE2.out, HZ2.out⟩
                  case measure => simp [intOf] <;> omega
                · have hE : Hid (readE n b = 11) := readE_bad HLEN.out (by omega) hlt HBV.out
                  have d3 : decide (n ≤ i) = true := decide_eq_true (by omega)
                  go_wp2
                  go_ret2
                  exact .inl ⟨by rw [hE.out]; decide, by rw [hE.out]; rfl, HE.out⟩
        · have hE : Hid (readE n b = 0) := readE_good HLEN.out (fun k hk hk2 => HZ.out k hk (by omega))
          have HF : Hid (partS n b i = partS n b n) := partS_full n b i n (by omega) (Nat.le_refl _)
          have hB2 := HBA.out
          rw [HF.out] at hB2
          have HB2 := Lib.hid hB2
          clear hB2
          go_wp2
          go_ret2
          exact .inr ⟨hE.out, w.heap.size, rfl, HB2.out, Nat.le_refl _, HE.out⟩
end Go.Proofs.YtbbhbgccmekheaaDoor
