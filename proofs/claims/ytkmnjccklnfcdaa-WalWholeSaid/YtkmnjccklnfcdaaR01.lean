/- Contracts of the reference's words: Same, Ints. -/
import Derived.Test.YtkmnjccklnfcdaaProg
import Derived.Test.YtkmnjccklnfcdaaLib
import Derived.Deep.QuietTactic
import Derived.BigQuiet
import Derived.Outline
import Derived.LoopTactic
namespace Go.Proofs.Ytkmnjccklnfcdaa
open Go Go.RowKit Bst
set_option linter.unusedVariables false
theorem take_eq_iff {α : Type} {a b : List α} (k : Nat) (hl : a.length = b.length) (hk : k < a.length) (h : a.take k = b.take k) :
    (a.take (k+1) = b.take (k+1)) ↔ a[k] = b[k]'(by omega) := by
  have e1 : a.take (k+1) = a.take k ++ [a[k]] := List.take_succ_eq_append_getElem hk
  have e2 : b.take (k+1) = b.take k ++ [b[k]'(by omega)] := List.take_succ_eq_append_getElem (by omega)
  rw [e1, e2, h]
  simp only [List.append_cancel_left_eq, List.cons.injEq, and_true]
theorem u8_ne {a b : UInt8} : ((a.toNat : Int) != (b.toNat : Int)) = !decide (a = b) := by
  by_cases h : a = b
  · subst h; simp
  · have : (a.toNat : Int) ≠ (b.toNat : Int) := fun e => h (UInt8.toNat_inj.1 (by omega))
    simp [h, this]
set_option maxHeartbeats 400000 in
theorem same_ok (F : List Nat) (w : World) (A B : Option Addr) (c d : Nat) (la lb : List UInt8) (ha : Sl Kd.u8 F w A c la) (hb : Sl Kd.u8 F w B d lb) :
    Calls Try.prog 32 #[.slice A la.length c, .slice B lb.length d] w fun e w' => e = .returned (.bool (decide (la = lb))) ∧ ∃ n, w' = w.drewN n := by
  have la_le := ha.len_le
  have HA := Lib.hid ha
  have HB := Lib.hid hb
  clear ha hb
  by_cases hl : la.length = lb.length
  · have HL := Lib.hid hl
    have hb0 : ((la.length : Int) != (lb.length : Int)) = false := by simp [hl]
    have hl1 : la.length ≤ lb.length := by omega
    clear hl
    go_enter Try.func32, Try.ntmps32
    go_wp2
    go_loopw [5] (fun i wr => ∃ k n : Nat, k ≤ la.length ∧ i = .int .i64 k ∧ wr = w.drewN n ∧ Hid (la.take k = lb.take k)) (fun i _ => la.length - (intOf i).toNat)
    case atStart => exact ⟨0, 0, Nat.zero_le _, rfl, rfl, rfl⟩
    case round =>
      obtain ⟨k, n, hk, rfl, rfl, HT⟩ := hrel
      by_cases hlt : k < la.length
      · obtain ⟨g, o, rfl, ca⟩ := HA.out.u8_at hlt
        obtain ⟨g', o', rfl, cb⟩ := HB.out.u8_at (k := k) (by omega)
        go_wp2
        go_quiet (fail)
        rw [u8_ne]
        have ht := take_eq_iff k HL.out hlt HT.out
        by_cases he : la[k] = lb[k]
        · rw [decide_eq_true he]
          have HT' := Lib.hid (ht.2 he)
          clear he ht
          go_wp2
          go_roundw
          case rel => exact ⟨k + 1, n + nq, by omega, by go_num, rfl, HT'⟩
          case measure => simp [intOf]; omega
        · rw [decide_eq_false he]
          have hne : Hid (la ≠ lb) := fun e => he (by subst e; rfl)
          clear he ht
          go_wp2
          go_ret
          exact ⟨by simp [hne.out], _, by rw [World.drewN_drewN]⟩
      · have he : la = lb := by
          have := HT.out
          rwa [List.take_of_length_le (by omega), List.take_of_length_le (by have := HL.out; omega)] at this
        have HE := Lib.hid he
        clear he
        go_wp2
        go_ret
        exact ⟨by simp [HE.out], _, rfl⟩
  · have hne : Hid (la ≠ lb) := fun e => hl (by subst e; rfl)
    have hb0 : ((la.length : Int) != (lb.length : Int)) = true := by simp; omega
    go_enter Try.func32, Try.ntmps32
    go_wp2
    go_ret
    exact ⟨by simp [hne.out], 0, rfl⟩

theorem int_ne {a b : Int} : (a != b) = !decide (a = b) := by
  by_cases h : a = b <;> simp [h]
set_option maxHeartbeats 400000 in
theorem ints_ok (F : List Nat) (w : World) (A B : Option Addr) (c d : Nat) (la lb : List Int) (ha : Sl Kd.int F w A c la) (hb : Sl Kd.int F w B d lb) :
    Calls Try.prog 38 #[.slice A la.length c, .slice B lb.length d] w fun e w' => e = .returned (.bool (decide (la = lb))) ∧ ∃ n, w' = w.drewN n := by
  have la_le := ha.len_le
  have HA := Lib.hid ha
  have HB := Lib.hid hb
  clear ha hb
  by_cases hl : la.length = lb.length
  · have HL := Lib.hid hl
    have hb0 : ((la.length : Int) != (lb.length : Int)) = false := by simp [hl]
    have hl1 : la.length ≤ lb.length := by omega
    clear hl
    go_enter Try.func38, Try.ntmps38
    go_wp2
    go_loopw [5] (fun i wr => ∃ k n : Nat, k ≤ la.length ∧ i = .int .i64 k ∧ wr = w.drewN n ∧ Hid (la.take k = lb.take k)) (fun i _ => la.length - (intOf i).toNat)
    case atStart => exact ⟨0, 0, Nat.zero_le _, rfl, rfl, rfl⟩
    case round =>
      obtain ⟨k, n, hk, rfl, rfl, HT⟩ := hrel
      by_cases hlt : k < la.length
      · obtain ⟨g, o, rfl, ca, -⟩ := HA.out.int_at hlt
        obtain ⟨g', o', rfl, cb, -⟩ := HB.out.int_at (k := k) (by omega)
        go_wp2
        go_quiet (fail)
        rw [int_ne]
        have ht := take_eq_iff k HL.out hlt HT.out
        by_cases he : la[k] = lb[k]
        · rw [decide_eq_true he]
          have HT' := Lib.hid (ht.2 he)
          clear he ht
          go_wp2
          go_roundw
          case rel => exact ⟨k + 1, n + nq, by omega, by go_num, rfl, HT'⟩
          case measure => simp [intOf]; omega
        · rw [decide_eq_false he]
          have hne : Hid (la ≠ lb) := fun e => he (by subst e; rfl)
          clear he ht
          go_wp2
          go_ret
          exact ⟨by simp [hne.out], _, by rw [World.drewN_drewN]⟩
      · have he : la = lb := by
          have := HT.out
          rwa [List.take_of_length_le (by omega), List.take_of_length_le (by have := HL.out; omega)] at this
        have HE := Lib.hid he
        clear he
        go_wp2
        go_ret
        exact ⟨by simp [HE.out], _, rfl⟩
  · have hne : Hid (la ≠ lb) := fun e => hl (by subst e; rfl)
    have hb0 : ((la.length : Int) != (lb.length : Int)) = true := by simp; omega
    go_enter Try.func38, Try.ntmps38
    go_wp2
    go_ret
    exact ⟨by simp [hne.out], 0, rfl⟩
end Go.Proofs.Ytkmnjccklnfcdaa
