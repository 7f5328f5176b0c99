/- Contracts: New, Free, Bytes; the reference's Bytes. -/
import Derived.Test.YtbbhbgccmekheaaDoorSpace3
namespace Go.Proofs.YtbbhbgccmekheaaDoor
open Go Go.RowKit Bst
set_option linter.unusedVariables false
set_option linter.unusedSimpArgs false

theorem words_new (n : Nat) : Words (List.replicate ((n + 63) / 64) 0) (List.replicate n false) := by
  refine ⟨by simp, fun i hi => ?_, fun i hi j hj => ?_⟩
  · simp at hi; simp [List.getD_eq_getElem?_getD, hi]
  · simp at hi
    simp only [List.getD_eq_getElem?_getD, List.getElem?_replicate, if_pos hi]
    split <;> simp
theorem new_ok (w : World) (n : Nat) (hn : n ≤ 16384) :
    Calls Tryd.prog 8 #[.int .i64 (n : Int)] w fun e w' => ∃ b g, e = .returned (.tuple #[.pointer (some ⟨b, 0, none⟩), .int .i64 0]) ∧ SpaceAt w' b g (List.replicate n false) ∧ Ext w w' ∧ w.heap.size ≤ b ∧ w.heap.size ≤ g ∧ b < w'.heap.size ∧ g < w'.heap.size := by
  have d0 : decide ((n : Int) < 0) = false := decide_eq_false (by omega)
  have d1 : decide (16384 < n) = false := decide_eq_false (by omega)
  go_enter Tryd.func8, Tryd.ntmps8
  go_wp2_with (at_make; go_must (refine wp_make et_u64 rfl rfl _ _ (by rfl) w ((n + 63) / 64) (by rfl) (by rfl) (by omega) (by omega) (by omega) (by omega) ?_))
  go_ret2
  have hh := heap_alloc_new (w.alloc (.cells (Array.replicate ((n + 63) / 64) (Value.int .u64 0)) 69)) (.cells #[.int .i64 (n : Int), .int .i64 (n : Int), .slice (some ⟨w.heap.size, 0, none⟩) ((n + 63) / 64) ((n + 63) / 64), .bool true] 65)
  rw [World.size_alloc] at hh
  refine ⟨w.heap.size + 1, w.heap.size, rfl, ⟨by omega, by simpa using hn, ⟨65, (n + 63) / 64, by simp, ?_⟩, ?_⟩, (Ext.alloc _ _).trans (Ext.alloc _ _), by omega, by omega, by simp, by simp; omega⟩
  · rw [List.length_replicate, freeN_replicate]
    exact hh
  · refine ⟨List.replicate ((n + 63) / 64) 0, 69, ?_, words_new n⟩
    rw [Below.heap_alloc _ _ _ (by simp), heap_alloc_new]
    simp
theorem new_bad (w : World) (n : Int) (hn : n < 0 ∨ 16384 < n) :
    Calls Tryd.prog 8 #[.int .i64 n] w fun e w' => e = .returned (.tuple #[.pointer none, .int .i64 2]) ∧ w = w' := by
  by_cases h : n < 0
  · have d0 : decide (n < 0) = true := decide_eq_true h
    clear hn
    go_enter Tryd.func8, Tryd.ntmps8
    go_wp2
    go_ret2
    exact ⟨rfl, rfl⟩
  · have d0 : decide (n < 0) = false := decide_eq_false h
    have d1 : decide (16384 < n) = true := decide_eq_true (by omega)
    clear hn
    go_enter Tryd.func8, Tryd.ntmps8
    go_wp2
    go_ret2
    exact ⟨rfl, rfl⟩
theorem free_ok (w : World) (b g : Nat) (T : List Bool) (h : SpaceAt w b g T) :
    Calls Tryd.prog 9 #[.pointer (some ⟨b, 0, none⟩)] w fun e w' => e = .returned (.int .i64 (freeN T : Int)) ∧ w = w' := by
  obtain ⟨-, c1, -, -⟩ := h.head
  clear h
  go_enter Tryd.func9, Tryd.ntmps9
  go_wp2
  go_ret
  exact ⟨rfl, rfl⟩
theorem free_nil (w : World) : Calls Tryd.prog 9 #[.pointer none] w fun e w' => e = .returned (.int .i64 0) ∧ w = w' := by
  go_enter Tryd.func9, Tryd.ntmps9
  go_wp2
  go_ret
  exact ⟨rfl, rfl⟩
set_option maxHeartbeats 1000000 in
theorem bytes_ok (w : World) (b g : Nat) (T : List Bool) (h : SpaceAt w b g T) :
    Calls Tryd.prog 19 #[.pointer (some ⟨b, 0, none⟩)] w fun e w' => ∃ r c, e = .returned (.slice (some ⟨r, 0, none⟩) (bytesS T).length c) ∧ Row encU8 w' r (bytesS T) ∧ w.heap.size ≤ r ∧ (bytesS T).length ≤ c ∧ Ext w w' := by
  obtain ⟨c0, -, -, -⟩ := h.head
  have hs := h.size
  have H := Lib.hid h
  clear h
  go_enter Tryd.func19, Tryd.ntmps19
  go_wp2_with (at_make; go_must (refine wp_make et_u8 rfl rfl _ _ (by rfl) w ((T.length + 7) / 8) (by rfl) (by rfl) (by omega) (by omega) (by omega) (by omega) ?_))
  go_loopw [16] (fun i wr => ∃ k : Nat, k ≤ (T.length + 7) / 8 ∧ i = .int .i64 (k : Int) ∧ Hid (Row encU8 wr w.heap.size ((bytesS T).take k ++ List.replicate ((T.length + 7) / 8 - k) 0)) ∧ Hid (Ext w wr)) (fun i _ => (T.length + 7) / 8 - (intOf i).toNat)
  case atStart =>
    refine ⟨0, Nat.zero_le _, rfl, ?_, Ext.alloc _ _⟩
    have := Row.make w encU8 ((T.length + 7) / 8) (0 : UInt8) 5
    have e0 : encU8 0 = .int .u8 0 := rfl
    rw [e0] at this
    simpa [Hid] using this
  case round =>
    obtain ⟨k, hk, rfl, HR, HE⟩ := hrel
    by_cases hlt : k < (T.length + 7) / 8
    · obtain ⟨n, x, hn, c2, cg, fg, hx, hbit, -⟩ := ((H.out.keep (HE.out.keep []) (by simp) (by simp))).word (k / 8) (by omega)
      have hn' : k / 8 < n := by omega
      have hlen : ((bytesS T).take k ++ List.replicate ((T.length + 7) / 8 - k) (0 : UInt8)).length = (T.length + 7) / 8 := by
        simp [bytesS_length]; omega
      obtain ⟨hc, hf, hset⟩ := HR.out.at_ (k := k) (by rw [hlen]; exact hlt)
      have hby := byte_of_word (T := T) (x := x) (i := k) hbit
      have hblt := byteN_lt T k
      have e1 : ((x : Int) / 2 ^ (8 * (k % 8))) = ((x / 2 ^ (8 * (k % 8)) : Nat) : Int) := by simp
      have e2 : IntKind.u8.wrap ((x : Int) / 2 ^ (8 * (k % 8))) = (byteN T k : Int) := by
        rw [e1, IntKind.wrap_u8, ← hby]; omega
      have hst := hset (UInt8.ofNat (byteN T k))
      have e3 : encU8 (UInt8.ofNat (byteN T k)) = .int .u8 (byteN T k : Int) := by
        rw [encU8, UInt8.toNat_ofNat', Nat.mod_eq_of_lt (by simpa using hblt)]
      have e4 : (((bytesS T).take k ++ List.replicate ((T.length + 7) / 8 - k) (0 : UInt8)).set k (UInt8.ofNat (byteN T k))) = (bytesS T).take (k + 1) ++ List.replicate ((T.length + 7) / 8 - (k + 1)) 0 := by
        rw [bytesS_take_succ T k hlt, List.set_append, if_neg (by simp [bytesS_length]; omega)]
        have e5 : (T.length + 7) / 8 - k = ((T.length + 7) / 8 - (k + 1)) + 1 := by omega
        have e6 : k - ((bytesS T).take k).length = 0 := by simp [bytesS_length]; omega
        rw [e5, e6, List.replicate_succ, List.set_cons_zero]
        simp
      rw [e3, e4] at hst
      have hlt2 := (HR.out.lt)
      generalize ((bytesS T).take k ++ List.replicate ((T.length + 7) / 8 - k) (0 : UInt8)) = L at *
      obtain ⟨L', hL'⟩ : ∃ y, encU8 L[k] = .int .u8 y := ⟨_, rfl⟩
      rw [hL'] at hc
      have HST := Lib.hid hst
      have HE2 := Lib.hid (show Ext w (wr.setCell ⟨w.heap.size, k, none⟩ (.int .u8 (byteN T k : Int))) from ((HE.out.keep [w.heap.size]).trans (Keep.setCell [w.heap.size] wr ⟨w.heap.size, k, none⟩ _ (by simp))).ext (by simp))
      clear hst hset hbit hby e1 e3 e4 hL' hlen hn
      go_wp2
      go_roundw
      case rel => exact ⟨k + 1, by omega, by go_num, HST.out, HE2.out⟩
      case measure => simp [intOf]; omega
    · have e1 : (bytesS T).take k ++ List.replicate ((T.length + 7) / 8 - k) 0 = bytesS T := by
        rw [List.take_of_length_le (by rw [bytesS_length]; omega), show (T.length + 7) / 8 - k = 0 by omega]; simp
      have hR := HR.out
      rw [e1] at hR
      have HR2 := Lib.hid hR
      clear e1 hR
      go_wp2
      go_ret
      exact ⟨w.heap.size, (T.length + 7) / 8, by rw [bytesS_length]; rfl, HR2.out, Nat.le_refl _, by rw [bytesS_length]; omega, HE.out⟩
end Go.Proofs.YtbbhbgccmekheaaDoor
