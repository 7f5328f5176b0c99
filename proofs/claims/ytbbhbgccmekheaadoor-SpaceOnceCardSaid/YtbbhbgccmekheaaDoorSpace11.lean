/- Contract: a space read from bytes. -/
import Derived.Test.YtbbhbgccmekheaaDoorSpace10
import Derived.StillTailTactics
import Derived.Deep.RegionWith
import Derived.RegionTactic
import Derived.BigRegion
import Derived.Shelf.Small.Bits
namespace Go.Proofs.YtbbhbgccmekheaaDoor
open Go Go.RowKit Bst
set_option linter.unusedVariables false
set_option linter.unusedSimpArgs false

theorem ones_int (x : Int) (w : World) (h0 : 0 ≤ x) (h1 : x ≤ 255) : Calls Tryd.prog 39 #[.int .u8 x] w fun e w' => e = .returned (.int .i64 (Lib.onesCount x.toNat)) ∧ w' = w := by
  have e := Lib.hid (Lib.pop8_int x h0 h1)
  go_enter Tryd.func39, Tryd.ntmps39
  go_wp2
  go_ret
  refine ⟨ret_int ?_, rfl⟩
  have e2 := e.out
  unfold wrap64
  omega
theorem ones_ok (x : Nat) (hx : x < 256) (w : World) : Calls Tryd.prog 39 #[.int .u8 (x : Int)] w fun e w' => e = .returned (.int .i64 (Lib.onesCount x : Int)) ∧ w' = w := by
  have h := ones_int (x : Int) w (by omega) (by omega)
  rwa [Int.toNat_natCast] at h
theorem SpaceRaw.setWord {w : World} {b g : Nat} {T T' : List Bool} {free : Int} (h : SpaceRaw w b g T free) (i : Nat) (hi : i < (T.length + 63) / 64) (x : Nat) (hl : T'.length = T.length) (hx : x < 18446744073709551616)
    (hbit : ∀ j, j < 64 → x.testBit j = T'.getD (64 * i + j) false) (ho : ∀ k, k / 64 ≠ i → T'.getD k false = T.getD k false) : SpaceRaw (w.setCell ⟨g, i, none⟩ (.int .u64 (x : Int))) b g T' free := by
  obtain ⟨t, n, hn, hb⟩ := h.blk
  obtain ⟨ws, t2, hg, hw⟩ := h.words
  have hil : i < ws.length := by rw [hw.len]; exact hi
  refine ⟨h.ne, by rw [hl]; exact h.size, ⟨t, n, by rw [hl]; exact hn, by rw [hl]; exact set_far hb h.ne _ _⟩, ⟨_, t2, ?_, hw.setWord hil hl hx hbit ho⟩⟩
  rw [set_blk hg]
  congr 2
  apply Array.ext'
  simp [List.map_set]
theorem read_bad (w : World) (n : Int) (A : Option Addr) (l c : Nat) (hn : n < 0 ∨ 16384 < n) :
    Calls Tryd.prog 22 #[.int .i64 n, .slice A l c] w fun e w' => e = .returned (.tuple #[.pointer none, .int .i64 2]) ∧ w = w' := by
  go_enter Tryd.func22, Tryd.ntmps22
  go_wp2_with fail
  refine (new_bad w n hn).mono ?_
  rintro e w' ⟨rfl, rfl⟩
  go_wp2
  go_ret2
  exact ⟨rfl, rfl⟩
set_option maxHeartbeats 4000000 in
theorem read_ok (F : List Nat) (w : World) (n : Nat) (A : Option Addr) (c : Nat) (b : List UInt8) (hb : Sl Kd.u8 F w A c b) (hn : n ≤ 16384) :
    Calls Tryd.prog 22 #[.int .i64 (n : Int), .slice A b.length c] w fun e w' =>
      (readE n b ≠ 0 ∧ e = .returned (.tuple #[.pointer none, .int .i64 (readE n b)]) ∧ Ext w w') ∨
      (readE n b = 0 ∧ ∃ p g, e = .returned (.tuple #[.pointer (some ⟨p, 0, none⟩), .int .i64 0]) ∧ SpaceAt w' p g (partS n b n) ∧ w.heap.size ≤ p ∧ w.heap.size ≤ g ∧ Ext w w') := by
  have HB := Lib.hid hb
  have hbl := hb.len_le
  clear hb
  go_enter Tryd.func22, Tryd.ntmps22
  go_wp2_with fail
  refine (new_ok w n hn).mono ?_
  rintro e w1 ⟨p, g, rfl, hsp, hext, hp, hg, hp1, hg1⟩
  have HS := Lib.hid hsp
  have HE := Lib.hid hext
  have HBB := Lib.hid (hext.size)
  clear hsp hext
  by_cases h1 : b.length < (n + 7) / 8
  · have hE : Hid (readE n b = 10) := by show readE n b = 10; unfold readE; rw [if_pos h1]
    have d1 : decide ((b.length : Int) < ((n : Int) + 7) / 8) = true := decide_eq_true (by omega)
    clear h1
    go_wp2
    go_ret2
    exact .inl ⟨by rw [hE.out]; decide, by rw [hE.out]; rfl, HE.out⟩
  · have d1 : decide ((b.length : Int) < ((n : Int) + 7) / 8) = false := decide_eq_false (by omega)
    by_cases h2 : (n + 7) / 8 < b.length
    · have hE : Hid (readE n b = 12) := by show readE n b = 12; unfold readE; rw [if_neg h1, if_pos h2]
      have d2 : decide (((n : Int) + 7) / 8 < (b.length : Int)) = true := decide_eq_true (by omega)
      clear h1 h2
      go_wp2
      go_ret2
      exact .inl ⟨by rw [hE.out]; decide, by rw [hE.out]; rfl, HE.out⟩
    · have d2 : decide (((n : Int) + 7) / 8 < (b.length : Int)) = false := decide_eq_false (by omega)
      have hlen : b.length = (n + 7) / 8 := by omega
      have HLEN := Lib.hid hlen
      have hN1 := Lib.hid h1
      have hN2 := Lib.hid h2
      have hcase : (readE n b = 0 ∧ ((n : Int) % 8 != 0) = false) ∨ (∃ q ag ao, b.length = q + 1 ∧ ((n : Int) + 7) / 8 = (q : Int) + 1 ∧ ((n : Int) % 8 != 0) = true ∧ A = some ⟨ag, ao, none⟩ ∧ q < b.length ∧ ∃ cq : Nat, w1.cell? ⟨ag, ao + q, none⟩ = some (.int .u8 (cq : Int)) ∧ cq < 256 ∧
          ((readE n b = 0 ∧ ((cq : Int) / 2 ^ (n % 8) != 0) = false) ∨ (readE n b = 11 ∧ ((cq : Int) / 2 ^ (n % 8) != 0) = true))) := by
        by_cases h0 : n % 8 = 0
        · refine .inl ⟨?_, by rw [bne_eq_false_iff_eq]; omega⟩
          unfold readE; rw [if_neg h1, if_neg h2, if_neg (by omega)]
        · obtain ⟨ag, ao, hA, hcell⟩ := (HB.out.ext (HE.out.keep F)).u8_at (k := b.length - 1) (by omega)
          have hgq : b.getD ((n + 7) / 8 - 1) 0 = b[b.length - 1]'(by omega) := by
            simp only [show (n + 7) / 8 - 1 = b.length - 1 by omega]; simp [List.getD_eq_getElem?_getD, show b.length - 1 < b.length by omega]
          have e3 : readE n b = if n % 8 ≠ 0 ∧ (b[b.length - 1]'(by omega)).toNat / 2 ^ (n % 8) ≠ 0 then 11 else 0 := by
            unfold readE; rw [if_neg h1, if_neg h2, hgq]
          have hc8 := u8_lt (b[b.length - 1]'(by omega))
          refine .inr ⟨b.length - 1, ag, ao, by omega, by omega, by rw [bne_iff_ne]; omega, hA, by omega, _, hcell, hc8, ?_⟩
          generalize (b[b.length - 1]'(by omega)).toNat = cq at *
          have en : ((cq : Int) / 2 ^ (n % 8)) = ((cq / 2 ^ (n % 8) : Nat) : Int) := by simp
          by_cases hz : cq / 2 ^ (n % 8) = 0
          · exact .inl ⟨by rw [e3, if_neg (by omega)], by rw [bne_eq_false_iff_eq, en, hz]; rfl⟩
          · exact .inr ⟨by rw [e3, if_pos ⟨h0, hz⟩], by rw [bne_iff_ne, en]; omega⟩
      clear h1 h2 hlen
      by_cases hE : readE n b = 0
      · have HE0 := Lib.hid hE
        have hcase2 : ((n : Int) % 8 != 0) = false ∨ (∃ q ag ao, b.length = q + 1 ∧ ((n : Int) + 7) / 8 = (q : Int) + 1 ∧ ((n : Int) % 8 != 0) = true ∧ A = some ⟨ag, ao, none⟩ ∧ q < b.length ∧ ∃ cq : Nat, w1.cell? ⟨ag, ao + q, none⟩ = some (.int .u8 (cq : Int)) ∧ cq < 256 ∧ ((cq : Int) / 2 ^ (n % 8) != 0) = false) := by
          rcases hcase with ⟨_, h⟩ | ⟨q, ag, ao, a1, a2, a3, a4, a5, cq, a6, a7, ⟨_, h⟩ | ⟨h, _⟩⟩
          · exact .inl h
          · exact .inr ⟨q, ag, ao, a1, a2, a3, a4, a5, cq, a6, a7, h⟩
          · rw [hE] at h; simp at h
        clear hcase hE
        rcases hcase2 with d3 | ⟨q, ag, ao, a1, a2, d3, rfl, a5, cq, a6, a7, hzz⟩
        all_goals first
          | (have d1' : decide ((b.length : Int) < (q : Int) + 1) = false := decide_eq_false (by omega)
             have d2' : decide ((q : Int) + 1 < (b.length : Int)) = false := decide_eq_false (by omega)
             have hq16 : q ≤ 2048 := by omega
             have A1 := Lib.hid a1
             clear a1 d1 d2
             go_wp2)
          | go_wp2
        all_goals try (have A2 := Lib.hid a2; clear a2)
        all_goals
          go_loopw [51] (fun iv wr => ∃ i : Nat, i ≤ b.length ∧ iv = .int .i64 (i : Int) ∧ Hid (SpaceAt wr p g (partS n b (8 * i))) ∧ Hid (Ext w wr)) (fun iv _ => b.length - (intOf iv).toNat)
          case atStart => exact ⟨0, Nat.zero_le _, rfl, by rw [Nat.mul_zero, partS_zero]; exact HS.out, HE.out⟩
          case round =>
            obtain ⟨i, hi, rfl, HSi, HEi⟩ := hrel
            by_cases hlt : i < b.length
            · obtain ⟨ag2, ao2, hA2, hcell⟩ := (HB.out.ext (HEi.out.keep F)).u8_at (k := i) hlt
              have hi64 : i / 64 ≤ i := by omega
              have hidx : i / 8 < ((partS n b (8 * i)).length + 63) / 64 := by rw [partS_length]; have := HLEN.out; omega
              obtain ⟨nn, x, hnn, c2, cg, fg, hx, hbit, -⟩ := HSi.out.word (i / 8) hidx
              have hnn' : i / 8 < nn := by omega
              have hc8 := u8_lt b[i]
              have hob := or_byte_bit HE0.out hlt hbit
              have hol := or_lt x b[i].toNat (i % 8) hx hc8 (by omega)
              have hset := HSi.out.setWord (i / 8) hidx _ (T' := partS n b (8 * (i + 1))) (by rw [partS_length, partS_length]) hol hob (fun k hk => part_other hk)
              have hor := or_shl x b[i].toNat (i % 8) hx hc8 (by omega)
              rw [← hor] at hset
              have HFP := Lib.hid (freeN_part HE0.out hlt)
              have hfl := freeN_le (partS n b (8 * i))
              rw [partS_length] at hfl
              have HSET := Lib.hid hset
              generalize b[i].toNat = ci at *
              have HOC := Lib.hid (onesCount_u8 ci hc8)
              have HK := Lib.hid (show Ext w (wr.setCell ⟨g, i / 8, none⟩ (.int .u64 (bits .or .u64 (x : Int) (IntKind.u64.wrap ((ci : Int) * 2 ^ (8 * (i % 8))))))) from ((HEi.out.keep [g]).trans (Keep.setCell [g] wr ⟨g, i / 8, none⟩ _ (by simp))).ext (by simp; exact hg))
              first
                | subst hA2
                | (injection hA2 with hA2; injection hA2 with hA3 hA4; subst hA3; subst hA4)
              clear hbit hob hol hset hor hidx hnn
              go_wp2
              obtain ⟨-, c1, -, f1⟩ := HSET.out.head
              generalize wr.setCell ⟨g, i / 8, none⟩ (.int .u64 (bits .or .u64 (x : Int) (IntKind.u64.wrap ((ci : Int) * 2 ^ (8 * (i % 8)))))) = w2 at *
              have hfr := HSET.out.refree (freeN (partS n b (8 * (i + 1))))
              have hkk : Ext w ((w2.setCell ⟨p, 1, none⟩ (.int .i64 (freeN (partS n b (8 * (i + 1))) : Int))).drew) := (((HK.out.keep [p]).trans (Keep.setCell [p] w2 ⟨p, 1, none⟩ _ (by simp))).ext (by simp; exact hp)).trans (Ext.drew _)
              have hwr : IntKind.i64.wrap ((freeN (partS n b (8 * i)) : Int) - (Lib.onesCount ci : Int)) = (freeN (partS n b (8 * (i + 1))) : Int) := by
                have := HFP.out
                rw [IntWalk.i64_in _ (by omega)]; omega
              have HFR := Lib.hid hfr
              have HKK := Lib.hid hkk
              have HWR := Lib.hid hwr
              clear hfr hkk hwr
              go_region_with ((go_at_call 39; refine (ones_ok ci hc8 _).mono ?_; rintro e w' ⟨rfl, rfl⟩))
              all_goals
                rw [HWR.out]
                go_wp2
                go_roundw
                case rel => exact ⟨i + 1, by omega, by go_num, SpaceRaw.keep HFR.out ((Ext.drew _).keep []) (by simp) (by simp), HKK.out⟩
                case measure => simp [intOf] <;> omega
            · have hF : partS n b (8 * i) = partS n b n := partS_full n b _ _ (by have := HLEN.out; omega) (Nat.le_refl _)
              have hS2 := HSi.out
              rw [hF] at hS2
              have HS2 := Lib.hid hS2
              clear hF hS2
              go_wp2
              go_ret2
              exact .inr ⟨HE0.out, p, g, rfl, HS2.out, hp, hg, HEi.out⟩
      · rcases hcase with ⟨h, _⟩ | ⟨q, ag, ao, a1, a2, d3, rfl, a5, cq, a6, a7, ⟨h, _⟩ | ⟨h11, hzz⟩⟩
        · exact absurd h hE
        · exact absurd h hE
        · have d1' : decide ((b.length : Int) < (q : Int) + 1) = false := decide_eq_false (by omega)
          have d2' : decide ((q : Int) + 1 < (b.length : Int)) = false := decide_eq_false (by omega)
          have hq16 : q ≤ 2048 := by omega
          have H11 := Lib.hid h11
          clear a1 d1 d2 h11 hE
          go_wp2
          go_ret2
          exact .inl ⟨by rw [H11.out]; decide, by rw [H11.out]; rfl, HE.out⟩
end Go.Proofs.YtbbhbgccmekheaaDoor
