/- Contract: the reference's Bytes. -/
import Derived.Test.YtbbhbgccmekheaaDoorSpace6
namespace Go.Proofs.YtbbhbgccmekheaaDoor
open Go Go.RowKit Bst
set_option linter.unusedVariables false
set_option linter.unusedSimpArgs false

set_option maxHeartbeats 2000000 in
theorem bytes19_ok (w : World) (m : Nat) (T : List Bool) (h : BoolsAt w m T) :
    Calls Tryd.prog 38 #[.slice (some ⟨m, 0, none⟩) T.length T.length] w fun e w' => ∃ A c, e = .returned (.slice A (bytesS T).length c) ∧ Sl Kd.u8 [] w' A c (bytesS T) ∧ Ext w w' := by
  have hs := h.size
  have hbl := bytesS_length T
  have H := Lib.hid h
  have HBL := Lib.hid hbl
  clear h hbl
  go_enter Tryd.func38, Tryd.ntmps38
  go_wp2
  go_loopw [3, 4] (fun out i wr => ∃ (q : Nat) (F : List Nat), q ≤ (T.length + 7) / 8 ∧ i = .int .i64 (8 * q : Int) ∧ Hid (Own Kd.u8 F wr w.heap.size 5 out ((bytesS T).take q)) ∧ Hid (Keep [] w F wr) ∧ Hid (∀ x ∈ F, x < wr.heap.size)) (fun _ i _ => (T.length + 8) - (intOf i).toNat)
  case atStart => exact ⟨0, [], Nat.zero_le _, rfl, Own.nil _ _ _ _ _, Keep.refl _ _, by simp [Hid]⟩
  case round =>
    obtain ⟨q, F, hq, rfl, HO, HK, HF⟩ := hrel
    have hlen : ((bytesS T).take q).length = q := by rw [List.length_take, HBL.out]; omega
    obtain ⟨A, c, rfl, hsl⟩ := HO.out.form (by rw [hlen]; omega)
    have HSL := Lib.hid hsl
    clear hsl
    rw [hlen] at HO HSL ⊢
    have HE := Lib.hid (HK.out.ext (by simp))
    have HB := Lib.hid (H.out.keep (HE.out.keep []) (by simp))
    by_cases hlt : q < (T.length + 7) / 8
    · have hlt2 : 8 * q < T.length := by omega
      go_wp2
      go_loop [5, 6] (fun cv kv => ∃ p : Nat, p ≤ 8 ∧ kv = .int .i64 ((p : Int) - 1) ∧ cv = .int .i64 (highN T q p : Int)) (fun _ kv => (intOf kv + 1).toNat)
      case atStart => exact ⟨8, Nat.le_refl _, rfl, rfl⟩
      case round =>
        obtain ⟨p, hp, rfl, rfl⟩ := hrel
        rcases Nat.eq_zero_or_pos p with h0 | h0
        · subst h0
          rw [highN_zero]
          have hblt := byteN_lt T q
          have HTS := Lib.hid (bytesS_take_succ T q hlt)
          have HR : Hid (Kd.u8.R F wr [.int .u8 (byteN T q : Int)] (UInt8.ofNat (byteN T q))) := by
            show _ = _
            rw [UInt8.toNat_ofNat', Nat.mod_eq_of_lt (by simpa using hblt)]
          have HBASE := Lib.hid HE.out.size
          generalize byteN T q = by8 at *
          go_wp2_with (at_builtin; go_must (refine wp_app1 (K := Kd.u8) et_u8 rfl _ _ (by rfl) wr [.int .u8 (by8 : Int)] w.heap.size F (.slice A q c) ((bytesS T).take q) (UInt8.ofNat by8) (by rfl) (by rfl) (by simp) (by exact HO.out) HR.out HF.out (by rw [hlen]; omega) (by rw [hlen]; omega) HBASE.out ?_); intro v' w2 F' hown2 hk2 hk0 hn2 hF2)
          rw [← HTS.out] at hown2
          have HO2 := Lib.hid hown2
          have HK2 := Lib.hid (HK.out.trans hk2)
          have HN2 := Lib.hid hn2
          clear hown2 hk2 hk0 hn2 hF2
          go_wp2
          go_roundw
          case rel => exact ⟨q + 1, F', by omega, by simp; omega, HO2.out, HK2.out, HN2.out⟩
          case measure => simp [intOf]; omega
        · obtain ⟨k, rfl⟩ : ∃ k, p = k + 1 := ⟨p - 1, by omega⟩
          have hst := highN_step T q k (by omega)
          have hcl := highN_lt T q (k + 1)
          have HST := Lib.hid hst
          clear hst
          generalize highN T q (k + 1) = cc at *
          by_cases hin : 8 * q + k < T.length
          · obtain ⟨hc, -, -⟩ := HB.out.at_ hin
            cases hb : T.getD (8 * q + k) false
            · rw [hb] at hc
              have HS2 := Lib.hid (show highN T q k = 2 * cc by rw [HST.out, hb]; rfl)
              clear hb HST
              go_wp2
              go_round
              case rel => exact ⟨k, by omega, by simp, by rw [HS2.out]; simp⟩
              case measure => simp [intOf] <;> omega
            · rw [hb] at hc
              have HS2 := Lib.hid (show highN T q k = 2 * cc + 1 by rw [HST.out, hb]; rfl)
              clear hb HST
              go_wp2
              go_round
              case rel => exact ⟨k, by omega, by simp, by rw [HS2.out]; simp⟩
              case measure => simp [intOf] <;> omega
          · have hb : T.getD (8 * q + k) false = false := by simp [List.getD_eq_getElem?_getD, List.getElem?_eq_none (show T.length ≤ 8 * q + k by omega)]
            have HS2 := Lib.hid (show highN T q k = 2 * cc by rw [HST.out, hb]; rfl)
            clear hb HST
            go_wp2
            go_round
            case rel => exact ⟨k, by omega, by simp, by rw [HS2.out]; simp⟩
            case measure => simp [intOf] <;> omega
    · have e1 : (bytesS T).take q = bytesS T := List.take_of_length_le (by rw [HBL.out]; omega)
      have hq2 : q = (bytesS T).length := by rw [HBL.out]; omega
      have hS := HSL.out [] (by simp)
      rw [e1] at hS
      have HS2 := Lib.hid hS
      have HQ := Lib.hid hq2
      clear e1 hS hq2
      go_wp2
      go_ret
      exact ⟨A, c, by rw [← HQ.out]; rfl, HS2.out, HE.out⟩
end Go.Proofs.YtbbhbgccmekheaaDoor
