/- Contract: the runs of a space. -/
import Derived.Test.YtbbhbgccmekheaaDoorSpace6
namespace Go.Proofs.YtbbhbgccmekheaaDoor
open Go Go.RowKit Bst
set_option linter.unusedVariables false
set_option linter.unusedSimpArgs false

def Kd.run : Kd (Int × Int) := Kd.pair Kd.int Kd.int
theorem et_run : ET Tryd.prog 45 75 (.agg #[.int .i64 0, .int .i64 0]) 2 16 := ⟨Tryd.underlying45, info_parts (by kernel_rfl), rfl, by decide⟩
theorem Kd.run_mk {F : List Nat} {w : World} {a b : Int} (ha : InI64 a) (hb : InI64 b) : Kd.run.R F w [.int .i64 a, .int .i64 b] (a, b) := ⟨[.int .i64 a], [.int .i64 b], rfl, ⟨rfl, ha⟩, ⟨rfl, hb⟩⟩
theorem Kd.run_form {F : List Nat} {w : World} {cs : List Value} {r : Int × Int} (h : Kd.run.R F w cs r) : cs = [.int .i64 r.1, .int .i64 r.2] ∧ InI64 r.1 ∧ InI64 r.2 := by
  obtain ⟨c, d, rfl, ⟨rfl, h1⟩, ⟨rfl, h2⟩⟩ := h
  exact ⟨rfl, h1, h2⟩
theorem set_last {α : Type} {l : List α} {x : α} (h : 0 < l.length) : l.set (l.length - 1) x = l.dropLast ++ [x] := by
  apply List.ext_getElem?
  intro i
  rw [List.getElem?_set]
  by_cases hi : l.length - 1 = i
  · subst hi
    rw [if_pos rfl, if_pos (by omega), List.getElem?_append_right (by simp)]
    simp
  · rw [if_neg hi, List.getElem?_append]
    by_cases h2 : i < l.length - 1
    · simp [h2, List.getElem?_dropLast]
    · rw [List.getElem?_eq_none (by omega), if_neg (by simp; omega)]
      rw [List.getElem?_eq_none (by simp; omega)]

set_option maxHeartbeats 2000000 in
theorem runs_ok (w : World) (b g : Nat) (T : List Bool) (h : SpaceAt w b g T) :
    Calls Tryd.prog 20 #[.pointer (some ⟨b, 0, none⟩)] w fun e w' => ∃ A c, e = .returned (.slice A (runsS T T.length).length c) ∧ Sl Kd.run [] w' A c (runsS T T.length) ∧ Ext w w' := by
  obtain ⟨c0, -, -, -⟩ := h.head
  have hs := h.size
  have H := Lib.hid h
  clear h
  go_enter Tryd.func20, Tryd.ntmps20
  go_wp2
  go_loopw [3, 13] (fun out i wr => ∃ (n : Nat) (F : List Nat), n ≤ T.length ∧ i = .int .i64 (n : Int) ∧ Hid (Own Kd.run F wr w.heap.size 75 out (runsS T n)) ∧ Hid (Keep [] w F wr) ∧ Hid (∀ x ∈ F, x < wr.heap.size)) (fun _ i _ => T.length - (intOf i).toNat)
  case atStart => exact ⟨0, [], Nat.zero_le _, rfl, Own.nil _ _ _ _ _, Keep.refl _ _, by simp [Hid]⟩
  case round =>
    obtain ⟨n, F, hn, rfl, HO, HK, HF⟩ := hrel
    obtain ⟨hlen, hbd⟩ := runsS_bounds T n
    obtain ⟨A, c, rfl, hsl⟩ := HO.out.form (by omega)
    have HE := Lib.hid (HK.out.ext (by simp))
    have HS := Lib.hid (H.out.keep (HE.out.keep []) (by simp) (by simp))
    have HSL := Lib.hid hsl
    have HBD := Lib.hid hbd
    clear hsl hbd
    by_cases hlt : n < T.length
    · have HSU : Hid (runsS T (n + 1) = if T.getD n false then runsS T n else match (runsS T n).getLast? with | some r => if r.1 + r.2 = n then (runsS T n).dropLast ++ [(r.1, r.2 + 1)] else runsS T n ++ [((n : Int), 1)] | none => [((n : Int), 1)]) := rfl
      have HI : Hid (InI64 (n : Int)) := InI64.of (by omega) (by omega)
      have HI1 : Hid (InI64 1) := InI64.of (by omega) (by omega)
      generalize hR : runsS T n = R at *
      cases hb : T.getD n false
      · -- a free one
        have HSU2 := Lib.hid (HSU.out.trans (if_neg (by rw [hb]; simp)))
        have HB := Lib.hid hb
        clear hb HSU
        by_cases h0 : 0 < R.length
        · -- there is a last run
          have hne : R ≠ [] := List.ne_nil_of_length_pos h0
          have hlast : R.getLast? = some (R.getLast hne) := List.getLast?_eq_some_getLast hne
          have hidx : R.length - 1 < R.length := by omega
          have hge : R[R.length - 1] = R.getLast hne := (List.getLast_eq_getElem hne).symm
          obtain ⟨gg, cc, hv, hgF, hbase, ⟨cs, hRc, hcs⟩, hfz, hst⟩ := HO.out.at_ hidx
          injection hv with hv1 hv2 hv3
          subst hv1; subst hv3
          rw [hge] at hRc hst
          have hmem : R.getLast hne ∈ R := List.getLast_mem hne
          obtain ⟨b1, b2, b3⟩ := HBD.out _ hmem
          have HSU3 := Lib.hid (HSU2.out.trans (by rw [hlast]))
          obtain ⟨hcs2, hi1, hi2⟩ := Kd.run_form hRc
          subst hcs2
          have k0 := hcs 0 _ rfl
          have k1 := hcs 1 _ rfl
          have hsz : Kd.run.sz = 2 := rfl
          rw [hsz] at k0 k1 hst
          have hSET : ∀ f q : Int, (R.getLast hne) = (f, q) → InI64 (q + 1) → InI64 f → Own Kd.run F (wr.setCell ⟨gg, (R.length - 1) * 2 + 1, none⟩ (.int .i64 (q + 1))) w.heap.size 75 (.slice (some ⟨gg, 0, none⟩) R.length c) (R.dropLast ++ [(f, q + 1)]) := by
            intro f q e hq hf
            have := hst 1 (.int .i64 (q + 1)) (f, q + 1) (by omega) (fun ds hd _ => by
              rw [e] at hd
              obtain ⟨rfl, _, _⟩ := Kd.run_form hd
              exact Kd.run_mk hf hq)
            rwa [set_last h0] at this
          have hf1 := hfz ((R.length - 1) * 2 + 1)
          have HSET := Lib.hid hSET
          have HFZ := Lib.hid hfz
          generalize hL : R.getLast hne = rl at *
          obtain ⟨f, q⟩ := rl
          simp only at b1 b2 b3 k0 k1 hi1 hi2
          clear hst hcs hRc hfz hSET hge hlast HSU2
          obtain ⟨k, hk⟩ : ∃ k, R.length = k + 1 := ⟨R.length - 1, by omega⟩
          have HK1 := Lib.hid hk
          rw [hk, show k + 1 - 1 = k from rfl] at k0 k1 hf1
          rw [hk, show k + 1 - 1 = k from rfl] at HSET
          rw [hk] at HO HSL ⊢
          rw [Nat.add_zero] at k0
          have q0 : decide (0 < ((k : Int) + 1)) = true := decide_eq_true (by omega)
          have hkb : k < 16384 := by omega
          clear hk h0 hidx
          by_cases hend : f + q = n
          · have hend2 : (f + q == (n : Int)) = true := by simp [hend]
            have HQ : Hid (InI64 (q + 1)) := InI64.of (by omega) (by omega)
            have HI2 := Lib.hid hi1
            have HSU4 := Lib.hid (HSU3.out.trans (if_pos hend))
            have HNEW := Lib.hid (HSET.out f q rfl HQ.out HI2.out)
            clear hend hi1 hi2 HSET HSU3
            go_wp2_with (go_at_call 21; refine (has_in _ b g T _ HS.out n hlt).mono ?_; rintro e w' ⟨rfl, rfl⟩; rw [HB.out, Bool.not_false])
            go_quiet (fail)
            go_wp2
            go_roundw
            case rel => exact ⟨n + 1, F, by omega, by go_num, by rw [HSU4.out]; exact HNEW.out.ext_ (Ext.drewN _ _), (HK.out.trans (Keep.setCell F wr _ _ hgF)).trans ((Ext.drewN _ _).keep F), fun x hx => by simpa using HF.out x hx⟩
            case measure => simp [intOf] <;> omega
          · have hend2 : (f + q == (n : Int)) = false := by simp [hend]
            have HSU4 := Lib.hid (HSU3.out.trans (if_neg hend))
            clear hend hi1 hi2 HSET HSU3
            go_wp2_with (go_at_call 21; refine (has_in _ b g T _ HS.out n hlt).mono ?_; rintro e w' ⟨rfl, rfl⟩; rw [HB.out, Bool.not_false])
            go_quiet (fail)
            have HOD := Lib.hid (HO.out.ext_ (Ext.drewN wr nq))
            have HFD : Hid (∀ x ∈ F, x < (wr.drewN nq).heap.size) := fun x hx => by simpa using HF.out x hx
            have HKD := Lib.hid (HK.out.trans ((Ext.drewN wr nq).keep F))
            generalize wr.drewN nq = wd at *
            have HBASE := Lib.hid (HKD.out.size)
            go_wp2_with (at_builtin; go_must (refine wp_app1 (K := Kd.run) et_run rfl _ _ (by rfl) wd [.int .i64 (n : Int), .int .i64 1] w.heap.size F (.slice (some ⟨gg, 0, none⟩) (k + 1) c) R ((n : Int), 1) (by rfl) (by rfl) (by simp) (by exact HOD.out) (Kd.run_mk HI.out HI1.out) HFD.out (by omega) (by omega) HBASE.out ?_); intro v' w2 F' hown2 hk2 hk0 hn2 hF2)
            rw [← HSU4.out] at hown2
            have HO2 := Lib.hid hown2
            have HK2 := Lib.hid (HKD.out.trans hk2)
            have HN2 := Lib.hid hn2
            clear hown2 hk2 hk0 hn2 hF2
            go_wp2
            go_roundw
            case rel => exact ⟨n + 1, F', by omega, by go_num, HO2.out, HK2.out, HN2.out⟩
            case measure => simp [intOf] <;> omega
        · have hR0 : R = [] := List.eq_nil_of_length_eq_zero (by omega)
          have HSU4 := Lib.hid (show runsS T (n + 1) = [] ++ [((n : Int), 1)] by rw [HSU2.out, hR0]; rfl)
          subst hR0
          have HBASE := Lib.hid (HK.out.size)
          have q0 : decide ((0 : Int) < 0) = false := rfl
          go_wp2_with (go_at_call 21; refine (has_in _ b g T _ HS.out n hlt).mono ?_; rintro e w' ⟨rfl, rfl⟩; rw [HB.out, Bool.not_false])
          go_quiet (fail)
          have HOD := Lib.hid (HO.out.ext_ (Ext.drewN wr nq))
          have HFD : Hid (∀ x ∈ F, x < (wr.drewN nq).heap.size) := fun x hx => by simpa using HF.out x hx
          have HKD := Lib.hid (HK.out.trans ((Ext.drewN wr nq).keep F))
          generalize wr.drewN nq = wd at *
          have HBASE := Lib.hid (HKD.out.size)
          go_wp2_with (at_builtin; go_must (refine wp_app1 (K := Kd.run) et_run rfl _ _ (by rfl) wd [.int .i64 (n : Int), .int .i64 1] w.heap.size F (.slice A ([] : List (Int × Int)).length c) [] ((n : Int), 1) (by rfl) (by rfl) (by simp) (by exact HOD.out) (Kd.run_mk HI.out HI1.out) HFD.out (by simp) (by simp) HBASE.out ?_); intro v' w2 F' hown2 hk2 hk0 hn2 hF2)
          rw [← HSU4.out] at hown2
          have HO2 := Lib.hid hown2
          have HK2 := Lib.hid (HKD.out.trans hk2)
          have HN2 := Lib.hid hn2
          clear hown2 hk2 hk0 hn2 hF2
          go_wp2
          go_roundw
          case rel => exact ⟨n + 1, F', by omega, by go_num, HO2.out, HK2.out, HN2.out⟩
          case measure => simp [intOf] <;> omega
      · -- a taken one
        have HSU2 := Lib.hid (HSU.out.trans (if_pos hb))
        have HB := Lib.hid hb
        clear hb HSU
        go_wp2_with (go_at_call 21; refine (has_in _ b g T _ HS.out n hlt).mono ?_; rintro e w' ⟨rfl, rfl⟩; rw [HB.out, Bool.not_true])
        go_roundw
        case rel => exact ⟨n + 1, F, by omega, by go_num, by rw [HSU2.out]; exact HO.out, HK.out, HF.out⟩
        case measure => simp [intOf] <;> omega
    · have hn2 : n = T.length := by omega
      subst hn2
      have HS2 := Lib.hid (HSL.out [] (by simp))
      go_wp2
      go_ret
      exact ⟨A, c, rfl, HS2.out, HE.out⟩
end Go.Proofs.YtbbhbgccmekheaaDoor
