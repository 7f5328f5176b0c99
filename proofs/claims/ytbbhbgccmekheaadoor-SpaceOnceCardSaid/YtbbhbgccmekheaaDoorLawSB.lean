/- The statements about spaces: the first example; a space as bytes. -/
import Derived.Test.YtbbhbgccmekheaaDoorLaw19
import Derived.Test.YtbbhbgccmekheaaDoorSpace10
import Derived.Test.YtbbhbgccmekheaaDoorSpace11
namespace Go.Proofs.YtbbhbgccmekheaaDoor
open Go Go.RowKit Bst
set_option linter.unusedVariables false
set_option linter.unusedSimpArgs false

set_option maxRecDepth 100000 in
set_option maxHeartbeats 1000000 in
theorem awake19_ok (w : World) (ht : Tab w) (hg : 0 < w.heap.size) :
    Calls Tryd.prog 7 #[] w fun e w' => e = .returned (.bool true) ∧ Ext w w' := by
  go_enter Tryd.func7, Tryd.ntmps7
  go_wp2_with (go_at_call 8; refine (new_ok w 3 (by omega)).mono ?_)
  rintro e w1 ⟨b, g, rfl, hs, hx, hb, hg1, hb2, hg2⟩
  have HX := Lib.hid hx
  have HS := Lib.hid hs
  have HT := Lib.hid (Tab.keep ht (hx.keep []) (by simp))
  clear hx hs ht
  go_wp2_with (go_at_call 12; refine (take_ok w1 b g _ HS.out 2 (by decide) HT.out (by simp; omega)).mono ?_)
  rintro e w2 ⟨A, c, rfl, hsl, hs2, hk, -⟩
  have hx2 : Ext w w2 := ((HX.out.keep [b, g]).trans hk).ext (by simp; omega)
  have HX2 := Lib.hid hx2
  have HS2 := Lib.hid (SpaceRaw.keep hs2 ((Ext.alloc w2 (.cells #[.int .i64 0, .int .i64 1] 3)).keep []) (by simp) (by simp))
  have HSL := Lib.hid (hsl.ext ((Ext.alloc w2 (.cells #[.int .i64 0, .int .i64 1] 3)).keep [b, g]))
  have HLIT := Lib.hid (show Sl Kd.int [b, g] (w2.alloc (.cells #[.int .i64 0, .int .i64 1] 3)) (some ⟨w2.heap.size, 0, none⟩) 2 [0, 1] from
    (Row.new w2 encI [0, 1] 3).sl (K := Kd.int) rfl (fun x hx => ⟨rfl, InI64.of (by simp at hx; omega) (by simp at hx; omega)⟩) (by have := hk.size; simp; omega) (by decide) (by decide))
  have HX3 := Lib.hid (hx2.trans (Ext.alloc w2 (.cells #[.int .i64 0, .int .i64 1] 3)))
  have ht1 : (takeS (List.replicate 3 false) 2).1 = [0, 1] := by decide
  have ht2 : (takeS (List.replicate 3 false) 2).2 = [true, true, false] := by decide
  rw [ht1] at HSL
  rw [ht2] at HS2
  clear hs2 hsl hk hx2
  generalize takeS (List.replicate 3 false) 2 = tk at *
  obtain ⟨tk1, tk2⟩ := tk
  simp only at ht1 ht2
  subst ht1
  subst ht2
  go_wp2_with fail
  refine (ints_ok [b, g] _ A _ c 2 [0, 1] [0, 1] HSL.out HLIT.out).mono ?_
  rintro e w3 ⟨rfl, n3, rfl⟩
  have HS3 := Lib.hid (SpaceRaw.keep HS2.out ((Ext.drewN _ n3).keep []) (by simp) (by simp))
  have HX4 := Lib.hid (HX3.out.trans (Ext.drewN _ n3))
  generalize (w2.alloc (.cells #[.int .i64 0, .int .i64 1] 3)).drewN n3 = w4 at *
  rw [decide_eq_true rfl]
  go_wp2_with fail
  refine (bytes_ok w4 b g _ HS3.out).mono ?_
  rintro e w5 ⟨r, c5, rfl, hrow, hr, hc5, hx5⟩
  have hb3 : bytesS [true, true, false] = [3] := by decide
  rw [hb3] at hrow hc5
  rw [hb3]
  have HX5 := Lib.hid ((HX4.out.trans hx5).trans (Ext.alloc w5 (.cells #[.int .u8 3] 5)))
  have HR := Lib.hid ((hrow.alloc (.cells #[.int .u8 3] 5)).sl_u8 (F := []) (by simp) (by decide) hc5)
  have HL := Lib.hid (show Sl Kd.u8 [] (w5.alloc (.cells #[.int .u8 3] 5)) (some ⟨w5.heap.size, 0, none⟩) 1 [3] from (Row.new w5 encU8 [3] 5).sl_u8 (by simp) (by decide) (by decide))
  clear hrow hx5 hr hc5 hb3
  go_wp2_with fail
  refine (same_ok [] _ _ _ c5 1 [3] [3] HR.out HL.out).mono ?_
  rintro e w6 ⟨rfl, n6, rfl⟩
  rw [decide_eq_true rfl]
  go_wp2
  go_ret
  exact ⟨rfl, HX5.out.trans (Ext.drewN _ n6)⟩

set_option maxRecDepth 100000 in
set_option maxHeartbeats 4000000 in
theorem spaceBytes_ok (w : World) (n : Int) (A : Option Addr) (c : Nat) (l : List UInt8) (ht : Tab w) (hg : 0 < w.heap.size) (hl : Sl Kd.u8 [] w A c l) :
    Calls Tryd.prog 5 #[.int .i64 n, .slice A l.length c] w fun e w' => e = .returned (.bool true) ∧ Ext w w' := by
  have hle := hl.len_le
  have HL := Lib.hid hl
  have HT := Lib.hid ht
  clear hl ht
  go_enter Tryd.func5, Tryd.ntmps5
  go_wp2_with (go_at_call 7; refine (awake19_ok w HT.out hg).mono ?_)
  rintro e w1 ⟨rfl, hx1⟩
  have HX1 := Lib.hid hx1
  have HL1 := Lib.hid (HL.out.ext (hx1.keep []))
  clear hx1
  by_cases hn : n < 0 ∨ 16384 < n
  · go_wp2_with (go_at_call 22; refine (read_bad w1 n A l.length c hn).mono ?_; rintro e w2 ⟨rfl, rfl⟩)
    all_goals rcases hn with hn | hn
    all_goals try (exfalso; omega)
    all_goals go_ret
    all_goals exact ⟨rfl, HX1.out⟩
  · obtain ⟨m, rfl⟩ := Int.eq_ofNat_of_zero_le (show 0 ≤ n by omega)
    have hm : m ≤ 16384 := by omega
    have d1 : decide ((m : Int) < 0) = false := decide_eq_false (by omega)
    have d2 : decide (16384 < m) = false := decide_eq_false (by omega)
    clear hn
    go_wp2_with (go_at_call 22; refine (read_ok [] w1 m A c l HL1.out hm).mono ?_)
    rintro e w2 hor
    have hvals : readE m l = 10 ∨ readE m l = 12 ∨ readE m l = 11 ∨ readE m l = 0 := by unfold readE; split <;> (try split) <;> (try split) <;> simp
    by_cases h3 : 3000 < l.length
    · have d3' : decide (3000 < (l.length : Int)) = true := decide_eq_true (by omega)
      have hE : readE m l = 12 := by unfold readE; rw [if_neg (by omega), if_pos (by omega)]
      have d3 : decide (3000 < l.length) = true := decide_eq_true h3
      rcases hor with ⟨-, rfl, hx2⟩ | ⟨h0, -⟩
      · rw [hE]
        have HX2 := Lib.hid (HX1.out.trans hx2)
        clear hE hvals hx2 h3
        go_wp2
        go_ret
        exact ⟨rfl, HX2.out⟩
      · rw [hE] at h0; simp at h0
    · have d3 : decide (3000 < l.length) = false := decide_eq_false h3
      have d3' : decide (3000 < (l.length : Int)) = false := decide_eq_false (by omega)
      rcases hor with ⟨hne, rfl, hx2⟩ | ⟨h0, p, g, rfl, hs, hp, hg2, hx2⟩
      · have HX2 := Lib.hid (HX1.out.trans hx2)
        have HL2 := Lib.hid (HL1.out.ext (hx2.keep []))
        have h5 : l.length ≤ 5000 := by omega
        clear hx2 h3
        rcases hvals with hv | hv | hv | hv
        all_goals try (exfalso; exact hne hv)
        all_goals
          rw [hv]
          have HV := Lib.hid hv
          clear hv hne
          go_wp2_with (go_at_call 23; refine (read19_ok [] w2 m A c l HL2.out hm h5).mono ?_)
          rintro e w3 (⟨-, rfl, hx3⟩ | ⟨h0, -⟩)
        all_goals try (exfalso; rw [HV.out] at h0; simp at h0; done)
        all_goals
          rw [HV.out]
          have HX3 := Lib.hid (HX2.out.trans hx3)
          clear hx3
          go_wp2
          go_ret
          exact ⟨rfl, HX3.out⟩
      · have HX2 := Lib.hid (HX1.out.trans hx2)
        have HL2 := Lib.hid (HL1.out.ext (hx2.keep []))
        have HS2 := Lib.hid hs
        have h5 : l.length ≤ 5000 := by omega
        have H0 := Lib.hid h0
        clear hx2 h3 hvals h0 hs hp hg2
        go_wp2_with (go_at_call 23; refine (read19_ok [] w2 m A c l HL2.out hm h5).mono ?_)
        rintro e w3 (⟨h0, -⟩ | ⟨-, q, rfl, hb, hq, hx3⟩)
        · exact absurd H0.out h0
        · have HX3 := Lib.hid (HX2.out.trans hx3)
          have HL3 := Lib.hid (HL2.out.ext (hx3.keep []))
          have HS3 := Lib.hid (SpaceRaw.keep HS2.out (hx3.keep []) (by simp) (by simp))
          have HB3 := Lib.hid hb
          clear hx3 hb hq
          go_wp2_with (go_at_call 19; refine (bytes_ok w3 p g _ HS3.out).mono ?_)
          rintro e w4 ⟨r, c4, rfl, hrow, hr, hc4, hx4⟩
          rw [bytesS_read H0.out] at hrow hc4
          rw [bytesS_read H0.out]
          have HX4 := Lib.hid (HX3.out.trans hx4)
          have HL4 := Lib.hid (HL3.out.ext (hx4.keep []))
          have HS4 := Lib.hid (SpaceRaw.keep HS3.out (hx4.keep []) (by simp) (by simp))
          have HB4 := Lib.hid (HB3.out.keep (hx4.keep []) (by simp))
          have HR4 := Lib.hid (hrow.sl_u8 (F := []) (by simp) (by omega) hc4)
          clear hx4 hrow hr hc4
          go_wp2_with fail
          refine (same_ok [] w4 _ A c4 c l l HR4.out HL4.out).mono ?_
          rintro e w5 ⟨rfl, n5, rfl⟩
          have HX5 := Lib.hid (HX4.out.trans (Ext.drewN w4 n5))
          have HS5 := Lib.hid (SpaceRaw.keep HS4.out ((Ext.drewN w4 n5).keep []) (by simp) (by simp))
          have HB5 := Lib.hid (HB4.out.keep ((Ext.drewN w4 n5).keep []) (by simp))
          generalize w4.drewN n5 = w5 at *
          rw [decide_eq_true rfl]
          have HP := Lib.hid (partS_length m l m)
          by_cases h300 : 300 < m
          · have d300 : decide (300 < m) = true := decide_eq_true h300
            go_wp2
            go_ret
            exact ⟨rfl, HX5.out⟩
          · have d300 : decide (300 < m) = false := decide_eq_false h300
            go_wp2_with fail
            have hwh := whole19_ok w5 p g q (partS m l m) HS5.out HB5.out
            rw [HP.out] at hwh
            refine hwh.mono ?_
            rintro e w6 ⟨rfl, hx6⟩
            have HX6 := Lib.hid (HX5.out.trans hx6)
            clear hx6 hwh
            go_wp2
            go_ret
            exact ⟨rfl, HX6.out⟩
end Go.Proofs.YtbbhbgccmekheaaDoor
