/- The statements about spaces: whatever is taken and given back. -/
import Derived.Test.YtbbhbgccmekheaaDoorLawSB
namespace Go.Proofs.YtbbhbgccmekheaaDoor
open Go Go.RowKit Bst
set_option linter.unusedVariables false
set_option linter.unusedSimpArgs false

theorem take_low (w : World) (b g : Nat) (T : List Bool) (h : SpaceAt w b g T) (k : Int) (hk : k < 0) :
    Calls Tryd.prog 12 #[.pointer (some ⟨b, 0, none⟩), .int .i64 k] w fun e w' => e = .returned (.tuple #[.slice none 0 0, .int .i64 2]) ∧ w = w' := by
  obtain ⟨c0, c1, c3, f1⟩ := h.head
  have d0 : decide (k < 0) = true := decide_eq_true hk
  clear h hk
  go_enter Tryd.func12, Tryd.ntmps12
  go_wp2
  go_ret2
  exact ⟨rfl, rfl⟩
theorem take_full (w : World) (b g : Nat) (T : List Bool) (h : SpaceAt w b g T) (k : Int) (hk : (freeN T : Int) < k) :
    Calls Tryd.prog 12 #[.pointer (some ⟨b, 0, none⟩), .int .i64 k] w fun e w' => e = .returned (.tuple #[.slice none 0 0, .int .i64 32]) ∧ w = w' := by
  obtain ⟨c0, c1, c3, f1⟩ := h.head
  obtain ⟨n, rfl⟩ := Int.eq_ofNat_of_zero_le (show 0 ≤ k by omega)
  have d0 : decide ((n : Int) < 0) = false := decide_eq_false (by omega)
  have d1 : decide (freeN T < n) = true := decide_eq_true (by omega)
  clear h hk
  go_enter Tryd.func12, Tryd.ntmps12
  go_wp2
  go_ret2
  exact ⟨rfl, rfl⟩
theorem take19_low (w : World) (m : Nat) (T : List Bool) (k : Int) (hk : k < 0) :
    Calls Tryd.prog 13 #[.slice (some ⟨m, 0, none⟩) T.length T.length, .int .i64 k] w fun e w' => e = .returned (.tuple #[.slice none 0 0, .int .i64 2]) ∧ w = w' := by
  have d0 : decide (k < 0) = true := decide_eq_true hk
  clear hk
  go_enter Tryd.func13, Tryd.ntmps13
  go_wp2
  go_ret2
  exact ⟨rfl, rfl⟩
theorem take19_full (w : World) (m : Nat) (T : List Bool) (h : BoolsAt w m T) (k : Int) (hk : (freeN T : Int) < k) :
    Calls Tryd.prog 13 #[.slice (some ⟨m, 0, none⟩) T.length T.length, .int .i64 k] w fun e w' => e = .returned (.tuple #[.slice none 0 0, .int .i64 32]) ∧ w = w' := by
  have H := Lib.hid h
  obtain ⟨n, rfl⟩ := Int.eq_ofNat_of_zero_le (show 0 ≤ k by omega)
  have d0 : decide ((n : Int) < 0) = false := decide_eq_false (by omega)
  have d1 : decide (freeN T < n) = true := decide_eq_true (by omega)
  clear h hk
  go_enter Tryd.func13, Tryd.ntmps13
  go_wp2_with (go_at_call 36; refine (free19_ok w m T H.out).mono ?_; rintro e w' ⟨rfl, rfl⟩)
  go_ret2
  exact ⟨rfl, rfl⟩
theorem topUpto_replicate (n : Nat) : topS (List.replicate n false) = -1 := by
  unfold topS
  exact topUpto_none _ (fun j hj => by rw [List.length_replicate] at hj; simp [List.getElem?_replicate, hj])
theorem sl_int_sub {F D : List Nat} {w : World} {A : Option Addr} {c : Nat} {l : List Int} (h : Sl Kd.int F w A c l) (hD : ∀ x ∈ D, x ∈ F) : Sl Kd.int D w A c l := by
  refine ⟨h.1, h.2.1, fun hn => ?_⟩
  obtain ⟨g, o, rfl, hg, hgF, hc⟩ := h.2.2 hn
  exact ⟨g, o, rfl, hg, fun hx => hgF (hD _ hx), fun i x hx => hc i x hx⟩
theorem Ext.fresh {w w' : World} {F : List Nat} (h : Ext w w') (hF : ∀ b ∈ F, w.heap.size ≤ b) : Keep [] w F w' := ⟨h.os, h.tape, h.output, h.size, h.block, fun b hb => .inr (hF b hb)⟩
theorem _root_.Bst.Keep.ext0 {w w' : World} {F : List Nat} (h : Keep [] w F w') : Ext w w' := ⟨h.os, h.tape, h.output, h.size, h.block, fun _ hb => by cases hb⟩
theorem turn_two (T : List Bool) (l : List Int) (was : Bool) : ∃ r T', turnS T l was = (r, T') ∧ (r = 0 ∨ r = 2) ∧ T'.length = T.length := by
  by_cases h : TurnOk T l was
  · exact ⟨0, _, turnS_yes h, .inl rfl, flips_length T l⟩
  · exact ⟨2, _, turnS_no h, .inr rfl, rfl⟩
theorem sl_int_away {F D : List Nat} {w : World} {A : Option Addr} {c : Nat} {l : List Int} (h : Sl Kd.int F w A c l) (hD : ∀ a, A = some a → a.block ∉ D) : Sl Kd.int D w A c l := by
  refine ⟨h.1, h.2.1, fun hn => ?_⟩
  obtain ⟨g, o, rfl, hg, hgF, hc⟩ := h.2.2 hn
  exact ⟨g, o, rfl, hg, hD _ rfl, fun i x hx => hc i x hx⟩

set_option maxRecDepth 100000 in
set_option maxHeartbeats 4000000 in
theorem spaceDoes_ok (w : World) (n : Int) (A : Option Addr) (c : Nat) (l : List Do19) (ht : Tab w) (hg : 0 < w.heap.size) (hl : Sl Kd.do19 [] w A c l) :
    Calls Tryd.prog 3 #[.int .i64 n, .slice A l.length c] w fun e w' => e = .returned (.bool true) ∧ Ext w w' := by
  have hle := hl.len_le
  have HL := Lib.hid hl
  have HT := Lib.hid ht
  clear hl ht
  go_enter Tryd.func3, Tryd.ntmps3
  go_wp2_with (go_at_call 7; refine (awake19_ok w HT.out hg).mono ?_)
  rintro e w1 ⟨rfl, hx1⟩
  have HX1 := Lib.hid hx1
  have HL1 := Lib.hid (HL.out.ext (hx1.keep []))
  have HT1 := Lib.hid (Tab.keep HT.out (hx1.keep []) (by simp))
  have hsz1 := hx1.size
  clear hx1
  by_cases hn : n < 0 ∨ 16384 < n
  · go_wp2_with (go_at_call 8; refine (new_bad w1 n hn).mono ?_; rintro e w2 ⟨rfl, rfl⟩)
    all_goals rcases hn with hn | hn
    all_goals try (exfalso; omega)
    all_goals go_ret
    all_goals exact ⟨rfl, HX1.out⟩
  · obtain ⟨m, rfl⟩ := Int.eq_ofNat_of_zero_le (show 0 ≤ n by omega)
    have hm : m ≤ 16384 := by omega
    have d1 : decide ((m : Int) < 0) = false := decide_eq_false (by omega)
    have d2 : decide (16384 < m) = false := decide_eq_false (by omega)
    clear hn
    go_wp2_with (go_at_call 8; refine (new_ok w1 m hm).mono ?_)
    rintro e w2 ⟨b, g, rfl, hs, hx2, hb, hg2, hbl, hgl⟩
    have HX2 := Lib.hid (HX1.out.trans hx2)
    have HL2 := Lib.hid (HL1.out.ext (hx2.keep []))
    have HT2 := Lib.hid (Tab.keep HT1.out (hx2.keep []) (by simp))
    have HS2 := Lib.hid hs
    clear hx2 hs
    go_wp2_with (go_at_call 9; refine (free_ok w2 b g _ HS2.out).mono ?_; rintro e w' ⟨rfl, rfl⟩; rw [freeN_replicate])
    refine (top_ok w2 b g _ HS2.out).mono ?_
    rintro e w3 ⟨rfl, hx3⟩
    rw [topUpto_replicate]
    have HX3 := Lib.hid (HX2.out.trans hx3)
    have HL3 := Lib.hid (HL2.out.ext (hx3.keep []))
    have HT3 := Lib.hid (Tab.keep HT2.out (hx3.keep []) (by simp))
    have HS3 := Lib.hid (SpaceRaw.keep HS2.out (hx3.keep []) (by simp) (by simp))
    have hsz3 := hx3.size
    clear hx3
    by_cases h300 : 300 < m
    · have d300 : decide (300 < m) = true := decide_eq_true h300
      have d300' : decide (300 < (m : Int)) = true := decide_eq_true (by omega)
      go_wp2
      go_ret
      exact ⟨rfl, HX3.out⟩
    · have d300 : decide (300 < m) = false := decide_eq_false h300
      have d300' : decide (300 < (m : Int)) = false := decide_eq_false (by omega)
      go_wp2_with (go_at_call 11; refine (few19_ok [] w3 A c l HL3.out).mono ?_)
      rintro e w4 ⟨rfl, hx4⟩
      have HX4 := Lib.hid (HX3.out.trans hx4)
      have HL4 := Lib.hid (HL3.out.ext (hx4.keep []))
      have HT4 := Lib.hid (Tab.keep HT3.out (hx4.keep []) (by simp))
      have HS4 := Lib.hid (SpaceRaw.keep HS3.out (hx4.keep []) (by simp) (by simp))
      have hsz4 := hx4.size
      clear hx4
      cases hfew : fewS l
      · go_wp2
        go_ret
        exact ⟨rfl, HX4.out⟩
      · have HFEW := Lib.hid hfew
        clear hfew
        go_wp2_with (at_make; go_must (refine wp_make et_bool rfl rfl _ _ (by rfl) w4 m (by rfl) (by rfl) (by omega) (by omega) (by omega) (by omega) ?_))
        obtain ⟨M, hM⟩ : ∃ M, M = w4.heap.size := ⟨_, rfl⟩
        have HB5 := Lib.hid (show BoolsAt (w4.alloc (.cells (Array.replicate m (Value.bool false)) 4)) M (List.replicate m false) from by
          rw [hM]
          refine ⟨by rw [List.length_replicate]; omega, 4, ?_⟩
          rw [heap_alloc_new, List.map_replicate, List.toArray_replicate])
        have HX5 := Lib.hid (HX4.out.trans (Ext.alloc w4 (.cells (Array.replicate m (Value.bool false)) 4)))
        have HS5 := Lib.hid (SpaceRaw.keep HS4.out ((Ext.alloc w4 (.cells (Array.replicate m (Value.bool false)) 4)).keep []) (by simp) (by simp))
        have hM5 : M < (w4.alloc (.cells (Array.replicate m (Value.bool false)) 4)).heap.size := by simp; omega
        rw [← hM]
        have hbM : b < M := by omega
        have hgM : g < M := by omega
        have hwM0 : w.heap.size ≤ M := by have := HX4.out.size; omega
        have hM4 : w4.heap.size ≤ M := by omega
        clear hM
        have hwM : ∀ x ∈ [b, g, M], w.heap.size ≤ x := by
          intro x hx
          simp at hx
          omega
        generalize w4.alloc (.cells (Array.replicate m (Value.bool false)) 4) = w5 at *
        have HL5 := Lib.hid (HL.out.ext (Ext.fresh HX5.out hwM))
        have HT5 := Lib.hid (Tab.keep HT.out (HX5.out.keep []) (by simp))
        have h0F : 0 ∉ [b, g, M] := by
          intro hx
          have := hwM _ hx
          omega
        have h0F' : 0 ∉ [b, g] := fun hx => h0F (by simp at hx; simp; omega)
        have hbg : b < w5.heap.size ∧ g < w5.heap.size := by omega
        clear HL HL1 HL2 HL3 HL4 HT HT1 HT2 HT3 HT4 HS2 HS3 HS4 HX1 HX2 HX3 HX4 HFEW
        go_loopw [57] (fun iv wr => ∃ (k : Nat) (T : List Bool), k ≤ l.length ∧ iv = .int .i64 (k : Int) ∧ T.length = m ∧ Hid (SpaceAt wr b g T) ∧ Hid (BoolsAt wr M T) ∧ Hid (Keep [b, g, M] w5 [b, g, M] wr)) (fun iv _ => l.length - (intOf iv).toNat)
        case atStart => exact ⟨0, List.replicate m false, Nat.zero_le _, rfl, List.length_replicate, HS5.out, HB5.out, Keep.refl _ _⟩
        case round =>
          obtain ⟨k, T, hk, rfl, hTm, HS, HB, HK⟩ := hrel
          subst hTm
          by_cases hlt : k < l.length
          · obtain ⟨lg, lo, A2, c2, rfl, k0, k1, k2, i0, i1, hs⟩ := sl_do19_at (HL5.out.ext HK.out) hlt
            have hsl := hs.len_le
            have HSL := Lib.hid hs
            have HI1 := Lib.hid i1
            clear hs i0 i1
            generalize l[k] = d at *
            obtain ⟨dk, dn, dl⟩ := d
            simp only at k0 k1 k2 hsl HSL HI1
            obtain ⟨wx, hwx⟩ : ∃ wx, wx = wr.alloc (.cells #[.int .i64 dk, .int .i64 dn, .slice A2 dl.length c2] 33) := ⟨_, rfl⟩
            have hex : Ext wr wx := hwx ▸ Ext.alloc wr _
            have hnew : wx.heap[wr.heap.size]? = some (.cells #[.int .i64 dk, .int .i64 dn, .slice A2 dl.length c2] 33 (0, 0)) := hwx ▸ heap_alloc_new wr _
            obtain ⟨X, hX⟩ : ∃ X, X = wr.heap.size := ⟨_, rfl⟩
            rw [← hX] at hnew
            have cx0 : wx.cell? ⟨X, 0, none⟩ = some (.int .i64 dk) := cell_blk hnew 0
            have cx1 : wx.cell? ⟨X, 1, none⟩ = some (.int .i64 dn) := cell_blk hnew 1
            have cx2 : wx.cell? ⟨X, 2, none⟩ = some (.slice A2 dl.length c2) := cell_blk hnew 2
            have hXF : X ∉ [b, g, M] := by
              have := HK.out.size
              intro hx
              simp at hx
              omega
            have hXF2 : X ∉ [b, g] := fun hx => hXF (by simp at hx; simp; omega)
            have HSx := Lib.hid (SpaceRaw.keep HS.out (hex.keep []) (by simp) (by simp))
            have HBx := Lib.hid (HB.out.keep (hex.keep []) (by simp))
            have HKx := Lib.hid (HK.out.trans (hex.keep [b, g, M]))
            have HSLx := Lib.hid (HSL.out.ext (hex.keep [b, g, M]))
            have HTx := Lib.hid (Tab.keep HT5.out HKx.out h0F)
            have HSL2 := Lib.hid (sl_int_sub (D := [b, g]) HSLx.out (by simp))
            have HSLM := Lib.hid (sl_int_sub (D := [M]) HSLx.out (by simp))
            have HWX := Lib.hid hwx
            have HXX := Lib.hid hX
            clear hex hnew HS HB HSL hwx hX
            by_cases hk1 : dk = 1
            · subst hk1
              by_cases hlow : dn < 0
              · go_wp2_with (rw [← HWX.out, ← HXX.out]; go_at_call 12; refine (take_low wx b g T HSx.out dn hlow).mono ?_; rintro e w' ⟨rfl, rfl⟩)
                refine (take19_low wx M T dn hlow).mono ?_
                rintro e w' ⟨rfl, rfl⟩
                go_wp2_with fail
                refine (ints_ok [] wx none none 0 0 [] [] (Sl.nil ..) (Sl.nil ..)).mono ?_
                rintro e w6 ⟨rfl, n6, rfl⟩
                rw [decide_eq_true rfl]
                go_wp2
                go_roundw
                case rel => exact ⟨k + 1, T, by omega, by go_num, rfl, SpaceRaw.keep HSx.out ((Ext.drewN wx n6).keep []) (by simp) (by simp), HBx.out.keep ((Ext.drewN wx n6).keep []) (by simp), HKx.out.trans ((Ext.drewN wx n6).keep _)⟩
                case measure => simp [intOf] <;> omega
              · obtain ⟨kk, rfl⟩ := Int.eq_ofNat_of_zero_le (show 0 ≤ dn by omega)
                by_cases hfull : freeN T < kk
                · go_wp2_with (rw [← HWX.out, ← HXX.out]; go_at_call 12; refine (take_full wx b g T HSx.out kk (by omega)).mono ?_; rintro e w' ⟨rfl, rfl⟩)
                  refine (take19_full wx M T HBx.out kk (by omega)).mono ?_
                  rintro e w' ⟨rfl, rfl⟩
                  go_wp2_with fail
                  refine (ints_ok [] wx none none 0 0 [] [] (Sl.nil ..) (Sl.nil ..)).mono ?_
                  rintro e w6 ⟨rfl, n6, rfl⟩
                  rw [decide_eq_true rfl]
                  go_wp2
                  go_roundw
                  case rel => exact ⟨k + 1, T, by omega, by go_num, rfl, SpaceRaw.keep HSx.out ((Ext.drewN wx n6).keep []) (by simp) (by simp), HBx.out.keep ((Ext.drewN wx n6).keep []) (by simp), HKx.out.trans ((Ext.drewN wx n6).keep _)⟩
                  case measure => simp [intOf] <;> omega
                · have hkf : kk ≤ freeN T := by omega
                  have hXlt := World.block_lt_of_cell? wx _ cx1
                  have hMx : M < wx.heap.size := Nat.lt_of_lt_of_le hM5 HKx.out.size
                  go_wp2_with (first
                    | (rw [← HWX.out, ← HXX.out]; go_at_call 12; refine (take_ok wx b g T HSx.out kk hkf HTx.out h0F').mono ?_; rintro e w6 ⟨At, ct, rfl, hsl6, hs6, hk6, hfr6⟩
                       have HB6 := Lib.hid (HBx.out.keep hk6 (by simp; omega)); have cx16 := hk6.cell_some cx1 hXF2; have HS6 := Lib.hid hs6
                       have HSL6 := Lib.hid (sl_int_away (D := [M]) hsl6 (fun a ha => by have := hfr6 a ha; simp; omega)); have HK6 := Lib.hid (HKx.out.trans (hk6.widen (F := [b, g, M]) (by simp))); clear hsl6 hs6 hk6 hfr6)
                    | (go_at_call 13; refine (take19_ok w6 M T HB6.out kk hkf).mono ?_; rintro e w7 ⟨B, cb, rfl, hsl7, hb7, hk7, hfr7⟩; clear hfr7))
                  have HS7 := Lib.hid (SpaceRaw.keep HS6.out hk7 (by simp; omega) (by simp; omega))
                  have HK7 := Lib.hid (HK6.out.trans (hk7.widen (F := [b, g, M]) (by simp)))
                  have HSL7 := Lib.hid (HSL6.out.ext hk7)
                  have HT7 := Lib.hid hsl7
                  have HB7 := Lib.hid hb7
                  have HLEN := Lib.hid (takeS_len2 T kk)
                  clear hsl7 hb7 hk7
                  generalize takeS T kk = tk at *
                  obtain ⟨tk1, T'⟩ := tk
                  simp only at HS7 HSL7 HT7 HB7 HLEN
                  go_wp2_with fail
                  refine (ints_ok [M] w7 At B ct cb tk1 tk1 HSL7.out HT7.out).mono ?_
                  rintro e w8 ⟨rfl, n8, rfl⟩
                  rw [decide_eq_true rfl]
                  go_wp2
                  go_roundw
                  case rel => exact ⟨k + 1, T', by omega, by go_num, HLEN.out, SpaceRaw.keep HS7.out ((Ext.drewN w7 n8).keep []) (by simp) (by simp), HB7.out.keep ((Ext.drewN w7 n8).keep []) (by simp), HK7.out.trans ((Ext.drewN w7 n8).keep _)⟩
                  case measure => simp [intOf] <;> omega
            · by_cases hk2 : dk = 2
              · subst hk2
                clear hk1
                have t1 : ((2 : Int) == 1) = false := by decide
                have hts := turn_two T dl false
                obtain ⟨r, T', hts, h02, hlen'⟩ := hts
                have HTS := Lib.hid hts
                have HLEN := Lib.hid hlen'
                have HSd := Lib.hid (SpaceRaw.keep HSx.out ((Ext.drew wx).keep []) (by simp) (by simp))
                have HBd := Lib.hid (HBx.out.keep ((Ext.drew wx).keep []) (by simp))
                have HKd := Lib.hid (HKx.out.trans ((Ext.drew wx).keep _))
                have HSLd := Lib.hid (HSLx.out.ext ((Ext.drew wx).keep _))
                have cx2d := ((Ext.drew wx).keep [b, g, M]).cell_some cx2 hXF
                clear hts hlen'
                rcases h02 with rfl | rfl
                all_goals
                  go_wp2_with fail
                  rw [← HWX.out, ← HXX.out]
                  go_region_with (first
                    | (go_at_call 15; refine (claim_ok wx.drew b g T HSd.out A2 c2 dl (sl_int_sub HSLd.out (by simp))).mono ?_; rw [HTS.out]; rintro e wy ⟨rfl, hsy, hky⟩
                       have HBy := Lib.hid (HBd.out.keep hky (by simp; omega)); have HSLy := Lib.hid (HSLd.out.ext (hky.widen (F := [b, g, M]) (by simp))); have HKy := Lib.hid (HKd.out.trans (hky.widen (F := [b, g, M]) (by simp)))
                       have HSy := Lib.hid hsy; have cx2y := hky.cell_some cx2d hXF2; clear hsy hky)
                    | (go_at_call 16; refine (turn19_ok wy M T HBy.out A2 c2 dl (sl_int_sub HSLy.out (by simp)) false).mono ?_; rw [HTS.out]; rintro e wz ⟨rfl, hbz, hkz⟩
                       have HSz := Lib.hid (SpaceRaw.keep HSy.out hkz (by simp; omega) (by simp; omega)); have HBz := Lib.hid hbz; have HKz := Lib.hid (HKy.out.trans (hkz.widen (F := [b, g, M]) (by simp))); clear hbz hkz)
                    | (go_at_call 16; refine (turn19_ok wx.drew M T HBd.out A2 c2 dl (sl_int_sub HSLd.out (by simp)) false).mono ?_; rw [HTS.out]; rintro e wy ⟨rfl, hby, hky⟩
                       have HSy := Lib.hid (SpaceRaw.keep HSd.out hky (by simp; omega) (by simp; omega)); have HSLy := Lib.hid (HSLd.out.ext (hky.widen (F := [b, g, M]) (by simp))); have HKy := Lib.hid (HKd.out.trans (hky.widen (F := [b, g, M]) (by simp)))
                       have HBy := Lib.hid hby; have cx2y := hky.cell_some cx2d (fun hx => hXF (by simp at hx; simp; omega)); clear hby hky)
                    | (go_at_call 15; refine (claim_ok wy b g T HSy.out A2 c2 dl (sl_int_sub HSLy.out (by simp))).mono ?_; rw [HTS.out]; rintro e wz ⟨rfl, hsz, hkz⟩
                       have HBz := Lib.hid (HBy.out.keep hkz (by simp; omega)); have HSz := Lib.hid hsz; have HKz := Lib.hid (HKy.out.trans (hkz.widen (F := [b, g, M]) (by simp))); clear hsz hkz))
                  all_goals
                    go_wp2
                    go_roundw
                    case rel => exact ⟨k + 1, T', by omega, by go_num, HLEN.out, HSz.out, HBz.out, HKz.out⟩
                    case measure => simp [intOf] <;> omega

              · by_cases hk3 : dk = 3
                · subst hk3
                  clear hk1 hk2
                  have t1 : ((3 : Int) == 1) = false := by decide
                  have t2 : ((3 : Int) == 2) = false := by decide
                  have hts := turn_two T dl true
                  obtain ⟨r, T', hts, h02, hlen'⟩ := hts
                  have HTS := Lib.hid hts
                  have HLEN := Lib.hid hlen'
                  have HSd := Lib.hid (SpaceRaw.keep HSx.out ((Ext.drew wx).keep []) (by simp) (by simp))
                  have HBd := Lib.hid (HBx.out.keep ((Ext.drew wx).keep []) (by simp))
                  have HKd := Lib.hid (HKx.out.trans ((Ext.drew wx).keep _))
                  have HSLd := Lib.hid (HSLx.out.ext ((Ext.drew wx).keep _))
                  have cx2d := ((Ext.drew wx).keep [b, g, M]).cell_some cx2 hXF
                  clear hts hlen'
                  rcases h02 with rfl | rfl
                  all_goals
                    go_wp2_with fail
                    rw [← HWX.out, ← HXX.out]
                    go_region_with (first
                      | (go_at_call 17; refine (give_ok wx.drew b g T HSd.out A2 c2 dl (sl_int_sub HSLd.out (by simp))).mono ?_; rw [HTS.out]; rintro e wy ⟨rfl, hsy, hky⟩
                         have HBy := Lib.hid (HBd.out.keep hky (by simp; omega)); have HSLy := Lib.hid (HSLd.out.ext (hky.widen (F := [b, g, M]) (by simp))); have HKy := Lib.hid (HKd.out.trans (hky.widen (F := [b, g, M]) (by simp)))
                         have HSy := Lib.hid hsy; have cx2y := hky.cell_some cx2d hXF2; clear hsy hky)
                      | (go_at_call 16; refine (turn19_ok wy M T HBy.out A2 c2 dl (sl_int_sub HSLy.out (by simp)) true).mono ?_; rw [HTS.out]; rintro e wz ⟨rfl, hbz, hkz⟩
                         have HSz := Lib.hid (SpaceRaw.keep HSy.out hkz (by simp; omega) (by simp; omega)); have HBz := Lib.hid hbz; have HKz := Lib.hid (HKy.out.trans (hkz.widen (F := [b, g, M]) (by simp))); clear hbz hkz)
                      | (go_at_call 16; refine (turn19_ok wx.drew M T HBd.out A2 c2 dl (sl_int_sub HSLd.out (by simp)) true).mono ?_; rw [HTS.out]; rintro e wy ⟨rfl, hby, hky⟩
                         have HSy := Lib.hid (SpaceRaw.keep HSd.out hky (by simp; omega) (by simp; omega)); have HSLy := Lib.hid (HSLd.out.ext (hky.widen (F := [b, g, M]) (by simp))); have HKy := Lib.hid (HKd.out.trans (hky.widen (F := [b, g, M]) (by simp)))
                         have HBy := Lib.hid hby; have cx2y := hky.cell_some cx2d (fun hx => hXF (by simp at hx; simp; omega)); clear hby hky)
                      | (go_at_call 17; refine (give_ok wy b g T HSy.out A2 c2 dl (sl_int_sub HSLy.out (by simp))).mono ?_; rw [HTS.out]; rintro e wz ⟨rfl, hsz, hkz⟩
                         have HBz := Lib.hid (HBy.out.keep hkz (by simp; omega)); have HSz := Lib.hid hsz; have HKz := Lib.hid (HKy.out.trans (hkz.widen (F := [b, g, M]) (by simp))); clear hsz hkz))
                    all_goals
                      go_wp2
                      go_roundw
                      case rel => exact ⟨k + 1, T', by omega, by go_num, HLEN.out, HSz.out, HBz.out, HKz.out⟩
                      case measure => simp [intOf] <;> omega

                · have t1 : (dk == 1) = false := by simpa using hk1
                  have t2 : (dk == 2) = false := by simpa using hk2
                  have t3 : (dk == 3) = false := by simpa using hk3
                  clear hk1 hk2 hk3
                  go_wp2
                  rw [← HWX.out]
                  go_roundw
                  case rel => exact ⟨k + 1, T, by omega, by go_num, rfl, HSx.out, HBx.out, HKx.out⟩
                  case measure => simp [intOf] <;> omega
          · go_wp2_with fail
            refine (whole19_ok wr b g M T HS.out HB.out).mono ?_
            rintro e w6 ⟨rfl, hx6⟩
            have HX6 := Lib.hid ((((Ext.fresh HX5.out hwM).trans HK.out).trans (hx6.keep [b, g, M])).ext0)
            go_wp2
            go_ret
            exact ⟨rfl, HX6.out⟩
end Go.Proofs.YtbbhbgccmekheaaDoor
