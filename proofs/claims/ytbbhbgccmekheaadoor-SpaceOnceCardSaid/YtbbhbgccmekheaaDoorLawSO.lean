/- The statement: no sector is handed out twice. -/
import Derived.Test.YtbbhbgccmekheaaDoorOnceQ
import Derived.Deep.RegionHeld3
namespace Go.Proofs.YtbbhbgccmekheaaDoor
open Go Go.RowKit Go.Maps Bst
set_option linter.unusedVariables false
set_option linter.unusedSimpArgs false

theorem take_nil (w : World) (k : Int) : Calls Tryd.prog 12 #[.pointer none, .int .i64 k] w fun e w' => e = .returned (.tuple #[.slice none 0 0, .int .i64 1]) ∧ w = w' := by
  go_enter Tryd.func12, Tryd.ntmps12
  go_wp2
  go_ret2
  exact ⟨rfl, rfl⟩
theorem claim_nil (w : World) : Calls Tryd.prog 15 #[.pointer none, .slice none 0 0] w fun e w' => e = .returned (.int .i64 1) ∧ w = w' := by
  go_enter Tryd.func15, Tryd.ntmps15
  go_wp2
  go_ret
  exact ⟨rfl, rfl⟩
theorem give_nil (w : World) : Calls Tryd.prog 17 #[.pointer none, .slice none 0 0] w fun e w' => e = .returned (.int .i64 1) ∧ w = w' := by
  go_enter Tryd.func17, Tryd.ntmps17
  go_wp2
  go_ret
  exact ⟨rfl, rfl⟩
theorem bytes_nil (w : World) : Calls Tryd.prog 19 #[.pointer none] w fun e w' => e = .returned (.slice none 0 0) ∧ w = w' := by
  go_enter Tryd.func19, Tryd.ntmps19
  go_wp2
  go_ret
  exact ⟨rfl, rfl⟩
theorem runs_nil (w : World) : Calls Tryd.prog 20 #[.pointer none] w fun e w' => e = .returned (.slice none 0 0) ∧ w = w' := by
  go_enter Tryd.func20, Tryd.ntmps20
  go_wp2
  go_ret
  exact ⟨rfl, rfl⟩

theorem intK : Keyed Tryd.prog 3 := int_keyed Tryd.underlying3
theorem zeroI (w : World) : (zeroValue 3).run Tryd.prog w = .ok (.int .i64 0) w := by kernel_rfl

set_option maxRecDepth 100000 in
set_option maxHeartbeats 4000000 in
theorem spaceOnce_ok (w : World) (m : Nat) (hm : m < 256) (A : Option Addr) (c : Nat) (l : List Do19) (ht : Tab w) (hg : 0 < w.heap.size) (hl : Sl Kd.do19 [] w A c l) :
    Calls Tryd.prog 4 #[.int .u8 (m : Int), .slice A l.length c] w fun e w' => e = .returned (.bool true) ∧ Ext w w' := by
  have hle := hl.len_le
  have HL := Lib.hid hl
  have HT := Lib.hid ht
  have hmm := @run_makeMap Tryd.prog
  clear hl ht
  go_enter Tryd.func4, Tryd.ntmps4
  go_wp2_with (go_at_call 7; refine (awake19_ok w HT.out hg).mono ?_)
  rintro e w1 ⟨rfl, hx1⟩
  have HX1 := Lib.hid hx1
  have HL1 := Lib.hid (HL.out.ext (hx1.keep []))
  have HT1 := Lib.hid (Tab.keep HT.out (hx1.keep []) (by simp))
  have hsz1 := hx1.size
  clear hx1
  go_wp2_with (first | (go_at_call 12; refine (take_nil w1 0).mono ?_; rintro e w' ⟨rfl, rfl⟩) | (go_at_call 15; refine (claim_nil w1).mono ?_; rintro e w' ⟨rfl, rfl⟩))
  refine (give_nil w1).mono ?_
  rintro e w' ⟨rfl, rfl⟩
  go_wp2_with fail
  refine (top_nil w1).mono ?_
  rintro e w2 ⟨rfl, hx2⟩
  have HX2 := Lib.hid (HX1.out.trans hx2)
  have HL2 := Lib.hid (HL1.out.ext (hx2.keep []))
  have HT2 := Lib.hid (Tab.keep HT1.out (hx2.keep []) (by simp))
  have hsz2 := hx2.size
  clear hx2
  go_wp2_with fail
  refine (free_nil w2).mono ?_
  rintro e w' ⟨rfl, rfl⟩
  go_wp2_with fail
  refine (bytes_nil w2).mono ?_
  rintro e w' ⟨rfl, rfl⟩
  go_wp2_with fail
  refine (runs_nil w2).mono ?_
  rintro e w' ⟨rfl, rfl⟩
  go_wp2_with fail
  refine (has_nil w2 0).mono ?_
  rintro e w' ⟨rfl, rfl⟩
  go_wp2_with fail
  refine (few19_ok [] w2 A c l HL2.out).mono ?_
  rintro e w3 ⟨rfl, hx3⟩
  have HX3 := Lib.hid (HX2.out.trans hx3)
  have HL3 := Lib.hid (HL2.out.ext (hx3.keep []))
  have HT3 := Lib.hid (Tab.keep HT2.out (hx3.keep []) (by simp))
  have hsz3 := hx3.size
  clear hx3
  cases hfew : fewS l
  · go_wp2
    go_ret
    exact ⟨rfl, HX3.out⟩
  · have hl30 : l.length ≤ 30 := by
      unfold fewS at hfew
      rw [Bool.and_eq_true] at hfew
      exact of_decide_eq_true hfew.2
    have HFEW := Lib.hid hfew
    clear hfew
    go_wp2_with (go_at_call 8; refine (new_ok w3 m (by omega)).mono ?_)
    rintro e w4 ⟨b, g, rfl, hs, hx4, hb4, hg4, hbl, hgl⟩
    have HX4 := Lib.hid (HX3.out.trans hx4)
    have HS4 := Lib.hid hs
    clear hx4 hs
    go_wp2
    obtain ⟨Hb, hHb⟩ : ∃ Hb, Hb = w4.heap.size := ⟨_, rfl⟩
    obtain ⟨w5, hw5⟩ : ∃ w5, w5 = w4.alloc (.map #[] 0) := ⟨_, rfl⟩
    obtain ⟨base, hbase⟩ : ∃ base, base = w5.heap.size := ⟨_, rfl⟩
    have HST : Hid (St w w5 b g Hb base m 0 (.slice none 0 0) (List.replicate m false) [] [] 0 [b, g, Hb]) := by
      have hs5 : w5.heap.size = w4.heap.size + 1 := by rw [hw5]; simp
      have hx5 : Ext w4 w5 := hw5 ▸ Ext.alloc w4 _
      have h0 := (HX3.out).size
      refine ⟨List.length_replicate, SpaceRaw.keep HS4.out (hx5.keep []) (by simp) (by simp), ?_, Once.start m, List.Perm.refl _, Bst.Own.nil _ _ _ _ _, ⟨by simp, by simp, by simp⟩, ?_, Nat.le_refl _, Nat.le_refl _, ⟨by omega, by omega, by omega, by omega⟩, ⟨by omega, by omega⟩, Ext.fresh (HX4.out.trans hx5) ?_⟩
      · rw [hHb, hw5]
        exact ⟨.map [], World.ownsMap_made _ _ _ _, HeldD.nil⟩
      · intro x hx; simp at hx; omega
      · intro x hx; simp at hx; omega
    rw [← hw5, ← hHb]
    have HL5 := Lib.hid (HL.out.ext ((HST.out).keep))
    have HT5 := Lib.hid (Tab.keep HT.out (HST.out).keep (by simp))
    have h0w : ∀ x ∈ [b, g, Hb], w.heap.size ≤ x := by
      have := HX3.out.size
      have := HX4.out.size
      intro x hx
      simp at hx
      omega
    have H0W := Lib.hid h0w
    have hz5 : 0 < w5.heap.size := Nat.lt_of_lt_of_le hg HST.out.keep.size
    clear hHb hw5 HX1 HX2 HX3 HX4 HL1 HL2 HL3 HT1 HT2 HT3 HS4 hb4 hg4 hbl hgl h0w hsz1 hsz2 hsz3 hmm HFEW
    go_loopw [11, 78] (fun tv iv wr => ∃ (k : Nat) (T : List Bool) (tk : List (List Int)) (S : List Int) (nm : Nat) (F : List Nat), k ≤ l.length ∧ iv = .int .i64 (k : Int) ∧ Hid (St w wr b g Hb base m k tv T tk S nm F)) (fun _ iv _ => l.length - (intOf iv).toNat)
    case atStart => exact ⟨0, _, _, _, _, _, Nat.zero_le _, rfl, HST.out⟩
    case round =>
      obtain ⟨k, T, tk, S, nm, F, hk, rfl, HS⟩ := hrel
      by_cases hlt : k < l.length
      · have hwr : wr.heap.size ≥ w.heap.size := HS.out.keep.size
        obtain ⟨lg, lo, A2, c2, rfl, k0, k1, k2, i0, i1, hs⟩ := sl_do19_at (HL.out.ext HS.out.keep) hlt
        have hsl := hs.len_le
        have HI1 := Lib.hid i1
        clear hs i0 i1
        generalize l[k] = d at *
        obtain ⟨dk, dn, dl⟩ := d
        simp only at k0 k1 k2 hsl HI1
        obtain ⟨wx, hwx⟩ : ∃ wx, wx = wr.alloc (.cells #[.int .i64 dk, .int .i64 dn, .slice A2 dl.length c2] 33) := ⟨_, rfl⟩
        have hex : Ext wr wx := hwx ▸ Ext.alloc wr _
        have hnew : wx.heap[wr.heap.size]? = some (.cells #[.int .i64 dk, .int .i64 dn, .slice A2 dl.length c2] 33 (0, 0)) := hwx ▸ heap_alloc_new wr _
        obtain ⟨X, hX⟩ : ∃ X, X = wr.heap.size := ⟨_, rfl⟩
        rw [← hX] at hnew
        have cx0 : wx.cell? ⟨X, 0, none⟩ = some (.int .i64 dk) := cell_blk hnew 0
        have cx1 : wx.cell? ⟨X, 1, none⟩ = some (.int .i64 dn) := cell_blk hnew 1
        have hXF : X ∉ F := fun hm => by have := HS.out.ltF _ hm; omega
        have HSx := Lib.hid (HS.out.ext hex)
        have HWX := Lib.hid hwx
        have HXX := Lib.hid hX
        clear hex hnew HS hwx hX
        by_cases hk1 : dk = 1
        · subst hk1
          by_cases hlow : dn < 0
          · go_wp2_with (rw [← HWX.out, ← HXX.out]; go_at_call 12; refine (take_low wx b g T HSx.out.sp dn hlow).mono ?_; rintro e w' ⟨rfl, rfl⟩)
            go_roundw
            case rel => exact ⟨k + 1, T, tk, S, nm, F, by omega, by go_num, HSx.out.next⟩
            case measure => simp [intOf] <;> omega
          · obtain ⟨kk, rfl⟩ := Int.eq_ofNat_of_zero_le (show 0 ≤ dn by omega)
            by_cases hfull : freeN T < kk
            · go_wp2_with (rw [← HWX.out, ← HXX.out]; go_at_call 12; refine (take_full wx b g T HSx.out.sp kk (by omega)).mono ?_; rintro e w' ⟨rfl, rfl⟩)
              go_roundw
              case rel => exact ⟨k + 1, T, tk, S, nm, F, by omega, by go_num, HSx.out.next⟩
              case measure => simp [intOf] <;> omega
            · have hkf : kk ≤ freeN T := by omega
              have HON := Lib.hid (HSx.out.once.take hkf)
              have HMEM := Lib.hid (takeS_mem T kk hkf)
              have hTl : T.length = m := HSx.out.len
              have hkl : kk ≤ 255 := by have := freeN_le T; omega
              go_wp2_with (rw [← HWX.out, ← HXX.out]; go_at_call 12; refine (take_ok wx b g T HSx.out.sp kk hkf (Tab.keep HT.out HSx.out.keep (by simp)) (fun hx => by have := H0W.out _ (by simp at hx; simp; omega : 0 ∈ [b, g, Hb]); omega)).mono ?_; rintro e w6 ⟨At, ct, rfl, hsl6, hs6, hk6, hfr6⟩)
              have HMID := Lib.hid (HSx.out.mid.space hk6 hs6 (takeS_len2 T kk))
              have HSL6 := Lib.hid (sl_int_away (D := F) hsl6 (fun a ha hm => by have := hfr6 a ha; have := HSx.out.ltF _ hm; omega))
              have hlen6 := takeS_length T kk
              have HPERM := Lib.hid HSx.out.perm
              have HNM := Lib.hid HSx.out.nmk
              have cx06 : w6.cell? ⟨X, 0, none⟩ = some (.int .i64 1) := hk6.cell_some cx0 (fun hx => hXF (by have := HSx.out.bF; simp at hx; rcases hx with rfl | rfl; exact this.1; exact this.2.1))
              clear hsl6 hs6 hk6 hfr6
              rw [hTl] at HMEM
              generalize takeS T kk = tq at *
              obtain ⟨a, T'⟩ := tq
              simp only at HON HMEM HMID HSL6 hlen6
              subst hlen6
              go_wp2
              go_loopw [98] (fun iv wq => ∃ j : Nat, j ≤ a.length ∧ iv = .int .i64 (j : Int) ∧ Hid (Mid w wq b g Hb base m k u11 T' tk (S ++ a.take j) (nm + j) F) ∧ Hid (Keep F w6 F wq)) (fun iv _ => a.length - (intOf iv).toNat)
              case atStart => exact ⟨0, Nat.zero_le _, rfl, by simpa [Hid] using HMID.out, Keep.refl _ _⟩
              case round =>
                obtain ⟨j, hj, rfl, HM, HK6⟩ := hrel
                by_cases hjl : j < a.length
                · obtain ⟨ag, ao, rfl, ca, iia⟩ := Sl.int_at (HSL6.out.ext HK6.out) hjl
                  have hmem := HMEM.out a[j] (List.getElem_mem hjl)
                  have HTS : Hid (a.take (j + 1) = a.take j ++ [a[j]]) := List.take_succ_eq_append_getElem hjl
                  have hnot : a[j] ∉ S ++ a.take j := by
                    have hnd := HON.out.1.nodup
                    intro hm
                    rw [List.nodup_append] at hnd
                    rcases List.mem_append.1 hm with hm | hm
                    · exact hnd.2.2 _ hm _ (List.getElem_mem hjl) rfl
                    · have h3 : (a.take (j + 1)).Nodup := hnd.2.1.sublist (List.take_sublist _ _)
                      rw [HTS.out, List.nodup_append] at h3
                      exact h3.2.2 _ hm _ (by simp) rfl
                  have HNOT := Lib.hid hnot
                  have HTK : Hid (T'.getD a[j].toNat false = true) := by
                    refine (HON.out.1.iff a[j].toNat (by have := HM.out.len; omega)).2 ?_
                    rw [Int.toNat_of_nonneg hmem.1]
                    simp
                  have HLOW := Lib.hid (HON.out.2 j hjl)
                  clear hnot
                  generalize a[j] = x at *
                  obtain ⟨xn, rfl⟩ := Int.eq_ofNat_of_zero_le hmem.1
                  have hxn : xn < m := by omega
                  have hwf : (Lit.int .i64 (xn : Int)).wf = true := WalkArith.wf_i64 (by omega)
                  have hwk : (Lit.int .i64 ((k : Int) + 1)).wf = true := WalkArith.wf_i64 (by omega)
                  go_wp2_with (first
                    | (at_lookup; go_must (refine wp_look_out intK Tryd.underlying3 Tryd.underlying48 Tryd.underlying3 wr (zeroI wr) rfl _ _ rfl Hb (nm + j) _ (xn : Int) rfl rfl HM.out.held hwf HNOT.out ?_))
                    | (go_at_call 21; refine (has_in wr b g T' _ HM.out.sp xn (by have := HM.out.len; omega)).mono ?_; rw [Int.toNat_natCast] at HTK; rw [HTK.out]; rintro e w' ⟨rfl, rfl⟩)
                    | (at_mapUpdate; go_must (refine wp_put intK Tryd.underlying3 Tryd.underlying48 Tryd.underlying3 wr rfl _ _ _ rfl Hb (nm + j) _ (xn : Int) ((k : Int) + 1) rfl rfl rfl HM.out.held (by have := HNM.out; omega) hwf hwk HNOT.out (by omega) ?_)))
                  intro wq hheld hgr
                  have HMQ := Lib.hid (HM.out.map hgr hheld)
                  have HKQ := Lib.hid (HK6.out.trans ((Keep.ofGrown hgr).widen (F := F) (by simpa using HM.out.bF.2.2)))
                  clear hheld hgr
                  go_wp2
                  go_loop [116] (fun iv => ∃ y : Nat, y ≤ xn ∧ iv = .int .i64 (y : Int)) (fun iv => xn - (intOf iv).toNat)
                  case atStart => exact ⟨0, Nat.zero_le _, rfl⟩
                  case round =>
                    obtain ⟨y, hy, rfl⟩ := hrel
                    have hwy : (Lit.int .i64 (y : Int)).wf = true := WalkArith.wf_i64 (by omega)
                    by_cases hyx : y < xn
                    · have HIN : Hid ((y : Int) ∈ S ++ (a.take j ++ [(xn : Int)])) := by
                        have := HLOW.out y (by omega) (by omega)
                        rw [Hid, ← List.append_assoc, List.mem_append]
                        exact .inl this
                      go_wp2_with (at_lookup; go_must (refine wp_look_in intK Tryd.underlying3 Tryd.underlying48 Tryd.underlying3 wq (zeroI wq) rfl _ _ rfl Hb (nm + j + 1) _ (y : Int) rfl rfl HMQ.out.held hwy HIN.out ?_))
                      intro cc hcc
                      have hcc0 : (cc == 0) = false := by simp; omega
                      go_wp2
                      go_round
                      case rel => exact ⟨y + 1, by omega, by go_num⟩
                      case measure => simp [intOf] <;> omega
                    · go_wp2
                      go_roundw
                      case rel => exact ⟨j + 1, by omega, by go_num, by rw [HTS.out]; exact HMQ.out, HKQ.out⟩
                      case measure => simp [intOf] <;> omega
                · obtain rfl : j = a.length := by omega
                  have HMF := Lib.hid HM.out
                  rw [List.take_length] at HMF
                  have HSLF := Lib.hid (HSL6.out.ext HK6.out)
                  have HPF : Hid ((S ++ a).Perm (tk ++ [a]).flatten) := by
                    rw [Hid, List.flatten_append, List.flatten_singleton]
                    exact HPERM.out.append_right a
                  have hal := HSLF.out.len_le
                  obtain ⟨Av, cv, htv⟩ := own_len HMF.out.own
                  subst htv
                  have hfr45 : (freeN T' : Int) = (m : Int) - ((S.length : Int) + (a.length : Int)) := by
                    have := HON.out.1.free
                    have := HMF.out.len
                    simp at *
                    omega
                  have HFR := Lib.hid hfr45
                  have htk31 := HMF.out.tkk
                  have htkl : tk.length ≤ 30 := by omega
                  have hbz := HMF.out.ob.2.2.2
                  clear hfr45
                  go_wp2_with (at_builtin; go_must (refine wp_app1 (K := KRow) et_rows rfl _ _ rfl wr [.slice At a.length ct] base F (.slice Av tk.length cv) tk a (by rfl) (by rfl) rfl HMF.out.own ⟨At, ct, rfl, HSLF.out⟩ HMF.out.ltF (by omega) (by omega) hbz ?_); intro v' w7 F' hown7 hk7 hk0 hn7 hF7)
                  have HM7 := Lib.hid (HMF.out.app hown7 hk7 hk0 hn7 hF7)
                  clear hown7 hk7 hk0 hn7 hF7
                  refine (free_ok w7 b g T' HM7.out.sp).mono ?_
                  rintro e w' ⟨rfl, rfl⟩
                  have d45 : ((freeN T' : Int) != (m : Int) - ((S.length : Int) + (a.length : Int))) = false := by rw [HFR.out]; simp
                  have hSm : (S.length : Int) + (a.length : Int) ≤ m := by have := HFR.out; omega
                  go_wp2_with (at_len; go_must (refine wp_maplen Tryd.underlying48 w7 rfl _ rfl Hb (nm + a.length) (S ++ a) rfl HM7.out.held ?_); rw [List.length_append, Int.natCast_add])
                  go_roundw
                  case rel => exact ⟨k + 1, T', tk ++ [a], S ++ a, nm + a.length, F', by omega, by go_num, HM7.out.st HON.out.1 HPF.out (by have := HNM.out; omega)⟩
                  case measure => simp [intOf] <;> omega
        · have t1 : (dk == 1) = false := by simpa using hk1
          clear hk1
          by_cases hk4 : dk = 4
          · subst hk4
            obtain ⟨Av, cv, htv⟩ := own_len HSx.out.own
            subst htv
            have htk31 := HSx.out.tkk
            by_cases hlow : dn < 0
            · have d0 : decide (dn < 0) = true := decide_eq_true hlow
              go_wp2
              go_roundw
              case rel => exact ⟨k + 1, T, tk, S, nm, F, by omega, by go_num, by rw [← HWX.out]; exact HSx.out.next⟩
              case measure => simp [intOf] <;> omega
            · obtain ⟨q, rfl⟩ := Int.eq_ofNat_of_zero_le (show 0 ≤ dn by omega)
              clear hlow
              have d0 : decide ((q : Int) < 0) = false := decide_eq_false (by omega)
              by_cases hq : tk.length ≤ q
              · have d1 : decide (tk.length ≤ q) = true := decide_eq_true hq
                go_wp2
                go_roundw
                case rel => exact ⟨k + 1, T, tk, S, nm, F, by omega, by go_num, by rw [← HWX.out]; exact HSx.out.next⟩
                case measure => simp [intOf] <;> omega
              · have hq' : q < tk.length := by omega
                obtain ⟨gA, cA, Aq, cq, hv, hgF, hgb, hcell, hslq, hfz, hstr⟩ := own_row_at HSx.out.own hq'
                injection hv with hv1 hv2 hv3
                subst hv1; subst hv3
                have d1 : decide (tk.length ≤ q) = false := decide_eq_false (by omega)
                have HSLQ := Lib.hid hslq
                have HPM := Lib.hid (flatten_set hq')
                have hXg : X ≠ gA := fun e => hXF (e ▸ hgF)
                have hlq := hslq.len_le
                have hcell' := hcell
                rw [HWX.out] at hcell'
                clear hslq hstr hq hv2
                by_cases hz : tk[q].length = 0
                · rw [hz] at hcell'
                  go_wp2
                  go_roundw
                  case rel => exact ⟨k + 1, T, tk, S, nm, F, by omega, by go_num, by rw [← HWX.out]; exact HSx.out.next⟩
                  case measure => simp [intOf] <;> omega
                · have d2 : (tk[q].length == 0) = false := by simpa using hz
                  have d2' : ((tk[q].length : Int) == 0) = false := by simp; simpa using hz
                  go_wp2_with fail
                  have HPQ := Lib.hid (HSx.out.perm.trans HPM.out)
                  have HON := Lib.hid (HSx.out.once.perm HPQ.out)
                  have hne : tk[q] ≠ [] := fun e => hz (by rw [e]; rfl)
                  have HY1 := Lib.hid (turnS_yes HON.out.turnOk)
                  have HY2 := Lib.hid (turnS_no (HON.out.again hne))
                  have HGV := Lib.hid HON.out.give
                  have HM0 : Hid (Mid w wx b g Hb base m k (.slice (some ⟨gA, 0, none⟩) tk.length cv) T tk (tk[q] ++ (tk.set q []).flatten) nm F) := by
                    have := HSx.out.mid
                    exact ⟨this.len, this.sp, this.held.perm HPQ.out, this.own, this.bF, this.ltF, this.tkk, this.ob, this.ne, this.keep⟩
                  have HNM := Lib.hid HSx.out.nmk
                  have hsl : (tk.set q []).length = tk.length := List.length_set
                  have HSLEN := Lib.hid hsl
                  clear hsl hne hz HPQ hcell' d2' d2
                  have hgb0 : gA ∉ [b, g] := by have := HSx.out.ob; simp; omega
                  have hX2 : X ∉ [b, g] := fun hx => hXF (by have := HSx.out.bF; simp at hx; rcases hx with rfl | rfl; exact this.1; exact this.2.1)
                  have hFr : Hid (w.heap.size ≤ wx.heap.size) := HSx.out.keep.size
                  obtain ⟨M, hM⟩ : ∃ M, M = (tk.set q []).flatten := ⟨_, rfl⟩
                  have HPF : Hid (M.Perm (tk.set q []).flatten) := by rw [hM]; exact List.Perm.refl _
                  rw [← hM] at HGV HM0 HON
                  clear HPM hM
                  generalize hrow : tk[q] = a at *
                  have HROW := Lib.hid hrow
                  clear hrow
                  rw [← HWX.out, ← HXX.out]
                  refine (give_ok wx b g T HSx.out.sp Aq cq a (sl_int_sub HSLQ.out (by have := HSx.out.bF; simp; exact ⟨this.1, this.2.1⟩))).mono ?_
                  rw [HY1.out]
                  rintro e w6 ⟨rfl, hs6, hk6⟩
                  have HM6 := Lib.hid (HM0.out.space hk6 hs6 (flips_length _ _))
                  have hc6 := hk6.cell_some hcell hgb0
                  have cx06 := hk6.cell_some cx0 hX2
                  have cx16 := hk6.cell_some cx1 hX2
                  have HSL6 := Lib.hid (HSLQ.out.ext (hk6.widen (F := F) (by have := HSx.out.bF; simp; exact ⟨this.1, this.2.1⟩)))
                  clear hs6 hk6 hcell cx0 cx1
                  go_wp2_with fail
                  refine (give_ok w6 b g (flips T a) HM6.out.sp Aq cq a (sl_int_sub HSL6.out (by have := HSx.out.bF; simp; exact ⟨this.1, this.2.1⟩))).mono ?_
                  rw [HY2.out]
                  rintro e w7 ⟨rfl, hs7, hk7⟩
                  have HM7 := Lib.hid (HM6.out.space hk7 hs7 rfl)
                  have hc7 := hk7.cell_some hc6 hgb0
                  have cx07 := hk7.cell_some cx06 hX2
                  have cx17 := hk7.cell_some cx16 hX2
                  have HSL7 := Lib.hid (HSL6.out.ext (hk7.widen (F := F) (by have := HSx.out.bF; simp; exact ⟨this.1, this.2.1⟩)))
                  clear hs7 hk7 hc6 cx06 cx16
                  go_wp2
                  go_loopw [174] (fun iv wr => ∃ j : Nat, j ≤ a.length ∧ iv = .int .i64 (j : Int) ∧ Hid (Mid w wr b g Hb base m k (.slice (some ⟨gA, 0, none⟩) tk.length cv) (flips T a) tk (a.drop j ++ M) nm F) ∧ Hid (Keep [Hb] w7 [Hb] wr)) (fun iv _ => a.length - (intOf iv).toNat)
                  case atStart => exact ⟨0, Nat.zero_le _, rfl, by rw [List.drop_zero]; exact HM7.out, Keep.refl _ _⟩
                  case round =>
                    obtain ⟨j, hj, rfl, HM, HK⟩ := hrel
                    have HSLr := Lib.hid (HSL7.out.ext (HK.out.widen (F := F) (by simpa using HM.out.bF.2.2)))
                    by_cases hjl : j < a.length
                    · obtain ⟨ag, ao, rfl, ca, iia⟩ := Sl.int_at HSLr.out hjl
                      have HDR : Hid (a.drop j = a[j] :: a.drop (j + 1)) := List.drop_eq_getElem_cons hjl
                      have HPJ : Hid ((a.drop j ++ M).Perm (a[j] :: (a.drop (j + 1) ++ M))) := by rw [Hid, HDR.out]; exact List.Perm.refl _
                      have hwf : (Lit.int .i64 a[j]).wf = true := WalkArith.wf_i64 (by unfold InI64 at iia; omega)
                      generalize a[j] = x at *
                      go_wp2_with (at_delete; go_must (refine wp_del intK Tryd.underlying3 Tryd.underlying48 _ rfl _ _ rfl Hb nm _ (a.drop (j + 1) ++ M) x rfl rfl HM.out.held hwf HPJ.out ?_))
                      intro wq hheld hgr
                      have HMQ := Lib.hid (HM.out.map hgr hheld)
                      have HKQ := Lib.hid (HK.out.trans (Keep.ofGrown hgr))
                      clear hheld hgr
                      go_wp2
                      go_roundw
                      case rel => exact ⟨j + 1, by omega, by go_num, HMQ.out, HKQ.out⟩
                      case measure => simp [intOf] <;> omega
                    · obtain rfl : j = a.length := by omega
                      have HMF := Lib.hid HM.out
                      rw [List.drop_length, List.nil_append] at HMF
                      have hHg : gA ∉ [Hb] := by have := HM.out.ob; simp; omega
                      have hHX : X ∉ [Hb] := fun hx => hXF (by have := HM.out.bF; simp at hx; rw [hx]; exact this.2.2)
                      have cx18 := HK.out.cell_some cx17 hHX
                      obtain ⟨gA', cA', Aq', cq', hv, hgF', hgb', hcell', hslq', hfz', hstr'⟩ := own_row_at HMF.out.own hq'
                      injection hv with hv1 hv2 hv3
                      injection hv1 with hv1
                      injection hv1 with hv1
                      subst hv1
                      rw [HROW.out] at hcell'
                      have HMS := Lib.hid (HMF.out.strike hgF' hgb' hstr' HSLEN.out)
                      have hFM : (freeN (flips T a) : Int) + M.length = m := by
                        have := HGV.out.free
                        have h2 := HMF.out.len
                        rw [h2] at this
                        omega
                      have HFM := Lib.hid hFM
                      have d45 : ((freeN (flips T a) : Int) != (m : Int) - (M.length : Int)) = false := by have := HFM.out; simp; omega
                      have hSm : (M.length : Int) ≤ m := by have := HFM.out; omega
                      clear hv2 hv3 hFM hslq' hstr' cx07 cx17 hc7
                      go_wp2_with (first
                        | (go_at_call 9; refine (free_ok _ b g (flips T a) HMS.out.sp).mono ?_; rintro e w' ⟨rfl, rfl⟩)
                        | (at_len; go_must (refine wp_maplen Tryd.underlying48 _ rfl _ rfl Hb nm M rfl HMS.out.held ?_)))
                      go_roundw
                      case rel => exact ⟨k + 1, flips T a, tk.set q [], M, nm, F, by omega, by go_num, (HMS.out.st HGV.out HPF.out HNM.out).next⟩
                      case measure => simp [intOf] <;> omega
          · have t4 : (dk == 4) = false := by simpa using hk4
            clear hk4
            have HFR := Lib.hid HSx.out.once.free
            have HLN := Lib.hid HSx.out.len
            have d45 : ((freeN T : Int) != (m : Int) - (S.length : Int)) = false := by have := HFR.out; have := HLN.out; simp; omega
            have hSm : (S.length : Int) ≤ m := by have := HFR.out; have := HLN.out; omega
            go_wp2_with (first
              | (rw [← HWX.out]; go_at_call 9; refine (free_ok wx b g T HSx.out.sp).mono ?_; rintro e w' ⟨rfl, rfl⟩)
              | (at_len; go_must (refine wp_maplen Tryd.underlying48 wx rfl _ rfl Hb nm S rfl HSx.out.held ?_)))
            go_roundw
            case rel => exact ⟨k + 1, T, tk, S, nm, F, by omega, by go_num, HSx.out.next⟩
            case measure => simp [intOf] <;> omega
      · obtain ⟨Av, cv, htv⟩ := own_len HS.out.own
        subst htv
        have htkk := HS.out.tkk
        have HON0 : Hid (Once T tk.flatten) := HS.out.once.perm HS.out.perm
        have HM0 := Lib.hid HS.out.mid
        have HWR : Hid (w.heap.size ≤ wr.heap.size) := HS.out.keep.size
        clear HS
        go_wp2
        go_loopw [196] (fun iv wr => ∃ (j : Nat) (T : List Bool), j ≤ tk.length ∧ iv = .int .i64 (j : Int) ∧ Hid (Mid w wr b g Hb base m k (.slice Av tk.length cv) T tk S nm F) ∧ Hid (Once T (tk.drop j).flatten)) (fun iv _ => tk.length - (intOf iv).toNat)
        case atStart => exact ⟨0, T, Nat.zero_le _, rfl, HM0.out, by rw [List.drop_zero]; exact HON0.out⟩
        case round =>
          obtain ⟨j, T2, hj, rfl, HM, HON⟩ := hrel
          by_cases hjl : j < tk.length
          · obtain ⟨gA, cA, Aq, cq, hv, hgF, hgb, hcell, hslq, hfz, hstr⟩ := own_row_at HM.out.own hjl
            injection hv with hv1 hv2 hv3
            subst hv1; subst hv3
            have HSLQ := Lib.hid hslq
            have hd : tk.drop j = tk[j] :: tk.drop (j + 1) := List.drop_eq_getElem_cons hjl
            have HON2 : Hid (Once T2 (tk[j] ++ (tk.drop (j + 1)).flatten)) := by
              have := HON.out
              rw [hd, List.flatten_cons] at this
              exact this
            have HY1 := Lib.hid (turnS_yes HON2.out.turnOk)
            have HGV := Lib.hid HON2.out.give
            clear hslq hstr hv2 hd hfz
            generalize tk[j] = a at *
            go_wp2_with (go_at_call 17; refine (give_ok wr b g T2 HM.out.sp Aq cq a (sl_int_sub HSLQ.out (by have := HM.out.bF; simp; exact ⟨this.1, this.2.1⟩))).mono ?_; rw [HY1.out]; rintro e w6 ⟨rfl, hs6, hk6⟩)
            have HM6 := Lib.hid (HM.out.space hk6 hs6 (flips_length _ _))
            clear hs6 hk6
            go_roundw
            case rel => exact ⟨j + 1, flips T2 a, by omega, by go_num, HM6.out, HGV.out⟩
            case measure => simp [intOf] <;> omega
          · obtain rfl : j = tk.length := by omega
            have hN := HON.out
            rw [List.drop_length, List.flatten_nil] at hN
            obtain ⟨hfree, htop⟩ := hN.none
            have HFREE : Hid ((freeN T2 : Int) = (m : Int)) := by rw [Hid, hfree, HM.out.len]
            have HTOP := Lib.hid htop
            clear hfree htop hN
            go_wp2_with (go_at_call 9; refine (free_ok wr b g T2 HM.out.sp).mono ?_; rw [HFREE.out]; rintro e w' ⟨rfl, rfl⟩)
            refine (top_ok wr b g T2 HM.out.sp).mono ?_
            rw [HTOP.out]
            rintro e w7 ⟨rfl, hx7⟩
            have HX7 := Lib.hid ((HM.out.keep.trans (hx7.keep F)).ext0)
            go_wp2
            go_ret
            exact ⟨rfl, HX7.out⟩
end Go.Proofs.YtbbhbgccmekheaaDoor
