/- The statements about spaces: awake, few, whole. -/
import Derived.Test.YtbbhbgccmekheaaDoorSpace4
import Derived.Test.YtbbhbgccmekheaaDoorSpace5
import Derived.Test.YtbbhbgccmekheaaDoorSpace7
import Derived.Test.YtbbhbgccmekheaaDoorSpace8
import Derived.Test.YtbbhbgccmekheaaDoorSpace9
import Derived.Test.YtbbhbgccmekheaaDoorSpaceP3
import Derived.Test.YtbbhbgccmekheaaDoorR01
namespace Go.Proofs.YtbbhbgccmekheaaDoor
open Go Go.RowKit Bst
set_option linter.unusedVariables false
set_option linter.unusedSimpArgs false

/-- What is done to a space. -/
abbrev Do19 : Type := Int × Int × List Int
def Kd.do19 : Kd Do19 := Kd.pair Kd.int (Kd.pair Kd.int (Kd.slice Kd.int))
theorem sl_do19_at {F : List Nat} {w : World} {A : Option Addr} {c : Nat} {l : List Do19} (h : Sl Kd.do19 F w A c l) {k : Nat} (hk : k < l.length) :
    ∃ g o A2 c2, A = some ⟨g, o, none⟩ ∧ w.cell? ⟨g, o + k * 3, none⟩ = some (.int .i64 l[k].1) ∧ w.cell? ⟨g, o + k * 3 + 1, none⟩ = some (.int .i64 l[k].2.1) ∧ w.cell? ⟨g, o + k * 3 + 2, none⟩ = some (.slice A2 l[k].2.2.length c2) ∧
      InI64 l[k].1 ∧ InI64 l[k].2.1 ∧ Sl Kd.int F w A2 c2 l[k].2.2 := by
  obtain ⟨g, o, rfl, _, _, hc⟩ := h.2.2 (by omega)
  obtain ⟨cs, ⟨c1, d1, rfl, ⟨rfl, i1⟩, ⟨c2, d2, rfl, ⟨rfl, i2⟩, ⟨A2, cc, rfl, hs⟩⟩⟩, hcell⟩ := hc k _ (getElem?_some_of_lt hk)
  exact ⟨g, o, A2, cc, rfl, by simpa [Kd.do19, Kd.pair, Kd.int, Kd.slice] using hcell 0 _ rfl, by simpa [Kd.do19, Kd.pair, Kd.int, Kd.slice, Nat.add_assoc] using hcell 1 _ rfl, by simpa [Kd.do19, Kd.pair, Kd.int, Kd.slice, Nat.add_assoc] using hcell 2 _ rfl, i1, i2, hs⟩
def fewS (l : List Do19) : Bool := l.all (fun d => decide (d.2.2.length ≤ 30)) && decide (l.length ≤ 30)
set_option maxHeartbeats 1000000 in
theorem few19_ok (F : List Nat) (w : World) (A : Option Addr) (c : Nat) (l : List Do19) (hl : Sl Kd.do19 F w A c l) :
    Calls Tryd.prog 11 #[.slice A l.length c] w fun e w' => e = .returned (.bool (fewS l)) ∧ Ext w w' := by
  have hle := hl.len_le
  have HL := Lib.hid hl
  clear hl
  go_enter Tryd.func11, Tryd.ntmps11
  go_wp2
  go_loopw [7] (fun iv wr => ∃ k : Nat, k ≤ l.length ∧ iv = .int .i64 (k : Int) ∧ Hid (∀ d ∈ l.take k, d.2.2.length ≤ 30) ∧ Hid (Ext w wr)) (fun iv _ => l.length - (intOf iv).toNat)
  case atStart => exact ⟨0, Nat.zero_le _, rfl, by simp [Hid], Ext.refl _⟩
  case round =>
    obtain ⟨k, hk, rfl, HA, HE⟩ := hrel
    by_cases hlt : k < l.length
    · obtain ⟨g, o, A2, c2, rfl, k0, k1, k2, -, -, hs⟩ := sl_do19_at (HL.out.ext (HE.out.keep F)) hlt
      have hsl := hs.len_le
      have e1 : l.take (k + 1) = l.take k ++ [l[k]] := List.take_succ_eq_append_getElem hlt
      have hmem : l[k] ∈ l := List.getElem_mem hlt
      by_cases h30 : l[k].2.2.length ≤ 30
      · have HA2 : Hid (∀ d ∈ l.take (k + 1), d.2.2.length ≤ 30) := by
          show ∀ d ∈ l.take (k + 1), d.2.2.length ≤ 30
          rw [e1]; intro d hd
          rcases List.mem_append.1 hd with h | h
          · exact HA.out d h
          · rw [List.mem_singleton.1 h]; exact h30
        generalize l[k] = d at *
        obtain ⟨dk, dn, dl⟩ := d
        simp only at k0 k1 k2 h30 hsl
        have d30 : decide (30 < dl.length) = false := decide_eq_false (by omega)
        clear e1 hmem
        go_wp2
        go_roundw
        case rel => exact ⟨k + 1, by omega, by go_num, HA2.out, HE.out.trans (Ext.alloc _ _)⟩
        case measure => simp [intOf] <;> omega
      · have HF : Hid (fewS l = false) := by
          show fewS l = false
          unfold fewS
          rw [Bool.and_eq_false_iff, List.all_eq_false]
          exact .inl ⟨_, hmem, by simpa using h30⟩
        generalize l[k] = d at *
        obtain ⟨dk, dn, dl⟩ := d
        simp only at k0 k1 k2 h30 hsl
        have d30 : decide (30 < dl.length) = true := decide_eq_true (by omega)
        clear e1 hmem
        go_wp2
        go_ret
        exact ⟨ret_bool HF.out.symm, HE.out.trans (Ext.alloc _ _)⟩
    · have HF : Hid (fewS l = decide (l.length ≤ 30)) := by
        show fewS l = _
        unfold fewS
        rw [show l.all (fun d => decide (d.2.2.length ≤ 30)) = true from List.all_eq_true.2 (fun d hd => by simpa using HA.out d (by rw [List.take_of_length_le (by omega)]; exact hd))]
        simp
      by_cases h30 : l.length ≤ 30
      · have HF2 : Hid (fewS l = true) := by rw [Hid, HF.out]; simpa using h30
        go_wp2
        go_ret
        exact ⟨ret_bool (by rw [HF2.out]; simp; omega), HE.out⟩
      · have HF2 : Hid (fewS l = false) := by rw [Hid, HF.out]; simpa using h30
        go_wp2
        go_ret
        exact ⟨ret_bool (by rw [HF2.out]; simp; omega), HE.out⟩
theorem sl_run_at {F : List Nat} {w : World} {A : Option Addr} {c : Nat} {l : List (Int × Int)} (h : Sl Kd.run F w A c l) {k : Nat} (hk : k < l.length) :
    ∃ g o, A = some ⟨g, o, none⟩ ∧ w.cell? ⟨g, o + k * 2, none⟩ = some (.int .i64 l[k].1) ∧ w.cell? ⟨g, o + k * 2 + 1, none⟩ = some (.int .i64 l[k].2) := by
  obtain ⟨g, o, rfl, _, _, hc⟩ := h.2.2 (by omega)
  obtain ⟨cs, ⟨c1, d1, rfl, ⟨rfl, i1⟩, ⟨rfl, i2⟩⟩, hcell⟩ := hc k _ (getElem?_some_of_lt hk)
  exact ⟨g, o, rfl, by simpa [Kd.run, Kd.pair, Kd.int] using hcell 0 _ rfl, by simpa [Kd.run, Kd.pair, Kd.int, Nat.add_assoc] using hcell 1 _ rfl⟩

set_option maxRecDepth 100000 in
set_option maxHeartbeats 4000000 in
theorem whole19_ok (w : World) (b g m : Nat) (T : List Bool) (h : SpaceAt w b g T) (hb : BoolsAt w m T) :
    Calls Tryd.prog 18 #[.pointer (some ⟨b, 0, none⟩), .slice (some ⟨m, 0, none⟩) T.length T.length] w fun e w' => e = .returned (.bool true) ∧ Ext w w' := by
  have hs := h.size
  have H := Lib.hid h
  have HB := Lib.hid hb
  clear h hb
  go_enter Tryd.func18, Tryd.ntmps18
  go_wp2
  go_loop [5, 13] (fun tv iv => ∃ k : Nat, k ≤ T.length ∧ iv = .int .i64 (k : Int) ∧ tv = .int .i64 (topUpto T k)) (fun _ iv => T.length - (intOf iv).toNat)
  case atStart => exact ⟨0, Nat.zero_le _, rfl, rfl⟩
  case round =>
    obtain ⟨k, hk, rfl, rfl⟩ := hrel
    by_cases hlt : k < T.length
    · obtain ⟨hc, -, -⟩ := HB.out.at_ hlt
      have HT := Lib.hid (topUpto_succ T k)
      cases hv : T.getD k false
      · rw [hv] at hc
        have HT2 : Hid (topUpto T (k + 1) = topUpto T k) := by rw [Hid, HT.out, hv]; rfl
        have HV := Lib.hid hv
        clear hv HT
        generalize topUpto T k = tk at *
        go_wp2_with (go_at_call 21; refine (has_in _ b g T _ H.out k hlt).mono ?_; rintro e w' ⟨rfl, rfl⟩; rw [HV.out, Bool.not_false])
        go_round
        case rel => exact ⟨k + 1, by omega, by go_num, by rw [HT2.out]⟩
        case measure => simp [intOf] <;> omega
      · rw [hv] at hc
        have HT2 : Hid (topUpto T (k + 1) = (k : Int)) := by rw [Hid, HT.out, hv]; rfl
        have HV := Lib.hid hv
        clear hv HT
        generalize topUpto T k = tk at *
        go_wp2_with (go_at_call 21; refine (has_in _ b g T _ H.out k hlt).mono ?_; rintro e w' ⟨rfl, rfl⟩; rw [HV.out, Bool.not_true])
        go_round
        case rel => exact ⟨k + 1, by omega, by go_num, by rw [HT2.out]⟩
        case measure => simp [intOf] <;> omega
    · obtain rfl : k = T.length := by omega
      have HTOP : Hid (topUpto T T.length = topS T) := rfl
      rw [HTOP.out]
      obtain ⟨e, he0, he1, hch, hrest⟩ := runs_chain T T.length
      have hlenR := (runsS_bounds T T.length).1
      have hbdR := (runsS_bounds T T.length).2
      go_wp2_with (go_at_call 20; refine (runs_ok _ b g T H.out).mono ?_; rintro e w1 ⟨RA, rc, rfl, hruns, hext⟩; have HRUNS := Lib.hid hruns; have HEXT := Lib.hid hext; clear hruns hext)
      generalize runsS T T.length = R at *
      have HBD := Lib.hid hbdR
      have HCH := Lib.hid hch
      have HREST := Lib.hid hrest
      obtain ⟨en, rfl⟩ := Int.eq_ofNat_of_zero_le he0
      clear hch hrest hbdR
      go_loopw [8, 29] (fun av iv wr => ∃ k a : Nat, k ≤ R.length ∧ a ≤ T.length ∧ iv = .int .i64 (k : Int) ∧ av = .int .i64 (a : Int) ∧ Hid (Chain T (a : Int) (R.drop k) (en : Int)) ∧ Hid (Ext w1 wr)) (fun _ iv _ => R.length - (intOf iv).toNat)
      case atStart => exact ⟨0, 0, Nat.zero_le _, Nat.zero_le _, rfl, rfl, HCH.out, Ext.refl _⟩
      case round =>
        obtain ⟨k, a, hk, ha, rfl, rfl, HC, HE⟩ := hrel
        by_cases hlt : k < R.length
        · obtain ⟨rg, ro, rfl, k0, k1⟩ := sl_run_at (HRUNS.out.ext (HE.out.keep [])) hlt
          have hd : R.drop k = R[k] :: R.drop (k + 1) := List.drop_eq_getElem_cons hlt
          have hc := HC.out
          rw [hd] at hc
          obtain ⟨b1, b2, b3, b4, b5, b6⟩ := hc
          have hbd := HBD.out _ (List.getElem_mem hlt)
          generalize R[k] = r at *
          obtain ⟨f0, q0⟩ := r
          simp only at b1 b2 b3 b4 b5 b6 k0 k1 hbd
          obtain ⟨f, rfl⟩ := Int.eq_ofNat_of_zero_le (show 0 ≤ f0 by omega)
          obtain ⟨q, rfl⟩ := Int.eq_ofNat_of_zero_le (show 0 ≤ q0 by omega)
          have B4 := Lib.hid b4
          have B5 := Lib.hid b5
          have B6 := Lib.hid b6
          have hbl := HB.out.size
          have hfq : f + q ≤ T.length := by omega
          have haf : a ≤ f := by omega
          have d1 : decide (f < a) = false := decide_eq_false (by omega)
          have d2 : decide ((q : Int) < 1) = false := decide_eq_false (by omega)
          have d3 : decide ((T.length : Int) < (f : Int) + q) = false := decide_eq_false (by omega)
          have hcase : decide (0 < a) = false ∨ (decide (0 < a) = true ∧ ((f : Int) == (a : Int)) = false) := by
            by_cases h0 : 0 < a
            · exact .inr ⟨decide_eq_true h0, by rw [beq_eq_false_iff_ne]; intro e; exact b3 ⟨by omega, e⟩⟩
            · exact .inl (decide_eq_false h0)
          have HBW := Lib.hid (HB.out.keep ((HEXT.out.trans HE.out).keep []) (by simp))
          clear b4 b5 b6 hd b1 b2 b3 hbd
          rcases hcase with q1 | ⟨q1, q2⟩
          all_goals go_wp2
          all_goals
            generalize hwx : wr.alloc (.cells #[.int .i64 (f : Int), .int .i64 (q : Int)] 75) = wx at *
            have cx0 : wx.cell? ⟨wr.heap.size, 0, none⟩ = some (.int .i64 (f : Int)) := by rw [← hwx, cell_blk (heap_alloc_new wr _)]; rfl
            have cx1 : wx.cell? ⟨wr.heap.size, 1, none⟩ = some (.int .i64 (q : Int)) := by rw [← hwx, cell_blk (heap_alloc_new wr _)]; rfl
            have HEX := Lib.hid (HE.out.trans (hwx ▸ Ext.alloc wr _ : Ext wr wx))
            have HBX := Lib.hid (HBW.out.keep ((hwx ▸ Ext.alloc wr _ : Ext wr wx).keep []) (by simp))
            clear hwx
            go_loop [8] (fun av => ∃ x : Nat, a ≤ x ∧ x ≤ f ∧ av = .int .i64 (x : Int)) (fun av => f - (intOf av).toNat)
            case atStart => exact ⟨a, Nat.le_refl _, haf, rfl⟩
            case round =>
              obtain ⟨x, hx1, hx2, rfl⟩ := hrel
              by_cases hxf : x < f
              · obtain ⟨hc, -, -⟩ := HBX.out.at_ (k := x) (by omega)
                rw [B4.out x (by omega) (by omega)] at hc
                go_wp2
                go_round
                case rel => exact ⟨x + 1, by omega, by omega, by go_num⟩
                case measure => simp [intOf] <;> omega
              · obtain rfl : x = f := by omega
                go_wp2
                go_loop [8] (fun av => ∃ y : Nat, x ≤ y ∧ y ≤ x + q ∧ av = .int .i64 (y : Int)) (fun av => x + q - (intOf av).toNat)
                case atStart => exact ⟨x, Nat.le_refl _, by omega, rfl⟩
                case round =>
                  obtain ⟨y, hy1, hy2, rfl⟩ := hrel
                  by_cases hyq : y < x + q
                  · obtain ⟨hc, -, -⟩ := HBX.out.at_ (k := y) (by omega)
                    rw [B5.out y (by omega) (by omega)] at hc
                    go_wp2
                    go_round
                    case rel => exact ⟨y + 1, by omega, by omega, by go_num⟩
                    case measure => simp [intOf] <;> omega
                  · obtain rfl : y = x + q := by omega
                    go_wp2
                    go_roundw
                    case rel => exact ⟨k + 1, x + q, by omega, by omega, by go_num, rfl, by simpa [Hid] using B6.out, HEX.out⟩
                    case measure => simp [intOf] <;> omega
        · have hR : R.drop k = [] := List.drop_eq_nil_of_le (by omega)
          have hc := HC.out
          rw [hR] at hc
          have hae : (a : Int) = (en : Int) := hc
          obtain rfl : a = en := by omega
          have HEW := Lib.hid (HEXT.out.trans HE.out)
          have HBW := Lib.hid (HB.out.keep (HEW.out.keep []) (by simp))
          have HSW := Lib.hid (H.out.keep (HEW.out.keep []) (by simp) (by simp))
          have HLB := Lib.hid (bytesS_length T)
          clear hR hc hae
          go_wp2
          go_loop [8] (fun av => ∃ x : Nat, a ≤ x ∧ x ≤ T.length ∧ av = .int .i64 (x : Int)) (fun av => T.length - (intOf av).toNat)
          case atStart => exact ⟨a, Nat.le_refl _, ha, rfl⟩
          case round =>
            obtain ⟨x, hx1, hx2, rfl⟩ := hrel
            by_cases hxf : x < T.length
            · obtain ⟨hc, -, -⟩ := HBW.out.at_ (k := x) (by omega)
              rw [HREST.out x (by omega) (by omega)] at hc
              go_wp2
              go_round
              case rel => exact ⟨x + 1, by omega, by omega, by go_num⟩
              case measure => simp [intOf] <;> omega
            · go_wp2_with (go_at_call 9; refine (free_ok wr b g T HSW.out).mono ?_; rintro e w' ⟨rfl, rfl⟩)
              refine (free19_ok wr m T HBW.out).mono ?_
              rintro e w' ⟨rfl, rfl⟩
              go_wp2_with fail
              refine (top_ok wr b g T HSW.out).mono ?_
              rintro e w2 ⟨rfl, hx2⟩
              have E2 := Lib.hid hx2
              have S2 := Lib.hid (HSW.out.keep (hx2.keep []) (by simp) (by simp))
              have B2 := Lib.hid (HBW.out.keep (hx2.keep []) (by simp))
              clear hx2
              go_wp2_with fail
              refine (bytes_ok w2 b g T S2.out).mono ?_
              rintro e w3 ⟨r3, c3, rfl, hrow, hr3, hc3, hx3⟩
              have E3 := Lib.hid (E2.out.trans hx3)
              have S3 := Lib.hid (S2.out.keep (hx3.keep []) (by simp) (by simp))
              have B3 := Lib.hid (B2.out.keep (hx3.keep []) (by simp))
              have R3 := Lib.hid (hrow.sl_u8 (F := []) (by simp) (by have := HLB.out; omega) hc3)
              clear hrow hx3 hr3
              go_wp2_with fail
              refine (bytes19_ok w3 m T B3.out).mono ?_
              rintro e w4 ⟨A4, c4, rfl, hsl4, hx4⟩
              have E4 := Lib.hid (E3.out.trans hx4)
              have S4 := Lib.hid (S3.out.keep (hx4.keep []) (by simp) (by simp))
              have R4 := Lib.hid (R3.out.ext (hx4.keep []))
              have Q4 := Lib.hid hsl4
              clear hsl4 hx4
              go_wp2_with fail
              refine (same_ok [] w4 _ _ _ _ _ _ R4.out Q4.out).mono ?_
              rintro e w5 ⟨rfl, n5, rfl⟩
              have E5 := Lib.hid (E4.out.trans (Ext.drewN w4 n5))
              have S5 := Lib.hid (S4.out.keep ((Ext.drewN w4 n5).keep []) (by simp) (by simp))
              generalize w4.drewN n5 = w5 at *
              rw [decide_eq_true rfl]
              go_wp2_with fail
              refine (has_out w5 b g T _ S5.out (-1) (.inl (by omega))).mono ?_
              rintro e w' ⟨rfl, rfl⟩
              go_wp2_with fail
              refine (has_out w5 b g T _ S5.out (T.length : Int) (.inr (by omega))).mono ?_
              rintro e w' ⟨rfl, rfl⟩
              go_wp2
              go_ret
              exact ⟨rfl, HEW.out.trans E5.out⟩
end Go.Proofs.YtbbhbgccmekheaaDoor
