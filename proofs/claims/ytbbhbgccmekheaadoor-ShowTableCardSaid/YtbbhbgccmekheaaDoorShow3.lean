/- Rows of texts as lines: the document's table. -/
import Derived.Test.YtbbhbgccmekheaaDoorShow2
import Derived.Deep.QuietTactic
import Derived.BigQuiet
namespace Go.Proofs.YtbbhbgccmekheaaDoor
open Go Go.RowKit Bst
set_option linter.unusedVariables false
set_option linter.unusedSimpArgs false

theorem rblanks_ok (w : World) (n : Nat) (hn : n ≤ 100000) : Calls Tryd.prog 45 #[.int .i64 (n : Int)] w fun e w' => e = .returned (.string (bs (blanks n))) ∧ w = w' := by
  go_enter Tryd.func45, Tryd.ntmps45
  go_wp2
  go_loop [3, 4] (fun sv iv => ∃ k : Nat, k ≤ n ∧ iv = .int .i64 (k : Int) ∧ sv = .string (bs (blanks k))) (fun _ iv => n - (intOf iv).toNat)
  case atStart => exact ⟨0, Nat.zero_le _, rfl, rfl⟩
  case round =>
    obtain ⟨k, hk, rfl, rfl⟩ := hrel
    by_cases hlt : k < n
    · have e1 : Hid (bs (blanks k) ++ ⟨#[32]⟩ = bs (blanks (k + 1))) := by
        have : (⟨#[32]⟩ : ByteArray) = bs [32] := rfl
        rw [Hid, this, bs_append]
        congr 1
        exact (List.replicate_succ' (n := k) (a := (32 : UInt8))).symm
      have hz : (bs (blanks k)).size + (⟨#[32]⟩ : ByteArray).size ≤ 9223372036854775807 := by
        rw [bs_size, List.length_replicate]; have : (⟨#[32]⟩ : ByteArray).size = 1 := rfl; omega
      go_wp2
      go_round
      case rel => exact ⟨k + 1, by omega, by go_num, by rw [← e1.out]⟩
      case measure => simp [intOf] <;> omega
    · obtain rfl : k = n := by omega
      go_wp2
      go_ret
      exact ⟨rfl, rfl⟩
def strSize : Value → Nat | .string s => s.size | _ => 0
theorem row_len_pos {row : List ByteArray} {k : Nat} : row.length ≤ k → (row.getD k ByteArray.empty).size = 0 := fun h => by
  rw [List.getD_eq_getElem?_getD, List.getElem?_eq_none h]; rfl
set_option maxRecDepth 100000 in
set_option maxHeartbeats 1000000 in
theorem rwide_ok (w : World) (A : Option Addr) (c : Nat) (rows : List (List ByteArray)) (q : Nat) (hl : Sl KTexts [] w A c rows) (hs : Small rows) (hq : q ≤ 12) :
    Calls Tryd.prog 46 #[.slice A rows.length c, .int .i64 (q : Int)] w fun e w' => e = .returned (.int .i64 (wideS rows q : Int)) ∧ w = w' := by
  have hnum := hs.num
  have HL := Lib.hid hl
  have HS := Lib.hid hs
  clear hl hs
  go_enter Tryd.func46, Tryd.ntmps46
  go_wp2
  go_loop [5, 6] (fun nv iv => ∃ k : Nat, k ≤ rows.length ∧ iv = .int .i64 (k : Int) ∧ nv = .int .i64 (wideS (rows.take k) q : Int)) (fun _ iv => rows.length - (intOf iv).toNat)
  case atStart => exact ⟨0, Nat.zero_le _, rfl, rfl⟩
  case round =>
    obtain ⟨k, hk, rfl, rfl⟩ := hrel
    by_cases hlt : k < rows.length
    · obtain ⟨g, o, A2, c2, rfl, k0, hrow⟩ := sl_row_at HL.out hlt
      have hmem := List.getElem_mem hlt
      have hcols := HS.out.cols _ hmem
      have hlen := hcols.1
      have HT : Hid (wideS (rows.take (k + 1)) q = max (wideS (rows.take k) q) (rows[k].getD q ByteArray.empty).size) := by
        rw [Hid, List.take_succ_eq_append_getElem hlt, wide_snoc]
      by_cases hq2 : q < rows[k].length
      · obtain ⟨g2, o2, rfl, k1, hsz⟩ := sl_str_at hrow hq2
        have e2 : rows[k].getD q ByteArray.empty = rows[k][q] := by rw [List.getD_eq_getElem?_getD, List.getElem?_eq_getElem hq2]; rfl
        rw [e2] at HT
        clear hrow hcols hmem e2
        generalize rows[k][q] = s at *
        generalize rows[k] = row at *
        generalize wideS (rows.take k) q = m at *
        have dq : decide (q < row.length) = true := decide_eq_true hq2
        by_cases hms : m < s.size
        · have HT2 : Hid (wideS (rows.take (k + 1)) q = s.size) := by rw [Hid, HT.out]; omega
          have dm : decide (m < s.size) = true := decide_eq_true hms
          clear HT
          go_wp2
          go_round
          case rel => exact ⟨k + 1, by omega, by go_num, by rw [HT2.out]⟩
          case measure => simp [intOf] <;> omega
        · have HT2 : Hid (wideS (rows.take (k + 1)) q = m) := by rw [Hid, HT.out]; omega
          have dm : decide (m < s.size) = false := decide_eq_false hms
          clear HT
          go_wp2
          go_round
          case rel => exact ⟨k + 1, by omega, by go_num, by rw [HT2.out]⟩
          case measure => simp [intOf] <;> omega
      · have e0 := row_len_pos (row := rows[k]) (k := q) (by omega)
        have HT2 : Hid (wideS (rows.take (k + 1)) q = wideS (rows.take k) q) := by rw [Hid, HT.out, e0]; omega
        clear hrow hcols hmem e0 HT
        generalize rows[k] = row at *
        generalize wideS (rows.take k) q = m at *
        have dq : decide (q < row.length) = false := decide_eq_false hq2
        go_wp2
        go_round
        case rel => exact ⟨k + 1, by omega, by go_num, by rw [HT2.out]⟩
        case measure => simp [intOf] <;> omega
    · obtain rfl : k = rows.length := by omega
      go_wp2
      go_ret
      exact ⟨rfl, rfl⟩
set_option maxRecDepth 100000 in
set_option maxHeartbeats 1000000 in
theorem rtable_ok (w : World) (A : Option Addr) (c : Nat) (rows : List (List ByteArray)) (hl : Sl KTexts [] w A c rows) (hs : Small rows) :
    Calls Tryd.prog 29 #[.slice A rows.length c] w fun e w' => ∃ A' c', e = .returned (.slice A' rows.length c') ∧ Sl Kd.str [] w' A' c' (tableS rows) ∧ Ext w w' := by
  have hnum := hs.num
  have HL := Lib.hid hl
  have HS := Lib.hid hs
  clear hl hs
  go_enter Tryd.func29, Tryd.ntmps29
  go_wp2
  go_loopw [3, 4] (fun ov iv wr => ∃ (k : Nat) (F : List Nat), k ≤ rows.length ∧ iv = .int .i64 (k : Int) ∧ Hid (Own Kd.str F wr w.heap.size 9 ov (tableS' rows (rows.take k))) ∧ Hid (Keep [] w F wr) ∧ Hid (∀ b ∈ F, b < wr.heap.size)) (fun _ iv _ => rows.length - (intOf iv).toNat)
  case atStart => exact ⟨0, [], Nat.zero_le _, rfl, Own.nil _ _ _ _ _, Keep.refl _ _, fun _ h => by cases h⟩
  case round =>
    obtain ⟨k, F, hk, rfl, HO, HK, HF⟩ := hrel
    by_cases hlt : k < rows.length
    · obtain ⟨g, o, A2, c2, rfl, k0, hrow⟩ := sl_row_at HL.out hlt
      have K0 := Lib.hid k0
      have hmem := List.getElem_mem hlt
      have hcols := HS.out.cols _ hmem
      have HROW := Lib.hid hrow
      have HSZ := Lib.hid hcols.2
      have hlen := hcols.1
      have HMEM := Lib.hid hmem
      have HT : Hid (tableS' rows (rows.take (k + 1)) = tableS' rows (rows.take k) ++ [bs (lineS rows rows[k])]) := by
        rw [Hid, List.take_succ_eq_append_getElem hlt]; unfold tableS'; rw [List.map_append]; rfl
      clear hrow hcols hmem k0
      generalize rows[k] = row at *
      obtain ⟨wr0, rfl⟩ : ∃ wr0 : World, wr0 = wr := ⟨_, rfl⟩
      go_wp2
      go_loopw [5, 6, 7] (fun lv av iv wx => ∃ i : Nat, i ≤ row.length ∧ iv = .int .i64 (i : Int) ∧ lv = .string (bs (lineR rows row i)) ∧ av = .int .i64 (atS rows i : Int) ∧ Hid (Ext wr0 wx)) (fun _ _ iv _ => row.length - (intOf iv).toNat)
      case atStart => exact ⟨0, Nat.zero_le _, rfl, rfl, rfl, Ext.refl _⟩
      case round =>
        obtain ⟨i, hi, rfl, rfl, rfl, HE⟩ := hrel
        have HEW := Lib.hid (HK.out.trans (HE.out.keep F))
        have k0 := HEW.out.cell_some K0.out (by simp)
        by_cases hlt2 : i < row.length
        · obtain ⟨g2, o2, rfl, k1, -⟩ := sl_str_at HROW.out hlt2
          have k1 := HEW.out.cell_some k1 (by simp)
          have hli := lineR_le HS.out HMEM.out i
          have hsz2 := HSZ.out _ (List.getElem_mem hlt2)
          have e2 : row.getD i ByteArray.empty = row[i] := by rw [List.getD_eq_getElem?_getD, List.getElem?_eq_getElem hlt2]; rfl
          have HLI : Hid (lineR rows row (i + 1) = lineR rows row i ++ blanks (atS rows i - (lineR rows row i).length) ++ row[i].data.toList) := by rw [Hid, lineR, e2]
          have HAT : Hid (atS rows (i + 1) = atS rows i + wideS rows i + 2) := rfl
          have hw40 := HS.out.wide i
          have hat := atS_le HS.out i
          have hi12 : i ≤ 12 := by omega
          clear e2
          generalize row[i] = s at *
          generalize lineR rows row i = L at *
          generalize atS rows i = at0 at *
          obtain ⟨d, hd⟩ : ∃ d, at0 = L.length + d := ⟨at0 - L.length, by omega⟩
          have hd600 : d ≤ 600 := by omega
          have HCL : Hid (bs L ++ bs (blanks d) ++ s = bs (lineR rows row (i + 1))) := by
            rw [Hid, HLI.out, bs_append, bs_append', hd, Nat.add_sub_cancel_left]
          have hwr : IntKind.i64.wrap ((at0 : Int) - ((bs L).size : Int)) = (d : Int) := by
            rw [bs_size, show ((at0 : Int) - (L.length : Int)) = (d : Int) from by omega]
            exact IntWalk.i64_in _ (by omega)
          have hc1 : (bs L).size + (bs (blanks d)).size ≤ 9223372036854775807 := by rw [bs_size, bs_size, List.length_replicate]; omega
          have hc2 : (bs L ++ bs (blanks d)).size + s.size ≤ 9223372036854775807 := by rw [bs_append, bs_size, List.length_append, List.length_replicate]; omega
          clear hd
          go_wp2
          go_quiet ((go_at_call 45; exact Calls.quiet_of_same ((rblanks_ok _ d (by omega)).mono fun e w' h => ⟨h.1, h.2.symm⟩)))
          rename_i nq
          have HE2 := Lib.hid (HE.out.trans (Ext.drewN wr nq))
          have HEW2 := Lib.hid (HEW.out.trans ((Ext.drewN wr nq).keep F))
          have HLW := Lib.hid (HL.out.ext (HEW2.out.ext0.keep []))
          rw [HCL.out]
          go_wp2_with (go_at_call 46; refine (rwide_ok (wr.drewN nq) _ c rows i HLW.out HS.out hi12).mono ?_; rintro e w' ⟨rfl, rfl⟩)
          go_roundw
          case rel => exact ⟨i + 1, by omega, by go_num, rfl, by rw [HAT.out]; go_num, HE2.out⟩
          case measure => simp [intOf] <;> omega
        · obtain rfl : i = row.length := by omega
          have HTR : Hid (trimR (lineR rows row row.length) = lineS rows row) := lineS_eq HMEM.out
          have hli := (lineR_le HS.out HMEM.out row.length).1
          go_wp2
          go_loop [5] (fun lv => ∃ X : List UInt8, lv = .string (bs X) ∧ X.length ≤ 600 ∧ Hid (trimR X = lineS rows row)) (fun lv => strSize lv)
          case atStart => exact ⟨_, rfl, by omega, HTR.out⟩
          case round =>
            obtain ⟨X, rfl, hX, HX⟩ := hrel
            have HO5 := Lib.hid (HO.out.ext_ HE.out)
            have HK5 := Lib.hid (HK.out.trans (HE.out.keep F))
            have HF5 : Hid (∀ x ∈ F, x < wr.heap.size) := fun x hx => Nat.lt_of_lt_of_le (HF.out x hx) HE.out.size
            have HT5 : Hid ((tableS' rows (rows.take k)).length ≤ 30) := by rw [Hid, tableS', List.length_map, List.length_take]; omega
            have hls := lineS_le HS.out HMEM.out
            have HZ5 : Hid ((bs (lineS rows row)).size ≤ 140737488355328) := by rw [Hid, bs_size]; omega
            obtain ⟨Av, cv, rfl⟩ := own_shape HO5.out
            by_cases hcont : ∃ Y, X = Y ++ [32]
            · obtain ⟨Y, rfl⟩ := hcont
              have hS1 : 1 ≤ (bs (Y ++ [32])).size := by rw [bs_size]; simp
              have hS2 : (bs (Y ++ [32])).size ≤ 600 := by rw [bs_size]; exact hX
              have hlast := bs_last Y 32 (by omega)
              have HCUT := Lib.hid (bs_cut Y 32)
              have HYX : Hid (strSize (.string (bs Y)) < strSize (.string (bs (Y ++ [32])))) := by simp [Hid, strSize, bs_size]
              have hY600 : Y.length ≤ 600 := by have := hX; rw [List.length_append] at this; omega
              have hz : decide (0 < (bs (Y ++ [32])).size) = true := decide_eq_true (by omega)
              have HX2 : Hid (trimR Y = lineS rows row) := by rw [Hid, ← HX.out, trimR_snoc]
              have hq : ((((bs (Y ++ [32]))[(bs (Y ++ [32])).size - 1]'(by omega)).toNat : Int) == 32) = true := by rw [hlast]; rfl
              clear hlast hX
              go_wp2
              go_round
              case rel => exact ⟨Y, by rw [HCUT.out], hY600, HX2.out⟩
              case measure => rw [HCUT.out]; exact HYX.out
            · have hcase : Hid (bs X = bs (lineS rows row)) ∧ ((decide (0 < (bs X).size) = false) ∨ (decide (0 < (bs X).size) = true ∧ 1 ≤ (bs X).size ∧ (bs X).size ≤ 600 ∧ ∃ h : (bs X).size - 1 < (bs X).size, ((((bs X)[(bs X).size - 1]'h).toNat : Int) == 32) = false)) := by
                rcases List.eq_nil_or_concat X with rfl | ⟨Y, c, rfl⟩
                · exact ⟨by rw [Hid, ← HX.out]; rfl, .inl (by decide)⟩
                · rw [List.concat_eq_append] at *
                  have hc : c ≠ 32 := fun e => hcont ⟨Y, by rw [e]⟩
                  refine ⟨by rw [Hid, ← HX.out, trimR_stop _ _ hc], .inr ⟨decide_eq_true (by rw [bs_size]; simp), by rw [bs_size]; simp, by rw [bs_size]; exact hX, by rw [bs_size]; simp, ?_⟩⟩
                  rw [bs_last Y c]
                  simp
                  intro h
                  apply hc
                  apply UInt8.toNat_inj.1
                  exact_mod_cast h
              obtain ⟨HEQ, hcase⟩ := hcase
              rw [HEQ.out] at hcase ⊢
              clear hcont hX HX HEQ
              rcases hcase with hz | ⟨hz, hS1, hS2, hh, hq⟩
              all_goals
                go_wp2_with (at_builtin; go_must (refine wp_app1 (K := Kd.str) et_str rfl _ _ rfl wr [.string (bs (lineS rows row))] w.heap.size F (.slice Av _ cv) _ (bs (lineS rows row)) (by rfl) (by rfl) rfl HO5.out ⟨rfl, HZ5.out⟩ HF5.out (by have := HT5.out; omega) (by have := HT5.out; omega) HK5.out.size ?_))
                intro v' w6 F6 hown6 hk6 hk0 hn6 hF6
                rw [← HT.out] at hown6
                have HO6 := Lib.hid hown6
                have HK6 := Lib.hid (HK5.out.trans hk6)
                have HN6 := Lib.hid hn6
                clear hown6 hk6 hk0 hn6 hF6
                go_wp2
                go_roundw
                case rel => exact ⟨k + 1, F6, by omega, by go_num, HO6.out, HK6.out, HN6.out⟩
                case measure => simp [intOf] <;> omega
    · obtain rfl : k = rows.length := by omega
      have HOF := Lib.hid HO.out
      rw [List.take_length] at HOF
      have hl : (tableS rows).length = rows.length := by rw [tableS, tableS', List.length_map]
      obtain ⟨Av, cv, rfl, hsl⟩ := HOF.out.form (by rw [hl]; omega)
      rw [hl] at *
      have HSL := Lib.hid (hsl [] (fun _ h => by cases h))
      clear hsl hl
      go_wp2
      go_ret
      exact ⟨Av, cv, rfl, HSL.out, HK.out.ext0⟩
end Go.Proofs.YtbbhbgccmekheaaDoor
