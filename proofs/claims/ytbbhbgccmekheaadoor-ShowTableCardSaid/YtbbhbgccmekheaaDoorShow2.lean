/- Rows of texts as lines: the program's table. -/
import Derived.Test.YtbbhbgccmekheaaDoorShow1
namespace Go.Proofs.YtbbhbgccmekheaaDoor
open Go Go.RowKit Bst
set_option linter.unusedVariables false
set_option linter.unusedSimpArgs false

theorem wid_at {F : List Nat} {w : World} {A : Option Addr} {c : Nat} {o : List Nat} (h : Sl Kd.int F w A c (o.map ofNat)) {k : Nat} (hk : k < o.length) :
    ∃ g q, A = some ⟨g, q, none⟩ ∧ w.cell? ⟨g, q + k, none⟩ = some (.int .i64 ((o.getD k 0 : Nat) : Int)) := by
  obtain ⟨g, q, hA, hc, _⟩ := h.int_at (k := k) (by simpa using hk)
  refine ⟨g, q, hA, ?_⟩
  rw [hc, List.getD_eq_getElem?_getD, List.getElem?_eq_getElem hk]
  simp
theorem fresh_builder (w : World) : Lib.IsBuilderF 82 5 w.heap.size w.heap.size (Lib.byteCells []) (w.alloc (.cells #[.pointer none, .slice none 0 0] 82)) :=
  Lib.IsBuilderF.of (.inl ⟨Nat.le_refl _, .slice none 0 0, heap_alloc_new w _, World.ownsRow_nil _ _ _ _, by simp [Value.ownBlock]⟩)

theorem builder_below {B b : Nat} {l : List Value} {w w' : World} (h : Lib.IsBuilderF 82 5 B b l w) (k : Below w.heap.size w w') : Lib.IsBuilderF 82 5 B b l w' := by
  have keep : ∀ p, Lib.BuilderAtF 82 5 B b p l w → Lib.BuilderAtF 82 5 B b p l w' := by
    rintro p ⟨h1, v, h2, h3, h4⟩
    refine ⟨h1, v, by rw [k.block b (Array.getElem?_eq_some_iff.1 h2).1]; exact h2, ?_, h4⟩
    exact h3.kept (row := none) ⟨k.os, k.tape, k.output, k.size, fun q hq _ => k.block q hq⟩ (by cases v.ownBlock <;> simp)
  rcases h with h | h
  · exact .inl (keep _ h)
  · exact .inr (keep _ h)
theorem cat_data (s : ByteArray) (l : List UInt8) : (s ++ bs l).data.toList = s.data.toList ++ l := by rw [append_bs, bs_data]
theorem blanks_ok (w : World) (c : Nat) (hc : c ≤ 1000) : Calls Tryd.prog 42 #[.string ⟨#[32]⟩, .int .i64 (c : Int)] w fun e w' => e = .returned (.string (bs (blanks c))) ∧ Below w.heap.size w w' := by
  refine (Tryd.strings_Repeat ⟨#[32]⟩ c w (by omega) (by show 1 * c ≤ _; omega)).mono ?_
  rintro e w' ⟨rfl, h⟩
  refine ⟨?_, h⟩
  have : ((⟨#[32]⟩ : ByteArray)).data.toList = [32] := rfl
  rw [this, repeatL_blank]
  rfl

set_option maxRecDepth 100000 in
set_option maxHeartbeats 1000000 in
theorem table_ok (w : World) (A : Option Addr) (c : Nat) (rows : List (List ByteArray)) (hl : Sl KTexts [] w A c rows) (hs : Small rows) :
    Calls Tryd.prog 27 #[.slice A rows.length c] w fun e w' => ∃ A' c', e = .returned (.slice A' rows.length c') ∧ Sl Kd.str [] w' A' c' (tableS rows) ∧ Ext w w' := by
  have hnum := hs.num
  have HL := Lib.hid hl
  have HS := Lib.hid hs
  clear hl hs
  go_enter Tryd.func27, Tryd.ntmps27
  go_wp2_with (go_at_call 40; refine (widths_ok w A c rows HL.out HS.out).mono ?_)
  rintro e w1 ⟨wv, Fw, rfl, hown, hx1⟩
  have HX1 := Lib.hid hx1
  have hwl : (widS rows).length ≤ 12 := widS_length_le fun row hr => (HS.out.cols row hr).1
  obtain ⟨Aw, cw, rfl, hsl⟩ := hown.form (by simp; omega)
  have HW := Lib.hid (hsl [] (fun _ h => by cases h))
  simp only [List.length_map] at *
  clear hown hsl hx1
  go_wp2
  go_loopw [4, 14] (fun ov iv wr => ∃ (k : Nat) (F : List Nat), k ≤ rows.length ∧ iv = .int .i64 (k : Int) ∧ Hid (Own Kd.str F wr w1.heap.size 9 ov (tableS' rows (rows.take k))) ∧ Hid (Keep [] w1 F wr) ∧ Hid (∀ b ∈ F, b < wr.heap.size)) (fun _ iv _ => rows.length - (intOf iv).toNat)
  case atStart => exact ⟨0, [], Nat.zero_le _, rfl, Own.nil _ _ _ _ _, Keep.refl _ _, fun _ h => by cases h⟩
  case round =>
    obtain ⟨k, F, hk, rfl, HO, HK, HF⟩ := hrel
    by_cases hlt : k < rows.length
    · obtain ⟨g, o, A2, c2, rfl, k0, hrow⟩ := sl_row_at HL.out hlt
      have k0 := (HX1.out.trans HK.out.ext0).cell_some k0 (by simp)
      have hmem := List.getElem_mem hlt
      have hcols := HS.out.cols _ hmem
      have HROW := Lib.hid (hrow.ext (HX1.out.keep []))
      have HSZ := Lib.hid hcols.2
      have hlen := hcols.1
      have hrw := widS_length_ge hmem
      have HMEM := Lib.hid hmem
      have HT : Hid (tableS' rows (rows.take (k + 1)) = tableS' rows (rows.take k) ++ [bs (lineS rows rows[k])]) := by
        rw [Hid, List.take_succ_eq_append_getElem hlt]; unfold tableS'; rw [List.map_append]; rfl
      clear hrow hcols hmem
      generalize rows[k] = row at *
      obtain ⟨wr0, rfl⟩ : ∃ wr0 : World, wr0 = wr := ⟨_, rfl⟩
      obtain ⟨wa, hwa⟩ : ∃ wa, wa = wr0.alloc (.cells #[.pointer none, .slice none 0 0] 82) := ⟨_, rfl⟩
      obtain ⟨b, hb⟩ : ∃ b, b = wr0.heap.size := ⟨_, rfl⟩
      have HB : Hid (Lib.IsBuilderF 82 5 b b (Lib.byteCells []) wa) := by subst hwa; subst hb; exact fresh_builder wr0
      have HBW : Hid (Below b wr0 wa) := by subst hwa; subst hb; exact (Below.refl _ _).alloc (Nat.le_refl _) _
      have hbz : b < wa.heap.size := by rw [hb, hwa]; simp
      go_wp2
      rw [← hwa, ← hb]
      have HWA := Lib.hid hwa
      have HHB := Lib.hid hb
      clear hwa hb
      go_loopw [20] (fun iv wx => ∃ i : Nat, i ≤ row.length ∧ iv = .int .i64 (i : Int) ∧ Hid (Lib.IsBuilderF 82 5 b b (Lib.byteCells (lineI rows row i)) wx) ∧ Hid (Below b wa wx)) (fun iv _ => row.length - (intOf iv).toNat)
      case atStart => exact ⟨0, Nat.zero_le _, rfl, HB.out, Below.refl _ _⟩
      case round =>
        obtain ⟨i, hi, rfl, HI, HQ⟩ := hrel
        have hbx : b < wr.heap.size := Nat.lt_of_lt_of_le hbz HQ.out.size
        by_cases hlt2 : i < row.length
        · obtain ⟨g2, o2, rfl, k1, -⟩ := sl_str_at HROW.out hlt2
          have HEX : Hid (Ext w1 wr) := by
            have h1 := HK.out.ext0
            have h2 := HBW.out.trans HQ.out
            rw [HHB.out] at h2
            exact h1.trans (Ext.of_below h2)
          have k1 := HEX.out.cell_some k1 (by simp)
          obtain ⟨g3, o3, rfl, k2⟩ := wid_at HW.out (k := i) (by omega)
          rw [widS_getD] at k2
          have K2 := Lib.hid k2
          have k2 := HEX.out.cell_some k2 (by simp)
          have hsz2 := HSZ.out _ (List.getElem_mem hlt2)
          have hsw := wide_ge HMEM.out i
          have e2 : row.getD i ByteArray.empty = row[i] := by rw [List.getD_eq_getElem?_getD, List.getElem?_eq_getElem hlt2]; rfl
          have HLI : Hid (lineI rows row (i + 1) = lineI rows row i ++ (if 0 < i then [32, 32] else []) ++ (row[i].data.toList ++ blanks (wideS rows i - row[i].size))) := by rw [Hid, lineI, e2]
          rw [e2] at hsw
          have hw40 := HS.out.wide i
          have hli := lineI_le HS.out HMEM.out i
          have hi12 : i ≤ 12 := by omega
          clear e2
          generalize row[i] = s at *
          generalize wideS rows i = W at *
          obtain ⟨pad, rfl⟩ : ∃ pad, W = s.size + pad := ⟨W - s.size, by omega⟩
          generalize lineI rows row i = acc at *
          have hcat : s.size + (bs (blanks pad)).size ≤ 9223372036854775807 := by rw [bs_size, List.length_replicate]; omega
          have HCAT : Hid ((s ++ bs (blanks pad)).size ≤ 80) := by rw [Hid, ← size_data, cat_data, List.length_append, List.length_replicate, size_data]; omega
          rcases Nat.eq_zero_or_pos i with hi0 | hi0
          · have d0 : decide (0 < i) = false := decide_eq_false (by omega)
            have HD0 : Hid ((if 0 < i then ([32, 32] : List UInt8) else []) = []) := if_neg (by omega)
            clear hi0
            rw [HD0.out, List.append_nil, Nat.add_sub_cancel_left] at HLI
            go_wp2_with fail
            rw [show ((s.size : Int) + (pad : Int) - (s.size : Int)) = ((pad : Nat) : Int) from by omega]
            refine (blanks_ok wr pad (by omega)).mono ?_
            rintro e w3 ⟨rfl, hb3⟩
            have HQ3 := Lib.hid (HQ.out.trans (hb3.mono (by omega)))
            have HI3 := Lib.hid (builder_below HI.out hb3)
            have hbz3 := hb3.size
            clear hb3
            go_wp2_with fail
            refine (write_ok b b acc _ w3 HI3.out (by have := HCAT.out; omega) (by omega)).mono ?_
            rw [cat_data, ← HLI.out]
            rintro e w4 ⟨rfl, hI4, hb4⟩
            have HQ4 := Lib.hid (HQ3.out.trans hb4)
            have HI4 := Lib.hid hI4
            clear hI4 hb4
            go_wp2
            go_roundw
            case rel => exact ⟨i + 1, by omega, by go_num, HI4.out, HQ4.out⟩
            case measure => simp [intOf] <;> omega
          · have d0 : decide (0 < i) = true := decide_eq_true hi0
            have HD0 : Hid ((if 0 < i then ([32, 32] : List UInt8) else []) = [32, 32]) := if_pos hi0
            rw [HD0.out, Nat.add_sub_cancel_left] at HLI
            go_wp2_with fail
            refine (write_ok b b acc ⟨#[32, 32]⟩ wr HI.out (by have : (⟨#[32, 32]⟩ : ByteArray).size = 2 := rfl; omega) (by omega)).mono ?_
            rintro e w2 ⟨rfl, hI2, hb2⟩
            have HQ2 := Lib.hid (HQ.out.trans hb2)
            have HI2 : Hid (Lib.IsBuilderF 82 5 b b (Lib.byteCells (acc ++ [32, 32])) w2) := hI2
            have HEX2 : Hid (Ext w1 w2) := by
              have h1 := HK.out.ext0
              have h2 := HBW.out.trans HQ2.out
              rw [HHB.out] at h2
              exact h1.trans (Ext.of_below h2)
            have k2 := HEX2.out.cell_some K2.out (by simp)
            have hb2z := hb2.size
            clear hI2 hb2
            go_wp2_with fail
            rw [show ((s.size : Int) + (pad : Int) - (s.size : Int)) = ((pad : Nat) : Int) from by omega]
            refine (blanks_ok w2 pad (by omega)).mono ?_
            rintro e w3 ⟨rfl, hb3⟩
            have HQ3 := Lib.hid (HQ2.out.trans (hb3.mono (by omega)))
            have HI3 := Lib.hid (builder_below HI2.out hb3)
            have hbz3 := hb3.size
            clear hb3
            go_wp2_with fail
            refine (write_ok b b (acc ++ [32, 32]) _ w3 HI3.out (by have := HCAT.out; rw [List.length_append]; have : ([32, 32] : List UInt8).length = 2 := rfl; omega) (by omega)).mono ?_
            rw [cat_data, ← HLI.out]
            rintro e w4 ⟨rfl, hI4, hb4⟩
            have HQ4 := Lib.hid (HQ3.out.trans hb4)
            have HI4 := Lib.hid hI4
            clear hI4 hb4
            go_wp2
            go_roundw
            case rel => exact ⟨i + 1, by omega, by go_num, HI4.out, HQ4.out⟩
            case measure => simp [intOf] <;> omega
        · obtain rfl : i = row.length := by omega
          have HLS : Hid (bs (lineS rows row) = ⟨(Lib.trimRightB (bs (lineI rows row row.length)).data.toList 32).toArray⟩) := by rw [Hid, bs_data]; rfl
          have hli := lineI_le HS.out HMEM.out row.length
          have hls := lineS_le HS.out HMEM.out
          have HLZ : Hid ((bs (lineI rows row row.length)).size ≤ 9223372036854775807) := by rw [Hid, bs_size]; omega
          have hbl : b ≤ wr.heap.size := by omega
          go_wp2_with fail
          refine (string_ok b b _ wr HI.out hbl).mono ?_
          rintro e w4 ⟨rfl, hb4⟩
          have HQ4 := Lib.hid (HQ.out.trans hb4)
          clear hb4
          go_wp2_with fail
          refine (Tryd.strings_TrimRight_one (bs (lineI rows row row.length)) 32 (by decide) w4 HLZ.out).mono ?_
          rw [← HLS.out]
          rintro e w5 ⟨rfl, rfl⟩
          have HEX4 : Hid (Ext wr0 w5) := by
            have h2 := HBW.out.trans HQ4.out
            rw [HHB.out] at h2
            exact Ext.of_below h2
          have HO5 := Lib.hid (HO.out.ext_ HEX4.out)
          have HK5 := Lib.hid (HK.out.trans (HEX4.out.keep F))
          have HF5 : Hid (∀ x ∈ F, x < w5.heap.size) := fun x hx => Nat.lt_of_lt_of_le (HF.out x hx) HEX4.out.size
          have HT5 : Hid ((tableS' rows (rows.take k)).length ≤ 30) := by rw [Hid, tableS', List.length_map, List.length_take]; omega
          have HZ5 : Hid ((bs (lineS rows row)).size ≤ 140737488355328) := by rw [Hid, bs_size]; omega
          obtain ⟨Av, cv, rfl⟩ := own_shape HO5.out
          go_wp2_with (at_builtin; go_must (refine wp_app1 (K := Kd.str) et_str rfl _ _ rfl w5 [.string (bs (lineS rows row))] w1.heap.size F (.slice Av _ cv) _ (bs (lineS rows row)) (by rfl) (by rfl) rfl HO5.out ⟨rfl, HZ5.out⟩ HF5.out (by have := HT5.out; omega) (by have := HT5.out; omega) HK5.out.size ?_))
          intro v' w6 F6 hown6 hk6 hk0 hn6 hF6
          rw [← HT.out] at hown6
          have HO6 := Lib.hid hown6
          have HK6 := Lib.hid (HK5.out.trans hk6)
          have HN6 := Lib.hid hn6
          clear hown6 hk6 hk0 hn6 hF6
          go_wp2
          go_roundw
          case rel => exact ⟨k + 1, F6, by omega, by go_num, HO6.out, HK6.out, HN6.out⟩
          case measure => simp [intOf] <;> omega
    · obtain rfl : k = rows.length := by omega
      have HOF := Lib.hid HO.out
      rw [List.take_length] at HOF
      have hl : (tableS rows).length = rows.length := by rw [tableS, tableS', List.length_map]
      obtain ⟨Av, cv, rfl, hsl⟩ := HOF.out.form (by rw [hl]; omega)
      rw [hl] at *
      have HSL := Lib.hid (hsl [] (fun _ h => by cases h))
      clear hsl hl
      go_wp2
      go_ret
      exact ⟨Av, cv, rfl, HSL.out, HX1.out.trans HK.out.ext0⟩
end Go.Proofs.YtbbhbgccmekheaaDoor
