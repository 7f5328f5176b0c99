/- The statement: rows printed as lines. -/
import Derived.Test.YtbbhbgccmekheaaDoorShow4
namespace Go.Proofs.YtbbhbgccmekheaaDoor
open Go Go.RowKit Bst
set_option linter.unusedVariables false
set_option linter.unusedSimpArgs false

theorem row_strs {w : World} {g : Nat} {l : List ByteArray} {t : TypeId} (h : w.heap[g]? = some (.cells (l.map Value.string).toArray t (0, 0))) (hl : l.length ≤ 100) (hs : ∀ s ∈ l, s.size ≤ 140737488355328) : Sl Kd.str [] w (some ⟨g, 0, none⟩) l.length l :=
  Row.sl (K := Kd.str) (enc := Value.string) ⟨t, h⟩ rfl (fun x hx => ⟨rfl, hs x hx⟩) (by simp) (by omega) (Nat.le_refl _)
theorem sl_two {w : World} {g : Nat} {a b : List ByteArray} {A1 A2 : Option Addr} {c1 c2 : Nat} {t : TypeId} (h : w.heap[g]? = some (.cells #[.slice A1 a.length c1, .slice A2 b.length c2] t (0, 0))) (h1 : Sl Kd.str [] w A1 c1 a) (h2 : Sl Kd.str [] w A2 c2 b) :
    Sl KTexts [] w (some ⟨g, 0, none⟩) 2 [a, b] := by
  refine ⟨Nat.le_refl _, by simp, fun _ => ⟨g, 0, rfl, heap_lt h, by simp, fun i x hx => ?_⟩⟩
  have hi : i < 2 := by simpa using (List.getElem?_eq_some_iff.1 hx).1
  have hc : i = 0 ∨ i = 1 := by omega
  rcases hc with rfl | rfl
  · simp at hx; subst hx
    refine ⟨[.slice A1 a.length c1], ⟨A1, c1, rfl, h1⟩, fun j u hu => ?_⟩
    have hj : j = 0 := by have := (List.getElem?_eq_some_iff.1 hu).1; simp at this; omega
    subst hj
    simp at hu; subst hu
    simpa [Kd.slice] using cell_blk h 0
  · simp at hx; subst hx
    refine ⟨[.slice A2 b.length c2], ⟨A2, c2, rfl, h2⟩, fun j u hu => ?_⟩
    have hj : j = 0 := by have := (List.getElem?_eq_some_iff.1 hu).1; simp at this; omega
    subst hj
    simp at hu; subst hu
    simpa [Kd.slice] using cell_blk h 1
abbrev ex42 : List (List ByteArray) := [[⟨#[97]⟩, ⟨#[98, 99, 100]⟩], [⟨#[101, 102, 103]⟩, ⟨#[104]⟩]]
abbrev out42 : List ByteArray := [⟨#[97, 32, 32, 32, 32, 98, 99, 100]⟩, ⟨#[101, 102, 103, 32, 32, 104]⟩]
theorem ex_table : tableS ex42 = out42 := by kernel_rfl
theorem ex_small : Small ex42 := ⟨by decide, fun row hr => by
  simp only [List.mem_cons, List.not_mem_nil, or_false] at hr
  rcases hr with rfl | rfl
  · refine ⟨by decide, fun s hs => ?_⟩
    simp only [List.mem_cons, List.not_mem_nil, or_false] at hs
    rcases hs with rfl | rfl <;> decide
  · refine ⟨by decide, fun s hs => ?_⟩
    simp only [List.mem_cons, List.not_mem_nil, or_false] at hs
    rcases hs with rfl | rfl <;> decide⟩
set_option maxRecDepth 100000 in
set_option maxHeartbeats 1000000 in
theorem awake42_ok (w : World) : Calls Tryd.prog 25 #[] w fun e w' => e = .returned (.bool true) ∧ Ext w w' := by
  go_enter Tryd.func25, Tryd.ntmps25
  have hsl : Hid (Sl KTexts [] (((w.alloc (.cells #[.string ⟨#[97]⟩, .string ⟨#[98, 99, 100]⟩] 9)).alloc (.cells #[.string ⟨#[101, 102, 103]⟩, .string ⟨#[104]⟩] 9)).alloc (.cells #[.slice (some ⟨w.heap.size, 0, none⟩) 2 2, .slice (some ⟨w.heap.size + 1, 0, none⟩) 2 2] 58)) (some ⟨w.heap.size + 1 + 1, 0, none⟩) 2 ex42) := by
    have r1 := row_strs (l := [⟨#[97]⟩, ⟨#[98, 99, 100]⟩]) (heap_alloc_new w (.cells #[.string ⟨#[97]⟩, .string ⟨#[98, 99, 100]⟩] 9)) (by decide) (by simp only [List.mem_cons, List.not_mem_nil, or_false]; rintro s (rfl | rfl) <;> decide)
    have e1 := Ext.alloc (w.alloc (.cells #[.string ⟨#[97]⟩, .string ⟨#[98, 99, 100]⟩] 9)) (.cells #[.string ⟨#[101, 102, 103]⟩, .string ⟨#[104]⟩] 9)
    have r2 := row_strs (l := [⟨#[101, 102, 103]⟩, ⟨#[104]⟩]) (heap_alloc_new (w.alloc (.cells #[.string ⟨#[97]⟩, .string ⟨#[98, 99, 100]⟩] 9)) (.cells #[.string ⟨#[101, 102, 103]⟩, .string ⟨#[104]⟩] 9)) (by decide) (by simp only [List.mem_cons, List.not_mem_nil, or_false]; rintro s (rfl | rfl) <;> decide)
    have e2 := Ext.alloc ((w.alloc (.cells #[.string ⟨#[97]⟩, .string ⟨#[98, 99, 100]⟩] 9)).alloc (.cells #[.string ⟨#[101, 102, 103]⟩, .string ⟨#[104]⟩] 9)) (.cells #[.slice (some ⟨w.heap.size, 0, none⟩) 2 2, .slice (some ⟨w.heap.size + 1, 0, none⟩) 2 2] 58)
    rw [show (w.alloc (.cells #[.string ⟨#[97]⟩, .string ⟨#[98, 99, 100]⟩] 9)).heap.size = w.heap.size + 1 from by simp] at r2
    have hz : ((w.alloc (.cells #[.string ⟨#[97]⟩, .string ⟨#[98, 99, 100]⟩] 9)).alloc (.cells #[.string ⟨#[101, 102, 103]⟩, .string ⟨#[104]⟩] 9)).heap.size = w.heap.size + 1 + 1 := by simp
    have hn := heap_alloc_new ((w.alloc (.cells #[.string ⟨#[97]⟩, .string ⟨#[98, 99, 100]⟩] 9)).alloc (.cells #[.string ⟨#[101, 102, 103]⟩, .string ⟨#[104]⟩] 9)) (.cells #[.slice (some ⟨w.heap.size, 0, none⟩) 2 2, .slice (some ⟨w.heap.size + 1, 0, none⟩) 2 2] 58)
    rw [hz] at hn
    exact sl_two hn (r1.ext ((e1.trans e2).keep [])) (r2.ext (e2.keep []))
  have HX3 : Hid (Ext w (((w.alloc (.cells #[.string ⟨#[97]⟩, .string ⟨#[98, 99, 100]⟩] 9)).alloc (.cells #[.string ⟨#[101, 102, 103]⟩, .string ⟨#[104]⟩] 9)).alloc (.cells #[.slice (some ⟨w.heap.size, 0, none⟩) 2 2, .slice (some ⟨w.heap.size + 1, 0, none⟩) 2 2] 58))) := ((Ext.alloc _ _).trans (Ext.alloc _ _)).trans (Ext.alloc _ _)
  go_wp2_with fail
  refine (table_ok _ _ 2 ex42 hsl.out ex_small).mono ?_
  rw [ex_table]
  rintro e w4 ⟨A4, c4, rfl, hs4, hx4⟩
  have HX4 := Lib.hid (HX3.out.trans hx4)
  have r5 : Hid (Sl Kd.str [] (w4.alloc (.cells #[.string ⟨#[97, 32, 32, 32, 32, 98, 99, 100]⟩, .string ⟨#[101, 102, 103, 32, 32, 104]⟩] 9)) (some ⟨w4.heap.size, 0, none⟩) 2 out42) := row_strs (l := out42) (heap_alloc_new w4 _) (by decide) (by simp only [List.mem_cons, List.not_mem_nil, or_false]; rintro s (rfl | rfl) <;> decide)
  have e5 : Hid (Ext w4 (w4.alloc (.cells #[.string ⟨#[97, 32, 32, 32, 32, 98, 99, 100]⟩, .string ⟨#[101, 102, 103, 32, 32, 104]⟩] 9))) := Ext.alloc _ _
  have HS4 := Lib.hid (hs4.ext (e5.out.keep []))
  clear hsl hs4 hx4 HX3
  go_wp2_with fail
  refine (lines_ok [] _ _ _ _ _ out42 out42 HS4.out r5.out).mono ?_
  rintro e w6 ⟨rfl, n6, rfl⟩
  rw [decide_eq_true rfl]
  have HX6 := Lib.hid ((HX4.out.trans e5.out).trans (Ext.drewN _ n6))
  go_wp2_with fail
  refine (role_ok _ 4).mono ?_
  rintro e w' ⟨rfl, rfl⟩
  rw [show roleS 4 = ⟨#[111, 119, 110, 101, 114]⟩ from rfl]
  go_wp2
  go_ret
  exact ⟨rfl, HX6.out⟩
theorem idx_str (s : ByteArray) (i : Int) (n : Nat) (hi : i = n) (h : n < s.size) (wq : World) : (Instr.index 9 (.string s) (.int .i64 i)).run Tryd.prog wq = .ok (.int .u8 ((s[n]'h).toNat : Int)) wq := by
  subst hi
  rw [run_index_string wq 9 s .i64 (n : Int) Tryd.underlying9, dif_pos ⟨by omega, by omega⟩]
  simp
theorem role_eq (n : Int) : ((roleS n).toList == (roleS n).toList) = true := by simp
set_option maxRecDepth 100000 in
set_option maxHeartbeats 4000000 in
theorem showTable_ok (w : World) (A : Option Addr) (c : Nat) (rows : List (List ByteArray)) (role : Int) (hl : Sl KTexts [] w A c rows) :
    Calls Tryd.prog 6 #[.slice A rows.length c, .int .i64 role] w fun e w' => e = .returned (.bool true) ∧ Ext w w' := by
  have hle := hl.len_le
  have HL := Lib.hid hl
  clear hl
  go_enter Tryd.func6, Tryd.ntmps6
  go_wp2_with (go_at_call 25; refine (awake42_ok w).mono ?_)
  rintro e w1 ⟨rfl, hx1⟩
  have HX1 := Lib.hid hx1
  have HL1 := Lib.hid (HL.out.ext (hx1.keep []))
  clear hx1
  go_wp2_with fail
  refine (few42_ok w1 A c rows HL1.out).mono ?_
  rintro e w' ⟨rfl, rfl⟩
  cases hfew : fewT rows
  · go_wp2
    go_ret
    exact ⟨rfl, HX1.out⟩
  · obtain ⟨hsm, hn20⟩ := fewT_small hfew
    have HS := Lib.hid hsm
    clear hfew hsm
    go_wp2_with fail
    refine (table_ok w1 A c rows HL1.out HS.out).mono ?_
    rintro e w2 ⟨A2, c2, rfl, hs2, hx2⟩
    have HX2 := Lib.hid (HX1.out.trans hx2)
    have HL2 := Lib.hid (HL1.out.ext (hx2.keep []))
    have HS2 := Lib.hid hs2
    have htl : (tableS rows).length = rows.length := by rw [tableS, tableS', List.length_map]
    have HTL := Lib.hid htl
    clear hs2 hx2 htl
    go_wp2_with fail
    refine (rtable_ok w2 A c rows HL2.out HS.out).mono ?_
    rintro e w3 ⟨A3, c3, rfl, hs3, hx3⟩
    have HX3 := Lib.hid (HX2.out.trans hx3)
    have HL3 := Lib.hid (HL2.out.ext (hx3.keep []))
    have HT2 := Lib.hid (HS2.out.ext (hx3.keep []))
    have HT3 := Lib.hid hs3
    clear hs3 hx3
    go_wp2_with fail
    rw [← HTL.out]
    refine (lines_ok [] w3 A2 A3 c2 c3 (tableS rows) (tableS rows) HT2.out HT3.out).mono ?_
    rintro e w4 ⟨rfl, n4, rfl⟩
    rw [decide_eq_true rfl, HTL.out]
    have HX4 := Lib.hid (HX3.out.trans (Ext.drewN w3 n4))
    have HL4 := Lib.hid (HL3.out.ext ((Ext.drewN w3 n4).keep []))
    have HT4 := Lib.hid (HT2.out.ext ((Ext.drewN w3 n4).keep []))
    generalize w3.drewN n4 = w4 at *
    go_wp2_with fail
    refine (role_ok w4 role).mono ?_
    rintro e w' ⟨rfl, rfl⟩
    go_wp2_with fail
    refine (rrole_ok w4 role).mono ?_
    rintro e w5 ⟨rfl, hx5⟩
    have HX5 := Lib.hid (HX4.out.trans hx5)
    have HL5 := Lib.hid (HL4.out.ext (hx5.keep []))
    have HT5 := Lib.hid (HT4.out.ext (hx5.keep []))
    clear hx5 HX1 HX2 HX3 HX4 HL1 HL2 HL3 HL4 HT2 HT3 HT4
    have hrole := role_eq role
    generalize roleS role = rs at *
    go_wp2
    go_loopw [36] (fun iv wr => ∃ i : Nat, i ≤ rows.length ∧ iv = .int .i64 (i : Int) ∧ Hid (Ext w5 wr)) (fun iv _ => rows.length - (intOf iv).toNat)
    case atStart => exact ⟨0, Nat.zero_le _, rfl, Ext.refl _⟩
    case round =>
      obtain ⟨i, hi, rfl, HE⟩ := hrel
      obtain ⟨wr1, rfl⟩ : ∃ wr1 : World, wr1 = wr := ⟨_, rfl⟩
      by_cases hlt : i < rows.length
      · obtain ⟨g, o, A6, c6, rfl, k0, hrow⟩ := sl_row_at (HL5.out.ext (HE.out.keep [])) hlt
        have hmem := List.getElem_mem hlt
        have hcols := HS.out.cols _ hmem
        have HROW := Lib.hid hrow
        have HSZ := Lib.hid hcols.2
        have hlen := hcols.1
        have HMEM := Lib.hid hmem
        obtain ⟨gT, oT, hA2, kT, -⟩ := sl_str_at HT5.out (k := i) (by rw [HTL.out]; exact hlt)
        have e1 : (tableS rows)[i]'(by rw [HTL.out]; exact hlt) = bs (lineS rows rows[i]) := by simp [tableS, tableS']
        rw [e1] at kT
        have KT := Lib.hid kT
        subst hA2
        have hls := lineS_le HS.out hmem
        clear hrow hcols hmem e1 kT
        generalize rows[i] = row at *
        go_wp2
        go_loopw [8, 43] (fun av kv wx => ∃ k : Nat, k ≤ row.length ∧ kv = .int .i64 (k : Int) ∧ av = .int .i64 (atS rows k : Int) ∧ Hid (Ext wr1 wx)) (fun _ kv _ => row.length - (intOf kv).toNat)
        case atStart => exact ⟨0, Nat.zero_le _, rfl, rfl, Ext.refl _⟩
        case round =>
          obtain ⟨k, hk, rfl, rfl, HE2⟩ := hrel
          obtain ⟨wr2, rfl⟩ : ∃ wr2 : World, wr2 = wr := ⟨_, rfl⟩
          by_cases hlt2 : k < row.length
          · obtain ⟨g2, o2, rfl, k1, -⟩ := sl_str_at (HROW.out.ext (HE2.out.keep [])) hlt2
            have hsz2 := HSZ.out _ (List.getElem_mem hlt2)
            have e2 : row.getD k ByteArray.empty = row[k] := by rw [List.getD_eq_getElem?_getD, List.getElem?_eq_getElem hlt2]; rfl
            have HAT : Hid (atS rows (k + 1) = atS rows k + wideS rows k + 2) := rfl
            have hat := atS_le HS.out k
            have hLA : Hid (∀ n, n < row[k].size → (atS rows k + n < (lineS rows row).length → (lineS rows row)[atS rows k + n]? = row[k].data.toList[n]?) ∧ (¬ atS rows k + n < (lineS rows row).length → row[k].data.toList[n]? = some 32)) := by
              intro n hn
              have := lineS_at HMEM.out (k := k) (n := n) hlt2 (by rw [e2]; exact hn)
              rwa [e2] at this
            clear e2
            generalize row[k] = s at *
            generalize atS rows k = at0 at *
            generalize lineS rows row = LS at *
            go_wp2
            go_loopw [50] (fun nv wx => ∃ n : Nat, n ≤ s.size ∧ nv = .int .i64 (n : Int) ∧ Hid (Ext wr2 wx)) (fun nv _ => s.size - (intOf nv).toNat)
            case atStart => exact ⟨0, Nat.zero_le _, rfl, Ext.refl _⟩
            case round =>
              obtain ⟨n, hn, rfl, HE3⟩ := hrel
              by_cases hlt3 : n < s.size
              · have kT := ((HE.out.trans HE2.out).trans HE3.out).cell_some KT.out (by simp)
                have hla := hLA.out n hlt3
                have hbz := bs_size LS
                have hq1 : IntKind.i64.wrap ((at0 : Int) + (n : Int)) = (at0 : Int) + (n : Int) := IntWalk.i64_in _ (by omega)
                have hq2 : (0 : Int) ≤ (at0 : Int) + (n : Int) := by omega
                have hq3 : ((at0 : Int) + (n : Int)).toNat = at0 + n := by omega
                by_cases hc : at0 + n < (bs LS).size
                · have h1 := hla.1 (by rw [← hbz]; exact hc)
                  have hbeq : (bs LS)[at0 + n]'hc = s[n]'hlt3 := by
                    rw [bs_get]
                    rw [List.getElem?_eq_getElem (by rw [← hbz]; exact hc), List.getElem?_eq_getElem (by rw [size_data]; exact hlt3)] at h1
                    have h2 := Option.some.inj h1
                    rw [h2]
                    rfl
                  have hne : ((((bs LS)[at0 + n]'hc).toNat : Int) != ((s[n]'hlt3).toNat : Int)) = false := by rw [hbeq]; simp
                  have d1 : decide (at0 + n < (bs LS).size) = true := decide_eq_true hc
                  have d2 : decide ((at0 : Int) + (n : Int) < ((bs LS).size : Int)) = true := decide_eq_true (by omega)
                  have d3 : decide (((bs LS).size : Int) ≤ (at0 : Int) + (n : Int)) = false := decide_eq_false (by omega)
                  have d4 : decide ((bs LS).size ≤ at0 + n) = false := decide_eq_false (by omega)
                  have hx1 := idx_str (bs LS) ((at0 : Int) + (n : Int)) (at0 + n) (by omega) hc
                  have hx2 := idx_str s (n : Int) n rfl hlt3
                  clear hla h1 hbeq hbz
                  go_wp2
                  go_quiet (fail)
                  rename_i nq
                  have HE4 := Lib.hid (HE3.out.trans (Ext.drewN wr nq))
                  go_wp2
                  go_roundw
                  case rel => exact ⟨n + 1, by omega, by go_num, HE4.out⟩
                  case measure => simp [intOf] <;> omega
                · have h1 := hla.2 (by rw [← hbz]; exact hc)
                  have hbeq : s[n]'hlt3 = 32 := by
                    rw [List.getElem?_eq_getElem (by rw [size_data]; exact hlt3)] at h1
                    have h2 := Option.some.inj h1
                    rw [← h2]
                    rfl
                  have hne : (((s[n]'hlt3).toNat : Int) != 32) = false := by rw [hbeq]; rfl
                  have d1 : decide (at0 + n < (bs LS).size) = false := decide_eq_false hc
                  have d2 : decide ((at0 : Int) + (n : Int) < ((bs LS).size : Int)) = false := decide_eq_false (by omega)
                  have d3 : decide (((bs LS).size : Int) ≤ (at0 : Int) + (n : Int)) = true := decide_eq_true (by omega)
                  have d4 : decide ((bs LS).size ≤ at0 + n) = true := decide_eq_true (by omega)
                  have hx2 := idx_str s (n : Int) n rfl hlt3
                  clear hla h1 hbeq hbz
                  go_wp2
                  go_quiet (fail)
                  rename_i nq
                  have HE4 := Lib.hid (HE3.out.trans (Ext.drewN wr nq))
                  go_wp2
                  go_roundw
                  case rel => exact ⟨n + 1, by omega, by go_num, HE4.out⟩
                  case measure => simp [intOf] <;> omega
              · have HLW := Lib.hid (HL5.out.ext (((HE.out.trans HE2.out).trans HE3.out).keep []))
                have HE4 := Lib.hid (HE2.out.trans HE3.out)
                have hw40 := HS.out.wide k
                go_wp2
                go_loop [12, 96] (fun wv qv => ∃ q : Nat, q ≤ rows.length ∧ qv = .int .i64 (q : Int) ∧ wv = .int .i64 (wideS (rows.take q) k : Int)) (fun _ qv => rows.length - (intOf qv).toNat)
                case atStart => exact ⟨0, Nat.zero_le _, rfl, rfl⟩
                case round =>
                  obtain ⟨q, hq, rfl, rfl⟩ := hrel
                  by_cases hltq : q < rows.length
                  · obtain ⟨g7, o7, A7, c7, hA7, k7, hrow7⟩ := sl_row_at HLW.out hltq
                    injection hA7 with hA7
                    injection hA7 with hA7 hA8
                    subst hA7; subst hA8
                    have HT : Hid (wideS (rows.take (q + 1)) k = max (wideS (rows.take q) k) (rows[q].getD k ByteArray.empty).size) := by
                      rw [Hid, List.take_succ_eq_append_getElem hltq, wide_snoc]
                    have hm40 : wideS (rows.take q) k ≤ 40 := Small.wide ⟨by rw [List.length_take]; omega, fun row hr => HS.out.cols row (List.mem_of_mem_take hr)⟩ k
                    by_cases hq2 : k < rows[q].length
                    · obtain ⟨g8, o8, rfl, k8, hsz8⟩ := sl_str_at hrow7 hq2
                      have e2 : rows[q].getD k ByteArray.empty = rows[q][k] := by rw [List.getD_eq_getElem?_getD, List.getElem?_eq_getElem hq2]; rfl
                      rw [e2] at HT
                      clear hrow7 e2
                      generalize rows[q][k] = s8 at *
                      generalize rows[q] = row8 at *
                      generalize wideS (rows.take q) k = m at *
                      have dq : decide (k < row8.length) = true := decide_eq_true hq2
                      have HT2 : Hid ((wideS (rows.take (q + 1)) k : Int) = max (m : Int) (s8.size : Int)) := by rw [Hid, HT.out]; omega
                      clear HT
                      go_wp2
                      go_round
                      case rel => exact ⟨q + 1, by omega, by go_num, by rw [HT2.out]⟩
                      case measure => simp [intOf] <;> omega
                    · have e0 := row_len_pos (row := rows[q]) (k := k) (by omega)
                      have HT2 : Hid (wideS (rows.take (q + 1)) k = wideS (rows.take q) k) := by rw [Hid, HT.out, e0]; omega
                      clear hrow7 e0 HT
                      generalize rows[q] = row8 at *
                      generalize wideS (rows.take q) k = m at *
                      have dq : decide (k < row8.length) = false := decide_eq_false hq2
                      go_wp2
                      go_round
                      case rel => exact ⟨q + 1, by omega, by go_num, by rw [HT2.out]⟩
                      case measure => simp [intOf] <;> omega
                  · obtain rfl : q = rows.length := by omega
                    have HWT : Hid (wideS (rows.take rows.length) k = wideS rows k) := by rw [Hid, List.take_length]
                    rw [HWT.out]
                    go_wp2
                    go_roundw
                    case rel => exact ⟨k + 1, by omega, by go_num, by rw [HAT.out]; go_num, HE4.out⟩
                    case measure => simp [intOf] <;> omega
          · have HE4 := Lib.hid (HE.out.trans HE2.out)
            go_wp2
            go_roundw
            case rel => exact ⟨i + 1, by omega, by go_num, HE4.out⟩
            case measure => simp [intOf] <;> omega
      · have HXF := Lib.hid (HX5.out.trans HE.out)
        go_wp2
        go_ret
        exact ⟨rfl, HXF.out⟩
end Go.Proofs.YtbbhbgccmekheaaDoor
