/- A log: redo. A log: raise, Checkpoint. A log: Open. -/
import Derived.Test.YtkmnjccklnfcdaaWalC
import Derived.Test.YtkmnjccklnfcdaaWalD
namespace Go.Proofs.Ytkmnjccklnfcdaa
open Go Go.RowKit Bst
set_option linter.unusedVariables false
set_option linter.unusedSimpArgs false
set_option maxHeartbeats 1000000 in
theorem redo_ok (w : World) (F : List Nat) (lb db : Nat) (d : Dsk) (l : Lg) (h : LogOn w F lb db d l) (ws : List (Int × List UInt8)) (A : Option Addr) (c : Nat) (hs : Sl KApi F w A c ws) (hw : d.wait.length + ws.length < 1000000000) (hr : ∀ x ∈ ws, 0 ≤ x.1 ∧ x.1 ≤ 16384) :
    Calls Try.prog 66 #[.pointer (some ⟨lb, 0, none⟩), .slice A ws.length c] w fun e w' => e = .returned (.int .i64 (redoS l.size d ws).1) ∧ ∃ F', DiskAt w' F' db (redoS l.size d ws).2 ∧ Keep F w F' w' ∧ ∀ x ∈ F, x ∈ F' := by
  have hle := hs.len_le
  have HL := Lib.hid h
  have HS := Lib.hid hs
  have HW := Lib.hid hw
  have HR := Lib.hid hr
  have hsz := h.size
  have hdl := h.disk.len
  clear h hs hw hr
  go_enter Try.func66, Try.ntmps66
  go_wp2
  go_loopw [10] (fun iv wr => ∃ (j : Nat) (dj : Dsk) (Fj : List Nat), j ≤ ws.length ∧ iv = .int .i64 (j : Int) ∧ Hid (DiskAt wr Fj db dj) ∧ Hid (Keep F w Fj wr) ∧ Hid (∀ x ∈ F, x ∈ Fj) ∧ Hid (redoS l.size d ws = redoS l.size dj (ws.drop j)) ∧ Hid (dj.wait.length ≤ d.wait.length + j) ∧ Hid (dj.now.length = d.now.length)) (fun iv _ => ws.length - (intOf iv).toNat)
  case atStart => exact ⟨0, d, F, Nat.zero_le _, rfl, HL.out.disk, Keep.refl _ _, fun x hx => hx, rfl, Nat.le_refl _, rfl⟩
  case round =>
    obtain ⟨j, dj, Fj, hj, rfl, HD, HK, HF, HB, HJ, HN⟩ := hrel
    by_cases hlt : j < ws.length
    · obtain ⟨g, o, A2, c2, rfl, hg, hgF, k0, k1, hs8, hi⟩ := api_at (HS.out.ext HK.out) hlt
      have HS8 := Lib.hid hs8
      obtain ⟨h0, h1⟩ := HR.out ws[j] (List.getElem_mem hlt)
      have HST : Hid (ws.drop j = ws[j] :: ws.drop (j + 1)) := List.drop_eq_getElem_cons hlt
      generalize ws[j] = x at *
      have HLG := Lib.hid (HL.out.log.keep HK.out HL.out.out)
      obtain ⟨e0, -, -, -, -, -, -, -⟩ := HLG.out.cells
      have hlb := HLG.out
      have hltb := World.block_lt_of_cell? wr _ e0
      have hne := World.new_ne wr _ e0
      have hx := (Ext.alloc wr (.cells #[.int .i64 x.1, .slice A2 x.2.length c2] 100)).trans (Ext.drew _)
      have HDA := Lib.hid (HD.out.ext hx)
      have HLA := Lib.hid (HLG.out.ext hx)
      have HKA := Lib.hid (HK.out.trans (hx.keep Fj))
      have HS8A := Lib.hid (HS8.out.ext (hx.keep Fj))
      have HWB : Hid (dj.wait.length < 1000000000) := by have := HJ.out; have := HW.out; unfold Hid; omega
      have hstep : redoS l.size dj (ws.drop j) = if (dj.write (2 + l.size + x.1) x.2).1 ≠ 0 then dj.write (2 + l.size + x.1) x.2 else redoS l.size (dj.write (2 + l.size + x.1) x.2).2 (ws.drop (j + 1)) := by
        rw [HST.out, redoS]
      have hww := write_wait dj (2 + l.size + x.1) x.2
      have hwn := write_now dj (2 + l.size + x.1) x.2
      have HWN := Lib.hid (hwn.trans HN.out)
      have HWW : Hid ((dj.write (2 + l.size + x.1) x.2).2.wait.length ≤ d.wait.length + (j + 1)) := by have := HJ.out; unfold Hid; omega
      obtain ⟨r, hr⟩ : ∃ r, r = (dj.write (2 + l.size + x.1) x.2).1 := ⟨_, rfl⟩
      rw [← hr] at hstep
      have HRR := Lib.hid hr
      have HST2 := Lib.hid (HB.out.trans hstep)
      have hlF : lb ∉ Fj := fun hm => by
        rcases HK.out.fresh lb hm with h1 | h1
        · exact HL.out.out h1
        · have := HL.out.lt; omega
      have hvF : wr.heap.size ∉ Fj := fun hm => by have := HD.out.lt _ hm; omega
      have hvb := (hx.block wr.heap.size)
      have y0 : (wr.alloc (.cells #[.int .i64 x.1, .slice A2 x.2.length c2] 100)).drew.cell? ⟨wr.heap.size, 0, none⟩ = some (.int .i64 x.1) := cell_blk (heap_alloc_new wr _) 0
      have y1 : (wr.alloc (.cells #[.int .i64 x.1, .slice A2 x.2.length c2] 100)).drew.cell? ⟨wr.heap.size, 1, none⟩ = some (.slice A2 x.2.length c2) := cell_blk (heap_alloc_new wr _) 1
      have Y0 := Lib.hid y0
      have Y1 := Lib.hid y1
      clear hx hww hwn hr hstep hlb hvb y0 y1
      go_wp2
      go_region_held3 (fun w' => w'.cell? ⟨lb, 0, none⟩ = some (.pointer (some ⟨db, 0, none⟩)) ∧ w'.cell? ⟨wr.heap.size, 0, none⟩ = some (.int .i64 x.1) ∧ w'.cell? ⟨wr.heap.size, 1, none⟩ = some (.slice A2 x.2.length c2)) (first | go_keep | exact ⟨z0, z1, z2⟩) (first
        | (go_at_call 106; refine (home_ok _ lb db l HLA.out (by omega) x.1 h0 h1).mono ?_; rintro e w' ⟨rfl, rfl⟩)
        | (go_at_call 21; refine (write_any _ Fj db dj HDA.out (2 + (l.size : Int) + x.1) x.2 A2 x.2.length c2 rfl HS8A.out HWB.out).mono ?_; rw [← HRR.out]; rintro e w' ⟨rfl, F2, h1, h2, h3⟩; have H1 := Lib.hid h1; have H2 := Lib.hid (HKA.out.trans h2); have H3 := Lib.hid h3; have z0 := ((HLA.out.keep h2 hlF).cells).1; have z1 := h2.cell_some Y0.out hvF; have z2 := h2.cell_some Y1.out hvF; clear h1 h2 h3))
      by_cases he : r = 0
      · subst he
        go_wp2
        go_roundw
        case rel => exact ⟨j + 1, _, F2, by omega, by go_num, H1.out, H2.out, fun x hx => H3.out x (HF.out x hx), by have := HST2.out; rw [if_neg (by simp)] at this; exact this, HWW.out, HWN.out⟩
        case measure => simp [intOf] <;> omega
      · have d0 : (r != 0) = true := by simpa using he
        have HST3 := Lib.hid (HST2.out.trans (if_pos he))
        clear he
        go_wp2
        go_ret
        exact ⟨by rw [HST3.out, ← HRR.out]; rfl, F2, by rw [HST3.out]; exact H1.out, H2.out, fun x hx => H3.out x (HF.out x hx)⟩
    · obtain rfl : j = ws.length := by omega
      have HBL : Hid (redoS l.size d ws = (0, dj)) := by
        unfold Hid; rw [HB.out, List.drop_length]; rfl
      go_wp2
      go_ret
      exact ⟨by rw [HBL.out]; rfl, Fj, by rw [HBL.out]; exact HD.out, HK.out, HF.out⟩
end Go.Proofs.Ytkmnjccklnfcdaa
namespace Go.Proofs.Ytkmnjccklnfcdaa
open Go Go.RowKit Bst
set_option linter.unusedVariables false
set_option linter.unusedSimpArgs false
theorem _root_.Bst.Keep.widen2 {w w' : World} {F F' : List Nat} (h : Keep F w F' w') (b : Nat) : Keep (b :: F) w (b :: F') w' :=
  ⟨h.os, h.tape, h.output, h.size, fun k hk hF => h.block k hk (fun hm => hF (List.mem_cons_of_mem _ hm)), fun x hx => by
    rcases List.mem_cons.1 hx with rfl | h1
    · exact .inl (List.mem_cons_self ..)
    · rcases h.fresh x h1 with h2 | h2
      · exact .inl (List.mem_cons_of_mem _ h2)
      · exact .inr h2⟩
theorem _root_.Bst.Keep.widen3 {w w' : World} {b : Nat} (h : Keep [b] w [b] w') (F : List Nat) : Keep (b :: F) w (b :: F) w' :=
  h.widen (fun x hx => by rw [List.mem_singleton.1 hx]; exact List.mem_cons_self ..)
theorem LogOn.up {w w' : World} {F : List Nat} {lb db : Nat} {d : Dsk} {l : Lg} (h : LogOn w F lb db d l) (q : Keep [lb] w [lb] w') (hb : l.base + l.size ≤ topW) (t : TypeId)
    (hh : w'.heap[lb]? = some (.cells #[.pointer (some ⟨db, 0, none⟩), .int .i64 (l.size : Int), .int .i64 ((l.base : Int) + (l.size : Int)), .int .i64 (1 - (l.slot : Int)), .int .i64 0, .int .i64 (l.life : Int), .int .i64 (l.commits : Int)] t (0, 0))) : LogOn w' F lb db d l.up := by
  have h1 := h.slot
  have h2 := h.base
  refine ⟨h.disk.far q (fun x hx => by simp; intro e; exact h.out (e ▸ hx)), ⟨t, ?_⟩, h.out, h.size, ⟨by show 1 ≤ l.base + l.size; omega, hb⟩, by show 1 - l.slot ≤ 1; omega, Nat.zero_le _, h.life, h.commits⟩
  rw [hh]
  show some (Obj.cells #[_, _, _, _, _, _, _] t (0, 0)) = some (Obj.cells #[_, _, .int .i64 ((l.base + l.size : Nat) : Int), .int .i64 ((1 - l.slot : Nat) : Int), .int .i64 ((0 : Nat) : Int), _, _] t (0, 0))
  rw [show ((l.base + l.size : Nat) : Int) = (l.base : Int) + (l.size : Int) by omega, show ((1 - l.slot : Nat) : Int) = 1 - (l.slot : Int) by omega]
  rfl
set_option maxRecDepth 100000 in
set_option maxHeartbeats 1000000 in
theorem raise_ok (w : World) (F : List Nat) (lb db : Nat) (d : Dsk) (l : Lg) (h : LogOn w F lb db d l) (hw : d.wait.length < 1000000000) (hb : l.base + l.size ≤ topW) :
    Calls Try.prog 111 #[.pointer (some ⟨lb, 0, none⟩)] w fun e w' => e = .returned (.int .i64 (raiseS d l).1) ∧ ∃ F', LogOn w' F' lb db (raiseS d l).2.1 (raiseS d l).2.2 ∧ Keep (lb :: F) w (lb :: F') w' ∧ ∀ x ∈ F, x ∈ F' := by
  have HL := Lib.hid h
  have HW := Lib.hid hw
  have HB := Lib.hid hb
  obtain ⟨c0, c1, c2, c3, c4, -, -, hfr⟩ := h.log.cells
  have hs1 := h.slot
  have hs2 := h.size
  have hs3 := h.base
  have hdl := h.disk.len
  have hlt := h.lt
  have hbt : l.base + l.size ≤ 4611686018427387904 := by unfold topW at hb; omega
  have w1 := wrap_i64_id ((l.base : Int) + (l.size : Int)) (by omega)
  have w2 := wrap_i64_id (1 - (l.slot : Int)) (by omega)
  have HDR := Lib.hid (h.ext (Ext.drew w))
  obtain ⟨r, hr⟩ : ∃ r, r = (d.write (1 - (l.slot : Int)) (slotB (l.base + l.size) l.size)).1 := ⟨_, rfl⟩
  have HRR := Lib.hid hr
  have hwn := write_now d (1 - (l.slot : Int)) (slotB (l.base + l.size) l.size)
  have HWN := Lib.hid hwn
  have HRS : Hid (raiseS d l = if r ≠ 0 then (r, (d.write (1 - (l.slot : Int)) (slotB (l.base + l.size) l.size)).2, l) else if (d.write (1 - (l.slot : Int)) (slotB (l.base + l.size) l.size)).2.flush.1 ≠ 0 then ((d.write (1 - (l.slot : Int)) (slotB (l.base + l.size) l.size)).2.flush.1, (d.write (1 - (l.slot : Int)) (slotB (l.base + l.size) l.size)).2.flush.2, l) else (0, (d.write (1 - (l.slot : Int)) (slotB (l.base + l.size) l.size)).2.flush.2, l.up)) := by
    unfold Hid; rw [hr]; rfl
  generalize hdw : (d.write (1 - (l.slot : Int)) (slotB (l.base + l.size) l.size)).2 = dw at *
  have HDW := Lib.hid hdw
  have HSB : Hid ((((l.base + l.size : Nat) : Int)) = (l.base : Int) + (l.size : Int)) := by unfold Hid; omega
  clear h hw hb hr hwn hdw
  go_enter Try.func111, Try.ntmps111
  go_wp2
  go_region_held3 (fun w' => w'.cell? ⟨lb, 0, none⟩ = some (.pointer (some ⟨db, 0, none⟩)) ∧ w'.cell? ⟨lb, 1, none⟩ = some (.int .i64 (l.size : Int)) ∧ w'.cell? ⟨lb, 2, none⟩ = some (.int .i64 (l.base : Int))) (first | exact ⟨c0, c1, c2⟩ | exact ⟨y0, y1, y2⟩ | exact ⟨z0, z1, z2⟩) (first
    | (go_at_call 62; rw [← HSB.out]; refine (slotBytes_ok _ (l.base + l.size) l.size hbt (by omega)).mono ?_; rintro e w1 ⟨g, rfl, h1, h2, h3⟩; have HG := Lib.hid h2; have HL1 := Lib.hid (HDR.out.ext h3); have HX1 := Lib.hid ((Ext.drew w).trans h3); have HS8 : Hid (Sl Kd.u8 F w1 (some ⟨g, 0, none⟩) 64 (slotB (l.base + l.size) l.size)) := Pre.sl8 h1 (fun hm => by have := HDR.out.disk.lt _ hm; omega) (by rw [slotB_length]; omega) (by rw [slotB_length]; omega); have y0 := HL1.out.log.cells.1; have y1 := HL1.out.log.cells.2.1; have y2 := HL1.out.log.cells.2.2.1; clear h1 h2 h3)
    | (go_at_call 21; refine (write_any w1 F db d HL1.out.disk (1 - (l.slot : Int)) (slotB (l.base + l.size) l.size) (some ⟨g, 0, none⟩) 64 64 (slotB_length _ _) HS8.out HW.out).mono ?_; rw [← HRR.out, HDW.out]; rintro e w2 ⟨rfl, F2, h1, h2, h3⟩; have HL2 := Lib.hid (HL1.out.redisk h1 h2 HWN.out); have HK2 := Lib.hid ((HX1.out.keep F).trans h2); have HF2 := Lib.hid h3; have z0 := HL2.out.log.cells.1; have z1 := HL2.out.log.cells.2.1; have z2 := HL2.out.log.cells.2.2.1; clear h1 h2 h3))
  by_cases he : r = 0
  · subst he
    obtain ⟨f, hf⟩ : ∃ f, f = dw.flush.1 := ⟨_, rfl⟩
    have HFF := Lib.hid hf
    have hfn := flush_now dw
    have HFN : Hid (dw.flush.2.now.length = dw.now.length) := by unfold Hid; rw [hfn]
    have e0 := HL2.out.log.cells.1
    have HRS2 := Lib.hid (HRS.out.trans (if_neg (by simp)))
    clear hfn hf
    by_cases hf0 : f = 0
    · subst hf0
      have HST : Hid (raiseS d l = (0, dw.flush.2, l.up)) := by
        have := HRS2.out
        rw [← HFF.out, if_neg (by simp)] at this
        exact this
      go_wp2_with (first
        | (go_at_call 61; refine (flush_any w2 F2 db dw HL2.out.disk).mono ?_; rw [← HFF.out]; rintro e w3 ⟨rfl, h1, h2⟩; have HL3 := Lib.hid (HL2.out.redisk h1 h2 HFN.out); have HK3 := Lib.hid (HK2.out.trans h2); obtain ⟨tb, hb3⟩ := HL3.out.log; have HB3 := Lib.hid hb3; obtain ⟨k0, k1, k2, k3, k4, k5, k6, kf⟩ := HL3.out.log.cells; clear h1 h2 hb3))
      have hbA : ((w3.setCell ⟨lb, 3, none⟩ (.int .i64 (1 - (l.slot : Int)))).setCell ⟨lb, 4, none⟩ (.int .i64 0)).heap[lb]? = some (.cells #[.pointer (some ⟨db, 0, none⟩), .int .i64 (l.size : Int), .int .i64 (l.base : Int), .int .i64 (1 - (l.slot : Int)), .int .i64 0, .int .i64 (l.life : Int), .int .i64 (l.commits : Int)] tb (0, 0)) := by
        rw [set_blk (set_blk HB3.out 3 _) 4]; rfl
      have hKA : Keep [lb] w3 [lb] ((w3.setCell ⟨lb, 3, none⟩ (.int .i64 (1 - (l.slot : Int)))).setCell ⟨lb, 4, none⟩ (.int .i64 0)) := (Keep.setCell [lb] _ _ _ (by simp)).trans (Keep.setCell [lb] _ _ _ (by simp))
      generalize ((w3.setCell ⟨lb, 3, none⟩ (.int .i64 (1 - (l.slot : Int)))).setCell ⟨lb, 4, none⟩ (.int .i64 0)) = w4 at *
      have a1 := cell_blk hbA 1
      have a2 := cell_blk hbA 2
      have af := frozen_blk hbA 2
      have HBA := Lib.hid hbA
      have HKA := Lib.hid hKA
      clear hbA hKA k0 k1 k2 k3 k4 k5 k6 kf
      go_region
      go_wp2
      go_ret
      have hbB : ((w4.setCell ⟨lb, 2, none⟩ (.int .i64 ((l.base : Int) + (l.size : Int)))).drew).heap[lb]? = some (.cells #[.pointer (some ⟨db, 0, none⟩), .int .i64 (l.size : Int), .int .i64 ((l.base : Int) + (l.size : Int)), .int .i64 (1 - (l.slot : Int)), .int .i64 0, .int .i64 (l.life : Int), .int .i64 (l.commits : Int)] tb (0, 0)) := by
        show (w4.setCell ⟨lb, 2, none⟩ (.int .i64 ((l.base : Int) + (l.size : Int)))).heap[lb]? = _
        rw [set_blk HBA.out 2]; rfl
      have hKB : Keep [lb] w3 [lb] ((w4.setCell ⟨lb, 2, none⟩ (.int .i64 ((l.base : Int) + (l.size : Int)))).drew) := (HKA.out.trans (Keep.setCell [lb] _ _ _ (by simp))).trans ((Ext.drew _).keep [lb])
      have hUP := HL3.out.up hKB HB.out tb hbB
      exact ⟨by rw [HST.out]; rfl, F2, by rw [HST.out]; exact hUP, (HK3.out.widen2 lb).trans (hKB.widen3 F2), HF2.out⟩
    · have d0 : (f != 0) = true := by simpa using hf0
      have HST : Hid (raiseS d l = (f, dw.flush.2, l)) := by
        have := HRS2.out
        rw [← HFF.out, if_pos hf0] at this
        exact this
      clear hf0
      go_wp2_with (go_at_call 61; refine (flush_any w2 F2 db dw HL2.out.disk).mono ?_; rw [← HFF.out]; rintro e w3 ⟨rfl, h1, h2⟩; have HL3 := Lib.hid (HL2.out.redisk h1 h2 HFN.out); have HK3 := Lib.hid (HK2.out.trans h2); clear h1 h2)
      go_ret
      exact ⟨by rw [HST.out]; rfl, F2, by rw [HST.out]; exact HL3.out, HK3.out.widen2 lb, HF2.out⟩
  · have d0 : (r != 0) = true := by simpa using he
    have HST := Lib.hid (HRS.out.trans (if_pos he))
    clear he
    go_wp2
    go_ret
    exact ⟨by rw [HST.out]; rfl, F2, by rw [HST.out]; exact HL2.out, HK2.out.widen2 lb, HF2.out⟩
set_option maxHeartbeats 1000000 in
theorem check_ok (w : World) (F : List Nat) (lb db : Nat) (d : Dsk) (l : Lg) (h : LogOn w F lb db d l) (hw : d.wait.length < 1000000000) :
    Calls Try.prog 68 #[.pointer (some ⟨lb, 0, none⟩)] w fun e w' => e = .returned (.int .i64 (checkS d l).1) ∧ ∃ F', LogOn w' F' lb db (checkS d l).2.1 (checkS d l).2.2 ∧ Keep (lb :: F) w (lb :: F') w' ∧ ∀ x ∈ F, x ∈ F' := by
  have HL := Lib.hid h
  have HW := Lib.hid hw
  have hs1 := h.size
  have hs3 := h.base
  have hdl := h.disk.len
  obtain ⟨a, ha⟩ : ∃ a, a = aliveS d l := ⟨_, rfl⟩
  have HA := Lib.hid ha
  clear h hw
  by_cases h0 : a = 0
  · subst h0
    by_cases ht : topW < l.base + l.size
    · have HST : Hid (checkS d l = (3, d, l)) := by
        unfold Hid checkS; rw [← HA.out, if_neg (by simp), if_pos ht]
      have w1 := wrap_i64_id (2305843009213693952 - (l.size : Int)) (by omega)
      have t0 : decide (2305843009213693952 - (l.size : Int) < (l.base : Int)) = true := decide_eq_true (by unfold topW at ht; omega)
      clear ha ht
      go_enter Try.func68, Try.ntmps68
      go_wp2_with (go_at_call 69; refine (alive_ok _ F db lb d l HL.out.disk HL.out.log).mono ?_; rw [← HA.out]; rintro e w1 ⟨rfl, hx⟩; have HX := Lib.hid hx; have HL1 := Lib.hid (HL.out.ext hx); have c1 := HL1.out.log.cells.2.1; have c2 := HL1.out.log.cells.2.2.1; clear hx)
      go_region_held3 (fun w' => w'.cell? ⟨lb, 1, none⟩ = some (.int .i64 (l.size : Int)) ∧ w'.cell? ⟨lb, 2, none⟩ = some (.int .i64 (l.base : Int))) (exact ⟨c1, c2⟩) (fail)
      go_wp2
      go_ret
      exact ⟨by rw [HST.out]; rfl, F, by rw [HST.out]; exact HL1.out.ext (Ext.drew _), (HX.out.trans (Ext.drew _)).keep _, fun x hx => hx⟩
    · have w1 := wrap_i64_id (2305843009213693952 - (l.size : Int)) (by omega)
      have t0 : decide (2305843009213693952 - (l.size : Int) < (l.base : Int)) = false := decide_eq_false (by unfold topW at ht; omega)
      obtain ⟨f, hf⟩ : ∃ f, f = d.flush.1 := ⟨_, rfl⟩
      have HFF := Lib.hid hf
      have hfn := flush_now d
      have HFN : Hid (d.flush.2.now.length = d.now.length) := by unfold Hid; rw [hfn]
      have hfw := flush_wait d
      have HFW : Hid (d.flush.2.wait.length < 1000000000) := by have := HW.out; unfold Hid; omega
      have HT : Hid (l.base + l.size ≤ topW) := by unfold Hid; omega
      by_cases hf0 : f = 0
      · subst hf0
        have HST : Hid (checkS d l = raiseS d.flush.2 l) := by
          unfold Hid checkS; rw [← HA.out, if_neg (by simp), if_neg ht, ← hf, if_neg (by simp)]
        obtain ⟨u, hu⟩ : ∃ u, u = (raiseS d.flush.2 l).1 := ⟨_, rfl⟩
        have HU := Lib.hid hu
        clear ha ht hf hfn hfw hu
        go_enter Try.func68, Try.ntmps68
        go_wp2_with (go_at_call 69; refine (alive_ok _ F db lb d l HL.out.disk HL.out.log).mono ?_; rw [← HA.out]; rintro e w1 ⟨rfl, hx⟩; have HX := Lib.hid hx; have HL1 := Lib.hid (HL.out.ext hx); have c0 := HL1.out.log.cells.1; have c1 := HL1.out.log.cells.2.1; have c2 := HL1.out.log.cells.2.2.1; clear hx)
        go_region_held3 (fun w' => w'.cell? ⟨lb, 1, none⟩ = some (.int .i64 (l.size : Int)) ∧ w'.cell? ⟨lb, 2, none⟩ = some (.int .i64 (l.base : Int))) (exact ⟨c1, c2⟩) (fail)
        go_wp2_with (first
          | (go_at_call 61; refine (flush_any _ F db d (HL1.out.disk.ext (Ext.drew _))).mono ?_; rw [← HFF.out]; rintro e w3 ⟨rfl, h1, h2⟩; have HL3 := Lib.hid ((HL1.out.ext (Ext.drew _)).redisk h1 h2 HFN.out); have HK3 := Lib.hid (((HX.out.trans (Ext.drew _)).keep F).trans h2); clear h1 h2)
          | (go_at_call 111; refine (raise_ok w3 F lb db d.flush.2 l HL3.out HFW.out HT.out).mono ?_; rw [← HU.out]; rintro e w4 ⟨rfl, F2, h1, h2, h3⟩; have HL4 := Lib.hid h1; have HK4 := Lib.hid ((HK3.out.widen2 lb).trans h2); have HF4 := Lib.hid h3; clear h1 h2 h3))
        go_ret
        exact ⟨by rw [HST.out, ← HU.out]; rfl, F2, by rw [HST.out]; exact HL4.out, HK4.out, HF4.out⟩
      · have d0 : (f != 0) = true := by simpa using hf0
        have HST : Hid (checkS d l = (f, d.flush.2, l)) := by
          unfold Hid checkS; rw [← HA.out, if_neg (by simp), if_neg ht, ← hf, if_pos hf0]
        clear ha ht hf hfn hfw hf0
        go_enter Try.func68, Try.ntmps68
        go_wp2_with (go_at_call 69; refine (alive_ok _ F db lb d l HL.out.disk HL.out.log).mono ?_; rw [← HA.out]; rintro e w1 ⟨rfl, hx⟩; have HX := Lib.hid hx; have HL1 := Lib.hid (HL.out.ext hx); have c0 := HL1.out.log.cells.1; have c1 := HL1.out.log.cells.2.1; have c2 := HL1.out.log.cells.2.2.1; clear hx)
        go_region_held3 (fun w' => w'.cell? ⟨lb, 1, none⟩ = some (.int .i64 (l.size : Int)) ∧ w'.cell? ⟨lb, 2, none⟩ = some (.int .i64 (l.base : Int))) (exact ⟨c1, c2⟩) (fail)
        go_wp2_with (go_at_call 61; refine (flush_any _ F db d (HL1.out.disk.ext (Ext.drew _))).mono ?_; rw [← HFF.out]; rintro e w3 ⟨rfl, h1, h2⟩; have HL3 := Lib.hid ((HL1.out.ext (Ext.drew _)).redisk h1 h2 HFN.out); have HK3 := Lib.hid (((HX.out.trans (Ext.drew _)).keep F).trans h2); clear h1 h2)
        go_ret
        exact ⟨by rw [HST.out]; rfl, F, by rw [HST.out]; exact HL3.out, HK3.out.widen2 lb, fun x hx => hx⟩
  · have d0 : (a != 0) = true := by simpa using h0
    have HST : Hid (checkS d l = (a, d, l)) := by
      unfold Hid checkS; rw [← HA.out, if_pos h0]
    clear h0 ha
    go_enter Try.func68, Try.ntmps68
    go_wp2_with (go_at_call 69; refine (alive_ok _ F db lb d l HL.out.disk HL.out.log).mono ?_; rw [← HA.out]; rintro e w1 ⟨rfl, hx⟩; have HX := Lib.hid hx; clear hx)
    go_ret
    exact ⟨by rw [HST.out]; rfl, F, by rw [HST.out]; exact HL.out.ext HX.out, HX.out.keep _, fun x hx => hx⟩
end Go.Proofs.Ytkmnjccklnfcdaa
namespace Bst
/-- The best of the first slots. -/
def bestK (now : List Sec) : Nat → Nat × Nat × Nat
  | 0 => (0, 0, 0)
  | k + 1 => match slotR (now.getD k []) now.length with
    | some (b, s) => if (bestK now k).1 < b then (b, s, k) else bestK now k
    | none => bestK now k
theorem slotR_spec {b : Sec} {n : Nat} {x : Nat × Nat} (h : slotR b n = some x) : 1 ≤ x.1 ∧ x.1 ≤ topW ∧ 3 ≤ x.2 ∧ x.2 + 3 ≤ n := by
  unfold slotR at h
  split at h
  · rename_i hc
    injection h with h
    rw [← h]
    exact ⟨hc.2.1, hc.2.2.1, hc.2.2.2.1, hc.2.2.2.2.1⟩
  · cases h
theorem bestK_two (now : List Sec) : bestK now 2 = bestS now := by
  have e1 : bestK now 1 = (match slotR (now.getD 0 []) now.length with | some (b, s) => (b, s, 0) | none => (0, 0, 0)) := by
    show (match slotR (now.getD 0 []) now.length with | some (b, s) => if 0 < b then (b, s, 0) else (0, 0, 0) | none => (0, 0, 0)) = _
    cases h : slotR (now.getD 0 []) now.length with
    | none => rfl
    | some x =>
      obtain ⟨b, s⟩ := x
      have := slotR_spec h
      simp only at this ⊢
      rw [if_pos (by omega)]
  have e2 : bestK now 2 = (match slotR (now.getD 1 []) now.length with | some (b, s) => if (bestK now 1).1 < b then (b, s, 1) else bestK now 1 | none => bestK now 1) := rfl
  rw [e2, e1]
  rfl
/-- What a slot that was taken says. -/
theorem bestK_spec (now : List Sec) : ∀ k, (bestK now k = (0, 0, 0) ∨ (1 ≤ (bestK now k).1 ∧ (bestK now k).1 ≤ topW ∧ 3 ≤ (bestK now k).2.1 ∧ (bestK now k).2.1 + 3 ≤ now.length ∧ (bestK now k).2.2 < k))
  | 0 => .inl rfl
  | k + 1 => by
    have ih := bestK_spec now k
    rw [bestK]
    cases h : slotR (now.getD k []) now.length with
    | none => simp only; rcases ih with h1 | h1
              · exact .inl h1
              · exact .inr ⟨h1.1, h1.2.1, h1.2.2.1, h1.2.2.2.1, by omega⟩
    | some x =>
      obtain ⟨b, s⟩ := x
      have := slotR_spec h
      simp only at this ⊢
      split
      · exact .inr ⟨this.1, this.2.1, this.2.2.1, this.2.2.2, Nat.lt_succ_self _⟩
      · rcases ih with h1 | h1
        · exact .inl h1
        · exact .inr ⟨h1.1, h1.2.1, h1.2.2.1, h1.2.2.2.1, by omega⟩
theorem seqR_wait (size : Nat) : ∀ (ws : List (Int × Sec)) (d : Dsk), (redoS size d ws).2.wait.length ≤ d.wait.length + ws.length
  | [], d => Nat.le_refl _
  | x :: ws, d => by
    have h1 := write_wait d (2 + size + x.1) x.2
    rw [redoS]
    split
    · rw [List.length_cons]; omega
    · have := seqR_wait size ws (d.write (2 + size + x.1) x.2).2
      rw [List.length_cons]; omega
theorem seqR_now (size : Nat) : ∀ (ws : List (Int × Sec)) (d : Dsk), (redoS size d ws).2.now.length = d.now.length
  | [], d => rfl
  | x :: ws, d => by
    have h1 := write_now d (2 + size + x.1) x.2
    rw [redoS]
    split
    · exact h1
    · rw [seqR_now size ws, h1]
end Bst
namespace Go.Proofs.Ytkmnjccklnfcdaa
open Go Go.RowKit Bst
set_option linter.unusedVariables false
set_option linter.unusedSimpArgs false
theorem slotR_nil (n : Nat) : slotR [] n = none := by
  unfold slotR
  rw [if_neg]
  rintro ⟨_, h, _⟩
  simp [beV] at h
theorem readSlot_any (w : World) (F : List Nat) (db : Nat) (d : Dsk) (h : DiskAt w F db d) (n : Nat) (hs : n ≤ 16384) (ho : d.off = false) :
    Calls Try.prog 65 #[.pointer (some ⟨db, 0, none⟩), .int .i64 (n : Int)] w fun e w' => e = .returned (.tuple (slotV (slotR (d.now.getD n []) d.now.length))) ∧ Ext w w' := by
  by_cases hn : n < d.now.length
  · exact readSlot_ok w F db d h n hn ho
  · have e : slotR (d.now.getD n []) d.now.length = none := by
      rw [List.getD_eq_getElem?_getD, List.getElem?_eq_none (by omega)]; exact slotR_nil _
    rw [e]
    have hm : d.may (n : Int) = 31 := by unfold Dsk.may; rw [ho, if_neg (by decide), if_pos (by omega)]
    have HM := Lib.hid hm
    have H := Lib.hid h
    clear h hm e
    go_enter Try.func65, Try.ntmps65
    go_wp2_with (go_at_call 20; refine (read_no w F db d H.out (n : Int) (by rw [HM.out]; decide)).mono ?_; rw [HM.out]; rintro e w' ⟨rfl, rfl⟩)
    go_ret3
    exact ⟨rfl, Ext.refl _⟩
/-- What 'Open' answers. -/
def OpenR (F : List Nat) (w : World) (db : Nat) (r : Int × Dsk × Option Lg) (e : Ending) (w' : World) : Prop :=
  ∃ F', DiskAt w' F' db r.2.1 ∧ Keep F w F' w' ∧ (∀ x ∈ F, x ∈ F') ∧ (r.2.2 = none → e = .returned (.tuple #[.pointer none, .int .i64 r.1])) ∧
    (∀ l, r.2.2 = some l → ∃ lb, e = .returned (.tuple #[.pointer (some ⟨lb, 0, none⟩), .int .i64 0]) ∧ LogOn w' F' lb db r.2.1 l ∧ w.heap.size ≤ lb)
theorem OpenR.none_ {F F' : List Nat} {w w' : World} {db : Nat} {d' : Dsk} {e : Ending} {n : Int} {r : Int × Dsk × Option Lg} (hr : r = (n, d', none)) (hd : DiskAt w' F' db d') (hk : Keep F w F' w') (hf : ∀ x ∈ F, x ∈ F') (he : e = .returned (.tuple #[.pointer none, .int .i64 n])) : OpenR F w db r e w' := by
  subst hr
  exact ⟨F', hd, hk, hf, fun _ => he, fun l h => by cases h⟩
set_option maxRecDepth 100000 in
set_option maxHeartbeats 4000000 in
theorem open_ok (w : World) (F : List Nat) (db : Nat) (d : Dsk) (h : DiskAt w F db d) (hw : d.wait.length + 20000 < 1000000000) :
    Calls Try.prog 14 #[.pointer (some ⟨db, 0, none⟩)] w (OpenR F w db (openS d)) := by
  have H := Lib.hid h
  have HW := Lib.hid hw
  have hdl := h.len
  have h0 : ((d.now.length : Int) == 0) = false := by rw [beq_eq_false_iff_ne]; omega
  have hlv : d.lives ≤ 1000000000 := by obtain ⟨_, _, _, h⟩ := h; exact h.ok.lives
  clear h hw
  cases ho : d.off
  · have HO := Lib.hid ho
    clear ho
    go_enter Try.func14, Try.ntmps14
    go_wp2_with (first
      | (go_at_call 59; refine (size_ok w F db d H.out).mono ?_; rintro e w' ⟨rfl, rfl⟩)
      | (go_at_call 63; refine (off_at w F db d false H.out HO.out).mono ?_; rintro e w' ⟨rfl, rfl⟩)
      | (go_at_call 64; refine (lives_ok w F db d H.out).mono ?_; rintro e w' ⟨rfl, rfl⟩))
    have hb0 := heap_alloc_new w (.cells #[.pointer (some ⟨db, 0, none⟩), .int .i64 0, .int .i64 0, .int .i64 0, .int .i64 0, .int .i64 (d.lives : Int), .int .i64 0] 109)
    have hx0 := Ext.alloc w (.cells #[.pointer (some ⟨db, 0, none⟩), .int .i64 0, .int .i64 0, .int .i64 0, .int .i64 0, .int .i64 (d.lives : Int), .int .i64 0] 109)
    generalize (w.alloc (.cells #[.pointer (some ⟨db, 0, none⟩), .int .i64 0, .int .i64 0, .int .i64 0, .int .i64 0, .int .i64 (d.lives : Int), .int .i64 0] 109)) = w1 at *
    obtain ⟨lb, hlb⟩ : ∃ lb, lb = w.heap.size := ⟨_, rfl⟩
    rw [← hlb] at hb0 ⊢
    have HLB := Lib.hid hlb
    have HX0 := Lib.hid hx0
    have HLF : Hid (lb ∉ F) := fun hm => by have := H.out.lt lb hm; omega
    have HL0 : Hid (LogAt w1 lb db ⟨0, 0, 0, 0, d.lives, 0⟩) := ⟨_, hb0⟩
    clear hb0 hx0 hlb
    go_loopw [23] (fun iv wr => ∃ (k : Nat), k ≤ 2 ∧ iv = .int .i64 (k : Int) ∧ Hid (LogAt wr lb db ⟨(bestK d.now k).2.1, (bestK d.now k).1, (bestK d.now k).2.2, 0, d.lives, 0⟩) ∧ Hid (Keep [lb] w1 [lb] wr)) (fun iv _ => 2 - (intOf iv).toNat)
    case atStart => exact ⟨0, by omega, rfl, HL0.out, Keep.refl _ _⟩
    case round =>
      obtain ⟨k, hk, rfl, HLG, HK⟩ := hrel
      have HD : Hid (DiskAt wr F db d) := (H.out.ext HX0.out).far HK.out (fun x hx => by simp; intro e; exact HLF.out (e ▸ hx))
      by_cases hlt : k < 2
      · have HBK : Hid (bestK d.now (k + 1) = (match slotR (d.now.getD k []) d.now.length with
          | some (b, s) => if (bestK d.now k).1 < b then (b, s, k) else bestK d.now k
          | none => bestK d.now k)) := rfl
        generalize hcur : bestK d.now k = cur at *
        obtain ⟨cb, cs, cn⟩ := cur
        have HCUR := Lib.hid hcur
        clear hcur
        go_wp2_with fail
        refine (readSlot_any wr F db d HD.out k (by omega) HO.out).mono ?_
        rintro e w2 ⟨rfl, hx2⟩
        have HX2 := Lib.hid hx2
        have HL2 := Lib.hid (HLG.out.ext hx2)
        obtain ⟨tb, hb2⟩ := HL2.out
        have HB2 := Lib.hid hb2
        have c2 : w2.cell? ⟨lb, 2, none⟩ = some (.int .i64 (cb : Int)) := cell_blk hb2 2
        have c1 : w2.cell? ⟨lb, 1, none⟩ = some (.int .i64 (cs : Int)) := cell_blk hb2 1
        have c3 : w2.cell? ⟨lb, 3, none⟩ = some (.int .i64 (cn : Int)) := cell_blk hb2 3
        have f1 := frozen_blk hb2 1
        have f2 := frozen_blk hb2 2
        have f3 := frozen_blk hb2 3
        clear hx2 hb2
        cases hs : slotR (d.now.getD k []) d.now.length with
        | none =>
          have HN : Hid (bestK d.now (k + 1) = (cb, cs, cn)) := by
            have := HBK.out
            rw [hs] at this
            exact this
          clear hs
          unfold slotV
          go_wp2
          go_roundw
          case rel => exact ⟨k + 1, by omega, by go_num, by rw [HN.out]; exact HL2.out, HK.out.trans (HX2.out.keep [lb])⟩
          case measure => simp [intOf] <;> omega
        | some x =>
          obtain ⟨b, s⟩ := x
          have hsp := slotR_spec hs
          simp only at hsp
          have HBK2 : Hid (bestK d.now (k + 1) = if cb < b then (b, s, k) else (cb, cs, cn)) := by
            have := HBK.out
            rw [hs] at this
            exact this
          clear hs
          unfold slotV
          by_cases hlt2 : cb < b
          · have t0 : decide (cb < b) = true := decide_eq_true hlt2
            have HN : Hid (bestK d.now (k + 1) = (b, s, k)) := HBK2.out.trans (if_pos hlt2)
            go_wp2
            have hb3 : (((w2.setCell ⟨lb, 2, none⟩ (.int .i64 (b : Int))).setCell ⟨lb, 1, none⟩ (.int .i64 (s : Int))).setCell ⟨lb, 3, none⟩ (.int .i64 (k : Int))).heap[lb]? = some (.cells #[.pointer (some ⟨db, 0, none⟩), .int .i64 (s : Int), .int .i64 (b : Int), .int .i64 (k : Int), .int .i64 ((0 : Nat) : Int), .int .i64 (d.lives : Int), .int .i64 ((0 : Nat) : Int)] tb (0, 0)) := by
              rw [set_blk (set_blk (set_blk HB2.out 2 _) 1 _) 3]; rfl
            have hK3 : Keep [lb] w2 [lb] (((w2.setCell ⟨lb, 2, none⟩ (.int .i64 (b : Int))).setCell ⟨lb, 1, none⟩ (.int .i64 (s : Int))).setCell ⟨lb, 3, none⟩ (.int .i64 (k : Int))) := ((Keep.setCell [lb] _ _ _ (by simp)).trans (Keep.setCell [lb] _ _ _ (by simp))).trans (Keep.setCell [lb] _ _ _ (by simp))
            generalize (((w2.setCell ⟨lb, 2, none⟩ (.int .i64 (b : Int))).setCell ⟨lb, 1, none⟩ (.int .i64 (s : Int))).setCell ⟨lb, 3, none⟩ (.int .i64 (k : Int))) = w3 at *
            go_roundw
            case rel => exact ⟨k + 1, by omega, by go_num, by rw [HN.out]; exact ⟨tb, hb3⟩, (HK.out.trans (HX2.out.keep [lb])).trans hK3⟩
            case measure => simp [intOf] <;> omega
          · have t0 : decide (cb < b) = false := decide_eq_false hlt2
            have HN : Hid (bestK d.now (k + 1) = (cb, cs, cn)) := HBK2.out.trans (if_neg hlt2)
            go_wp2
            go_roundw
            case rel => exact ⟨k + 1, by omega, by go_num, by rw [HN.out]; exact HL2.out, HK.out.trans (HX2.out.keep [lb])⟩
            case measure => simp [intOf] <;> omega
      · obtain rfl : k = 2 := by omega
        have hsp := bestK_spec d.now 2
        rw [bestK_two] at HLG hsp
        have HOP : Hid (openS d = (match bestS d.now with
          | (base, size, slot) =>
            if base = 0 then (11, d, none) else
            if topW < base + size then (3, d, none) else
            if (redoS size d (saysS d.now base size (size + 1) 0 [])).1 ≠ 0 then ((redoS size d (saysS d.now base size (size + 1) 0 [])).1, (redoS size d (saysS d.now base size (size + 1) 0 [])).2, none) else
            if (checkS (redoS size d (saysS d.now base size (size + 1) 0 [])).2 { size := size, base := base, slot := slot, used := 0, life := d.lives, commits := 0 }).1 ≠ 0 then ((checkS (redoS size d (saysS d.now base size (size + 1) 0 [])).2 { size := size, base := base, slot := slot, used := 0, life := d.lives, commits := 0 }).1, (checkS (redoS size d (saysS d.now base size (size + 1) 0 [])).2 { size := size, base := base, slot := slot, used := 0, life := d.lives, commits := 0 }).2.1, none)
            else (0, (checkS (redoS size d (saysS d.now base size (size + 1) 0 [])).2 { size := size, base := base, slot := slot, used := 0, life := d.lives, commits := 0 }).2.1, some (checkS (redoS size d (saysS d.now base size (size + 1) 0 [])).2 { size := size, base := base, slot := slot, used := 0, life := d.lives, commits := 0 }).2.2))) := by
          unfold Hid openS
          rw [HO.out, if_neg (by decide)]
        generalize bestS d.now = cur at *
        obtain ⟨b, s, sl⟩ := cur
        simp only at hsp HOP HLG
        have HXW : Hid (Ext w wr) := ((HX0.out.fresh1 (by rw [HLB.out]; exact Nat.le_refl _)).trans HK.out).toExt
        have HXK : Hid (Keep F w F wr) := HXW.out.keep F
        obtain ⟨tb, hb2⟩ := HLG.out
        have c2 : wr.cell? ⟨lb, 2, none⟩ = some (.int .i64 (b : Int)) := cell_blk hb2 2
        have c1 : wr.cell? ⟨lb, 1, none⟩ = some (.int .i64 (s : Int)) := cell_blk hb2 1
        clear hb2
        by_cases hb0 : b = 0
        · have HR : Hid (openS d = (11, d, none)) := HOP.out.trans (if_pos hb0)
          have t0 : ((b : Int) == 0) = true := by rw [hb0]; rfl
          clear hb0 hsp
          go_wp2
          go_ret2
          exact OpenR.none_ HR.out HD.out HXK.out (fun x hx => hx) rfl
        · have t0 : ((b : Int) == 0) = false := by simp; omega
          obtain ⟨s1, s2, s3, s4, s5⟩ : 1 ≤ b ∧ b ≤ topW ∧ 3 ≤ s ∧ s + 3 ≤ d.now.length ∧ sl < 2 := by
            rcases hsp with h1 | h1
            · injection h1 with h1 _; exact absurd h1 hb0
            · exact h1
          have w1' := wrap_i64_id (2305843009213693952 - (s : Int)) (by omega)
          by_cases ht : topW < b + s
          · have t1 : decide (2305843009213693952 - (s : Int) < (b : Int)) = true := decide_eq_true (by unfold topW at ht; omega)
            have HR : Hid (openS d = (3, d, none)) := by rw [Hid, HOP.out, if_neg hb0, if_pos ht]
            clear hb0 hsp ht
            go_wp2
            go_region_held3 (fun w' => w'.cell? ⟨lb, 1, none⟩ = some (.int .i64 (s : Int)) ∧ w'.cell? ⟨lb, 2, none⟩ = some (.int .i64 (b : Int))) (exact ⟨c1, c2⟩) (fail)
            go_wp2
            go_ret2
            exact OpenR.none_ HR.out (HD.out.ext (Ext.drew _)) (HXK.out.trans ((Ext.drew _).keep F)) (fun x hx => hx) rfl
          · have t1 : decide (2305843009213693952 - (s : Int) < (b : Int)) = false := decide_eq_false (by unfold topW at ht; omega)
            obtain ⟨l0, hl0⟩ : ∃ l0 : Lg, l0 = { size := s, base := b, slot := sl, used := 0, life := d.lives, commits := 0 } := ⟨_, rfl⟩
            obtain ⟨S, hS⟩ : ∃ S, S = saysS d.now b s (s + 1) 0 [] := ⟨_, rfl⟩
            obtain ⟨r, hr⟩ : ∃ r, r = (redoS s d S).1 := ⟨_, rfl⟩
            obtain ⟨d2, hd2⟩ : ∃ d2, d2 = (redoS s d S).2 := ⟨_, rfl⟩
            have HR1 : Hid (openS d = if r ≠ 0 then (r, d2, none) else if (checkS d2 l0).1 ≠ 0 then ((checkS d2 l0).1, (checkS d2 l0).2.1, none) else (0, (checkS d2 l0).2.1, some (checkS d2 l0).2.2)) := by
              rw [Hid, HOP.out, if_neg hb0, if_neg ht, ← hS, ← hr, ← hd2, ← hl0]
            have hssp := saysS_spec (now := d.now) (base := b) (size := s) (s + 1) 0 [] (Nat.zero_le _) (Nat.zero_le _) (fun x hx => by cases hx)
            rw [← hS] at hssp
            have hwl := seqR_wait s S d
            have hnl := seqR_now s S d
            rw [← hd2] at hwl hnl
            have HNL := Lib.hid hnl
            have HWL : Hid (d2.wait.length < 1000000000) := by have := HW.out; have := hssp.1; unfold Hid; omega
            have HWS : Hid (d.wait.length + S.length < 1000000000) := by have := HW.out; have := hssp.1; unfold Hid; omega
            have HSH : Hid (∀ x ∈ S, 0 ≤ x.1 ∧ x.1 ≤ 16384) := fun x hx => by have h1 := hssp.2 x hx; unfold homesS at h1; omega
            have HSS : Hid (saysS d.now l0.base l0.size (l0.size + 1) 0 [] = S) := by rw [hl0]; exact hS.symm
            have HRS : Hid (redoS l0.size d S = (r, d2)) := by rw [hl0, hr, hd2]; rfl
            have HLO : Hid (LogOn wr F lb db d l0) := by
              refine ⟨HD.out, by rw [hl0]; exact HLG.out, HLF.out, ?_, ?_, ?_, ?_, ?_, ?_⟩ <;> rw [hl0] <;> simp only <;> first | omega | exact ⟨s1, s2⟩ | exact ⟨s3, s4⟩
            have HGE : Hid (w.heap.size ≤ lb) := by rw [Hid, HLB.out]; exact Nat.le_refl _
            clear hb0 hsp ht hS hr hd2 hl0 hssp hwl hnl HOP
            go_wp2
            go_region_held3 (fun w' => w'.cell? ⟨lb, 1, none⟩ = some (.int .i64 (s : Int)) ∧ w'.cell? ⟨lb, 2, none⟩ = some (.int .i64 (b : Int))) (exact ⟨c1, c2⟩) (fail)
            go_wp2_with fail
            have HLO2 := Lib.hid (HLO.out.ext (Ext.drew wr))
            refine (says_ok _ F lb db d l0 HLO2.out HO.out).mono ?_
            rw [HSS.out]
            rintro e w3 ⟨A, c, rfl, hs3, hx3⟩
            have HS3 := Lib.hid hs3
            have HLO3 := Lib.hid (HLO2.out.ext hx3)
            have HX3 := Lib.hid ((HXW.out.trans (Ext.drew _)).trans hx3)
            clear hs3 hx3 c1 c2
            go_wp2_with fail
            refine (redo_ok w3 F lb db d l0 HLO3.out S A c HS3.out HWS.out HSH.out).mono ?_
            rw [HRS.out]
            rintro e w4 ⟨rfl, F2, h1, h2, h3⟩
            have HLO4 := Lib.hid (HLO3.out.redisk h1 h2 HNL.out)
            have HK4 := Lib.hid ((HX3.out.keep F).trans h2)
            have HF4 := Lib.hid h3
            clear h1 h2 h3
            by_cases hr0 : r = 0
            · subst hr0
              have HR2 := Lib.hid (HR1.out.trans (if_neg (by simp)))
              go_wp2_with fail
              refine (check_ok w4 F2 lb db d2 l0 HLO4.out HWL.out).mono ?_
              rintro e w5 ⟨rfl, F3, h1, h2, h3⟩
              have HLO5 := Lib.hid h1
              have HF5 : Hid (∀ x ∈ F, x ∈ F3) := fun x hx => h3 x (HF4.out x hx)
              have HK5 : Hid (Keep F w F3 w5) := by
                have hq := (HK4.out.widen2 lb).trans h2
                have hlt := HLO4.out.lt
                refine ⟨hq.os, hq.tape, hq.output, hq.size, fun k hk hF => hq.block k hk (fun hm => ?_), fun b hb => ?_⟩
                · rcases List.mem_cons.1 hm with e1 | e1
                  · have := HGE.out; omega
                  · exact hF e1
                · rcases hq.fresh b (List.mem_cons_of_mem _ hb) with e1 | e1
                  · rcases List.mem_cons.1 e1 with e2 | e2
                    · have := HGE.out; exact .inr (by omega)
                    · exact .inl e2
                  · exact .inr e1
              clear h1 h2 h3
              obtain ⟨u, hu⟩ : ∃ u, u = (checkS d2 l0).1 := ⟨_, rfl⟩
              rw [← hu]
              have HU := Lib.hid hu
              clear hu
              by_cases hu0 : u = 0
              · subst hu0
                have HR3 : Hid (openS d = (0, (checkS d2 l0).2.1, some (checkS d2 l0).2.2)) := by
                  have := HR2.out
                  rw [← HU.out, if_neg (by simp)] at this
                  exact this
                go_wp2
                go_ret2
                rw [HR3.out]
                exact ⟨F3, HLO5.out.disk, HK5.out, HF5.out, fun h => by (cases h), fun l h => by
                  injection h with h
                  subst h
                  exact ⟨lb, rfl, HLO5.out, HGE.out⟩⟩
              · have d0 : (u != 0) = true := by simpa using hu0
                have HR3 : Hid (openS d = (u, (checkS d2 l0).2.1, none)) := by
                  have := HR2.out
                  rw [← HU.out, if_pos hu0] at this
                  exact this
                clear hu0
                go_wp2
                go_ret2
                exact OpenR.none_ HR3.out HLO5.out.disk HK5.out HF5.out rfl
            · have d0 : (r != 0) = true := by simpa using hr0
              have HR2 := Lib.hid (HR1.out.trans (if_pos hr0))
              clear hr0
              go_wp2
              go_ret2
              exact OpenR.none_ HR2.out HLO4.out.disk HK4.out HF4.out rfl
  · have HO := Lib.hid ho
    have HR : Hid (openS d = (30, d, none)) := by unfold Hid openS; rw [if_pos ho]
    clear ho
    go_enter Try.func14, Try.ntmps14
    go_wp2_with (first
      | (go_at_call 59; refine (size_ok w F db d H.out).mono ?_; rintro e w' ⟨rfl, rfl⟩)
      | (go_at_call 63; refine (off_at w F db d true H.out HO.out).mono ?_; rintro e w' ⟨rfl, rfl⟩))
    go_ret2
    exact OpenR.none_ HR.out H.out (Keep.refl _ _) (fun x hx => hx) rfl
end Go.Proofs.Ytkmnjccklnfcdaa
