/- A log in memory; the entry at a place. A log: the entry at a place. A log: the entry at a place, in the spec's words. A log: whether it lives. A log and its disk, in memory; writes of homes, in memory. -/
import Derived.Test.YtkmnjccklnfcdaaWal6
import Derived.Laws.Rows
import Derived.Outline
namespace Go.Proofs.Ytkmnjccklnfcdaa
open Go Go.RowKit Bst
set_option linter.unusedVariables false
set_option linter.unusedSimpArgs false

/-- A log over a disk. -/
def LogAt (w : World) (lb db : Nat) (l : Lg) : Prop := ∃ t, w.heap[lb]? = some (.cells #[.pointer (some ⟨db, 0, none⟩), .int .i64 (l.size : Int), .int .i64 (l.base : Int), .int .i64 (l.slot : Int), .int .i64 (l.used : Int), .int .i64 (l.life : Int), .int .i64 (l.commits : Int)] t (0, 0))
theorem LogAt.ext {w w' : World} {lb db : Nat} {l : Lg} (h : LogAt w lb db l) (q : Ext w w') : LogAt w' lb db l := by
  obtain ⟨t, h⟩ := h
  exact ⟨t, by rw [q.block lb (heap_lt h) (by simp)]; exact h⟩
theorem LogAt.keep {w w' : World} {lb db : Nat} {l : Lg} {F F' : List Nat} (h : LogAt w lb db l) (q : Keep F w F' w') (hn : lb ∉ F) : LogAt w' lb db l := by
  obtain ⟨t, h⟩ := h
  exact ⟨t, by rw [q.block lb (heap_lt h) hn]; exact h⟩
theorem LogAt.cells {w : World} {lb db : Nat} {l : Lg} (h : LogAt w lb db l) :
    w.cell? ⟨lb, 0, none⟩ = some (.pointer (some ⟨db, 0, none⟩)) ∧ w.cell? ⟨lb, 1, none⟩ = some (.int .i64 (l.size : Int)) ∧ w.cell? ⟨lb, 2, none⟩ = some (.int .i64 (l.base : Int)) ∧ w.cell? ⟨lb, 3, none⟩ = some (.int .i64 (l.slot : Int)) ∧ w.cell? ⟨lb, 4, none⟩ = some (.int .i64 (l.used : Int)) ∧ w.cell? ⟨lb, 5, none⟩ = some (.int .i64 (l.life : Int)) ∧ w.cell? ⟨lb, 6, none⟩ = some (.int .i64 (l.commits : Int)) ∧ ∀ k, w.frozen? ⟨lb, k, none⟩ = false := by
  obtain ⟨t, h⟩ := h
  exact ⟨cell_blk h 0, cell_blk h 1, cell_blk h 2, cell_blk h 3, cell_blk h 4, cell_blk h 5, cell_blk h 6, fun k => frozen_blk h k⟩
theorem wrap_i64_id (x : Int) (h : -9223372036854775808 ≤ x ∧ x ≤ 9223372036854775807) : IntKind.i64.wrap x = x := by
  simp [IntKind.wrap, IntKind.signed, IntKind.bits]
  omega
theorem homes_ok (w : World) (F : List Nat) (db lb : Nat) (d : Dsk) (l : Lg) (h : DiskAt w F db d) (hl : LogAt w lb db l) (hs : l.size + 3 ≤ d.now.length) :
    Calls Try.prog 22 #[.pointer (some ⟨lb, 0, none⟩)] w fun e w' => e = .returned (.int .i64 (homesS d.now l.size : Int)) ∧ Ext w w' := by
  have H := Lib.hid h
  have hle := h.len
  obtain ⟨c0, c1, -, -, -, -, -, -⟩ := hl.cells
  have HE : Hid (((d.now.length : Int) - 2 - (l.size : Int)) = (homesS d.now l.size : Int)) := by unfold Hid homesS; omega
  have HDR := Lib.hid (h.ext (Ext.drew w))
  have w1 := wrap_i64_id ((d.now.length : Int) - 2) (by omega)
  have w2 := wrap_i64_id ((d.now.length : Int) - 2 - (l.size : Int)) (by omega)
  clear h hl
  go_enter Try.func22, Try.ntmps22
  go_wp2
  go_region_held3 (fun w' => w'.cell? ⟨lb, 0, none⟩ = some (.pointer (some ⟨db, 0, none⟩)) ∧ w'.cell? ⟨lb, 1, none⟩ = some (.int .i64 (l.size : Int))) (exact ⟨c0, c1⟩) ((go_at_call 59; refine (size_ok _ F db d HDR.out).mono ?_; rintro e w' ⟨rfl, rfl⟩))
  go_wp2
  go_ret
  exact ⟨ret_int HE.out, Ext.drew w⟩
theorem info_en : (Try.prog.info? 116).map (·.size) = some 4 := by kernel_rfl
theorem at_past (w : World) (db lb : Nat) (l : Lg) (hl : LogAt w lb db l) (p : Nat) (hp : l.size ≤ p) :
    Calls Try.prog 130 #[.pointer (some ⟨lb, 0, none⟩), .int .i64 (p : Int)] w fun e w' => e = .returned (.agg #[.int .i64 0, .int .i64 0, .slice none 0 0, .bool false]) ∧ Ext w w' := by
  obtain ⟨-, c1, -, -, -, -, -, -⟩ := hl.cells
  have hlt := World.block_lt_of_cell? w _ c1
  have hne := World.new_ne w _ c1
  have hd : decide (l.size ≤ p) = true := decide_eq_true hp
  clear hl
  go_enter Try.func130, Try.ntmps130
  go_wp2
  refine bodyPost_ret (results_cell_row rfl _ _ w.heap.size 116 _ (0, 0) _ rfl (heap_alloc_new w _) Try.underlying116 rfl info_en) rfl ⟨rfl, Ext.alloc w _⟩
end Go.Proofs.Ytkmnjccklnfcdaa
namespace Go.Proofs.Ytkmnjccklnfcdaa
open Go Go.RowKit Bst
set_option linter.unusedVariables false
set_option linter.unusedSimpArgs false

theorem one_four (a b : Int) (A : Option Addr) (m c : Nat) (x : Bool) : ∀ v ∈ [Value.int .i64 a, Value.int .i64 b, Value.slice A m c, Value.bool x], v.oneCell' = true := by
  intro v hv
  simp at hv
  rcases hv with rfl | rfl | rfl | rfl <;> rfl
theorem ebytes_at (F : List Nat) (w : World) (k n a : Nat) (A : Option Addr) (m c : Nat) (dt : Sec) (hm : dt.length = m) (hd : Sl Kd.u8 F w A c dt) (hlen : m ≤ 32) (hk : k < 256) (hn : n < 4294967296) (ha : a ≤ 4611686018427387904) (okb : Bool) :
    Calls Try.prog 71 #[.agg #[.int .i64 (k : Int), .int .i64 (n : Int), .slice A m c, .bool okb], .int .i64 (a : Int)] w fun e w' => ∃ g, e = .returned (.slice (some ⟨g, 0, none⟩) 64 64) ∧ Bst.Pre encU8 w' g (entryB k n (padS dt) a) ∧ w.heap.size ≤ g ∧ Ext w w' := by
  subst hm; exact ebytes_ok F w k n a A c dt hd hlen hk hn ha okb
set_option maxRecDepth 100000 in
set_option maxHeartbeats 4000000 in
theorem at_in (w : World) (F : List Nat) (db lb : Nat) (d : Dsk) (l : Lg) (h : DiskAt w F db d) (hl : LogAt w lb db l) (p : Nat) (hp : p < l.size) (hs : l.size + 3 ≤ d.now.length) (ho : d.off = false) (hb : l.base + p ≤ 4611686018427387904) (q : Sec) (hq : q = d.now.getD (2 + p) []) :
    Calls Try.prog 130 #[.pointer (some ⟨lb, 0, none⟩), .int .i64 (p : Int)] w fun e w' => ∃ g, e = .returned (.agg #[.int .i64 ((q.getD 0 0).toNat : Int), .int .i64 (beV ((q.drop 1).take 4) : Int), .slice (some ⟨g, 5, none⟩) 32 59, .bool (decide (q = entryB (q.getD 0 0).toNat (beV ((q.drop 1).take 4)) ((q.drop 5).take 32) (l.base + p)))]) ∧ Bst.Pre encU8 w' g q ∧ w.heap.size ≤ g ∧ Ext w w' := by
  obtain ⟨c0, c1, c2, -, -, -, -, -⟩ := hl.cells
  have hlt := World.block_lt_of_cell? w _ c1
  have hne := World.new_ne w _ c1
  have hd : decide (l.size ≤ p) = false := decide_eq_false (by omega)
  have hle := h.len
  have hlq : q.length = 64 := by obtain ⟨_, _, _, h⟩ := h; rw [hq]; exact getD_sec h.ok.nowS (by omega)
  have hx0 := Ext.alloc w (.cells #[.int .i64 0, .int .i64 0, .slice none 0 0, .bool false] 116)
  have HX0 := Lib.hid hx0
  have HD0 := Lib.hid (h.ext hx0)
  have HL0 := Lib.hid (hl.ext hx0)
  obtain ⟨rv, hrv⟩ : ∃ rv, rv = w.heap.size := ⟨_, rfl⟩
  have HRV := Lib.hid (heap_alloc_new w (.cells #[.int .i64 0, .int .i64 0, .slice none 0 0, .bool false] 116))
  have HO := Lib.hid ho
  have HQ := Lib.hid hq
  have HLQ := Lib.hid hlq
  have HN : Hid (2 + p < d.now.length) := by unfold Hid; omega
  have HBP := Lib.hid hb
  have cz : q[0]? = some (q.getD 0 0) := by
    rw [List.getD_eq_getElem?_getD, List.getElem?_eq_getElem (by omega)]; rfl
  have HC0 := Lib.hid cz
  have hw2 := wrap_i64_id (2 + (p : Int)) (by omega)
  clear h hl hq hlq ho hx0 hb cz hs hrv
  go_enter Try.func130, Try.ntmps130
  go_wp2_with (go_at_call 20; refine (read_ok _ F db d HD0.out (2 + p) HN.out HO.out).mono ?_; rintro e w1 ⟨g, rfl, hp1, hg, hx⟩; rw [← HQ.out] at hp1; have HP := Lib.hid hp1; have HX := Lib.hid hx; have HG := Lib.hid hg; clear hp1 hx hg)
  obtain ⟨kd, hkd⟩ : ∃ kd, kd = (q.getD 0 0).toNat := ⟨_, rfl⟩
  have hkl : kd < 256 := by rw [hkd]; exact UInt8.toNat_lt _
  have cq : w1.cell? ⟨g, 0, none⟩ = some (.int .u8 (kd : Int)) := HP.out.cell (by rw [List.getElem?_map, HC0.out, hkd]; rfl)
  have hng := World.new_ne w1 _ cq
  have HKD := Lib.hid hkd
  clear hkd
  have hwk := wrap_i64_nat kd (by omega)
  go_region_held3 (fun w' => w'.cell? ⟨g, 0, none⟩ = some (.int .u8 (kd : Int))) (go_keep) (fail)
  have hx2 : Ext w1 (w1.alloc (.cells #[.int .i64 (kd : Int), .int .i64 0, .slice (some ⟨g, 5, none⟩) 32 59, .bool false] 116)).drew := (Ext.alloc w1 _).trans (Ext.drew _)
  have hb2 : (w1.alloc (.cells #[.int .i64 (kd : Int), .int .i64 0, .slice (some ⟨g, 5, none⟩) 32 59, .bool false] 116)).drew.heap[w1.heap.size]? = some (.cells #[.int .i64 (kd : Int), .int .i64 0, .slice (some ⟨g, 5, none⟩) 32 59, .bool false] 116 (0, 0)) := heap_alloc_new w1 _
  generalize (w1.alloc (.cells #[.int .i64 (kd : Int), .int .i64 0, .slice (some ⟨g, 5, none⟩) 32 59, .bool false] 116)).drew = w2 at *
  have hg1 : g < w1.heap.size := HP.out.lt
  have hw1 := HX.out.size
  have hw0 : w.heap.size + 1 ≤ w1.heap.size := by have := HX.out.size; simpa using this
  obtain ⟨xv, hxv⟩ : ∃ xv, xv = w1.heap.size := ⟨_, rfl⟩
  rw [← hxv] at hb2 ⊢
  have HX2 : Hid (Keep [] w [xv] w2) := (((HX0.out.trans HX.out).fresh1 (g := xv) (by omega)).trans (hx2.keep [xv]))
  have HP2 : Hid (Bst.Pre encU8 w2 g q) := HP.out.keep (hx2.keep []) (by simp)
  obtain ⟨nm, hnm⟩ : ∃ nm, nm = beV ((q.drop 1).take 4) := ⟨_, rfl⟩
  have h4 : ((q.drop 1).take 4).length = 4 := by rw [List.length_take, List.length_drop, HLQ.out]; rfl
  have HG4 : Hid (getS ((q.drop 1).take 4) = (nm, 0)) := by rw [Hid, getS_four h4, hnm]
  have hnl : nm < 4294967296 := by have := beV_lt ((q.drop 1).take 4); rw [h4] at this; rw [hnm]; simpa using this
  have HNM := Lib.hid hnm
  have hrx : w.heap.size ∉ [xv] := by simp; omega
  have hr1 := (HX.out.block w.heap.size (heap_lt HRV.out) (by simp)).trans HRV.out
  have HRV2 := Lib.hid ((hx2.block w.heap.size (heap_lt hr1) (by simp)).trans hr1)
  have x1 := cell_blk hb2 1
  have xf := frozen_blk hb2 1
  have HB2 := Lib.hid hb2
  have hgx : g ∉ [xv] := by simp; omega
  clear hr1 hx2 hb2 hnm h4 hwk hng hg1 hw1 hw0 cq hxv
  go_wp2_with (go_at_call 108; refine (get_sub _ g q HP2.out HLQ.out 1 4 _ (by omega) (by omega)).mono ?_; rw [HG4.out]; rintro e w' ⟨rfl, rfl⟩)
  have hK3 : Keep [xv] w2 [xv] (w2.setCell ⟨xv, 1, none⟩ (.int .i64 (nm : Int))) := Keep.setCell [xv] _ _ _ (by simp)
  have hb3 := set_blk HB2.out 1 (.int .i64 (nm : Int))
  simp only [List.setIfInBounds_toArray, List.set_cons_zero, List.set_cons_succ] at hb3
  generalize w2.setCell ⟨xv, 1, none⟩ (.int .i64 (nm : Int)) = w3 at *
  have HX3 : Hid (Keep [] w [xv] w3) := HX2.out.trans hK3
  have HX3' : Hid (Ext w w3) := HX3.out.toExt
  have HRV3 := Lib.hid ((hK3.block w.heap.size (heap_lt HRV2.out) hrx).trans HRV2.out)
  have HP3 : Hid (Bst.Pre encU8 w3 g q) := HP2.out.keep hK3 hgx
  have HSL : Hid (Sl Kd.u8 [] w3.drew (some ⟨g, 5, none⟩) 59 ((q.drop 5).take 32)) := Pre.sub8 (HP3.out.keep ((Ext.drew _).keep []) (by simp)) (by simp) 5 32 59 (by rw [HLQ.out]; omega) (by rw [HLQ.out]; omega) (by omega)
  have y0 := cell_blk hb3 0
  have y1 := cell_blk hb3 1
  have y2 := cell_blk hb3 2
  have y3 := cell_blk hb3 3
  have b2 : w3.cell? ⟨lb, 2, none⟩ = some (.int .i64 (l.base : Int)) := HX3'.out.keep [] |>.cell_some c2 (by simp)
  have HB3 := Lib.hid hb3
  have HL32 : Hid (((q.drop 5).take 32).length = 32) := by rw [Hid, List.length_take, List.length_drop, HLQ.out]; rfl
  have hwb := wrap_i64_id ((l.base : Int) + (p : Int)) (by have := HBP.out; omega)
  obtain ⟨E, hE⟩ : ∃ E, E = entryB kd nm ((q.drop 5).take 32) (l.base + p) := ⟨_, rfl⟩
  have HE := Lib.hid hE
  have HEL : Hid (E.length = 64) := by rw [hE, Hid]; exact entryB_length HL32.out
  clear hK3 hb3 hE x1 xf
  go_region_with (first
    | (go_at_call 71; refine (ebytes_at [] _ kd nm (l.base + p) (some ⟨g, 5, none⟩) 32 59 ((q.drop 5).take 32) HL32.out HSL.out (by omega) (by omega) (by omega) HBP.out false).mono ?_; rw [padS_full HL32.out, ← HE.out]; rintro e w9 ⟨g9, rfl, h1, h2, h3⟩; have HP9 := Lib.hid h1; have HX9 := Lib.hid ((Ext.drew w3).trans h3); have z3 := (((Ext.drew w3).trans h3).keep []).cell_some y3 (by simp); have zb := (((Ext.drew w3).trans h3).block xv (heap_lt HB3.out) (by simp)).trans HB3.out; have zf := frozen_blk zb 3; have HZB := Lib.hid zb; clear h1 h2 h3 zb)
    | (go_at_call 134; refine (equal8_ok [] _ (some ⟨g, 0, none⟩) (some ⟨_, 0, none⟩) 64 64 64 64 q E HLQ.out HEL.out ?_ ?_).mono ?_; exact Pre.sl8 (HP3.out.keep (HX9.out.keep []) (by simp)) (by simp) (by rw [HLQ.out]; omega) (by rw [HLQ.out]; omega); exact Pre.sl8 HP9.out (by simp) (by rw [HEL.out]; omega) (by rw [HEL.out]; omega); rintro e w10 ⟨rfl, nd, rfl⟩))
  all_goals (
    have hb11 : ((w9.drewN nd).setCell ⟨xv, 3, none⟩ (.bool (decide (q = E)))).heap[xv]? = some (.cells #[.int .i64 (kd : Int), .int .i64 (nm : Int), .slice (some ⟨g, 5, none⟩) 32 59, .bool (decide (q = E))] 116 (0, 0)) := by
      rw [set_blk (w := w9.drewN nd) HZB.out 3]; rfl
    have hK11 : Keep [xv] w9 [xv] ((w9.drewN nd).setCell ⟨xv, 3, none⟩ (.bool (decide (q = E)))) := ((Ext.drewN w9 nd).keep [xv]).trans (Keep.setCell [xv] _ _ _ (by simp))
    generalize (w9.drewN nd).setCell ⟨xv, 3, none⟩ (.bool (decide (q = E))) = w11 at *
    have hr9 := (HX9.out.block w.heap.size (heap_lt HRV3.out) (by simp)).trans HRV3.out
    have hr11 := (hK11.block w.heap.size (heap_lt hr9) hrx).trans hr9
    have v0 := cell_blk hb11 0
    have v1 := cell_blk hb11 1
    have v2 := cell_blk hb11 2
    have v3 := cell_blk hb11 3
    have HR11 := Lib.hid hr11
    have HP11 : Hid (Bst.Pre encU8 w11 g q) := (HP3.out.keep (HX9.out.keep []) (by simp)).keep hK11 hgx
    have HX11 : Hid (Ext w w11) := ((HX3.out.trans (HX9.out.keep [xv])).trans hK11).toExt
    clear hb11 hK11 hr9 hr11
    go_wp2_with (first
      | (refine wp_store_many (P := Try.prog) (o := ⟨none, .store _ _ _, _, _, _, _⟩) rfl 116 (.tmp 4) (.tmp 53) rfl w11 w.heap.size 0 rfl [.int .i64 (kd : Int), .int .i64 (nm : Int), .slice (some ⟨g, 5, none⟩) 32 59, .bool (decide (q = E))] [.int .i64 0, .int .i64 0, .slice none 0 0, .bool false] rfl 116 HR11.out info_en (Nat.le_refl _) (one_four _ _ _ _ _ _) ?_))
    intro w12 h12 k12
    have H12 := Lib.hid h12
    have HG12 : Hid (Bst.Pre encU8 w12 g q) := HP11.out.keep k12 (by simp; have := HG.out; simp at this; omega)
    have HX12 : Hid (Ext w w12) := ((HX11.out.fresh1 (Nat.le_refl w.heap.size)).trans k12).toExt
    clear h12 k12
    go_wp2
    refine bodyPost_ret (results_cell_row rfl _ _ w.heap.size 116 _ (0, 0) _ rfl H12.out Try.underlying116 rfl info_en) rfl ?_
    refine ⟨g, ?_, HG12.out, (by have := HG.out; simp at this; omega), HX12.out⟩
    rw [← HKD.out, ← HNM.out, ← HE.out]
    rfl)
end Go.Proofs.Ytkmnjccklnfcdaa
namespace Go.Proofs.Ytkmnjccklnfcdaa
open Go Go.RowKit Bst
set_option linter.unusedVariables false
set_option linter.unusedSimpArgs false

theorem at_ok (w : World) (F : List Nat) (db lb : Nat) (d : Dsk) (l : Lg) (h : DiskAt w F db d) (hl : LogAt w lb db l) (p : Nat) (hs : l.size + 3 ≤ d.now.length) (ho : d.off = false) (hb : l.base + l.size ≤ 4611686018427387904) :
    Calls Try.prog 130 #[.pointer (some ⟨lb, 0, none⟩), .int .i64 (p : Int)] w fun e w' => ∃ (kd nm : Nat) (A : Option Addr) (m c : Nat) (okb : Bool), e = .returned (.agg #[.int .i64 (kd : Int), .int .i64 (nm : Int), .slice A m c, .bool okb]) ∧ Ext w w' ∧ kd < 256 ∧ nm < 4294967296 ∧
      (placeS d.now l.base l.size p = none → okb = false) ∧ (∀ k n dt, placeS d.now l.base l.size p = some (k, n, dt) → okb = true ∧ kd = k ∧ nm = n ∧ m = 32 ∧ dt.length = 32 ∧ Sl Kd.u8 F w' A c dt) := by
  by_cases hp : l.size ≤ p
  · refine (at_past w db lb l hl p hp).mono ?_
    rintro e w' ⟨rfl, hx⟩
    have hn : placeS d.now l.base l.size p = none := by unfold placeS; rw [if_pos hp]
    exact ⟨0, 0, none, 0, 0, false, rfl, hx, by omega, by omega, fun _ => rfl, fun k n dt h => by rw [hn] at h; cases h⟩
  · refine (at_in w F db lb d l h hl p (by omega) hs ho (by omega) _ rfl).mono ?_
    rintro e w' ⟨g, rfl, hP, hg, hx⟩
    have hlq : (d.now.getD (2 + p) []).length = 64 := by obtain ⟨_, _, _, h⟩ := h; exact getD_sec h.ok.nowS (by omega)
    have hgF : g ∉ F := fun hm => by have := h.lt _ hm; omega
    have hpl : placeS d.now l.base l.size p = entryR (d.now.getD (2 + p) []) (l.base + p) := by unfold placeS; rw [if_neg hp]
    generalize hq : d.now.getD (2 + p) [] = q at *
    have h4 : ((q.drop 1).take 4).length = 4 := by rw [List.length_take, List.length_drop, hlq]; rfl
    have hnl := beV_lt ((q.drop 1).take 4)
    rw [h4] at hnl
    refine ⟨(q.getD 0 0).toNat, beV ((q.drop 1).take 4), some ⟨g, 5, none⟩, 32, 59, _, rfl, hx, UInt8.toNat_lt _, by simpa using hnl, fun hn => ?_, fun k n dt hsome => ?_⟩
    · rw [hpl] at hn
      unfold entryR at hn
      split at hn
      · cases hn
      · rename_i hne; exact decide_eq_false hne
    · rw [hpl] at hsome
      unfold entryR at hsome
      split at hsome
      · rename_i heq
        injection hsome with hsome
        injection hsome with e1 hsome
        injection hsome with e2 e3
        have hl32 : ((q.drop 5).take 32).length = 32 := by rw [List.length_take, List.length_drop, hlq]; rfl
        refine ⟨decide_eq_true heq, e1, e2, rfl, by rw [← e3]; exact hl32, ?_⟩
        rw [← e3]
        exact Pre.sub8 hP hgF 5 32 59 (by omega) (by omega) (by omega)
      · cases hsome
end Go.Proofs.Ytkmnjccklnfcdaa
namespace Go.Proofs.Ytkmnjccklnfcdaa
open Go Go.RowKit Bst
set_option linter.unusedVariables false
set_option linter.unusedSimpArgs false

theorem off_at (w : World) (F : List Nat) (db : Nat) (d : Dsk) (x : Bool) (h : DiskAt w F db d) (hx : d.off = x) :
    Calls Try.prog 63 #[.pointer (some ⟨db, 0, none⟩)] w fun e w' => e = .returned (.bool x) ∧ w = w' := by
  rw [← hx]; exact off_ok w F db d h
set_option maxRecDepth 100000 in
set_option maxHeartbeats 4000000 in
theorem alive_ok (w : World) (F : List Nat) (db lb : Nat) (d : Dsk) (l : Lg) (h : DiskAt w F db d) (hl : LogAt w lb db l) :
    Calls Try.prog 69 #[.pointer (some ⟨lb, 0, none⟩)] w fun e w' => e = .returned (.int .i64 (aliveS d l)) ∧ Ext w w' := by
  obtain ⟨c0, -, -, -, -, c5, -, -⟩ := hl.cells
  have HDR := Lib.hid (h.ext (Ext.drew w))
  clear hl h
  cases ho : d.off
  · have HO := Lib.hid ho
    clear ho
    by_cases hv : d.lives = l.life
    · have HV := Lib.hid hv
      have HA : Hid (aliveS d l = 0) := by unfold Hid aliveS; rw [if_neg (by rw [HO.out, hv]; simp)]
      have hq : ((d.lives : Int) != (l.life : Int)) = false := by simp [hv]
      generalize hlv : d.lives = lv at *
      generalize l.life = lf at *
      have HLV := Lib.hid hlv
      clear hlv hv
      go_enter Try.func69, Try.ntmps69
      go_wp2
      go_region_held3 (fun w' => w'.cell? ⟨lb, 0, none⟩ = some (.pointer (some ⟨db, 0, none⟩)) ∧ w'.cell? ⟨lb, 5, none⟩ = some (.int .i64 (lf : Int))) (exact ⟨c0, c5⟩) (first | (go_at_call 63; refine (off_at _ F db d false HDR.out HO.out).mono ?_; rintro e w' ⟨rfl, rfl⟩) | (go_at_call 64; refine (lives_ok _ F db d HDR.out).mono ?_; rw [HLV.out]; rintro e w' ⟨rfl, rfl⟩))
      all_goals go_wp2
      all_goals go_ret
      all_goals exact ⟨by rw [HA.out]; rfl, Ext.drew w⟩
    · have HA : Hid (aliveS d l = 30) := by unfold Hid aliveS; rw [if_pos (Or.inr hv)]
      have hq : ((d.lives : Int) != (l.life : Int)) = true := by simp; omega
      generalize hlv : d.lives = lv at *
      generalize l.life = lf at *
      have HLV := Lib.hid hlv
      clear hlv hv
      go_enter Try.func69, Try.ntmps69
      go_wp2
      go_region_held3 (fun w' => w'.cell? ⟨lb, 0, none⟩ = some (.pointer (some ⟨db, 0, none⟩)) ∧ w'.cell? ⟨lb, 5, none⟩ = some (.int .i64 (lf : Int))) (exact ⟨c0, c5⟩) (first | (go_at_call 63; refine (off_at _ F db d false HDR.out HO.out).mono ?_; rintro e w' ⟨rfl, rfl⟩) | (go_at_call 64; refine (lives_ok _ F db d HDR.out).mono ?_; rw [HLV.out]; rintro e w' ⟨rfl, rfl⟩))
      all_goals go_wp2
      all_goals go_ret
      all_goals exact ⟨by rw [HA.out]; rfl, Ext.drew w⟩
  · have HO := Lib.hid ho
    have HA : Hid (aliveS d l = 30) := by unfold Hid aliveS; rw [if_pos (Or.inl HO.out)]
    clear ho
    generalize l.life = lf at *
    go_enter Try.func69, Try.ntmps69
    go_wp2
    refine wp_region_any (by kernel_rfl) ?_
    try (change wpAny _ _ _ _ _ _ _ (World.drew _))
    refine wpAny_take (i := 0) (oi := ⟨some 14, _, _, _, _, _⟩) (v := ?_) rfl (by kernel_rfl) (by kernel_rfl) (by kernel_rfl) (fun _ _ _ h => h) (Or.inl ⟨by rfl, ?_⟩) ?_
    rotate_left
    · ((intro w; go_simp); try with_reducible rfl)
    try simp only [Act.put, List.setIfInBounds_toArray, List.set_cons_zero, List.set_cons_succ]
    refine wpAny_take (i := 1) (oi := ⟨some 15, _, _, _, _, _⟩) (v := ?_) rfl (by kernel_rfl) (by kernel_rfl) (by kernel_rfl) (fun _ _ _ h => h) (Or.inl ⟨by rfl, ?_⟩) ?_
    rotate_left
    · ((intro w; go_simp); try with_reducible rfl)
    try simp only [Act.put, List.setIfInBounds_toArray, List.set_cons_zero, List.set_cons_succ]
    refine wpAny_take (i := 2) (oi := ⟨some 16, _, _, _, _, _⟩) (v := ?_) rfl (by kernel_rfl) (by kernel_rfl) (by kernel_rfl) (fun _ _ _ h => h) (Or.inl ⟨by rfl, ?_⟩) ?_
    rotate_left
    · ((intro w; go_simp); try with_reducible rfl)
    try simp only [Act.put, List.setIfInBounds_toArray, List.set_cons_zero, List.set_cons_succ]
    refine wpAny_ready (rs := [3]) (by kernel_rfl) (by simp) ?_
    refine AllReady.cons rfl (fun K hK => ?_) ?_
    · go_simp
      refine hK _ _ ?_
      clear hK K
      try simp only [Act.put, List.setIfInBounds_toArray, List.set_cons_zero, List.set_cons_succ]
      refine wpAny_ready (rs := [4]) (by kernel_rfl) (by simp) ?_
      refine AllReady.cons rfl (fun K hK => ?_) ?_
      · go_simp
        refine (off_at _ F db d true HDR.out HO.out).mono ?_
        rintro e w' ⟨rfl, rfl⟩
        refine hK _ _ ?_
        clear hK K
        try simp only [Act.put, List.setIfInBounds_toArray, List.set_cons_zero, List.set_cons_succ]
        refine wpAny_take (i := 5) (oi := ⟨some 19, _, _, _, _, _⟩) (v := ?_) rfl (by kernel_rfl) (by kernel_rfl) (by kernel_rfl) (fun _ _ _ h => h) (Or.inl ⟨by rfl, ?_⟩) ?_
        rotate_left
        · ((intro w; go_simp); try with_reducible rfl)
        try simp only [Act.put, List.setIfInBounds_toArray, List.set_cons_zero, List.set_cons_succ]
        refine wpAny_take (i := 6) (oi := ⟨some 20, _, _, _, _, _⟩) (v := undef) rfl (by kernel_rfl) (by kernel_rfl) (by kernel_rfl) (fun _ _ _ h => h) (Or.inr ⟨by rfl, rfl⟩) ?_
        try simp only [Act.put, List.setIfInBounds_toArray, List.set_cons_zero, List.set_cons_succ]
        refine wpAny_take (i := 7) (oi := ⟨some 21, _, _, _, _, _⟩) (v := undef) rfl (by kernel_rfl) (by kernel_rfl) (by kernel_rfl) (fun _ _ _ h => h) (Or.inr ⟨by rfl, rfl⟩) ?_
        try simp only [Act.put, List.setIfInBounds_toArray, List.set_cons_zero, List.set_cons_succ]
        refine wpAny_take (i := 8) (oi := ⟨some 22, _, _, _, _, _⟩) (v := undef) rfl (by kernel_rfl) (by kernel_rfl) (by kernel_rfl) (fun _ _ _ h => h) (Or.inr ⟨by rfl, rfl⟩) ?_
        try simp only [Act.put, List.setIfInBounds_toArray, List.set_cons_zero, List.set_cons_succ]
        refine wpAny_take (i := 9) (oi := ⟨some 23, _, _, _, _, _⟩) (v := undef) rfl (by kernel_rfl) (by kernel_rfl) (by kernel_rfl) (fun _ _ _ h => h) (Or.inr ⟨by rfl, rfl⟩) ?_
        try simp only [Act.put, List.setIfInBounds_toArray, List.set_cons_zero, List.set_cons_succ]
        refine wpAny_take (i := 10) (oi := ⟨some 24, _, _, _, _, _⟩) (v := undef) rfl (by kernel_rfl) (by kernel_rfl) (by kernel_rfl) (fun _ _ _ h => h) (Or.inr ⟨by rfl, rfl⟩) ?_
        try simp only [Act.put, List.setIfInBounds_toArray, List.set_cons_zero, List.set_cons_succ]
        refine wpAny_take (i := 11) (oi := ⟨some 25, _, _, _, _, _⟩) (v := undef) rfl (by kernel_rfl) (by kernel_rfl) (by kernel_rfl) (fun _ _ _ h => h) (Or.inr ⟨by rfl, rfl⟩) ?_
        try simp only [Act.put, List.setIfInBounds_toArray, List.set_cons_zero, List.set_cons_succ]
        refine wpAny_take (i := 12) (oi := ⟨some 26, _, _, _, _, _⟩) (v := undef) rfl (by kernel_rfl) (by kernel_rfl) (by kernel_rfl) (fun _ _ _ h => h) (Or.inr ⟨by rfl, rfl⟩) ?_
        try simp only [Act.put, List.setIfInBounds_toArray, List.set_cons_zero, List.set_cons_succ]
        refine wpAny_take (i := 13) (oi := ⟨some 27, _, _, _, _, _⟩) (v := undef) rfl (by kernel_rfl) (by kernel_rfl) (by kernel_rfl) (fun _ _ _ h => h) (Or.inr ⟨by rfl, rfl⟩) ?_
        try simp only [Act.put, List.setIfInBounds_toArray, List.set_cons_zero, List.set_cons_succ]
        refine wpAny_take (i := 14) (oi := ⟨some 28, _, _, _, _, _⟩) (v := undef) rfl (by kernel_rfl) (by kernel_rfl) (by kernel_rfl) (fun _ _ _ h => h) (Or.inr ⟨by rfl, rfl⟩) ?_
        try simp only [Act.put, List.setIfInBounds_toArray, List.set_cons_zero, List.set_cons_succ]
        refine wpAny_take (i := 15) (oi := ⟨some 29, _, _, _, _, _⟩) (v := undef) rfl (by kernel_rfl) (by kernel_rfl) (by kernel_rfl) (fun _ _ _ h => h) (Or.inr ⟨by rfl, rfl⟩) ?_
        try simp only [Act.put, List.setIfInBounds_toArray, List.set_cons_zero, List.set_cons_succ]
        refine wpAny_take (i := 16) (oi := ⟨some 30, _, _, _, _, _⟩) (v := ?_) rfl (by kernel_rfl) (by kernel_rfl) (by kernel_rfl) (fun _ _ _ h => h) (Or.inl ⟨by rfl, ?_⟩) ?_
        rotate_left
        · ((intro w; go_simp); try with_reducible rfl)
        try simp only [Act.put, List.setIfInBounds_toArray, List.set_cons_zero, List.set_cons_succ]
        refine wpAny_take (i := 17) (oi := ⟨some 13, _, _, _, _, _⟩) (v := ?_) rfl (by kernel_rfl) (by kernel_rfl) (by kernel_rfl) (fun _ _ _ h => h) (Or.inl ⟨by rfl, ?_⟩) ?_
        rotate_left
        · ((intro w; go_simp); try with_reducible rfl)
        try simp only [Act.put, List.setIfInBounds_toArray, List.set_cons_zero, List.set_cons_succ]
        refine wpAny_done (by kernel_rfl) ?_ _
        go_wp2
        go_ret
        exact ⟨by rw [HA.out]; rfl, Ext.drew w⟩
      exact AllReady.nil
    exact AllReady.nil
end Go.Proofs.Ytkmnjccklnfcdaa
namespace Go.Proofs.Ytkmnjccklnfcdaa
open Go Go.RowKit Bst
set_option linter.unusedVariables false
set_option linter.unusedSimpArgs false

/-- A log and its disk. -/
structure LogOn (w : World) (F : List Nat) (lb db : Nat) (d : Dsk) (l : Lg) : Prop where
  disk : DiskAt w F db d
  log : LogAt w lb db l
  out : lb ∉ F
  size : 3 ≤ l.size ∧ l.size + 3 ≤ d.now.length
  base : 1 ≤ l.base ∧ l.base ≤ topW
  slot : l.slot ≤ 1
  used : l.used ≤ l.size
  life : l.life ≤ 1000000000
  commits : l.commits ≤ 1000000000
theorem LogOn.ext {w w' : World} {F : List Nat} {lb db : Nat} {d : Dsk} {l : Lg} (h : LogOn w F lb db d l) (q : Ext w w') : LogOn w' F lb db d l :=
  ⟨h.disk.ext q, h.log.ext q, h.out, h.size, h.base, h.slot, h.used, h.life, h.commits⟩
/-- The disk another, the log as it was. -/
theorem LogOn.redisk {w w' : World} {F F' : List Nat} {lb db : Nat} {d d' : Dsk} {l : Lg} (h : LogOn w F lb db d l) (hd : DiskAt w' F' db d') (q : Keep F w F' w') (hn : d'.now.length = d.now.length) : LogOn w' F' lb db d' l := by
  obtain ⟨t, hb⟩ := h.log
  refine ⟨hd, h.log.keep q h.out, fun hm => ?_, by rw [hn]; exact h.size, h.base, h.slot, h.used, h.life, h.commits⟩
  rcases q.fresh lb hm with h1 | h1
  · exact h.out h1
  · have := heap_lt hb; omega
theorem LogOn.lt {w : World} {F : List Nat} {lb db : Nat} {d : Dsk} {l : Lg} (h : LogOn w F lb db d l) : lb < w.heap.size := by obtain ⟨t, hb⟩ := h.log; exact heap_lt hb
def KApi : Kd (Int × List UInt8) := Kd.pair Kd.int (Kd.slice Kd.u8)
theorem api_at {F : List Nat} {w : World} {A : Option Addr} {c : Nat} {l : List (Int × List UInt8)} (h : Sl KApi F w A c l) {k : Nat} (hk : k < l.length) :
    ∃ g o A2 c2, A = some ⟨g, o, none⟩ ∧ g < w.heap.size ∧ g ∉ F ∧ w.cell? ⟨g, o + k * 2, none⟩ = some (.int .i64 l[k].1) ∧ w.cell? ⟨g, o + k * 2 + 1, none⟩ = some (.slice A2 l[k].2.length c2) ∧ Sl Kd.u8 F w A2 c2 l[k].2 ∧ InI64 l[k].1 := by
  obtain ⟨g, o, rfl, hg, hF, hc⟩ := h.2.2 (by omega)
  obtain ⟨cs, ⟨c1, c2, rfl, ⟨rfl, hi⟩, ⟨A2, cc, rfl, hs⟩⟩, hcell⟩ := hc k _ (getElem?_some_of_lt hk)
  exact ⟨g, o, A2, cc, rfl, hg, hF, by simpa [KApi, Kd.pair, Kd.int, Kd.slice] using hcell 0 _ rfl, by simpa [KApi, Kd.pair, Kd.int, Kd.slice, Nat.add_assoc] using hcell 1 _ rfl, hs, hi⟩
theorem info_api : (Try.prog.info? 100).map (·.size) = some 2 := by kernel_rfl
theorem base_ok (w : World) (lb db : Nat) (l : Lg) (hl : LogAt w lb db l) :
    Calls Try.prog 55 #[.pointer (some ⟨lb, 0, none⟩)] w fun e w' => e = .returned (.int .i64 (l.base : Int)) ∧ w = w' := by
  obtain ⟨-, -, c2, -, -, -, -, -⟩ := hl.cells
  clear hl
  go_enter Try.func55, Try.ntmps55
  go_wp2
  go_ret
  exact ⟨rfl, rfl⟩
theorem left_ok (w : World) (lb db : Nat) (l : Lg) (hl : LogAt w lb db l) (hu : l.used ≤ l.size) (hs : l.size ≤ 16384) :
    Calls Try.prog 58 #[.pointer (some ⟨lb, 0, none⟩)] w fun e w' => e = .returned (.int .i64 ((l.size - l.used : Nat) : Int)) ∧ Ext w w' := by
  obtain ⟨-, c1, -, -, c4, -, -, -⟩ := hl.cells
  have HE : Hid (((l.size : Int) - (l.used : Int)) = ((l.size - l.used : Nat) : Int)) := by unfold Hid; omega
  have w1 := wrap_i64_id ((l.size : Int) - (l.used : Int)) (by omega)
  clear hl
  go_enter Try.func58, Try.ntmps58
  go_wp2
  go_region_held3 (fun w' => w'.cell? ⟨lb, 1, none⟩ = some (.int .i64 (l.size : Int)) ∧ w'.cell? ⟨lb, 4, none⟩ = some (.int .i64 (l.used : Int))) (exact ⟨c1, c4⟩) (fail)
  go_wp2
  go_ret
  exact ⟨ret_int HE.out, Ext.drew w⟩
theorem home_ok (w : World) (lb db : Nat) (l : Lg) (hl : LogAt w lb db l) (hs : l.size ≤ 16384) (n : Int) (h0 : 0 ≤ n) (hn : n ≤ 16384) :
    Calls Try.prog 106 #[.pointer (some ⟨lb, 0, none⟩), .int .i64 n] w fun e w' => e = .returned (.int .i64 (2 + (l.size : Int) + n)) ∧ w = w' := by
  obtain ⟨-, c1, -, -, -, -, -, -⟩ := hl.cells
  clear hl
  go_enter Try.func106, Try.ntmps106
  go_wp2
  go_ret
  exact ⟨rfl, rfl⟩
end Go.Proofs.Ytkmnjccklnfcdaa
