/- A log: an entry's bytes. -/
import Derived.Test.YtkmnjccklnfcdaaWalB
import Derived.Test.YtkmnjccklnfcdaaPlainA
namespace Go.Proofs.Ytkmnjccklnfcdaa
open Go Go.RowKit Bst
set_option linter.unusedVariables false
set_option linter.unusedSimpArgs false

theorem copy8_run {w : World} {g q dLen dCap : Nat} {A : Option Addr} {c : Nat} {F : List Nat} {l src : List UInt8} (hsl : Sl Kd.u8 F w A c src) (hp : Bst.Pre encU8 w g l) (hfit : q + min src.length dLen ≤ l.length) :
    ∃ w', (Builtin.copy_ #[41, 41] 3 #[.slice (some ⟨g, q, none⟩) dLen dCap, .slice A src.length c]).run Try.prog w = .ok (goInt (min src.length dLen : Nat)) w' ∧ Bst.Pre encU8 w' g (putAt l q (src.take dLen)) ∧ Keep [g] w [g] w' := by
  have hmin : (src.take dLen).length = min src.length dLen := by rw [List.length_take]; omega
  by_cases h0 : min src.length dLen = 0
  · have hr := run_copy_none (P := Try.prog) w 41 41 3 5 (some ⟨g, q, none⟩) A dLen dCap src.length c Try.underlying41 (by kernel_rfl) h0
    refine ⟨w, by rw [h0]; exact hr, ?_, Keep.refl _ _⟩
    have e0 : src.take dLen = [] := List.eq_nil_of_length_eq_zero (by rw [hmin, h0])
    rw [e0]
    simpa [putAt] using hp
  · obtain ⟨t, more, hg⟩ := hp
    obtain ⟨g2, o2, rfl, _, _, hc⟩ := hsl.2.2 (by omega)
    have hcell : ∀ j v, ((src.take dLen).map encU8)[j]? = some v → w.cell? ((⟨g2, o2, none⟩ : Addr).add j) = some v := by
      intro j v hv
      rw [List.getElem?_map, List.getElem?_take] at hv
      split at hv
      · cases hx : src[j]? with
        | none => rw [hx] at hv; cases hv
        | some x =>
          rw [hx] at hv
          obtain ⟨cs, rfl, hcs⟩ := hc j x hx
          have := hcs 0 _ rfl
          rw [Addr.add_lit]
          simp at hv; rw [← hv]
          simpa [Kd.u8, encU8] using this
      · cases hv
    have hr := run_copy_row (P := Try.prog) w 41 41 3 5 g q dLen dCap ⟨g2, o2, none⟩ src.length c (l.map encU8 ++ more).toArray t ((src.take dLen).map encU8) Try.underlying41 (by kernel_rfl) hg (by rw [List.length_map, hmin]) hcell (by rw [List.length_map, hmin, List.size_toArray, List.length_append, List.length_map]; omega) (by intro v hv; obtain ⟨x, _, rfl⟩ := List.mem_map.1 hv; rfl)
    rw [List.length_map, hmin, List.toList_toArray] at hr
    have hL : (l.map encU8 ++ more).take q ++ (src.take dLen).map encU8 ++ (l.map encU8 ++ more).drop (q + min src.length dLen) = (putAt l q (src.take dLen)).map encU8 ++ more := by
      rw [putAt_map, ← putAt_append (by rw [List.length_map, hmin, List.length_map]; exact hfit)]
      unfold putAt
      rw [List.length_map, hmin]
    rw [hL] at hr
    refine ⟨_, hr, ⟨t, more, setRow_heap w g _ _ t _ hg⟩, ?_⟩
    refine ⟨rfl, rfl, rfl, by simp, fun k hk hF => ?_, fun b hb => .inl hb⟩
    simp only [World.setRow, Array.getElem?_modify]
    rw [if_neg (fun e => hF (by simp [e]))]
/-- A slice literal of two slices of bytes. -/
theorem sl_two {w : World} {g o1 k1 c1 o2 k2 c2 : Nat} {l : Sec} (h : Bst.Pre encU8 w g l) (h1 : o1 + k1 ≤ l.length) (h2 : o2 + k2 ≤ l.length) (hl : l.length ≤ 140737488355328) (hc1 : k1 ≤ c1) (hc2 : k2 ≤ c2) (T : TypeId) :
    Sl (Kd.slice Kd.u8) [] (w.alloc (.cells #[.slice (some ⟨g, o1, none⟩) k1 c1, .slice (some ⟨g, o2, none⟩) k2 c2] T)) (some ⟨w.heap.size, 0, none⟩) 2 [(l.drop o1).take k1, (l.drop o2).take k2] := by
  have hb := heap_alloc_new w (.cells #[.slice (some ⟨g, o1, none⟩) k1 c1, .slice (some ⟨g, o2, none⟩) k2 c2] T)
  have l1 : ((l.drop o1).take k1).length = k1 := by rw [List.length_take, List.length_drop]; omega
  have l2 : ((l.drop o2).take k2).length = k2 := by rw [List.length_take, List.length_drop]; omega
  have s1 := (Pre.sub8 (F := []) h (by simp) o1 k1 c1 h1 hl hc1).ext ((Ext.alloc w (.cells #[.slice (some ⟨g, o1, none⟩) k1 c1, .slice (some ⟨g, o2, none⟩) k2 c2] T)).keep [])
  have s2 := (Pre.sub8 (F := []) h (by simp) o2 k2 c2 h2 hl hc2).ext ((Ext.alloc w (.cells #[.slice (some ⟨g, o1, none⟩) k1 c1, .slice (some ⟨g, o2, none⟩) k2 c2] T)).keep [])
  refine ⟨Nat.le_refl _, by simp, fun _ => ⟨w.heap.size, 0, rfl, by simp, by simp, fun i x hx => ?_⟩⟩
  match i, hx with
  | 0, hx =>
    simp at hx; subst hx
    refine ⟨[.slice (some ⟨g, o1, none⟩) k1 c1], ⟨_, _, by rw [l1], s1⟩, fun j u hu => ?_⟩
    have hj : j = 0 := by have := (List.getElem?_eq_some_iff.1 hu).1; simp at this; omega
    subst hj
    simp at hu; subst hu
    exact cell_blk hb 0
  | 1, hx =>
    simp at hx; subst hx
    refine ⟨[.slice (some ⟨g, o2, none⟩) k2 c2], ⟨_, _, by rw [l2], s2⟩, fun j u hu => ?_⟩
    have hj : j = 0 := by have := (List.getElem?_eq_some_iff.1 hu).1; simp at this; omega
    subst hj
    simp at hu; subst hu
    exact cell_blk hb 1
  | i + 2, hx => simp at hx
theorem wrap_i64_nat (n : Nat) (h : n < 9223372036854775808) : IntKind.i64.wrap (n : Int) = (n : Int) := by
  simp [IntKind.wrap, IntKind.signed, IntKind.bits]
  omega
theorem sum2_ok (w : World) (A : Option Addr) (c : Nat) (x y : Sec) (h : Sl (Kd.slice Kd.u8) [] w A c [x, y]) :
    Calls Try.prog 112 #[.slice A 2 c] w fun e w' => e = .returned (.int .u32 (sumS (x ++ y) : Int)) ∧ w = w' := by
  have := sum_ok [] w A c [x, y] h
  simpa using this
set_option maxRecDepth 100000 in
set_option maxHeartbeats 1000000 in
theorem ebytes_ok (F : List Nat) (w : World) (k n a : Nat) (A : Option Addr) (c : Nat) (dt : Sec) (hd : Sl Kd.u8 F w A c dt) (hlen : dt.length ≤ 32) (hk : k < 256) (hn : n < 4294967296) (ha : a ≤ 4611686018427387904) (okb : Bool) :
    Calls Try.prog 71 #[.agg #[.int .i64 (k : Int), .int .i64 (n : Int), .slice A dt.length c, .bool okb], .int .i64 (a : Int)] w fun e w' => ∃ g, e = .returned (.slice (some ⟨g, 0, none⟩) 64 64) ∧ Bst.Pre encU8 w' g (entryB k n (padS dt) a) ∧ w.heap.size ≤ g ∧ Ext w w' := by
  have hmk := make64 (w.alloc (.cells #[.int .i64 (k : Int), .int .i64 (n : Int), .slice A dt.length c, .bool okb] 116))
  have hP0 := pre64 (w.alloc (.cells #[.int .i64 (k : Int), .int .i64 (n : Int), .slice A dt.length c, .bool okb] 116))
  have hx0 := Ext.alloc w (.cells #[.int .i64 (k : Int), .int .i64 (n : Int), .slice A dt.length c, .bool okb] 116)
  have hb0 := heap_alloc_new w (.cells #[.int .i64 (k : Int), .int .i64 (n : Int), .slice A dt.length c, .bool okb] 116)
  have hsz0 : (w.alloc (.cells #[.int .i64 (k : Int), .int .i64 (n : Int), .slice A dt.length c, .bool okb] 116)).heap.size = w.heap.size + 1 := by simp
  have hx1 := Ext.alloc (w.alloc (.cells #[.int .i64 (k : Int), .int .i64 (n : Int), .slice A dt.length c, .bool okb] 116)) (.cells z64.toArray 5)
  rw [hsz0] at hmk hP0
  have hb1 := (hx1.block w.heap.size (by rw [hsz0]; omega) (by simp)).trans hb0
  obtain ⟨g, hg⟩ : ∃ g, g = w.heap.size + 1 := ⟨_, rfl⟩
  rw [← hg] at hmk hP0
  obtain ⟨w1, hw1⟩ : ∃ w1, w1 = (w.alloc (.cells #[.int .i64 (k : Int), .int .i64 (n : Int), .slice A dt.length c, .bool okb] 116)).alloc (.cells z64.toArray 5) := ⟨_, rfl⟩
  rw [← hw1] at hmk hP0 hb1 hx1
  have hx01 := hx0.trans hx1
  have c1 := cell_blk hb1 0
  have hgne : w.heap.size ∉ [g] := by simp; omega
  have hgw : w.heap.size ≤ g := by omega
  have hs1 := Pre.set hP0 (k := 0) (by rw [zeros_length]; omega) (UInt8.ofNat k)
  rw [st1_of] at hs1
  have henc : encU8 (UInt8.ofNat k) = .int .u8 (k : Int) := by
    unfold encU8
    rw [UInt8.toNat_ofNat']
    congr 1
    omega
  rw [henc] at hs1
  have hK2 : Keep [g] w1 [g] (w1.setCell ⟨g, 0, none⟩ (.int .u8 (k : Int))) := Keep.setCell [g] _ _ _ (by simp)
  have cz := hP0.cell (k := 0) (v := .int .u8 0) (by rfl)
  have fz := hP0.frozen 0
  have e1 : (k : Int) % 256 = (k : Int) := by omega
  have HD := Lib.hid hd
  have HLEN := Lib.hid hlen
  have HN := Lib.hid hn
  have HA := Lib.hid ha
  have HS1 := Lib.hid hs1
  have HX01 := Lib.hid hx01
  have HB1 := Lib.hid hb1
  have HK2 := Lib.hid hK2
  have hle := hd.len_le
  clear hd hlen hn ha hs1 hx01 hb1 hK2 hP0 hx0 hx1 hb0 hsz0 hw1 hg henc
  have HPD : Hid ((padS dt).length = 32) := padS_length HLEN.out
  go_enter Try.func71, Try.ntmps71
  go_wp2
  generalize hw2 : w1.setCell ⟨g, 0, none⟩ (.int .u8 (k : Int)) = w2 at *
  clear hw2 cz fz c1
  have hb2 : w2.heap[w.heap.size]? = some (.cells #[.int .i64 (k : Int), .int .i64 (n : Int), .slice A dt.length c, .bool okb] 116 (0, 0)) := by rw [HK2.out.block _ (heap_lt HB1.out) hgne]; exact HB1.out
  have d1 := cell_blk hb2 1
  have HB2 := Lib.hid hb2
  have HP2 : Hid (Bst.Pre encU8 w2.drew g (st1 k)) := HS1.out.keep ((Ext.drew w2).keep []) (by simp)
  have HK2' : Hid (Keep [g] w1 [g] w2.drew) := HK2.out.trans ((Ext.drew w2).keep [g])
  clear hb2
  go_region_with ((go_at_call 107; refine (wput_ok _ g 1 4 _ n (st1 k) HP2.out (by rw [st1_length]; omega) (by omega) (by omega) (by have := HN.out; omega) (by have := HN.out; omega)).mono ?_; rintro e w3 ⟨rfl, h1, k1⟩; rw [st2_of] at h1; have HP3 := Lib.hid h1; have HK3 := Lib.hid (HK2'.out.trans k1); clear h1 k1))
  have hb3 : w3.heap[w.heap.size]? = some (.cells #[.int .i64 (k : Int), .int .i64 (n : Int), .slice A dt.length c, .bool okb] 116 (0, 0)) := by rw [HK3.out.block _ (heap_lt HB1.out) hgne]; exact HB1.out
  have c3 := cell_blk hb3 2
  have hX3 : Ext w w3.drew := (((HX01.out.fresh1 hgw).trans HK3.out).toExt).trans (Ext.drew w3)
  have hmin : min dt.length 32 = dt.length := by have := HLEN.out; omega
  obtain ⟨w4, hcp, hP4, hK4⟩ := copy8_run (q := 5) (dLen := 32) (dCap := 59) (HD.out.ext (hX3.keep F)) (HP3.out.keep ((Ext.drew w3).keep []) (by simp)) (by rw [hmin, st2_length]; have := HLEN.out; omega)
  rw [hmin] at hcp
  rw [List.take_of_length_le HLEN.out, st3_of k n HLEN.out] at hP4
  have HP4 := Lib.hid hP4
  have HK4 : Hid (Keep [g] w1 [g] w4) := (HK3.out.trans ((Ext.drew w3).keep [g])).trans hK4
  clear hb3 hX3 hmin hP4 hK4 d1
  go_wp2
  refine wp_region_any (by kernel_rfl) ?_
  try (change wpAny _ _ _ _ _ _ _ (World.drew _))
  refine wpAny_take (i := 0) (v := ?_) rfl (by kernel_rfl) (by kernel_rfl) (by kernel_rfl) (fun _ _ _ h => h) (Or.inl ⟨by rfl, ?_⟩) ?_
  rotate_left
  · ((intro w; go_simp); try with_reducible rfl)
  try simp only [Act.put, List.setIfInBounds_toArray, List.set_cons_zero, List.set_cons_succ]
  refine wpAny_take (i := 1) (v := ?_) rfl (by kernel_rfl) (by kernel_rfl) (by kernel_rfl) (fun _ _ _ h => h) (Or.inl ⟨by rfl, ?_⟩) ?_
  rotate_left
  · ((intro w; go_simp); try with_reducible rfl)
  try simp only [Act.put, List.setIfInBounds_toArray, List.set_cons_zero, List.set_cons_succ]
  refine wpAny_take (i := 2) (v := ?_) rfl (by kernel_rfl) (by kernel_rfl) (by kernel_rfl) (fun _ _ _ h => h) (Or.inl ⟨by rfl, ?_⟩) ?_
  rotate_left
  · ((intro w; go_simp); try with_reducible rfl)
  try simp only [Act.put, List.setIfInBounds_toArray, List.set_cons_zero, List.set_cons_succ]
  refine wpAny_ready (rs := [3]) (by kernel_rfl) (by simp) ?_
  refine AllReady.cons rfl (fun K hK => ?_) ?_
  · go_simp
    refine hK _ _ ?_
    clear hK K
    try simp only [Act.put, List.setIfInBounds_toArray, List.set_cons_zero, List.set_cons_succ]
    refine wpAny_ready (rs := [4]) (by kernel_rfl) (by simp) ?_
    refine AllReady.cons rfl (fun K hK => ?_) ?_
    · rw [if_pos (by rfl)]
      refine st_copy _ _ _ _ rfl _ _ _ rfl rfl _ hcp ?_
      refine hK _ _ ?_
      clear hK K
      try simp only [Act.put, List.setIfInBounds_toArray, List.set_cons_zero, List.set_cons_succ]
      refine wpAny_done (by kernel_rfl) ?_ _
      clear hcp c3
      go_wp2_with fail
      refine (wput_ok w4 g 56 8 _ a (st3 k n (padS dt)) HP4.out (by rw [st3_length k n HPD.out]; omega) (by omega) (by omega) HA.out (by have := HA.out; omega)).mono ?_
      rintro e w5 ⟨rfl, h1, k1⟩
      rw [st4_of k n a HPD.out] at h1
      have HP5 := Lib.hid h1
      have HK5 := Lib.hid (HK4.out.trans k1)
      have HL5 := st4_length k n a HPD.out
      have hs2 := (sl_two (w := w5) (g := g) (o1 := 0) (k1 := 52) (c1 := 64) (o2 := 56) (k2 := 8) (c2 := 8) h1 (by rw [HL5]; omega) (by rw [HL5]; omega) (by rw [HL5]; omega) (by omega) (by omega) 41).ext ((Ext.drew _).keep [])
      rw [st4_head k n a HPD.out, st4_stamp k n a HPD.out] at hs2
      have HS2 := Lib.hid hs2
      have HP6 : Hid (Bst.Pre encU8 ((w5.alloc (.cells #[.slice (some ⟨g, 0, none⟩) 52 64, .slice (some ⟨g, 56, none⟩) 8 8] 41)).drew) g (st4 k n (padS dt) a)) := (h1.keep ((Ext.alloc _ _).keep []) (by simp)).keep ((Ext.drew _).keep []) (by simp)
      obtain ⟨S, hS⟩ : ∃ S, S = sumS (entryH k n (padS dt) ++ beL a 8) := ⟨_, rfl⟩
      have hSl : S < 4294967296 := by rw [hS]; exact sumS_lt _
      have hwS : IntKind.i64.wrap (S : Int) = (S : Int) := wrap_i64_nat S (by omega)
      have HSU : Hid (sumS (entryH k n (padS dt) ++ beL a 8) = S) := hS.symm
      have HS := Lib.hid hS
      clear h1 k1 hs2 hS HL5
      go_wp2
      go_region_with (first
        | (go_at_call 112; refine (sum2_ok _ _ 2 (entryH k n (padS dt)) (beL a 8) HS2.out).mono ?_; rw [HSU.out]; rintro e w' ⟨rfl, rfl⟩)
        | (go_at_call 107; refine (wput_ok _ g 52 4 _ S (st4 k n (padS dt) a) HP6.out (by rw [st4_length k n a HPD.out]; omega) (by omega) (by omega) (by omega) (by omega)).mono ?_; rintro e w7 ⟨rfl, h1, k1⟩; have HP7 := Lib.hid h1; have HK7 := Lib.hid k1; clear h1 k1))
      all_goals go_wp2
      all_goals go_ret
      exact ⟨g, rfl, by have := HP7.out; rw [HS.out, st5_of k n a HPD.out] at this; exact this, hgw, ((HX01.out.fresh1 hgw).trans ((HK5.out.trans (((Ext.alloc w5 _).trans (Ext.drew _)).keep [g])).trans HK7.out)).toExt⟩
    exact AllReady.nil
  exact AllReady.nil
end Go.Proofs.Ytkmnjccklnfcdaa
