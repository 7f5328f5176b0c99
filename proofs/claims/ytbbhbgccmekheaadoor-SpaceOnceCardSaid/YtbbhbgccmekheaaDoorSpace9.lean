/- Contract: the highest taken sector; slices.Backward over words. -/
import Derived.Test.YtbbhbgccmekheaaDoorSpace6
import Derived.Test.YtbbhbgccmekheaaDoorBits64
import Derived.RangeFuncNested
import Derived.RangeFuncBound
import Derived.RangeFuncCalls
import Derived.RangeFuncLeaves
import Derived.RangeFuncBox
import Derived.Shelf.Abstract
import Derived.Shelf.RegionOpen
import Derived.OwnWalkIn
import Derived.TacticsInMore
import Derived.LoopNIn
import Derived.LoopIn
namespace Go.Proofs.YtbbhbgccmekheaaDoor
open Go Go.RowKit Bst Go.Shelf
set_option linter.unusedVariables false
set_option linter.unusedSimpArgs false
attribute [local go_sem] Oper.semAt_some

theorem cell_kept_alloc (w : World) (o : Obj) {p : Addr} {v : Value} (h : w.cell? p = some v) : (w.alloc o).cell? p = some v := (Ext.alloc w o).cell_some h (by simp)
def upto {α : Type} (f : Nat → α) (k : Nat) : List α := (List.range k).map f
theorem upto_succ' {α : Type} (f : Nat → α) (k : Nat) : upto f (k + 1) = upto f k ++ [f k] := by simp [upto, List.range_succ]
theorem upto_length {α : Type} (f : Nat → α) (k : Nat) : (upto f k).length = k := by simp [upto]
/-- A word and its place. -/
abbrev BW : Type := { x : Nat × Nat // x.1 < 16384 ∧ x.2 < 18446744073709551616 }
def WOk (ws : List Nat) : Prop := ws.length ≤ 16384 ∧ ∀ i, ws.getD i 0 < 18446744073709551616
/-- What comes in round k of a walk backwards. -/
def backAt (ws : List Nat) (h : WOk ws) (k : Nat) : BW := ⟨(ws.length - 1 - k, ws.getD (ws.length - 1 - k) 0), by have := h.1; show ws.length - 1 - k < 16384; omega, h.2 _⟩
set_option maxRecDepth 100000 in
set_option maxHeartbeats 2000000 in
theorem back1_in (F : Fence) (n : Nat) (h7 : F.fn 47) (hro : F.round = none) (hn : 1 ≤ n) (l Bs n₀ b cap : Nat) (ws : List Nat) (hwk : WOk ws) (hb : b < n₀) (J Jx : List BW → World → Prop)
    (hY : ∀ pre x W, J pre W → pre.length < ws.length → YieldAt F (n - 1) Tryd.prog l #[.int .i64 (x.1.1 : Int), .int .u64 (x.1.2 : Int)] W fun e W' =>
      (e = .returned (.bool true) ∧ J (pre ++ [x]) W' ∧ Below n₀ W W') ∨ (e = .returned (.bool false) ∧ Jx (pre ++ [x]) W'))
    (W : World) (hBs : W.cell? ⟨Bs, 0, none⟩ = some (.slice (some ⟨b, 0, none⟩) ws.length cap)) (hBn : Bs < n₀) (hc : ∀ j, j < ws.length → W.cell? ⟨b, j, none⟩ = some (.int .u64 (ws.getD j 0 : Nat))) (h0 : J [] W) :
    CallsIn F n Tryd.prog 47 #[.func (.yield l) #[] #[], .pointer (some ⟨Bs, 0, none⟩)] W fun e W' => (∃ v, e = .returned v) ∧
      ((∃ ys, ys = upto (backAt ws hwk) ws.length ∧ J ys W') ∨ (∃ pre, (∃ k, k ≤ ws.length ∧ pre = upto (backAt ws hwk) k) ∧ Jx pre W')) := by
  have hwl := hwk.1
  refine callsIn_of_wp Tryd.func47 rfl h7 ?_ hro
  simp only [Tryd.ntmps47, List.size_toArray, List.length_cons, List.length_nil, Nat.reduceAdd, Nat.reduceSub, Array.replicate_succ, Array.replicate_zero, List.push_toArray, List.append_toArray, List.nil_append, List.cons_append]
  gi_wp2
  gi_loopw [3] (fun i wr => ∃ k : Nat, k ≤ ws.length ∧ i = .int .i64 ((ws.length : Int) - 1 - k) ∧ J (upto (backAt ws hwk) k) wr ∧ Below n₀ W wr)
    (fun i _ => (intOf i + 1).toNat)
  case atStart => exact ⟨0, Nat.zero_le _, by simp, h0, Below.refl _ _⟩
  case round =>
    obtain ⟨k, hk, rfl, hJs, hnx⟩ := hrel
    by_cases hlt : k < ws.length
    · obtain ⟨p, hp⟩ : ∃ p, p + 1 + k = ws.length := ⟨ws.length - 1 - k, by omega⟩
      have hpi : ((ws.length : Int) - 1 - k) = (p : Int) := by omega
      have hplt : p < 16384 := by have := hwk.1; omega
      have hbk : backAt ws hwk k = ⟨(p, ws.getD p 0), hplt, hwk.2 p⟩ := by unfold backAt; simp only [show ws.length - 1 - k = p by omega]
      have hcx : wr.cell? ⟨b, p, none⟩ = some (.int .u64 (ws.getD p 0 : Nat)) := (hnx.cell (p := ⟨b, p, none⟩) hb).trans (hc p (by omega))
      have hbx : wr.cell? ⟨Bs, 0, none⟩ = some (.slice (some ⟨b, 0, none⟩) ws.length cap) := (hnx.cell (p := ⟨Bs, 0, none⟩) hBn).trans hBs
      rw [hpi]
      obtain ⟨fn, tmps, assign, body, hy, hR⟩ := hY _ ⟨(p, ws.getD p 0), hplt, hwk.2 p⟩ wr hJs (by rw [upto_length]; exact hlt)
      dsimp only at hy
      obtain ⟨x, hxx⟩ : ∃ x, ws.getD p 0 = x := ⟨_, rfl⟩
      rw [hxx] at hcx hy
      have HBK := Lib.hid hbk
      have hpl : p < ws.length := by omega
      have HXX := Lib.hid hxx
      clear hxx
      have HP := Lib.hid hp
      clear hbk hpi hp
      gi_wp2
      refine hR.mono ?_
      rintro e W3 (⟨rfl, hJ3, hk3⟩ | ⟨rfl, hJx3⟩)
      · gi_wp2
        go_roundw
        case rel => exact ⟨k + 1, by omega, by have := HP.out; congr 1; omega, by rw [upto_succ', HBK.out]; exact hJ3, hnx.trans hk3⟩
        case measure => have := HP.out; simp [intOf] <;> omega
      · gi_wp2
        refine bodyPost_ret (results_none rfl _ _ _) rfl ?_
        exact ⟨⟨_, rfl⟩, .inr ⟨_, ⟨k + 1, by omega, by rw [upto_succ', HBK.out]⟩, hJx3⟩⟩
    · obtain rfl : k = ws.length := by omega
      have hpi : ((ws.length : Int) - 1 - ws.length) = -1 := by omega
      rw [hpi]
      gi_wp2
      go_end0
      exact ⟨⟨_, rfl⟩, .inl ⟨_, rfl, hJs⟩⟩
set_option maxHeartbeats 1000000 in
theorem back_in (F : Fence) (n : Nat) (h5 : F.fn 32) (hro : F.round = none) (a : Option Addr) (len cap : Nat) (w : World) :
    CallsIn F n Tryd.prog 32 #[.slice a len cap] w fun e w' => e = .returned (.func (.func 47) #[] #[.pointer (some ⟨w.heap.size, 0, none⟩)]) ∧ w' = w.alloc (.cells #[.slice a len cap] 63) := by
  refine callsIn_of_wp Tryd.func32 rfl h5 ?_ hro
  simp only [Tryd.ntmps32, List.size_toArray, List.length_cons, List.length_nil, Nat.reduceAdd, Nat.reduceSub, Array.replicate_succ, Array.replicate_zero, List.push_toArray, List.append_toArray, List.nil_append, List.cons_append]
  gi_wp2
  go_ret
  exact ⟨rfl, rfl⟩
theorem back_stops (F : Fence) (n : Nat) (h8 : F.fn 47) (hro : F.round = none) (hn : 1 ≤ n) (Bs n₀ b cap : Nat) (ws : List Nat) (hwk : WOk ws) (w : World) (hBs : Bs < n₀) (hn₀ : n₀ ≤ w.heap.size)
    (hc : w.cell? ⟨Bs, 0, none⟩ = some (.slice (some ⟨b, 0, none⟩) ws.length cap)) (hb : b < n₀) (hI : ∀ j, j < ws.length → w.cell? ⟨b, j, none⟩ = some (.int .u64 (ws.getD j 0 : Nat))) :
    SeqStopsK F n Tryd.prog 47 #[.pointer (some ⟨Bs, 0, none⟩)] (fun x : BW => #[Value.int .i64 (x.1.1 : Int), Value.int .u64 (x.1.2 : Int)]) (Below n₀) (fun ys => ys = upto (backAt ws hwk) ws.length)
      (fun pre => ∃ k, k ≤ ws.length ∧ pre = upto (backAt ws hwk) k) ws.length w := fun l J Jx W hW _ _ hY h0 => by
  have hc' := (hW.cell (p := ⟨Bs, 0, none⟩) (by show Bs < _; omega)).trans hc
  have hI' : ∀ j, j < ws.length → W.cell? ⟨b, j, none⟩ = some (.int .u64 (ws.getD j 0 : Nat)) := fun j hj => (hW.cell (p := ⟨b, j, none⟩) (by show b < _; omega)).trans (hI j hj)
  exact back1_in F n h8 hro hn l Bs n₀ b cap ws hwk hb J Jx hY W hc' hBs hI' h0

theorem top_nil (w : World) : Calls Tryd.prog 10 #[.pointer none] w fun e w' => e = .returned (.int .i64 (-1)) ∧ Ext w w' := by
  go_enter Tryd.func10, Tryd.ntmps10
  go_wp2
  have hc := cell_blk (heap_alloc_new w (.cells #[.int .i64 (-1)] 3)) 0
  simp at hc
  refine bodyPost_ret (v := .int .i64 (-1)) ?_ rfl ⟨rfl, Ext.alloc w _⟩
  simp [results, Tryd.results10, go_sem, hc]
set_option maxRecDepth 100000 in
set_option maxHeartbeats 2000000 in
theorem top_ok (w : World) (b g : Nat) (T : List Bool) (h : SpaceAt w b g T) :
    Calls Tryd.prog 10 #[.pointer (some ⟨b, 0, none⟩)] w fun e w' => e = .returned (.int .i64 (topS T)) ∧ Ext w w' := by
  obtain ⟨t, nn, hn, hb⟩ := h.blk
  obtain ⟨ws, t2, hg, hw⟩ := h.words
  have hsz := h.size
  have hlen := hw.len
  have hwl : ws.length ≤ 16384 := by omega
  have hwk : WOk ws := ⟨hwl, fun i => by
    rcases Nat.lt_or_ge i ws.length with h1 | h1
    · exact hw.lt i h1
    · rw [List.getD_eq_getElem?_getD, List.getElem?_eq_none h1]; decide⟩
  have c2 := cell_blk hb 2
  simp at c2
  have hbl := heap_lt hb
  have hgl := heap_lt hg
  have hcell : ∀ j, j < ws.length → w.cell? ⟨g, j, none⟩ = some (.int .u64 (ws.getD j 0 : Nat)) := fun j hj => by
    rw [cell_blk hg j]; simp [List.getD_eq_getElem?_getD, hj]
  have hnl : nn = ws.length := by omega
  subst hnl
  have HW := Lib.hid hw
  have HCELL := Lib.hid hcell
  clear hb hg h hw hlen hcell hn
  refine (callsIn_wide (n := 3)).1 ?_
  refine callsIn_of_wp_marks Tryd.func10 rfl trivial ?_ rfl
  simp only [Tryd.ntmps10, List.size_toArray, List.length_cons, List.length_nil, Nat.reduceAdd, Nat.reduceSub, Array.replicate_succ, Array.replicate_zero, List.push_toArray, List.append_toArray, List.nil_append, List.cons_append]
  have c2' := cell_kept_alloc w (.cells #[.int .i64 0] 3) c2
  gi_wp2_with (refine ⟨trivial, ?_⟩; gi_at_call 32; refine (back_in Fence.wide 2 trivial rfl _ _ _ _).mono ?_; rintro e w' ⟨rfl, rfl⟩)
  have bR := Boxed.new w 3 (.int .i64 0)
  have bN := Boxed.new (w.alloc (.cells #[.int .i64 0] 3)) 63 (.slice (some ⟨g, 0, none⟩) ws.length ws.length)
  rw [World.size_alloc] at bN
  have hB0 : Below w.heap.size w ((w.alloc (.cells #[.int .i64 0] 3)).alloc (.cells #[.slice (some ⟨g, 0, none⟩) ws.length ws.length] 63)) := ((Below.refl _ w).alloc (Nat.le_refl _) _).alloc (by simp) _
  obtain ⟨W0, hW0⟩ : ∃ W0, (w.alloc (.cells #[.int .i64 0] 3)).alloc (.cells #[.slice (some ⟨g, 0, none⟩) ws.length ws.length] 63) = W0 := ⟨_, rfl⟩
  have hsz0 : W0.heap.size = w.heap.size + 2 := by rw [← hW0]; simp
  have hcell0 : ∀ j, j < ws.length → W0.cell? ⟨g, j, none⟩ = some (.int .u64 (ws.getD j 0 : Nat)) := fun j hj => by
    rw [← hW0]; exact cell_kept_alloc _ _ (cell_kept_alloc _ _ (HCELL.out j hj))
  have bR0 : Boxed W0 w.heap.size 3 (.int .i64 0) := by rw [← hW0]; exact bR.alloc _
  rw [hW0] at bN hB0 ⊢
  have HWK := Lib.hid hwk
  clear hW0 bR
  refine wpIn_rangeFunc_ownG (F := Fence.wide) rfl (by omega) (gf := 47) (lb := #[.pointer (some ⟨w.heap.size + 1, 0, none⟩)]) rfl trivial (enters_of Tryd.func47 (by kernel_rfl) rfl)
    (back_stops Fence.wide 2 trivial rfl (by omega) (w.heap.size + 1) (w.heap.size + 2) g ws.length ws hwk W0 (by omega) (by omega) bN.cell (by omega) hcell0) belowK_t (belowK_b (by omega)) (Below.refl _ _) (fun _ => rfl)
    (fun pre W => ((∀ p ∈ pre, p.1.2 = 0) ∧ W.cell? ⟨w.heap.size, 0, none⟩ = some (.int .i64 0) ∧ W.frozen? ⟨w.heap.size, 0, none⟩ = false) ∧ Below w.heap.size w W)
    (fun c pre W => (c = .ret ∧ ∃ ini last, pre = ini ++ [last] ∧ (∀ p ∈ ini, p.1.2 = 0) ∧ last.1.2 ≠ 0 ∧ W.cell? ⟨w.heap.size, 0, none⟩ = some (.int .i64 (64 * (last.1.1 : Int) + Lib.bitLen last.1.2 - 1))) ∧ Below w.heap.size w W)
    (OwnFrom.and (Own.from (fun s A B row hs hg hr => ⟨hs.1, cell_kept hs.2.1 hg hr, (frozen_kept hs.2.1 hg hr).trans hs.2.2⟩) _) (ownFrom_below (Nat.le_refl _) (by omega)))
    (fun c => OwnFrom.and (Own.from (fun s A B row hs hg hr => by obtain ⟨hc, ini, last, e1, e2, e3, e4⟩ := hs; exact ⟨hc, ini, last, e1, e2, e3, cell_kept e4 hg hr⟩) _) (ownFrom_below (Nat.le_refl _) (by omega)))
    ⟨⟨by simp, bR0.cell, bR0.frozen⟩, hB0⟩
    (fun x => { tmps := #[.pointer (some ⟨b, 0, none⟩), undef, .pointer (some ⟨w.heap.size, 0, none⟩), .int .i64 (x.1.1 : Int), .int .u64 (x.1.2 : Int), .pointer (some ⟨b, 0, none⟩), .bool false, .pointer (some ⟨b, 0, none⟩), .pointer (some ⟨b, 0, none⟩), .pointer (some ⟨b, 2, none⟩), .slice (some ⟨g, 0, none⟩) ws.length ws.length, .func (.func 47) #[] #[.pointer (some ⟨w.heap.size + 1, 0, none⟩)], .int .i64 (x.1.1 : Int), .int .u64 (x.1.2 : Int), undef, undef, undef, undef, undef, undef, undef, undef], defers := [] }) ?assign ?body ?done ?stop
  case assign =>
    intro l x W K hK
    gi_wp2
    exact hK
  case body =>
    rintro l pre x W ⟨⟨hp, hcr, hfr⟩, hB⟩ _
    obtain ⟨⟨i, y⟩, hx1, hx2⟩ := x
    simp only at hx1 hx2 ⊢
    by_cases h0 : y = 0
    · subst h0
      gi_wp2
      exact ⟨KeepsFrom.refl _ _, Below.refl _ _, ⟨fun p hp' => (List.mem_append.1 hp').elim (hp p) (fun e => by simp at e; subst e; rfl), hcr, hfr⟩, hB⟩
    · have hy : ((y : Int) != 0) = true := by simp; omega
      obtain ⟨hb1, hb2, -, -⟩ := bitLen_bits y hx2 h0
      have HY := Lib.hid h0
      clear h0
      gi_wp2_with (refine ⟨trivial, ?_⟩; gi_at_call 33; refine (CallsIn.inRound l (callsIn_wide.2 (len64_ok y _ hx2))).mono ?_; rintro e w' ⟨rfl, rfl⟩)
      exact ⟨(KeepsOthers.setCell _ _ _).from _, ⟨rfl, pre, ⟨(i, y), hx1, hx2⟩, rfl, hp, HY.out, World.cell?_setCell_same' _ _ _ (by rw [hcr]; rfl)⟩, hB.setCell (p := ⟨w.heap.size, 0, none⟩) (Nat.le_refl _) _⟩
  case done =>
    rintro D ys W hD rfl ⟨⟨hne, hcr, hfr⟩, hB⟩ hK
    gi_wp2
    have hK' := (KeepsOthers.setCell W ⟨w.heap.size, 0, none⟩ (.int .i64 (-1))).same D _ hK rfl
    refine ⟨by simp, .inl ⟨_, _, rfl, run_takeDeferred hK', ?_⟩⟩
    have hc5 := cell_kept (World.cell?_setCell_same' W ⟨w.heap.size, 0, none⟩ (.int .i64 (-1)) (by rw [hcr]; rfl)) (grownBy_putObj' _ D (.deferred none)) (fun r e => by cases e; exact ⟨_, hK', rfl⟩)
    have htop := topS_none HW.out (fun k hk => by
      have := hne (backAt ws HWK.out (ws.length - 1 - k)) (by simp only [upto, List.mem_map, List.mem_range]; exact ⟨ws.length - 1 - k, by omega, rfl⟩)
      simp only [backAt] at this
      rwa [show ws.length - 1 - (ws.length - 1 - k) = k by omega] at this)
    refine ⟨.int .i64 (-1), ?_, by rw [htop], Ext.of_below ((hB.setCell (p := ⟨w.heap.size, 0, none⟩) (Nat.le_refl _) _).trans (belowK_b (w := w) (Nat.le_refl _) _ D _ _ (by omega) hK' rfl rfl))⟩
    simp [results, Tryd.f10, go_sem, hc5]
  case stop =>
    rintro D c pre W hD ⟨k, hk, rfl⟩ ⟨⟨rfl, ini, last, e1, e2, e3, hcr⟩, hB⟩ hK
    gi_wp2
    refine ⟨by simp, .inl ⟨_, _, rfl, run_takeDeferred hK, ?_⟩⟩
    have hc5 := cell_kept hcr (grownBy_putObj' _ D (.deferred none)) (fun r e => by cases e; exact ⟨_, hK, rfl⟩)
    obtain ⟨k', rfl⟩ : ∃ k', k = k' + 1 := by
      cases k with
      | zero => simp [upto] at e1
      | succ k' => exact ⟨k', rfl⟩
    rw [upto_succ'] at e1
    obtain ⟨rfl, e5⟩ := List.append_inj' e1 rfl
    obtain rfl : backAt ws HWK.out k' = last := by simpa using e5
    have htop := topS_word HW.out (i := ws.length - 1 - k') (by omega) e3 (fun k hk1 hk2 => by
      have := e2 (backAt ws HWK.out (ws.length - 1 - k)) (by simp only [upto, List.mem_map, List.mem_range]; exact ⟨ws.length - 1 - k, by omega, rfl⟩)
      simp only [backAt] at this
      rwa [show ws.length - 1 - (ws.length - 1 - k) = k by omega] at this)
    refine ⟨_, ?_, congrArg (fun x => Ending.returned (.int .i64 x)) htop.symm, Ext.of_below (hB.trans (belowK_b (w := w) (Nat.le_refl _) W D _ _ (by omega) hK rfl rfl))⟩
    simp [results, Tryd.f10, go_sem, hc5, backAt]
end Go.Proofs.YtbbhbgccmekheaaDoor
