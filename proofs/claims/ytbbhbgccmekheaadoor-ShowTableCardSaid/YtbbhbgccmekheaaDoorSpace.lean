/- Contracts of package space. -/
import Derived.Test.YtbbhbgccmekheaaDoorProg
import Derived.Test.YtbbhbgccmekheaaDoorLib
import Derived.Test.YtbbhbgccmekheaaDoorSpaceP
import Derived.Test.YtbbhbgccmekheaaDoorLibRow
import Derived.Shelf.Spec.TrailingZeros
import Derived.Deep.QuietTactic
import Derived.BigQuiet
import Derived.Outline
import Derived.LoopTactic
namespace Go.Proofs.YtbbhbgccmekheaaDoor
open Go Go.RowKit Bst
set_option linter.unusedVariables false

/-- A space at block b, its words at block g; free: what is told of it. -/
structure SpaceRaw (w : World) (b g : Nat) (T : List Bool) (free : Int) : Prop where
  ne : b ≠ g
  size : T.length ≤ 16384
  blk : ∃ t n, n = (T.length + 63) / 64 ∧ w.heap[b]? = some (.cells #[.int .i64 (T.length : Int), .int .i64 free, .slice (some ⟨g, 0, none⟩) n n, .bool true] t (0, 0))
  words : ∃ ws t, w.heap[g]? = some (.cells (ws.map fun x : Nat => Value.int .u64 (x : Int)).toArray t (0, 0)) ∧ Words ws T
abbrev SpaceAt (w : World) (b g : Nat) (T : List Bool) : Prop := SpaceRaw w b g T (freeN T)
theorem SpaceRaw.keep {w w' : World} {b g : Nat} {T : List Bool} {free : Int} {F F' : List Nat} (h : SpaceRaw w b g T free) (k : Keep F w F' w') (hb : b ∉ F) (hg : g ∉ F) : SpaceRaw w' b g T free := by
  obtain ⟨t, n, hn, h1⟩ := h.blk
  obtain ⟨ws, t2, h2, h3⟩ := h.words
  have lt : ∀ {x : Nat} {o : Obj}, w.heap[x]? = some o → x < w.heap.size := fun e => (Array.getElem?_eq_some_iff.1 e).1
  exact ⟨h.ne, h.size, ⟨t, n, hn, by rw [k.block b (lt h1) hb]; exact h1⟩, ⟨ws, t2, by rw [k.block g (lt h2) hg]; exact h2, h3⟩⟩
theorem SpaceRaw.head {w : World} {b g : Nat} {T : List Bool} {free : Int} (h : SpaceRaw w b g T free) :
    w.cell? ⟨b, 0, none⟩ = some (.int .i64 (T.length : Int)) ∧ w.cell? ⟨b, 1, none⟩ = some (.int .i64 free) ∧ w.cell? ⟨b, 3, none⟩ = some (.bool true) ∧ w.frozen? ⟨b, 1, none⟩ = false := by
  obtain ⟨t, n, hn, hb⟩ := h.blk
  exact ⟨cell_blk hb 0, cell_blk hb 1, cell_blk hb 3, frozen_blk hb 1⟩
theorem SpaceRaw.word {w : World} {b g : Nat} {T : List Bool} {free : Int} (h : SpaceRaw w b g T free) (i : Nat) (hi : i < (T.length + 63) / 64) : ∃ n x : Nat,
    n = (T.length + 63) / 64 ∧ w.cell? ⟨b, 2, none⟩ = some (.slice (some ⟨g, 0, none⟩) n n) ∧ w.cell? ⟨g, i, none⟩ = some (.int .u64 (x : Int)) ∧ w.frozen? ⟨g, i, none⟩ = false ∧
    x < 18446744073709551616 ∧ (∀ j, j < 64 → x.testBit j = T.getD (64 * i + j) false) ∧
    (∀ k, k < T.length → k / 64 = i → SpaceRaw (w.setCell ⟨g, i, none⟩ (.int .u64 (bits .xor .u64 (x : Int) (IntKind.u64.wrap (2 ^ (k % 64)))))) b g (flip T k) free) := by
  obtain ⟨t, n, hn, hb⟩ := h.blk
  obtain ⟨ws, t2, hg, hw⟩ := h.words
  have hil : i < ws.length := by rw [hw.len]; exact hi
  have cg := cell_blk hg i
  have e1 : (ws.map fun x : Nat => Value.int .u64 (x : Int)).toArray[i]? = some (.int .u64 ((ws.getD i 0 : Nat) : Int)) := by
    simp [List.getD_eq_getElem?_getD, hil]
  refine ⟨n, ws.getD i 0, hn, cell_blk hb 2, cg.trans e1, frozen_blk hg _, hw.lt _ hil, hw.bit i hil, fun k hk hki => ?_⟩
  subst hki
  have e3 := xor_shl _ (k % 64) (hw.lt _ hil) (by omega)
  rw [e3]
  refine ⟨h.ne, by rw [flip_length]; exact h.size, ⟨t, n, by rw [flip_length]; exact hn, by rw [flip_length]; exact set_far hb h.ne _ _⟩, ⟨_, t2, ?_, hw.flip hk⟩⟩
  rw [set_blk hg]
  congr 2
  apply Array.ext'
  simp [List.map_set]
theorem SpaceRaw.refree {w : World} {b g : Nat} {T : List Bool} {free : Int} (h : SpaceRaw w b g T free) (f : Int) : SpaceRaw (w.setCell ⟨b, 1, none⟩ (.int .i64 f)) b g T f := by
  obtain ⟨t, n, hn, hb⟩ := h.blk
  obtain ⟨ws, t2, hg, hw⟩ := h.words
  exact ⟨h.ne, h.size, ⟨t, n, hn, by rw [set_blk hb]; rfl⟩, ⟨ws, t2, set_far hg (Ne.symm h.ne) _ _, hw⟩⟩

set_option maxHeartbeats 400000 in
theorem has_in (w : World) (b g : Nat) (T : List Bool) (free : Int) (h : SpaceRaw w b g T free) (k : Nat) (hk : k < T.length) :
    Calls Tryd.prog 21 #[.pointer (some ⟨b, 0, none⟩), .int .i64 (k : Int)] w fun e w' => e = .returned (.bool (!T.getD k false)) ∧ w = w' := by
  obtain ⟨c0, -, -, -⟩ := h.head
  have hs := h.size
  obtain ⟨n, x, hn, c2, cg, -, hx, hbit, -⟩ := h.word (k / 64) (by omega)
  have hn' : k / 64 < n := by omega
  have e2 : 64 * (k / 64) + k % 64 = k := by omega
  have hb := hbit (k % 64) (by omega)
  rw [e2] at hb
  have E := Lib.hid ((shr_and_one x (k % 64) hx).trans (congrArg _ hb))
  clear hb hn h hbit e2
  go_enter Tryd.func21, Tryd.ntmps21
  go_wp2
  go_ret
  exact ⟨ret_bool E.out, rfl⟩
theorem has_out (w : World) (b g : Nat) (T : List Bool) (free : Int) (h : SpaceRaw w b g T free) (k : Int) (hk : k < 0 ∨ (T.length : Int) ≤ k) :
    Calls Tryd.prog 21 #[.pointer (some ⟨b, 0, none⟩), .int .i64 k] w fun e w' => e = .returned (.bool false) ∧ w = w' := by
  obtain ⟨c0, -, -, -⟩ := h.head
  clear h
  by_cases h0 : k < 0
  · have h1 : decide (0 ≤ k) = false := by simp; omega
    clear hk
    go_enter Tryd.func21, Tryd.ntmps21
    go_wp2
    go_ret
    exact ⟨rfl, rfl⟩
  · have h1 : decide (0 ≤ k) = true := by simp; omega
    have h2 : (T.length : Int) ≤ k := by omega
    clear hk
    go_enter Tryd.func21, Tryd.ntmps21
    go_wp2
    go_ret
    exact ⟨rfl, rfl⟩
theorem has_nil (w : World) (k : Int) :
    Calls Tryd.prog 21 #[.pointer none, .int .i64 k] w fun e w' => e = .returned (.bool false) ∧ w = w' := by
  go_enter Tryd.func21, Tryd.ntmps21
  go_wp2
  go_ret
  exact ⟨rfl, rfl⟩
set_option maxHeartbeats 400000 in
theorem turn_ok (w : World) (b g : Nat) (T : List Bool) (h : SpaceAt w b g T) (k : Nat) (hk : k < T.length) :
    Calls Tryd.prog 35 #[.pointer (some ⟨b, 0, none⟩), .int .i64 (k : Int)] w fun e w' => e = .returned (.tuple #[]) ∧ SpaceAt w' b g (flip T k) ∧ Keep [b, g] w [b, g] w' := by
  obtain ⟨n, x, hn, c2, cg, fg, hx, -, hfl⟩ := h.word (k / 64) (by omega)
  have hs := h.size
  have hn' : k / 64 < n := by omega
  have hfree := freeN_flip T k hk
  have hle := freeN_le T
  have h1 := hfl k hk rfl
  have hk1 := Lib.hid (Keep.setCell [b, g] w ⟨g, k / 64, none⟩ (.int .u64 (bits .xor .u64 (x : Int) (IntKind.u64.wrap (2 ^ (k % 64))))) (by simp))
  have hflk := flip_getD T k k hk
  rw [if_pos rfl] at hflk
  have FL := Lib.hid hflk
  have FR := Lib.hid hfree
  have H1 := Lib.hid h1
  clear hfl hn h hfree h1 hflk
  go_enter Tryd.func35, Tryd.ntmps35
  go_wp2_with fail
  refine (has_in _ b g (flip T k) _ H1.out k (by rw [flip_length]; exact hk)).mono ?_
  rintro e w' ⟨rfl, rfl⟩
  rw [FL.out]
  obtain ⟨-, c1, -, f1⟩ := H1.out.head
  have h2 := H1.out.refree
  generalize w.setCell ⟨g, k / 64, none⟩ (.int .u64 (bits .xor .u64 (x : Int) (IntKind.u64.wrap (2 ^ (k % 64))))) = w1 at *
  have hkf : ∀ f, Keep [b, g] w [b, g] (w1.setCell ⟨b, 1, none⟩ (.int .i64 f)) := fun f => hk1.out.trans (Keep.setCell _ _ _ _ (by simp))
  have HK := Lib.hid hkf
  have H2 := Lib.hid h2
  clear H1 hk1 h2 hkf
  by_cases hT : T.getD k false = true
  · have FR' := Lib.hid (show (freeN (flip T k) : Int) = freeN T + 1 by have := FR.out; rw [if_pos hT] at this; exact this)
    rw [hT]
    clear hT
    go_wp2
    go_end0
    exact ⟨rfl, by rw [SpaceAt, FR'.out]; exact H2.out _, HK.out _⟩
  · have hT' : T.getD k false = false := by simpa using hT
    have FR' := Lib.hid (show (freeN (flip T k) : Int) = freeN T - 1 by have := FR.out; rw [if_neg hT] at this; exact this)
    rw [hT']
    clear hT hT'
    go_wp2
    go_end0
    exact ⟨rfl, by rw [SpaceAt, FR'.out]; exact H2.out _, HK.out _⟩

theorem et_int : ET Tryd.prog 31 3 (.int .i64 0) 1 8 := ⟨Tryd.underlying31, info_parts (by kernel_rfl), rfl, by decide⟩
theorem et_u8 : ET Tryd.prog 43 5 (.int .u8 0) 1 1 := ⟨Tryd.underlying43, info_parts (by kernel_rfl), rfl, by decide⟩
theorem et_u64 : ET Tryd.prog 63 69 (.int .u64 0) 1 8 := ⟨Tryd.underlying63, info_parts (by kernel_rfl), rfl, by decide⟩
theorem et_bool : ET Tryd.prog 30 4 (.bool false) 1 1 := ⟨Tryd.underlying30, info_parts (by kernel_rfl), rfl, by decide⟩
end Go.Proofs.YtbbhbgccmekheaaDoor
