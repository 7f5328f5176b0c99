/- Words for memory: what a state keeps, how data lie in cells, slices that are read, slices that are owned. -/
import Derived.WalkKit
import Derived.Lib.Hide
import Derived.Deep.Draws
import Derived.Deep.DeepMust
namespace Bst
open Go Go.RowKit
set_option linter.unusedVariables false

theorem getElem?_some_of_lt {α : Type} {l : List α} {i : Nat} (h : i < l.length) : l[i]? = some l[i] := List.getElem?_eq_getElem h

/-- From a state (F: the blocks that may change; w) to a later one. -/
structure Keep (F : List Nat) (w : World) (F' : List Nat) (w' : World) : Prop where
  os : w'.os = w.os
  tape : w'.tape = w.tape
  output : w'.output = w.output
  size : w.heap.size ≤ w'.heap.size
  block : ∀ k, k < w.heap.size → k ∉ F → w'.heap[k]? = w.heap[k]?
  fresh : ∀ b, b ∈ F' → b ∈ F ∨ w.heap.size ≤ b

/-- Nothing that was there has changed. -/
abbrev Ext (w w' : World) : Prop := Keep [] w [] w'

theorem Keep.refl (F : List Nat) (w : World) : Keep F w F w := ⟨rfl, rfl, rfl, Nat.le_refl _, fun _ _ _ => rfl, fun _ h => .inl h⟩
theorem Keep.trans {F F1 F2 : List Nat} {w w1 w2 : World} (h : Keep F w F1 w1) (k : Keep F1 w1 F2 w2) : Keep F w F2 w2 := by
  refine ⟨k.os.trans h.os, k.tape.trans h.tape, k.output.trans h.output, Nat.le_trans h.size k.size, fun b hb hF => ?_, fun b hb => ?_⟩
  · rw [k.block b (Nat.lt_of_lt_of_le hb h.size) (fun hm => by rcases h.fresh b hm with h1 | h1; exact hF h1; omega)]
    exact h.block b hb hF
  · rcases k.fresh b hb with h1 | h1
    · exact h.fresh b h1
    · exact .inr (Nat.le_trans h.size h1)
theorem Keep.sub {F F' : List Nat} (w : World) (h : ∀ b, b ∈ F' → b ∈ F) : Keep F w F' w := ⟨rfl, rfl, rfl, Nat.le_refl _, fun _ _ _ => rfl, fun b hb => .inl (h b hb)⟩
theorem Keep.nil {F : List Nat} (w : World) : Keep F w [] w := Keep.sub w (fun _ h => by cases h)
theorem Ext.keep {w w' : World} (h : Ext w w') (F : List Nat) : Keep F w F w' := ⟨h.os, h.tape, h.output, h.size, fun b hb _ => h.block b hb (by simp), fun _ hb => .inl hb⟩
theorem Ext.refl (w : World) : Ext w w := Keep.refl [] w
theorem Ext.trans {a b c : World} (h : Ext a b) (k : Ext b c) : Ext a c := Keep.trans h k
theorem Ext.below {w w' : World} (h : Ext w w') : Below w.heap.size w w' := ⟨h.os, h.tape, h.output, h.size, fun b hb => h.block b hb (by simp)⟩
theorem Ext.of_below {w w' : World} (h : Below w.heap.size w w') : Ext w w' := ⟨h.os, h.tape, h.output, h.size, fun b hb _ => h.block b hb, fun _ hb => .inl hb⟩
theorem Ext.drew (w : World) : Ext w w.drew := ⟨rfl, rfl, rfl, Nat.le_refl _, fun _ _ _ => rfl, fun _ h => .inl h⟩
theorem Ext.drewN (w : World) (n : Nat) : Ext w (w.drewN n) := ⟨rfl, rfl, rfl, Nat.le_refl _, fun _ _ _ => rfl, fun _ h => .inl h⟩
theorem Ext.alloc (w : World) (o : Obj) : Ext w (w.alloc o) :=
  ⟨rfl, rfl, rfl, by simp, fun k hk _ => Below.heap_alloc _ _ _ hk, fun _ h => .inl h⟩
theorem Keep.ext {F F' : List Nat} {w w' : World} (h : Keep F w F' w') (hF : ∀ b, b ∈ F → w.heap.size ≤ b) : Ext w w' :=
  ⟨h.os, h.tape, h.output, h.size, fun b hb _ => h.block b hb (fun hm => by have := hF b hm; omega), fun _ hb => by cases hb⟩
theorem Keep.grown {w w' : World} {row : Option Nat} (hg : w.grownBy w' row) {F F' : List Nat} (hr : ∀ k, row = some k → k ∈ F) (hf : ∀ b, b ∈ F' → b ∈ F ∨ w.heap.size ≤ b) : Keep F w F' w' :=
  ⟨hg.os, hg.tape, hg.output, hg.size, fun k hk hF => hg.block k hk (fun e => hF (hr k e.symm)), hf⟩
theorem Ext.grown {w w' : World} (hg : w.grownBy w' none) : Ext w w' := Keep.grown hg (fun _ h => by cases h) (fun _ h => .inl h)
theorem Keep.setCell (F : List Nat) (w : World) (p : Addr) (u : Value) (h : p.block ∈ F) : Keep F w F (w.setCell p u) :=
  ⟨rfl, rfl, rfl, by simp [World.setCell], fun k hk hF => Below.heap_setCell _ _ _ _ (fun e => hF (e ▸ h)), fun _ hb => .inl hb⟩
theorem Keep.cell {F F' : List Nat} {w w' : World} (h : Keep F w F' w') {p : Addr} (hp : p.block < w.heap.size) (hF : p.block ∉ F) : w'.cell? p = w.cell? p :=
  World.cell?_of_block (h.block p.block hp hF)
theorem Keep.cell_some {F F' : List Nat} {w w' : World} (h : Keep F w F' w') {p : Addr} {v : Value} (hc : w.cell? p = some v) (hF : p.block ∉ F) : w'.cell? p = some v :=
  (h.cell (World.block_lt_of_cell? w p hc) hF).trans hc

theorem Keep.widen {G F : List Nat} {w w' : World} (h : Keep G w G w') (hs : ∀ b, b ∈ G → b ∈ F) : Keep F w F w' :=
  ⟨h.os, h.tape, h.output, h.size, fun k hk hF => h.block k hk (fun hm => hF (hs k hm)), fun _ hb => .inl hb⟩
/-- The length that a slice's value bears. -/
def lenOf : Value → Nat | .slice _ n _ => n | _ => 0
/-- How a datum lies in cells: its places are below the heap's size and outside of F. -/
structure Kd (α : Type) where
  sz : Nat
  R : List Nat → World → List Value → α → Prop
  len : ∀ {F w cs a}, R F w cs a → cs.length = sz
  one : ∀ {F w cs a}, R F w cs a → ∀ u ∈ cs, u.oneCell' = true
  ext : ∀ {F F' w w' cs a}, R F w cs a → Keep F w F' w' → R F' w' cs a

def InI64 (n : Int) : Prop := -9223372036854775808 ≤ n ∧ n ≤ 9223372036854775807
theorem InI64.of {n : Int} (h0 : -1000000000000000000 ≤ n) (h1 : n ≤ 1000000000000000000) : InI64 n := by unfold InI64; omega

def Kd.int : Kd Int where
  sz := 1
  R _ _ cs n := cs = [.int .i64 n] ∧ InI64 n
  len h := by rw [h.1]; rfl
  one h := by rw [h.1]; simp [Value.oneCell']
  ext h _ := h
def Kd.u8 : Kd UInt8 where
  sz := 1
  R _ _ cs n := cs = [.int .u8 (n.toNat : Int)]
  len h := by rw [h]; rfl
  one h := by rw [h]; simp [Value.oneCell']
  ext h _ := h
def Kd.bool : Kd Bool where
  sz := 1
  R _ _ cs b := cs = [.bool b]
  len h := by rw [h]; rfl
  one h := by rw [h]; simp [Value.oneCell']
  ext h _ := h
def Kd.u64 : Kd Nat where
  sz := 1
  R _ _ cs n := cs = [.int .u64 (n : Int)] ∧ n < 18446744073709551616
  len h := by rw [h.1]; rfl
  one h := by rw [h.1]; simp [Value.oneCell']
  ext h _ := h
def Kd.str : Kd ByteArray where
  sz := 1
  R _ _ cs s := cs = [.string s] ∧ s.size ≤ 140737488355328
  len h := by rw [h.1]; rfl
  one h := by rw [h.1]; simp [Value.oneCell']
  ext h _ := h
def Kd.pair {α β : Type} (K : Kd α) (L : Kd β) : Kd (α × β) where
  sz := K.sz + L.sz
  R F w cs x := ∃ c d, cs = c ++ d ∧ K.R F w c x.1 ∧ L.R F w d x.2
  len h := by obtain ⟨c, d, rfl, h1, h2⟩ := h; rw [List.length_append, K.len h1, L.len h2]
  one h := by
    obtain ⟨c, d, rfl, h1, h2⟩ := h
    intro u hu
    rcases List.mem_append.1 hu with h | h
    · exact K.one h1 u h
    · exact L.one h2 u h
  ext h k := by obtain ⟨c, d, e, h1, h2⟩ := h; exact ⟨c, d, e, K.ext h1 k, L.ext h2 k⟩
def Kd.iso {α β : Type} (K : Kd α) (f : β → α) : Kd β where
  sz := K.sz
  R F w cs x := K.R F w cs (f x)
  len h := K.len h
  one h := K.one h
  ext h k := K.ext h k

/-- A slice that reads as a list. -/
def Sl {α : Type} (K : Kd α) (F : List Nat) (w : World) (A : Option Addr) (c : Nat) (l : List α) : Prop :=
  l.length ≤ c ∧ l.length ≤ 140737488355328 ∧ (0 < l.length → ∃ g o, A = some ⟨g, o, none⟩ ∧ g < w.heap.size ∧ g ∉ F ∧
    ∀ i x, l[i]? = some x → ∃ cs, K.R F w cs x ∧ ∀ j u, cs[j]? = some u → w.cell? ⟨g, o + (i * K.sz + j), none⟩ = some u)
section
variable {α : Type} {K : Kd α} {F F' : List Nat} {w w' : World} {A : Option Addr} {c : Nat} {l : List α}
theorem Sl.ext (h : Sl K F w A c l) (k : Keep F w F' w') : Sl K F' w' A c l := by
  refine ⟨h.1, h.2.1, fun hn => ?_⟩
  obtain ⟨g, o, rfl, hg, hgF, hc⟩ := h.2.2 hn
  refine ⟨g, o, rfl, Nat.lt_of_lt_of_le hg k.size, fun hm => ?_, fun i x hx => ?_⟩
  · rcases k.fresh g hm with h1 | h1
    · exact hgF h1
    · omega
  · obtain ⟨cs, hR, hcell⟩ := hc i x hx
    exact ⟨cs, K.ext hR k, fun j u hu => k.cell_some (hcell j u hu) hgF⟩
theorem Sl.nil (K : Kd α) (F : List Nat) (w : World) (A : Option Addr) (c : Nat) : Sl K F w A c [] := ⟨Nat.zero_le _, Nat.zero_le _, fun h => absurd h (Nat.lt_irrefl _)⟩
theorem Sl.len_le (h : Sl K F w A c l) : l.length ≤ 140737488355328 := h.2.1
theorem Sl.cap (h : Sl K F w A c l) : l.length ≤ c := h.1
end
def Kd.slice {α : Type} (K : Kd α) : Kd (List α) where
  sz := 1
  R F w cs l := ∃ A c, cs = [.slice A l.length c] ∧ Sl K F w A c l
  len h := by obtain ⟨_, _, rfl, _⟩ := h; rfl
  one h := by obtain ⟨_, _, rfl, _⟩ := h; simp [Value.oneCell']
  ext h k := by obtain ⟨A, c, e, h⟩ := h; exact ⟨A, c, e, h.ext k⟩

theorem Sl.int_at {F : List Nat} {w : World} {A : Option Addr} {c : Nat} {l : List Int} (h : Sl Kd.int F w A c l) {k : Nat} (hk : k < l.length) :
    ∃ g o, A = some ⟨g, o, none⟩ ∧ w.cell? ⟨g, o + k, none⟩ = some (.int .i64 l[k]) ∧ InI64 l[k] := by
  obtain ⟨g, o, rfl, _, _, hc⟩ := h.2.2 (by omega)
  obtain ⟨cs, ⟨rfl, hi⟩, hcell⟩ := hc k _ (getElem?_some_of_lt hk)
  exact ⟨g, o, rfl, by simpa [Kd.int] using hcell 0 _ rfl, hi⟩
theorem Sl.u8_at {F : List Nat} {w : World} {A : Option Addr} {c : Nat} {l : List UInt8} (h : Sl Kd.u8 F w A c l) {k : Nat} (hk : k < l.length) :
    ∃ g o, A = some ⟨g, o, none⟩ ∧ w.cell? ⟨g, o + k, none⟩ = some (.int .u8 (l[k].toNat : Int)) := by
  obtain ⟨g, o, rfl, _, _, hc⟩ := h.2.2 (by omega)
  obtain ⟨cs, rfl, hcell⟩ := hc k _ (getElem?_some_of_lt hk)
  exact ⟨g, o, rfl, by simpa [Kd.u8] using hcell 0 _ rfl⟩
theorem Sl.bool_at {F : List Nat} {w : World} {A : Option Addr} {c : Nat} {l : List Bool} (h : Sl Kd.bool F w A c l) {k : Nat} (hk : k < l.length) :
    ∃ g o, A = some ⟨g, o, none⟩ ∧ w.cell? ⟨g, o + k, none⟩ = some (.bool l[k]) := by
  obtain ⟨g, o, rfl, _, _, hc⟩ := h.2.2 (by omega)
  obtain ⟨cs, rfl, hcell⟩ := hc k _ (getElem?_some_of_lt hk)
  exact ⟨g, o, rfl, by simpa [Kd.bool] using hcell 0 _ rfl⟩
end Bst
