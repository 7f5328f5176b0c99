/- Rows: blocks of one-cell elements that are made and written in place. -/
import Derived.Test.YtkmnjccklnfcdaaLibOwn
namespace Bst
open Go Go.RowKit
set_option linter.unusedVariables false
theorem cell_blk {w : World} {b : Nat} {cs : Array Value} {t : TypeId} {f : Nat × Nat} (h : w.heap[b]? = some (.cells cs t f)) (i : Nat) : w.cell? ⟨b, i, none⟩ = cs[i]? := cell_of_row w b i cs t f h
theorem frozen_blk {w : World} {b : Nat} {cs : Array Value} {t : TypeId} (h : w.heap[b]? = some (.cells cs t (0, 0))) (i : Nat) : w.frozen? ⟨b, i, none⟩ = false := by
  simp [World.frozen?, h]
theorem set_blk {w : World} {b : Nat} {cs : Array Value} {t : TypeId} {f : Nat × Nat} (h : w.heap[b]? = some (.cells cs t f)) (i : Nat) (u : Value) : (w.setCell ⟨b, i, none⟩ u).heap[b]? = some (.cells (cs.setIfInBounds i u) t f) := by
  simp [World.setCell, Array.getElem?_modify, h]
theorem set_far {w : World} {b b' : Nat} {o : Obj} (h : w.heap[b]? = some o) (hne : b ≠ b') (i : Nat) (u : Value) : (w.setCell ⟨b', i, none⟩ u).heap[b]? = some o := by
  rw [← h]; simp [World.setCell, Array.getElem?_modify, Ne.symm hne]
theorem heap_lt {w : World} {b : Nat} {o : Obj} (h : w.heap[b]? = some o) : b < w.heap.size := (Array.getElem?_eq_some_iff.1 h).1
theorem ret_bool {a b : Bool} (h : a = b) : Ending.returned (.bool a) = .returned (.bool b) := by rw [h]
theorem ret_int {k : IntKind} {a b : Int} (h : a = b) : Ending.returned (.int k a) = .returned (.int k b) := by rw [h]

/-- Block g is just these, one cell each. -/
def Row {α : Type} (enc : α → Value) (w : World) (g : Nat) (l : List α) : Prop := ∃ t, w.heap[g]? = some (.cells (l.map enc).toArray t (0, 0))
abbrev encB : Bool → Value := Value.bool
def encU8 (x : UInt8) : Value := .int .u8 (x.toNat : Int)
def encI (x : Int) : Value := .int .i64 x
def encU64 (x : Nat) : Value := .int .u64 (x : Int)
section
variable {α : Type} {enc : α → Value} {w w' : World} {g : Nat} {l : List α} {F F' : List Nat}
theorem Row.keep (h : Row enc w g l) (k : Keep F w F' w') (hg : g ∉ F) : Row enc w' g l := by
  obtain ⟨t, h1⟩ := h
  exact ⟨t, by rw [k.block g (heap_lt h1) hg]; exact h1⟩
theorem Row.lt (h : Row enc w g l) : g < w.heap.size := by obtain ⟨t, h1⟩ := h; exact heap_lt h1
theorem Row.at_ (h : Row enc w g l) {k : Nat} (hk : k < l.length) :
    w.cell? ⟨g, k, none⟩ = some (enc l[k]) ∧ w.frozen? ⟨g, k, none⟩ = false ∧ ∀ x, Row enc (w.setCell ⟨g, k, none⟩ (enc x)) g (l.set k x) := by
  obtain ⟨t, h1⟩ := h
  refine ⟨?_, frozen_blk h1 k, fun x => ⟨t, ?_⟩⟩
  · rw [cell_blk h1 k]; simp [hk]
  · rw [set_blk h1]; congr 2; apply Array.ext'; simp [List.map_set]
theorem Row.new (w : World) (enc : α → Value) (l : List α) (t : TypeId) : Row enc (w.alloc (.cells (l.map enc).toArray t)) w.heap.size l := ⟨t, heap_alloc_new w _⟩
theorem Row.make (w : World) (enc : α → Value) (n : Nat) (x : α) (t : TypeId) : Row enc (w.alloc (.cells (Array.replicate n (enc x)) t)) w.heap.size (List.replicate n x) := by
  have := Row.new w enc (List.replicate n x) t
  rwa [List.map_replicate, List.toArray_replicate] at this
theorem Row.alloc (h : Row enc w g l) (o : Obj) : Row enc (w.alloc o) g l := h.keep ((Ext.alloc w o).keep []) (by simp)
theorem Row.sl {K : Kd α} (h : Row enc w g l) (hsz : K.sz = 1) (hR : ∀ x ∈ l, K.R F w [enc x] x) (hg : g ∉ F) (hl : l.length ≤ 140737488355328) {c : Nat} (hc : l.length ≤ c) : Sl K F w (some ⟨g, 0, none⟩) c l := by
  obtain ⟨t, h1⟩ := h
  refine ⟨hc, hl, fun _ => ⟨g, 0, rfl, heap_lt h1, hg, fun i x hx => ⟨[enc x], hR x (List.mem_of_getElem? hx), fun j u hu => ?_⟩⟩⟩
  have hj : j = 0 := by have := (List.getElem?_eq_some_iff.1 hu).1; simp at this; omega
  subst hj
  simp at hu
  rw [hsz, cell_blk h1]
  simp [hx, hu]
end
theorem Row.sl_u8 {w : World} {g : Nat} {l : List UInt8} {F : List Nat} {c : Nat} (h : Row encU8 w g l) (hg : g ∉ F) (hl : l.length ≤ 140737488355328) (hc : l.length ≤ c) : Sl Kd.u8 F w (some ⟨g, 0, none⟩) c l :=
  h.sl rfl (fun x _ => rfl) hg hl hc
theorem Row.sl_bool {w : World} {g : Nat} {l : List Bool} {F : List Nat} {c : Nat} (h : Row encB w g l) (hg : g ∉ F) (hl : l.length ≤ 140737488355328) (hc : l.length ≤ c) : Sl Kd.bool F w (some ⟨g, 0, none⟩) c l :=
  h.sl rfl (fun x _ => rfl) hg hl hc

section
variable {P : Program} {ops : Array Oper} {rest : List Oper} {o : Oper} {a : Act} {Q : Exit → Act → World → Prop}
/-- make([]T, n), elements of one cell. -/
theorem wp_make {t e : TypeId} {z : Value} {bytes : Nat} (et : ET P t e z 1 bytes) (hz1 : z.cells = #[z]) (hgd : o.guard = none) (l c : Operand) (ho : o.op = .makeSlice t l c) (w : World) {kl kc : IntKind} {N M : Int} (n : Nat)
    (hl : a.eval l = .int kl N) (hc : a.eval c = .int kc M) (hN : N = n) (hM : M = n) (hb : bytes * n ≤ 281474976710656) (hn : n ≤ 140737488355328)
    (h : wpList P ops Q rest (a.put o.dst (.slice (some ⟨w.heap.size, 0, none⟩) n n)) (w.alloc (.cells (Array.replicate n z) e))) : wpList P ops Q (o :: rest) a w := by
  refine wpList_plain hgd fun C hC => ?_
  obtain ⟨i, hi, hz, hsz, hby⟩ := et.hi
  subst hN; subst hM
  have hb' : (i.bytes : Int) * (n : Int) ≤ 281474976710656 := by
    have h : ((i.bytes * n : Nat) : Int) ≤ 281474976710656 := by rw [hby]; omega
    rwa [Int.natCast_mul] at h
  have hr := run_make (P := P) w t e i z et.ht hi hz kl kc n n (by omega) (Int.le_refl _) hb' (by omega)
  rw [hsz, hz1] at hr
  have e1 : madeCells #[z] ((n : Int).toNat * 1) = Array.replicate n z := by
    apply Array.ext'
    rw [toList_madeCells_one]; simp
  rw [e1] at hr
  simp only [Int.toNat_natCast] at hr
  unfold Oper.wp
  simp [execOp, ho, hl, hc, hr, Result.andThen]
  exact hC _ _ h
end
end Bst
