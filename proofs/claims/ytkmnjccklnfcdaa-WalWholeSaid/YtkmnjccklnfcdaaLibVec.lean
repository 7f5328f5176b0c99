/- Many cells at once: an array or a struct loaded, stored; a block of which the first cells are known. -/
import Derived.Test.YtkmnjccklnfcdaaLibRow
import Derived.Test.YtkmnjccklnfcdaaPlainA
import Derived.Laws.CopyRow
import Derived.Laws.CopyOwn
namespace Bst
open Go Go.RowKit
set_option linter.unusedVariables false

theorem Ext.fresh1 {w w1 : World} (h : Ext w w1) {g : Nat} (hg : w.heap.size ≤ g) : Keep [] w [g] w1 :=
  ⟨h.os, h.tape, h.output, h.size, h.block, fun b hb => .inr (by rw [List.mem_singleton.1 hb]; exact hg)⟩
theorem Ext.freshF {w w1 : World} (h : Ext w w1) {F : List Nat} (hg : ∀ b ∈ F, w.heap.size ≤ b) : Keep [] w F w1 :=
  ⟨h.os, h.tape, h.output, h.size, h.block, fun b hb => .inr (hg b hb)⟩
theorem Keep.toExt {w w1 : World} {F : List Nat} (h : Keep [] w F w1) : Ext w w1 := ⟨h.os, h.tape, h.output, h.size, h.block, fun _ hb => by cases hb⟩
/-- Block g begins with these, one cell each. -/
def Pre {α : Type} (enc : α → Value) (w : World) (g : Nat) (l : List α) : Prop := ∃ t rest, w.heap[g]? = some (.cells (l.map enc ++ rest).toArray t (0, 0))
section
variable {α : Type} {enc : α → Value} {w w' : World} {g : Nat} {l : List α} {F F' : List Nat}
theorem Pre.keep (h : Pre enc w g l) (k : Keep F w F' w') (hg : g ∉ F) : Pre enc w' g l := by
  obtain ⟨t, rest, h1⟩ := h
  exact ⟨t, rest, by rw [k.block g (heap_lt h1) hg]; exact h1⟩
theorem Pre.lt (h : Pre enc w g l) : g < w.heap.size := by obtain ⟨t, rest, h1⟩ := h; exact heap_lt h1
theorem Row.pre (h : Row enc w g l) : Pre enc w g l := by obtain ⟨t, h1⟩ := h; exact ⟨t, [], by rw [List.append_nil]; exact h1⟩
theorem Pre.cell (h : Pre enc w g l) {k : Nat} {v : Value} (hk : (l.map enc)[k]? = some v) : w.cell? ⟨g, k, none⟩ = some v := by
  obtain ⟨t, rest, h1⟩ := h
  rw [cell_blk h1]
  have := (List.getElem?_eq_some_iff.1 hk).1
  simp only [List.getElem?_toArray]
  rw [List.getElem?_append_left this]; exact hk
theorem Pre.frozen (h : Pre enc w g l) (k : Nat) : w.frozen? ⟨g, k, none⟩ = false := by obtain ⟨t, rest, h1⟩ := h; exact frozen_blk h1 k
theorem Pre.set (h : Pre enc w g l) {k : Nat} (hk : k < l.length) (x : α) : Pre enc (w.setCell ⟨g, k, none⟩ (enc x)) g (l.set k x) := by
  obtain ⟨t, rest, h1⟩ := h
  refine ⟨t, rest, ?_⟩
  rw [set_blk h1]
  congr 2
  apply Array.ext'
  simp only [Array.toList_setIfInBounds]
  rw [List.set_append, if_pos (by simpa using hk), List.map_set]
end

section
variable {P : Program}
/-- A load of many cells. -/
theorem run_load_many (w : World) (a : Addr) (ty : TypeId) (cs : List Value) (d : TypeDesc) (hc : ∀ j v, cs[j]? = some v → w.cell? (a.add j) = some v)
    (hu : P.underlying ty = some d) (hd : (match d with | .struct _ | .array _ _ => true | _ => false) = true) (hi : (P.info? ty).map (·.size) = some cs.length) :
    (loadVar ty a).run P w = .ok (.agg cs.toArray) w := by
  have hl := run_loadCells_list (P := P) w a cs hc
  cases hq : P.info? ty with
  | none => simp [hq] at hi
  | some i =>
    have hs : i.size = cs.length := by simpa [hq] using hi
    have hagg : (isAgg ty).run P w = .ok true w := by
      unfold isAgg
      rw [Sem.run_bind, run_underlying hu w]
      cases d <;> simp_all
    simp [loadVar, Sem.run_bind, hagg, Go.sizeOf, typeInfo, hq, hs, hl]
/-- A store of many cells. -/
theorem run_store_many (w : World) (g o : Nat) (t ty : TypeId) (cur cells : List Value) (hg : w.heap[g]? = some (.cells cur.toArray t (0, 0))) (hi : (P.info? ty).map (·.size) = some cells.length)
    (ho : o + cells.length ≤ cur.length) (h1 : ∀ v ∈ cells, v.oneCell' = true) :
    ∃ w', (storeVar ty ⟨g, o, none⟩ (.agg cells.toArray)).run P w = .ok () w' ∧ w'.heap[g]? = some (.cells (putAt cur o cells).toArray t (0, 0)) ∧ Keep [g] w [g] w' := by
  have := run_storeCells_at (P := P) g o t cells 0 cur.toArray w hg (by simpa using ho) h1
  refine ⟨w.setRow g (cur.take o ++ cells ++ cur.drop (o + cells.length)).toArray, ?_, ?_, ?_⟩
  · cases hq : P.info? ty with
    | none => simp [hq] at hi
    | some i =>
      have hs : i.size = cells.length := by simpa [hq] using hi
      simp only [Nat.add_zero] at this
      simp [storeVar, Go.sizeOf, typeInfo, hq, Value.cells, hs, this]
  · exact setRow_heap w g _ _ t _ hg
  · refine ⟨rfl, rfl, rfl, by simp, fun k hk hF => ?_, fun b hb => .inl hb⟩
    simp only [World.setRow, Array.getElem?_modify]
    rw [if_neg (fun e => hF (by simp [e]))]
end
section
variable {P : Program} {ops : Array Oper} {rest : List Oper} {o : Oper} {a : Act} {Q : Exit → Act → World → Prop}
theorem wp_load_many (hgd : o.guard = none) (ty : TypeId) (x : Operand) (ho : o.op = .load ty x) (w : World) (ad : Addr) (hx : a.eval x = .pointer (some ad)) (cs : List Value) (d : TypeDesc)
    (hc : ∀ j v, cs[j]? = some v → w.cell? (ad.add j) = some v)
    (hu : P.underlying ty = some d) (hd : (match d with | .struct _ | .array _ _ => true | _ => false) = true) (hi : (P.info? ty).map (·.size) = some cs.length)
    (h : wpList P ops Q rest (a.put o.dst (.agg cs.toArray)) w) : wpList P ops Q (o :: rest) a w :=
  wpList_plain hgd fun _ hK => by
    unfold Oper.wp execOp
    simp only [ho, hx, Instr.loadAt, Instr.sureAddr, Sem.run_bind, Sem.run_pure, Result.andThen_ok, run_load_many w ad ty cs d hc hu hd hi]
    exact hK _ _ h
theorem wp_store_many (hgd : o.guard = none) (ty : TypeId) (x y : Operand) (ho : o.op = .store ty x y) (w : World) (g q : Nat) (hx : a.eval x = .pointer (some ⟨g, q, none⟩)) (cells cur : List Value) (hy : a.eval y = .agg cells.toArray)
    (t : TypeId) (hg : w.heap[g]? = some (.cells cur.toArray t (0, 0))) (hi : (P.info? ty).map (·.size) = some cells.length)
    (hq : q + cells.length ≤ cur.length) (h1 : ∀ v ∈ cells, v.oneCell' = true)
    (h : ∀ w', w'.heap[g]? = some (.cells (putAt cur q cells).toArray t (0, 0)) → Keep [g] w [g] w' → wpList P ops Q rest (a.put o.dst undef) w') : wpList P ops Q (o :: rest) a w :=
  wpList_plain hgd fun _ hK => by
    obtain ⟨w', hr, h2, h3⟩ := run_store_many (P := P) w g q t ty cur cells hg hi hq h1
    unfold Oper.wp execOp
    simp only [ho, hx, hy, Instr.storeAt, Instr.sureAddr, Sem.run_bind, Sem.run_pure, Result.andThen_ok, hr]
    exact hK _ _ (h w' h2 h3)
end
/-- An array, cell by cell. -/
def Kd.vec (n : Nat) : Kd (List UInt8) where
  sz := n
  R _ _ cs l := cs = l.map encU8 ∧ l.length = n
  len h := by rw [h.1, List.length_map, h.2]
  one h := by rw [h.1]; intro u hu; obtain ⟨x, _, rfl⟩ := List.mem_map.1 hu; rfl
  ext h _ := h
theorem putAt_map {α β : Type} (f : α → β) (l : List α) (o : Nat) (s : List α) : (putAt l o s).map f = putAt (l.map f) o (s.map f) := by
  simp [putAt, List.map_take, List.map_drop]
theorem putAt_append {α : Type} {l r : List α} {o : Nat} {s : List α} (h : o + s.length ≤ l.length) : putAt (l ++ r) o s = putAt l o s ++ r := by
  unfold putAt
  rw [List.take_append_of_le_length (by omega), List.drop_append_of_le_length h]
  simp
section
variable {P : Program} {ops : Array Oper} {rest : List Oper} {o : Oper} {a : Act} {Q : Exit → Act → World → Prop}
/-- copy of bytes into a part of a block. -/
theorem wp_copy8 (hgd : o.guard = none) (d s : Operand) (dT sT e : TypeId) (ho : o.op = .call { callee := .builtin .copy, args := #[d, s], argTypes := #[dT, sT] })
    (hu : P.underlying dT = some (.slice e)) (hsz : (P.info? e).map (·.size) = some 1) (w : World) (g q dLen dCap : Nat) (A : Option Addr) (c : Nat) (F : List Nat) (l src : List UInt8)
    (hd : a.eval d = .slice (some ⟨g, q, none⟩) dLen dCap) (hs : a.eval s = .slice A src.length c) (hsl : Sl Kd.u8 F w A c src) (hp : Pre encU8 w g l) (hfit : q + min src.length dLen ≤ l.length)
    (h : ∀ w', Pre encU8 w' g (putAt l q (src.take dLen)) → Keep [g] w [g] w' → wpList P ops Q rest (a.put o.dst (.int .i64 ((min src.length dLen : Nat) : Int))) w') : wpList P ops Q (o :: rest) a w := by
  have hmin : (src.take dLen).length = min src.length dLen := by rw [List.length_take]; omega
  by_cases h0 : min src.length dLen = 0
  · refine wpList_copy_nothing hgd d s dT sT ho e hu hsz _ _ dLen dCap src.length c hd hs h0 ?_
    have e0 : src.take dLen = [] := List.eq_nil_of_length_eq_zero (by rw [hmin, h0])
    have := h w (by rw [e0]; simpa [putAt] using hp) (Keep.refl _ _)
    rw [h0] at this
    exact this
  · obtain ⟨t, more, hg⟩ := hp
    obtain ⟨g2, o2, rfl, _, _, hc⟩ := hsl.2.2 (by omega)
    have hcell : ∀ j v, ((src.take dLen).map encU8)[j]? = some v → w.cell? ((⟨g2, o2, none⟩ : Addr).add j) = some v := by
      intro j v hv
      rw [List.getElem?_map, List.getElem?_take] at hv
      split at hv
      · cases hx : src[j]? with
        | none => rw [hx] at hv; cases hv
        | some x =>
          rw [hx] at hv
          obtain ⟨cs, rfl, hcs⟩ := hc j x hx
          have := hcs 0 _ rfl
          rw [Addr.add_lit]
          simp at hv; rw [← hv]
          simpa [Kd.u8, encU8] using this
      · cases hv
    refine wpList_copy_own hgd d s dT sT ho e hu hsz g q dLen dCap ⟨g2, o2, none⟩ src.length c hd hs (l.map encU8 ++ more).toArray t hg ((src.take dLen).map encU8) (by rw [List.length_map, hmin]) hcell (by simp; omega) (by intro v hv; obtain ⟨x, _, rfl⟩ := List.mem_map.1 hv; rfl) ?_
    have hlen : ((src.take dLen).map encU8).length = min src.length dLen := by rw [List.length_map, hmin]
    rw [hlen]
    refine h _ ⟨t, more, ?_⟩ ?_
    · rw [setRow_heap w g _ _ t _ hg]
      congr 2
      rw [putAt_map, List.toList_toArray]
      have := putAt_append (r := more) (l := l.map encU8) (o := q) (s := (src.take dLen).map encU8) (by rw [hlen, List.length_map]; exact hfit)
      rw [← this]
      unfold putAt
      rw [hlen, List.append_assoc]
    · refine ⟨rfl, rfl, rfl, by simp, fun k hk hF => ?_, fun b hb => .inl hb⟩
      simp only [World.setRow, Array.getElem?_modify]
      rw [if_neg (fun e => hF (by simp [e]))]
end
section
variable {P : Program} {ops : Array Oper} {rest : List Oper} {o : Oper} {a : Act} {Q : Exit → Act → World → Prop}
/-- A variable of many cells. -/
theorem wp_alloc_many (hgd : o.guard = none) (ty : TypeId) (ho : o.op = .alloc ty) (w : World) (zs : List Value) (hz : ∀ w : World, (zeroValue ty).run P w = .ok (.agg zs.toArray) w)
    (h : wpList P ops Q rest (a.put o.dst (.pointer (some ⟨w.heap.size, 0, none⟩))) (w.alloc (.cells zs.toArray ty))) : wpList P ops Q (o :: rest) a w :=
  wpList_plain hgd fun _ hK => by
    unfold Oper.wp execOp
    simp [ho, Instr.alloc, hz, newVar, Value.cells, Result.andThen]
    exact hK _ _ h
/-- .. and what goes into it at once. -/
theorem wp_store_new (hgd : o.guard = none) (ty : TypeId) (x y : Operand) (ho : o.op = .store ty x y) (w : World) (zs cells : List Value) (t : TypeId) {N : Nat} (hN : N = w.heap.size) (hx : a.eval x = .pointer (some ⟨N, 0, none⟩)) (hy : a.eval y = .agg cells.toArray)
    (hi : (P.info? ty).map (·.size) = some cells.length) (hl : zs.length = cells.length) (h1 : ∀ v ∈ cells, v.oneCell' = true)
    (h : ∀ w', w'.heap[w.heap.size]? = some (.cells cells.toArray t (0, 0)) → Ext w w' → w.heap.size < w'.heap.size → wpList P ops Q rest (a.put o.dst undef) w') : wpList P ops Q (o :: rest) a (w.alloc (.cells zs.toArray t)) := by
  subst hN
  refine wp_store_many hgd ty x y ho (w.alloc (.cells zs.toArray t)) w.heap.size 0 hx cells zs hy t (heap_alloc_new w _) hi (by omega) h1 (fun w' h2 h3 => ?_)
  have e : putAt zs 0 cells = cells := by simp [putAt, ← hl]
  rw [e] at h2
  refine h w' h2 ?_ ?_
  · exact (((Ext.alloc w _).fresh1 (Nat.le_refl _)).trans h3).toExt
  · exact Nat.lt_of_lt_of_le (by simp) h3.size
/-- A variable of many cells is laid, and filled at once. -/
theorem wp_var_many {o2 : Oper} (hg1 : o.guard = none) (hg2 : o2.guard = none) (ty : TypeId) (ho1 : o.op = .alloc ty) (x y : Operand) (ho2 : o2.op = .store ty x y) (w : World) (zs cells : List Value) (hz : ∀ w : World, (zeroValue ty).run P w = .ok (.agg zs.toArray) w)
    (hx : (a.put o.dst (.pointer (some ⟨w.heap.size, 0, none⟩))).eval x = .pointer (some ⟨w.heap.size, 0, none⟩)) (hy : (a.put o.dst (.pointer (some ⟨w.heap.size, 0, none⟩))).eval y = .agg cells.toArray)
    (hi : (P.info? ty).map (·.size) = some cells.length) (hl : zs.length = cells.length) (h1 : ∀ v ∈ cells, v.oneCell' = true)
    (h : ∀ w', w'.heap[w.heap.size]? = some (.cells cells.toArray ty (0, 0)) → Ext w w' → w.heap.size < w'.heap.size → wpList P ops Q rest ((a.put o.dst (.pointer (some ⟨w.heap.size, 0, none⟩))).put o2.dst undef) w') : wpList P ops Q (o :: o2 :: rest) a w :=
  wp_alloc_many hg1 ty ho1 w zs hz (wp_store_new hg2 ty x y ho2 w zs cells ty rfl hx hy hi hl h1 h)
end
end Bst
