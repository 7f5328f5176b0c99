/- A struct of one cell and a row of cells, built at once; a slice literal of one such. -/
import Derived.Test.YtkmnjccklnfcdaaLibVec
import Derived.Laws.Tables
import Derived.Great.BuildSlice
import Derived.Deep.MidRow
namespace Bst
open Go Go.RowKit
set_option linter.unusedVariables false

theorem fill_one_step (z : Array Value) (off : Nat) (cs : Array Value) (h : off + cs.size ≤ z.size) :
    (cs.zipIdx.foldl (fun cs (x : Value × Nat) => cs.setIfInBounds (off + x.2) x.1) z) = (putAt z.toList off cs.toList).toArray := by
  rw [← Array.foldl_toList, Array.toList_zipIdx]
  obtain ⟨h1, h2⟩ := Great.foldl_set off cs.toList 0 z
  apply Array.ext'
  apply List.ext_getElem?
  intro k
  rw [Array.getElem?_toList, h2]
  unfold putAt
  simp only [List.getElem?_append, List.length_append, List.length_take, Array.length_toList, List.getElem?_take, List.getElem?_drop, Array.getElem?_toList]
  have hm : min off z.size = off := by omega
  rw [hm]
  by_cases c1 : k < off
  · rw [if_neg (by omega), if_pos (by omega), if_pos c1]
    rw [if_pos c1]
  · by_cases c2 : k < off + cs.size
    · rw [if_pos (by omega), if_pos (by omega), if_neg (by omega)]
      rfl
    · rw [if_neg (by omega), if_neg (by omega)]
      congr 1; omega
theorem fill_pair (z : Array Value) (a : Value) (ha : a.cells = #[a]) (cs : List Value) (hz : z.size = cs.length + 1) (place : Nat → Option (Nat × Nat)) (h0 : place 0 = some (0, 1)) (h1 : place 1 = some (1, cs.length)) :
    Instr.fill place z [(0, a), (1, .agg cs.toArray)] = some (a :: cs).toArray := by
  obtain ⟨zl, rfl⟩ : ∃ l : List Value, z = l.toArray := ⟨z.toList, by simp⟩
  match zl, hz with
  | x :: r, hz =>
    have hr : r.length = cs.length := by simpa using hz
    have e1 := fill_one_step (x :: r).toArray 0 #[a] (by simp)
    have e2 := fill_one_step (a :: r).toArray 1 cs.toArray (by simp; omega)
    have p1 : putAt (x :: r) 0 [a] = a :: r := by simp [putAt]
    have p2 : putAt (a :: r) 1 cs = a :: cs := by simp [putAt, hr]; omega
    rw [p1] at e1
    rw [p2] at e2
    simp only [Instr.fill, h0, h1, ha]
    rw [if_neg (by simp)]
    rw [e1]
    have hc : (Value.agg cs.toArray).cells = cs.toArray := rfl
    rw [hc, if_neg (by simp; omega), e2]
theorem built_pair {P : Program} {T : TypeId} {fields : Array Field} {it : TypeInfo} {z : Value} (hi : P.info? T = some it) (hu : P.underlying T = some (.struct fields)) (hz : it.zero = some z) (a : Value) (ha : a.cells = #[a]) (cs : List Value) (hzs : z.cells.size = cs.length + 1)
    (hp : fields.toList.mapM (fun f => (P.info? f.type).map fun i => (f.offset, i.size)) = some [(0, 1), (1, cs.length)]) :
    P.built T [(0, a), (1, .agg cs.toArray)] = some (a :: cs).toArray := by
  unfold Program.built
  rw [hi, hu]
  simp only [hz, hp]
  exact fill_pair _ a ha cs hzs _ rfl rfl
section
variable {P : Program} {ops : Array Oper} {rest : List Oper} {o : Oper} {a : Act} {Q : Exit → Act → World → Prop}
theorem wp_build_two (hg : o.guard = none) (t : TypeId) (x y : Operand) (ho : o.op = .build t #[(0, x), (1, y)]) (w : World) (u v : Value) (hx : a.eval x = u) (hy : a.eval y = v) (cells : Array Value)
    (hf : P.built t [(0, u), (1, v)] = some cells)
    (h : wpList P ops Q rest (a.put o.dst (.agg cells)) w) : wpList P ops Q (o :: rest) a w := by
  have e : ((#[(0, x), (1, y)] : Array (Nat × Operand)).map fun (i, x) => (i, a.eval x)).toList = [(0, u), (1, v)] := by simp [hx, hy]
  exact wpList_build hg t _ ho (by rw [e, hf]; rfl) (by rw [e, hf]; exact h)
end
/-- A slice literal of one element of many cells. -/
theorem run_slice_one {P : Program} (w : World) (t e : TypeId) (ie : TypeInfo) (z : Value) (hu : P.underlying t = some (.slice e)) (hie : P.info? e = some ie) (hz : ie.zero = some z) (cs : List Value) (hsz : ie.size = cs.length) (hpos : 0 < cs.length) (hle : cs.length ≤ 16777216) :
    (Instr.buildSlice t 1 #[(0, .agg cs.toArray)]).run P w = .ok (.slice (some ⟨w.heap.size, 0, none⟩) 1 1) (w.alloc (.cells cs.toArray e)) := by
  refine run_buildSlice w t e 1 _ cs.toArray ie z hu hie hz (by rw [hsz]; simp; omega) (by rw [hsz]; omega) ?_
  have := Great.fill_whole (s := cs.length) hpos [Value.agg cs.toArray] ((Array.range (1 * ie.size)).map (z.cells[· % z.cells.size]!)) (by intro v hv; rw [List.mem_singleton.1 hv]; simp [Value.cells]) (by simp [hsz])
  rw [hsz] at this ⊢
  simpa [Value.cells] using this
section
variable {P : Program} {o : Oper} {a : Act} {w : World} {K : Act → World → Prop} {Q : Exit → Act → World → Prop}
/-- At a step: a load, a slice literal of one, an append, a store, of which it is known how they run. -/
theorem st_load (t : TypeId) (x : Operand) (ho : o.op = .load t x) (p v : Value) (hx : a.eval x = p) (w' : World) (hr : (Instr.loadAt t p).run P w = .ok v w') (h : K (a.put o.dst v) w') : o.wp P a w K Q := by
  unfold Oper.wp execOp
  simp only [ho, hx, Sem.run_bind, Sem.run_pure, Result.andThen_ok, hr]
  exact h
theorem st_slice1 (t : TypeId) (x : Operand) (ho : o.op = .buildSlice t 1 #[(0, x)]) (u v : Value) (hx : a.eval x = u) (w' : World) (hr : (Instr.buildSlice t 1 #[(0, u)]).run P w = .ok v w') (h : K (a.put o.dst v) w') : o.wp P a w K Q := by
  have e : ((#[(0, x)] : Array (Nat × Operand)).map fun (i, x) => (i, a.eval x)) = #[(0, u)] := by simp [hx]
  unfold Oper.wp execOp
  simp only [ho, e, Sem.run_bind, Sem.run_pure, Result.andThen_ok, hr]
  exact h
theorem st_append (t t' : TypeId) (s x : Operand) (ho : o.op = .call { callee := .builtin .append, args := #[s, x], argTypes := #[t, t'] }) (u v r : Value) (hs : a.eval s = u) (hx : a.eval x = v) (w' : World) (hr : (Builtin.append_ #[t, t'] o.type #[u, v]).run P w = .ok r w') (h : K (a.put o.dst r) w') : o.wp P a w K Q := by
  unfold Oper.wp execOp
  simp only [ho, resolve, invoke, builtin, Sem.run_bind, Sem.run_pure, Result.andThen_ok, List.map_toArray, List.map_cons, List.map_nil, hs, hx, hr]
  exact h
theorem st_copy (t t' : TypeId) (s x : Operand) (ho : o.op = .call { callee := .builtin .copy, args := #[s, x], argTypes := #[t, t'] }) (u v r : Value) (hs : a.eval s = u) (hx : a.eval x = v) (w' : World) (hr : (Builtin.copy_ #[t, t'] o.type #[u, v]).run P w = .ok r w') (h : K (a.put o.dst r) w') : o.wp P a w K Q := by
  unfold Oper.wp execOp
  simp only [ho, resolve, invoke, builtin, Sem.run_bind, Sem.run_pure, Result.andThen_ok, List.map_toArray, List.map_cons, List.map_nil, hs, hx, hr]
  exact h
theorem st_store (t : TypeId) (x y : Operand) (ho : o.op = .store t x y) (p v : Value) (hx : a.eval x = p) (hy : a.eval y = v) (w' : World) (hr : (Instr.storeAt t p v).run P w = .ok () w') (h : K (a.put o.dst undef) w') : o.wp P a w K Q := by
  unfold Oper.wp execOp
  simp only [ho, hx, hy, Sem.run_bind, Sem.run_pure, Result.andThen_ok, hr]
  exact h
end
end Bst
