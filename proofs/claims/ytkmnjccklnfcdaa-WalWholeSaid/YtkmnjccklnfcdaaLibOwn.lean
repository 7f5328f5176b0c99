/- Slices that a call makes itself: append, stores; a slice that is read as the source of an append. -/
import Derived.Test.YtkmnjccklnfcdaaLib
import Derived.Maps.AppendAt
import Derived.Deep.AppendLies
import Derived.OwnWalk
namespace Bst
open Go Go.RowKit
set_option linter.unusedVariables false

/-- A slice type's row of the table. -/
structure ET (P : Program) (t e : TypeId) (z : Value) (size bytes : Nat) : Prop where
  ht : P.underlying t = some (.slice e)
  hi : ∃ i, P.info? e = some i ∧ i.zero = some z ∧ i.size = size ∧ i.bytes = bytes
  hz : z.cells.size = size
  hsz : 0 < size

/-- The cells of a list, one datum behind the other. -/
def Flat {α : Type} (K : Kd α) (F : List Nat) (w : World) : List Value → List α → Prop
  | xs, [] => xs = []
  | xs, a :: l => ∃ cs ys, xs = cs ++ ys ∧ K.R F w cs a ∧ Flat K F w ys l
section
variable {α : Type} {K : Kd α} {F F' : List Nat} {w w' : World}
theorem Flat.ext {xs : List Value} {l : List α} (h : Flat K F w xs l) (k : Keep F w F' w') : Flat K F' w' xs l := by
  induction l generalizing xs with
  | nil => exact h
  | cons a l ih => obtain ⟨cs, ys, rfl, hR, h⟩ := h; exact ⟨cs, ys, rfl, K.ext hR k, ih h⟩
theorem Flat.len {xs : List Value} {l : List α} (h : Flat K F w xs l) : xs.length = l.length * K.sz := by
  induction l generalizing xs with
  | nil => rw [show xs = [] from h]; simp
  | cons a l ih => obtain ⟨cs, ys, rfl, hR, h⟩ := h; rw [List.length_append, K.len hR, ih h, List.length_cons, Nat.add_mul]; omega
theorem Flat.one {xs : List Value} {l : List α} (h : Flat K F w xs l) : ∀ u ∈ xs, u.oneCell' = true := by
  induction l generalizing xs with
  | nil => rw [show xs = [] from h]; simp
  | cons a l ih =>
    obtain ⟨cs, ys, rfl, hR, h⟩ := h
    intro u hu
    rcases List.mem_append.1 hu with h1 | h1
    · exact K.one hR u h1
    · exact ih h u h1
theorem Flat.app {xs ys : List Value} {l m : List α} (h : Flat K F w xs l) (h' : Flat K F w ys m) : Flat K F w (xs ++ ys) (l ++ m) := by
  induction l generalizing xs with
  | nil => rw [show xs = [] from h]; exact h'
  | cons a l ih => obtain ⟨cs, zs, rfl, hR, h⟩ := h; exact ⟨cs, zs ++ ys, by simp, hR, ih h⟩
theorem Flat.get {xs : List Value} {l : List α} (h : Flat K F w xs l) {i : Nat} {x : α} (hx : l[i]? = some x) :
    ∃ cs, K.R F w cs x ∧ ∀ j u, cs[j]? = some u → xs[i * K.sz + j]? = some u := by
  induction l generalizing xs i with
  | nil => simp at hx
  | cons a l ih =>
    obtain ⟨cs, ys, rfl, hR, h⟩ := h
    cases i with
    | zero =>
      simp at hx; subst hx
      refine ⟨cs, hR, fun j u hu => ?_⟩
      have := (List.getElem?_eq_some_iff.1 hu).1
      rw [Nat.zero_mul, Nat.zero_add, List.getElem?_append_left this]; exact hu
    | succ i =>
      obtain ⟨ds, hR', hd⟩ := ih h (by simpa using hx)
      refine ⟨ds, hR', fun j u hu => ?_⟩
      have e : (i + 1) * K.sz + j = cs.length + (i * K.sz + j) := by rw [K.len hR, Nat.add_mul]; omega
      rw [e, List.getElem?_append_right (by omega)]
      simpa using hd j u hu
end
theorem Flat.set {α : Type} {K : Kd α} {F : List Nat} {w w' : World} {xs : List Value} {l : List α} (h : Flat K F w xs l) {F' : List Nat} (hk : Keep F w F' w') {i j : Nat} {u : Value} {x y : α} (hx : l[i]? = some x) (hj : j < K.sz)
    (hR : ∀ cs, K.R F w cs x → (∀ q v, cs[q]? = some v → xs[i * K.sz + q]? = some v) → K.R F' w' (cs.set j u) y) : Flat K F' w' (xs.set (i * K.sz + j) u) (l.set i y) := by
  induction l generalizing xs i with
  | nil => simp at hx
  | cons a l ih =>
    obtain ⟨cs, ys, rfl, hR0, h⟩ := h
    have hlen := K.len hR0
    cases i with
    | zero =>
      simp at hx; subst hx
      refine ⟨cs.set j u, ys, ?_, hR cs hR0 (fun q v hq => ?_), h.ext hk⟩
      · rw [Nat.zero_mul, Nat.zero_add, List.set_append, if_pos (by omega)]
      · have := (List.getElem?_eq_some_iff.1 hq).1
        rw [Nat.zero_mul, Nat.zero_add, List.getElem?_append_left this]; exact hq
    | succ i =>
      refine ⟨cs, ys.set (i * K.sz + j) u, ?_, K.ext hR0 hk, ih h (by simpa using hx) (fun ds hd hq => hR ds hd (fun q v hqv => ?_))⟩
      · rw [List.set_append, if_neg (by rw [hlen, Nat.add_mul]; omega)]
        congr 2; rw [hlen, Nat.add_mul]; omega
      · have := hq q v hqv
        rw [List.getElem?_append_right (by rw [hlen, Nat.add_mul]; omega), hlen, show (i + 1) * K.sz + q - K.sz = i * K.sz + q by rw [Nat.add_mul]; omega]
        exact this
theorem Flat.of_sl {α : Type} {K : Kd α} {F : List Nat} {w : World} {g o : Nat} : ∀ (l : List α) (p : Nat),
    (∀ i x, l[i]? = some x → ∃ cs, K.R F w cs x ∧ ∀ j u, cs[j]? = some u → w.cell? ⟨g, o + ((p + i) * K.sz + j), none⟩ = some u) →
    ∃ xs, Flat K F w xs l ∧ ∀ j u, xs[j]? = some u → w.cell? ⟨g, o + (p * K.sz + j), none⟩ = some u
  | [], p, _ => ⟨[], rfl, fun j u h => by simp at h⟩
  | a :: l, p, h => by
    obtain ⟨cs, hR, hc⟩ := h 0 a rfl
    obtain ⟨ys, hF, hy⟩ := Flat.of_sl l (p + 1) (fun i x hx => by
      obtain ⟨ds, h1, h2⟩ := h (i + 1) x (by simpa using hx)
      exact ⟨ds, h1, fun j u hu => by rw [show p + 1 + i = p + (i + 1) from by omega]; exact h2 j u hu⟩)
    refine ⟨cs ++ ys, ⟨cs, ys, rfl, hR, hF⟩, fun j u hu => ?_⟩
    rw [List.getElem?_append] at hu
    split at hu
    · simpa using hc j u hu
    · rename_i hge
      have := hy (j - cs.length) u hu
      have e : (p + 1) * K.sz + (j - cs.length) = p * K.sz + j := by rw [K.len hR] at *; rw [Nat.add_mul]; omega
      rw [e] at this; exact this
/-- The cells of a slice that reads as a list. -/
theorem Sl.flat {α : Type} {K : Kd α} {F : List Nat} {w : World} {A : Option Addr} {c : Nat} {l : List α} (h : Sl K F w A c l) :
    ∃ xs, Flat K F w xs l ∧ (0 < l.length → ∃ g o, A = some ⟨g, o, none⟩ ∧ ∀ j u, xs[j]? = some u → w.cell? ⟨g, o + j, none⟩ = some u) := by
  rcases Nat.eq_zero_or_pos l.length with h0 | h0
  · obtain rfl := List.eq_nil_of_length_eq_zero h0
    exact ⟨[], rfl, fun h => absurd h (Nat.lt_irrefl _)⟩
  · obtain ⟨g, o, rfl, hg, hF, hc⟩ := h.2.2 h0
    obtain ⟨xs, hx, hy⟩ := Flat.of_sl (g := g) (o := o) l 0 (by simpa using hc)
    exact ⟨xs, hx, fun _ => ⟨g, o, rfl, by simpa using hy⟩⟩

/-- A slice that the call itself made (from block base on), with elements of type e; its block is one of F. -/
def Own {α : Type} (K : Kd α) (F : List Nat) (w : World) (base : Nat) (e : TypeId) (v : Value) (l : List α) : Prop :=
  (∃ xs, w.ownsRow base e K.sz v l.length xs ∧ Flat K F w xs l) ∧ (∀ g, v.ownBlock = some g → g ∈ F)
section
variable {α : Type} {K : Kd α} {F F' : List Nat} {w w' : World} {base : Nat} {e : TypeId} {v : Value} {l : List α}
theorem Own.nil (K : Kd α) (F : List Nat) (w : World) (base : Nat) (e : TypeId) : Own K F w base e (.slice none 0 0) [] :=
  ⟨⟨[], World.ownsRow_nil w base e K.sz, rfl⟩, fun g h => by simp [Value.ownBlock] at h⟩
theorem Own.alloc (h : Own K F w base e v l) (o : Obj) : Own K F (w.alloc o) base e v l := by
  obtain ⟨⟨xs, h1, h2⟩, h3⟩ := h
  exact ⟨⟨xs, h1.alloc o, h2.ext ((Ext.alloc w o).keep F)⟩, h3⟩
theorem Own.ext_ (h : Own K F w base e v l) (k : Ext w w') : Own K F w' base e v l := by
  obtain ⟨⟨xs, h1, h2⟩, h3⟩ := h
  refine ⟨⟨xs, ?_, h2.ext (k.keep F)⟩, h3⟩
  refine h1.kept (row := none) ⟨k.os, k.tape, k.output, k.size, fun b hb _ => k.block b hb (by simp)⟩ ?_
  cases v.ownBlock <;> simp
/-- Kept where its block is not written. -/
theorem Own.keep {G G' : List Nat} (h : Own K F w base e v l) (k : Keep G w G' w') (hn : ∀ g, v.ownBlock = some g → g ∉ G) (k2 : Keep F w F w') : Own K F w' base e v l := by
  obtain ⟨⟨xs, h1, h2⟩, h3⟩ := h
  refine ⟨⟨xs, ?_, h2.ext k2⟩, h3⟩
  refine ⟨h1.1, ?_⟩
  rcases h1.2 with hh | ⟨g, cap, cur, rfl, hb, hgg, rest⟩
  · exact .inl hh
  · refine .inr ⟨g, cap, cur, rfl, hb, ?_, rest⟩
    rw [k.block g (Array.getElem?_eq_some_iff.1 hgg).1 (hn g (by simp [Value.ownBlock]))]
    exact hgg
theorem Own.lt (h : Own K F w base e v l) : ∀ x, v.ownBlock = some x → base ≤ x ∧ x < w.heap.size := by
  obtain ⟨⟨xs, h1, _⟩, _⟩ := h
  exact h1.lt
theorem Own.form (h : Own K F w base e v l) (hl : l.length ≤ 140737488355328) : ∃ A c, v = .slice A l.length c ∧ (∀ F', (∀ b ∈ F', b ∈ F ∧ v.ownBlock ≠ some b) → Sl K F' w A c l) := by
  obtain ⟨⟨xs, h1, h2⟩, h3⟩ := h
  have hlen := h2.len
  rcases h1.2 with ⟨rfl, h0⟩ | ⟨g, cap, cur, rfl, hb, hgg, hnc, hcm, hcs, htake⟩
  · obtain rfl := List.eq_nil_of_length_eq_zero h0
    exact ⟨none, 0, rfl, fun F' _ => Sl.nil K F' w none 0⟩
  · refine ⟨some ⟨g, 0, none⟩, cap, rfl, fun F' hF => ⟨hnc, hl, fun hn => ?_⟩⟩
    refine ⟨g, 0, rfl, (Array.getElem?_eq_some_iff.1 hgg).1, fun hm => (hF g hm).2 (by simp [Value.ownBlock]), fun i x hx => ?_⟩
    obtain ⟨cs, hR, hc⟩ := h2.get hx
    refine ⟨cs, K.ext hR (Keep.sub w (fun b hb => (hF b hb).1)), fun j u hu => ?_⟩
    have := h1.cells (g := g) (by simp [Value.ownBlock]) (i * K.sz + j) u (hc j u hu)
    simpa [Addr.add_lit] using this
/-- An element of it: its cells, and what a store into one of them makes. -/
theorem Own.at_ (h : Own K F w base e v l) {i : Nat} (hi : i < l.length) : ∃ g c, v = .slice (some ⟨g, 0, none⟩) l.length c ∧ g ∈ F ∧ base ≤ g ∧ (∃ cs, K.R F w cs l[i] ∧ ∀ j u, cs[j]? = some u → w.cell? ⟨g, i * K.sz + j, none⟩ = some u) ∧
    (∀ j, w.frozen? ⟨g, j, none⟩ = false) ∧ ∀ j u y, j < K.sz → (∀ cs, K.R F w cs l[i] → (∀ q x, cs[q]? = some x → w.cell? ⟨g, i * K.sz + q, none⟩ = some x) → K.R F (w.setCell ⟨g, i * K.sz + j, none⟩ u) (cs.set j u) y) → Own K F (w.setCell ⟨g, i * K.sz + j, none⟩ u) base e v (l.set i y) := by
  obtain ⟨⟨xs, h1, h2⟩, h3⟩ := h
  have hlen := h2.len
  rcases h1.2 with ⟨rfl, h0⟩ | ⟨g, cap, cur, rfl, hb, hgg, rest⟩
  · omega
  · have hgF := h3 g (by simp [Value.ownBlock])
    have hcells : ∀ j u, xs[j]? = some u → w.cell? ⟨g, j, none⟩ = some u := fun j u hu => by
      have := h1.cells (g := g) (by simp [Value.ownBlock]) j u hu
      simpa [Addr.add_lit] using this
    obtain ⟨cs, hR, hc⟩ := h2.get (List.getElem?_eq_getElem hi)
    refine ⟨g, cap, rfl, hgF, hb, ⟨cs, hR, fun j u hu => hcells _ _ (hc j u hu)⟩, fun j => h1.frozenAt j, fun j u y hj hRy => ?_⟩
    refine ⟨⟨xs.set (i * K.sz + j) u, ?_, ?_⟩, h3⟩
    · rw [List.length_set]; exact (h1.stored _ _).1
    · exact h2.set (Keep.setCell F w _ u hgF) (List.getElem?_eq_getElem hi) hj (fun ds hd hq => hRy ds hd (fun q x hqx => hcells _ _ (hq q x hqx)))
theorem Own.to_sl {A : Option Addr} {n c : Nat} (h : Own K F w base e (.slice A n c) l) (hl : l.length ≤ 140737488355328) : n = l.length ∧ Sl K [] w A c l := by
  obtain ⟨A', c', he, hs⟩ := h.form hl
  injection he with h1 h2 h3
  subst h1; subst h3
  exact ⟨h2, hs [] (fun _ h => by cases h)⟩
end

section
variable {P : Program} {α : Type} {K : Kd α} {ops : Array Oper} {rest : List Oper} {o : Oper} {a : Act} {Q : Exit → Act → World → Prop}
theorem Own.grow {w w' : World} {F : List Nat} {base : Nat} {e : TypeId} {v v' : Value} {l new : List α} {xs news : List Value} (h1 : w'.ownsRow base e K.sz v' (l.length + new.length) (xs ++ news))
    (hg : w.grownBy w' v.ownBlock) (hx : Flat K F w xs l) (hn : Flat K F w news new) (hF : ∀ g, v.ownBlock = some g → g ∈ F) (hv : v'.ownBlock = v.ownBlock ∨ ∀ g, v'.ownBlock = some g → w.heap.size ≤ g) :
    Own K (v'.ownBlock.toList ++ F) w' base e v' (l ++ new) ∧ Keep F w (v'.ownBlock.toList ++ F) w' := by
  have hk : Keep F w (v'.ownBlock.toList ++ F) w' := Keep.grown hg hF (fun b hb => by
    rcases List.mem_append.1 hb with h | h
    · have e2 : v'.ownBlock = some b := by simpa using h
      rcases hv with h3 | h3
      · exact .inl (hF b (h3 ▸ e2))
      · exact .inr (h3 b e2)
    · exact .inl h)
  refine ⟨⟨⟨xs ++ news, by rw [List.length_append]; exact h1, (hx.app hn).ext hk⟩, fun g hg => ?_⟩, hk⟩
  simp [hg]
/-- 'append(out, xs...)': whatever reads as a list. -/
theorem run_app {t e : TypeId} {z : Value} {bytes : Nat} (et : ET P t e z K.sz bytes) (ty : TypeId) (w : World) (base : Nat) (F : List Nat) (v : Value) (l new : List α) (A : Option Addr) (c : Nat)
    (hown : Own K F w base e v l) (hnew : Sl K F w A c new) (hb : (l.length + new.length) * bytes ≤ 140737488355328) (hm : l.length + new.length ≤ 140737488355328) (hbase : base ≤ w.heap.size) :
    ∃ v' w' F', (Builtin.append_ #[t, t] ty #[v, .slice A new.length c]).run P w = .ok v' w' ∧ Own K F' w' base e v' (l ++ new) ∧ Keep F w F' w' ∧ (Keep v.ownBlock.toList w v.ownBlock.toList w' ∧ ((∀ b ∈ F, b < w.heap.size) → ∀ b ∈ F', b < w'.heap.size)) ∧ (∀ b ∈ F, b ∈ F') := by
  obtain ⟨⟨xs, ho, hx⟩, hF⟩ := hown
  obtain ⟨i, hi, hz0, hsz0, hby⟩ := et.hi
  obtain ⟨news, hn, hcell⟩ := hnew.flat
  have hmax : l.length + new.length ≤ maxLen := by unfold maxLen; omega
  rcases Nat.eq_zero_or_pos new.length with h0 | h0
  · obtain rfl := List.eq_nil_of_length_eq_zero h0
    have hv : ∃ v', (Builtin.append_ #[t, t] ty #[v, .slice A ([] : List α).length c]).run P w = .ok v' w ∧ v' = v := by
      rcases A with _ | ad
      · rcases ho.2 with ⟨rfl, h00⟩ | ⟨g, cap, cur, rfl, _, _, hnc, _⟩
        · exact ⟨_, by simp [Builtin.append_, run_underlying et.ht, Go.sizeOf, typeInfo, hi, Builtin.lenOf, Builtin.firstCells], rfl⟩
        · exact ⟨_, by simp [Builtin.append_, run_underlying et.ht, Go.sizeOf, typeInfo, hi, Builtin.lenOf, Builtin.firstCells, hnc, storeCells], rfl⟩
      · rcases ho.2 with ⟨rfl, h00⟩ | ⟨g, cap, cur, rfl, _, _, hnc, _⟩
        · exact ⟨_, by simp [Builtin.append_, run_underlying et.ht, Go.sizeOf, typeInfo, hi, Builtin.lenOf, Builtin.firstCells, loadCells, loadCellsFrom], rfl⟩
        · exact ⟨_, by simp [Builtin.append_, run_underlying et.ht, Go.sizeOf, typeInfo, hi, Builtin.lenOf, Builtin.firstCells, hnc, storeCells, loadCells, loadCellsFrom], rfl⟩
    obtain ⟨v', hr, rfl⟩ := hv
    refine ⟨v', w, F, hr, ?_, Keep.refl F w, ⟨Keep.refl _ w, fun h => h⟩, fun b hb => hb⟩
    rw [List.append_nil]
    exact ⟨⟨xs, ho, hx⟩, hF⟩
  · obtain ⟨g, o, rfl, hc⟩ := hcell h0
    have hnl := hn.len
    obtain ⟨v', w', hr, h2, h3, _⟩ := run_append_own (P := P) w base t ty e i z K.sz bytes et.ht hi hz0 hsz0 hby et.hz et.hsz v l.length xs ho ⟨g, o, none⟩ new.length c news hnl (fun j u hu => by rw [Addr.add_lit]; exact hc j u hu) hn.one hmax hb hbase
    have hv : v'.ownBlock = v.ownBlock ∨ ∀ g, v'.ownBlock = some g → w.heap.size ≤ g := by
      by_cases hroom : ∃ g cap, v = .slice (some ⟨g, 0, none⟩) l.length cap ∧ l.length + new.length ≤ cap
      · obtain ⟨g2, cap, rfl, hroom⟩ := hroom
        rcases ho.2 with ⟨h, _⟩ | ⟨g', cap', cur, he, _, hg2, _, _, hcs, _⟩
        · cases h
        · injection he with e1 e2 e3
          injection e1 with e1
          injection e1 with e1
          subst e1; subst e3
          have hfit : l.length * i.size + news.length ≤ cur.size := by rw [hnl, hsz0, hcs, ← Nat.add_mul]; exact Nat.mul_le_mul_right _ hroom
          have hr2 := run_append_room (P := P) w t ty e i et.ht hi g2 l.length cap cur hg2 ⟨g, o, none⟩ new.length c news (by rw [hsz0]; exact hnl) (fun j u hu => by rw [Addr.add_lit]; exact hc j u hu) hn.one hroom hfit
          rw [hr] at hr2
          injection hr2 with hr2 _
          left; rw [hr2]; rfl
      · right
        intro g0 hg0
        rcases ho.2 with ⟨rfl, h00⟩ | ⟨g', cap', cur, rfl, _, hg2, hnc, _, hcs, htk⟩
        · have hl0 : l = [] := List.eq_nil_of_length_eq_zero h00
          subst hl0
          have hr2 := run_append_nil (P := P) w t ty e i z et.ht hi hz0 ⟨g, o, none⟩ new.length c news (by rw [hsz0]; exact hnl) (fun j u hu => by rw [Addr.add_lit]; exact hc j u hu) h0 (by omega) (by rw [hby]; have hb2 := hb; simp at hb2; omega)
          rw [hr] at hr2
          injection hr2 with hr2 _
          rw [hr2] at hg0
          simp [Value.ownBlock] at hg0
          omega
        · have hng : ¬ l.length + new.length ≤ cap' := fun hle => hroom ⟨g', cap', rfl, hle⟩
          have hr2 := run_append_grow (P := P) w t ty e i z et.ht hi hz0 ⟨g', 0, none⟩ l.length cap' xs (by rw [hsz0]; exact ho.1) (ho.cells (g := g') (by simp [Value.ownBlock])) ⟨g, o, none⟩ new.length c news (by rw [hsz0]; exact hnl) (fun j u hu => by rw [Addr.add_lit]; exact hc j u hu) (by omega) (by omega) (growslice_fits (by omega) (by rw [hby]; exact hb))
          rw [hr] at hr2
          injection hr2 with hr2 _
          rw [hr2] at hg0
          simp [Value.ownBlock] at hg0
          omega
    obtain ⟨q1, q2⟩ := Own.grow (K := K) h2 h3 hx hn hF hv
    refine ⟨v', w', _, hr, q1, q2, ⟨Keep.grown h3 (fun k e => by simp [e]) (fun b hb => .inl hb), fun h b hb => ?_⟩, fun b hb => List.mem_append_right _ hb⟩
    rcases List.mem_append.1 hb with h1 | h1
    · exact (q1.lt b (by simpa using h1)).2
    · exact Nat.lt_of_lt_of_le (h b h1) q2.size
theorem wp_app {t e : TypeId} {z : Value} {bytes : Nat} (et : ET P t e z K.sz bytes) (hgd : o.guard = none) (s x : Operand)
    (ho : o.op = .call { callee := .builtin .append, args := #[s, x], argTypes := #[t, t] }) (w : World) (base : Nat) (F : List Nat) (v : Value) (l new : List α) (A : Option Addr) (c : Nat)
    (hs : a.eval s = v) (hx : a.eval x = .slice A new.length c) (hown : Own K F w base e v l) (hnew : Sl K F w A c new)
    (hb : (l.length + new.length) * bytes ≤ 140737488355328) (hm : l.length + new.length ≤ 140737488355328) (hbase : base ≤ w.heap.size)
    (h : ∀ v' w' F', Own K F' w' base e v' (l ++ new) → Keep F w F' w' → (Keep v.ownBlock.toList w v.ownBlock.toList w' ∧ ((∀ b ∈ F, b < w.heap.size) → ∀ b ∈ F', b < w'.heap.size)) → (∀ b ∈ F, b ∈ F') → wpList P ops Q rest (a.put o.dst v') w') : wpList P ops Q (o :: rest) a w := by
  refine wpList_plain hgd fun C hC => ?_
  obtain ⟨v', w', F', hr, h1, h2, h3, h4⟩ := run_app et o.type w base F v l new A c hown hnew hb hm hbase
  unfold Oper.wp execOp
  simp only [ho, resolve, invoke, builtin, Sem.run_bind, Sem.run_pure, Result.andThen_ok, List.map_toArray, List.map_cons, List.map_nil, hs, hx, hr]
  exact hC _ _ (h v' w' F' h1 h2 h3 h4)
/-- The slice of one element that stands ahead of 'append(out, x)'. -/
theorem Sl.single {w : World} {F : List Nat} {cs : List Value} {e : TypeId} {x : α} (hR : K.R F w cs x) (hF : ∀ b ∈ F, b < w.heap.size) :
    Sl K F (w.alloc (.cells cs.toArray e)) (some ⟨w.heap.size, 0, none⟩) 1 [x] := by
  refine ⟨Nat.le_refl _, by simp, fun _ => ⟨w.heap.size, 0, rfl, by simp, fun hm => by have := hF _ hm; omega, fun i y hy => ?_⟩⟩
  have h0 : i = 0 := by have := (List.getElem?_eq_some_iff.1 hy).1; simp at this; omega
  subst h0
  simp at hy; subst hy
  refine ⟨cs, K.ext hR ((Ext.alloc w _).keep F), fun j u hu => ?_⟩
  have := cell_of_row (w.alloc (.cells cs.toArray e)) w.heap.size (0 + (0 * K.sz + j)) cs.toArray e (0, 0) (heap_alloc_new w _)
  rw [this]
  simpa using hu
theorem wp_app1 {t e : TypeId} {z : Value} {bytes : Nat} (et : ET P t e z K.sz bytes) (hgd : o.guard = none) (s x : Operand)
    (ho : o.op = .call { callee := .builtin .append, args := #[s, x], argTypes := #[t, t] }) (w : World) (cs : List Value) (base : Nat) (F : List Nat) (v : Value) (l : List α) (y : α)
    (hs : a.eval s = v) {N : Nat} (hx : a.eval x = .slice (some ⟨N, 0, none⟩) 1 1) (hN : N = w.heap.size) (hown : Own K F w base e v l) (hR : K.R F w cs y) (hF : ∀ b ∈ F, b < w.heap.size)
    (hb : (l.length + 1) * bytes ≤ 140737488355328) (hm : l.length + 1 ≤ 140737488355328) (hbase : base ≤ w.heap.size)
    (h : ∀ v' w' F', Own K F' w' base e v' (l ++ [y]) → Keep F w F' w' → Keep v.ownBlock.toList w v.ownBlock.toList w' → (∀ b ∈ F', b < w'.heap.size) → (∀ b ∈ F, b ∈ F') → wpList P ops Q rest (a.put o.dst v') w') : wpList P ops Q (o :: rest) a (w.alloc (.cells cs.toArray e)) :=
  by
  subst hN
  exact wp_app et hgd s x ho (w.alloc (.cells cs.toArray e)) base F v l [y] (some ⟨w.heap.size, 0, none⟩) 1 hs hx (hown.alloc _) (Sl.single hR hF) hb hm (by simp; omega)
    (fun v' w' F' h1 h2 h3 h4 => h v' w' F' h1 (((Ext.alloc w _).keep F).trans h2) (((Ext.alloc w _).keep _).trans h3.1) (h3.2 fun b hb => Nat.lt_of_lt_of_le (hF b hb) (by simp)) h4)
end
end Bst
