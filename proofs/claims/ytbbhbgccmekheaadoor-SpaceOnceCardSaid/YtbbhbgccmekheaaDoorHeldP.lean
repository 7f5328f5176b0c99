/- A map from integers to positive integers as the set of its keys. -/
import Derived.Maps.OwnSet
import Derived.Maps.OwnOps
namespace Bst
open Go Go.Maps
set_option linter.unusedVariables false

abbrev z0 : DataW Unit := .lit (.int .i64 0)
/-- The keys are just these, each at a positive number. -/
def HeldD (S : List Int) (D : DataW Unit) : Prop :=
  Tidy D ∧ Maps.size D = S.length ∧ S.Nodup ∧ ∀ x : Int, (Maps.has D (.int .i64 x) = true ↔ x ∈ S) ∧ (x ∈ S → ∃ c : Int, 0 < c ∧ D.atKey (.int .i64 x) z0 = .lit (.int .i64 c))
theorem HeldD.nil : HeldD [] (.map []) := ⟨tidy_empty, rfl, List.nodup_nil, fun x => ⟨by rw [has_eq]; simp, fun h => by cases h⟩⟩
theorem key_lit (x : Int) : WideAt.IsKeyLit (.int .i64 x) := True.intro
theorem lit_ne {x y : Int} (h : y ≠ x) : (Lit.int .i64 y) ≠ Lit.int .i64 x := fun e => h (by injection e)
theorem HeldD.put {S : List Int} {D : DataW Unit} (h : HeldD S D) {x c : Int} (hx : x ∉ S) (hc : 0 < c) : HeldD (x :: S) (D.put (.int .i64 x) (.lit (.int .i64 c))) := by
  obtain ⟨h1, h2, h3, h4⟩ := h
  have hn : Maps.has D (.int .i64 x) = false := by
    rw [Bool.eq_false_iff]
    exact fun e => hx ((h4 x).1.1 e)
  refine ⟨h1.put (key_lit x) _, ?_, List.nodup_cons.2 ⟨hx, h3⟩, fun y => ?_⟩
  · rw [size_put h1, hn]; simp [h2]
  · by_cases hy : y = x
    · subst hy
      exact ⟨by rw [has_put_same h1.isMap (key_lit _)]; simp, fun _ => ⟨c, hc, atKey_put_same h1.isMap (key_lit _) _ _⟩⟩
    · rw [has_put_other (lit_ne hy), atKey_put_other (lit_ne hy)]
      refine ⟨by rw [(h4 y).1]; simp [hy], fun hm => (h4 y).2 ?_⟩
      rcases List.mem_cons.1 hm with e | e
      · exact absurd e hy
      · exact e
theorem HeldD.del {S : List Int} {D : DataW Unit} (h : HeldD S D) {x : Int} (hx : x ∈ S) : HeldD (S.erase x) (D.del (.int .i64 x)) := by
  obtain ⟨h1, h2, h3, h4⟩ := h
  have hn : Maps.has D (.int .i64 x) = true := (h4 x).1.2 hx
  refine ⟨h1.del _, ?_, h3.erase x, fun y => ?_⟩
  · have := size_del (k := .int .i64 x) h1
    rw [hn] at this
    rw [List.length_erase_of_mem hx]
    simp at this
    omega
  · by_cases hy : y = x
    · subst hy
      have : y ∉ S.erase y := fun e => by rw [h3.mem_erase_iff] at e; exact e.1 rfl
      exact ⟨by rw [has_del_same]; simp [this], fun e => absurd e this⟩
    · rw [has_del_other (lit_ne hy), atKey_del_other (lit_ne hy)]
      have e : y ∈ S.erase x ↔ y ∈ S := by rw [h3.mem_erase_iff]; simp [hy]
      rw [e]
      exact h4 y
theorem HeldD.look_in {S : List Int} {D : DataW Unit} (h : HeldD S D) {x : Int} (hx : x ∈ S) : ∃ c : Int, 0 < c ∧ D.atKey (.int .i64 x) z0 = .lit (.int .i64 c) := (h.2.2.2 x).2 hx
theorem HeldD.look_out {S : List Int} {D : DataW Unit} (h : HeldD S D) {x : Int} (hx : x ∉ S) : D.atKey (.int .i64 x) z0 = z0 :=
  atKey_of_not_has (by rw [Bool.eq_false_iff]; exact fun e => hx ((h.2.2.2 x).1.1 e)) _
theorem HeldD.size {S : List Int} {D : DataW Unit} (h : HeldD S D) : Maps.size D = S.length := h.2.1
theorem HeldD.nodup {S : List Int} {D : DataW Unit} (h : HeldD S D) : S.Nodup := h.2.2.1

/-- Block b is a map whose keys are just these. -/
def HeldAt (w : World) (P : Program) (k e : TypeId) (b n : Nat) (S : List Int) : Prop := ∃ D : DataW Unit, w.ownsMap P k (plainElem P e) b n D ∧ HeldD S D
section
variable {P : Program} {ops : Array Oper} {rest : List Oper} {o : Oper} {a : Act} {Q : Exit → Act → World → Prop}
theorem wp_look_out {t k e : TypeId} (K : Keyed P k) (hk : P.underlying k = some (.int .i64)) (ht : P.underlying t = some (.map k e)) (he : P.underlying e = some (.int .i64)) (w : World) (hz : (zeroValue e).run P w = .ok (.int .i64 0) w)
    (hg : o.guard = none) (m x : Operand) (hop : o.op = Op.lookup t m x false) (b n : Nat) (S : List Int) (key : Int) (hm : a.eval m = .map (some b)) (hx : a.eval x = .int .i64 key) (hown : HeldAt w P k e b n S)
    (hwf : (Lit.int .i64 key).wf = true) (hS : key ∉ S) (h : wpList P ops Q rest (a.put o.dst (.int .i64 0)) w) : wpList P ops Q (o :: rest) a w := by
  obtain ⟨D, h1, h2⟩ := hown
  refine wpList_lookup_own_int w hg m x t hop k e .i64 K ht he hz b n D hm h1 _ _ hx (keyOf_int_mk hk hwf) (fun c hc _ => ?_)
  rw [h2.look_out hS] at hc
  have : (0 : Int) = c := by injection hc with hc; injection hc
  rw [← this]; exact h
theorem wp_look_in {t k e : TypeId} (K : Keyed P k) (hk : P.underlying k = some (.int .i64)) (ht : P.underlying t = some (.map k e)) (he : P.underlying e = some (.int .i64)) (w : World) (hz : (zeroValue e).run P w = .ok (.int .i64 0) w)
    (hg : o.guard = none) (m x : Operand) (hop : o.op = Op.lookup t m x false) (b n : Nat) (S : List Int) (key : Int) (hm : a.eval m = .map (some b)) (hx : a.eval x = .int .i64 key) (hown : HeldAt w P k e b n S)
    (hwf : (Lit.int .i64 key).wf = true) (hS : key ∈ S) (h : ∀ c : Int, 0 < c → wpList P ops Q rest (a.put o.dst (.int .i64 c)) w) : wpList P ops Q (o :: rest) a w := by
  obtain ⟨D, h1, h2⟩ := hown
  refine wpList_lookup_own_int w hg m x t hop k e .i64 K ht he hz b n D hm h1 _ _ hx (keyOf_int_mk hk hwf) (fun c hc _ => ?_)
  obtain ⟨c', hc', he'⟩ := h2.look_in hS
  rw [he'] at hc
  have : c' = c := by injection hc with hc; injection hc
  rw [← this]; exact h _ hc'
theorem wp_put {t k e : TypeId} (K : Keyed P k) (hk : P.underlying k = some (.int .i64)) (ht : P.underlying t = some (.map k e)) (he : P.underlying e = some (.int .i64)) (w : World)
    (hg : o.guard = none) (m x v : Operand) (hop : o.op = Op.mapUpdate t m x v) (b n : Nat) (S : List Int) (key c : Int) (hm : a.eval m = .map (some b)) (hx : a.eval x = .int .i64 key) (hv : a.eval v = .int .i64 c) (hown : HeldAt w P k e b n S)
    (hn : n < 1000000) (hwf : (Lit.int .i64 key).wf = true) (hwc : (Lit.int .i64 c).wf = true) (hS : key ∉ S) (hc : 0 < c)
    (h : ∀ w', HeldAt w' P k e b (n + 1) (S ++ [key]) → w.grownBy w' (some b) → wpList P ops Q rest (a.put o.dst undef) w') : wpList P ops Q (o :: rest) a w := by
  obtain ⟨D, h1, h2⟩ := hown
  refine wpList_mapUpdate_own w hg m x v t hop k e K ht (plainElem P e) b n D hm h1 (by unfold maxLen; omega) _ _ _ hx hv (keyOf_int_mk hk hwf) (.lit (.int .i64 c)) [] (plainElem_int he hwc) (fun w' r1 r2 => h w' ⟨_, r1, ?_⟩ r2)
  obtain ⟨q1, q2, q3, q4⟩ := h2.put hS hc
  have p : (key :: S).Perm (S ++ [key]) := (List.perm_append_singleton key S).symm
  exact ⟨q1, by rw [q2, p.length_eq], p.nodup_iff.1 q3, fun x => ⟨(q4 x).1.trans p.mem_iff, fun hx => (q4 x).2 (p.mem_iff.2 hx)⟩⟩
theorem wp_del {t k e : TypeId} (K : Keyed P k) (hk : P.underlying k = some (.int .i64)) (ht : P.underlying t = some (.map k e)) (w : World)
    (hg : o.guard = none) (m x : Operand) (hop : o.op = Op.call { callee := Callee.builtin Builtin.delete, args := #[m, x], argTypes := #[t, k] }) (b n : Nat) (S S' : List Int) (key : Int) (hm : a.eval m = .map (some b)) (hx : a.eval x = .int .i64 key) (hown : HeldAt w P k e b n S)
    (hwf : (Lit.int .i64 key).wf = true) (hS : S.Perm (key :: S'))
    (h : ∀ w', HeldAt w' P k e b n S' → w.grownBy w' (some b) → wpList P ops Q rest (a.put o.dst (.tuple #[])) w') : wpList P ops Q (o :: rest) a w := by
  obtain ⟨D, h1, h2⟩ := hown
  refine wpList_delete_own w hg m x t k hop e K ht (plainElem P e) b n D hm h1 _ _ hx (keyOf_int_mk hk hwf) (fun w' r1 r2 => h w' ⟨_, r1, ?_⟩ r2.grown)
  obtain ⟨q1, q2, q3, q4⟩ := h2.del (x := key) (hS.mem_iff.2 (by simp))
  have p : (S.erase key).Perm S' := by
    have := hS.erase key
    rwa [List.erase_cons_head] at this
  exact ⟨q1, by rw [q2, p.length_eq], p.nodup_iff.1 q3, fun x => ⟨(q4 x).1.trans p.mem_iff, fun hx => (q4 x).2 (p.mem_iff.2 hx)⟩⟩
theorem wp_maplen {t k e : TypeId} (ht : P.underlying t = some (.map k e)) (w : World)
    (hg : o.guard = none) (m : Operand) (hop : o.op = Op.call { callee := Callee.builtin Builtin.len, args := #[m], argTypes := #[t] }) (b n : Nat) (S : List Int) (hm : a.eval m = .map (some b)) (hown : HeldAt w P k e b n S)
    (h : wpList P ops Q rest (a.put o.dst (.int .i64 (S.length : Int))) w) : wpList P ops Q (o :: rest) a w := by
  obtain ⟨D, h1, h2⟩ := hown
  refine wpList_len_own w hg m t hop k e ht (plainElem P e) b n D hm h1 ?_
  rw [h2.size]; exact h
end
end Bst
