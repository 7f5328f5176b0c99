/- What is kept from round to round while sectors are taken and given back. -/
import Derived.Test.YtbbhbgccmekheaaDoorLawSD
import Derived.Test.YtbbhbgccmekheaaDoorOnceP
import Derived.Test.YtbbhbgccmekheaaDoorHeldP
namespace Go.Proofs.YtbbhbgccmekheaaDoor
open Go Go.RowKit Bst
set_option linter.unusedVariables false
set_option linter.unusedSimpArgs false

theorem et_rows : ET Tryd.prog 49 31 (.slice none 0 0) 1 24 := ⟨Tryd.underlying49, info_parts (by kernel_rfl), rfl, by decide⟩
abbrev Held (w : World) (b n : Nat) (S : List Int) : Prop := HeldAt w Tryd.prog 3 3 b n S
abbrev KRow : Kd (List Int) := Kd.slice Kd.int
theorem _root_.Bst.HeldAt.keep {P : Program} {k e : TypeId} {w w' : World} {b n : Nat} {S : List Int} {F F' : List Nat} (h : HeldAt w P k e b n S) (q : Keep F w F' w') (hb : b ∉ F) : HeldAt w' P k e b n S := by
  obtain ⟨D, ⟨es, clock, h1, h2⟩, h3⟩ := h
  exact ⟨D, ⟨es, clock, by rw [q.block b (Array.getElem?_eq_some_iff.1 h1).1 hb]; exact h1, h2⟩, h3⟩
theorem _root_.Bst.HeldAt.lt {P : Program} {k e : TypeId} {w : World} {b n : Nat} {S : List Int} (h : HeldAt w P k e b n S) : b < w.heap.size := by
  obtain ⟨D, h, _⟩ := h; exact h.lt
theorem _root_.Bst.HeldAt.perm {P : Program} {k e : TypeId} {w : World} {b n : Nat} {S S' : List Int} (h : HeldAt w P k e b n S) (p : S.Perm S') : HeldAt w P k e b n S' := by
  obtain ⟨D, h, h1, h2, h3, h4⟩ := h
  exact ⟨D, h, h1, by rw [h2, p.length_eq], p.nodup_iff.1 h3, fun x => ⟨(h4 x).1.trans p.mem_iff, fun hx => (h4 x).2 (p.mem_iff.2 hx)⟩⟩
theorem _root_.Bst.Keep.ofGrown {w w' : World} {b : Nat} (hg : w.grownBy w' (some b)) : Keep [b] w [b] w' := Keep.grown hg (fun k e => by simp at e; simp [e]) (fun _ h => .inl h)

/-- A row of the rows. -/
theorem own_row_at {F : List Nat} {w : World} {base : Nat} {e : TypeId} {v : Value} {tk : List (List Int)} (h : Bst.Own KRow F w base e v tk) {i : Nat} (hi : i < tk.length) :
    ∃ g c A ca, v = .slice (some ⟨g, 0, none⟩) tk.length c ∧ g ∈ F ∧ base ≤ g ∧ w.cell? ⟨g, i, none⟩ = some (.slice A tk[i].length ca) ∧ Sl Kd.int F w A ca tk[i] ∧ w.frozen? ⟨g, i, none⟩ = false ∧
      Bst.Own KRow F (w.setCell ⟨g, i, none⟩ (.slice none 0 0)) base e v (tk.set i []) := by
  obtain ⟨g, c, hv, hg, hb, ⟨cs, ⟨A, ca, rfl, hs⟩, hcell⟩, hf, hset⟩ := h.at_ hi
  have e1 : i * KRow.sz = i := Nat.mul_one i
  have hc := hcell 0 _ rfl
  rw [e1] at hc hset
  refine ⟨g, c, A, ca, hv, hg, hb, hc, hs, hf i, ?_⟩
  refine hset 0 _ [] (by decide) (fun cs' hR hq => ?_)
  obtain ⟨A', c', rfl, hs'⟩ := hR
  exact ⟨none, 0, rfl, Sl.nil ..⟩
theorem own_len {α : Type} {K : Kd α} {F : List Nat} {w : World} {base : Nat} {e : TypeId} {v : Value} {l : List α} (h : Bst.Own K F w base e v l) : ∃ A c, v = .slice A l.length c := by
  obtain ⟨⟨xs, h1, h2⟩, h3⟩ := h
  rcases h1.2 with ⟨rfl, h0⟩ | ⟨g, cap, cur, rfl, _⟩
  · exact ⟨none, 0, by rw [h0]⟩
  · exact ⟨_, cap, rfl⟩

/-- At a round's head. -/
structure St (w0 wr : World) (b g Hb base m k : Nat) (tkv : Value) (T : List Bool) (tk : List (List Int)) (S : List Int) (nm : Nat) (F : List Nat) : Prop where
  len : T.length = m
  sp : SpaceAt wr b g T
  held : Held wr Hb nm S
  once : Once T S
  perm : S.Perm tk.flatten
  own : Bst.Own KRow F wr base 31 tkv tk
  bF : b ∈ F ∧ g ∈ F ∧ Hb ∈ F
  ltF : ∀ x ∈ F, x < wr.heap.size
  tkk : tk.length ≤ k
  nmk : nm ≤ 300 * k
  ob : b < base ∧ g < base ∧ Hb < base ∧ base ≤ wr.heap.size
  ne : b ≠ Hb ∧ g ≠ Hb
  keep : Keep [] w0 F wr
theorem St.ext {w0 wr w' : World} {b g Hb base m k : Nat} {tkv : Value} {T : List Bool} {tk : List (List Int)} {S : List Int} {nm : Nat} {F : List Nat} (h : St w0 wr b g Hb base m k tkv T tk S nm F) (x : Ext wr w') : St w0 w' b g Hb base m k tkv T tk S nm F :=
  ⟨h.len, SpaceRaw.keep h.sp (x.keep []) (by simp) (by simp), h.held.keep (x.keep []) (by simp), h.once, h.perm, h.own.ext_ x, h.bF, fun y hy => Nat.lt_of_lt_of_le (h.ltF y hy) x.size, h.tkk, h.nmk,
    ⟨h.ob.1, h.ob.2.1, h.ob.2.2.1, Nat.le_trans h.ob.2.2.2 x.size⟩, h.ne, h.keep.trans (x.keep F)⟩
/-- The space, or the map, is written: what is kept. -/
theorem own_far {w0 wr w' : World} {b g Hb base m k : Nat} {tkv : Value} {T : List Bool} {tk : List (List Int)} {S : List Int} {nm : Nat} {F G : List Nat} (h : St w0 wr b g Hb base m k tkv T tk S nm F) (q : Keep G wr G w') (hG : ∀ x ∈ G, x = b ∨ x = g ∨ x = Hb) :
    Bst.Own KRow F w' base 31 tkv tk ∧ Keep F wr F w' := by
  have hGF : ∀ x ∈ G, x ∈ F := fun x hx => by rcases hG x hx with rfl | rfl | rfl; exact h.bF.1; exact h.bF.2.1; exact h.bF.2.2
  have k2 := q.widen hGF
  refine ⟨h.own.keep q (fun x hx hm => ?_) k2, k2⟩
  have := (h.own.lt x hx).1
  have := h.ob
  rcases hG x hm with rfl | rfl | rfl <;> omega
/-- Where it stands inside a turn: the space has T', the map holds S', the rows are tk. -/
structure Mid (w0 wr : World) (b g Hb base m k : Nat) (tkv : Value) (T : List Bool) (tk : List (List Int)) (S : List Int) (nm : Nat) (F : List Nat) : Prop where
  len : T.length = m
  sp : SpaceAt wr b g T
  held : Held wr Hb nm S
  own : Bst.Own KRow F wr base 31 tkv tk
  bF : b ∈ F ∧ g ∈ F ∧ Hb ∈ F
  ltF : ∀ x ∈ F, x < wr.heap.size
  tkk : tk.length ≤ k
  ob : b < base ∧ g < base ∧ Hb < base ∧ base ≤ wr.heap.size
  ne : b ≠ Hb ∧ g ≠ Hb
  keep : Keep [] w0 F wr
section
variable {w0 wr w' : World} {b g Hb base m k : Nat} {tkv : Value} {T T' : List Bool} {tk : List (List Int)} {S S' : List Int} {nm nm' : Nat} {F F' : List Nat}
theorem St.mid (h : St w0 wr b g Hb base m k tkv T tk S nm F) : Mid w0 wr b g Hb base m k tkv T tk S nm F := ⟨h.len, h.sp, h.held, h.own, h.bF, h.ltF, h.tkk, h.ob, h.ne, h.keep⟩
theorem Mid.st (h : Mid w0 wr b g Hb base m k tkv T tk S nm F) (h1 : Once T S) (h2 : S.Perm tk.flatten) (h3 : nm ≤ 300 * k) : St w0 wr b g Hb base m k tkv T tk S nm F := ⟨h.len, h.sp, h.held, h1, h2, h.own, h.bF, h.ltF, h.tkk, h3, h.ob, h.ne, h.keep⟩
theorem St.next (h : St w0 wr b g Hb base m k tkv T tk S nm F) : St w0 wr b g Hb base m (k + 1) tkv T tk S nm F :=
  ⟨h.len, h.sp, h.held, h.once, h.perm, h.own, h.bF, h.ltF, by have := h.tkk; omega, by have := h.nmk; omega, h.ob, h.ne, h.keep⟩
theorem Mid.far {G : List Nat} (h : Mid w0 wr b g Hb base m k tkv T tk S nm F) (q : Keep G wr G w') (hG : ∀ x ∈ G, x = b ∨ x = g ∨ x = Hb) : Bst.Own KRow F w' base 31 tkv tk ∧ Keep F wr F w' := by
  have hGF : ∀ x ∈ G, x ∈ F := fun x hx => by rcases hG x hx with rfl | rfl | rfl; exact h.bF.1; exact h.bF.2.1; exact h.bF.2.2
  have k2 := q.widen hGF
  refine ⟨h.own.keep q (fun x hx hm => ?_) k2, k2⟩
  have := (h.own.lt x hx).1
  have := h.ob
  rcases hG x hm with rfl | rfl | rfl <;> omega
theorem Mid.ext (h : Mid w0 wr b g Hb base m k tkv T tk S nm F) (x : Ext wr w') : Mid w0 w' b g Hb base m k tkv T tk S nm F :=
  ⟨h.len, SpaceRaw.keep h.sp (x.keep []) (by simp) (by simp), h.held.keep (x.keep []) (by simp), h.own.ext_ x, h.bF, fun y hy => Nat.lt_of_lt_of_le (h.ltF y hy) x.size, h.tkk,
    ⟨h.ob.1, h.ob.2.1, h.ob.2.2.1, Nat.le_trans h.ob.2.2.2 x.size⟩, h.ne, h.keep.trans (x.keep F)⟩
/-- The space is written. -/
theorem Mid.space (h : Mid w0 wr b g Hb base m k tkv T tk S nm F) (q : Keep [b, g] wr [b, g] w') (hs : SpaceAt w' b g T') (hl : T'.length = T.length) : Mid w0 w' b g Hb base m k tkv T' tk S nm F := by
  have ⟨o1, o2⟩ := h.far q (by simp)
  refine ⟨hl.trans h.len, hs, h.held.keep q (by have := h.ne; simp; omega), o1, h.bF, fun y hy => Nat.lt_of_lt_of_le (h.ltF y hy) q.size, h.tkk, ⟨h.ob.1, h.ob.2.1, h.ob.2.2.1, Nat.le_trans h.ob.2.2.2 q.size⟩, h.ne, h.keep.trans o2⟩
/-- The map is written. -/
theorem Mid.map (h : Mid w0 wr b g Hb base m k tkv T tk S nm F) (q : wr.grownBy w' (some Hb)) (hs : Held w' Hb nm' S') : Mid w0 w' b g Hb base m k tkv T tk S' nm' F := by
  have q := Keep.ofGrown q
  have ⟨o1, o2⟩ := h.far q (by simp)
  refine ⟨h.len, SpaceRaw.keep h.sp q (by have := h.ne; simp; omega) (by have := h.ne; simp; omega), hs, o1, h.bF, fun y hy => Nat.lt_of_lt_of_le (h.ltF y hy) q.size, h.tkk, ⟨h.ob.1, h.ob.2.1, h.ob.2.2.1, Nat.le_trans h.ob.2.2.2 q.size⟩, h.ne, h.keep.trans o2⟩
/-- The rows are appended to. -/
theorem Mid.app {tkv' : Value} {a : List Int} (h : Mid w0 wr b g Hb base m k tkv T tk S nm F) (ho : Bst.Own KRow F' w' base 31 tkv' (tk ++ [a])) (q : Keep F wr F' w') (q2 : Keep tkv.ownBlock.toList wr tkv.ownBlock.toList w')
    (hl : ∀ x ∈ F', x < w'.heap.size) (hs : ∀ x ∈ F, x ∈ F') : Mid w0 w' b g Hb base m (k + 1) tkv' T (tk ++ [a]) S nm F' := by
  have hn : ∀ x, x < base → x ∉ tkv.ownBlock.toList := fun x hx hm => by have := (h.own.lt x (by simpa using hm)).1; omega
  exact ⟨h.len, SpaceRaw.keep h.sp q2 (hn _ h.ob.1) (hn _ h.ob.2.1), h.held.keep q2 (hn _ h.ob.2.2.1), ho, ⟨hs _ h.bF.1, hs _ h.bF.2.1, hs _ h.bF.2.2⟩, hl, by have := h.tkk; simp; omega, ⟨h.ob.1, h.ob.2.1, h.ob.2.2.1, Nat.le_trans h.ob.2.2.2 q.size⟩, h.ne, h.keep.trans q⟩
/-- A row is struck. -/
theorem Mid.strike {i gg : Nat} {tk' : List (List Int)} (h : Mid w0 wr b g Hb base m k tkv T tk S nm F) (hgF : gg ∈ F) (hb : base ≤ gg) (ho : Bst.Own KRow F (wr.setCell ⟨gg, i, none⟩ (.slice none 0 0)) base 31 tkv tk') (hl : tk'.length = tk.length) :
    Mid w0 (wr.setCell ⟨gg, i, none⟩ (.slice none 0 0)) b g Hb base m k tkv T tk' S nm F := by
  have q : Keep [gg] wr [gg] (wr.setCell ⟨gg, i, none⟩ (.slice none 0 0)) := Keep.setCell _ _ _ _ (by simp)
  have hob := h.ob
  exact ⟨h.len, SpaceRaw.keep h.sp q (by simp; omega) (by simp; omega), h.held.keep q (by simp; omega), ho, h.bF, fun y hy => Nat.lt_of_lt_of_le (h.ltF y hy) q.size, by rw [hl]; exact h.tkk, ⟨hob.1, hob.2.1, hob.2.2.1, Nat.le_trans hob.2.2.2 q.size⟩, h.ne, h.keep.trans (q.widen (by simpa using hgF))⟩
end
end Go.Proofs.YtbbhbgccmekheaaDoor
