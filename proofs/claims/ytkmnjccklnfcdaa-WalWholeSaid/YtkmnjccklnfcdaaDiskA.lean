/- A disk in memory; what is asked of it. A disk in memory: what reads it, the fuse. A disk in memory: a sector is read; New. A disk in memory: New. -/
import Derived.Test.YtkmnjccklnfcdaaWordA
import Derived.Test.YtkmnjccklnfcdaaPlainA
import Derived.Deep.RegionHeld3
import Derived.RegionTactic
namespace Go.Proofs.Ytkmnjccklnfcdaa
open Go Go.RowKit Bst
set_option linter.unusedVariables false
set_option linter.unusedSimpArgs false

def KWr : Kd (Int × Sec) := Kd.pair Kd.int (Kd.vec 64)
/-- A disk: its own block, what is kept, what it has now, what waits. -/
structure DiskRaw (w : World) (F : List Nat) (db gk gn : Nat) (v : Value) (d : Dsk) : Prop where
  ok : d.Ok
  head : ∃ t ck cn, d.now.length ≤ ck ∧ d.now.length ≤ cn ∧ w.heap[db]? = some (.cells #[.slice (some ⟨gk, 0, none⟩) d.now.length ck, .slice (some ⟨gn, 0, none⟩) d.now.length cn, v, .int .i64 d.fuse, .bool d.off, .int .i64 (d.lives : Int)] t (0, 0))
  kept : Pre encU8 w gk d.kept.flatten
  now : Pre encU8 w gn d.now.flatten
  wait : Own KWr F w 0 121 v d.wait
  ne : db ≠ gk ∧ db ≠ gn ∧ gk ≠ gn
  apart : ∀ g, v.ownBlock = some g → g ≠ db ∧ g ≠ gk ∧ g ≠ gn
  inF : db ∈ F ∧ gk ∈ F ∧ gn ∈ F
  ltF : ∀ x ∈ F, x < w.heap.size
def DiskAt (w : World) (F : List Nat) (db : Nat) (d : Dsk) : Prop := ∃ gk gn v, DiskRaw w F db gk gn v d
section
variable {w w' : World} {F G : List Nat} {db gk gn : Nat} {v : Value} {d : Dsk}
theorem DiskRaw.at_ (h : DiskRaw w F db gk gn v d) : DiskAt w F db d := ⟨gk, gn, v, h⟩
theorem DiskAt.ext (h : DiskAt w F db d) (q : Ext w w') : DiskAt w' F db d := by
  obtain ⟨gk, gn, v, h⟩ := h
  obtain ⟨t, ck, cn, h1, h2, h3⟩ := h.head
  refine ⟨gk, gn, v, h.ok, ⟨t, ck, cn, h1, h2, by rw [q.block db (heap_lt h3) (by simp)]; exact h3⟩, h.kept.keep (q.keep []) (by simp), h.now.keep (q.keep []) (by simp), h.wait.ext_ q, h.ne, h.apart, h.inF, fun x hx => Nat.lt_of_lt_of_le (h.ltF x hx) q.size⟩
/-- Kept where other blocks are written. -/
theorem DiskAt.far (h : DiskAt w F db d) (q : Keep G w G w') (hd : ∀ x ∈ F, x ∉ G) : DiskAt w' F db d := by
  obtain ⟨gk, gn, v, h⟩ := h
  obtain ⟨t, ck, cn, h1, h2, h3⟩ := h.head
  obtain ⟨⟨xs, ho, hx⟩, hF⟩ := h.wait
  have hpure : ∀ (l : List (Int × Sec)) (xs : List Value), Flat KWr F w xs l → Flat KWr F w' xs l := by
    intro l
    induction l with
    | nil => intro xs h; exact h
    | cons a l ih =>
      intro xs h
      obtain ⟨cs, ys, rfl, ⟨c1, c2, rfl, e1, e2⟩, h2⟩ := h
      exact ⟨_, ys, rfl, ⟨c1, c2, rfl, e1, e2⟩, ih _ h2⟩
  refine ⟨gk, gn, v, h.ok, ⟨t, ck, cn, h1, h2, by rw [q.block db (heap_lt h3) (hd _ h.inF.1)]; exact h3⟩, h.kept.keep q (hd _ h.inF.2.1), h.now.keep q (hd _ h.inF.2.2), ⟨⟨xs, ?_, hpure _ _ hx⟩, hF⟩, h.ne, h.apart, h.inF, fun x hx => Nat.lt_of_lt_of_le (h.ltF x hx) q.size⟩
  refine ⟨ho.1, ?_⟩
  rcases ho.2 with hh | ⟨g, cap, cur, rfl, hb, hgg, rest⟩
  · exact .inl hh
  · refine .inr ⟨g, cap, cur, rfl, hb, ?_, rest⟩
    rw [q.block g (heap_lt hgg) (hd _ (hF g (by simp [Value.ownBlock])))]
    exact hgg
end
end Go.Proofs.Ytkmnjccklnfcdaa
namespace Go.Proofs.Ytkmnjccklnfcdaa
open Go Go.RowKit Bst
set_option linter.unusedVariables false
set_option linter.unusedSimpArgs false

theorem DiskRaw.cells {w : World} {F : List Nat} {db gk gn : Nat} {v : Value} {d : Dsk} (h : DiskRaw w F db gk gn v d) :
    (∃ ck, d.now.length ≤ ck ∧ w.cell? ⟨db, 0, none⟩ = some (.slice (some ⟨gk, 0, none⟩) d.now.length ck)) ∧ (∃ cn, d.now.length ≤ cn ∧ w.cell? ⟨db, 1, none⟩ = some (.slice (some ⟨gn, 0, none⟩) d.now.length cn)) ∧
    w.cell? ⟨db, 2, none⟩ = some v ∧ w.cell? ⟨db, 3, none⟩ = some (.int .i64 d.fuse) ∧ w.cell? ⟨db, 4, none⟩ = some (.bool d.off) ∧ w.cell? ⟨db, 5, none⟩ = some (.int .i64 (d.lives : Int)) ∧ ∀ k, w.frozen? ⟨db, k, none⟩ = false := by
  obtain ⟨t, ck, cn, h1, h2, h3⟩ := h.head
  exact ⟨⟨ck, h1, cell_blk h3 0⟩, ⟨cn, h2, cell_blk h3 1⟩, cell_blk h3 2, cell_blk h3 3, cell_blk h3 4, cell_blk h3 5, fun k => frozen_blk h3 k⟩
theorem is_ok (w : World) (F : List Nat) (db : Nat) (d : Dsk) (h : DiskAt w F db d) :
    Calls Try.prog 72 #[.pointer (some ⟨db, 0, none⟩)] w fun e w' => e = .returned (.bool true) ∧ w = w' := by
  obtain ⟨gk, gn, v, h⟩ := h
  obtain ⟨-, ⟨cn, -, c1⟩, -, -, -, -, -⟩ := h.cells
  have hp := h.ok.pos
  have d0 : decide (0 < d.now.length) = true := decide_eq_true (by omega)
  clear h
  generalize d.now.length = n at *
  go_enter Try.func72, Try.ntmps72
  go_wp2
  go_ret
  exact ⟨rfl, rfl⟩
theorem is_nil (w : World) : Calls Try.prog 72 #[.pointer none] w fun e w' => e = .returned (.bool false) ∧ w = w' := by
  go_enter Try.func72, Try.ntmps72
  go_wp2
  go_ret
  exact ⟨rfl, rfl⟩
theorem size_ok (w : World) (F : List Nat) (db : Nat) (d : Dsk) (h : DiskAt w F db d) :
    Calls Try.prog 59 #[.pointer (some ⟨db, 0, none⟩)] w fun e w' => e = .returned (.int .i64 (d.now.length : Int)) ∧ w = w' := by
  have H := Lib.hid h
  obtain ⟨gk, gn, v, h⟩ := h
  obtain ⟨-, ⟨cn, -, c1⟩, -, -, -, -, -⟩ := h.cells
  clear h
  go_enter Try.func59, Try.ntmps59
  go_wp2_with (go_at_call 72; refine (is_ok w F db d H.out).mono ?_; rintro e w' ⟨rfl, rfl⟩)
  go_ret
  exact ⟨rfl, rfl⟩
theorem off_ok (w : World) (F : List Nat) (db : Nat) (d : Dsk) (h : DiskAt w F db d) :
    Calls Try.prog 63 #[.pointer (some ⟨db, 0, none⟩)] w fun e w' => e = .returned (.bool d.off) ∧ w = w' := by
  have H := Lib.hid h
  obtain ⟨gk, gn, v, h⟩ := h
  obtain ⟨-, -, -, -, c4, -, -⟩ := h.cells
  clear h
  go_enter Try.func63, Try.ntmps63
  go_wp2_with (go_at_call 72; refine (is_ok w F db d H.out).mono ?_; rintro e w' ⟨rfl, rfl⟩)
  go_ret
  exact ⟨rfl, rfl⟩
theorem lives_ok (w : World) (F : List Nat) (db : Nat) (d : Dsk) (h : DiskAt w F db d) :
    Calls Try.prog 64 #[.pointer (some ⟨db, 0, none⟩)] w fun e w' => e = .returned (.int .i64 (d.lives : Int)) ∧ w = w' := by
  have H := Lib.hid h
  obtain ⟨gk, gn, v, h⟩ := h
  obtain ⟨-, -, -, -, -, c5, -⟩ := h.cells
  clear h
  go_enter Try.func64, Try.ntmps64
  go_wp2_with (go_at_call 72; refine (is_ok w F db d H.out).mono ?_; rintro e w' ⟨rfl, rfl⟩)
  go_ret
  exact ⟨rfl, rfl⟩
theorem may_ok (w : World) (F : List Nat) (db : Nat) (d : Dsk) (h : DiskAt w F db d) (n : Int) :
    Calls Try.prog 74 #[.pointer (some ⟨db, 0, none⟩), .int .i64 n] w fun e w' => e = .returned (.int .i64 (d.may n)) ∧ w = w' := by
  have H := Lib.hid h
  obtain ⟨gk, gn, v, h⟩ := h
  obtain ⟨-, ⟨cn, -, c1⟩, -, -, c4, -, -⟩ := h.cells
  have hle := h.ok.le
  clear h
  rcases d.may_cases n with ⟨ho, hm⟩ | ⟨ho, hn, hm⟩ | ⟨ho, h0, h1, hm⟩
  · rw [ho] at c4
    have HM := Lib.hid hm
    clear hm ho
    go_enter Try.func74, Try.ntmps74
    go_wp2_with (go_at_call 72; refine (is_ok w F db d H.out).mono ?_; rintro e w' ⟨rfl, rfl⟩)
    go_ret
    exact ⟨by rw [HM.out]; rfl, rfl⟩
  · rw [ho] at c4
    have HM := Lib.hid hm
    clear hm ho
    rcases hn with hn | hn
    · have d0 : decide (n < 0) = true := decide_eq_true hn
      go_enter Try.func74, Try.ntmps74
      go_wp2_with (go_at_call 72; refine (is_ok w F db d H.out).mono ?_; rintro e w' ⟨rfl, rfl⟩)
      go_ret
      exact ⟨by rw [HM.out]; rfl, rfl⟩
    · have d0 : decide (n < 0) = false := decide_eq_false (by omega)
      have d1 : decide ((d.now.length : Int) ≤ n) = true := decide_eq_true hn
      go_enter Try.func74, Try.ntmps74
      go_wp2_with (go_at_call 72; refine (is_ok w F db d H.out).mono ?_; rintro e w' ⟨rfl, rfl⟩)
      go_ret
      exact ⟨by rw [HM.out]; rfl, rfl⟩
  · rw [ho] at c4
    have HM := Lib.hid hm
    clear hm ho
    have d0 : decide (n < 0) = false := decide_eq_false (by omega)
    have d1 : decide ((d.now.length : Int) ≤ n) = false := decide_eq_false (by omega)
    go_enter Try.func74, Try.ntmps74
    go_wp2_with (go_at_call 72; refine (is_ok w F db d H.out).mono ?_; rintro e w' ⟨rfl, rfl⟩)
    go_ret
    exact ⟨by rw [HM.out]; rfl, rfl⟩
/-- The head is another. -/
theorem DiskRaw.rehead {w w' : World} {F : List Nat} {db gk gn : Nat} {v : Value} {d d' : Dsk} (h : DiskRaw w F db gk gn v d) (q : Keep [db] w [db] w') (ok : d'.Ok) (e1 : d'.kept = d.kept) (e2 : d'.now = d.now) (e3 : d'.wait = d.wait)
    (hh : ∃ t ck cn, d'.now.length ≤ ck ∧ d'.now.length ≤ cn ∧ w'.heap[db]? = some (.cells #[.slice (some ⟨gk, 0, none⟩) d'.now.length ck, .slice (some ⟨gn, 0, none⟩) d'.now.length cn, v, .int .i64 d'.fuse, .bool d'.off, .int .i64 (d'.lives : Int)] t (0, 0))) :
    DiskRaw w' F db gk gn v d' := by
  have hF : Keep F w F w' := q.widen (by simpa using h.inF.1)
  refine ⟨ok, hh, by rw [e1]; exact h.kept.keep q (by have := h.ne; simp; omega), by rw [e2]; exact h.now.keep q (by have := h.ne; simp; omega), by rw [e3]; exact h.wait.keep q (fun g hg => by have := h.apart g hg; simp; omega) hF, h.ne, h.apart, h.inF, fun x hx => Nat.lt_of_lt_of_le (h.ltF x hx) q.size⟩
theorem burn_ok (w : World) (F : List Nat) (db gk gn : Nat) (v : Value) (d : Dsk) (h : DiskRaw w F db gk gn v d) (ho : d.off = false) :
    Calls Try.prog 75 #[.pointer (some ⟨db, 0, none⟩)] w fun e w' => e = .returned (.bool d.burnt.off) ∧ DiskRaw w' F db gk gn v d.burnt ∧ Keep [db] w [db] w' := by
  have H := Lib.hid h
  obtain ⟨t, ck, cn, h1, h2, h3⟩ := h.head
  obtain ⟨-, -, -, c3, c4, -, hf⟩ := h.cells
  have f3 := hf 3
  have f4 := hf 4
  have hfu := h.ok.fuse
  clear h hf
  rw [ho] at c4
  by_cases hn : d.fuse < 0
  · have HB : Hid (d.burnt = d) := by unfold Hid Dsk.burnt; rw [if_pos hn]
    have HO := Lib.hid ho
    have dn : decide (d.fuse < 0) = true := decide_eq_true hn
    rw [HB.out]
    clear ho h3
    go_enter Try.func75, Try.ntmps75
    go_wp2
    go_ret
    exact ⟨by rw [HO.out]; rfl, H.out, Keep.refl _ _⟩
  · have HB : Hid (d.burnt = { d with off := decide (d.fuse = 0), fuse := d.fuse - 1 }) := by unfold Hid Dsk.burnt; rw [if_neg hn]
    have HOK := Lib.hid H.out.ok.burnt
    have dn : decide (d.fuse < 0) = false := decide_eq_false hn
    have hW : Hid (((w.setCell ⟨db, 4, none⟩ (.bool (decide (d.fuse = 0)))).setCell ⟨db, 3, none⟩ (.int .i64 (d.fuse - 1))).heap[db]? = some (.cells #[.slice (some ⟨gk, 0, none⟩) d.now.length ck, .slice (some ⟨gn, 0, none⟩) d.now.length cn, v, .int .i64 (d.fuse - 1), .bool (decide (d.fuse = 0)), .int .i64 (d.lives : Int)] t (0, 0))) := by
      rw [Hid, set_blk (set_blk h3 4 _) 3]
      rfl
    have hK : Hid (Keep [db] w [db] ((w.setCell ⟨db, 4, none⟩ (.bool (decide (d.fuse = 0)))).setCell ⟨db, 3, none⟩ (.int .i64 (d.fuse - 1)))) := (Keep.setCell [db] _ _ _ (by simp)).trans (Keep.setCell [db] _ _ _ (by simp))
    have he : (d.fuse == 0) = decide (d.fuse = 0) := by rw [Bool.eq_iff_iff]; simp
    have hz : decide (d.fuse = 0) = true ∨ decide (d.fuse = 0) = false := by cases decide (d.fuse = 0) <;> simp
    clear ho h3
    go_enter Try.func75, Try.ntmps75
    go_wp2
    go_ret
    refine ⟨by rw [HB.out]; rfl, ?_, hK.out⟩
    refine H.out.rehead hK.out HOK.out (by rw [HB.out]) (by rw [HB.out]) (by rw [HB.out]) ⟨t, ck, cn, by rw [HB.out]; exact h1, by rw [HB.out]; exact h2, ?_⟩
    rw [HB.out]
    exact hW.out
end Go.Proofs.Ytkmnjccklnfcdaa
namespace Go.Proofs.Ytkmnjccklnfcdaa
open Go Go.RowKit Bst
set_option linter.unusedVariables false
set_option linter.unusedSimpArgs false

def z64 : List Value := List.replicate 64 (Value.int .u8 0)
theorem z64_length : z64.length = 64 := List.length_replicate
theorem zero64 (w : World) : (zeroValue 119).run Try.prog w = .ok (.agg (List.replicate 64 (Value.int .u8 0)).toArray) w := by kernel_rfl
theorem zero64' (w : World) : (zeroValue 119).run Try.prog w = .ok (.agg z64.toArray) w := by unfold z64; exact zero64 w
theorem info64 : (Try.prog.info? 119).map (·.size) = some 64 := by kernel_rfl
theorem sec_cells {w : World} {g : Nat} {l : List Sec} (h : Pre encU8 w g l.flatten) (hs : ∀ s ∈ l, s.length = 64) {n : Nat} (hn : n < l.length) :
    ∀ j v, ((l.getD n []).map encU8)[j]? = some v → w.cell? ((⟨g, n * 64, none⟩ : Addr).add j) = some v := by
  intro j v hv
  have e : l.getD n [] = l[n] := by rw [List.getD_eq_getElem?_getD, List.getElem?_eq_getElem hn]; rfl
  rw [e] at hv
  rw [Addr.add_lit]
  refine h.cell ?_
  rw [List.getElem?_map] at hv ⊢
  rw [← flat_at hs hn, List.getElem?_take] at hv
  split at hv
  · rw [List.getElem?_drop] at hv
    exact hv
  · cases hv
theorem read_no (w : World) (F : List Nat) (db : Nat) (d : Dsk) (h : DiskAt w F db d) (n : Int) (hm : d.may n ≠ 0) :
    Calls Try.prog 20 #[.pointer (some ⟨db, 0, none⟩), .int .i64 n] w fun e w' => e = .returned (.tuple #[.slice none 0 0, .int .i64 (d.may n)]) ∧ w = w' := by
  have H := Lib.hid h
  clear h
  have d0 : (d.may n != 0) = true := by simpa using hm
  clear hm
  generalize hq : d.may n = q at *
  have HQ := Lib.hid hq
  clear hq
  go_enter Try.func20, Try.ntmps20
  go_wp2_with (go_at_call 74; refine (may_ok w F db d H.out n).mono ?_; rw [HQ.out]; rintro e w' ⟨rfl, rfl⟩)
  go_ret2
  exact ⟨rfl, rfl⟩
set_option maxRecDepth 100000 in
set_option maxHeartbeats 1000000 in
theorem read_ok (w : World) (F : List Nat) (db : Nat) (d : Dsk) (h : DiskAt w F db d) (n : Nat) (hn : n < d.now.length) (ho : d.off = false) :
    Calls Try.prog 20 #[.pointer (some ⟨db, 0, none⟩), .int .i64 (n : Int)] w fun e w' => ∃ g, e = .returned (.tuple #[.slice (some ⟨g, 0, none⟩) 64 64, .int .i64 0]) ∧ Pre encU8 w' g (d.now.getD n []) ∧ w.heap.size ≤ g ∧ Ext w w' := by
  have H := Lib.hid h
  have HM : Hid (d.may (n : Int) = 0) := by
    rcases d.may_cases n with ⟨h1, _⟩ | ⟨_, h1, _⟩ | ⟨_, _, _, h1⟩
    · rw [ho] at h1; cases h1
    · omega
    · exact h1
  obtain ⟨gk, gn, v, h⟩ := h
  obtain ⟨-, ⟨cn, -, c1⟩, -, -, -, -, -⟩ := h.cells
  have hcell := sec_cells h.now h.ok.nowS hn
  have hsl := getD_sec h.ok.nowS hn
  have hle := h.ok.le
  clear h ho
  obtain ⟨s, hs⟩ : ∃ s, s = d.now.getD n [] := ⟨_, rfl⟩
  rw [← hs] at hcell hsl ⊢
  obtain ⟨cs, hcs⟩ : ∃ cs, cs = s.map encU8 := ⟨_, rfl⟩
  rw [← hcs] at hcell
  have HC := Lib.hid hcell
  have HL : Hid (cs.length = 64) := by rw [hcs, Hid, List.length_map, hsl]
  have H1 : Hid (∀ v ∈ cs, v.oneCell' = true) := by rw [hcs]; intro v hv; obtain ⟨x, _, rfl⟩ := List.mem_map.1 hv; rfl
  have HCS := Lib.hid hcs
  clear hcell hcs hs hsl
  go_enter Try.func20, Try.ntmps20
  go_wp2_with (first
    | (go_at_call 74; refine (may_ok w F db d H.out n).mono ?_; rw [HM.out]; rintro e w' ⟨rfl, rfl⟩)
    | (refine wp_load_many (o := ⟨some 20, .load _ _, _, _, _, _⟩) rfl 119 _ rfl w ⟨gn, n * 64, none⟩ rfl cs _ HC.out Try.underlying119 rfl (by rw [HL.out]; exact info64) ?_)
    | (refine wp_var_many (o := ⟨some 7, .alloc _, _, _, _, _⟩) (o2 := ⟨none, .store _ _ _, _, _, _, _⟩) rfl rfl 119 rfl _ _ rfl w z64 cs zero64' rfl rfl (by rw [HL.out]; exact info64) (by rw [HL.out]; exact z64_length) H1.out ?_))
  trace "A"
  intro w2 hb hx hlt
  have HB : Hid (Pre encU8 w2 w.heap.size s) := ⟨_, [], by rw [List.append_nil, ← HCS.out]; exact hb⟩
  have HX := Lib.hid hx
  obtain ⟨g, hg⟩ : ∃ g, g = w.heap.size := ⟨_, rfl⟩
  rw [← hg] at HB ⊢
  have hgw : w.heap.size ≤ g := by omega
  have hgw2 : g < w2.heap.size := by omega
  clear hb hx hg hlt
  go_wp2
  go_ret2
  exact ⟨g, rfl, HB.out, hgw, HX.out⟩
end Go.Proofs.Ytkmnjccklnfcdaa
namespace Go.Proofs.Ytkmnjccklnfcdaa
open Go Go.RowKit Bst
set_option linter.unusedVariables false
set_option linter.unusedSimpArgs false

set_option maxRecDepth 100000 in
theorem info_sec : (Try.prog.info? 119).map (fun i => (i.zero, i.size, i.bytes)) = some (some (.agg (List.replicate 64 (Value.int .u8 0)).toArray), 64, 64) := by kernel_rfl
theorem et_sec : ∃ i, Try.prog.info? 119 = some i ∧ i.zero = some (.agg z64.toArray) ∧ i.size = 64 ∧ i.bytes = 64 := info_parts (by rw [info_sec]; rfl)
theorem make_secs (n : Nat) (hn : n ≤ 16384) (w : World) :
    (Instr.makeSlice 101 (.int .i64 (n : Int)) (.int .i64 (n : Int))).run Try.prog w = .ok (.slice (some ⟨w.heap.size, 0, none⟩) n n) (w.alloc (.cells (List.replicate (n * 64) (Value.int .u8 0)).toArray 119)) := by
  obtain ⟨i, hi, hz, hsz, hby⟩ := et_sec
  have hb : (i.bytes : Int) * (n : Int) ≤ 281474976710656 := by rw [hby]; omega
  have hr := run_make (P := Try.prog) w 101 119 i (.agg z64.toArray) Try.underlying101 hi hz .i64 .i64 n n (by omega) (Int.le_refl _) hb (by omega)
  have e : madeCells (Value.agg z64.toArray).cells ((n : Int).toNat * i.size) = (List.replicate (n * 64) (Value.int .u8 0)).toArray := by
    rw [hsz, Int.toNat_natCast]
    apply Array.ext'
    apply List.ext_getElem
    · simp [madeCells]
    · intro k h1 h2
      have hk : k % 64 < 64 := Nat.mod_lt _ (by omega)
      have hg : (z64.toArray)[k % 64]? = some (Value.int .u8 0) := by
        rw [List.getElem?_toArray]
        exact List.getElem?_replicate_of_lt hk
      have hsz64 : z64.toArray.size = 64 := by simp [z64]
      simp only [madeCells, Value.cells, List.getElem_toArray, Array.getElem_toList, Array.getElem_map, Array.getElem_range, List.getElem_replicate]
      rw [hsz64, getElem!_def, hg]
  rw [e] at hr
  simpa using hr
theorem zeros_cells (n : Nat) : ((List.replicate n (zeros 64)).flatten).map encU8 = List.replicate (n * 64) (Value.int .u8 0) := by
  induction n with
  | zero => rfl
  | succ n ih =>
    rw [List.replicate_succ, List.flatten_cons, List.map_append, ih, zeros, List.map_replicate]
    show List.replicate 64 (Value.int .u8 0) ++ _ = _
    rw [List.replicate_append_replicate]
    congr 1; omega
theorem new_disk (w : World) (n gk gn : Nat) (h1 : 1 ≤ n) (hn : n ≤ 16384) (h : (gk = w.heap.size ∧ gn = w.heap.size + 1) ∨ (gk = w.heap.size + 1 ∧ gn = w.heap.size)) (Z : Array Value) (hZ : (List.replicate (n * 64) (Value.int .u8 0)).toArray = Z) (t1 t2 : TypeId) :
    DiskAt ((((w.alloc (.cells Z t1)).alloc (.cells Z t1)).alloc (.cells #[.slice (some ⟨gk, 0, none⟩) n n, .slice (some ⟨gn, 0, none⟩) n n, .slice none 0 0, .int .i64 (-1), .bool false, .int .i64 0] t2)).drew) [w.heap.size, w.heap.size + 1, w.heap.size + 1 + 1] (w.heap.size + 1 + 1) (Dsk.new n) ∧
    Ext w ((((w.alloc (.cells Z t1)).alloc (.cells Z t1)).alloc (.cells #[.slice (some ⟨gk, 0, none⟩) n n, .slice (some ⟨gn, 0, none⟩) n n, .slice none 0 0, .int .i64 (-1), .bool false, .int .i64 0] t2)).drew) := by
  have hx1 := Ext.alloc w (.cells Z t1)
  have hx2 := Ext.alloc (w.alloc (.cells Z t1)) (.cells Z t1)
  have hx3 := Ext.alloc ((w.alloc (.cells Z t1)).alloc (.cells Z t1)) (.cells #[.slice (some ⟨gk, 0, none⟩) n n, .slice (some ⟨gn, 0, none⟩) n n, .slice none 0 0, .int .i64 (-1), .bool false, .int .i64 0] t2)
  have hz1 : (w.alloc (.cells Z t1)).heap.size = w.heap.size + 1 := by simp
  have hz2 : ((w.alloc (.cells Z t1)).alloc (.cells Z t1)).heap.size = w.heap.size + 1 + 1 := by simp
  have hb3 := heap_alloc_new ((w.alloc (.cells Z t1)).alloc (.cells Z t1)) (.cells #[.slice (some ⟨gk, 0, none⟩) n n, .slice (some ⟨gn, 0, none⟩) n n, .slice none 0 0, .int .i64 (-1), .bool false, .int .i64 0] t2)
  have hb2 := heap_alloc_new (w.alloc (.cells Z t1)) (.cells Z t1)
  have hb1 := heap_alloc_new w (.cells Z t1)
  rw [hz2] at hb3
  rw [hz1] at hb2
  have hb1' := (hx3.block w.heap.size (by rw [hz2]; omega) (by simp)).trans ((hx2.block w.heap.size (by rw [hz1]; omega) (by simp)).trans hb1)
  have hb2' := (hx3.block (w.heap.size + 1) (by rw [hz2]; omega) (by simp)).trans hb2
  have hz3 : (((w.alloc (.cells Z t1)).alloc (.cells Z t1)).alloc (.cells #[.slice (some ⟨gk, 0, none⟩) n n, .slice (some ⟨gn, 0, none⟩) n n, .slice none 0 0, .int .i64 (-1), .bool false, .int .i64 0] t2)).heap.size = w.heap.size + 1 + 1 + 1 := by simp
  generalize ((w.alloc (.cells Z t1)).alloc (.cells Z t1)).alloc (.cells #[.slice (some ⟨gk, 0, none⟩) n n, .slice (some ⟨gn, 0, none⟩) n n, .slice none 0 0, .int .i64 (-1), .bool false, .int .i64 0] t2) = w3 at *
  have hp : ∀ q, (q = w.heap.size ∨ q = w.heap.size + 1) → Pre encU8 w3 q ((List.replicate n (zeros 64)).flatten) := by
    intro q hq
    refine ⟨t1, [], ?_⟩
    rw [List.append_nil, zeros_cells, hZ]
    rcases hq with rfl | rfl
    · exact hb1'
    · exact hb2'
  have hln : (Dsk.new n).now.length = n := List.length_replicate
  refine ⟨⟨gk, gn, .slice none 0 0, Dsk.Ok.new h1 hn, ⟨t2, n, n, by rw [hln]; exact Nat.le_refl _, by rw [hln]; exact Nat.le_refl _, by rw [hln]; exact hb3⟩, ?_, ?_, Own.nil _ _ _ _ _, by omega, fun g hg => by simp [Value.ownBlock] at hg, by simp; omega, fun x hx => ?_⟩, (((hx1.trans hx2).trans hx3).trans (Ext.drew _))⟩
  · exact hp gk (by omega)
  · exact hp gn (by omega)
  · show x < w3.heap.size
    rw [hz3]; simp at hx; omega
theorem new_bad (w : World) (n : Int) (hn : n < 1 ∨ 16384 < n) :
    Calls Try.prog 12 #[.int .i64 n] w fun e w' => e = .returned (.tuple #[.pointer none, .int .i64 2]) ∧ w = w' := by
  rcases hn with hn | hn
  · have d0 : decide (n < 1) = true := decide_eq_true hn
    go_enter Try.func12, Try.ntmps12
    go_wp2
    go_ret2
    exact ⟨rfl, rfl⟩
  · have d0 : decide (n < 1) = false := decide_eq_false (by omega)
    have d1 : decide (16384 < n) = true := decide_eq_true hn
    go_enter Try.func12, Try.ntmps12
    go_wp2
    go_ret2
    exact ⟨rfl, rfl⟩
theorem new_ok (w : World) (n : Nat) (h1 : 1 ≤ n) (hn : n ≤ 16384) :
    Calls Try.prog 12 #[.int .i64 (n : Int)] w fun e w' => ∃ db F, e = .returned (.tuple #[.pointer (some ⟨db, 0, none⟩), .int .i64 0]) ∧ DiskAt w' F db (Dsk.new n) ∧ (∀ x ∈ F, w.heap.size ≤ x) ∧ Ext w w' := by
  have d0 : decide ((n : Int) < 1) = false := decide_eq_false (by omega)
  have d1 : decide (16384 < (n : Int)) = false := decide_eq_false (by omega)
  have d1' : decide (16384 < n) = false := decide_eq_false (by omega)
  have hmk := make_secs n hn
  generalize hZ : (List.replicate (n * 64) (Value.int .u8 0)).toArray = Z at *
  have HZ := Lib.hid hZ
  clear hZ
  go_enter Try.func12, Try.ntmps12
  go_wp2
  go_region
  · obtain ⟨q1, q2⟩ := new_disk w n w.heap.size (w.heap.size + 1) h1 hn (.inl ⟨rfl, rfl⟩) Z HZ.out 119 104
    have HQ1 := Lib.hid q1
    have HQ2 := Lib.hid q2
    clear q1 q2 hmk
    go_wp2
    go_ret2
    exact ⟨_, _, rfl, HQ1.out, (by simp; omega), HQ2.out⟩
  · obtain ⟨q1, q2⟩ := new_disk w n (w.heap.size + 1) w.heap.size h1 hn (.inr ⟨rfl, rfl⟩) Z HZ.out 119 104
    have HQ1 := Lib.hid q1
    have HQ2 := Lib.hid q2
    clear q1 q2 hmk
    go_wp2
    go_ret2
    exact ⟨_, _, rfl, HQ1.out, (by simp; omega), HQ2.out⟩
end Go.Proofs.Ytkmnjccklnfcdaa
