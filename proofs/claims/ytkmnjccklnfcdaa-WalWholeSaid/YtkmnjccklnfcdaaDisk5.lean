/- A disk in memory: Fuse, Write. -/
import Derived.Test.YtkmnjccklnfcdaaDiskA
import Derived.Test.YtkmnjccklnfcdaaLibBuild
import Derived.RegionTactic
import Derived.Great.BuildSlice
import Derived.Laws.Cover3
namespace Go.Proofs.Ytkmnjccklnfcdaa
open Go Go.RowKit Bst
set_option linter.unusedVariables false
set_option linter.unusedSimpArgs false

theorem fuse_ok (w : World) (F : List Nat) (db : Nat) (d : Dsk) (h : DiskAt w F db d) (n : Int) (hn : n ≤ 9223372036854775807) :
    Calls Try.prog 23 #[.pointer (some ⟨db, 0, none⟩), .int .i64 n] w fun e w' => e = .returned (.tuple #[]) ∧ DiskAt w' F db (d.fused n) ∧ Keep [db] w [db] w' := by
  have H := Lib.hid h
  obtain ⟨gk, gn, v, h⟩ := h
  have HR := Lib.hid h
  obtain ⟨t, ck, cn, h1, h2, h3⟩ := h.head
  obtain ⟨-, -, -, c3, -, -, hf⟩ := h.cells
  have f3 := hf 3
  clear h hf
  have hW : Hid ((w.setCell ⟨db, 3, none⟩ (.int .i64 (max n (-1)))).heap[db]? = some (.cells #[.slice (some ⟨gk, 0, none⟩) d.now.length ck, .slice (some ⟨gn, 0, none⟩) d.now.length cn, v, .int .i64 (max n (-1)), .bool d.off, .int .i64 (d.lives : Int)] t (0, 0))) := by
    rw [Hid, set_blk h3 3]
    rfl
  have hK : Hid (Keep [db] w [db] (w.setCell ⟨db, 3, none⟩ (.int .i64 (max n (-1))))) := Keep.setCell [db] _ _ _ (by simp)
  have HD : Hid (DiskAt (w.setCell ⟨db, 3, none⟩ (.int .i64 (max n (-1)))) F db (d.fused n)) :=
    (HR.out.rehead hK.out (HR.out.ok.fused hn) rfl rfl rfl ⟨t, ck, cn, h1, h2, hW.out⟩).at_
  clear h3 hW
  by_cases hq : -1 ≤ n
  · rw [Int.max_eq_left hq] at hK HD
    go_enter Try.func23, Try.ntmps23
    go_wp2_with (go_at_call 72; refine (is_ok w F db d H.out).mono ?_; rintro e w' ⟨rfl, rfl⟩)
    all_goals first | omega | skip
    go_end0
    exact ⟨rfl, HD.out, hK.out⟩
  · rw [Int.max_eq_right (by omega)] at hK HD
    go_enter Try.func23, Try.ntmps23
    go_wp2_with (go_at_call 72; refine (is_ok w F db d H.out).mono ?_; rintro e w' ⟨rfl, rfl⟩)
    all_goals first | omega | skip
    go_end0
    exact ⟨rfl, HD.out, hK.out⟩
def z65 : List Value := Value.int .i64 0 :: z64
theorem one_cons (n : Int) {cs : List Value} (h : ∀ v ∈ cs, v.oneCell' = true) : ∀ v ∈ Value.int .i64 n :: cs, v.oneCell' = true := by
  intro v hv
  rcases List.mem_cons.1 hv with rfl | hv
  · rfl
  · exact h v hv
theorem z65_length : z65.length = 65 := rfl
set_option maxRecDepth 100000 in
theorem info_wr : (Try.prog.info? 121).map (fun i => (i.zero, i.size, i.bytes)) = some (some (.agg z65.toArray), 65, 72) := by kernel_rfl
theorem iw : ∃ i, Try.prog.info? 121 = some i ∧ i.zero = some (.agg z65.toArray) ∧ i.size = 65 ∧ i.bytes = 72 := info_parts (by rw [info_wr])
set_option maxRecDepth 100000 in
theorem info65 : (Try.prog.info? 121).map (·.size) = some 65 := by kernel_rfl
set_option maxRecDepth 100000 in
theorem zero65 (w : World) : (zeroValue 121).run Try.prog w = .ok (.agg z65.toArray) w := by kernel_rfl
set_option maxRecDepth 100000 in
theorem places_wr : (match Try.prog.underlying 121 with | some (.struct fs) => fs.toList.mapM (fun f => (Try.prog.info? f.type).map fun i => (f.offset, i.size)) | _ => none) = some [(0, 1), (1, 64)] := by kernel_rfl
set_option maxRecDepth 100000 in
theorem built_wr (n : Int) (cs : List Value) (h : cs.length = 64) : Try.prog.built 121 [(0, .int .i64 n), (1, .agg cs.toArray)] = some (Value.int .i64 n :: cs).toArray := by
  obtain ⟨i, hi, hz, hs, hb⟩ := iw
  have hp := places_wr
  rw [Try.underlying121] at hp
  refine built_pair hi Try.underlying121 hz _ rfl cs ?_ (by rw [h]; exact hp)
  show z65.toArray.size = _
  rw [h]; rfl
set_option maxRecDepth 100000 in
theorem et_wr : ET Try.prog 102 121 (.agg z65.toArray) 65 72 := by
  obtain ⟨i, hi, hz, hs, hb⟩ := iw
  exact ⟨rfl, ⟨i, hi, hz, hs, hb⟩, rfl, by omega⟩
theorem flat_wr {w w' : World} {F F' : List Nat} : ∀ (l : List (Int × Sec)) (xs : List Value), Flat KWr F w xs l → Flat KWr F' w' xs l := by
  intro l
  induction l with
  | nil => intro xs h; exact h
  | cons a l ih =>
    intro xs h
    obtain ⟨cs, ys, rfl, ⟨c1, c2, rfl, e1, e2⟩, h2⟩ := h
    exact ⟨_, ys, rfl, ⟨c1, c2, rfl, e1, e2⟩, ih _ h2⟩
theorem own_wr {w : World} {F F' : List Nat} {base : Nat} {e : TypeId} {v : Value} {l : List (Int × Sec)} (h : Own KWr F w base e v l) (hv : ∀ g, v.ownBlock = some g → g ∈ F') : Own KWr F' w base e v l := by
  obtain ⟨⟨xs, h1, h2⟩, _⟩ := h
  exact ⟨⟨xs, h1, flat_wr _ _ h2⟩, hv⟩
theorem DiskRaw.ext {w w' : World} {F : List Nat} {db gk gn : Nat} {v : Value} {d : Dsk} (h : DiskRaw w F db gk gn v d) (q : Ext w w') : DiskRaw w' F db gk gn v d := by
  obtain ⟨t, ck, cn, h1, h2, h3⟩ := h.head
  exact ⟨h.ok, ⟨t, ck, cn, h1, h2, by rw [q.block db (heap_lt h3) (by simp)]; exact h3⟩, h.kept.keep (q.keep []) (by simp), h.now.keep (q.keep []) (by simp), h.wait.ext_ q, h.ne, h.apart, h.inF, fun x hx => Nat.lt_of_lt_of_le (h.ltF x hx) q.size⟩
theorem Pre.put {w : World} {g : Nat} {l : List UInt8} (h : Pre encU8 w g l) (ty : TypeId) (o : Nat) (b : List UInt8) (ho : o + b.length ≤ l.length) (hi : (Try.prog.info? ty).map (·.size) = some b.length) :
    ∃ w', (storeVar ty ⟨g, o, none⟩ (.agg (b.map encU8).toArray)).run Try.prog w = .ok () w' ∧ Pre encU8 w' g (putAt l o b) ∧ Keep [g] w [g] w' := by
  obtain ⟨t, more, hg⟩ := h
  obtain ⟨w', h1, h2, h3⟩ := run_store_many (P := Try.prog) w g o t ty (l.map encU8 ++ more) (b.map encU8) hg (by rw [List.length_map]; exact hi) (by simp; omega) (by intro v hv; obtain ⟨x, _, rfl⟩ := List.mem_map.1 hv; rfl)
  refine ⟨w', h1, ⟨t, more, ?_⟩, h3⟩
  rw [h2, putAt_append (by simpa using ho), putAt_map]
theorem own_wr_keep {w w' : World} {F F' G : List Nat} {base : Nat} {e : TypeId} {v : Value} {l : List (Int × Sec)} (h : Own KWr F w base e v l) (k : Keep G w G w') (hn : ∀ g, v.ownBlock = some g → g ∉ G) (hv : ∀ g, v.ownBlock = some g → g ∈ F') : Own KWr F' w' base e v l := by
  obtain ⟨⟨xs, h1, h2⟩, h3⟩ := h
  refine ⟨⟨xs, ⟨h1.1, ?_⟩, flat_wr _ _ h2⟩, hv⟩
  rcases h1.2 with hh | ⟨g, cap, cur, rfl, hb, hgg, rest⟩
  · exact .inl hh
  · refine .inr ⟨g, cap, cur, rfl, hb, ?_, rest⟩
    rw [k.block g (Array.getElem?_eq_some_iff.1 hgg).1 (hn g (by simp [Value.ownBlock]))]
    exact hgg
set_option maxRecDepth 100000 in
/-- What the two steps of a write do. -/
theorem write_plan (w : World) (F : List Nat) (db gk gn : Nat) (v : Value) (d : Dsk) (h : DiskRaw w F db gk gn v d) (n : Nat) (hn : n < d.now.length) (b : List UInt8) (hb : b.length = 64) (hw : d.wait.length < 1000000000)
    (nb : Nat) (hnb : w.heap[nb]? = some (.cells (Value.int .i64 (n : Int) :: b.map encU8).toArray 121 (0, 0))) (hnF : nb ∉ F) :
    ∃ v' w3 w5 F',
      (Instr.loadAt 121 (.pointer (some ⟨nb, 0, none⟩))).run Try.prog w.drew = .ok (.agg (Value.int .i64 (n : Int) :: b.map encU8).toArray) w.drew ∧
      (Instr.buildSlice 102 1 #[(0, .agg (Value.int .i64 (n : Int) :: b.map encU8).toArray)]).run Try.prog w.drew = .ok (.slice (some ⟨w.heap.size, 0, none⟩) 1 1) (w.drew.alloc (.cells (Value.int .i64 (n : Int) :: b.map encU8).toArray 121)) ∧
      (Builtin.append_ #[102, 102] 102 #[v, .slice (some ⟨w.heap.size, 0, none⟩) 1 1]).run Try.prog (w.drew.alloc (.cells (Value.int .i64 (n : Int) :: b.map encU8).toArray 121)) = .ok v' w3 ∧
      w3.cell? ⟨db, 2, none⟩ = some v ∧ w3.frozen? ⟨db, 2, none⟩ = false ∧
      (∃ c, n < c ∧ (w3.setCell ⟨db, 2, none⟩ v').cell? ⟨db, 1, none⟩ = some (.slice (some ⟨gn, 0, none⟩) d.now.length c)) ∧
      (Instr.loadAt 119 (.pointer (some ⟨nb, 1, none⟩))).run Try.prog (w3.setCell ⟨db, 2, none⟩ v').drew = .ok (.agg (b.map encU8).toArray) (w3.setCell ⟨db, 2, none⟩ v').drew ∧
      (Instr.storeAt 119 (.pointer (some ⟨gn, n * 64, none⟩)) (.agg (b.map encU8).toArray)).run Try.prog (w3.setCell ⟨db, 2, none⟩ v').drew = .ok () w5 ∧
      DiskRaw w5 F' db gk gn v' (d.put n b) ∧ Keep F w F' w5 ∧ (∃ A k c, v' = .slice A k c) ∧ ∀ x ∈ F, x ∈ F' := by
  have hd := h.ext (Ext.drew w)
  have hnb' : w.drew.heap[nb]? = some (.cells (Value.int .i64 (n : Int) :: b.map encU8).toArray 121 (0, 0)) := hnb
  have hsz : w.drew.heap.size = w.heap.size := rfl
  obtain ⟨i, hi, hz, hs, hby⟩ := iw
  have hown : Own KWr v.ownBlock.toList w.drew 0 121 v d.wait := own_wr hd.wait (fun g hg => by simp [hg])
  have hR : KWr.R v.ownBlock.toList w.drew (Value.int .i64 (n : Int) :: b.map encU8) ((n : Int), b) := by
    have := h.ok.le
    exact ⟨[Value.int .i64 (n : Int)], b.map encU8, rfl, ⟨rfl, by unfold InI64; omega⟩, rfl, hb⟩
  have hltO : ∀ x ∈ v.ownBlock.toList, x < w.drew.heap.size := fun x hx => (hown.lt x (by simpa using hx)).2
  have hwl := h.ok.waits
  obtain ⟨v', w3, F0, r1, r2, r3, ⟨r4, r5⟩, r6⟩ := run_app et_wr 102 (w.drew.alloc (.cells (Value.int .i64 (n : Int) :: b.map encU8).toArray 121)) 0 v.ownBlock.toList v d.wait [((n : Int), b)] (some ⟨w.drew.heap.size, 0, none⟩) 1 (hown.alloc _) (Sl.single hR hltO) (by simp; omega) (by simp; omega) (Nat.zero_le _)
  have hK3 : Keep v.ownBlock.toList w v.ownBlock.toList w3 := (((Ext.drew w).trans (Ext.alloc _ _)).keep _).trans r4
  have hapD : db ∉ v.ownBlock.toList := fun hm => (h.apart db (by simpa using hm)).1 rfl
  have hapK : gk ∉ v.ownBlock.toList := fun hm => (h.apart gk (by simpa using hm)).2.1 rfl
  have hapN : gn ∉ v.ownBlock.toList := fun hm => (h.apart gn (by simpa using hm)).2.2 rfl
  have hapB : nb ∉ v.ownBlock.toList := fun hm => hnF (h.wait.2 nb (by simpa using hm))
  obtain ⟨t, ck, cn, q1, q2, q3⟩ := h.head
  have q3' := q3
  rw [← hK3.block db (heap_lt q3) hapD] at q3'
  have hset := set_blk q3' 2 v'
  have hK4 : Keep [db] w3 [db] (w3.setCell ⟨db, 2, none⟩ v').drew := (Keep.setCell [db] _ _ _ (by simp)).trans ((Ext.drew _).keep _)
  have hne := h.ne
  have hnbD : nb ∉ [db] := by intro hm; rw [List.mem_singleton.1 hm] at hnF; exact hnF h.inF.1
  have hnb4 : (w3.setCell ⟨db, 2, none⟩ v').drew.heap[nb]? = some (.cells (Value.int .i64 (n : Int) :: b.map encU8).toArray 121 (0, 0)) := by
    rw [hK4.block nb (Nat.lt_of_lt_of_le (heap_lt hnb) hK3.size) hnbD, hK3.block nb (heap_lt hnb) hapB]; exact hnb
  have hnow3 : Pre encU8 (w3.setCell ⟨db, 2, none⟩ v').drew gn d.now.flatten := (h.now.keep hK3 hapN).keep hK4 (by simp; omega)
  have hfl := flat_length h.ok.nowS
  obtain ⟨w5, s1, s2, s3⟩ := Pre.put hnow3 119 (n * 64) b (by rw [hfl, hb]; omega) (by rw [hb]; exact info64)
  rw [flat_set h.ok.nowS hn hb] at s2
  refine ⟨v', w3, w5, F ++ F0, ?_, ?_, r1, cell_blk q3' 2, frozen_blk q3' 2, ⟨cn, by omega, cell_blk hset 1⟩, ?_, ?_, ?_, ?_, by obtain ⟨A, c, hv, _⟩ := r2.form (by simp; omega); exact ⟨A, _, c, hv⟩, fun x hx => List.mem_append_left _ hx⟩
  · exact run_loadAt_mid w.drew nb 0 121 _ _ (fun j u hu => by rw [Nat.zero_add, cell_of_row w.drew nb j _ _ _ hnb']; simpa using hu) Try.underlying121 rfl (by rw [List.length_cons, List.length_map, hb]; exact info65)
  · exact run_slice_one w.drew 102 121 i _ rfl hi hz _ (by rw [hs, List.length_cons, List.length_map, hb]) (by simp) (by rw [List.length_cons, List.length_map, hb]; omega)
  · exact run_loadAt_mid (w3.setCell ⟨db, 2, none⟩ v').drew nb 1 119 _ _ (fun j u hu => by rw [Nat.add_comm, cell_of_row _ nb (j + 1) _ _ _ hnb4]; simpa using hu) Try.underlying119 rfl (by rw [List.length_map, hb]; exact info64)
  · simp only [Instr.storeAt, Instr.sureAddr, Sem.run_bind, Sem.run_pure, Result.andThen_ok, s1]
  · have hgnw : gn < w.heap.size := h.now.lt
    have hK5 : Keep [db, gn] w3 [db, gn] w5 := (hK4.widen (by simp)).trans (s3.widen (by simp))
    have hv' : ∀ g, v'.ownBlock = some g → g ≠ db ∧ g ≠ gk ∧ g ≠ gn := by
      intro g hg
      rcases r3.fresh g (r2.2 g hg) with h1 | h1
      · exact h.apart g (by simpa using h1)
      · have e1 := h.ltF db h.inF.1
        have e2 := h.ltF gk h.inF.2.1
        simp at h1
        omega
    refine ⟨h.ok.put (by omega) (by omega) hb hw, ⟨t, ck, cn, ?_, ?_, ?_⟩, ?_, s2, ?_, h.ne, hv', ⟨List.mem_append_left _ h.inF.1, List.mem_append_left _ h.inF.2.1, List.mem_append_left _ h.inF.2.2⟩, ?_⟩
    · show (d.now.set _ _).length ≤ ck; rw [List.length_set]; exact q1
    · show (d.now.set _ _).length ≤ cn; rw [List.length_set]; exact q2
    · rw [s3.block db (by simp [World.setCell]; exact heap_lt q3') (by simp; omega)]
      show (w3.setCell ⟨db, 2, none⟩ v').heap[db]? = _
      rw [hset]
      show _ = some (Obj.cells #[.slice (some ⟨gk, 0, none⟩) (d.now.set _ _).length ck, .slice (some ⟨gn, 0, none⟩) (d.now.set _ _).length cn, v', .int .i64 d.fuse, .bool d.off, .int .i64 (d.lives : Int)] t (0, 0))
      rw [List.length_set]
      rfl
    · exact ((h.kept.keep hK3 hapK).keep hK5 (by simp; omega))
    · exact own_wr_keep r2 hK5 (fun g hg => by have := hv' g hg; simp; omega) (fun g hg => List.mem_append_right _ (r2.2 g hg))
    · intro x hx
      rcases List.mem_append.1 hx with h1 | h1
      · exact Nat.lt_of_lt_of_le (h.ltF x h1) (Nat.le_trans hK3.size hK5.size)
      · exact Nat.lt_of_lt_of_le (r5 (fun b hb => Nat.lt_of_lt_of_le (hltO b hb) (by simp)) x h1) hK5.size
  · have hK5 : Keep [db, gn] w3 [db, gn] w5 := (hK4.widen (by simp)).trans (s3.widen (by simp))
    have h1 : Keep F w F w3 := hK3.widen (fun x hx => h.wait.2 x (by simpa using hx))
    have h2 : Keep F w3 F w5 := hK5.widen (fun x hx => by simp at hx; rcases hx with rfl | rfl; exact h.inF.1; exact h.inF.2.2)
    have h3 := h1.trans h2
    refine ⟨h3.os, h3.tape, h3.output, h3.size, h3.block, fun x hx => ?_⟩
    rcases List.mem_append.1 hx with h4 | h4
    · exact .inl h4
    · rcases r3.fresh x h4 with h5 | h5
      · exact .inl (h.wait.2 x (by simpa using h5))
      · right; simp at h5; omega
set_option maxRecDepth 100000 in
set_option maxHeartbeats 4000000 in
theorem write_ok (w : World) (F : List Nat) (db : Nat) (d : Dsk) (h : DiskAt w F db d) (n : Nat) (hn : n < d.now.length) (ho : d.off = false) (b : List UInt8) (hb : b.length = 64) (A : Option Addr) (c : Nat) (hs : Sl Kd.u8 F w A c b) (hw : d.wait.length < 1000000000) :
    Calls Try.prog 21 #[.pointer (some ⟨db, 0, none⟩), .int .i64 (n : Int), .slice A (64 : Nat) c] w fun e w' => e = .returned (.int .i64 (if (d.put n b).burnt.off then 30 else 0)) ∧ ∃ F', DiskAt w' F' db (d.put n b).burnt ∧ Keep F w F' w' ∧ ∀ x ∈ F, x ∈ F' := by
  have H := Lib.hid h
  have HM : Hid (d.may (n : Int) = 0) := by
    rcases d.may_cases n with ⟨h1, _⟩ | ⟨_, h1, _⟩ | ⟨_, _, _, h1⟩
    · rw [ho] at h1; cases h1
    · omega
    · exact h1
  obtain ⟨gk, gn, v, h⟩ := h
  have HR := Lib.hid h
  have hAr := run_arrayAt (P := Try.prog) (w := w) 119 5 64 A 64 c (by kernel_rfl) (Nat.le_refl _)
  obtain ⟨gb, ob, rfl, -, -, hc⟩ := hs.2.2 (by omega)
  obtain ⟨cs, hcs⟩ : ∃ cs, cs = b.map encU8 := ⟨_, rfl⟩
  have hcell : ∀ j v, cs[j]? = some v → w.cell? ((⟨gb, ob, none⟩ : Addr).add j) = some v := by
    intro j v hv
    rw [hcs, List.getElem?_map] at hv
    cases hx : b[j]? with
    | none => rw [hx] at hv; cases hv
    | some x =>
      rw [hx] at hv
      obtain ⟨ds, rfl, hd⟩ := hc j x hx
      have := hd 0 _ rfl
      rw [Addr.add_lit]
      simp at hv; rw [← hv]
      simpa [Kd.u8, encU8] using this
  have HC := Lib.hid hcell
  have HL : Hid (cs.length = 64) := by rw [hcs, Hid, List.length_map, hb]
  have H1 : Hid (∀ v ∈ cs, v.oneCell' = true) := by rw [hcs]; intro v hv; obtain ⟨x, _, rfl⟩ := List.mem_map.1 hv; rfl
  have HCS := Lib.hid hcs
  clear h hcell hcs hc
  obtain ⟨x, hx⟩ : ∃ x, (d.put n b).burnt.off = x := ⟨_, rfl⟩
  rw [hx]
  have HX := Lib.hid hx
  clear hx
  go_enter Try.func21, Try.ntmps21
  go_wp2_with (first
    | (go_at_call 74; refine (may_ok w F db d H.out n).mono ?_; rw [HM.out]; rintro e w' ⟨rfl, rfl⟩)
    | (refine wp_load_many (o := ⟨some 21, .load _ _, _, _, _, _⟩) rfl 119 _ rfl w ⟨gb, ob, none⟩ rfl cs _ HC.out Try.underlying119 rfl (by rw [HL.out]; exact info64) ?_)
    | (refine wp_build_two (o := ⟨some 22, .build _ _, _, _, _, _⟩) rfl _ _ _ rfl w _ _ rfl rfl _ (built_wr n cs HL.out) ?_)
    | (refine wp_var_many (o := ⟨some 8, .alloc _, _, _, _, _⟩) (o2 := ⟨none, .store _ _ _, _, _, _, _⟩) rfl rfl 121 rfl _ _ rfl w z65 (Value.int .i64 n :: cs) zero65 rfl rfl (by rw [List.length_cons, HL.out]; exact info65) (by rw [List.length_cons, HL.out]; exact z65_length) (one_cons n H1.out) ?_))
  intro w2 hb2 hx2 hlt2
  have hnbF : w.heap.size ∉ F := fun hm => by have := HR.out.ltF _ hm; omega
  obtain ⟨nb, hnb⟩ : ∃ nb, nb = w.heap.size := ⟨_, rfl⟩
  rw [← hnb] at hb2 hnbF ⊢
  obtain ⟨v', w3, w5, F', p1, p2, p3, p4, p5, ⟨c1, hc1, p6⟩, p7, p8, p9, p10, ⟨A', k', c', rfl⟩, p11⟩ := write_plan w2 F db gk gn v d (HR.out.ext hx2) n hn b hb hw nb (by rw [← HCS.out]; exact hb2) hnbF
  rw [← HCS.out] at p1 p2 p3 p7 p8
  have c2 := (HR.out.ext hx2).cells.2.2.1
  obtain ⟨ws, hws⟩ : ∃ ws, ws = Value.int .i64 (n : Int) :: cs := ⟨_, rfl⟩
  rw [← hws] at p1 p2 p3
  have c2' : (w2.alloc (.cells ws.toArray 121)).cell? ⟨db, 2, none⟩ = some v := by rw [World.cell?_alloc_lt w2 _ _ (World.block_lt_of_cell? w2 _ c2)]; exact c2
  have P9 := Lib.hid p9
  have hKw : Keep F w F' w5 := (hx2.keep F).trans p10
  have PK := Lib.hid hKw
  have PF := Lib.hid p11
  have HOFF : Hid ((d.put n b).off = false) := ho
  have HN := Lib.hid ho
  clear hnb hb2 hx2 hlt2 p9 p10 p11 hws hAr hs hKw hnbF hw hb ho
  go_wp2
  refine wp_region_any (by kernel_rfl) ?_
  try (change wpAny _ _ _ _ _ _ _ (World.drew _))
  refine wpAny_take (i := 0) (v := ?_) rfl (by kernel_rfl) (by kernel_rfl) (by kernel_rfl) (fun _ _ _ h => h) (Or.inl ⟨by rfl, ?_⟩) ?_
  rotate_left
  · ((intro w; go_simp); try with_reducible rfl)
  try simp only [Act.put, List.setIfInBounds_toArray, List.set_cons_zero, List.set_cons_succ]
  refine wpAny_take (i := 1) (v := ?_) rfl (by kernel_rfl) (by kernel_rfl) (by kernel_rfl) (fun _ _ _ h => h) (Or.inl ⟨by rfl, ?_⟩) ?_
  rotate_left
  · ((intro w; go_simp); try with_reducible rfl)
  try simp only [Act.put, List.setIfInBounds_toArray, List.set_cons_zero, List.set_cons_succ]
  refine wpAny_take (i := 2) (v := ?_) rfl (by kernel_rfl) (by kernel_rfl) (by kernel_rfl) (fun _ _ _ h => h) (Or.inl ⟨by rfl, ?_⟩) ?_
  rotate_left
  · ((intro w; go_simp); try with_reducible rfl)
  try simp only [Act.put, List.setIfInBounds_toArray, List.set_cons_zero, List.set_cons_succ]
  refine wpAny_take (i := 3) (v := ?_) rfl (by kernel_rfl) (by kernel_rfl) (by kernel_rfl) (fun _ _ _ h => h) (Or.inl ⟨by rfl, ?_⟩) ?_
  rotate_left
  · ((intro w; go_simp); try with_reducible rfl)
  try simp only [Act.put, List.setIfInBounds_toArray, List.set_cons_zero, List.set_cons_succ]
  refine wpAny_ready (rs := [4, 5]) (by kernel_rfl) (by simp) ?_
  refine AllReady.cons rfl (fun K hK => ?_) ?_
  · go_simp
    refine hK _ _ ?_
    clear hK K
    try simp only [Act.put, List.setIfInBounds_toArray, List.set_cons_zero, List.set_cons_succ]
    refine wpAny_ready (rs := [5]) (by kernel_rfl) (by simp) ?_
    refine AllReady.cons rfl (fun K hK => ?_) ?_
    · rw [if_pos (by rfl)]
      refine st_load _ _ rfl _ _ rfl _ p1 ?_
      refine hK _ _ ?_
      clear hK K
      try simp only [Act.put, List.setIfInBounds_toArray, List.set_cons_zero, List.set_cons_succ]
      refine wpAny_ready (rs := [6]) (by kernel_rfl) (by simp) ?_
      refine AllReady.cons rfl (fun K hK => ?_) ?_
      · rw [if_pos (by rfl)]
        refine st_slice1 _ _ rfl _ _ rfl _ p2 ?_
        refine hK _ _ ?_
        clear hK K
        try simp only [Act.put, List.setIfInBounds_toArray, List.set_cons_zero, List.set_cons_succ]
        refine wpAny_ready (rs := [7]) (by kernel_rfl) (by simp) ?_
        refine AllReady.cons rfl (fun K hK => ?_) ?_
        · rw [if_pos (by rfl)]
          refine st_append _ _ _ _ rfl _ _ _ rfl rfl _ p3 ?_
          refine hK _ _ ?_
          clear hK K
          try simp only [Act.put, List.setIfInBounds_toArray, List.set_cons_zero, List.set_cons_succ]
          refine wpAny_take (i := 8) (v := ?_) rfl (by kernel_rfl) (by kernel_rfl) (by kernel_rfl) (fun _ _ _ h => h) (Or.inl ⟨by rfl, ?_⟩) ?_
          rotate_left
          · ((intro w; go_simp); try with_reducible rfl)
          try simp only [Act.put, List.setIfInBounds_toArray, List.set_cons_zero, List.set_cons_succ]
          refine wpAny_take (i := 9) (v := ?_) rfl (by kernel_rfl) (by kernel_rfl) (by kernel_rfl) (fun _ _ _ h => h) (Or.inl ⟨by rfl, ?_⟩) ?_
          rotate_left
          · ((intro w; go_simp); try with_reducible rfl)
          try simp only [Act.put, List.setIfInBounds_toArray, List.set_cons_zero, List.set_cons_succ]
          refine wpAny_ready (rs := [10]) (by kernel_rfl) (by simp) ?_
          refine AllReady.cons rfl (fun K hK => ?_) ?_
          · go_simp
            refine hK _ _ ?_
            clear hK K
            try simp only [Act.put, List.setIfInBounds_toArray, List.set_cons_zero, List.set_cons_succ]
            refine wpAny_done (by kernel_rfl) ?_ _
            go_wp2
            refine wp_region_any (by kernel_rfl) ?_
            try (change wpAny _ _ _ _ _ _ _ (World.drew _))
            refine wpAny_take (i := 0) (v := ?_) rfl (by kernel_rfl) (by kernel_rfl) (by kernel_rfl) (fun _ _ _ h => h) (Or.inl ⟨by rfl, ?_⟩) ?_
            rotate_left
            · ((intro w; go_simp); try with_reducible rfl)
            try simp only [Act.put, List.setIfInBounds_toArray, List.set_cons_zero, List.set_cons_succ]
            refine wpAny_take (i := 1) (v := ?_) rfl (by kernel_rfl) (by kernel_rfl) (by kernel_rfl) (fun _ _ _ h => h) (Or.inl ⟨by rfl, ?_⟩) ?_
            rotate_left
            · ((intro w; go_simp); try with_reducible rfl)
            try simp only [Act.put, List.setIfInBounds_toArray, List.set_cons_zero, List.set_cons_succ]
            refine wpAny_take (i := 2) (v := ?_) rfl (by kernel_rfl) (by kernel_rfl) (by kernel_rfl) (fun _ _ _ h => h) (Or.inl ⟨by rfl, ?_⟩) ?_
            rotate_left
            · ((intro w; go_simp); try with_reducible rfl)
            try simp only [Act.put, List.setIfInBounds_toArray, List.set_cons_zero, List.set_cons_succ]
            refine wpAny_take (i := 4) (v := ?_) rfl (by kernel_rfl) (by kernel_rfl) (by kernel_rfl) (fun _ _ _ h => h) (Or.inl ⟨by rfl, ?_⟩) ?_
            rotate_left
            · ((intro w; go_simp); try with_reducible rfl)
            try simp only [Act.put, List.setIfInBounds_toArray, List.set_cons_zero, List.set_cons_succ]
            refine wpAny_take (i := 5) (v := ?_) rfl (by kernel_rfl) (by kernel_rfl) (by kernel_rfl) (fun _ _ _ h => h) (Or.inl ⟨by rfl, ?_⟩) ?_
            rotate_left
            · ((intro w; go_simp); try with_reducible rfl)
            try simp only [Act.put, List.setIfInBounds_toArray, List.set_cons_zero, List.set_cons_succ]
            refine wpAny_ready (rs := [3, 6]) (by kernel_rfl) (by simp) ?_
            refine AllReady.cons rfl (fun K hK => ?_) ?_
            · go_simp
              refine hK _ _ ?_
              clear hK K
              try simp only [Act.put, List.setIfInBounds_toArray, List.set_cons_zero, List.set_cons_succ]
              refine wpAny_ready (rs := [6]) (by kernel_rfl) (by simp) ?_
              refine AllReady.cons rfl (fun K hK => ?_) ?_
              · rw [if_pos (by rfl)]
                refine st_load _ _ rfl _ _ rfl _ p7 ?_
                refine hK _ _ ?_
                clear hK K
                try simp only [Act.put, List.setIfInBounds_toArray, List.set_cons_zero, List.set_cons_succ]
                refine wpAny_take (i := 7) (v := ?_) rfl (by kernel_rfl) (by kernel_rfl) (by kernel_rfl) (fun _ _ _ h => h) (Or.inl ⟨by rfl, ?_⟩) ?_
                rotate_left
                · ((intro w; go_simp); try with_reducible rfl)
                try simp only [Act.put, List.setIfInBounds_toArray, List.set_cons_zero, List.set_cons_succ]
                refine wpAny_ready (rs := [8]) (by kernel_rfl) (by simp) ?_
                refine AllReady.cons rfl (fun K hK => ?_) ?_
                · rw [if_pos (by rfl)]
                  refine st_store _ _ _ rfl _ _ rfl rfl _ p8 ?_
                  refine hK _ _ ?_
                  clear hK K
                  try simp only [Act.put, List.setIfInBounds_toArray, List.set_cons_zero, List.set_cons_succ]
                  refine wpAny_done (by kernel_rfl) ?_ _
                  go_wp2_with (go_at_call 75; refine (burn_ok w5 F' db gk gn _ (d.put n b) P9.out HOFF.out).mono ?_; rw [HX.out]; rintro e w' ⟨rfl, hB, hBK⟩; have HB := Lib.hid hB.at_; have HBK := Lib.hid hBK; clear hB hBK)
                  all_goals go_ret
                  all_goals exact ⟨by simp [*], F', HB.out, PK.out.trans (HBK.out.widen (by simpa using P9.out.inF.1)), PF.out⟩
                exact AllReady.nil
              exact AllReady.nil
            refine AllReady.cons rfl (fun K hK => ?_) ?_
            · rw [if_pos (by rfl)]
              refine st_load _ _ rfl _ _ rfl _ p7 ?_
              refine hK _ _ ?_
              clear hK K
              try simp only [Act.put, List.setIfInBounds_toArray, List.set_cons_zero, List.set_cons_succ]
              refine wpAny_ready (rs := [3]) (by kernel_rfl) (by simp) ?_
              refine AllReady.cons rfl (fun K hK => ?_) ?_
              · go_simp
                refine hK _ _ ?_
                clear hK K
                try simp only [Act.put, List.setIfInBounds_toArray, List.set_cons_zero, List.set_cons_succ]
                refine wpAny_take (i := 7) (v := ?_) rfl (by kernel_rfl) (by kernel_rfl) (by kernel_rfl) (fun _ _ _ h => h) (Or.inl ⟨by rfl, ?_⟩) ?_
                rotate_left
                · ((intro w; go_simp); try with_reducible rfl)
                try simp only [Act.put, List.setIfInBounds_toArray, List.set_cons_zero, List.set_cons_succ]
                refine wpAny_ready (rs := [8]) (by kernel_rfl) (by simp) ?_
                refine AllReady.cons rfl (fun K hK => ?_) ?_
                · rw [if_pos (by rfl)]
                  refine st_store _ _ _ rfl _ _ rfl rfl _ p8 ?_
                  refine hK _ _ ?_
                  clear hK K
                  try simp only [Act.put, List.setIfInBounds_toArray, List.set_cons_zero, List.set_cons_succ]
                  refine wpAny_done (by kernel_rfl) ?_ _
                  go_wp2_with (go_at_call 75; refine (burn_ok w5 F' db gk gn _ (d.put n b) P9.out HOFF.out).mono ?_; rw [HX.out]; rintro e w' ⟨rfl, hB, hBK⟩; have HB := Lib.hid hB.at_; have HBK := Lib.hid hBK; clear hB hBK)
                  all_goals go_ret
                  all_goals exact ⟨by simp [*], F', HB.out, PK.out.trans (HBK.out.widen (by simpa using P9.out.inF.1)), PF.out⟩
                exact AllReady.nil
              exact AllReady.nil
            exact AllReady.nil
          exact AllReady.nil
        exact AllReady.nil
      exact AllReady.nil
    exact AllReady.nil
  refine AllReady.cons rfl (fun K hK => ?_) ?_
  · rw [if_pos (by rfl)]
    refine st_load _ _ rfl _ _ rfl _ p1 ?_
    refine hK _ _ ?_
    clear hK K
    try simp only [Act.put, List.setIfInBounds_toArray, List.set_cons_zero, List.set_cons_succ]
    refine wpAny_ready (rs := [4, 6]) (by kernel_rfl) (by simp) ?_
    refine AllReady.cons rfl (fun K hK => ?_) ?_
    · go_simp
      refine hK _ _ ?_
      clear hK K
      try simp only [Act.put, List.setIfInBounds_toArray, List.set_cons_zero, List.set_cons_succ]
      refine wpAny_ready (rs := [6]) (by kernel_rfl) (by simp) ?_
      refine AllReady.cons rfl (fun K hK => ?_) ?_
      · rw [if_pos (by rfl)]
        refine st_slice1 _ _ rfl _ _ rfl _ p2 ?_
        refine hK _ _ ?_
        clear hK K
        try simp only [Act.put, List.setIfInBounds_toArray, List.set_cons_zero, List.set_cons_succ]
        refine wpAny_ready (rs := [7]) (by kernel_rfl) (by simp) ?_
        refine AllReady.cons rfl (fun K hK => ?_) ?_
        · rw [if_pos (by rfl)]
          refine st_append _ _ _ _ rfl _ _ _ rfl rfl _ p3 ?_
          refine hK _ _ ?_
          clear hK K
          try simp only [Act.put, List.setIfInBounds_toArray, List.set_cons_zero, List.set_cons_succ]
          refine wpAny_take (i := 8) (v := ?_) rfl (by kernel_rfl) (by kernel_rfl) (by kernel_rfl) (fun _ _ _ h => h) (Or.inl ⟨by rfl, ?_⟩) ?_
          rotate_left
          · ((intro w; go_simp); try with_reducible rfl)
          try simp only [Act.put, List.setIfInBounds_toArray, List.set_cons_zero, List.set_cons_succ]
          refine wpAny_take (i := 9) (v := ?_) rfl (by kernel_rfl) (by kernel_rfl) (by kernel_rfl) (fun _ _ _ h => h) (Or.inl ⟨by rfl, ?_⟩) ?_
          rotate_left
          · ((intro w; go_simp); try with_reducible rfl)
          try simp only [Act.put, List.setIfInBounds_toArray, List.set_cons_zero, List.set_cons_succ]
          refine wpAny_ready (rs := [10]) (by kernel_rfl) (by simp) ?_
          refine AllReady.cons rfl (fun K hK => ?_) ?_
          · go_simp
            refine hK _ _ ?_
            clear hK K
            try simp only [Act.put, List.setIfInBounds_toArray, List.set_cons_zero, List.set_cons_succ]
            refine wpAny_done (by kernel_rfl) ?_ _
            go_wp2
            refine wp_region_any (by kernel_rfl) ?_
            try (change wpAny _ _ _ _ _ _ _ (World.drew _))
            refine wpAny_take (i := 0) (v := ?_) rfl (by kernel_rfl) (by kernel_rfl) (by kernel_rfl) (fun _ _ _ h => h) (Or.inl ⟨by rfl, ?_⟩) ?_
            rotate_left
            · ((intro w; go_simp); try with_reducible rfl)
            try simp only [Act.put, List.setIfInBounds_toArray, List.set_cons_zero, List.set_cons_succ]
            refine wpAny_take (i := 1) (v := ?_) rfl (by kernel_rfl) (by kernel_rfl) (by kernel_rfl) (fun _ _ _ h => h) (Or.inl ⟨by rfl, ?_⟩) ?_
            rotate_left
            · ((intro w; go_simp); try with_reducible rfl)
            try simp only [Act.put, List.setIfInBounds_toArray, List.set_cons_zero, List.set_cons_succ]
            refine wpAny_take (i := 2) (v := ?_) rfl (by kernel_rfl) (by kernel_rfl) (by kernel_rfl) (fun _ _ _ h => h) (Or.inl ⟨by rfl, ?_⟩) ?_
            rotate_left
            · ((intro w; go_simp); try with_reducible rfl)
            try simp only [Act.put, List.setIfInBounds_toArray, List.set_cons_zero, List.set_cons_succ]
            refine wpAny_take (i := 4) (v := ?_) rfl (by kernel_rfl) (by kernel_rfl) (by kernel_rfl) (fun _ _ _ h => h) (Or.inl ⟨by rfl, ?_⟩) ?_
            rotate_left
            · ((intro w; go_simp); try with_reducible rfl)
            try simp only [Act.put, List.setIfInBounds_toArray, List.set_cons_zero, List.set_cons_succ]
            refine wpAny_take (i := 5) (v := ?_) rfl (by kernel_rfl) (by kernel_rfl) (by kernel_rfl) (fun _ _ _ h => h) (Or.inl ⟨by rfl, ?_⟩) ?_
            rotate_left
            · ((intro w; go_simp); try with_reducible rfl)
            try simp only [Act.put, List.setIfInBounds_toArray, List.set_cons_zero, List.set_cons_succ]
            refine wpAny_ready (rs := [3, 6]) (by kernel_rfl) (by simp) ?_
            refine AllReady.cons rfl (fun K hK => ?_) ?_
            · go_simp
              refine hK _ _ ?_
              clear hK K
              try simp only [Act.put, List.setIfInBounds_toArray, List.set_cons_zero, List.set_cons_succ]
              refine wpAny_ready (rs := [6]) (by kernel_rfl) (by simp) ?_
              refine AllReady.cons rfl (fun K hK => ?_) ?_
              · rw [if_pos (by rfl)]
                refine st_load _ _ rfl _ _ rfl _ p7 ?_
                refine hK _ _ ?_
                clear hK K
                try simp only [Act.put, List.setIfInBounds_toArray, List.set_cons_zero, List.set_cons_succ]
                refine wpAny_take (i := 7) (v := ?_) rfl (by kernel_rfl) (by kernel_rfl) (by kernel_rfl) (fun _ _ _ h => h) (Or.inl ⟨by rfl, ?_⟩) ?_
                rotate_left
                · ((intro w; go_simp); try with_reducible rfl)
                try simp only [Act.put, List.setIfInBounds_toArray, List.set_cons_zero, List.set_cons_succ]
                refine wpAny_ready (rs := [8]) (by kernel_rfl) (by simp) ?_
                refine AllReady.cons rfl (fun K hK => ?_) ?_
                · rw [if_pos (by rfl)]
                  refine st_store _ _ _ rfl _ _ rfl rfl _ p8 ?_
                  refine hK _ _ ?_
                  clear hK K
                  try simp only [Act.put, List.setIfInBounds_toArray, List.set_cons_zero, List.set_cons_succ]
                  refine wpAny_done (by kernel_rfl) ?_ _
                  go_wp2_with (go_at_call 75; refine (burn_ok w5 F' db gk gn _ (d.put n b) P9.out HOFF.out).mono ?_; rw [HX.out]; rintro e w' ⟨rfl, hB, hBK⟩; have HB := Lib.hid hB.at_; have HBK := Lib.hid hBK; clear hB hBK)
                  all_goals go_ret
                  all_goals exact ⟨by simp [*], F', HB.out, PK.out.trans (HBK.out.widen (by simpa using P9.out.inF.1)), PF.out⟩
                exact AllReady.nil
              exact AllReady.nil
            refine AllReady.cons rfl (fun K hK => ?_) ?_
            · rw [if_pos (by rfl)]
              refine st_load _ _ rfl _ _ rfl _ p7 ?_
              refine hK _ _ ?_
              clear hK K
              try simp only [Act.put, List.setIfInBounds_toArray, List.set_cons_zero, List.set_cons_succ]
              refine wpAny_ready (rs := [3]) (by kernel_rfl) (by simp) ?_
              refine AllReady.cons rfl (fun K hK => ?_) ?_
              · go_simp
                refine hK _ _ ?_
                clear hK K
                try simp only [Act.put, List.setIfInBounds_toArray, List.set_cons_zero, List.set_cons_succ]
                refine wpAny_take (i := 7) (v := ?_) rfl (by kernel_rfl) (by kernel_rfl) (by kernel_rfl) (fun _ _ _ h => h) (Or.inl ⟨by rfl, ?_⟩) ?_
                rotate_left
                · ((intro w; go_simp); try with_reducible rfl)
                try simp only [Act.put, List.setIfInBounds_toArray, List.set_cons_zero, List.set_cons_succ]
                refine wpAny_ready (rs := [8]) (by kernel_rfl) (by simp) ?_
                refine AllReady.cons rfl (fun K hK => ?_) ?_
                · rw [if_pos (by rfl)]
                  refine st_store _ _ _ rfl _ _ rfl rfl _ p8 ?_
                  refine hK _ _ ?_
                  clear hK K
                  try simp only [Act.put, List.setIfInBounds_toArray, List.set_cons_zero, List.set_cons_succ]
                  refine wpAny_done (by kernel_rfl) ?_ _
                  go_wp2_with (go_at_call 75; refine (burn_ok w5 F' db gk gn _ (d.put n b) P9.out HOFF.out).mono ?_; rw [HX.out]; rintro e w' ⟨rfl, hB, hBK⟩; have HB := Lib.hid hB.at_; have HBK := Lib.hid hBK; clear hB hBK)
                  all_goals go_ret
                  all_goals exact ⟨by simp [*], F', HB.out, PK.out.trans (HBK.out.widen (by simpa using P9.out.inF.1)), PF.out⟩
                exact AllReady.nil
              exact AllReady.nil
            exact AllReady.nil
          exact AllReady.nil
        exact AllReady.nil
      exact AllReady.nil
    refine AllReady.cons rfl (fun K hK => ?_) ?_
    · rw [if_pos (by rfl)]
      refine st_slice1 _ _ rfl _ _ rfl _ p2 ?_
      refine hK _ _ ?_
      clear hK K
      try simp only [Act.put, List.setIfInBounds_toArray, List.set_cons_zero, List.set_cons_succ]
      refine wpAny_ready (rs := [4]) (by kernel_rfl) (by simp) ?_
      refine AllReady.cons rfl (fun K hK => ?_) ?_
      · go_simp
        refine hK _ _ ?_
        clear hK K
        try simp only [Act.put, List.setIfInBounds_toArray, List.set_cons_zero, List.set_cons_succ]
        refine wpAny_ready (rs := [7]) (by kernel_rfl) (by simp) ?_
        refine AllReady.cons rfl (fun K hK => ?_) ?_
        · rw [if_pos (by rfl)]
          refine st_append _ _ _ _ rfl _ _ _ rfl rfl _ p3 ?_
          refine hK _ _ ?_
          clear hK K
          try simp only [Act.put, List.setIfInBounds_toArray, List.set_cons_zero, List.set_cons_succ]
          refine wpAny_take (i := 8) (v := ?_) rfl (by kernel_rfl) (by kernel_rfl) (by kernel_rfl) (fun _ _ _ h => h) (Or.inl ⟨by rfl, ?_⟩) ?_
          rotate_left
          · ((intro w; go_simp); try with_reducible rfl)
          try simp only [Act.put, List.setIfInBounds_toArray, List.set_cons_zero, List.set_cons_succ]
          refine wpAny_take (i := 9) (v := ?_) rfl (by kernel_rfl) (by kernel_rfl) (by kernel_rfl) (fun _ _ _ h => h) (Or.inl ⟨by rfl, ?_⟩) ?_
          rotate_left
          · ((intro w; go_simp); try with_reducible rfl)
          try simp only [Act.put, List.setIfInBounds_toArray, List.set_cons_zero, List.set_cons_succ]
          refine wpAny_ready (rs := [10]) (by kernel_rfl) (by simp) ?_
          refine AllReady.cons rfl (fun K hK => ?_) ?_
          · go_simp
            refine hK _ _ ?_
            clear hK K
            try simp only [Act.put, List.setIfInBounds_toArray, List.set_cons_zero, List.set_cons_succ]
            refine wpAny_done (by kernel_rfl) ?_ _
            go_wp2
            refine wp_region_any (by kernel_rfl) ?_
            try (change wpAny _ _ _ _ _ _ _ (World.drew _))
            refine wpAny_take (i := 0) (v := ?_) rfl (by kernel_rfl) (by kernel_rfl) (by kernel_rfl) (fun _ _ _ h => h) (Or.inl ⟨by rfl, ?_⟩) ?_
            rotate_left
            · ((intro w; go_simp); try with_reducible rfl)
            try simp only [Act.put, List.setIfInBounds_toArray, List.set_cons_zero, List.set_cons_succ]
            refine wpAny_take (i := 1) (v := ?_) rfl (by kernel_rfl) (by kernel_rfl) (by kernel_rfl) (fun _ _ _ h => h) (Or.inl ⟨by rfl, ?_⟩) ?_
            rotate_left
            · ((intro w; go_simp); try with_reducible rfl)
            try simp only [Act.put, List.setIfInBounds_toArray, List.set_cons_zero, List.set_cons_succ]
            refine wpAny_take (i := 2) (v := ?_) rfl (by kernel_rfl) (by kernel_rfl) (by kernel_rfl) (fun _ _ _ h => h) (Or.inl ⟨by rfl, ?_⟩) ?_
            rotate_left
            · ((intro w; go_simp); try with_reducible rfl)
            try simp only [Act.put, List.setIfInBounds_toArray, List.set_cons_zero, List.set_cons_succ]
            refine wpAny_take (i := 4) (v := ?_) rfl (by kernel_rfl) (by kernel_rfl) (by kernel_rfl) (fun _ _ _ h => h) (Or.inl ⟨by rfl, ?_⟩) ?_
            rotate_left
            · ((intro w; go_simp); try with_reducible rfl)
            try simp only [Act.put, List.setIfInBounds_toArray, List.set_cons_zero, List.set_cons_succ]
            refine wpAny_take (i := 5) (v := ?_) rfl (by kernel_rfl) (by kernel_rfl) (by kernel_rfl) (fun _ _ _ h => h) (Or.inl ⟨by rfl, ?_⟩) ?_
            rotate_left
            · ((intro w; go_simp); try with_reducible rfl)
            try simp only [Act.put, List.setIfInBounds_toArray, List.set_cons_zero, List.set_cons_succ]
            refine wpAny_ready (rs := [3, 6]) (by kernel_rfl) (by simp) ?_
            refine AllReady.cons rfl (fun K hK => ?_) ?_
            · go_simp
              refine hK _ _ ?_
              clear hK K
              try simp only [Act.put, List.setIfInBounds_toArray, List.set_cons_zero, List.set_cons_succ]
              refine wpAny_ready (rs := [6]) (by kernel_rfl) (by simp) ?_
              refine AllReady.cons rfl (fun K hK => ?_) ?_
              · rw [if_pos (by rfl)]
                refine st_load _ _ rfl _ _ rfl _ p7 ?_
                refine hK _ _ ?_
                clear hK K
                try simp only [Act.put, List.setIfInBounds_toArray, List.set_cons_zero, List.set_cons_succ]
                refine wpAny_take (i := 7) (v := ?_) rfl (by kernel_rfl) (by kernel_rfl) (by kernel_rfl) (fun _ _ _ h => h) (Or.inl ⟨by rfl, ?_⟩) ?_
                rotate_left
                · ((intro w; go_simp); try with_reducible rfl)
                try simp only [Act.put, List.setIfInBounds_toArray, List.set_cons_zero, List.set_cons_succ]
                refine wpAny_ready (rs := [8]) (by kernel_rfl) (by simp) ?_
                refine AllReady.cons rfl (fun K hK => ?_) ?_
                · rw [if_pos (by rfl)]
                  refine st_store _ _ _ rfl _ _ rfl rfl _ p8 ?_
                  refine hK _ _ ?_
                  clear hK K
                  try simp only [Act.put, List.setIfInBounds_toArray, List.set_cons_zero, List.set_cons_succ]
                  refine wpAny_done (by kernel_rfl) ?_ _
                  go_wp2_with (go_at_call 75; refine (burn_ok w5 F' db gk gn _ (d.put n b) P9.out HOFF.out).mono ?_; rw [HX.out]; rintro e w' ⟨rfl, hB, hBK⟩; have HB := Lib.hid hB.at_; have HBK := Lib.hid hBK; clear hB hBK)
                  all_goals go_ret
                  all_goals exact ⟨by simp [*], F', HB.out, PK.out.trans (HBK.out.widen (by simpa using P9.out.inF.1)), PF.out⟩
                exact AllReady.nil
              exact AllReady.nil
            refine AllReady.cons rfl (fun K hK => ?_) ?_
            · rw [if_pos (by rfl)]
              refine st_load _ _ rfl _ _ rfl _ p7 ?_
              refine hK _ _ ?_
              clear hK K
              try simp only [Act.put, List.setIfInBounds_toArray, List.set_cons_zero, List.set_cons_succ]
              refine wpAny_ready (rs := [3]) (by kernel_rfl) (by simp) ?_
              refine AllReady.cons rfl (fun K hK => ?_) ?_
              · go_simp
                refine hK _ _ ?_
                clear hK K
                try simp only [Act.put, List.setIfInBounds_toArray, List.set_cons_zero, List.set_cons_succ]
                refine wpAny_take (i := 7) (v := ?_) rfl (by kernel_rfl) (by kernel_rfl) (by kernel_rfl) (fun _ _ _ h => h) (Or.inl ⟨by rfl, ?_⟩) ?_
                rotate_left
                · ((intro w; go_simp); try with_reducible rfl)
                try simp only [Act.put, List.setIfInBounds_toArray, List.set_cons_zero, List.set_cons_succ]
                refine wpAny_ready (rs := [8]) (by kernel_rfl) (by simp) ?_
                refine AllReady.cons rfl (fun K hK => ?_) ?_
                · rw [if_pos (by rfl)]
                  refine st_store _ _ _ rfl _ _ rfl rfl _ p8 ?_
                  refine hK _ _ ?_
                  clear hK K
                  try simp only [Act.put, List.setIfInBounds_toArray, List.set_cons_zero, List.set_cons_succ]
                  refine wpAny_done (by kernel_rfl) ?_ _
                  go_wp2_with (go_at_call 75; refine (burn_ok w5 F' db gk gn _ (d.put n b) P9.out HOFF.out).mono ?_; rw [HX.out]; rintro e w' ⟨rfl, hB, hBK⟩; have HB := Lib.hid hB.at_; have HBK := Lib.hid hBK; clear hB hBK)
                  all_goals go_ret
                  all_goals exact ⟨by simp [*], F', HB.out, PK.out.trans (HBK.out.widen (by simpa using P9.out.inF.1)), PF.out⟩
                exact AllReady.nil
              exact AllReady.nil
            exact AllReady.nil
          exact AllReady.nil
        exact AllReady.nil
      exact AllReady.nil
    exact AllReady.nil
  exact AllReady.nil
end Go.Proofs.Ytkmnjccklnfcdaa
