/- A disk in memory: Flush. A disk in memory: Crash. A disk in memory: Crash. A disk in memory: the walk of Crash. -/
import Derived.Test.YtkmnjccklnfcdaaDisk5
import Derived.Test.YtkmnjccklnfcdaaDiskA
import Derived.LoopTactic
import Derived.WalkSpells
namespace Go.Proofs.Ytkmnjccklnfcdaa
open Go Go.RowKit Bst
set_option linter.unusedVariables false
set_option linter.unusedSimpArgs false

def keptTo (d : Dsk) (i : Nat) : Dsk := { d with kept := applyW d.kept (d.wait.take i) }
theorem keptTo_zero (d : Dsk) : keptTo d 0 = d := rfl
theorem keptTo_succ (d : Dsk) {i : Nat} {x : Int × Sec} (h : d.wait[i]? = some x) : (keptTo d (i + 1)).kept = ((keptTo d i).kept).set x.1.toNat x.2 := by
  have hi := (List.getElem?_eq_some_iff.1 h)
  obtain ⟨hi, he⟩ := hi
  show applyW d.kept (d.wait.take (i + 1)) = _
  rw [List.take_succ_eq_append_getElem hi, applyW_snoc, he]
  rfl
theorem keptTo_ok {d : Dsk} (h : d.Ok) (i : Nat) : (keptTo d i).Ok := by
  refine ⟨h.pos, h.le, ?_, h.nowS, ?_, h.waitS, h.waits, h.fuse, h.lives⟩
  · show (applyW d.kept (d.wait.take i)).length = _; rw [applyW_length]; exact h.same
  · exact applyW_sec _ (fun x hx => (h.waitS x (List.mem_of_mem_take hx)).1) _ h.keptS
theorem keptTo_all (d : Dsk) : { keptTo d d.wait.length with wait := [] } = d.keepAll := by
  simp [keptTo, Dsk.keepAll]
theorem DiskRaw.wait_form {w : World} {F : List Nat} {db gk gn : Nat} {v : Value} {d : Dsk} (h : DiskRaw w F db gk gn v d) :
    ∃ A c, v = .slice A d.wait.length c ∧ ∀ i x, d.wait[i]? = some x → ∃ g, A = some ⟨g, 0, none⟩ ∧ g ∈ F ∧
      ∀ j u, (Value.int .i64 x.1 :: x.2.map encU8)[j]? = some u → w.cell? ((⟨g, i * 65, none⟩ : Addr).add j) = some u := by
  obtain ⟨⟨xs, h1, h2⟩, h3⟩ := h.wait
  rcases h1.2 with ⟨rfl, h0⟩ | ⟨g, cap, cur, rfl, hb, hgg, hnc, -, hcs, htk⟩
  · refine ⟨none, 0, by rw [h0], fun i x hx => ?_⟩
    have := (List.getElem?_eq_some_iff.1 hx).1
    omega
  · refine ⟨_, _, rfl, fun i x hx => ⟨g, rfl, h3 g rfl, fun j u hu => ?_⟩⟩
    obtain ⟨cs, hR, hget⟩ := h2.get hx
    obtain ⟨c1, c2, rfl, ⟨rfl, _⟩, ⟨rfl, _⟩⟩ := hR
    have h4 := hget j u hu
    have := h1.cells (g := g) rfl _ _ h4
    rw [Addr.add_lit, Nat.zero_add] at this
    rw [Addr.add_lit]
    exact this
theorem Pre.setCells {w : World} {g : Nat} {l : List UInt8} (h : Pre encU8 w g l) (o : Nat) (b : List UInt8) (hb : b.length = 64) (ho : o + 64 ≤ l.length) :
    Pre encU8 (w.setCells g o (b.map encU8)) g (putAt l o b) ∧ Keep [g] w [g] (w.setCells g o (b.map encU8)) ∧ w.there g o 64 := by
  have ht : w.there g o 64 := by
    intro j hj
    obtain ⟨t, more, hg⟩ := h
    refine ⟨?_, frozen_blk hg _⟩
    rw [cell_blk hg]
    simp
    omega
  have hi : (Try.prog.info? 119).map (·.size) = some b.length := by rw [hb]; exact info64
  obtain ⟨w', h1, h2, h3⟩ := Pre.put h 119 o b (by omega) hi
  have h4 := run_storeVar_mid (P := Try.prog) w g o 119 (b.map encU8).toArray (by simpa [hb] using ht) (by simpa [hb] using info64) (all_oneCell_toArray (by intro v hv; obtain ⟨x, _, rfl⟩ := List.mem_map.1 hv; rfl))
  rw [h1] at h4
  injection h4 with _ h4
  rw [List.toList_toArray] at h4
  rw [← h4]
  exact ⟨h2, h3, ht⟩
/-- A sector of what is kept is another. -/
theorem DiskRaw.setKept {w : World} {F : List Nat} {db gk gn : Nat} {v : Value} {d d' : Dsk} (h : DiskRaw w F db gk gn v d) {n : Nat} (hn : n < d.now.length) {b : Sec} (hb : b.length = 64) (ok : d'.Ok)
    (e1 : d'.kept = d.kept.set n b) (e2 : d'.now = d.now) (e3 : d'.wait = d.wait) (e4 : d'.fuse = d.fuse) (e5 : d'.off = d.off) (e6 : d'.lives = d.lives) :
    DiskRaw (w.setCells gk (n * 64) (b.map encU8)) F db gk gn v d' ∧ Keep F w F (w.setCells gk (n * 64) (b.map encU8)) ∧ w.there gk (n * 64) 64 := by
  have hs := h.ok.same
  obtain ⟨s1, s2, s3⟩ := Pre.setCells h.kept (n * 64) b hb (by rw [flat_length h.ok.keptS]; omega)
  rw [flat_set h.ok.keptS (by omega) hb, ← e1] at s1
  obtain ⟨t, ck, cn, q1, q2, q3⟩ := h.head
  have hne := h.ne
  refine ⟨⟨ok, ⟨t, ck, cn, by rw [e2]; exact q1, by rw [e2]; exact q2, ?_⟩, s1, ?_, ?_, h.ne, h.apart, h.inF, fun x hx => Nat.lt_of_lt_of_le (h.ltF x hx) s2.size⟩, s2.widen (by simpa using h.inF.2.1), s3⟩
  · rw [s2.block db (heap_lt q3) (by simp; omega), e2, e4, e5, e6]; exact q3
  · rw [e2]; exact h.now.keep s2 (by simp; omega)
  · rw [e3]; exact own_wr_keep h.wait s2 (fun g hg => by have := h.apart g hg; simp; omega) h.wait.2
theorem flush_off (w : World) (F : List Nat) (db : Nat) (d : Dsk) (h : DiskAt w F db d) (hm : d.may 0 ≠ 0) :
    Calls Try.prog 61 #[.pointer (some ⟨db, 0, none⟩)] w fun e w' => e = .returned (.int .i64 (d.may 0)) ∧ w = w' := by
  have H := Lib.hid h
  clear h
  have d0 : (d.may 0 != 0) = true := by simpa using hm
  clear hm
  generalize hq : d.may 0 = q at *
  have HQ := Lib.hid hq
  clear hq
  go_enter Try.func61, Try.ntmps61
  go_wp2_with (go_at_call 74; refine (may_ok w F db d H.out 0).mono ?_; rw [HQ.out]; rintro e w' ⟨rfl, rfl⟩)
  go_ret
  exact ⟨rfl, rfl⟩
theorem flush_burnt (w : World) (F : List Nat) (db : Nat) (d : Dsk) (h : DiskAt w F db d) (ho : d.off = false) (hb : d.burnt.off = true) :
    Calls Try.prog 61 #[.pointer (some ⟨db, 0, none⟩)] w fun e w' => e = .returned (.int .i64 30) ∧ DiskAt w' F db d.burnt ∧ Keep F w F w' := by
  have H := Lib.hid h
  obtain ⟨gk, gn, v, h⟩ := h
  have HR := Lib.hid h
  have HM : Hid (d.may 0 = 0) := by
    rcases d.may_cases 0 with ⟨h1, _⟩ | ⟨_, h1, _⟩ | ⟨_, _, _, h1⟩
    · rw [ho] at h1; cases h1
    · have := h.ok.pos; omega
    · exact h1
  have HO := Lib.hid ho
  have HB := Lib.hid hb
  clear h ho hb
  go_enter Try.func61, Try.ntmps61
  go_wp2_with (first
    | (go_at_call 74; refine (may_ok w F db d H.out 0).mono ?_; rw [HM.out]; rintro e w' ⟨rfl, rfl⟩)
    | (go_at_call 75; refine (burn_ok w F db gk gn v d HR.out HO.out).mono ?_; rw [HB.out]; rintro e w' ⟨rfl, h1, h2⟩; have H1 := Lib.hid h1.at_; have H2 := Lib.hid h2; clear h1 h2))
  go_ret
  exact ⟨rfl, H1.out, H2.out.widen (by simpa using HR.out.inF.1)⟩
set_option maxRecDepth 100000 in
set_option maxHeartbeats 4000000 in
theorem flush_ok (w : World) (F : List Nat) (db : Nat) (d : Dsk) (h : DiskAt w F db d) (ho : d.off = false) (hb : d.burnt.off = false) :
    Calls Try.prog 61 #[.pointer (some ⟨db, 0, none⟩)] w fun e w' => e = .returned (.int .i64 0) ∧ DiskAt w' F db d.burnt.keepAll ∧ Keep F w F w' := by
  have H := Lib.hid h
  obtain ⟨gk, gn, v, h⟩ := h
  have HR := Lib.hid h
  have HM : Hid (d.may 0 = 0) := by
    rcases d.may_cases 0 with ⟨h1, _⟩ | ⟨_, h1, _⟩ | ⟨_, _, _, h1⟩
    · rw [ho] at h1; cases h1
    · have := h.ok.pos; omega
    · exact h1
  have HO := Lib.hid ho
  have HB := Lib.hid hb
  obtain ⟨e, he⟩ : ∃ e, e = d.burnt := ⟨_, rfl⟩
  rw [← he] at HB ⊢
  have HE := Lib.hid he
  obtain ⟨N, hN⟩ : ∃ N, N = e.wait.length := ⟨_, rfl⟩
  have hNle : N ≤ 1000000000 := by have := h.ok.burnt.waits; rw [hN, he]; exact this
  have HN := Lib.hid hN
  clear h ho hb he hN
  go_enter Try.func61, Try.ntmps61
  go_wp2_with (first
    | (go_at_call 74; refine (may_ok w F db d H.out 0).mono ?_; rw [HM.out]; rintro e w' ⟨rfl, rfl⟩)
    | (go_at_call 75; refine (burn_ok w F db gk gn v d HR.out HO.out).mono ?_; rw [← HE.out, HB.out]; rintro e w' ⟨rfl, h1, h2⟩; obtain ⟨A, c, hv, hel⟩ := h1.wait_form; rw [← HN.out] at hv; have c2 := h1.cells.2.2.1; rw [hv] at c2; have H1 := Lib.hid h1; have H2 := Lib.hid h2; have HV := Lib.hid hv; clear h1 h2 hel hv))
  go_loopw [18] (fun iv wr => ∃ i : Nat, i ≤ N ∧ iv = .int .i64 (i : Int) ∧ Hid (DiskRaw wr F db gk gn v (keptTo e i)) ∧ Hid (Keep F w F wr)) (fun iv _ => N - (intOf iv).toNat)
  case atStart => exact ⟨0, Nat.zero_le _, rfl, H1.out, H2.out.widen (by simpa using HR.out.inF.1)⟩
  case round =>
    obtain ⟨i, hi, rfl, HD, HK⟩ := hrel
    by_cases hlt : i < N
    · have hd : decide (i < N) = true := decide_eq_true hlt
      obtain ⟨x, hx⟩ : ∃ x, e.wait[i]? = some x := ⟨e.wait[i]'(by rw [← HN.out]; exact hlt), List.getElem?_eq_getElem _⟩
      obtain ⟨A', c', hv', hel⟩ := HD.out.wait_form
      rw [HV.out] at hv'
      have hA1 : A = A' := by injection hv'
      clear hv'
      subst hA1
      obtain ⟨g, rfl, hgF, hcell⟩ := hel i x hx
      obtain ⟨hx1, hx2, hx3⟩ := HD.out.ok.waitS x (List.mem_of_getElem? hx)
      obtain ⟨m, hm⟩ : ∃ m : Nat, x.1 = (m : Int) := ⟨x.1.toNat, by omega⟩
      obtain ⟨b, hb⟩ : ∃ b, b = x.2 := ⟨_, rfl⟩
      rw [← hb] at hcell hx1
      rw [hm] at hcell hx3
      obtain ⟨cs, hcs⟩ : ∃ cs, cs = b.map encU8 := ⟨_, rfl⟩
      rw [← hcs] at hcell
      have hlen : cs.length = 64 := by rw [hcs, List.length_map, hx1]
      have hone : ∀ v ∈ cs, v.oneCell' = true := by rw [hcs]; intro v hv; obtain ⟨x, _, rfl⟩ := List.mem_map.1 hv; rfl
      have HC := Lib.hid hcell
      have HLEN := Lib.hid hlen
      have HONE := Lib.hid hone
      have HX := Lib.hid hx
      have hkt := keptTo_succ e hx
      rw [hm, ← hb, Int.toNat_natCast] at hkt
      have HKT := Lib.hid hkt
      have HX1 := Lib.hid hx1
      have HCS := Lib.hid hcs
      have hml : m < (keptTo e i).now.length := by omega
      have HML := Lib.hid hml
      clear hel hcell hlen hone hx hkt hx1 hx2 hx3 hcs hml hm hb
      go_wp2_with (first
        | (refine wp_load_many (o := ⟨some 21, .load _ _, _, _, _, _⟩) rfl 121 _ rfl wr ⟨g, i * 65, none⟩ rfl (Value.int .i64 (m : Int) :: cs) _ HC.out Try.underlying121 rfl (by rw [List.length_cons, HLEN.out]; exact info65) ?_)
        | (refine wp_var_many (o := ⟨some 5, .alloc _, _, _, _, _⟩) (o2 := ⟨none, .store _ _ _, _, _, _, _⟩) rfl rfl 121 rfl _ _ rfl wr z65 (Value.int .i64 (m : Int) :: cs) zero65 rfl rfl (by rw [List.length_cons, HLEN.out]; exact info65) (by rw [List.length_cons, HLEN.out]; exact z65_length) (one_cons m HONE.out) ?_))
      intro w2 hb2 hx2 hlt2
      have hnbF : wr.heap.size ∉ F := fun hm => by have := HD.out.ltF _ hm; omega
      obtain ⟨nb, hnb⟩ : ∃ nb, nb = wr.heap.size := ⟨_, rfl⟩
      rw [← hnb] at hb2 hnbF ⊢
      have hD2 := HD.out.ext hx2
      have hD3 := hD2.ext (Ext.drew w2)
      obtain ⟨hD5, hK5, hth⟩ := hD3.setKept HML.out HX1.out (keptTo_ok H1.out.ok (i + 1)) HKT.out rfl rfl rfl rfl rfl
      obtain ⟨⟨ck, hck, q0⟩, -, -, -, -, -, -⟩ := hD3.cells
      obtain ⟨⟨ck', hck', q0'⟩, -, -, -, -, -, -⟩ := hD5.cells
      have hnb3 : w2.drew.heap[nb]? = some (.cells (Value.int .i64 (m : Int) :: cs).toArray 121 (0, 0)) := hb2
      have hgn : gk ≠ nb := fun hm => hnbF (hm ▸ HD.out.inF.2.1)
      have hgd : gk ≠ db := fun hm => HD.out.ne.1 hm.symm
      have hr1 : w2.drew.cell? ⟨nb, 0, none⟩ = some (.int .i64 (m : Int)) := cell_blk hnb3 0
      have hr2 : w2.drew.rangeAt nb 1 cs := fun j u hu => by rw [Nat.add_comm, cell_of_row _ nb (j + 1) _ _ _ hnb3]; simpa using hu
      rw [← HCS.out] at hD5 hK5
      have hS0 : w2.drew.cell? ⟨db, 0, none⟩ = some (.slice (some ⟨gk, 0, none⟩) (keptTo e i).now.length ck) ∧ w2.drew.cell? ⟨nb, 0, none⟩ = some (.int .i64 (m : Int)) ∧ w2.drew.rangeAt nb 1 cs ∧ w2.drew.there gk (m * 64) 64 := ⟨q0, hr1, hr2, hth⟩
      have hS1 : (w2.drew.setCells gk (m * 64) cs).cell? ⟨db, 0, none⟩ = some (.slice (some ⟨gk, 0, none⟩) (keptTo e i).now.length ck) ∧ (w2.drew.setCells gk (m * 64) cs).cell? ⟨nb, 0, none⟩ = some (.int .i64 (m : Int)) ∧ (w2.drew.setCells gk (m * 64) cs).rangeAt nb 1 cs ∧ (w2.drew.setCells gk (m * 64) cs).there gk (m * 64) 64 :=
        ⟨by rw [World.cell?_setCells_out _ _ _ _ _ (fun h _ => absurd h.symm hgd)]; exact q0, by rw [World.cell?_setCells_out _ _ _ _ _ (fun h _ => absurd h.symm hgn)]; exact hr1, World.rangeAt_setCells_apart hr2 _ _ _ (.inl (Ne.symm hgn)), World.there_setCells hth _ _ _⟩
      have HD5 := Lib.hid hD5
      have HK5 := Lib.hid (((HK.out.trans (hx2.keep F)).trans ((Ext.drew w2).keep F)).trans hK5)
      obtain ⟨L, hL⟩ : ∃ L, L = (keptTo e i).now.length := ⟨_, rfl⟩
      rw [← hL] at hS0 hS1
      have hmL : m < L := by rw [hL]; exact HML.out
      have hlen := HLEN.out
      have hone := HONE.out
      have husec := Try.underlying119
      have hinf : (Try.prog.info? 119).map (·.size) = some cs.length := by rw [hlen]; exact info64
      clear hD2 hD3 hD5 hK5 hth q0 q0' hck hck' hr1 hr2 hnb3 hgn hgd hb2 hx2 hlt2 hnbF hnb hL
      go_wp2
      go_region_held3 (fun w' => w'.cell? ⟨db, 0, none⟩ = some (.slice (some ⟨gk, 0, none⟩) L ck) ∧ w'.cell? ⟨nb, 0, none⟩ = some (.int .i64 (m : Int)) ∧ w'.rangeAt nb 1 cs ∧ w'.there gk (m * 64) 64) (first | exact hS0 | exact hS1) (fail)
      go_wp2
      go_roundw
      case rel => exact ⟨i + 1, by omega, by go_num, HD5.out, HK5.out⟩
      case measure => simp [intOf] <;> omega
    · obtain rfl : i = N := by omega
      have hd : decide (i < i) = false := decide_eq_false (by omega)
      obtain ⟨t, ck, cn, q1, q2, q3⟩ := HD.out.head
      have f2 := frozen_blk q3 2
      have c2' := HD.out.cells.2.2.1
      rw [HV.out] at c2'
      have hK6 : Keep [db] wr [db] (wr.setCell ⟨db, 2, none⟩ (.slice none 0 0)) := Keep.setCell [db] _ _ _ (by simp)
      have hq6 := set_blk q3 2 (.slice none 0 0)
      have hne := HD.out.ne
      have hD6 : Hid (DiskRaw (wr.setCell ⟨db, 2, none⟩ (.slice none 0 0)) F db gk gn (.slice none 0 0) e.keepAll) := by
        have hka := keptTo_all e
        rw [← HN.out] at hka
        refine ⟨H1.out.ok.keepAll, ⟨t, ck, cn, q1, q2, ?_⟩, ?_, HD.out.now.keep hK6 (by simp; omega), Own.nil _ _ _ _ _, HD.out.ne, fun g hg => by simp [Value.ownBlock] at hg, HD.out.inF, fun x hx => Nat.lt_of_lt_of_le (HD.out.ltF x hx) hK6.size⟩
        · rw [hq6]; rfl
        · have := HD.out.kept.keep hK6 (by simp; omega)
          rw [← hka]; exact this
      have HK6 := Lib.hid (HK.out.trans (hK6.widen (by simpa using HD.out.inF.1)))
      clear hK6 hq6 q1 q2 q3 hne
      go_wp2
      go_ret
      exact ⟨rfl, hD6.out.at_, HK6.out⟩
end Go.Proofs.Ytkmnjccklnfcdaa
namespace Bst
open Go
theorem putAt_part {α : Type} (L : List α) (o : Nat) (s : List α) (k : Nat) (h : o + s.length + k ≤ L.length) : putAt L o (s ++ (L.drop (o + s.length)).take k) = putAt L o s := by
  unfold putAt
  have hk : ((L.drop (o + s.length)).take k).length = k := by rw [List.length_take, List.length_drop]; omega
  rw [List.length_append, hk, ← Nat.add_assoc]
  have := List.take_append_drop k (L.drop (o + s.length))
  rw [List.drop_drop] at this
  rw [← List.append_assoc, List.append_assoc, this]
theorem flat_torn {l : List Sec} (h : ∀ s ∈ l, s.length = 64) {n : Nat} (hn : n < l.length) {b : Sec} (hb : b.length = 64) (c : Nat) (hc : c ≤ 64) :
    putAt l.flatten (n * 64) (b.take c) = (l.set n (b.take c ++ (l.getD n []).drop c)).flatten := by
  have e : l.getD n [] = l[n] := by rw [List.getD_eq_getElem?_getD, List.getElem?_eq_getElem hn]; rfl
  have hl := getD_sec h hn
  have htk : (b.take c).length = c := by rw [List.length_take]; omega
  rw [← flat_set h hn (b := b.take c ++ (l.getD n []).drop c) (by rw [List.length_append, htk, List.length_drop, hl]; omega)]
  have e2 : (l.getD n []).drop c = (l.flatten.drop (n * 64 + (b.take c).length)).take (64 - c) := by
    rw [e, ← flat_at h hn, htk, List.drop_take, List.drop_drop]
  rw [e2, putAt_part]
  rw [htk, flat_length h]
  omega
theorem crashW_take : ∀ (ws : List (Int × Sec)) (cs : List UInt8) (l : List Sec) (i : Nat) (x : Int × Sec) (c : UInt8), ws[i]? = some x → cs[i]? = some c →
    crashW l (ws.take (i + 1)) cs = tornW (crashW l (ws.take i) cs) x (min c.toNat 64)
  | [], cs, l, i, x, c, h, _ => by simp at h
  | w :: ws, [], l, i, x, c, _, h => by simp at h
  | w :: ws, d :: cs, l, 0, x, c, h1, h2 => by
    simp at h1 h2; subst h1; subst h2
    simp [crashW]
  | w :: ws, d :: cs, l, i + 1, x, c, h1, h2 => by
    simp at h1 h2
    rw [List.take_succ_cons, List.take_succ_cons, crashW, crashW]
    exact crashW_take ws cs _ i x c h1 h2
theorem crashW_short : ∀ (ws : List (Int × Sec)) (cs : List UInt8) (l : List Sec) (i : Nat), (ws.length ≤ i ∨ cs.length ≤ i) → crashW l (ws.take i) cs = crashW l ws cs
  | [], cs, l, i, _ => by simp
  | w :: ws, [], l, i, _ => by cases i <;> simp [crashW]
  | w :: ws, d :: cs, l, 0, h => by simp at h
  | w :: ws, d :: cs, l, i + 1, h => by
    rw [List.take_succ_cons, crashW, crashW]
    exact crashW_short ws cs _ i (by simp at h; omega)
end Bst
namespace Go.Proofs.Ytkmnjccklnfcdaa
open Go Go.RowKit Bst
set_option linter.unusedVariables false
set_option linter.unusedSimpArgs false

theorem et_sc : ET Try.prog 101 119 (.agg z64.toArray) 64 64 := by
  obtain ⟨i, hi, hz, hs, hb⟩ := et_sec
  exact ⟨Try.underlying101, ⟨i, hi, hz, hs, hb⟩, z64_length, by omega⟩
theorem sl_secs {w : World} {g c : Nat} {l : List Sec} (h : Pre encU8 w g l.flatten) (hs : ∀ s ∈ l, s.length = 64) (hc : l.length ≤ c) (hm : l.length ≤ 140737488355328) (F : List Nat) (hF : g ∉ F) : Sl (Kd.vec 64) F w (some ⟨g, 0, none⟩) c l := by
  refine ⟨hc, hm, fun _ => ⟨g, 0, rfl, h.lt, hF, fun i x hx => ?_⟩⟩
  obtain ⟨hi, he⟩ := List.getElem?_eq_some_iff.1 hx
  refine ⟨x.map encU8, ⟨rfl, hs x (List.mem_of_getElem? hx)⟩, fun j u hu => ?_⟩
  have := sec_cells h hs hi j u (by rw [List.getD_eq_getElem?_getD, hx]; exact hu)
  rw [Addr.add_lit] at this
  rw [Nat.zero_add]
  exact this
theorem own_secs {F : List Nat} {w : World} {base : Nat} {e : TypeId} {v : Value} {l : List Sec} (h : Own (Kd.vec 64) F w base e v l) (hl : l ≠ []) :
    ∃ g c, v = .slice (some ⟨g, 0, none⟩) l.length c ∧ Pre encU8 w g l.flatten ∧ base ≤ g ∧ l.length ≤ c := by
  obtain ⟨⟨xs, h1, h2⟩, h3⟩ := h
  have hx : xs = l.flatten.map encU8 ∧ l.flatten.length = l.length * 64 := by
    clear h1 h3 hl
    induction l generalizing xs with
    | nil => exact ⟨h2, rfl⟩
    | cons a l ih =>
      obtain ⟨cs, ys, rfl, ⟨rfl, ha⟩, h⟩ := h2
      obtain ⟨e1, e2⟩ := ih ys h
      rw [e1, List.flatten_cons, List.map_append, List.length_append, e2, ha, List.length_cons]
      exact ⟨rfl, by omega⟩
  obtain ⟨rfl, hlen⟩ := hx
  rcases h1.2 with ⟨rfl, h0⟩ | ⟨g, cap, cur, rfl, hb, hgg, hnc, hcm, hcs, htake⟩
  · exact absurd (List.eq_nil_of_length_eq_zero h0) hl
  · refine ⟨g, cap, rfl, ⟨e, cur.toList.drop (l.length * 64), ?_⟩, hb, hnc⟩
    rw [hgg]
    congr 2
    apply Array.ext'
    have := List.take_append_drop (l.length * 64) cur.toList
    rw [List.toList_toArray]
    have ht : cur.toList.take (l.length * 64) = l.flatten.map encU8 := htake
    rw [ht] at this
    exact this.symm
theorem own_emptyS (w : World) (F : List Nat) (e : TypeId) (hF : w.heap.size ∈ F) : Own (Kd.vec 64) F (w.alloc (.cells #[] e)) w.heap.size e (.slice (some ⟨w.heap.size, 0, none⟩) 0 0) [] := by
  refine ⟨⟨[], ⟨by simp, .inr ⟨w.heap.size, 0, #[], rfl, Nat.le_refl _, heap_alloc_new w _, Nat.le_refl _, by simp [maxLen], by simp, by simp⟩⟩, rfl⟩, fun g hg => ?_⟩
  simp [Value.ownBlock] at hg
  rw [← hg]; exact hF
set_option maxHeartbeats 400000 in
theorem cloneS_ok (w : World) (gk ck : Nat) (l : List Sec) (hp : Pre encU8 w gk l.flatten) (hs : ∀ s ∈ l, s.length = 64) (hne : l ≠ []) (hck : l.length ≤ ck) (hle : l.length ≤ 16384) :
    Calls Try.prog 73 #[.slice (some ⟨gk, 0, none⟩) l.length ck] w fun e w' => ∃ g c', e = .returned (.slice (some ⟨g, 0, none⟩) l.length c') ∧ Pre encU8 w' g l.flatten ∧ w.heap.size ≤ g ∧ l.length ≤ c' ∧ Ext w w' := by
  have hgk := hp.lt
  have HL : Hid (Sl (Kd.vec 64) [w.heap.size] w (some ⟨gk, 0, none⟩) ck l) := sl_secs hp hs hck (by omega) _ (by simp; omega)
  have h0 := fun wq a n c => Lib.run_eql_slice_nil (P := Try.prog) wq 101 119 a n c 0 0 Try.underlying101
  clear hp hs
  go_enter Try.func73, Try.ntmps73
  go_wp2_with (at_builtin; go_must (refine wp_app (K := Kd.vec 64) et_sc rfl _ _ rfl (w.alloc (.cells #[] 119)) w.heap.size [w.heap.size] _ [] l (some ⟨gk, 0, none⟩) ck (by rfl) (by rfl) (own_emptyS w _ _ (by simp)) (HL.out.ext ((Ext.alloc w _).keep _)) (by simp; omega) (by simp; omega) (by simp) ?_))
  intro v' w2 F2 hown hk hk0 hk00 hF
  obtain ⟨g, c', rfl, hpre, hb, hc'⟩ := own_secs hown hne
  have HPRE := Lib.hid hpre
  have HX : Hid (Ext w w2) := ((Ext.alloc w (.cells #[] 119)).keep [w.heap.size] |>.trans hk).ext (by simp)
  clear hown hk hk0 hk00 hF hpre
  go_wp2
  go_ret
  exact ⟨g, c', rfl, HPRE.out, hb, hc', HX.out⟩
end Go.Proofs.Ytkmnjccklnfcdaa
namespace Go.Proofs.Ytkmnjccklnfcdaa
open Go Go.RowKit Bst
set_option linter.unusedVariables false
set_option linter.unusedSimpArgs false

def crashTo (d : Dsk) (cs : List UInt8) (i : Nat) : Dsk := { d with kept := crashW d.kept (d.wait.take i) cs }
theorem crashTo_zero (d : Dsk) (cs : List UInt8) : crashTo d cs 0 = d := by cases cs <;> rfl
theorem crashTo_ok {d : Dsk} (h : d.Ok) (cs : List UInt8) (i : Nat) : (crashTo d cs i).Ok := by
  refine ⟨h.pos, h.le, ?_, h.nowS, ?_, h.waitS, h.waits, h.fuse, h.lives⟩
  · show (crashW _ _ _).length = _; rw [crashW_length]; exact h.same
  · exact crashW_sec _ _ _ (fun x hx => (h.waitS x (List.mem_of_mem_take hx)).1) h.keptS
theorem crashTo_succ (d : Dsk) (cs : List UInt8) {i : Nat} {x : Int × Sec} {c : UInt8} (h : d.wait[i]? = some x) (hc : cs[i]? = some c) :
    (crashTo d cs (i + 1)).kept = tornW (crashTo d cs i).kept x (min c.toNat 64) := crashW_take d.wait cs d.kept i x c h hc
theorem crashTo_all (d : Dsk) (cs : List UInt8) {i : Nat} (h : d.wait.length ≤ i ∨ cs.length ≤ i) : (crashTo d cs i).kept = crashW d.kept d.wait cs := crashW_short d.wait cs d.kept i h
/-- A copy of the first bytes into a sector. -/
theorem DiskRaw.tear {w : World} {F : List Nat} {db gk gn : Nat} {v : Value} {d d' : Dsk} (h : DiskRaw w F db gk gn v d) {n : Nat} (hn : n < d.now.length) {b : Sec} (hb : b.length = 64) {c : Nat} (hc : c ≤ 64) (ok : d'.Ok)
    (e1 : d'.kept = tornW d.kept ((n : Int), b) c) (e2 : d'.now = d.now) (e3 : d'.wait = d.wait) (e4 : d'.fuse = d.fuse) (e5 : d'.off = d.off) (e6 : d'.lives = d.lives) (nb : Nat)
    (hcell : ∀ j u, (b.map encU8)[j]? = some u → w.cell? ((⟨nb, 1, none⟩ : Addr).add j) = some u) :
    ∃ w', (Builtin.copy_ #[41, 41] 3 #[.slice (some ⟨gk, n * 64, none⟩) c 64, .slice (some ⟨nb, 1, none⟩) c 64]).run Try.prog w = .ok (goInt c) w' ∧ DiskRaw w' F db gk gn v d' ∧ Keep [gk] w [gk] w' := by
  have hs := h.ok.same
  obtain ⟨t, more, hg⟩ := h.kept
  have hfl := flat_length h.ok.keptS
  have htk : (b.take c).length = c := by rw [List.length_take]; omega
  have hr := run_copy_row (P := Try.prog) w 41 41 3 5 gk (n * 64) c 64 ⟨nb, 1, none⟩ c 64 _ t ((b.take c).map encU8) Try.underlying41 (by kernel_rfl) hg (by rw [List.length_map, htk]; simp)
    (fun j u hu => by
      apply hcell
      rw [List.getElem?_map, List.getElem?_take] at hu
      rw [List.getElem?_map]
      split at hu
      · exact hu
      · cases hu) (by rw [List.length_map, htk, List.size_toArray, List.length_append, List.length_map, hfl]; omega) (by intro v hv; obtain ⟨x, _, rfl⟩ := List.mem_map.1 hv; rfl)
  rw [List.length_map, htk, List.toList_toArray] at hr
  refine ⟨_, hr, ?_⟩
  have hL : (d.kept.flatten.map encU8 ++ more).take (n * 64) ++ (b.take c).map encU8 ++ (d.kept.flatten.map encU8 ++ more).drop (n * 64 + c) = d'.kept.flatten.map encU8 ++ more := by
    have e7 : d'.kept = d.kept.set n (b.take c ++ (d.kept.getD n []).drop c) := e1
    rw [e7, ← flat_torn h.ok.keptS (by omega) hb c hc, putAt_map, ← putAt_append (by rw [List.length_map, List.length_map, htk, hfl]; omega)]
    unfold putAt
    rw [List.length_map, htk]
  rw [hL] at hr ⊢
  have hK : Keep [gk] w [gk] (w.setRow gk (d'.kept.flatten.map encU8 ++ more).toArray) := by
    refine ⟨rfl, rfl, rfl, by simp, fun k hk hF => ?_, fun b hb => .inl hb⟩
    simp only [World.setRow, Array.getElem?_modify]
    rw [if_neg (fun e => hF (by simp [e]))]
  have hP : Pre encU8 (w.setRow gk (d'.kept.flatten.map encU8 ++ more).toArray) gk d'.kept.flatten := ⟨t, more, setRow_heap w gk _ _ t _ hg⟩
  generalize w.setRow gk _ = w5 at *
  obtain ⟨t, ck, cn, q1, q2, q3⟩ := h.head
  have hne := h.ne
  refine ⟨⟨ok, ⟨t, ck, cn, by rw [e2]; exact q1, by rw [e2]; exact q2, ?_⟩, hP, ?_, ?_, h.ne, h.apart, h.inF, fun x hx => Nat.lt_of_lt_of_le (h.ltF x hx) hK.size⟩, hK⟩
  · rw [hK.block db (heap_lt q3) (by simp; omega), e2, e4, e5, e6]; exact q3
  · rw [e2]; exact h.now.keep hK (by simp; omega)
  · rw [e3]; exact own_wr_keep h.wait hK (fun g hg => by have := h.apart g hg; simp; omega) h.wait.2
/-- The head behind a crash. -/
def crashedW (w : World) (db g N c' : Nat) (lives : Int) : World :=
  ((((w.setCell ⟨db, 2, none⟩ (.slice none 0 0)).setCell ⟨db, 1, none⟩ (.slice (some ⟨g, 0, none⟩) N c')).setCell ⟨db, 3, none⟩ (.int .i64 (-1))).setCell ⟨db, 4, none⟩ (.bool false)).setCell ⟨db, 5, none⟩ (.int .i64 lives)
theorem DiskRaw.after {w w2 : World} {F : List Nat} {db gk gn : Nat} {v : Value} {d e : Dsk} (h : DiskRaw w F db gk gn v e) (cs : List UInt8) (hk : e.kept = crashW d.kept d.wait cs) (hn : e.now.length = d.now.length) (hl : e.lives = d.lives) (ok : (d.crash cs).Ok)
    (hx : Ext w w2) {g c' : Nat} (hp : Pre encU8 w2 g e.kept.flatten) (hg : w.heap.size ≤ g) (hc : e.kept.length ≤ c') :
    DiskRaw (crashedW w2 db g e.kept.length c' ((d.lives : Int) + 1)) (F ++ [g]) db gk g (.slice none 0 0) (d.crash cs) ∧ Keep F w (F ++ [g]) (crashedW w2 db g e.kept.length c' ((d.lives : Int) + 1)) := by
  have h2 := h.ext hx
  obtain ⟨t, ck, cn, q1, q2, q3⟩ := h2.head
  have hK : Keep [db] w2 [db] (crashedW w2 db g e.kept.length c' ((d.lives : Int) + 1)) :=
    ((((Keep.setCell [db] _ _ _ (by simp)).trans (Keep.setCell [db] _ _ _ (by simp))).trans (Keep.setCell [db] _ _ _ (by simp))).trans (Keep.setCell [db] _ _ _ (by simp))).trans (Keep.setCell [db] _ _ _ (by simp))
  have hb := set_blk (set_blk (set_blk (set_blk (set_blk q3 2 (.slice none 0 0)) 1 (.slice (some ⟨g, 0, none⟩) e.kept.length c')) 3 (.int .i64 (-1))) 4 (.bool false)) 5 (.int .i64 ((d.lives : Int) + 1))
  simp only [List.setIfInBounds_toArray, List.set_cons_zero, List.set_cons_succ] at hb
  have e1 := h.ltF db h.inF.1
  have e2 := h.ltF gk h.inF.2.1
  have hne := h.ne
  have hsame := h.ok.same
  have hln : (d.crash cs).now.length = e.kept.length := by rw [hk]; rfl
  refine ⟨⟨ok, ⟨t, ck, c', by rw [hln, hsame]; exact q1, by rw [hln]; exact hc, ?_⟩, ?_, ?_, Own.nil _ _ _ _ _, by omega, fun g hg => by simp [Value.ownBlock] at hg, ⟨List.mem_append_left _ h.inF.1, List.mem_append_left _ h.inF.2.1, by simp⟩, fun x hx' => ?_⟩, ?_⟩
  · rw [hln]
    show (crashedW w2 db g e.kept.length c' ((d.lives : Int) + 1)).heap[db]? = some (Obj.cells #[.slice (some ⟨gk, 0, none⟩) e.kept.length ck, .slice (some ⟨g, 0, none⟩) e.kept.length c', .slice none 0 0, .int .i64 (-1), .bool false, .int .i64 ((d.lives + 1 : Nat) : Int)] t (0, 0))
    rw [← hsame] at hb
    exact hb
  · rw [show (d.crash cs).kept = e.kept from hk.symm]
    exact h2.kept.keep hK (by simp; omega)
  · rw [show (d.crash cs).now = e.kept from hk.symm]
    exact hp.keep hK (by simp; omega)
  · rcases List.mem_append.1 hx' with h1 | h1
    · exact Nat.lt_of_lt_of_le (h.ltF x h1) (Nat.le_trans hx.size hK.size)
    · rw [List.mem_singleton.1 h1]; exact Nat.lt_of_lt_of_le hp.lt hK.size
  · have h3 := (hx.keep F).trans (hK.widen (F := F) (by simpa using h.inF.1))
    refine ⟨h3.os, h3.tape, h3.output, h3.size, h3.block, fun x hx' => ?_⟩
    rcases List.mem_append.1 hx' with h1 | h1
    · exact .inl h1
    · rw [List.mem_singleton.1 h1]; exact .inr hg
end Go.Proofs.Ytkmnjccklnfcdaa
namespace Go.Proofs.Ytkmnjccklnfcdaa
open Go Go.RowKit Bst
set_option linter.unusedVariables false
set_option linter.unusedSimpArgs false

/-- What the walk's end needs of the world behind the sectors' clone. -/
theorem tail_facts {w2 : World} {F : List Nat} {db gk gn : Nat} {v : Value} {e : Dsk} (h : DiskRaw w2 F db gk gn v e) :
    (∃ ck, e.kept.length ≤ ck ∧ w2.cell? ⟨db, 0, none⟩ = some (.slice (some ⟨gk, 0, none⟩) e.kept.length ck)) ∧ (∃ x, w2.cell? ⟨db, 1, none⟩ = some x) ∧ w2.cell? ⟨db, 2, none⟩ = some v ∧ w2.cell? ⟨db, 3, none⟩ = some (.int .i64 e.fuse) ∧ w2.cell? ⟨db, 4, none⟩ = some (.bool e.off) ∧ w2.cell? ⟨db, 5, none⟩ = some (.int .i64 (e.lives : Int)) ∧ (∀ k, w2.frozen? ⟨db, k, none⟩ = false) := by
  have hs := h.ok.same
  obtain ⟨⟨ck, q1, q2⟩, ⟨cn, q3, q4⟩, q5, q6, q7, q8, q9⟩ := h.cells
  rw [← hs] at q1 q2
  exact ⟨⟨ck, q1, q2⟩, ⟨_, q4⟩, q5, q6, q7, q8, q9⟩
set_option maxRecDepth 100000 in
set_option maxHeartbeats 4000000 in
theorem crash_ok (w : World) (F : List Nat) (db : Nat) (d : Dsk) (h : DiskAt w F db d) (A0 : Option Addr) (c0 : Nat) (ch : List UInt8) (hs : Sl Kd.u8 F w A0 c0 ch) (hl : d.lives < 1000000000) :
    Calls Try.prog 19 #[.pointer (some ⟨db, 0, none⟩), .slice A0 ch.length c0] w fun e w' => e = .returned (.int .i64 0) ∧ ∃ F', DiskAt w' F' db (d.crash ch) ∧ Keep F w F' w' ∧ ∀ x ∈ F, x ∈ F' := by
  have H := Lib.hid h
  obtain ⟨gk, gn, v, h⟩ := h
  have HR := Lib.hid h
  have HS := Lib.hid hs
  have chle := hs.len_le
  obtain ⟨N, hN⟩ : ∃ N, N = d.wait.length := ⟨_, rfl⟩
  have hNle : N ≤ 1000000000 := by have := h.ok.waits; rw [hN]; exact this
  have HN := Lib.hid hN
  obtain ⟨A, c, hv, hel⟩ := h.wait_form
  rw [← HN.out] at hv
  have c2 := h.cells.2.2.1
  rw [hv] at c2
  have HV := Lib.hid hv
  have HCR := Lib.hid (h.ok.crash ch hl)
  have hwl : wrap64 ((d.lives : Int) + 1) = (d.lives : Int) + 1 := by unfold wrap64; omega
  clear h hs hN hel hv
  go_enter Try.func19, Try.ntmps19
  go_wp2_with (go_at_call 72; refine (is_ok w F db d H.out).mono ?_; rintro e w' ⟨rfl, rfl⟩)
  go_loopw [16] (fun iv wr => ∃ i : Nat, i ≤ N ∧ i ≤ ch.length ∧ iv = .int .i64 (i : Int) ∧ Hid (DiskRaw wr F db gk gn v (crashTo d ch i)) ∧ Hid (Keep F w F wr)) (fun iv _ => N - (intOf iv).toNat)
  case atStart => exact ⟨0, Nat.zero_le _, Nat.zero_le _, rfl, by rw [crashTo_zero]; exact HR.out, Keep.refl _ _⟩
  case round =>
    obtain ⟨i, hi, hic, rfl, HD, HK⟩ := hrel
    by_cases hlt : i < N
    · have hd : decide (i < N) = true := decide_eq_true hlt
      obtain ⟨x, hx⟩ : ∃ x, d.wait[i]? = some x := ⟨d.wait[i]'(by rw [← HN.out]; exact hlt), List.getElem?_eq_getElem _⟩
      obtain ⟨A', c', hv', hel⟩ := HD.out.wait_form
      rw [HV.out] at hv'
      have hA1 : A = A' := by injection hv'
      clear hv'
      subst hA1
      obtain ⟨g, rfl, hgF, hcell⟩ := hel i x hx
      obtain ⟨hx1, hx2, hx3⟩ := HD.out.ok.waitS x (List.mem_of_getElem? hx)
      obtain ⟨m, hm⟩ : ∃ m : Nat, x.1 = (m : Int) := ⟨x.1.toNat, by omega⟩
      obtain ⟨b, hb⟩ : ∃ b, b = x.2 := ⟨_, rfl⟩
      have hxe : x = ((m : Int), b) := by rw [← hm, hb]
      subst hxe
      obtain ⟨cs, hcs⟩ : ∃ cs, cs = b.map encU8 := ⟨_, rfl⟩
      rw [← hcs] at hcell
      have hlen : cs.length = 64 := by rw [hcs, List.length_map]; exact hx1
      have hone : ∀ v ∈ cs, v.oneCell' = true := by rw [hcs]; intro v hv; obtain ⟨x, _, rfl⟩ := List.mem_map.1 hv; rfl
      have HC := Lib.hid hcell
      have HLEN := Lib.hid hlen
      have HONE := Lib.hid hone
      have HX := Lib.hid hx
      have HX1 : Hid (b.length = 64) := hx1
      have HCS := Lib.hid hcs
      have hml : m < (crashTo d ch i).now.length := by have : (m : Int) < d.now.length := hx3; show m < d.now.length; omega
      have HML := Lib.hid hml
      clear hel hcell hlen hone hx hx1 hx2 hx3 hcs hml hm hb
      by_cases hch : i < ch.length
      · have hd2 : decide (ch.length ≤ i) = false := decide_eq_false (by omega)
        go_wp2_with (first
          | (refine wp_load_many (o := ⟨some 20, .load _ _, _, _, _, _⟩) rfl 121 _ rfl wr ⟨g, i * 65, none⟩ rfl (Value.int .i64 (m : Int) :: cs) _ HC.out Try.underlying121 rfl (by rw [List.length_cons, HLEN.out]; exact info65) ?_)
          | (refine wp_alloc_many (o := ⟨some 6, .alloc _, _, _, _, _⟩) rfl 121 rfl wr z65 zero65 ?_)
          | (refine wp_store_new (o := ⟨none, .store _ _ _, _, _, _, _⟩) rfl 121 _ _ rfl wr z65 (Value.int .i64 (m : Int) :: cs) 121 rfl rfl rfl (by rw [List.length_cons, HLEN.out]; exact info65) (by rw [List.length_cons, HLEN.out]; exact z65_length) (one_cons m HONE.out) ?_))
        intro w2 hb2 hx2 hlt2
        have HD2 := Lib.hid (HD.out.ext hx2)
        have hnbF : wr.heap.size ∉ F := fun hm => by have := HD.out.ltF _ hm; omega
        obtain ⟨nb, hnb⟩ : ∃ nb, nb = wr.heap.size := ⟨_, rfl⟩
        rw [← hnb] at hb2 hnbF ⊢
        obtain ⟨g0, o0, rfl, hc0⟩ := ((HS.out.ext HK.out).ext (hx2.keep F)).u8_at hch
        have htb : ch[i]? = some ch[i] := List.getElem?_eq_getElem hch
        have ht256 : ch[i].toNat < 256 := ch[i].toNat_lt
        have hsucc := crashTo_succ d ch HX.out htb
        obtain ⟨t, ht⟩ : ∃ t, t = ch[i].toNat := ⟨_, rfl⟩
        rw [← ht] at hc0 hsucc ht256
        obtain ⟨cN, hcN⟩ : ∃ cN, cN = min t 64 := ⟨_, rfl⟩
        rw [← hcN] at hsucc
        have hcl : cN ≤ 64 := by omega
        have hnb3 : w2.drew.heap[nb]? = some (.cells (Value.int .i64 (m : Int) :: cs).toArray 121 (0, 0)) := hb2
        obtain ⟨w5, hcp, hD5, hK5⟩ := (HD2.out.ext (Ext.drew w2)).tear HML.out HX1.out hcl (crashTo_ok HR.out.ok ch (i + 1)) hsucc rfl rfl rfl rfl rfl nb (fun j u hu => by
          rw [Addr.add_lit, Nat.add_comm, cell_of_row _ nb (j + 1) _ _ _ hnb3]
          rw [← HCS.out] at hu
          simpa using hu)
        have HD5 := Lib.hid hD5
        have HK5 := Lib.hid (((HK.out.trans (hx2.keep F)).trans ((Ext.drew w2).keep F)).trans (hK5.widen (F := F) (by simpa using HD.out.inF.2.1)))
        obtain ⟨⟨ck, hck, q0⟩, -, -, -, -, -, -⟩ := (HD2.out.ext (Ext.drew w2)).cells
        have hgn : nb ∉ [gk] := fun hm => hnbF (by rw [List.mem_singleton.1 hm]; exact HD.out.inF.2.1)
        have hgd : db ∉ [gk] := fun hm => HD.out.ne.1 (List.mem_singleton.1 hm)
        have hr1 : w2.drew.cell? ⟨nb, 0, none⟩ = some (.int .i64 (m : Int)) := cell_blk hnb3 0
        have hS0 : w2.drew.cell? ⟨db, 0, none⟩ = some (.slice (some ⟨gk, 0, none⟩) (crashTo d ch i).now.length ck) ∧ w2.drew.cell? ⟨nb, 0, none⟩ = some (.int .i64 (m : Int)) := ⟨q0, hr1⟩
        have hS1 : w5.cell? ⟨db, 0, none⟩ = some (.slice (some ⟨gk, 0, none⟩) (crashTo d ch i).now.length ck) ∧ w5.cell? ⟨nb, 0, none⟩ = some (.int .i64 (m : Int)) := ⟨hK5.cell_some q0 hgd, hK5.cell_some hr1 hgn⟩
        obtain ⟨L, hL⟩ : ∃ L, L = (crashTo d ch i).now.length := ⟨_, rfl⟩
        rw [← hL] at hS0 hS1
        have hmL : m < L := by rw [hL]; exact HML.out
        have hcl0 : (0 : Int) ≤ (cN : Int) := by omega
        have hcl1 : (cN : Int) ≤ 64 := by omega
        have hcl2 : cN ≤ Try.prog.arrayLen 119 := by rw [show Try.prog.arrayLen 119 = 64 from by kernel_rfl]; exact hcl
        have hcl3 : (cN : Int) ≤ (Try.prog.arrayLen 119 : Int) := by exact_mod_cast hcl2
        clear htb hsucc hnb3 hD5 hK5 hck q0 hgn hgd hr1 hb2 hx2 hlt2 hnbF hnb hL ht
        by_cases hq : t ≤ 64
        · obtain rfl : cN = t := by omega
          clear hcN
          go_wp2
          all_goals first | omega | skip
          go_region_held3 (fun w' => w'.cell? ⟨db, 0, none⟩ = some (.slice (some ⟨gk, 0, none⟩) L ck) ∧ w'.cell? ⟨nb, 0, none⟩ = some (.int .i64 (m : Int))) (first | exact hS0 | exact hS1) ((rw [if_pos (by rfl)]; refine st_copy _ _ _ _ rfl _ _ _ rfl rfl _ hcp ?_))
          go_wp2
          go_roundw
          case rel => exact ⟨i + 1, by omega, by omega, by go_num, HD5.out, HK5.out⟩
          case measure => simp [intOf] <;> omega
        · obtain rfl : cN = 64 := by omega
          clear hcN
          go_wp2
          all_goals first | omega | skip
          go_region_held3 (fun w' => w'.cell? ⟨db, 0, none⟩ = some (.slice (some ⟨gk, 0, none⟩) L ck) ∧ w'.cell? ⟨nb, 0, none⟩ = some (.int .i64 (m : Int))) (first | exact hS0 | exact hS1) ((rw [if_pos (by rfl)]; refine st_copy _ _ _ _ rfl _ _ _ rfl rfl _ hcp ?_))
          go_wp2
          go_roundw
          case rel => exact ⟨i + 1, by omega, by omega, by go_num, HD5.out, HK5.out⟩
          case measure => simp [intOf] <;> omega
      · obtain rfl : i = ch.length := by omega
        have hd2 : decide (ch.length ≤ ch.length) = true := decide_eq_true (Nat.le_refl _)
        go_wp2_with (first
          | (refine wp_load_many (o := ⟨some 20, .load _ _, _, _, _, _⟩) rfl 121 _ rfl wr ⟨g, ch.length * 65, none⟩ rfl (Value.int .i64 (m : Int) :: cs) _ HC.out Try.underlying121 rfl (by rw [List.length_cons, HLEN.out]; exact info65) ?_)
          | (refine wp_alloc_many (o := ⟨some 6, .alloc _, _, _, _, _⟩) rfl 121 rfl wr z65 zero65 ?_)
          | (refine wp_store_new (o := ⟨none, .store _ _ _, _, _, _, _⟩) rfl 121 _ _ rfl wr z65 (Value.int .i64 (m : Int) :: cs) 121 rfl rfl rfl (by rw [List.length_cons, HLEN.out]; exact info65) (by rw [List.length_cons, HLEN.out]; exact z65_length) (one_cons m HONE.out) ?_))
        intro w2 hb2 hx2 hlt2
        have HD2 := Lib.hid (HD.out.ext hx2)
        have HK2 := Lib.hid (HK.out.trans (hx2.keep F))
        have hek : Hid ((crashTo d ch ch.length).kept = crashW d.kept d.wait ch) := crashTo_all d ch (.inr (Nat.le_refl _))
        obtain ⟨⟨ck, k0, q0⟩, ⟨x1, q1⟩, q2, q3, q4, q5, qf⟩ := tail_facts HD2.out
        clear hx2 hb2 hlt2
        go_wp2_with (go_at_call 73; refine (cloneS_ok w2 gk ck (crashTo d ch ch.length).kept HD2.out.kept HD2.out.ok.keptS (fun hm => by have h1 := HD2.out.ok.pos; have h2 := HD2.out.ok.same; rw [hm] at h2; simp at h2; omega) k0 (by have h1 := HD2.out.ok.le; have h2 := HD2.out.ok.same; omega)).mono ?_; rintro e w' ⟨g9, c9, rfl, h1, h2, h3, h4⟩; have HA := Lib.hid (HD2.out.after (d := d) ch hek.out rfl rfl HCR.out h4 h1 h2 h3); obtain ⟨-, ⟨x9, r1⟩, r2, r3, r4, r5, rf⟩ := tail_facts (HD2.out.ext h4); have r5' : w'.cell? ⟨db, 5, none⟩ = some (.int .i64 (d.lives : Int)) := r5; clear h1 h2 h3 h4 r5)
        go_ret
        exact ⟨rfl, _, HA.out.1.at_, HK2.out.trans HA.out.2, fun x hx => List.mem_append_left _ hx⟩
    · obtain rfl : i = N := by omega
      have hd : decide (i < i) = false := decide_eq_false (by omega)
      obtain ⟨⟨ck, k0, q0⟩, ⟨x1, q1⟩, q2, q3, q4, q5, qf⟩ := tail_facts HD.out
      have hek : Hid ((crashTo d ch i).kept = crashW d.kept d.wait ch) := crashTo_all d ch (.inl (by rw [← HN.out]; exact Nat.le_refl _))
      go_wp2_with (go_at_call 73; refine (cloneS_ok wr gk ck (crashTo d ch i).kept HD.out.kept HD.out.ok.keptS (fun hm => by have h1 := HD.out.ok.pos; have h2 := HD.out.ok.same; rw [hm] at h2; simp at h2; omega) k0 (by have h1 := HD.out.ok.le; have h2 := HD.out.ok.same; omega)).mono ?_; rintro e w' ⟨g9, c9, rfl, h1, h2, h3, h4⟩; have HA := Lib.hid (HD.out.after (d := d) ch hek.out rfl rfl HCR.out h4 h1 h2 h3); obtain ⟨-, ⟨x9, r1⟩, r2, r3, r4, r5, rf⟩ := tail_facts (HD.out.ext h4); have r5' : w'.cell? ⟨db, 5, none⟩ = some (.int .i64 (d.lives : Int)) := r5; clear h1 h2 h3 h4 r5)
      go_ret
      exact ⟨rfl, _, HA.out.1.at_, HK.out.trans HA.out.2, fun x hx => List.mem_append_left _ hx⟩
end Go.Proofs.Ytkmnjccklnfcdaa
