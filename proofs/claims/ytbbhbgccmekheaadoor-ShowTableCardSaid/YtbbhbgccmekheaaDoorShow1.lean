/- Rows of texts as lines: how wide the columns are. -/
import Derived.Test.YtbbhbgccmekheaaDoorShelfD
import Derived.Test.YtbbhbgccmekheaaDoorLibRow
import Derived.Test.YtbbhbgccmekheaaDoorSpace
import Derived.Test.YtbbhbgccmekheaaDoorTabP
namespace Go.Proofs.YtbbhbgccmekheaaDoor
open Go Go.RowKit Bst
set_option linter.unusedVariables false
set_option linter.unusedSimpArgs false

theorem et_str : ET Tryd.prog 58 9 (.string ⟨#[]⟩) 1 16 := ⟨Tryd.underlying58, info_parts (by kernel_rfl), rfl, by decide⟩
abbrev KTexts : Kd (List ByteArray) := Kd.slice Kd.str
theorem sl_row_at {F : List Nat} {w : World} {A : Option Addr} {c : Nat} {l : List (List ByteArray)} (h : Sl KTexts F w A c l) {k : Nat} (hk : k < l.length) :
    ∃ g o A2 c2, A = some ⟨g, o, none⟩ ∧ w.cell? ⟨g, o + k, none⟩ = some (.slice A2 l[k].length c2) ∧ Sl Kd.str F w A2 c2 l[k] := by
  obtain ⟨g, o, rfl, _, _, hc⟩ := h.2.2 (by omega)
  obtain ⟨cs, ⟨A2, c2, rfl, hs⟩, hcell⟩ := hc k _ (getElem?_some_of_lt hk)
  exact ⟨g, o, A2, c2, rfl, by simpa [Kd.slice] using hcell 0 _ rfl, hs⟩
theorem sl_str_at {F : List Nat} {w : World} {A : Option Addr} {c : Nat} {l : List ByteArray} (h : Sl Kd.str F w A c l) {k : Nat} (hk : k < l.length) :
    ∃ g o, A = some ⟨g, o, none⟩ ∧ w.cell? ⟨g, o + k, none⟩ = some (.string l[k]) ∧ l[k].size ≤ 140737488355328 := by
  obtain ⟨g, o, rfl, _, _, hc⟩ := h.2.2 (by omega)
  obtain ⟨cs, ⟨rfl, hs⟩, hcell⟩ := hc k _ (getElem?_some_of_lt hk)
  exact ⟨g, o, rfl, by simpa [Kd.str] using hcell 0 _ rfl, hs⟩
theorem _root_.Bst.Keep.ext0 {w w' : World} {F : List Nat} (h : Keep [] w F w') : Ext w w' := ⟨h.os, h.tape, h.output, h.size, h.block, fun _ hb => by cases hb⟩
theorem lt_set {F : List Nat} {w : World} (h : ∀ b ∈ F, b < w.heap.size) (p : Addr) (u : Value) : ∀ b ∈ F, b < (w.setCell p u).heap.size := by
  intro b hb
  simpa [World.setCell] using h b hb
theorem own_shape {α : Type} {K : Kd α} {F : List Nat} {w : World} {base : Nat} {e : TypeId} {v : Value} {l : List α} (h : Own K F w base e v l) : ∃ A c, v = .slice A l.length c := by
  obtain ⟨⟨xs, h1, h2⟩, h3⟩ := h
  rcases h1.2 with ⟨rfl, h0⟩ | ⟨g, cap, cur, rfl, _⟩
  · exact ⟨none, 0, by rw [h0]⟩
  · exact ⟨_, cap, rfl⟩
abbrev ofNat (n : Nat) : Int := (n : Int)
/-- A row of ints of the call's own, an element of it. -/
theorem own_int_at {F : List Nat} {w : World} {base : Nat} {e : TypeId} {v : Value} {o : List Nat} (h : Own Kd.int F w base e v (o.map ofNat)) {i : Nat} (hi : i < o.length) :
    ∃ g c, v = .slice (some ⟨g, 0, none⟩) o.length c ∧ g ∈ F ∧ w.cell? ⟨g, i, none⟩ = some (.int .i64 ((o.getD i 0 : Nat) : Int)) ∧ w.frozen? ⟨g, i, none⟩ = false ∧
      ∀ n : Nat, n < 1000000000000 → Own Kd.int F (w.setCell ⟨g, i, none⟩ (.int .i64 (n : Int))) base e v ((o.set i n).map ofNat) := by
  obtain ⟨g, c, hv, hg, hb, ⟨cs, ⟨rfl, hs⟩, hcell⟩, hf, hset⟩ := h.at_ (i := i) (by simpa using hi)
  have e1 : i * Kd.int.sz = i := Nat.mul_one i
  have hc := hcell 0 _ rfl
  rw [e1] at hc hset
  have e2 : o.getD i 0 = o[i] := by rw [List.getD_eq_getElem?_getD, List.getElem?_eq_getElem hi]; rfl
  refine ⟨g, c, by rw [hv, List.length_map], hg, by rw [e2]; simpa using hc, hf i, fun n hn => ?_⟩
  have := hset 0 (.int .i64 (n : Int)) (n : Int) (by decide) (fun cs' hR hq => by
    obtain ⟨rfl, _⟩ := hR
    exact ⟨rfl, InI64.of (by omega) (by omega)⟩)
  rw [List.map_set]; exact this

set_option maxRecDepth 100000 in
set_option maxHeartbeats 1000000 in
theorem widths_ok (w : World) (A : Option Addr) (c : Nat) (rows : List (List ByteArray)) (hl : Sl KTexts [] w A c rows) (hs : Small rows) :
    Calls Tryd.prog 40 #[.slice A rows.length c] w fun e w' => ∃ v F, e = .returned v ∧ Own Kd.int F w' w.heap.size 3 v ((widS rows).map ofNat) ∧ Ext w w' := by
  have hnum := hs.num
  have HL := Lib.hid hl
  have HS := Lib.hid hs
  clear hl hs
  go_enter Tryd.func40, Tryd.ntmps40
  go_wp2
  go_loopw [3, 10] (fun ov iv wr => ∃ (k : Nat) (F : List Nat), k ≤ rows.length ∧ iv = .int .i64 (k : Int) ∧ Hid (Own Kd.int F wr w.heap.size 3 ov ((widS (rows.take k)).map ofNat)) ∧ Hid (Keep [] w F wr) ∧ Hid (∀ b ∈ F, b < wr.heap.size)) (fun _ iv _ => rows.length - (intOf iv).toNat)
  case atStart => exact ⟨0, [], Nat.zero_le _, rfl, Own.nil _ _ _ _ _, Keep.refl _ _, fun _ h => by cases h⟩
  case round =>
    obtain ⟨k, F, hk, rfl, HO, HK, HF⟩ := hrel
    by_cases hlt : k < rows.length
    · obtain ⟨g, o, A2, c2, rfl, k0, hrow⟩ := sl_row_at HL.out hlt
      have k0 := HK.out.cell_some k0 (by simp)
      have hcols := HS.out.cols _ (List.getElem_mem hlt)
      have HROW := Lib.hid hrow
      have HSZ := Lib.hid hcols.2
      have hlen := hcols.1
      have HT : Hid (widS (rows.take (k + 1)) = widR (widS (rows.take k)) rows[k]) := by
        rw [Hid, List.take_succ_eq_append_getElem hlt, widS_snoc]
      have HW12 : Hid ((widS (rows.take k)).length ≤ 12) := widS_length_le fun row hr => (HS.out.cols row (List.mem_of_mem_take hr)).1
      have HW40 : Hid (∀ j, (widS (rows.take k)).getD j 0 ≤ 40) := by
        intro j
        rw [widS_getD]
        exact Small.wide ⟨by rw [List.length_take]; omega, fun row hr => HS.out.cols row (List.mem_of_mem_take hr)⟩ j
      clear hrow hcols
      generalize rows[k] = row at *
      generalize widS (rows.take k) = o0 at *
      go_wp2
      go_loopw [3, 16] (fun ov iv wr => ∃ (i : Nat) (F : List Nat), i ≤ row.length ∧ iv = .int .i64 (i : Int) ∧ Hid (Own Kd.int F wr w.heap.size 3 ov ((widR o0 (row.take i)).map ofNat)) ∧ Hid (Keep [] w F wr) ∧ Hid (∀ b ∈ F, b < wr.heap.size)) (fun _ iv _ => row.length - (intOf iv).toNat)
      case atStart => exact ⟨0, F, Nat.zero_le _, rfl, by rw [List.take_zero, widR_nil]; exact HO.out, HK.out, HF.out⟩
      case round =>
        obtain ⟨i, F, hi, rfl, HO, HK, HF⟩ := hrel
        by_cases hlt2 : i < row.length
        · obtain ⟨g2, o2, rfl, k1, hsz⟩ := sl_str_at HROW.out hlt2
          have k1 := HK.out.cell_some k1 (by simp)
          have hsz2 := HSZ.out _ (List.getElem_mem hlt2)
          obtain ⟨st1, st2⟩ := widR_step o0 row hlt2
          have hlo : (widR o0 (row.take i)).length ≤ 12 := by have := HW12.out; rw [widR_length, List.length_take]; omega
          have hgd : (widR o0 (row.take i)).getD i 0 ≤ 40 := by
            have h1 := HW40.out i
            rw [widR_getD, getD_take, if_neg (by omega)]
            have : ByteArray.empty.size = 0 := rfl
            omega
          generalize row[i] = s at *
          obtain ⟨Av, cv, rfl⟩ := own_shape HO.out
          simp only [List.length_map] at *
          by_cases hil : i = (widR o0 (row.take i)).length
          · have HST := Lib.hid (st1 hil)
            clear st1 st2
            have e0 : ((i : Int) == ((widR o0 (row.take i)).length : Int)) = true := by rw [← hil]; simp
            have HIL := Lib.hid hil
            clear hil
            generalize widR o0 (row.take i) = oo at *
            go_wp2_with (at_builtin; go_must (refine wp_app1 (K := Kd.int) et_int rfl _ _ rfl wr [.int .i64 0] w.heap.size F (.slice Av oo.length cv) (oo.map ofNat) 0 (by rfl) (by rfl) rfl HO.out ⟨rfl, InI64.of (by omega) (by omega)⟩ HF.out (by simp; omega) (by simp; omega) HK.out.size ?_))
            intro v' w2 F2 hown2 hk2 hk0 hn2 hF2
            have hown3 : Own Kd.int F2 w2 w.heap.size 3 v' ((oo ++ [0]).map ofNat) := by rw [List.map_append]; exact hown2
            have hio' : i < oo.length + 1 := by have := HIL.out; omega
            have hio : i < (oo ++ [0]).length := by simpa using hio'
            obtain ⟨g3, c3, rfl, hgF, hc3, hf3, hset⟩ := own_int_at hown3 hio
            have e1 : (oo ++ [0]).getD i 0 = 0 := by
              rw [List.getD_eq_getElem?_getD, HIL.out]; simp
            rw [e1] at hc3
            have HSET := Lib.hid hset
            have HK2 := Lib.hid (HK.out.trans hk2)
            have HF2 := Lib.hid hn2
            clear hset hown2 hown3 hk2 hk0 hn2 hF2 e1
            have HS3 : Hid (Own Kd.int F2 (w2.setCell ⟨g3, i, none⟩ (.int .i64 (s.size : Int))) w.heap.size 3 (.slice (some ⟨g3, 0, none⟩) (oo ++ [0]).length c3) ((widR o0 (row.take (i + 1))).map ofNat)) := by
              have h2 := HSET.out (max 0 s.size) (by omega)
              rw [HST.out]
              rw [Nat.zero_max] at h2 ⊢
              exact h2
            go_wp2
            go_roundw
            case rel => exact ⟨i + 1, F2, by omega, by go_num, HS3.out, HK2.out.trans (Keep.setCell _ _ _ _ hgF), lt_set HF2.out _ _⟩
            case measure => simp [intOf] <;> omega
          · have HST := Lib.hid (st2 hil)
            clear st1 st2
            have e0 : ((i : Int) == ((widR o0 (row.take i)).length : Int)) = false := by simp; omega
            clear hil
            generalize widR o0 (row.take i) = oo at *
            obtain ⟨g3, c3, hv, hgF, hc3, hf3, hset⟩ := own_int_at HO.out HST.out.1
            injection hv with hv1 hv2 hv3
            subst hv1; subst hv3
            have HSET := Lib.hid hset
            have hio := HST.out.1
            clear hset
            have HS3 : Hid (Own Kd.int F (wr.setCell ⟨g3, i, none⟩ (.int .i64 (max (oo.getD i 0 : Int) (s.size : Int)))) w.heap.size 3 (.slice (some ⟨g3, 0, none⟩) oo.length cv) ((widR o0 (row.take (i + 1))).map ofNat)) := by
              have h2 := HSET.out (max (oo.getD i 0) s.size) (by omega)
              rw [HST.out.2]
              have e5 : ((max (oo.getD i 0) s.size : Nat) : Int) = max (oo.getD i 0 : Int) (s.size : Int) := by omega
              rw [e5] at h2
              exact h2
            generalize oo.getD i 0 = q at *
            go_wp2
            go_roundw
            case rel => exact ⟨i + 1, F, by omega, by go_num, HS3.out, HK.out.trans (Keep.setCell _ _ _ _ hgF), lt_set HF.out _ _⟩
            case measure => simp [intOf] <;> omega
        · obtain rfl : i = row.length := by omega
          have HOF := Lib.hid HO.out
          rw [List.take_length, ← HT.out] at HOF
          go_wp2
          go_roundw
          case rel => exact ⟨k + 1, F, by omega, by go_num, HOF.out, HK.out, HF.out⟩
          case measure => simp [intOf] <;> omega
    · obtain rfl : k = rows.length := by omega
      have HOF := Lib.hid HO.out
      rw [List.take_length] at HOF
      obtain ⟨Av, cv, rfl⟩ := own_shape HOF.out
      go_wp2
      go_ret
      exact ⟨_, F, rfl, HOF.out, HK.out.ext0⟩
end Go.Proofs.YtbbhbgccmekheaaDoor
