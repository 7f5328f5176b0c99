/- Rows of texts as lines: roles, lines alike, few, the example. -/
import Derived.Test.YtbbhbgccmekheaaDoorShow3
import Derived.Test.YtbbhbgccmekheaaDoorR01
namespace Go.Proofs.YtbbhbgccmekheaaDoor
open Go Go.RowKit Bst
set_option linter.unusedVariables false
set_option linter.unusedSimpArgs false

def roleS (n : Int) : ByteArray := if n = 1 then ⟨#[114, 101, 97, 100, 101, 114]⟩ else if n = 2 then ⟨#[119, 114, 105, 116, 101, 114]⟩ else if n = 3 then ⟨#[97, 100, 109, 105, 110]⟩ else if n = 4 then ⟨#[111, 119, 110, 101, 114]⟩ else ⟨#[]⟩
theorem role_ok (w : World) (n : Int) : Calls Tryd.prog 30 #[.int .i64 n] w fun e w' => e = .returned (.string (roleS n)) ∧ w = w' := by
  by_cases h1 : n = 1
  · subst h1; go_enter Tryd.func30, Tryd.ntmps30; go_wp2; go_ret; exact ⟨rfl, rfl⟩
  by_cases h2 : n = 2
  · subst h2; go_enter Tryd.func30, Tryd.ntmps30; go_wp2; go_ret; exact ⟨rfl, rfl⟩
  by_cases h3 : n = 3
  · subst h3; go_enter Tryd.func30, Tryd.ntmps30; go_wp2; go_ret; exact ⟨rfl, rfl⟩
  by_cases h4 : n = 4
  · subst h4; go_enter Tryd.func30, Tryd.ntmps30; go_wp2; go_ret; exact ⟨rfl, rfl⟩
  have HR : Hid (roleS n = ⟨#[]⟩) := by rw [Hid, roleS, if_neg h1, if_neg h2, if_neg h3, if_neg h4]
  have d1 : (n == 1) = false := by simpa using h1
  have d2 : (n == 2) = false := by simpa using h2
  have d3 : (n == 3) = false := by simpa using h3
  have d4 : (n == 4) = false := by simpa using h4
  rw [HR.out]
  clear h1 h2 h3 h4
  go_enter Tryd.func30, Tryd.ntmps30
  go_wp2
  go_ret
  exact ⟨rfl, rfl⟩
theorem rrole_ok (w : World) (n : Int) : Calls Tryd.prog 31 #[.int .i64 n] w fun e w' => e = .returned (.string (roleS n)) ∧ Ext w w' := by
  by_cases hn : n < 1
  · have HR : Hid (roleS n = ⟨#[]⟩) := by rw [Hid, roleS, if_neg (by omega), if_neg (by omega), if_neg (by omega), if_neg (by omega)]
    have d1 : decide (n < 1) = true := decide_eq_true hn
    rw [HR.out]
    clear hn
    go_enter Tryd.func31, Tryd.ntmps31
    go_wp2
    go_ret
    exact ⟨rfl, Ext.refl _⟩
  by_cases hn4 : 4 < n
  · have HR : Hid (roleS n = ⟨#[]⟩) := by rw [Hid, roleS, if_neg (by omega), if_neg (by omega), if_neg (by omega), if_neg (by omega)]
    have d1 : decide (n < 1) = false := decide_eq_false hn
    have d2 : decide (4 < n) = true := decide_eq_true hn4
    rw [HR.out]
    clear hn hn4
    go_enter Tryd.func31, Tryd.ntmps31
    go_wp2
    go_ret
    exact ⟨rfl, Ext.refl _⟩
  have hc : n = 1 ∨ n = 2 ∨ n = 3 ∨ n = 4 := by omega
  clear hn hn4
  have X := Ext.alloc w (.cells #[.string ⟨#[114, 101, 97, 100, 101, 114]⟩, .string ⟨#[119, 114, 105, 116, 101, 114]⟩, .string ⟨#[97, 100, 109, 105, 110]⟩, .string ⟨#[111, 119, 110, 101, 114]⟩] 9)
  rcases hc with rfl | rfl | rfl | rfl
  all_goals
    go_enter Tryd.func31, Tryd.ntmps31
    go_wp2
    go_ret
    exact ⟨rfl, X⟩
theorem str_eq (a b : ByteArray) : (a.toList == b.toList) = decide (a = b) := by
  rw [Lib.toList_data, Lib.toList_data]
  by_cases h : a = b
  · subst h; simp
  · have : a.data.toList ≠ b.data.toList := fun e => h (by rw [← data_bs a, ← data_bs b, e])
    simp [h]
    exact fun e => this (by rw [e])
set_option maxHeartbeats 400000 in
theorem lines_ok (F : List Nat) (w : World) (A B : Option Addr) (c d : Nat) (la lb : List ByteArray) (ha : Sl Kd.str F w A c la) (hb : Sl Kd.str F w B d lb) :
    Calls Tryd.prog 28 #[.slice A la.length c, .slice B lb.length d] w fun e w' => e = .returned (.bool (decide (la = lb))) ∧ ∃ n, w' = w.drewN n := by
  have la_le := ha.len_le
  have HA := Lib.hid ha
  have HB := Lib.hid hb
  clear ha hb
  by_cases hl : la.length = lb.length
  · have HL := Lib.hid hl
    have hb0 : ((la.length : Int) != (lb.length : Int)) = false := by simp [hl]
    have hl1 : la.length ≤ lb.length := by omega
    clear hl
    go_enter Tryd.func28, Tryd.ntmps28
    go_wp2
    go_loopw [13] (fun i wr => ∃ k n : Nat, k ≤ la.length ∧ i = .int .i64 k ∧ wr = w.drewN n ∧ Hid (la.take k = lb.take k)) (fun i _ => la.length - (intOf i).toNat)
    case atStart => exact ⟨0, 0, Nat.zero_le _, rfl, rfl, rfl⟩
    case round =>
      obtain ⟨k, n, hk, rfl, rfl, HT⟩ := hrel
      by_cases hlt : k < la.length
      · obtain ⟨g, o, rfl, ca, -⟩ := sl_str_at HA.out hlt
        obtain ⟨g', o', rfl, cb, -⟩ := sl_str_at HB.out (k := k) (by omega)
        go_wp2
        go_quiet (fail)
        rw [str_eq]
        have ht := take_eq_iff k HL.out hlt HT.out
        by_cases he : la[k] = lb[k]
        · rw [decide_eq_true he]
          have HT' := Lib.hid (ht.2 he)
          clear he ht
          go_wp2
          go_roundw
          case rel => exact ⟨k + 1, n + nq, by omega, by go_num, rfl, HT'⟩
          case measure => simp [intOf]; omega
        · rw [decide_eq_false he]
          have hne : Hid (la ≠ lb) := fun e => he (by subst e; rfl)
          clear he ht
          go_wp2
          go_ret
          exact ⟨by simp [hne.out], _, by rw [World.drewN_drewN]⟩
      · have he : la = lb := by
          have := HT.out
          rwa [List.take_of_length_le (by omega), List.take_of_length_le (by have := HL.out; omega)] at this
        have HE := Lib.hid he
        clear he
        go_wp2
        go_ret
        exact ⟨by simp [HE.out], _, rfl⟩
  · have hne : Hid (la ≠ lb) := fun e => hl (by subst e; rfl)
    have hb0 : ((la.length : Int) != (lb.length : Int)) = true := by simp; omega
    go_enter Tryd.func28, Tryd.ntmps28
    go_wp2
    go_ret
    exact ⟨by simp [hne.out], 0, rfl⟩
def rowT (row : List ByteArray) : Bool := decide (row.length ≤ 12) && row.all fun s => decide (s.size ≤ 40)
def fewT (rows : List (List ByteArray)) : Bool := rows.all rowT && decide (rows.length ≤ 20)
theorem fewT_bad {rows : List (List ByteArray)} {row : List ByteArray} (h : row ∈ rows) (hr : rowT row = false) : fewT rows = false := by
  unfold fewT
  rw [Bool.and_eq_false_iff, List.all_eq_false]
  exact .inl ⟨row, h, by simp [hr]⟩
theorem rowT_bad {row : List ByteArray} {s : ByteArray} (h : s ∈ row) (hr : 40 < s.size) : rowT row = false := by
  unfold rowT
  rw [Bool.and_eq_false_iff, List.all_eq_false]
  exact .inr ⟨s, h, by simp; omega⟩
theorem fewT_small {rows : List (List ByteArray)} (h : fewT rows = true) : Small rows ∧ rows.length ≤ 20 := by
  unfold fewT at h
  rw [Bool.and_eq_true, List.all_eq_true, decide_eq_true_eq] at h
  refine ⟨⟨by omega, fun row hr => ?_⟩, h.2⟩
  have := h.1 row hr
  unfold rowT at this
  rw [Bool.and_eq_true, List.all_eq_true, decide_eq_true_eq] at this
  exact ⟨this.1, fun s hs => of_decide_eq_true (this.2 s hs)⟩
set_option maxHeartbeats 1000000 in
theorem few42_ok (w : World) (A : Option Addr) (c : Nat) (rows : List (List ByteArray)) (hl : Sl KTexts [] w A c rows) :
    Calls Tryd.prog 26 #[.slice A rows.length c] w fun e w' => e = .returned (.bool (fewT rows)) ∧ w = w' := by
  have hle := hl.len_le
  have HL := Lib.hid hl
  clear hl
  go_enter Tryd.func26, Tryd.ntmps26
  go_wp2
  go_loop [9] (fun iv => ∃ k : Nat, k ≤ rows.length ∧ iv = .int .i64 (k : Int) ∧ Hid (∀ r ∈ rows.take k, rowT r = true)) (fun iv => rows.length - (intOf iv).toNat)
  case atStart => exact ⟨0, Nat.zero_le _, rfl, by simp [Hid]⟩
  case round =>
    obtain ⟨k, hk, rfl, HA⟩ := hrel
    by_cases hlt : k < rows.length
    · obtain ⟨g, o, A2, c2, rfl, k0, hrow⟩ := sl_row_at HL.out hlt
      have hmem := List.getElem_mem hlt
      have hrl := hrow.len_le
      have HROW := Lib.hid hrow
      have HBAD := Lib.hid (fun h => fewT_bad hmem h)
      have HT : Hid (rows.take (k + 1) = rows.take k ++ [rows[k]]) := List.take_succ_eq_append_getElem hlt
      clear hrow hmem
      generalize rows[k] = row at *
      by_cases h12 : row.length ≤ 12
      · have d12 : decide (12 < row.length) = false := decide_eq_false (by omega)
        go_wp2
        go_loop [18] (fun iv => ∃ i : Nat, i ≤ row.length ∧ iv = .int .i64 (i : Int) ∧ Hid (∀ s ∈ row.take i, s.size ≤ 40)) (fun iv => row.length - (intOf iv).toNat)
        case atStart => exact ⟨0, Nat.zero_le _, rfl, by simp [Hid]⟩
        case round =>
          obtain ⟨i, hi, rfl, HS⟩ := hrel
          by_cases hlt2 : i < row.length
          · obtain ⟨g2, o2, rfl, k1, -⟩ := sl_str_at HROW.out hlt2
            have hmem := List.getElem_mem hlt2
            have HB2 := Lib.hid (fun h => HBAD.out (rowT_bad hmem h))
            have HT2 : Hid (row.take (i + 1) = row.take i ++ [row[i]]) := List.take_succ_eq_append_getElem hlt2
            clear hmem
            generalize row[i] = s at *
            by_cases h40 : s.size ≤ 40
            · have d40 : decide (40 < s.size) = false := decide_eq_false (by omega)
              have HS2 : Hid (∀ x ∈ row.take (i + 1), x.size ≤ 40) := by
                rw [Hid, HT2.out]
                intro x hx
                rcases List.mem_append.1 hx with h | h
                · exact HS.out x h
                · rw [List.mem_singleton.1 h]; exact h40
              go_wp2
              go_round
              case rel => exact ⟨i + 1, by omega, by go_num, HS2.out⟩
              case measure => simp [intOf] <;> omega
            · have d40 : decide (40 < s.size) = true := decide_eq_true (by omega)
              have HF : Hid (fewT rows = false) := HB2.out (by omega)
              go_wp2
              go_ret
              exact ⟨ret_bool (a := false) (by rw [HF.out]), rfl⟩
          · have HA2 : Hid (∀ r ∈ rows.take (k + 1), rowT r = true) := by
              rw [Hid, HT.out]
              intro r hr
              rcases List.mem_append.1 hr with h | h
              · exact HA.out r h
              · rw [List.mem_singleton.1 h]
                unfold rowT
                rw [Bool.and_eq_true, List.all_eq_true, decide_eq_true_eq]
                refine ⟨h12, fun s hs => decide_eq_true ?_⟩
                have := HS.out
                rw [List.take_of_length_le (by omega)] at this
                exact this s hs
            go_wp2
            go_round
            case rel => exact ⟨k + 1, by omega, by go_num, HA2.out⟩
            case measure => simp [intOf] <;> omega
      · have d12 : decide (12 < row.length) = true := decide_eq_true (by omega)
        have HF : Hid (fewT rows = false) := HBAD.out (by unfold rowT; rw [decide_eq_false h12]; rfl)
        go_wp2
        go_ret
        exact ⟨ret_bool (a := false) (by rw [HF.out]), rfl⟩
    · have HF : Hid (fewT rows = decide (rows.length ≤ 20)) := by
        have := HA.out
        rw [List.take_of_length_le (by omega)] at this
        unfold Hid fewT
        rw [List.all_eq_true.2 this, Bool.true_and]
      go_wp2
      go_ret
      exact ⟨ret_bool (a := decide ((rows.length : Int) ≤ 20)) (by rw [HF.out]; exact decide_eq_decide.2 (by omega)), rfl⟩
end Go.Proofs.YtbbhbgccmekheaaDoor
