/- Rows of texts as lines: the plain laws. -/
import Derived.WalkKit
import Derived.Lib.TrimByte
import Derived.Lib.Repeat
import Derived.Lib.Strings
namespace Bst
open Go
set_option linter.unusedVariables false
set_option linter.unusedSimpArgs false

/-- A text of these bytes. -/
def bs (l : List UInt8) : ByteArray := ⟨l.toArray⟩
theorem bs_size (l : List UInt8) : (bs l).size = l.length := by simp [bs, ByteArray.size]
theorem bs_data (l : List UInt8) : (bs l).data.toList = l := by simp [bs]
theorem data_bs (s : ByteArray) : bs s.data.toList = s := by cases s; simp [bs]
theorem bs_append (a b : List UInt8) : bs a ++ bs b = bs (a ++ b) := by
  apply ByteArray.ext
  simp [bs, ByteArray.data_append]
theorem bs_append' (a : List UInt8) (s : ByteArray) : bs a ++ s = bs (a ++ s.data.toList) := by
  rw [← bs_append, data_bs]
theorem append_bs (a : ByteArray) (l : List UInt8) : a ++ bs l = bs (a.data.toList ++ l) := by
  rw [← bs_append, data_bs]
theorem size_data (s : ByteArray) : s.data.toList.length = s.size := Array.length_toList

theorem bs_get (l : List UInt8) (i : Nat) (h : i < (bs l).size) : (bs l)[i] = l[i]'(by rw [bs_size] at h; exact h) := by
  show (bs l).data[i] = _
  simp [bs]
theorem bs_cut (Y : List UInt8) (c : UInt8) : (bs (Y ++ [c])).extract 0 ((bs (Y ++ [c])).size - 1) = bs Y := by
  apply ByteArray.ext
  rw [bs_size]
  simp [bs]
theorem bs_last (Y : List UInt8) (c : UInt8) (h : (bs (Y ++ [c])).size - 1 < (bs (Y ++ [c])).size) : (bs (Y ++ [c]))[(bs (Y ++ [c])).size - 1] = c := by
  rw [bs_get]
  simp [bs_size]

/-- How wide a column is. -/
def wideS (rows : List (List ByteArray)) (k : Nat) : Nat := rows.foldl (fun n row => max n (row.getD k ByteArray.empty).size) 0
theorem wide_fold (k : Nat) : ∀ (rows : List (List ByteArray)) (n : Nat), rows.foldl (fun n row => max n (row.getD k ByteArray.empty).size) n = max n (wideS rows k)
  | [], n => by simp [wideS]
  | r :: rows, n => by
    unfold wideS
    rw [List.foldl_cons, List.foldl_cons, wide_fold k rows, wide_fold k rows (max 0 _)]
    omega
theorem wide_snoc (rows : List (List ByteArray)) (row : List ByteArray) (k : Nat) : wideS (rows ++ [row]) k = max (wideS rows k) (row.getD k ByteArray.empty).size := by
  unfold wideS; rw [List.foldl_append]; rfl
theorem wide_ge {rows : List (List ByteArray)} {row : List ByteArray} (h : row ∈ rows) (k : Nat) : (row.getD k ByteArray.empty).size ≤ wideS rows k := by
  induction rows with
  | nil => cases h
  | cons r rows ih =>
    have e : wideS (r :: rows) k = max (r.getD k ByteArray.empty).size (wideS rows k) := by
      unfold wideS
      rw [List.foldl_cons, wide_fold]
      unfold wideS
      omega
    rw [e]
    rcases List.mem_cons.1 h with rfl | h
    · omega
    · have := ih h; omega
structure Small (rows : List (List ByteArray)) : Prop where
  num : rows.length ≤ 30
  cols : ∀ row : List ByteArray, row ∈ rows → row.length ≤ 12 ∧ ∀ s : ByteArray, s ∈ row → s.size ≤ 40
theorem getD_size {row : List ByteArray} (h : ∀ s ∈ row, s.size ≤ 40) (k : Nat) : (row.getD k ByteArray.empty).size ≤ 40 := by
  rw [List.getD_eq_getElem?_getD]
  by_cases hk : k < row.length
  · rw [List.getElem?_eq_getElem hk]; exact h _ (List.getElem_mem hk)
  · rw [List.getElem?_eq_none (by omega)]; decide
theorem Small.wide {rows : List (List ByteArray)} (h : Small rows) (k : Nat) : wideS rows k ≤ 40 := by
  have : ∀ (l : List (List ByteArray)), (∀ row ∈ l, ∀ s ∈ row, s.size ≤ 40) → wideS l k ≤ 40 := by
    intro l
    induction l with
    | nil => intro _; simp [wideS]
    | cons r l ih =>
      intro hl
      have e : wideS (r :: l) k = max (r.getD k ByteArray.empty).size (wideS l k) := by
        unfold wideS
        rw [List.foldl_cons, wide_fold]
        unfold wideS
        omega
      have h1 := ih (fun row hr => hl row (List.mem_cons_of_mem _ hr))
      have h2 := getD_size (hl r (List.mem_cons_self ..)) k
      omega
  exact this rows fun row hr => (h.cols row hr).2

/-- Widths, with a row more. -/
def widR (o : List Nat) (row : List ByteArray) : List Nat := (List.range (max o.length row.length)).map fun j => max (o.getD j 0) (row.getD j ByteArray.empty).size
theorem widR_length (o : List Nat) (row : List ByteArray) : (widR o row).length = max o.length row.length := by simp [widR]
theorem widR_getD (o : List Nat) (row : List ByteArray) (j : Nat) : (widR o row).getD j 0 = max (o.getD j 0) (row.getD j ByteArray.empty).size := by
  by_cases hj : j < max o.length row.length
  · rw [List.getD_eq_getElem?_getD, List.getElem?_eq_getElem (by rw [widR_length]; exact hj)]
    simp [widR]
  · rw [List.getD_eq_getElem?_getD, List.getElem?_eq_none (by rw [widR_length]; omega)]
    have e1 : o.getD j 0 = 0 := by rw [List.getD_eq_getElem?_getD, List.getElem?_eq_none (by omega)]; rfl
    have e2 : row.getD j ByteArray.empty = ByteArray.empty := by rw [List.getD_eq_getElem?_getD, List.getElem?_eq_none (by omega)]; rfl
    rw [e1, e2]; rfl
theorem list_ext_getD {a b : List Nat} (hl : a.length = b.length) (h : ∀ j, a.getD j 0 = b.getD j 0) : a = b := by
  apply List.ext_getElem hl
  intro i h1 h2
  have := h i
  rw [List.getD_eq_getElem?_getD, List.getD_eq_getElem?_getD, List.getElem?_eq_getElem h1, List.getElem?_eq_getElem h2] at this
  simpa using this
theorem widR_nil (o : List Nat) : widR o [] = o := by
  refine list_ext_getD (by rw [widR_length]; simp) (fun j => ?_)
  rw [widR_getD]
  have e2 : ([] : List ByteArray).getD j ByteArray.empty = ByteArray.empty := by simp
  rw [e2]; simp
theorem getD_take {row : List ByteArray} (i j : Nat) : (row.take i).getD j ByteArray.empty = if j < i then row.getD j ByteArray.empty else ByteArray.empty := by
  rw [List.getD_eq_getElem?_getD, List.getD_eq_getElem?_getD, List.getElem?_take]
  split <;> simp
/-- One text more of the row. -/
theorem widR_step (o : List Nat) (row : List ByteArray) {i : Nat} (hi : i < row.length) :
    (i = (widR o (row.take i)).length → widR o (row.take (i + 1)) = (widR o (row.take i) ++ [0]).set i (max 0 row[i].size)) ∧
    (i ≠ (widR o (row.take i)).length → i < (widR o (row.take i)).length ∧ widR o (row.take (i + 1)) = (widR o (row.take i)).set i (max ((widR o (row.take i)).getD i 0) row[i].size)) := by
  have e0 : (row.getD i ByteArray.empty) = row[i] := by rw [List.getD_eq_getElem?_getD, List.getElem?_eq_getElem hi]; rfl
  have hl : (widR o (row.take i)).length = max o.length i := by rw [widR_length, List.length_take]; omega
  have hl2 : (widR o (row.take (i + 1))).length = max o.length (i + 1) := by rw [widR_length, List.length_take]; omega
  have hz : ByteArray.empty.size = 0 := rfl
  refine ⟨fun e => ?_, fun e => ⟨by omega, ?_⟩⟩
  · refine list_ext_getD (by simp only [List.length_set, List.length_append, hl2, hl, List.length_cons, List.length_nil]; omega) (fun j => ?_)
    rw [widR_getD, getD_take, List.getD_eq_getElem?_getD (l := List.set _ _ _), List.getElem?_set]
    by_cases hj : i = j
    · subst hj
      rw [if_pos rfl, if_pos (by omega), if_pos (by rw [List.length_append]; simp only [List.length_cons, List.length_nil]; omega), e0]
      have : o.getD i 0 = 0 := by rw [List.getD_eq_getElem?_getD, List.getElem?_eq_none (by omega)]; rfl
      rw [this]; rfl
    · rw [if_neg hj]
      by_cases hlt : j < i
      · rw [List.getElem?_append_left (by omega), ← List.getD_eq_getElem?_getD, widR_getD, getD_take, if_pos (by omega), if_pos hlt]
      · rw [List.getElem?_append_right (by omega), if_neg (by omega), List.getElem?_eq_none (by simp; omega), hz]
        have : o.getD j 0 = 0 := by rw [List.getD_eq_getElem?_getD, List.getElem?_eq_none (by omega)]; rfl
        rw [this]; rfl
  · refine list_ext_getD (by rw [List.length_set, hl2, hl]; omega) (fun j => ?_)
    rw [widR_getD, getD_take, List.getD_eq_getElem?_getD (l := List.set _ _ _), List.getElem?_set]
    by_cases hj : i = j
    · subst hj
      rw [if_pos rfl, if_pos (by omega), if_pos (by omega), e0, widR_getD, getD_take, if_neg (by omega), hz]
      simp
    · rw [if_neg hj, ← List.getD_eq_getElem?_getD, widR_getD, getD_take]
      by_cases hlt : j < i
      · rw [if_pos (by omega), if_pos hlt]
      · rw [if_neg (by omega), if_neg (by omega)]
/-- All widths. -/
def widS (rows : List (List ByteArray)) : List Nat := rows.foldl widR []
theorem widS_snoc (rows : List (List ByteArray)) (row : List ByteArray) : widS (rows ++ [row]) = widR (widS rows) row := by simp [widS]
theorem widS_getD (rows : List (List ByteArray)) (k : Nat) : (widS rows).getD k 0 = wideS rows k := by
  have : ∀ (l : List (List ByteArray)) (o : List Nat), (l.foldl widR o).getD k 0 = max (o.getD k 0) (wideS l k) := by
    intro l
    induction l with
    | nil => intro o; simp [wideS]
    | cons r l ih =>
      intro o
      rw [List.foldl_cons, ih, widR_getD]
      have e : wideS (r :: l) k = max (r.getD k ByteArray.empty).size (wideS l k) := by
        unfold wideS
        rw [List.foldl_cons, wide_fold]
        unfold wideS
        omega
      rw [e]; omega
  have h := this rows []
  simpa [widS] using h
theorem widS_length_ge {rows : List (List ByteArray)} {row : List ByteArray} (h : row ∈ rows) : row.length ≤ (widS rows).length := by
  have mono : ∀ (l : List (List ByteArray)) (o : List Nat), o.length ≤ (l.foldl widR o).length := by
    intro l
    induction l with
    | nil => intro o; exact Nat.le_refl _
    | cons r l ih => intro o; rw [List.foldl_cons]; have := ih (widR o r); rw [widR_length] at this; omega
  have : ∀ (l : List (List ByteArray)) (o : List Nat), row ∈ l → row.length ≤ (l.foldl widR o).length := by
    intro l
    induction l with
    | nil => intro o h; cases h
    | cons r l ih =>
      intro o h
      rw [List.foldl_cons]
      rcases List.mem_cons.1 h with rfl | h
      · have := mono l (widR o row); rw [widR_length] at this; omega
      · exact ih _ h
  exact this rows [] h
theorem widS_length_le {rows : List (List ByteArray)} (h : ∀ row ∈ rows, row.length ≤ 12) : (widS rows).length ≤ 12 := by
  have : ∀ (l : List (List ByteArray)) (o : List Nat), (∀ row ∈ l, row.length ≤ 12) → o.length ≤ 12 → (l.foldl widR o).length ≤ 12 := by
    intro l
    induction l with
    | nil => intro o _ h; exact h
    | cons r l ih =>
      intro o h ho
      rw [List.foldl_cons]
      refine ih _ (fun x hx => h x (List.mem_cons_of_mem _ hx)) ?_
      rw [widR_length]; have := h r (List.mem_cons_self ..); omega
  exact this rows [] h (by simp)

abbrev blanks (n : Nat) : List UInt8 := List.replicate n 32
/-- A line, so far: as the columns are padded. -/
def lineI (rows : List (List ByteArray)) (row : List ByteArray) : Nat → List UInt8
  | 0 => []
  | i + 1 => lineI rows row i ++ (if 0 < i then [32, 32] else []) ++ ((row.getD i ByteArray.empty).data.toList ++ blanks (wideS rows i - (row.getD i ByteArray.empty).size))
def atS (rows : List (List ByteArray)) : Nat → Nat
  | 0 => 0
  | k + 1 => atS rows k + wideS rows k + 2
/-- A line, so far: each text at its column. -/
def lineR (rows : List (List ByteArray)) (row : List ByteArray) : Nat → List UInt8
  | 0 => []
  | i + 1 => lineR rows row i ++ blanks (atS rows i - (lineR rows row i).length) ++ (row.getD i ByteArray.empty).data.toList
def trimR (l : List UInt8) : List UInt8 := Lib.trimRightB l 32
def lineS (rows : List (List ByteArray)) (row : List ByteArray) : List UInt8 := trimR (lineI rows row row.length)
def tableS' (rows l : List (List ByteArray)) : List ByteArray := l.map fun row => bs (lineS rows row)
abbrev tableS (rows : List (List ByteArray)) : List ByteArray := tableS' rows rows
theorem lineI_length {rows : List (List ByteArray)} {row : List ByteArray} (h : row ∈ rows) : ∀ i, (lineI rows row (i + 1)).length + 2 = atS rows (i + 1)
  | 0 => by
    have := wide_ge h 0
    simp only [lineI, atS, List.length_append, size_data, List.length_replicate, Nat.lt_irrefl, if_false, List.length_nil]
    omega
  | i + 1 => by
    have := wide_ge h (i + 1)
    have ih := lineI_length h i
    rw [lineI, atS]
    simp only [List.length_append, size_data, List.length_replicate, Nat.zero_lt_succ, if_true, List.length_cons, List.length_nil]
    omega
theorem atS_le {rows : List (List ByteArray)} (h : Small rows) : ∀ i, atS rows i ≤ 42 * i
  | 0 => by simp [atS]
  | i + 1 => by have := atS_le h i; have := h.wide i; rw [atS]; omega
theorem lineI_le {rows : List (List ByteArray)} {row : List ByteArray} (hs : Small rows) (h : row ∈ rows) (i : Nat) : (lineI rows row i).length ≤ 42 * i := by
  cases i with
  | zero => simp [lineI]
  | succ i => have := lineI_length h i; have := atS_le hs (i + 1); omega
theorem lineI_lineR {rows : List (List ByteArray)} {row : List ByteArray} (h : row ∈ rows) : ∀ i, lineI rows row (i + 1) = lineR rows row (i + 1) ++ blanks (wideS rows i - (row.getD i ByteArray.empty).size)
  | 0 => by simp [lineI, lineR, atS]
  | i + 1 => by
    have ih := lineI_lineR h i
    have hl := lineI_length h i
    have hw := wide_ge h i
    have e : lineR rows row (i + 1) ++ blanks (atS rows (i + 1) - (lineR rows row (i + 1)).length) = lineI rows row (i + 1) ++ [32, 32] := by
      rw [ih, List.append_assoc]
      congr 1
      have e2 : (lineR rows row (i + 1)).length + (wideS rows i - (row.getD i ByteArray.empty).size) + 2 = atS rows (i + 1) := by
        rw [← hl, ih, List.length_append, List.length_replicate]
      have e3 : ([32, 32] : List UInt8) = blanks 2 := rfl
      rw [e3, List.replicate_append_replicate]
      congr 1; omega
    rw [lineI, lineR, e]
    simp
theorem trimR_blanks (l : List UInt8) (n : Nat) : trimR (l ++ blanks n) = trimR l := by
  unfold trimR Lib.trimRightB
  rw [List.reverse_append, List.reverse_replicate]
  congr 1
  induction n with
  | zero => simp
  | succ n ih => rw [List.replicate_succ, List.cons_append, List.dropWhile_cons]; simp [ih]
theorem lineS_eq {rows : List (List ByteArray)} {row : List ByteArray} (h : row ∈ rows) : trimR (lineR rows row row.length) = lineS rows row := by
  unfold lineS
  cases hn : row.length with
  | zero => simp [lineR, lineI]
  | succ n => rw [lineI_lineR h n, trimR_blanks]
theorem lineR_le {rows : List (List ByteArray)} {row : List ByteArray} (hs : Small rows) (h : row ∈ rows) (i : Nat) : (lineR rows row i).length ≤ 42 * i ∧ (lineR rows row i).length ≤ atS rows i := by
  cases i with
  | zero => simp [lineR]
  | succ i =>
    have h1 := lineI_length h i
    have h2 := atS_le hs (i + 1)
    rw [lineI_lineR h i, List.length_append] at h1
    omega
/-- What is trimmed is blanks. -/
theorem trimR_spec (l : List UInt8) : ∃ n, l = trimR l ++ blanks n := by
  refine ⟨(l.reverse.takeWhile (· == (32 : UInt8))).length, ?_⟩
  have h1 : l.reverse.takeWhile (· == (32 : UInt8)) = blanks (l.reverse.takeWhile (· == (32 : UInt8))).length := by
    apply List.eq_replicate_of_mem
    intro x hx
    have := List.all_takeWhile (p := (· == (32 : UInt8))) (l := l.reverse)
    rw [List.all_eq_true] at this
    simpa using this x hx
  unfold trimR Lib.trimRightB
  have h2 := List.takeWhile_append_dropWhile (p := (· == (32 : UInt8))) (l := l.reverse)
  have h3 : l = (l.reverse.dropWhile (· == (32 : UInt8))).reverse ++ (l.reverse.takeWhile (· == (32 : UInt8))).reverse := by
    rw [← List.reverse_append, h2, List.reverse_reverse]
  rw [h1, List.reverse_replicate] at h3
  exact h3
theorem trimR_snoc (l : List UInt8) : trimR (l ++ [32]) = trimR l := trimR_blanks l 1
theorem trimR_stop (l : List UInt8) (c : UInt8) (h : c ≠ 32) : trimR (l ++ [c]) = l ++ [c] := by
  unfold trimR Lib.trimRightB
  simp [h]
theorem trimR_nil : trimR [] = [] := rfl
/-- Each text stands at its column. -/
theorem lineI_at {rows : List (List ByteArray)} {row : List ByteArray} (h : row ∈ rows) : ∀ (i : Nat) (k n : Nat), k < i → n < (row.getD k ByteArray.empty).size →
    (lineI rows row i)[atS rows k + n]? = (row.getD k ByteArray.empty).data.toList[n]?
  | 0, k, n, hk, _ => by omega
  | i + 1, k, n, hk, hn => by
    rcases Nat.lt_or_ge k i with hlt | hge
    · have ih := lineI_at h i k n hlt hn
      have hlen : atS rows k + n < (lineI rows row i).length := by
        by_cases hx : atS rows k + n < (lineI rows row i).length
        · exact hx
        · rw [List.getElem?_eq_none (by omega), List.getElem?_eq_getElem (by rw [size_data]; exact hn)] at ih
          cases ih
      rw [lineI, List.append_assoc, List.getElem?_append_left hlen]
      exact ih
    · obtain rfl : k = i := by omega
      rw [lineI]
      have hpre : (lineI rows row k ++ (if 0 < k then [32, 32] else [])).length = atS rows k := by
        cases k with
        | zero => rfl
        | succ k => have := lineI_length h k; rw [List.length_append]; simp; omega
      rw [List.getElem?_append_right (by rw [hpre]; omega), hpre, Nat.add_sub_cancel_left, List.getElem?_append_left (by rw [size_data]; exact hn)]
theorem lineS_at {rows : List (List ByteArray)} {row : List ByteArray} (h : row ∈ rows) {k n : Nat} (hk : k < row.length) (hn : n < (row.getD k ByteArray.empty).size) :
    (atS rows k + n < (lineS rows row).length → (lineS rows row)[atS rows k + n]? = (row.getD k ByteArray.empty).data.toList[n]?) ∧
    (¬ atS rows k + n < (lineS rows row).length → (row.getD k ByteArray.empty).data.toList[n]? = some 32) := by
  have h1 := lineI_at h row.length k n hk hn
  obtain ⟨m, hm⟩ := trimR_spec (lineI rows row row.length)
  refine ⟨fun hlt => ?_, fun hge => ?_⟩
  · rw [← h1, hm]
    exact (List.getElem?_append_left hlt).symm
  · rw [← h1]
    have hge' : (trimR (lineI rows row row.length)).length ≤ atS rows k + n := by
      have : (lineS rows row).length ≤ atS rows k + n := by omega
      exact this
    have hin : (lineI rows row row.length)[atS rows k + n]? ≠ none := by
      rw [h1, List.getElem?_eq_getElem (by rw [size_data]; exact hn)]; simp
    rw [hm, List.getElem?_append_right hge'] at hin ⊢
    rw [List.getElem?_replicate] at hin ⊢
    split at hin
    · rename_i hlt; rw [if_pos hlt]
    · exact absurd rfl hin
theorem lineS_le {rows : List (List ByteArray)} {row : List ByteArray} (hs : Small rows) (h : row ∈ rows) : (lineS rows row).length ≤ 42 * row.length := by
  obtain ⟨m, hm⟩ := trimR_spec (lineI rows row row.length)
  have := lineI_le hs h row.length
  rw [hm, List.length_append] at this
  have e : (lineS rows row).length = (trimR (lineI rows row row.length)).length := rfl
  omega
theorem repeatL_blank (n : Nat) : Lib.repeatL [32] n = blanks n := by
  induction n with
  | zero => rfl
  | succ n ih => rw [Lib.repeatL, ih]; rfl
end Bst
