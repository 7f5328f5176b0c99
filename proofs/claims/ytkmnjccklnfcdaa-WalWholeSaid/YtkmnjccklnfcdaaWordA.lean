/- The library's Clone and Reverse at bytes; a list turned round. Numbers as bytes: the program's. -/
import Derived.Test.YtkmnjccklnfcdaaLibVec
import Derived.Test.YtkmnjccklnfcdaaProg
import Derived.WalkSpells
import Derived.RegionTactic
import Derived.Laws.Bits64b
namespace Go.Proofs.Ytkmnjccklnfcdaa
open Go Go.RowKit Bst
set_option linter.unusedVariables false
set_option linter.unusedSimpArgs false

theorem et_u8 : ET Try.prog 41 5 (.int .u8 0) 1 1 := ⟨Try.underlying41, info_parts (by kernel_rfl), rfl, by decide⟩
theorem own_pre {F : List Nat} {w : World} {base : Nat} {e : TypeId} {v : Value} {l : List UInt8} (h : Own Kd.u8 F w base e v l) (hl : l ≠ []) :
    ∃ g c, v = .slice (some ⟨g, 0, none⟩) l.length c ∧ Pre encU8 w g l ∧ base ≤ g ∧ l.length ≤ c := by
  obtain ⟨⟨xs, h1, h2⟩, h3⟩ := h
  have hx : xs = l.map encU8 := by
    clear h1 h3 hl
    induction l generalizing xs with
    | nil => exact h2
    | cons a l ih => obtain ⟨cs, ys, rfl, hR, h⟩ := h2; rw [ih ys h, show cs = [encU8 a] from hR]; rfl
  subst hx
  rcases h1.2 with ⟨rfl, h0⟩ | ⟨g, cap, cur, rfl, hb, hgg, hnc, hcm, hcs, htake⟩
  · exact absurd (List.eq_nil_of_length_eq_zero h0) hl
  · refine ⟨g, cap, rfl, ⟨e, cur.toList.drop (l.length * 1), ?_⟩, hb, hnc⟩
    rw [hgg]
    congr 2
    apply Array.ext'
    have := List.take_append_drop (l.length * 1) cur.toList
    rw [List.toList_toArray, ← this]
    congr 1
    simp [Kd.u8] at htake
    simp [htake]
theorem own_empty (w : World) (F : List Nat) (e : TypeId) (hF : w.heap.size ∈ F) : Own Kd.u8 F (w.alloc (.cells #[] e)) w.heap.size e (.slice (some ⟨w.heap.size, 0, none⟩) 0 0) [] := by
  refine ⟨⟨[], ⟨by simp, .inr ⟨w.heap.size, 0, #[], rfl, Nat.le_refl _, heap_alloc_new w _, Nat.le_refl _, by simp [maxLen], by simp, by simp⟩⟩, rfl⟩, fun g hg => ?_⟩
  simp [Value.ownBlock] at hg
  rw [← hg]; exact hF
theorem clone8_nil (w : World) : Calls Try.prog 84 #[.slice none 0 0] w fun e w' => e = .returned (.slice none 0 0) ∧ w = w' := by
  have h0 := fun wq a n c => Lib.run_eql_slice_nil (P := Try.prog) wq 41 5 a n c 0 0 Try.underlying41
  go_enter Try.func84, Try.ntmps84
  go_wp2
  go_ret
  exact ⟨rfl, rfl⟩
set_option maxHeartbeats 400000 in
theorem clone8_ok (F : List Nat) (w : World) (A : Option Addr) (c : Nat) (l : List UInt8) (hl : Sl Kd.u8 F w A c l) (hne : l ≠ []) :
    Calls Try.prog 84 #[.slice A l.length c] w fun e w' => ∃ g c', e = .returned (.slice (some ⟨g, 0, none⟩) l.length c') ∧ Pre encU8 w' g l ∧ w.heap.size ≤ g ∧ l.length ≤ c' ∧ Ext w w' := by
  have hle := hl.len_le
  obtain ⟨ga, oa, rfl, -, -, -⟩ := hl.2.2 (List.length_pos_iff.2 hne)
  have HL : Hid (Sl Kd.u8 [w.heap.size] w (some ⟨ga, oa, none⟩) c l) := by
    refine ⟨hl.1, hl.2.1, fun hn => ?_⟩
    obtain ⟨g, o, e, hg, _, hc⟩ := hl.2.2 hn
    exact ⟨g, o, e, hg, by simp; omega, hc⟩
  have h0 := fun wq a n c => Lib.run_eql_slice_nil (P := Try.prog) wq 41 5 a n c 0 0 Try.underlying41
  clear hl
  go_enter Try.func84, Try.ntmps84
  go_wp2_with (at_builtin; go_must (refine wp_app (K := Kd.u8) et_u8 rfl _ _ rfl (w.alloc (.cells #[] 5)) w.heap.size [w.heap.size] _ [] l (some ⟨ga, oa, none⟩) c (by rfl) (by rfl) (own_empty w _ _ (by simp)) (HL.out.ext ((Ext.alloc w _).keep _)) (by simp; omega) (by simp; omega) (by simp) ?_))
  intro v' w2 F2 hown hk hk0 hk00 hF
  obtain ⟨g, c', rfl, hpre, hb, hc'⟩ := own_pre hown hne
  have HPRE := Lib.hid hpre
  have HX : Hid (Ext w w2) := ((Ext.alloc w (.cells #[] 5)).keep [w.heap.size] |>.trans hk).ext (by simp)
  clear hown hk hk0 hk00 hF hpre
  go_wp2
  go_ret
  exact ⟨g, c', rfl, HPRE.out, hb, hc', HX.out⟩
/-- Turned round from both ends, i of each. -/
def RevAt (l m : List UInt8) (i : Nat) : Prop := m.length = l.length ∧ ∀ k, k < l.length → m.getD k 0 = if k < i ∨ l.length - i ≤ k then l.getD (l.length - 1 - k) 0 else l.getD k 0
theorem RevAt.zero (l : List UInt8) : RevAt l l 0 := ⟨rfl, fun k hk => by rw [if_neg (by omega)]⟩
theorem RevAt.done {l m : List UInt8} {i : Nat} (h : RevAt l m i) (hi : l.length ≤ 2 * i + 1) : m = l.reverse := by
  apply List.ext_getElem
  · rw [h.1, List.length_reverse]
  · intro k h1 h2
    have hk : k < l.length := by rw [← h.1]; exact h1
    have := h.2 k hk
    rw [List.getD_eq_getElem?_getD, List.getElem?_eq_getElem h1, Option.getD_some] at this
    rw [this, List.getElem_reverse]
    split
    · rw [List.getD_eq_getElem?_getD, List.getElem?_eq_getElem (by omega)]; rfl
    · have : l.length - 1 - k = k := by omega
      simp only [this]
      rw [List.getD_eq_getElem?_getD, List.getElem?_eq_getElem (by omega)]; rfl
theorem RevAt.step {l m : List UInt8} {i j : Nat} (h : RevAt l m i) (hij : i < j) (hj : i + j + 1 = l.length) : RevAt l ((m.set i (m.getD j 0)).set j (m.getD i 0)) (i + 1) := by
  refine ⟨by simp [h.1], fun k hk => ?_⟩
  rw [List.getD_eq_getElem?_getD (l := List.set _ _ _), List.getElem?_set]
  by_cases e1 : j = k
  · subst e1
    rw [if_pos rfl, if_pos (by rw [List.length_set, h.1]; omega), if_pos (by omega), Option.getD_some, h.2 i (by omega), if_neg (by omega)]
    congr 1; omega
  · rw [if_neg e1, List.getElem?_set]
    by_cases e2 : i = k
    · subst e2
      rw [if_pos rfl, if_pos (by rw [h.1]; omega), if_pos (by omega), Option.getD_some, h.2 j (by omega), if_neg (by omega)]
      congr 1; omega
    · rw [if_neg e2, ← List.getD_eq_getElem?_getD, h.2 k hk]
      by_cases e3 : k < i ∨ l.length - i ≤ k
      · rw [if_pos e3, if_pos (by omega)]
      · rw [if_neg e3, if_neg (by omega)]
set_option maxHeartbeats 1000000 in
theorem reverse8_ok (w : World) (g c : Nat) (l : List UInt8) (h : Pre encU8 w g l) (hle : l.length ≤ 140737488355328) :
    Calls Try.prog 133 #[.slice (some ⟨g, 0, none⟩) l.length c] w fun e w' => e = .returned (.tuple #[]) ∧ Pre encU8 w' g l.reverse ∧ Keep [g] w [g] w' := by
  have H := Lib.hid h
  clear h
  go_enter Try.func133, Try.ntmps133
  go_wp2
  go_loopw [2, 3] (fun iv jv wr => ∃ (i : Nat) (m : List UInt8), iv = .int .i64 (i : Int) ∧ jv = .int .i64 ((l.length : Int) - 1 - (i : Int)) ∧ i ≤ l.length ∧ Hid (RevAt l m i) ∧ Hid (Pre encU8 wr g m) ∧ Hid (Keep [g] w [g] wr)) (fun iv _ _ => l.length - (intOf iv).toNat)
  case atStart => exact ⟨0, l, rfl, by go_num, Nat.zero_le _, RevAt.zero l, H.out, Keep.refl _ _⟩
  case round =>
    obtain ⟨i, m, rfl, rfl, hi, HR, HP, HK⟩ := hrel
    by_cases hlt : 2 * i + 1 < l.length
    · obtain ⟨j, hj⟩ : ∃ j, i + j + 1 = l.length := ⟨l.length - 1 - i, by omega⟩
      have ej : (l.length : Int) - 1 - (i : Int) = (j : Int) := by omega
      have HST := Lib.hid (HR.out.step (by omega) hj)
      have hml := HR.out.1
      have ci : wr.cell? ⟨g, i, none⟩ = some (.int .u8 ((m.getD i 0).toNat : Int)) := HP.out.cell (by rw [List.getElem?_map, List.getElem?_eq_getElem (by omega), List.getD_eq_getElem?_getD, List.getElem?_eq_getElem (by omega)]; rfl)
      have cj : wr.cell? ⟨g, j, none⟩ = some (.int .u8 ((m.getD j 0).toNat : Int)) := HP.out.cell (by rw [List.getElem?_map, List.getElem?_eq_getElem (by omega), List.getD_eq_getElem?_getD, List.getElem?_eq_getElem (by omega)]; rfl)
      have hP1 : Hid (Pre encU8 (((wr.setCell ⟨g, i, none⟩ (.int .u8 ((m.getD j 0).toNat : Int))).setCell ⟨g, j, none⟩ (.int .u8 ((m.getD i 0).toNat : Int))).drew) g ((m.set i (m.getD j 0)).set j (m.getD i 0))) := by
        have h2 := HP.out.set (k := i) (by omega) (m.getD j 0)
        exact (h2.set (k := j) (by rw [List.length_set]; omega) (m.getD i 0)).keep ((Ext.drew _).keep []) (by simp)
      have hd : decide (i < j) = true := decide_eq_true (by omega)
      have fi := HP.out.frozen i
      have fj := HP.out.frozen j
      have hjl : j < l.length := by omega
      rw [ej]
      generalize m.getD i 0 = x at *
      generalize m.getD j 0 = y at *
      go_wp2
      go_region
      have HK2 := Lib.hid (((HK.out.trans (Keep.setCell [g] wr ⟨g, i, none⟩ (.int .u8 (y.toNat : Int)) (by simp))).trans (Keep.setCell [g] _ ⟨g, j, none⟩ (.int .u8 (x.toNat : Int)) (by simp))).trans ((Ext.drew _).keep [g]))
      go_wp2
      go_roundw
      case rel => exact ⟨i + 1, _, by go_num, by go_num, by omega, HST.out, hP1.out, HK2.out⟩
      case measure => simp [intOf] <;> omega
    · have hdn := HR.out.done (by omega)
      have hd : decide ((i : Int) < (l.length : Int) - 1 - (i : Int)) = false := decide_eq_false (by omega)
      have HF : Hid (Pre encU8 wr g l.reverse) := by rw [← hdn]; exact HP.out
      clear hdn
      go_wp2
      go_end0
      exact ⟨rfl, HF.out, HK.out⟩
end Go.Proofs.Ytkmnjccklnfcdaa
namespace Go.Proofs.Ytkmnjccklnfcdaa
open Go Go.RowKit Bst
set_option linter.unusedVariables false
set_option linter.unusedSimpArgs false

theorem Pre.sl8 {w : World} {g : Nat} {l : List UInt8} {F : List Nat} {c : Nat} (h : Pre encU8 w g l) (hg : g ∉ F) (hl : l.length ≤ 140737488355328) (hc : l.length ≤ c) : Sl Kd.u8 F w (some ⟨g, 0, none⟩) c l := by
  refine ⟨hc, hl, fun _ => ⟨g, 0, rfl, h.lt, hg, fun i x hx => ⟨[encU8 x], rfl, fun j u hu => ?_⟩⟩⟩
  have hj : j = 0 := by have := (List.getElem?_eq_some_iff.1 hu).1; simp at this; omega
  subst hj
  simp at hu; subst hu
  have := h.cell (k := i) (v := encU8 x) (by rw [List.getElem?_map, hx]; rfl)
  simpa [Kd.u8] using this
theorem reverse8_nil (w : World) : Calls Try.prog 133 #[.slice none 0 0] w fun e w' => e = .returned (.tuple #[]) ∧ Ext w w' := by
  have hd : decide ((0 : Int) < -1) = false := by decide
  go_enter Try.func133, Try.ntmps133
  go_wp2
  refine wp_loop_rounds 1 ?_
  rw [rounds_succ]
  go_wp2
  go_end0
  exact ⟨rfl, Ext.refl _⟩
theorem turned_nil (w : World) : Calls Try.prog 116 #[.slice none 0 0] w fun e w' => e = .returned (.slice none 0 0) ∧ Ext w w' := by
  go_enter Try.func116, Try.ntmps116
  go_wp2_with (go_at_call 84; refine (clone8_nil w).mono ?_; rintro e w' ⟨rfl, rfl⟩)
  refine (reverse8_nil w).mono ?_
  rintro e w1 ⟨rfl, hx⟩
  have HX := Lib.hid hx
  clear hx
  go_wp2
  go_ret
  exact ⟨rfl, HX.out⟩
theorem wrap_u64_nat (n : Nat) (h : n < 18446744073709551616) : IntKind.u64.wrap (n : Int) = (n : Int) := by
  simp [IntKind.wrap, IntKind.signed, IntKind.bits]
  omega
theorem turned_ok (F : List Nat) (w : World) (A : Option Addr) (c : Nat) (l : List UInt8) (hl : Sl Kd.u8 F w A c l) (hne : l ≠ []) :
    Calls Try.prog 116 #[.slice A l.length c] w fun e w' => ∃ g c', e = .returned (.slice (some ⟨g, 0, none⟩) l.length c') ∧ Pre encU8 w' g l.reverse ∧ w.heap.size ≤ g ∧ l.length ≤ c' ∧ Ext w w' := by
  have hle := hl.len_le
  have HL := Lib.hid hl
  clear hl
  go_enter Try.func116, Try.ntmps116
  go_wp2_with (go_at_call 84; refine (clone8_ok F w A c l HL.out hne).mono ?_)
  rintro e w1 ⟨g, c', rfl, hp, hg, hc', hx⟩
  have HP := Lib.hid hp
  have HX := Lib.hid hx
  clear hp hx
  go_wp2_with fail
  refine (reverse8_ok w1 g c' l HP.out hle).mono ?_
  rintro e w2 ⟨rfl, hp2, hk2⟩
  have HP2 := Lib.hid hp2
  have HX2 : Hid (Ext w w2) := ((HX.out.fresh1 hg).trans hk2).toExt
  clear hp2 hk2
  go_wp2
  go_ret
  exact ⟨g, c', rfl, HP2.out, hg, hc', HX2.out⟩
set_option maxHeartbeats 1000000 in
theorem get_ok (F : List Nat) (w : World) (A : Option Addr) (c : Nat) (b : List UInt8) (hb : Sl Kd.u8 F w A c b) :
    Calls Try.prog 108 #[.slice A b.length c] w fun e w' => e = .returned (.tuple #[.int .i64 ((getS b).1 : Int), .int .i64 (getS b).2]) ∧ w = w' := by
  have hle := hb.len_le
  have HB := Lib.hid hb
  clear hb
  by_cases h0 : b.length = 0
  · have HG : Hid (getS b = (0, 10)) := by unfold Hid getS; rw [if_pos h0]
    have hb0 : b = [] := List.eq_nil_of_length_eq_zero h0
    subst hb0
    clear h0
    go_enter Try.func108, Try.ntmps108
    go_wp2
    go_ret2
    exact ⟨by rw [HG.out]; rfl, rfl⟩
  · have d0' : ((b.length : Int) == 0) = false := by rw [beq_eq_false_iff_ne]; omega
    by_cases h8 : 8 < b.length
    · have HG : Hid (getS b = (0, 2)) := by unfold Hid getS; rw [if_neg h0, if_pos h8]
      have d8 : decide (8 < b.length) = true := decide_eq_true h8
      go_enter Try.func108, Try.ntmps108
      go_wp2
      go_ret2
      exact ⟨by rw [HG.out]; rfl, rfl⟩
    · have d8 : decide (8 < b.length) = false := decide_eq_false h8
      go_enter Try.func108, Try.ntmps108
      go_wp2
      go_loop [4, 17] (fun xv iv => ∃ k : Nat, k ≤ b.length ∧ iv = .int .i64 (k : Int) ∧ xv = .int .u64 (beV (b.take k) : Int)) (fun _ iv => b.length - (intOf iv).toNat)
      case atStart => exact ⟨0, Nat.zero_le _, rfl, rfl⟩
      case round =>
        obtain ⟨k, hk, rfl, rfl⟩ := hrel
        by_cases hlt : k < b.length
        · obtain ⟨g, o, rfl, ca⟩ := HB.out.u8_at hlt
          have HV : Hid (beV (b.take (k + 1)) = 256 * beV (b.take k) + b[k].toNat) := by
            rw [Hid, List.take_succ_eq_append_getElem hlt, beV_snoc]
          have hlv := beV_lt (b.take k)
          have hc := UInt8.toNat_lt b[k]
          have hpow : (256 : Nat) ^ (b.take k).length ≤ 256 ^ 7 := Nat.pow_le_pow_right (by decide) (by rw [List.length_take]; omega)
          have hv56 : beV (b.take k) < 72057594037927936 := by
            have : (256 : Nat) ^ 7 = 72057594037927936 := rfl
            omega
          have HO : Hid (bits BinOp.or IntKind.u64 ((beV (b.take k) : Int) * 256) (b[k].toNat : Int) = (beV (b.take (k + 1)) : Int)) := by
            have e1 : ((beV (b.take k) : Int) * 256) = ((beV (b.take k) * 256 : Nat) : Int) := by omega
            rw [Hid, e1, bits_or_u64_nat _ _ (by omega) (by omega), HV.out]
            congr 1
            have e2 := Nat.shiftLeft_add_eq_or_of_lt (a := beV (b.take k)) (i := 8) (b := b[k].toNat) (by omega)
            rw [Nat.shiftLeft_eq] at e2
            rw [show (2 : Nat) ^ 8 = 256 from rfl] at e2
            rw [← e2]; omega
          clear hpow hlv
          go_wp2
          go_round
          case rel => exact ⟨k + 1, by omega, by go_num, by rw [HO.out]⟩
          case measure => simp [intOf] <;> omega
        · obtain rfl : k = b.length := by omega
          have HTK : Hid (beV (b.take b.length) = beV b) := by rw [Hid, List.take_length]
          rw [HTK.out]
          by_cases hv : 4611686018427387904 < beV b
          · have HG := Lib.hid (getS_form h0 (by omega) hv)
            have dv : decide (4611686018427387904 < beV b) = true := decide_eq_true hv
            generalize beV b = v at *
            go_wp2
            go_ret2
            exact ⟨by rw [HG.out]; rfl, rfl⟩
          · have HG := Lib.hid (getS_ok h0 (by omega) (by omega))
            have dv : decide (4611686018427387904 < beV b) = false := decide_eq_false hv
            generalize beV b = v at *
            go_wp2
            go_ret2
            exact ⟨by rw [HG.out]; rfl, rfl⟩
theorem leL_getD : ∀ (k n j : Nat), j < k → (leL n k).getD j 0 = UInt8.ofNat (n / 256 ^ j % 256)
  | 0, _, _, h => absurd h (Nat.not_lt_zero _)
  | k + 1, n, 0, _ => by simp [leL]
  | k + 1, n, j + 1, h => by
    have := leL_getD k (n / 256) j (by omega)
    rw [leL, List.getD_cons_succ, this, Nat.div_div_eq_div_mul, Nat.pow_succ, Nat.mul_comm]
/-- The first i bytes are there. -/
def LowAt (n k i : Nat) (m : List UInt8) : Prop := m.length = k ∧ ∀ j, j < k → m.getD j 0 = if j < i then UInt8.ofNat (n / 256 ^ j % 256) else 0
theorem LowAt.zero (n k : Nat) : LowAt n k 0 (List.replicate k 0) := ⟨List.length_replicate, fun j hj => by rw [if_neg (by omega), List.getD_eq_getElem?_getD, List.getElem?_replicate, if_pos hj]; rfl⟩
theorem LowAt.step {n k i : Nat} {m : List UInt8} (h : LowAt n k i m) (hi : i < k) : LowAt n k (i + 1) (m.set i (UInt8.ofNat (n / 256 ^ i % 256))) := by
  refine ⟨by rw [List.length_set]; exact h.1, fun j hj => ?_⟩
  rw [List.getD_eq_getElem?_getD, List.getElem?_set]
  by_cases e : i = j
  · subst e; rw [if_pos rfl, if_pos (by rw [h.1]; exact hi), if_pos (by omega)]; rfl
  · rw [if_neg e, ← List.getD_eq_getElem?_getD, h.2 j hj]
    by_cases e2 : j < i
    · rw [if_pos e2, if_pos (by omega)]
    · rw [if_neg e2, if_neg (by omega)]
theorem LowAt.done {n k : Nat} {m : List UInt8} (h : LowAt n k k m) : m = leL n k := by
  apply List.ext_getElem
  · rw [h.1, leL_length]
  · intro j h1 h2
    have hj : j < k := by rw [← h.1]; exact h1
    have e1 := h.2 j hj
    have e2 := leL_getD k n j hj
    rw [List.getD_eq_getElem?_getD, List.getElem?_eq_getElem h1, if_pos hj] at e1
    rw [List.getD_eq_getElem?_getD, List.getElem?_eq_getElem h2] at e2
    simp only [Option.getD_some] at e1 e2
    rw [e1, e2]
theorem low_byte (n i : Nat) : encU8 (UInt8.ofNat (n / 256 ^ i % 256)) = .int .u8 ((n : Int) / 2 ^ (8 * i) % 256) := by
  unfold encU8
  have e : (UInt8.ofNat (n / 256 ^ i % 256)).toNat = n / 256 ^ i % 256 := by simp [UInt8.toNat_ofNat']
  rw [e, show (256 : Nat) ^ i = 2 ^ (8 * i) from by rw [Nat.pow_mul]]
  simp
set_option maxRecDepth 100000 in
set_option maxHeartbeats 1000000 in
theorem low_ok (w : World) (n k : Nat) (h1 : 1 ≤ k) (h8 : k ≤ 8) (hn : n ≤ 4611686018427387904) (hnk : n < 256 ^ k) :
    Calls Try.prog 115 #[.int .i64 (n : Int), .int .i64 (k : Int)] w fun e w' => ∃ g, e = .returned (.tuple #[.slice (some ⟨g, 0, none⟩) k k, .int .i64 0]) ∧ Pre encU8 w' g (leL n k) ∧ w.heap.size ≤ g ∧ Ext w w' := by
  have d1 : decide ((k : Int) < 1) = false := decide_eq_false (by omega)
  have d2 : decide ((8 : Int) < (k : Int)) = false := decide_eq_false (by omega)
  have d2' : decide (8 < k) = false := decide_eq_false (by omega)
  have d3 : decide ((n : Int) < 0) = false := decide_eq_false (by omega)
  have d4 : decide ((4611686018427387904 : Int) < (n : Int)) = false := decide_eq_false (by omega)
  have d4' : decide (4611686018427387904 < n) = false := decide_eq_false (by omega)
  have hz : (((n : Int) / 2 ^ (8 * k) != 0) = false) := by
    have e : n / 2 ^ (8 * k) = 0 := by
      rw [Nat.pow_mul]
      exact Nat.div_eq_of_lt hnk
    have e2 : ((n : Int) / 2 ^ (8 * k)) = ((n / 2 ^ (8 * k) : Nat) : Int) := by simp
    rw [e2, e]; rfl
  have HL0 := Lib.hid (LowAt.zero n k)
  clear hnk
  have hcase : ((decide (k < 8) = true) ∧ decide ((k : Int) < 8) = true) ∨ ((decide (k < 8) = false) ∧ decide ((k : Int) < 8) = false) := by
    by_cases hk : k < 8
    · exact .inl ⟨decide_eq_true hk, decide_eq_true (by omega)⟩
    · exact .inr ⟨decide_eq_false hk, decide_eq_false (by omega)⟩
  rcases hcase with ⟨dk, dk'⟩ | ⟨dk, dk'⟩
  all_goals
    go_enter Try.func115, Try.ntmps115
    go_wp2_with (at_make; go_must (refine wp_make et_u8 rfl rfl _ _ (by rfl) w k (by rfl) (by rfl) rfl rfl (by omega) (by omega) ?_))
    obtain ⟨g, hg⟩ : ∃ g, g = w.heap.size := ⟨_, rfl⟩
    have HP0 : Hid (Pre encU8 (w.alloc (.cells (Array.replicate k (Value.int .u8 0)) 5)) g (List.replicate k 0)) := by
      rw [hg]; exact (Row.make w encU8 k 0 5).pre
    have HX0 : Hid (Keep [] w [g] (w.alloc (.cells (Array.replicate k (Value.int .u8 0)) 5))) := (Ext.alloc w _).fresh1 (by omega)
    have hgw : w.heap.size ≤ g := by omega
    rw [← hg]
    clear hg
    generalize w.alloc (.cells (Array.replicate k (Value.int .u8 0)) 5) = w1 at *
    go_loopw [38] (fun iv wr => ∃ (i : Nat) (m : List UInt8), i ≤ k ∧ iv = .int .i64 (i : Int) ∧ Hid (LowAt n k i m) ∧ Hid (Pre encU8 wr g m) ∧ Hid (Keep [] w [g] wr)) (fun iv _ => k - (intOf iv).toNat)
    case atStart => exact ⟨0, _, Nat.zero_le _, rfl, HL0.out, HP0.out, HX0.out⟩
    case round =>
      obtain ⟨i, m, hi, rfl, HL, HP, HK⟩ := hrel
      by_cases hlt : i < k
      · have HST := Lib.hid (HL.out.step hlt)
        have hml := HL.out.1
        have ci : wr.cell? ⟨g, i, none⟩ = some (encU8 (m.getD i 0)) := HP.out.cell (by rw [List.getElem?_map, List.getElem?_eq_getElem (by omega), List.getD_eq_getElem?_getD, List.getElem?_eq_getElem (by omega)]; rfl)
        have fi := HP.out.frozen i
        have HPS := Lib.hid (HP.out.set (k := i) (by omega) (UInt8.ofNat (n / 256 ^ i % 256)))
        have HKS := Lib.hid (HK.out.trans (Keep.setCell [g] wr ⟨g, i, none⟩ (encU8 (UInt8.ofNat (n / 256 ^ i % 256))) (by simp)))
        rw [low_byte n i] at HPS HKS
        clear hml
        generalize m.getD i 0 = x at *
        go_wp2
        go_roundw
        case rel => exact ⟨i + 1, _, by omega, by go_num, HST.out, HPS.out, HKS.out⟩
        case measure => simp [intOf] <;> omega
      · obtain rfl : i = k := by omega
        have HF : Hid (Pre encU8 wr g (leL n i)) := by rw [← HL.out.done]; exact HP.out
        go_wp2
        go_ret2
        exact ⟨g, rfl, HF.out, hgw, HK.out.toExt⟩
theorem put_ok (w : World) (n k : Nat) (h1 : 1 ≤ k) (h8 : k ≤ 8) (hn : n ≤ 4611686018427387904) (hnk : n < 256 ^ k) :
    Calls Try.prog 81 #[.int .i64 (n : Int), .int .i64 (k : Int)] w fun e w' => ∃ g c, e = .returned (.tuple #[.slice (some ⟨g, 0, none⟩) k c, .int .i64 0]) ∧ Pre encU8 w' g (beL n k) ∧ w.heap.size ≤ g ∧ k ≤ c ∧ Ext w w' := by
  go_enter Try.func81, Try.ntmps81
  go_wp2_with (go_at_call 115; refine (low_ok w n k h1 h8 hn hnk).mono ?_)
  rintro e w1 ⟨g, rfl, hp, hg, hx⟩
  have hl := leL_length k n
  have hne : leL n k ≠ [] := fun h => by rw [h] at hl; simp at hl; omega
  have HSL : Hid (Sl Kd.u8 [] w1 (some ⟨g, 0, none⟩) k (leL n k)) := Pre.sl8 hp (by simp) (by omega) (by omega)
  have HX := Lib.hid hx
  have HNE := Lib.hid hne
  have HLN := Lib.hid hl
  have hsz := hx.size
  clear hp hx hl hne
  go_wp2_with fail
  have hc := turned_ok [] w1 (some ⟨g, 0, none⟩) k (leL n k) HSL.out HNE.out
  rw [HLN.out] at hc
  refine hc.mono ?_
  rintro e w2 ⟨g2, c2, rfl, hp2, hg2, hc2, hx2⟩
  have HP2 : Hid (Pre encU8 w2 g2 (beL n k)) := hp2
  have HX2 := Lib.hid (HX.out.trans hx2)
  clear hp2 hx2 hc
  go_wp2
  go_ret2
  exact ⟨g2, c2, rfl, HP2.out, by omega, hc2, HX2.out⟩
set_option maxRecDepth 100000 in
theorem wput_ok (w : World) (g o k c n : Nat) (l : List UInt8) (h : Pre encU8 w g l) (hok : o + k ≤ l.length) (h1 : 1 ≤ k) (h8 : k ≤ 8) (hn : n ≤ 4611686018427387904) (hnk : n < 256 ^ k) :
    Calls Try.prog 107 #[.slice (some ⟨g, o, none⟩) k c, .int .i64 (n : Int)] w fun e w' => e = .returned (.tuple #[]) ∧ Pre encU8 w' g (putAt l o (beL n k)) ∧ Keep [g] w [g] w' := by
  have H := Lib.hid h
  have hgl := h.lt
  have HC := Lib.hid (put_ok w n k h1 h8 hn hnk)
  clear h hn hnk
  go_enter Try.func107, Try.ntmps107
  go_wp2_with (go_at_call 81; refine HC.out.mono ?_)
  rintro e w1 ⟨g2, c2, rfl, hp2, hg2, hc2, hx⟩
  have HP := Lib.hid (H.out.keep (hx.keep []) (by simp))
  have HP2 := Lib.hid hp2
  have HX := Lib.hid hx
  clear hp2 hx
  have HSL : Hid (Sl Kd.u8 [] w1 (some ⟨g2, 0, none⟩) c2 (beL n k)) := Pre.sl8 HP2.out (by simp) (by rw [beL_length]; omega) (by rw [beL_length]; omega)
  have HBL := Lib.hid (beL_length n k)
  have hev : (Value.slice (some ⟨g2, 0, none⟩) k c2) = .slice (some ⟨g2, 0, none⟩) (beL n k).length c2 := by rw [HBL.out]
  have HEV := Lib.hid hev
  clear hev
  go_wp2_with (refine wp_copy8 (o := ⟨some 15, _, _, _, _, _⟩) rfl _ _ 41 41 5 rfl Try.underlying41 (by kernel_rfl) w1 g o k c (some ⟨g2, 0, none⟩) c2 [] l (beL n k) rfl HEV.out HSL.out HP.out (by rw [HBL.out]; omega) ?_)
  intro w2 hp3 hk3
  have HP3 : Hid (Pre encU8 w2 g (putAt l o (beL n k))) := by
    have e : (beL n k).take k = beL n k := List.take_of_length_le (by rw [HBL.out]; exact Nat.le_refl _)
    rw [e] at hp3
    exact hp3
  have HK3 := Lib.hid ((HX.out.keep [g]).trans hk3)
  clear hp3 hk3
  go_wp2
  go_end0
  exact ⟨rfl, HP3.out, HK3.out⟩
end Go.Proofs.Ytkmnjccklnfcdaa
