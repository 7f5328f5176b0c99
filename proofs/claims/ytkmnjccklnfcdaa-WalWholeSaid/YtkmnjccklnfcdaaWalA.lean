/- A log: a slot's bytes, room, noughts. A log: noughts. A log: a slot is read. -/
import Derived.Test.YtkmnjccklnfcdaaDiskB
import Derived.Test.YtkmnjccklnfcdaaWordA
import Derived.Test.YtkmnjccklnfcdaaCrcV
import Derived.Test.YtkmnjccklnfcdaaPlainA
namespace Bst
theorem slot_put (base size : Nat) : putAt (putAt (putAt (zeros 64) 0 (beL base 8)) 8 (beL size 4)) 56 (beL base 8) = slotB base size := by
  have l8 := beL_length base 8
  have l4 := beL_length size 4
  have e0 : zeros 64 = zeros 8 ++ (zeros 4 ++ (zeros 44 ++ zeros 8)) := rfl
  have e1 : putAt (zeros 64) 0 (beL base 8) = beL base 8 ++ (zeros 4 ++ (zeros 44 ++ zeros 8)) := by
    rw [e0]; unfold putAt
    rw [List.take_zero, List.nil_append, Nat.zero_add, l8, List.drop_left' (zeros_length 8)]
  have e2 : putAt (beL base 8 ++ (zeros 4 ++ (zeros 44 ++ zeros 8))) 8 (beL size 4) = beL base 8 ++ (beL size 4 ++ (zeros 44 ++ zeros 8)) := by
    unfold putAt
    rw [List.take_left' l8, l4, ← List.append_assoc (beL base 8), List.drop_left' (by rw [List.length_append, l8, zeros_length]), List.append_assoc]
  have e3 : putAt (beL base 8 ++ (beL size 4 ++ (zeros 44 ++ zeros 8))) 56 (beL base 8) = beL base 8 ++ (beL size 4 ++ (zeros 44 ++ beL base 8)) := by
    unfold putAt
    rw [← List.append_assoc (beL size 4), ← List.append_assoc (beL base 8), List.take_left' (by simp [l8, l4, zeros_length]), l8, List.drop_eq_nil_of_le (by simp [l8, l4, zeros_length]), List.append_nil]
    simp
  rw [e1, e2, e3]
  rfl
end Bst
namespace Go.Proofs.Ytkmnjccklnfcdaa
open Go Go.RowKit Bst
set_option linter.unusedVariables false
set_option linter.unusedSimpArgs false

set_option maxRecDepth 100000 in
theorem make64 (w : World) : (Instr.makeSlice 41 (.int .i64 64) (.int .i64 64)).run Try.prog w = .ok (.slice (some ⟨w.heap.size, 0, none⟩) 64 64) (w.alloc (.cells z64.toArray 5)) := by kernel_rfl
theorem pre64 (w : World) : Pre encU8 (w.alloc (.cells z64.toArray 5)) w.heap.size (zeros 64) := by
  refine ⟨5, [], ?_⟩
  rw [heap_alloc_new, List.append_nil]
  rfl
set_option maxRecDepth 100000 in
theorem slotBytes_ok (w : World) (base size : Nat) (hb : base ≤ 4611686018427387904) (hs : size < 4294967296) :
    Calls Try.prog 62 #[.int .i64 (base : Int), .int .i64 (size : Int)] w fun e w' => ∃ g, e = .returned (.slice (some ⟨g, 0, none⟩) 64 64) ∧ Pre encU8 w' g (slotB base size) ∧ w.heap.size ≤ g ∧ Ext w w' := by
  have hmk := make64 w
  have H0 : Hid (Pre encU8 (w.alloc (.cells z64.toArray 5)) w.heap.size (zeros 64)) := pre64 w
  have X0 : Hid (Ext w (w.alloc (.cells z64.toArray 5))) := Ext.alloc w _
  generalize z64.toArray = Z at *
  obtain ⟨w0, hw0⟩ : ∃ w0, w0 = w.alloc (.cells Z 5) := ⟨_, rfl⟩
  rw [← hw0] at hmk H0 X0
  clear hw0
  obtain ⟨g, hg⟩ : ∃ g, g = w.heap.size := ⟨_, rfl⟩
  rw [← hg] at hmk H0
  have HG : Hid (w.heap.size ≤ g) := by rw [hg]; exact Nat.le_refl _
  have HW : Hid (∀ w' : World, Keep [g] w0 [g] w' → Ext w w') := fun w' h => ((X0.out.fresh1 HG.out).trans h).toExt
  have HB := Lib.hid hb
  have HS := Lib.hid hs
  have L8 := beL_length base 8
  have L4 := beL_length size 4
  have HL1 : Hid ((putAt (zeros 64) 0 (beL base 8)).length = 64) := by rw [Hid, putAt_length (by rw [zeros_length, L8]; omega), zeros_length]
  have HL2 : Hid ((putAt (putAt (zeros 64) 0 (beL base 8)) 8 (beL size 4)).length = 64) := by rw [Hid, putAt_length (by rw [HL1.out, L4]; omega), HL1.out]
  clear hb hs hg L8 L4 X0
  go_enter Try.func62, Try.ntmps62
  go_wp2_with fail
  refine (wput_ok w0 g 0 8 _ base (zeros 64) H0.out (by rw [zeros_length]; omega) (by omega) (by omega) HB.out (by have := HB.out; omega)).mono ?_
  rintro e w1 ⟨rfl, h1, k1⟩
  have H1 := Lib.hid h1
  have K1 := Lib.hid k1
  clear h1 k1
  go_wp2_with fail
  refine (wput_ok w1 g 8 4 _ size _ H1.out (by rw [HL1.out]; omega) (by omega) (by omega) (by have := HS.out; omega) (by have := HS.out; omega)).mono ?_
  rintro e w2 ⟨rfl, h1, k1⟩
  have H2 := Lib.hid h1
  have K2 := Lib.hid (K1.out.trans k1)
  clear h1 k1
  go_wp2_with fail
  refine (wput_ok w2 g 56 8 _ base _ H2.out (by rw [HL2.out]; omega) (by omega) (by omega) HB.out (by have := HB.out; omega)).mono ?_
  rintro e w3 ⟨rfl, h1, k1⟩
  rw [slot_put] at h1
  have H3 := Lib.hid h1
  have X3 := Lib.hid (HW.out _ (K2.out.trans k1))
  clear h1 k1
  go_wp2
  go_ret
  exact ⟨g, rfl, H3.out, HG.out, X3.out⟩
theorem room_ok (w : World) (F : List Nat) (db : Nat) (d : Dsk) (h : DiskAt w F db d) (n : Int) (hn : -9223372036854775808 ≤ n ∧ n ≤ 9223372036854775807) :
    Calls Try.prog 60 #[.pointer (some ⟨db, 0, none⟩), .int .i64 n] w fun e w' => e = .returned (.bool (decide (3 ≤ n ∧ n + 3 ≤ (d.now.length : Int)))) ∧ w = w' := by
  have H := Lib.hid h
  have hle : d.now.length ≤ 16384 := by obtain ⟨_, _, _, h⟩ := h; exact h.ok.le
  clear h
  by_cases h3 : 3 ≤ n
  · have d3 : decide (3 ≤ n) = true := decide_eq_true h3
    have d4 : decide (n ≤ (d.now.length : Int) - 2 - 1) = decide (3 ≤ n ∧ n + 3 ≤ (d.now.length : Int)) := by
      apply Bool.eq_iff_iff.2
      simp
      omega
    generalize decide (3 ≤ n ∧ n + 3 ≤ (d.now.length : Int)) = r at *
    go_enter Try.func60, Try.ntmps60
    go_wp2_with (go_at_call 59; refine (size_ok w F db d H.out).mono ?_; rintro e w' ⟨rfl, rfl⟩)
    go_ret
    exact ⟨rfl, rfl⟩
  · have d3 : decide (3 ≤ n) = false := decide_eq_false h3
    have d4 : decide (3 ≤ n ∧ n + 3 ≤ (d.now.length : Int)) = false := decide_eq_false (by omega)
    rw [d4]
    go_enter Try.func60, Try.ntmps60
    go_wp2
    go_ret
    exact ⟨rfl, rfl⟩
end Go.Proofs.Ytkmnjccklnfcdaa
namespace Go.Proofs.Ytkmnjccklnfcdaa
open Go Go.RowKit Bst
set_option linter.unusedVariables false
set_option linter.unusedSimpArgs false

theorem noughts_ok (F : List Nat) (w : World) (A : Option Addr) (c : Nat) (b : List UInt8) (hb : Sl Kd.u8 F w A c b) :
    Calls Try.prog 109 #[.slice A b.length c] w fun e w' => e = .returned (.bool (nought b)) ∧ w = w' := by
  have hle := hb.len_le
  have HB := Lib.hid hb
  clear hb
  go_enter Try.func109, Try.ntmps109
  go_wp2
  go_loop [8] (fun iv => ∃ k : Nat, k ≤ b.length ∧ iv = .int .i64 (k : Int) ∧ Hid (nought (b.take k) = true)) (fun iv => b.length - (intOf iv).toNat)
  case atStart => exact ⟨0, Nat.zero_le _, rfl, rfl⟩
  case round =>
    obtain ⟨k, hk, rfl, HN⟩ := hrel
    by_cases hlt : k < b.length
    · have hd : decide (k < b.length) = true := decide_eq_true hlt
      obtain ⟨g, o, rfl, ca⟩ := HB.out.u8_at hlt
      have hts : b.take (k + 1) = b.take k ++ [b[k]] := List.take_succ_eq_append_getElem hlt
      have HC := UInt8.toNat_lt b[k]
      by_cases hz : b[k] = 0
      · have hzz : b[k].toNat = 0 := by rw [hz]; rfl
        have HN2 : Hid (nought (b.take (k + 1)) = true) := by
          have := HN.out
          unfold nought at this
          rw [Hid, hts]; unfold nought; rw [List.all_append, this, hz]; rfl
        rw [hzz] at ca
        clear hz hzz hts
        go_wp2
        go_round
        case rel => exact ⟨k + 1, by omega, by go_num, HN2⟩
        case measure => simp [intOf] <;> omega
      · have hzz : b[k].toNat ≠ 0 := fun h => hz (UInt8.toNat_inj.1 (by simpa using h))
        have hz0 : ((b[k].toNat : Int) != 0) = true := by simp; omega
        have HN2 : Hid (nought b = false) := by
          rw [Hid, ← Bool.not_eq_true]
          intro h
          exact hz (by simpa using List.all_eq_true.1 h b[k] (List.getElem_mem hlt))
        generalize b[k].toNat = q at *
        clear hz hts
        go_wp2
        go_ret
        exact ⟨by rw [HN2.out]; rfl, rfl⟩
    · obtain rfl : k = b.length := by omega
      have h1 := HN.out
      rw [List.take_length] at h1
      have HN3 := Lib.hid h1
      clear h1
      go_wp2
      go_ret
      exact ⟨by rw [HN3.out]; rfl, rfl⟩
end Go.Proofs.Ytkmnjccklnfcdaa
namespace Bst
theorem getS_cases {b : List UInt8} (h0 : b.length ≠ 0) (h8 : b.length ≤ 8) : (getS b).2 = 0 ∧ (getS b).1 = beV b ∨ (getS b).2 ≠ 0 ∧ 2305843009213693952 < beV b := by
  by_cases hv : 4611686018427387904 < beV b
  · right
    rw [getS_form h0 h8 hv]
    exact ⟨by decide, by omega⟩
  · left
    rw [getS_ok h0 h8 (by omega)]
    exact ⟨rfl, rfl⟩
end Bst
namespace Go.Proofs.Ytkmnjccklnfcdaa
open Go Go.RowKit Bst
set_option linter.unusedVariables false
set_option linter.unusedSimpArgs false

theorem Pre.sub8 {w : World} {g : Nat} {l : List UInt8} {F : List Nat} (h : Bst.Pre encU8 w g l) (hg : g ∉ F) (o k c : Nat) (ho : o + k ≤ l.length) (hl : l.length ≤ 140737488355328) (hc : k ≤ c) : Sl Kd.u8 F w (some ⟨g, o, none⟩) c ((l.drop o).take k) := by
  have hlen : ((l.drop o).take k).length = k := by rw [List.length_take, List.length_drop]; omega
  refine ⟨by omega, by omega, fun _ => ⟨g, o, rfl, h.lt, hg, fun i x hx => ⟨[encU8 x], rfl, fun j u hu => ?_⟩⟩⟩
  have hj : j = 0 := by have := (List.getElem?_eq_some_iff.1 hu).1; simp at this; omega
  subst hj
  simp at hu; subst hu
  have hi : i < k := by have := (List.getElem?_eq_some_iff.1 hx).1; omega
  have hx2 : l[o + i]? = some x := by rw [List.getElem?_take, if_pos hi, List.getElem?_drop] at hx; exact hx
  have := h.cell (k := o + i) (v := encU8 x) (by rw [List.getElem?_map, hx2]; rfl)
  simpa [Kd.u8] using this
theorem get_at (F : List Nat) (w : World) (A : Option Addr) (k c : Nat) (b : List UInt8) (hk : b.length = k) (hb : Sl Kd.u8 F w A c b) :
    Calls Try.prog 108 #[.slice A k c] w fun e w' => e = .returned (.tuple #[.int .i64 ((getS b).1 : Int), .int .i64 (getS b).2]) ∧ w = w' := by
  subst hk; exact get_ok F w A c b hb
theorem noughts_at (F : List Nat) (w : World) (A : Option Addr) (k c : Nat) (b : List UInt8) (hk : b.length = k) (hb : Sl Kd.u8 F w A c b) :
    Calls Try.prog 109 #[.slice A k c] w fun e w' => e = .returned (.bool (nought b)) ∧ w = w' := by
  subst hk; exact noughts_ok F w A c b hb
theorem get_sub (w : World) (g : Nat) (q : Sec) (h : Bst.Pre encU8 w g q) (hl : q.length = 64) (o k c : Nat) (ho : o + k ≤ 64) (hc : k ≤ c) :
    Calls Try.prog 108 #[.slice (some ⟨g, o, none⟩) k c] w fun e w' => e = .returned (.tuple #[.int .i64 ((getS ((q.drop o).take k)).1 : Int), .int .i64 (getS ((q.drop o).take k)).2]) ∧ w = w' :=
  get_at [] w _ k c ((q.drop o).take k) (by rw [List.length_take, List.length_drop, hl]; omega) (Pre.sub8 h (by simp) o k c (by omega) (by omega) hc)
theorem noughts_sub (w : World) (g : Nat) (q : Sec) (h : Bst.Pre encU8 w g q) (hl : q.length = 64) (o k c : Nat) (ho : o + k ≤ 64) (hc : k ≤ c) :
    Calls Try.prog 109 #[.slice (some ⟨g, o, none⟩) k c] w fun e w' => e = .returned (.bool (nought ((q.drop o).take k))) ∧ w = w' :=
  noughts_at [] w _ k c ((q.drop o).take k) (by rw [List.length_take, List.length_drop, hl]; omega) (Pre.sub8 h (by simp) o k c (by omega) (by omega) hc)
/-- What a slot's reading gives. -/
def slotV (r : Option (Nat × Nat)) : Array Value := match r with
  | some (b, s) => #[.int .i64 (b : Int), .int .i64 (s : Int), .bool true]
  | none => #[.int .i64 0, .int .i64 0, .bool false]
set_option maxRecDepth 100000 in
set_option maxHeartbeats 1000000 in
theorem rs_e1 (w : World) (F : List Nat) (db : Nat) (d : Dsk) (h : DiskAt w F db d) (n : Nat) (hn : n < d.now.length) (ho : d.off = false) (q : Sec) (hq : q = d.now.getD n [])
    (v1 v2 v3 : Nat) (e1 e2 : Int) (ro no : Bool) (h1 : getS ((q.drop 0).take 8) = (v1, e1)) (h2 : getS ((q.drop 56).take 8) = (v2, e2)) (h3 : getS ((q.drop 8).take 4) = (v3, 0)) (hv3 : v3 < 4294967296)
    (hroom : decide (3 ≤ (v3 : Int) ∧ (v3 : Int) + 3 ≤ (d.now.length : Int)) = ro) (hno : nought ((q.drop 12).take 44) = no) (hf : e1 ≠ 0) :
    Calls Try.prog 65 #[.pointer (some ⟨db, 0, none⟩), .int .i64 (n : Int)] w fun e w' => e = .returned (.tuple (slotV none)) ∧ Ext w w' := by
  have H := Lib.hid h
  have HN := Lib.hid hn
  have HO := Lib.hid ho
  have HQ := Lib.hid hq
  have HL : Hid (q.length = 64) := by obtain ⟨_, _, _, h⟩ := h; rw [hq]; exact getD_sec h.ok.nowS hn
  have H1 := Lib.hid h1
  have H2 := Lib.hid h2
  have H3 := Lib.hid h3
  have HV3 : Hid (-9223372036854775808 ≤ (v3 : Int) ∧ (v3 : Int) ≤ 9223372036854775807) := ⟨by omega, by omega⟩
  have HROOM := Lib.hid hroom
  have HNO := Lib.hid hno
  clear h hn ho hq h1 h2 h3 hroom hno
  have t1 : (e1 != 0) = true := by simpa using hf
  go_enter Try.func65, Try.ntmps65
  go_wp2_with (first
      | (go_at_call 20; refine (read_ok w F db d H.out n HN.out HO.out).mono ?_; rintro e w1 ⟨g, rfl, hp, hg, hx⟩; rw [← HQ.out] at hp; have HP := Lib.hid hp; have HX := Lib.hid hx; have HD := Lib.hid (H.out.ext hx); clear hp hx)
      | (go_at_call 108; refine (get_sub _ _ q HP.out HL.out _ _ _ (by omega) (by omega)).mono ?_; simp only [H1.out, H2.out, H3.out]; rintro e w' ⟨rfl, rfl⟩)
      | (go_at_call 60; refine (room_ok _ F db d HD.out (v3 : Int) HV3.out).mono ?_; rw [HROOM.out]; rintro e w' ⟨rfl, rfl⟩)
      | (go_at_call 109; refine (noughts_sub _ _ q HP.out HL.out _ _ _ (by omega) (by omega)).mono ?_; simp only [HNO.out]; rintro e w' ⟨rfl, rfl⟩))
  go_ret3
  exact ⟨rfl, HX.out⟩
set_option maxRecDepth 100000 in
set_option maxHeartbeats 1000000 in
theorem rs_e2 (w : World) (F : List Nat) (db : Nat) (d : Dsk) (h : DiskAt w F db d) (n : Nat) (hn : n < d.now.length) (ho : d.off = false) (q : Sec) (hq : q = d.now.getD n [])
    (v1 v2 v3 : Nat) (e1 e2 : Int) (ro no : Bool) (h1 : getS ((q.drop 0).take 8) = (v1, e1)) (h2 : getS ((q.drop 56).take 8) = (v2, e2)) (h3 : getS ((q.drop 8).take 4) = (v3, 0)) (hv3 : v3 < 4294967296)
    (hroom : decide (3 ≤ (v3 : Int) ∧ (v3 : Int) + 3 ≤ (d.now.length : Int)) = ro) (hno : nought ((q.drop 12).take 44) = no) (hg1 : e1 = 0) (hf : e2 ≠ 0) :
    Calls Try.prog 65 #[.pointer (some ⟨db, 0, none⟩), .int .i64 (n : Int)] w fun e w' => e = .returned (.tuple (slotV none)) ∧ Ext w w' := by
  have H := Lib.hid h
  have HN := Lib.hid hn
  have HO := Lib.hid ho
  have HQ := Lib.hid hq
  have HL : Hid (q.length = 64) := by obtain ⟨_, _, _, h⟩ := h; rw [hq]; exact getD_sec h.ok.nowS hn
  have H1 := Lib.hid h1
  have H2 := Lib.hid h2
  have H3 := Lib.hid h3
  have HV3 : Hid (-9223372036854775808 ≤ (v3 : Int) ∧ (v3 : Int) ≤ 9223372036854775807) := ⟨by omega, by omega⟩
  have HROOM := Lib.hid hroom
  have HNO := Lib.hid hno
  clear h hn ho hq h1 h2 h3 hroom hno
  subst hg1
  have t1 : (e2 != 0) = true := by simpa using hf
  go_enter Try.func65, Try.ntmps65
  go_wp2_with (first
      | (go_at_call 20; refine (read_ok w F db d H.out n HN.out HO.out).mono ?_; rintro e w1 ⟨g, rfl, hp, hg, hx⟩; rw [← HQ.out] at hp; have HP := Lib.hid hp; have HX := Lib.hid hx; have HD := Lib.hid (H.out.ext hx); clear hp hx)
      | (go_at_call 108; refine (get_sub _ _ q HP.out HL.out _ _ _ (by omega) (by omega)).mono ?_; simp only [H1.out, H2.out, H3.out]; rintro e w' ⟨rfl, rfl⟩)
      | (go_at_call 60; refine (room_ok _ F db d HD.out (v3 : Int) HV3.out).mono ?_; rw [HROOM.out]; rintro e w' ⟨rfl, rfl⟩)
      | (go_at_call 109; refine (noughts_sub _ _ q HP.out HL.out _ _ _ (by omega) (by omega)).mono ?_; simp only [HNO.out]; rintro e w' ⟨rfl, rfl⟩))
  go_ret3
  exact ⟨rfl, HX.out⟩
set_option maxRecDepth 100000 in
set_option maxHeartbeats 1000000 in
theorem rs_ne (w : World) (F : List Nat) (db : Nat) (d : Dsk) (h : DiskAt w F db d) (n : Nat) (hn : n < d.now.length) (ho : d.off = false) (q : Sec) (hq : q = d.now.getD n [])
    (v1 v2 v3 : Nat) (e1 e2 : Int) (ro no : Bool) (h1 : getS ((q.drop 0).take 8) = (v1, e1)) (h2 : getS ((q.drop 56).take 8) = (v2, e2)) (h3 : getS ((q.drop 8).take 4) = (v3, 0)) (hv3 : v3 < 4294967296)
    (hroom : decide (3 ≤ (v3 : Int) ∧ (v3 : Int) + 3 ≤ (d.now.length : Int)) = ro) (hno : nought ((q.drop 12).take 44) = no) (hg1 : e1 = 0) (hg2 : e2 = 0) (hf : v1 ≠ v2) :
    Calls Try.prog 65 #[.pointer (some ⟨db, 0, none⟩), .int .i64 (n : Int)] w fun e w' => e = .returned (.tuple (slotV none)) ∧ Ext w w' := by
  have H := Lib.hid h
  have HN := Lib.hid hn
  have HO := Lib.hid ho
  have HQ := Lib.hid hq
  have HL : Hid (q.length = 64) := by obtain ⟨_, _, _, h⟩ := h; rw [hq]; exact getD_sec h.ok.nowS hn
  have H1 := Lib.hid h1
  have H2 := Lib.hid h2
  have H3 := Lib.hid h3
  have HV3 : Hid (-9223372036854775808 ≤ (v3 : Int) ∧ (v3 : Int) ≤ 9223372036854775807) := ⟨by omega, by omega⟩
  have HROOM := Lib.hid hroom
  have HNO := Lib.hid hno
  clear h hn ho hq h1 h2 h3 hroom hno
  subst hg1
  subst hg2
  have t1 : ((v1 : Int) != (v2 : Int)) = true := by simp; omega
  go_enter Try.func65, Try.ntmps65
  go_wp2_with (first
      | (go_at_call 20; refine (read_ok w F db d H.out n HN.out HO.out).mono ?_; rintro e w1 ⟨g, rfl, hp, hg, hx⟩; rw [← HQ.out] at hp; have HP := Lib.hid hp; have HX := Lib.hid hx; have HD := Lib.hid (H.out.ext hx); clear hp hx)
      | (go_at_call 108; refine (get_sub _ _ q HP.out HL.out _ _ _ (by omega) (by omega)).mono ?_; simp only [H1.out, H2.out, H3.out]; rintro e w' ⟨rfl, rfl⟩)
      | (go_at_call 60; refine (room_ok _ F db d HD.out (v3 : Int) HV3.out).mono ?_; rw [HROOM.out]; rintro e w' ⟨rfl, rfl⟩)
      | (go_at_call 109; refine (noughts_sub _ _ q HP.out HL.out _ _ _ (by omega) (by omega)).mono ?_; simp only [HNO.out]; rintro e w' ⟨rfl, rfl⟩))
  go_ret3
  exact ⟨rfl, HX.out⟩
set_option maxRecDepth 100000 in
set_option maxHeartbeats 1000000 in
theorem rs_lo (w : World) (F : List Nat) (db : Nat) (d : Dsk) (h : DiskAt w F db d) (n : Nat) (hn : n < d.now.length) (ho : d.off = false) (q : Sec) (hq : q = d.now.getD n [])
    (v1 v2 v3 : Nat) (e1 e2 : Int) (ro no : Bool) (h1 : getS ((q.drop 0).take 8) = (v1, e1)) (h2 : getS ((q.drop 56).take 8) = (v2, e2)) (h3 : getS ((q.drop 8).take 4) = (v3, 0)) (hv3 : v3 < 4294967296)
    (hroom : decide (3 ≤ (v3 : Int) ∧ (v3 : Int) + 3 ≤ (d.now.length : Int)) = ro) (hno : nought ((q.drop 12).take 44) = no) (hg1 : e1 = 0) (hg2 : e2 = 0) (hf : v1 = v2) (hf2 : v1 < 1) :
    Calls Try.prog 65 #[.pointer (some ⟨db, 0, none⟩), .int .i64 (n : Int)] w fun e w' => e = .returned (.tuple (slotV none)) ∧ Ext w w' := by
  have H := Lib.hid h
  have HN := Lib.hid hn
  have HO := Lib.hid ho
  have HQ := Lib.hid hq
  have HL : Hid (q.length = 64) := by obtain ⟨_, _, _, h⟩ := h; rw [hq]; exact getD_sec h.ok.nowS hn
  have H1 := Lib.hid h1
  have H2 := Lib.hid h2
  have H3 := Lib.hid h3
  have HV3 : Hid (-9223372036854775808 ≤ (v3 : Int) ∧ (v3 : Int) ≤ 9223372036854775807) := ⟨by omega, by omega⟩
  have HROOM := Lib.hid hroom
  have HNO := Lib.hid hno
  clear h hn ho hq h1 h2 h3 hroom hno
  subst hg1
  subst hg2
  subst hf
  have t1 : decide ((v1 : Int) < 1) = true := decide_eq_true (by omega)
  have t1' : decide (v1 < 1) = true := decide_eq_true (by omega)
  go_enter Try.func65, Try.ntmps65
  go_wp2_with (first
      | (go_at_call 20; refine (read_ok w F db d H.out n HN.out HO.out).mono ?_; rintro e w1 ⟨g, rfl, hp, hg, hx⟩; rw [← HQ.out] at hp; have HP := Lib.hid hp; have HX := Lib.hid hx; have HD := Lib.hid (H.out.ext hx); clear hp hx)
      | (go_at_call 108; refine (get_sub _ _ q HP.out HL.out _ _ _ (by omega) (by omega)).mono ?_; simp only [H1.out, H2.out, H3.out]; rintro e w' ⟨rfl, rfl⟩)
      | (go_at_call 60; refine (room_ok _ F db d HD.out (v3 : Int) HV3.out).mono ?_; rw [HROOM.out]; rintro e w' ⟨rfl, rfl⟩)
      | (go_at_call 109; refine (noughts_sub _ _ q HP.out HL.out _ _ _ (by omega) (by omega)).mono ?_; simp only [HNO.out]; rintro e w' ⟨rfl, rfl⟩))
  go_ret3
  exact ⟨rfl, HX.out⟩
set_option maxRecDepth 100000 in
set_option maxHeartbeats 1000000 in
theorem rs_hi (w : World) (F : List Nat) (db : Nat) (d : Dsk) (h : DiskAt w F db d) (n : Nat) (hn : n < d.now.length) (ho : d.off = false) (q : Sec) (hq : q = d.now.getD n [])
    (v1 v2 v3 : Nat) (e1 e2 : Int) (ro no : Bool) (h1 : getS ((q.drop 0).take 8) = (v1, e1)) (h2 : getS ((q.drop 56).take 8) = (v2, e2)) (h3 : getS ((q.drop 8).take 4) = (v3, 0)) (hv3 : v3 < 4294967296)
    (hroom : decide (3 ≤ (v3 : Int) ∧ (v3 : Int) + 3 ≤ (d.now.length : Int)) = ro) (hno : nought ((q.drop 12).take 44) = no) (hg1 : e1 = 0) (hg2 : e2 = 0) (hf : v1 = v2) (hf2 : topW < v1) :
    Calls Try.prog 65 #[.pointer (some ⟨db, 0, none⟩), .int .i64 (n : Int)] w fun e w' => e = .returned (.tuple (slotV none)) ∧ Ext w w' := by
  have H := Lib.hid h
  have HN := Lib.hid hn
  have HO := Lib.hid ho
  have HQ := Lib.hid hq
  have HL : Hid (q.length = 64) := by obtain ⟨_, _, _, h⟩ := h; rw [hq]; exact getD_sec h.ok.nowS hn
  have H1 := Lib.hid h1
  have H2 := Lib.hid h2
  have H3 := Lib.hid h3
  have HV3 : Hid (-9223372036854775808 ≤ (v3 : Int) ∧ (v3 : Int) ≤ 9223372036854775807) := ⟨by omega, by omega⟩
  have HROOM := Lib.hid hroom
  have HNO := Lib.hid hno
  clear h hn ho hq h1 h2 h3 hroom hno
  subst hg1
  subst hg2
  subst hf
  have t1 : decide ((v1 : Int) < 1) = false := decide_eq_false (by unfold topW at hf2; omega)
  have t1' : decide (v1 < 1) = false := decide_eq_false (by unfold topW at hf2; omega)
  have t2 : decide (2305843009213693952 < v1) = true := decide_eq_true hf2
  have t2' : decide ((2305843009213693952 : Int) < (v1 : Int)) = true := decide_eq_true (by unfold topW at hf2; omega)
  go_enter Try.func65, Try.ntmps65
  go_wp2_with (first
      | (go_at_call 20; refine (read_ok w F db d H.out n HN.out HO.out).mono ?_; rintro e w1 ⟨g, rfl, hp, hg, hx⟩; rw [← HQ.out] at hp; have HP := Lib.hid hp; have HX := Lib.hid hx; have HD := Lib.hid (H.out.ext hx); clear hp hx)
      | (go_at_call 108; refine (get_sub _ _ q HP.out HL.out _ _ _ (by omega) (by omega)).mono ?_; simp only [H1.out, H2.out, H3.out]; rintro e w' ⟨rfl, rfl⟩)
      | (go_at_call 60; refine (room_ok _ F db d HD.out (v3 : Int) HV3.out).mono ?_; rw [HROOM.out]; rintro e w' ⟨rfl, rfl⟩)
      | (go_at_call 109; refine (noughts_sub _ _ q HP.out HL.out _ _ _ (by omega) (by omega)).mono ?_; simp only [HNO.out]; rintro e w' ⟨rfl, rfl⟩))
  go_ret3
  exact ⟨rfl, HX.out⟩
set_option maxRecDepth 100000 in
set_option maxHeartbeats 1000000 in
theorem rs_ro (w : World) (F : List Nat) (db : Nat) (d : Dsk) (h : DiskAt w F db d) (n : Nat) (hn : n < d.now.length) (ho : d.off = false) (q : Sec) (hq : q = d.now.getD n [])
    (v1 v2 v3 : Nat) (e1 e2 : Int) (ro no : Bool) (h1 : getS ((q.drop 0).take 8) = (v1, e1)) (h2 : getS ((q.drop 56).take 8) = (v2, e2)) (h3 : getS ((q.drop 8).take 4) = (v3, 0)) (hv3 : v3 < 4294967296)
    (hroom : decide (3 ≤ (v3 : Int) ∧ (v3 : Int) + 3 ≤ (d.now.length : Int)) = ro) (hno : nought ((q.drop 12).take 44) = no) (hg1 : e1 = 0) (hg2 : e2 = 0) (hf : v1 = v2) (hf2 : 1 ≤ v1 ∧ v1 ≤ topW) (hr : ro = false) :
    Calls Try.prog 65 #[.pointer (some ⟨db, 0, none⟩), .int .i64 (n : Int)] w fun e w' => e = .returned (.tuple (slotV none)) ∧ Ext w w' := by
  have H := Lib.hid h
  have HN := Lib.hid hn
  have HO := Lib.hid ho
  have HQ := Lib.hid hq
  have HL : Hid (q.length = 64) := by obtain ⟨_, _, _, h⟩ := h; rw [hq]; exact getD_sec h.ok.nowS hn
  have H1 := Lib.hid h1
  have H2 := Lib.hid h2
  have H3 := Lib.hid h3
  have HV3 : Hid (-9223372036854775808 ≤ (v3 : Int) ∧ (v3 : Int) ≤ 9223372036854775807) := ⟨by omega, by omega⟩
  have HROOM := Lib.hid hroom
  have HNO := Lib.hid hno
  clear h hn ho hq h1 h2 h3 hroom hno
  subst hg1
  subst hg2
  subst hf
  subst hr
  have t1 : decide ((v1 : Int) < 1) = false := decide_eq_false (by omega)
  have t1' : decide (v1 < 1) = false := decide_eq_false (by omega)
  have t2 : decide (2305843009213693952 < v1) = false := decide_eq_false (by unfold topW at hf2; omega)
  have t2' : decide ((2305843009213693952 : Int) < (v1 : Int)) = false := decide_eq_false (by unfold topW at hf2; omega)
  go_enter Try.func65, Try.ntmps65
  go_wp2_with (first
      | (go_at_call 20; refine (read_ok w F db d H.out n HN.out HO.out).mono ?_; rintro e w1 ⟨g, rfl, hp, hg, hx⟩; rw [← HQ.out] at hp; have HP := Lib.hid hp; have HX := Lib.hid hx; have HD := Lib.hid (H.out.ext hx); clear hp hx)
      | (go_at_call 108; refine (get_sub _ _ q HP.out HL.out _ _ _ (by omega) (by omega)).mono ?_; simp only [H1.out, H2.out, H3.out]; rintro e w' ⟨rfl, rfl⟩)
      | (go_at_call 60; refine (room_ok _ F db d HD.out (v3 : Int) HV3.out).mono ?_; rw [HROOM.out]; rintro e w' ⟨rfl, rfl⟩)
      | (go_at_call 109; refine (noughts_sub _ _ q HP.out HL.out _ _ _ (by omega) (by omega)).mono ?_; simp only [HNO.out]; rintro e w' ⟨rfl, rfl⟩))
  go_ret3
  exact ⟨rfl, HX.out⟩
set_option maxRecDepth 100000 in
set_option maxHeartbeats 1000000 in
theorem rs_no (w : World) (F : List Nat) (db : Nat) (d : Dsk) (h : DiskAt w F db d) (n : Nat) (hn : n < d.now.length) (ho : d.off = false) (q : Sec) (hq : q = d.now.getD n [])
    (v1 v2 v3 : Nat) (e1 e2 : Int) (ro no : Bool) (h1 : getS ((q.drop 0).take 8) = (v1, e1)) (h2 : getS ((q.drop 56).take 8) = (v2, e2)) (h3 : getS ((q.drop 8).take 4) = (v3, 0)) (hv3 : v3 < 4294967296)
    (hroom : decide (3 ≤ (v3 : Int) ∧ (v3 : Int) + 3 ≤ (d.now.length : Int)) = ro) (hno : nought ((q.drop 12).take 44) = no) (hg1 : e1 = 0) (hg2 : e2 = 0) (hf : v1 = v2) (hf2 : 1 ≤ v1 ∧ v1 ≤ topW) (hr : ro = true) (hr2 : no = false) :
    Calls Try.prog 65 #[.pointer (some ⟨db, 0, none⟩), .int .i64 (n : Int)] w fun e w' => e = .returned (.tuple (slotV none)) ∧ Ext w w' := by
  have H := Lib.hid h
  have HN := Lib.hid hn
  have HO := Lib.hid ho
  have HQ := Lib.hid hq
  have HL : Hid (q.length = 64) := by obtain ⟨_, _, _, h⟩ := h; rw [hq]; exact getD_sec h.ok.nowS hn
  have H1 := Lib.hid h1
  have H2 := Lib.hid h2
  have H3 := Lib.hid h3
  have HV3 : Hid (-9223372036854775808 ≤ (v3 : Int) ∧ (v3 : Int) ≤ 9223372036854775807) := ⟨by omega, by omega⟩
  have HROOM := Lib.hid hroom
  have HNO := Lib.hid hno
  clear h hn ho hq h1 h2 h3 hroom hno
  subst hg1
  subst hg2
  subst hf
  subst hr
  subst hr2
  have t1 : decide ((v1 : Int) < 1) = false := decide_eq_false (by omega)
  have t1' : decide (v1 < 1) = false := decide_eq_false (by omega)
  have t2 : decide (2305843009213693952 < v1) = false := decide_eq_false (by unfold topW at hf2; omega)
  have t2' : decide ((2305843009213693952 : Int) < (v1 : Int)) = false := decide_eq_false (by unfold topW at hf2; omega)
  go_enter Try.func65, Try.ntmps65
  go_wp2_with (first
      | (go_at_call 20; refine (read_ok w F db d H.out n HN.out HO.out).mono ?_; rintro e w1 ⟨g, rfl, hp, hg, hx⟩; rw [← HQ.out] at hp; have HP := Lib.hid hp; have HX := Lib.hid hx; have HD := Lib.hid (H.out.ext hx); clear hp hx)
      | (go_at_call 108; refine (get_sub _ _ q HP.out HL.out _ _ _ (by omega) (by omega)).mono ?_; simp only [H1.out, H2.out, H3.out]; rintro e w' ⟨rfl, rfl⟩)
      | (go_at_call 60; refine (room_ok _ F db d HD.out (v3 : Int) HV3.out).mono ?_; rw [HROOM.out]; rintro e w' ⟨rfl, rfl⟩)
      | (go_at_call 109; refine (noughts_sub _ _ q HP.out HL.out _ _ _ (by omega) (by omega)).mono ?_; simp only [HNO.out]; rintro e w' ⟨rfl, rfl⟩))
  go_ret3
  exact ⟨rfl, HX.out⟩
set_option maxRecDepth 100000 in
set_option maxHeartbeats 1000000 in
theorem rs_ok (w : World) (F : List Nat) (db : Nat) (d : Dsk) (h : DiskAt w F db d) (n : Nat) (hn : n < d.now.length) (ho : d.off = false) (q : Sec) (hq : q = d.now.getD n [])
    (v1 v2 v3 : Nat) (e1 e2 : Int) (ro no : Bool) (h1 : getS ((q.drop 0).take 8) = (v1, e1)) (h2 : getS ((q.drop 56).take 8) = (v2, e2)) (h3 : getS ((q.drop 8).take 4) = (v3, 0)) (hv3 : v3 < 4294967296)
    (hroom : decide (3 ≤ (v3 : Int) ∧ (v3 : Int) + 3 ≤ (d.now.length : Int)) = ro) (hno : nought ((q.drop 12).take 44) = no) (hg1 : e1 = 0) (hg2 : e2 = 0) (hf : v1 = v2) (hf2 : 1 ≤ v1 ∧ v1 ≤ topW) (hr : ro = true) (hr2 : no = true) :
    Calls Try.prog 65 #[.pointer (some ⟨db, 0, none⟩), .int .i64 (n : Int)] w fun e w' => e = .returned (.tuple (slotV (some (v1, v3)))) ∧ Ext w w' := by
  have H := Lib.hid h
  have HN := Lib.hid hn
  have HO := Lib.hid ho
  have HQ := Lib.hid hq
  have HL : Hid (q.length = 64) := by obtain ⟨_, _, _, h⟩ := h; rw [hq]; exact getD_sec h.ok.nowS hn
  have H1 := Lib.hid h1
  have H2 := Lib.hid h2
  have H3 := Lib.hid h3
  have HV3 : Hid (-9223372036854775808 ≤ (v3 : Int) ∧ (v3 : Int) ≤ 9223372036854775807) := ⟨by omega, by omega⟩
  have HROOM := Lib.hid hroom
  have HNO := Lib.hid hno
  clear h hn ho hq h1 h2 h3 hroom hno
  subst hg1
  subst hg2
  subst hf
  subst hr
  subst hr2
  have t1 : decide ((v1 : Int) < 1) = false := decide_eq_false (by omega)
  have t1' : decide (v1 < 1) = false := decide_eq_false (by omega)
  have t2 : decide (2305843009213693952 < v1) = false := decide_eq_false (by unfold topW at hf2; omega)
  have t2' : decide ((2305843009213693952 : Int) < (v1 : Int)) = false := decide_eq_false (by unfold topW at hf2; omega)
  go_enter Try.func65, Try.ntmps65
  go_wp2_with (first
      | (go_at_call 20; refine (read_ok w F db d H.out n HN.out HO.out).mono ?_; rintro e w1 ⟨g, rfl, hp, hg, hx⟩; rw [← HQ.out] at hp; have HP := Lib.hid hp; have HX := Lib.hid hx; have HD := Lib.hid (H.out.ext hx); clear hp hx)
      | (go_at_call 108; refine (get_sub _ _ q HP.out HL.out _ _ _ (by omega) (by omega)).mono ?_; simp only [H1.out, H2.out, H3.out]; rintro e w' ⟨rfl, rfl⟩)
      | (go_at_call 60; refine (room_ok _ F db d HD.out (v3 : Int) HV3.out).mono ?_; rw [HROOM.out]; rintro e w' ⟨rfl, rfl⟩)
      | (go_at_call 109; refine (noughts_sub _ _ q HP.out HL.out _ _ _ (by omega) (by omega)).mono ?_; simp only [HNO.out]; rintro e w' ⟨rfl, rfl⟩))
  go_ret3
  exact ⟨rfl, HX.out⟩
theorem slotR_no {b : Sec} {n : Nat} (h : ¬ (beV (b.take 8) = beV (b.drop 56) ∧ 1 ≤ beV (b.take 8) ∧ beV (b.take 8) ≤ topW ∧ 3 ≤ beV ((b.drop 8).take 4) ∧ beV ((b.drop 8).take 4) + 3 ≤ n ∧ nought ((b.drop 12).take 44) = true)) : slotR b n = none := if_neg h
theorem slotR_yes {b : Sec} {n : Nat} (h : beV (b.take 8) = beV (b.drop 56) ∧ 1 ≤ beV (b.take 8) ∧ beV (b.take 8) ≤ topW ∧ 3 ≤ beV ((b.drop 8).take 4) ∧ beV ((b.drop 8).take 4) + 3 ≤ n ∧ nought ((b.drop 12).take 44) = true) : slotR b n = some (beV (b.take 8), beV ((b.drop 8).take 4)) := if_pos h
theorem readSlot_ok (w : World) (F : List Nat) (db : Nat) (d : Dsk) (h : DiskAt w F db d) (n : Nat) (hn : n < d.now.length) (ho : d.off = false) :
    Calls Try.prog 65 #[.pointer (some ⟨db, 0, none⟩), .int .i64 (n : Int)] w fun e w' => e = .returned (.tuple (slotV (slotR (d.now.getD n []) d.now.length))) ∧ Ext w w' := by
  have hl : (d.now.getD n []).length = 64 := by obtain ⟨_, _, _, h⟩ := h; exact getD_sec h.ok.nowS hn
  generalize hq : d.now.getD n [] = q at *
  have l1 : (q.take 8).length = 8 := by rw [List.length_take, hl]; rfl
  have l2 : (q.drop 56).length = 8 := by rw [List.length_drop, hl]
  have l3 : ((q.drop 8).take 4).length = 4 := by rw [List.length_take, List.length_drop, hl]; rfl
  have c1 := getS_cases (b := q.take 8) (by omega) (by omega)
  have c2 := getS_cases (b := q.drop 56) (by omega) (by omega)
  have c3 := getS_four l3
  have b3 := beV_lt ((q.drop 8).take 4)
  rw [l3] at b3
  have b3' : beV ((q.drop 8).take 4) < 4294967296 := by simpa using b3
  have g1 : getS ((q.drop 0).take 8) = ((getS (q.take 8)).1, (getS (q.take 8)).2) := rfl
  have g2 : getS ((q.drop 56).take 8) = ((getS (q.drop 56)).1, (getS (q.drop 56)).2) := by rw [List.take_of_length_le (by omega)]
  rw [show (getS (q.take 8)).1 = (getS (q.take 8)).1 from rfl] at g1
  rcases c1 with ⟨c1, c1v⟩ | ⟨c1, c1v⟩
  · rcases c2 with ⟨c2, c2v⟩ | ⟨c2, c2v⟩
    · by_cases hne : beV (q.take 8) = beV (q.drop 56)
      · by_cases hlo : 1 ≤ beV (q.take 8)
        · by_cases hhi : beV (q.take 8) ≤ topW
          · by_cases hro : 3 ≤ (beV ((q.drop 8).take 4) : Int) ∧ (beV ((q.drop 8).take 4) : Int) + 3 ≤ (d.now.length : Int)
            · cases hnn : nought ((q.drop 12).take 44)
              · rw [slotR_no (by intro hh; rw [hh.2.2.2.2.2] at hnn; cases hnn)]
                exact rs_no w F db d h n hn ho q hq.symm _ _ _ _ _ true _ g1 g2 c3 b3' (decide_eq_true hro) rfl c1 c2 (by rw [c1v, c2v]; exact hne) (by rw [c1v]; exact ⟨hlo, hhi⟩) rfl hnn
              · rw [slotR_yes ⟨hne, hlo, hhi, by omega, by omega, hnn⟩]
                rw [← c1v]
                exact rs_ok w F db d h n hn ho q hq.symm _ _ _ _ _ true _ g1 g2 c3 b3' (decide_eq_true hro) rfl c1 c2 (by rw [c1v, c2v]; exact hne) (by rw [c1v]; exact ⟨hlo, hhi⟩) rfl hnn
            · rw [slotR_no (by intro hh; apply hro; omega)]
              exact rs_ro w F db d h n hn ho q hq.symm _ _ _ _ _ false _ g1 g2 c3 b3' (decide_eq_false hro) rfl c1 c2 (by rw [c1v, c2v]; exact hne) (by rw [c1v]; exact ⟨hlo, hhi⟩) rfl
          · rw [slotR_no (by intro hh; exact hhi hh.2.2.1)]
            exact rs_hi w F db d h n hn ho q hq.symm _ _ _ _ _ _ _ g1 g2 c3 b3' rfl rfl c1 c2 (by rw [c1v, c2v]; exact hne) (by rw [c1v]; omega)
        · rw [slotR_no (by intro hh; exact hlo hh.2.1)]
          exact rs_lo w F db d h n hn ho q hq.symm _ _ _ _ _ _ _ g1 g2 c3 b3' rfl rfl c1 c2 (by rw [c1v, c2v]; exact hne) (by rw [c1v]; omega)
      · rw [slotR_no (by intro hh; exact hne hh.1)]
        exact rs_ne w F db d h n hn ho q hq.symm _ _ _ _ _ _ _ g1 g2 c3 b3' rfl rfl c1 c2 (by rw [c1v, c2v]; exact hne)
    · rw [slotR_no (by intro hh; have := hh.1; have := hh.2.2.1; unfold topW at *; omega)]
      exact rs_e2 w F db d h n hn ho q hq.symm _ _ _ _ _ _ _ g1 g2 c3 b3' rfl rfl c1 c2
  · rw [slotR_no (by intro hh; have := hh.2.2.1; unfold topW at *; omega)]
    exact rs_e1 w F db d h n hn ho q hq.symm _ _ _ _ _ _ _ g1 g2 c3 b3' rfl rfl c1
end Go.Proofs.Ytkmnjccklnfcdaa
