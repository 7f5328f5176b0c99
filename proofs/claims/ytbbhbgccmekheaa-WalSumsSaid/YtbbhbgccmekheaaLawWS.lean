/- The statement about the checksum. -/
import Derived.Test.YtbbhbgccmekheaaCrcW
import Derived.Deep.RegionWith
import Derived.Deep.RegionHeld3
import Derived.StillTailTactics
namespace Go.Proofs.Ytbbhbgccmekheaa
open Go Go.RowKit Bst
set_option linter.unusedVariables false
set_option linter.unusedSimpArgs false

theorem rows1 {F : List Nat} {w : World} {A : Option Addr} {c : Nat} {l : List UInt8} (h : Sl Kd.u8 F w A c l) (hF : w.heap.size ∉ F) (t : TypeId) :
    Sl (Kd.slice Kd.u8) F (w.alloc (.cells #[.slice A l.length c] t)) (some ⟨w.heap.size, 0, none⟩) 1 [l] := by
  refine ⟨by simp, by simp, fun _ => ⟨w.heap.size, 0, rfl, by simp, hF, fun i x hx => ?_⟩⟩
  have hi : i = 0 := by have := (List.getElem?_eq_some_iff.1 hx).1; simp at this; omega
  subst hi
  simp at hx
  subst hx
  refine ⟨[.slice A l.length c], ⟨A, c, rfl, h.ext ((Ext.alloc w _).keep F)⟩, fun j u hu => ?_⟩
  have hj : j = 0 := by have := (List.getElem?_eq_some_iff.1 hu).1; simp at this; omega
  subst hj
  simp at hu
  rw [cell_blk (heap_alloc_new w _)]
  simp [hu]
theorem rows2 {F : List Nat} {w : World} {A B : Option Addr} {c d : Nat} {l k : List UInt8} (h : Sl Kd.u8 F w A c l) (h' : Sl Kd.u8 F w B d k) (hF : w.heap.size ∉ F) (t : TypeId) :
    Sl (Kd.slice Kd.u8) F (w.alloc (.cells #[.slice A l.length c, .slice B k.length d] t)) (some ⟨w.heap.size, 0, none⟩) 2 [l, k] := by
  refine ⟨by simp, by simp, fun _ => ⟨w.heap.size, 0, rfl, by simp, hF, fun i x hx => ?_⟩⟩
  have hi : i = 0 ∨ i = 1 := by have := (List.getElem?_eq_some_iff.1 hx).1; simp at this; omega
  rcases hi with rfl | rfl
  · simp at hx
    subst hx
    refine ⟨[.slice A l.length c], ⟨A, c, rfl, h.ext ((Ext.alloc w _).keep F)⟩, fun j u hu => ?_⟩
    have hj : j = 0 := by have := (List.getElem?_eq_some_iff.1 hu).1; simp at this; omega
    subst hj
    simp at hu
    rw [cell_blk (heap_alloc_new w _)]
    simp [hu]
  · simp at hx
    subst hx
    refine ⟨[.slice B k.length d], ⟨B, d, rfl, h'.ext ((Ext.alloc w _).keep F)⟩, fun j u hu => ?_⟩
    have hj : j = 0 := by have := (List.getElem?_eq_some_iff.1 hu).1; simp at this; omega
    subst hj
    simp at hu
    rw [cell_blk (heap_alloc_new w _)]
    simp [Kd.slice, hu]

theorem et_u8 : ET Try.prog 22 5 (.int .u8 0) 1 1 := ⟨Try.underlying22, info_parts (by kernel_rfl), rfl, by decide⟩
theorem sl_take {α : Type} {K : Kd α} {F : List Nat} {w : World} {A : Option Addr} {c : Nat} {l : List α} (h : Sl K F w A c l) (k : Nat) : Sl K F w A c (l.take k) := by
  refine ⟨Nat.le_trans (by simp; omega) h.1, Nat.le_trans (by simp; omega) h.2.1, fun hn => ?_⟩
  rw [List.length_take] at hn
  obtain ⟨g, o, hA, hg, hF, hc⟩ := h.2.2 (by omega)
  exact ⟨g, o, hA, hg, hF, fun i x hx => hc i x (by rw [List.getElem?_take] at hx; split at hx <;> simp_all)⟩
theorem sl_drop {F : List Nat} {w : World} {g o : Nat} {c : Nat} {l : List UInt8} (h : Sl Kd.u8 F w (some ⟨g, o, none⟩) c l) (k : Nat) : Sl Kd.u8 F w (some ⟨g, o + k, none⟩) (c - k) (l.drop k) := by
  refine ⟨by have := h.1; simp; omega, by have := h.2.1; simp; omega, fun hn => ?_⟩
  rw [List.length_drop] at hn
  obtain ⟨g', o', hA, hg, hF, hc⟩ := h.2.2 (by omega)
  injection hA with hA; injection hA with h1 h2; subst h1; subst h2
  refine ⟨_, _, rfl, hg, hF, fun i x hx => ?_⟩
  rw [List.getElem?_drop] at hx
  obtain ⟨cs, hR, hcell⟩ := hc _ x hx
  exact ⟨cs, hR, fun j u hu => by have := hcell j u hu; rw [show g = g from rfl] at this; simpa [Kd.u8, Nat.add_assoc] using this⟩
theorem sl_drop' {F : List Nat} {w : World} {g o : Nat} {c : Nat} {l : List UInt8} (h : Sl Kd.u8 F w (some ⟨g, o, none⟩) c l) (k : Nat) : Sl Kd.u8 F w (if c = k then some ⟨g, o, none⟩ else some ⟨g, o + k, none⟩) (c - k) (l.drop k) := by
  have h1 := h.1
  split
  · have e : l.drop k = [] := List.drop_eq_nil_of_le (by omega)
    rw [e]
    exact Sl.nil ..
  · exact sl_drop h k
theorem ext_fresh2 {w w' : World} {F : List Nat} (h : Ext w w') (hF : ∀ b ∈ F, w.heap.size ≤ b) : Keep [] w F w' := ⟨h.os, h.tape, h.output, h.size, h.block, fun b hb => .inr (hF b hb)⟩
theorem keep_ext0 {w w' : World} {F : List Nat} (h : Keep [] w F w') : Ext w w' := ⟨h.os, h.tape, h.output, h.size, h.block, fun _ hb => by cases hb⟩
theorem flip_ne (x : UInt8) {r : Nat} (hr : r < 8) : UInt8.ofNat (x.toNat ^^^ 2 ^ r) ≠ x ∧ bits .xor .u8 (x.toNat : Int) (2 ^ r) = ((UInt8.ofNat (x.toNat ^^^ 2 ^ r)).toNat : Int) := by
  have hx := UInt8.toNat_lt x
  have h2 : 2 ^ r < 256 := Nat.lt_of_lt_of_le (Nat.pow_lt_pow_right (a := 2) (by omega) hr) (by decide)
  have hl : x.toNat ^^^ 2 ^ r < 256 := Nat.xor_lt_two_pow (n := 8) hx h2
  have e : (UInt8.ofNat (x.toNat ^^^ 2 ^ r)).toNat = x.toNat ^^^ 2 ^ r := by
    rw [UInt8.toNat_ofNat']; exact Nat.mod_eq_of_lt hl
  refine ⟨fun h => ?_, ?_⟩
  · have h3 := congrArg UInt8.toNat h
    rw [e] at h3
    have h4 : (2 ^ r : Nat) = 0 := xor_right_inj (x := x.toNat) (by rw [h3, Nat.xor_zero])
    have := Nat.two_pow_pos r
    omega
  · rw [e]
    have := u8_xor_nat x.toNat (2 ^ r) hx h2
    simpa using this
theorem own_empty (w : World) (base : Nat) (hb : base ≤ w.heap.size) : Own Kd.u8 [w.heap.size] (w.alloc (.cells #[] 5)) base 5 (.slice (some ⟨w.heap.size, 0, none⟩) 0 0) [] :=
  ⟨⟨[], ⟨rfl, .inr ⟨w.heap.size, 0, #[], rfl, hb, heap_alloc_new w _, Nat.le_refl _, by decide, rfl, rfl⟩⟩, rfl⟩, fun g h => by simp [Value.ownBlock] at h; simp [h]⟩

set_option maxRecDepth 100000 in
set_option maxHeartbeats 4000000 in
theorem walSums_ok (w : World) (A : Option Addr) (c : Nat) (l : List UInt8) (cut bit : Nat) (hcut : cut < 65536) (hbit : bit < 65536) (hl : Sl Kd.u8 [] w A c l) :
    Calls Try.prog 3 #[.slice A l.length c, .int .u16 (cut : Int), .int .u16 (bit : Int)] w fun e w' => e = .returned (.bool true) ∧ Ext w w' := by
  have hle := hl.len_le
  have HL := Lib.hid hl
  clear hl
  go_enter Try.func3, Try.ntmps3
  go_wp2_with fail
  have hx0 : Ext w ((w.alloc (.cells #[.int .u8 49, .int .u8 50, .int .u8 51, .int .u8 52, .int .u8 53, .int .u8 54, .int .u8 55, .int .u8 56, .int .u8 57] 5)).alloc (.cells #[.slice (some ⟨w.heap.size, 0, none⟩) 9 9] 22)) :=
    (Ext.alloc _ _).trans (Ext.alloc _ _)
  have hr0 := rows1 (F := []) (l := [49, 50, 51, 52, 53, 54, 55, 56, 57]) (c := 9) (Row.sl_u8 (F := []) (Row.new w encU8 [49, 50, 51, 52, 53, 54, 55, 56, 57] 5) (by simp) (by decide) (by decide)) (by simp) 22
  have es : w.heap.size + 1 = (w.alloc (.cells #[.int .u8 49, .int .u8 50, .int .u8 51, .int .u8 52, .int .u8 53, .int .u8 54, .int .u8 55, .int .u8 56, .int .u8 57] 5)).heap.size := by simp
  rw [es]
  refine (sum_ok [] _ _ 1 [[49, 50, 51, 52, 53, 54, 55, 56, 57]] hr0).mono ?_
  rintro e w1 ⟨rfl, hw1⟩
  have HX0 := Lib.hid (show Ext w w1 from by rw [← hw1]; exact hx0)
  clear hr0 es hx0 hw1
  rw [show sumS [[49, 50, 51, 52, 53, 54, 55, 56, 57]].flatten = 3421780262 from by decide]
  by_cases h300 : 300 < l.length
  · have d3 : decide (300 < l.length) = true := decide_eq_true h300
    have d3' : decide (300 < (l.length : Int)) = true := decide_eq_true (by omega)
    go_wp2
    go_ret
    exact ⟨rfl, HX0.out⟩
  · have d3 : decide (300 < l.length) = false := decide_eq_false h300
    have d3' : decide (300 < (l.length : Int)) = false := decide_eq_false (by omega)
    have HL1 := Lib.hid (HL.out.ext (HX0.out.keep []))
    have hs0 := sumS_lt l
    go_wp2_with fail
    · refine (sum_ok [] _ _ 1 [l] (rows1 HL1.out (by simp) _)).mono ?_
      rintro e w2 ⟨rfl, hw2⟩
      rw [show [l].flatten = l from by simp]
      have HX2 := Lib.hid (show Ext w w2 from HX0.out.trans (by rw [← hw2]; exact Ext.alloc _ _))
      have HL2 := Lib.hid (HL.out.ext (HX2.out.keep []))
      clear hw2
      by_cases h0 : l = []
      · subst h0
        go_wp2_with fail
        simp only [List.length_nil] at *
        have HD := Lib.hid (HL2.out.ext ((Ext.drew w2).keep []))
        go_region_held3 (fun w' => True) (trivial) (first
          | (go_at_call 5; refine (refsum_ok [] _ A c [] (Sl.nil ..)).mono ?_; rintro e w' ⟨rfl, rfl⟩)
          | (go_at_call 4; refine (sum_ok [] _ _ 2 [[], []] ((rows2 (F := []) (l := []) (k := []) HL2.out HL2.out (by simp) _).ext ((Ext.drew _).keep []))).mono ?_; rintro e w3 ⟨rfl, hw3⟩
             rw [show [[], []].flatten = ([] : List UInt8) from rfl]; have HX3 := Lib.hid (show Ext w w3 from HX2.out.trans (by rw [← hw3]; exact (Ext.alloc w2 _).trans (Ext.drew _))); clear hw3))
        all_goals
          go_wp2
          go_ret
          exact ⟨by rw [show sumS [] = 0 from by decide]; rfl, HX3.out⟩
      · have hlp : 0 < l.length := List.length_pos_iff.2 h0
        obtain ⟨g, o, rfl, hg, -, -⟩ := HL2.out.2.2 hlp
        have hcap := HL2.out.1
        by_cases hcl : c = l.length
        · subst hcl
          have HSL := Lib.hid (rows2 (F := []) HL2.out (Sl.nil Kd.u8 [] w2 (some ⟨g, o, none⟩) 0) (by simp) 22)
          have HFL := Lib.hid (show [l, []].flatten = l from by simp)
          have HLd := Lib.hid (HL2.out.ext ((Ext.drew w2).keep []))
          have hs1 : ((sumS l : Int) != (sumS l : Int)) = false := by simp
          clear h0
          go_wp2_with fail
          go_region_held3 (fun w' => True) (trivial) (first
            | (go_at_call 5; refine (refsum_ok [] _ _ _ l HLd.out).mono ?_; rintro e w' ⟨rfl, rfl⟩)
            | (go_at_call 4; refine (sum_ok [] _ _ 2 [l, []] (HSL.out.ext ((Ext.drew _).keep []))).mono ?_; rintro e w3 ⟨rfl, hw3⟩
               rw [HFL.out]; have HX3 := Lib.hid (show Ext w w3 from HX2.out.trans (by rw [← hw3]; exact (Ext.alloc w2 _).trans (Ext.drew _))); clear hw3))
          all_goals
            have HL3 := Lib.hid (HL.out.ext (HX3.out.keep []))
            have hemp : ((l.length : Int) == 0) = false := by rw [beq_eq_false_iff_ne]; omega
            have HOE := Lib.hid (own_empty w3 w3.heap.size (Nat.le_refl _))
            have HNEW := Lib.hid (HL3.out.ext (ext_fresh2 (F := [w3.heap.size]) (Ext.alloc w3 (.cells #[] 5)) (by simp)))
            go_wp2_with (at_builtin; go_must (refine wp_app (K := Kd.u8) et_u8 rfl _ _ (by rfl) (w3.alloc (.cells #[] 5)) w3.heap.size [w3.heap.size] (.slice (some ⟨w3.heap.size, 0, none⟩) 0 0) [] l _ _ (by rfl) (by rfl) HOE.out HNEW.out (by simp; omega) (by simp; omega) (by simp) ?_); intro v' w4 F' hown hk hk0 hF)
            have hn : (bit : Int) % (8 * (l.length : Int)) = ((bit % (8 * l.length) : Nat) : Int) := by simp
            have hnl : bit % (8 * l.length) < 8 * l.length := Nat.mod_lt _ (by omega)
            rw [hn]
            generalize bit % (8 * l.length) = n at *
            rw [List.nil_append] at hown
            obtain ⟨i, hiq⟩ : ∃ i : Nat, i = n / 8 := ⟨_, rfl⟩
            obtain ⟨r, hrq⟩ : ∃ r : Nat, r = n % 8 := ⟨_, rfl⟩
            have hi : i < l.length := by omega
            have hq : (n : Int) / 8 = (i : Int) := by omega
            have hr : (n : Int) % 8 = (r : Int) := by omega
            have hr8 : r < 8 := by omega
            obtain ⟨g2, c2, rfl, hg2F, hg2b, ⟨cs, hcs, hcell⟩, hfrz, hset⟩ := hown.at_ hi
            have hcell0 := hcell 0 _ (by rw [show cs = _ from hcs]; rfl)
            simp only [show Kd.u8.sz = 1 from rfl, Nat.mul_one, Nat.add_zero] at hcell0 hset hfrz hown
            have hf0 := hfrz i
            have HSET := Lib.hid hset
            have HOWN := Lib.hid hown
            have HK := Lib.hid hk
            have HK0 := Lib.hid hk0
            have h8 : l[i].toNat < 256 := UInt8.toNat_lt _
            clear hn hcell hset hown hk hk0 hfrz hcs hiq hrq
            have hsh : IntKind.u8.wrap (2 ^ r) = ((2 ^ r : Nat) : Int) := by
              have : r = 0 ∨ r = 1 ∨ r = 2 ∨ r = 3 ∨ r = 4 ∨ r = 5 ∨ r = 6 ∨ r = 7 := by omega
              rcases this with rfl | rfl | rfl | rfl | rfl | rfl | rfl | rfl <;> decide
            obtain ⟨hyne, hyx⟩ := flip_ne l[i] hr8
            have HYX := Lib.hid hyx
            have HNE := Lib.hid (sumS_set hi hyne)
            generalize UInt8.ofNat (l[i].toNat ^^^ 2 ^ r) = y at *
            have hown5 := HSET.out 0 (.int .u8 (y.toNat : Int)) y (by omega) (fun cs hcs _ => by
              have : cs = [.int .u8 (l[i].toNat : Int)] := hcs
              subst this
              rfl)
            rw [Nat.add_zero] at hown5
            have HOWN5 := Lib.hid hown5
            have HX5 := Lib.hid (HX3.out.trans (keep_ext0 (((ext_fresh2 (F := [w3.heap.size]) (Ext.alloc w3 (.cells #[] 5)) (by simp)).trans HK.out).trans (Keep.setCell F' w4 ⟨g2, i, none⟩ (.int .u8 (y.toNat : Int)) hg2F))))
            clear hyne hyx hown5
            go_region
            all_goals
              go_wp2_with fail
              rw [HYX.out]
              obtain ⟨-, hs5⟩ := HOWN5.out.to_sl (by rw [List.length_set]; omega)
              have hr5 := rows1 hs5 (by simp) 22
              rw [List.length_set] at hr5
              have e5 : (w4.setCell ⟨g2, i, none⟩ (.int .u8 (y.toNat : Int))).heap.size = w4.heap.size := by simp
              rw [e5] at hr5
              refine (sum_ok [] _ _ 1 [l.set i y] (hr5.ext ((Ext.drew _).keep []))).mono ?_
              rintro e w6 ⟨rfl, hw6⟩
              have HX6 := Lib.hid (show Ext w w6 from by rw [← hw6]; exact (HX5.out.trans (Ext.alloc _ _)).trans (Ext.drew _))
              rw [show [l.set i y].flatten = l.set i y from by simp]
              have hne : ((sumS (l.set i y) : Int) != (sumS l : Int)) = true := by
                rw [bne_iff_ne]; have := HNE.out; omega
              clear hw6 hr5 hs5 e5
              go_wp2
              go_ret
              exact ⟨rfl, HX6.out⟩
        · have HSL := Lib.hid (rows2 (F := []) HL2.out (Sl.nil Kd.u8 [] w2 (some ⟨g, o + l.length, none⟩) (c - l.length)) (by simp) 22)
          have HFL := Lib.hid (show [l, []].flatten = l from by simp)
          have HLd := Lib.hid (HL2.out.ext ((Ext.drew w2).keep []))
          have hs1 : ((sumS l : Int) != (sumS l : Int)) = false := by simp
          clear h0
          go_wp2_with fail
          go_region_held3 (fun w' => True) (trivial) (first
            | (go_at_call 5; refine (refsum_ok [] _ _ _ l HLd.out).mono ?_; rintro e w' ⟨rfl, rfl⟩)
            | (go_at_call 4; refine (sum_ok [] _ _ 2 [l, []] (HSL.out.ext ((Ext.drew _).keep []))).mono ?_; rintro e w3 ⟨rfl, hw3⟩
               rw [HFL.out]; have HX3 := Lib.hid (show Ext w w3 from HX2.out.trans (by rw [← hw3]; exact (Ext.alloc w2 _).trans (Ext.drew _))); clear hw3))
          all_goals
            have HL3 := Lib.hid (HL.out.ext (HX3.out.keep []))
            have hemp : ((l.length : Int) == 0) = false := by rw [beq_eq_false_iff_ne]; omega
            have HOE := Lib.hid (own_empty w3 w3.heap.size (Nat.le_refl _))
            have HNEW := Lib.hid (HL3.out.ext (ext_fresh2 (F := [w3.heap.size]) (Ext.alloc w3 (.cells #[] 5)) (by simp)))
            go_wp2_with (at_builtin; go_must (refine wp_app (K := Kd.u8) et_u8 rfl _ _ (by rfl) (w3.alloc (.cells #[] 5)) w3.heap.size [w3.heap.size] (.slice (some ⟨w3.heap.size, 0, none⟩) 0 0) [] l _ _ (by rfl) (by rfl) HOE.out HNEW.out (by simp; omega) (by simp; omega) (by simp) ?_); intro v' w4 F' hown hk hk0 hF)
            have hn : (bit : Int) % (8 * (l.length : Int)) = ((bit % (8 * l.length) : Nat) : Int) := by simp
            have hnl : bit % (8 * l.length) < 8 * l.length := Nat.mod_lt _ (by omega)
            rw [hn]
            generalize bit % (8 * l.length) = n at *
            rw [List.nil_append] at hown
            obtain ⟨i, hiq⟩ : ∃ i : Nat, i = n / 8 := ⟨_, rfl⟩
            obtain ⟨r, hrq⟩ : ∃ r : Nat, r = n % 8 := ⟨_, rfl⟩
            have hi : i < l.length := by omega
            have hq : (n : Int) / 8 = (i : Int) := by omega
            have hr : (n : Int) % 8 = (r : Int) := by omega
            have hr8 : r < 8 := by omega
            obtain ⟨g2, c2, rfl, hg2F, hg2b, ⟨cs, hcs, hcell⟩, hfrz, hset⟩ := hown.at_ hi
            have hcell0 := hcell 0 _ (by rw [show cs = _ from hcs]; rfl)
            simp only [show Kd.u8.sz = 1 from rfl, Nat.mul_one, Nat.add_zero] at hcell0 hset hfrz hown
            have hf0 := hfrz i
            have HSET := Lib.hid hset
            have HOWN := Lib.hid hown
            have HK := Lib.hid hk
            have HK0 := Lib.hid hk0
            have h8 : l[i].toNat < 256 := UInt8.toNat_lt _
            clear hn hcell hset hown hk hk0 hfrz hcs hiq hrq
            have hsh : IntKind.u8.wrap (2 ^ r) = ((2 ^ r : Nat) : Int) := by
              have : r = 0 ∨ r = 1 ∨ r = 2 ∨ r = 3 ∨ r = 4 ∨ r = 5 ∨ r = 6 ∨ r = 7 := by omega
              rcases this with rfl | rfl | rfl | rfl | rfl | rfl | rfl | rfl <;> decide
            obtain ⟨hyne, hyx⟩ := flip_ne l[i] hr8
            have HYX := Lib.hid hyx
            have HNE := Lib.hid (sumS_set hi hyne)
            generalize UInt8.ofNat (l[i].toNat ^^^ 2 ^ r) = y at *
            have hown5 := HSET.out 0 (.int .u8 (y.toNat : Int)) y (by omega) (fun cs hcs _ => by
              have : cs = [.int .u8 (l[i].toNat : Int)] := hcs
              subst this
              rfl)
            rw [Nat.add_zero] at hown5
            have HOWN5 := Lib.hid hown5
            have HX5 := Lib.hid (HX3.out.trans (keep_ext0 (((ext_fresh2 (F := [w3.heap.size]) (Ext.alloc w3 (.cells #[] 5)) (by simp)).trans HK.out).trans (Keep.setCell F' w4 ⟨g2, i, none⟩ (.int .u8 (y.toNat : Int)) hg2F))))
            clear hyne hyx hown5
            go_region
            all_goals
              go_wp2_with fail
              rw [HYX.out]
              obtain ⟨-, hs5⟩ := HOWN5.out.to_sl (by rw [List.length_set]; omega)
              have hr5 := rows1 hs5 (by simp) 22
              rw [List.length_set] at hr5
              have e5 : (w4.setCell ⟨g2, i, none⟩ (.int .u8 (y.toNat : Int))).heap.size = w4.heap.size := by simp
              rw [e5] at hr5
              refine (sum_ok [] _ _ 1 [l.set i y] (hr5.ext ((Ext.drew _).keep []))).mono ?_
              rintro e w6 ⟨rfl, hw6⟩
              have HX6 := Lib.hid (show Ext w w6 from by rw [← hw6]; exact (HX5.out.trans (Ext.alloc _ _)).trans (Ext.drew _))
              rw [show [l.set i y].flatten = l.set i y from by simp]
              have hne : ((sumS (l.set i y) : Int) != (sumS l : Int)) = true := by
                rw [bne_iff_ne]; have := HNE.out; omega
              clear hw6 hr5 hs5 e5
              go_wp2
              go_ret
              exact ⟨rfl, HX6.out⟩
    · by_cases hcc : cut = l.length
      · subst hcc
        refine (sum_ok [] _ _ 1 [l] (rows1 HL1.out (by simp) _)).mono ?_
        rintro e w2 ⟨rfl, hw2⟩
        rw [show [l].flatten = l from by simp]
        have HX2 := Lib.hid (show Ext w w2 from HX0.out.trans (by rw [← hw2]; exact Ext.alloc _ _))
        have HL2 := Lib.hid (HL.out.ext (HX2.out.keep []))
        clear hw2
        by_cases h0 : l = []
        · subst h0
          go_wp2_with fail
          simp only [List.length_nil] at *
          have HD := Lib.hid (HL2.out.ext ((Ext.drew w2).keep []))
          go_region_held3 (fun w' => True) (trivial) (first
            | (go_at_call 5; refine (refsum_ok [] _ A c [] (Sl.nil ..)).mono ?_; rintro e w' ⟨rfl, rfl⟩)
            | (go_at_call 4; refine (sum_ok [] _ _ 2 [[], []] ((rows2 (F := []) (l := []) (k := []) HL2.out HL2.out (by simp) _).ext ((Ext.drew _).keep []))).mono ?_; rintro e w3 ⟨rfl, hw3⟩
               rw [show [[], []].flatten = ([] : List UInt8) from rfl]; have HX3 := Lib.hid (show Ext w w3 from HX2.out.trans (by rw [← hw3]; exact (Ext.alloc w2 _).trans (Ext.drew _))); clear hw3))
          all_goals
            go_wp2
            go_ret
            exact ⟨by rw [show sumS [] = 0 from by decide]; rfl, HX3.out⟩
        · have hlp : 0 < l.length := List.length_pos_iff.2 h0
          obtain ⟨g, o, rfl, hg, -, -⟩ := HL2.out.2.2 hlp
          have hcap := HL2.out.1
          by_cases hcl : c = l.length
          · subst hcl
            have HSL := Lib.hid (rows2 (F := []) HL2.out (Sl.nil Kd.u8 [] w2 (some ⟨g, o, none⟩) 0) (by simp) 22)
            have HFL := Lib.hid (show [l, []].flatten = l from by simp)
            have HLd := Lib.hid (HL2.out.ext ((Ext.drew w2).keep []))
            have hs1 : ((sumS l : Int) != (sumS l : Int)) = false := by simp
            clear h0
            go_wp2_with fail
            go_region_held3 (fun w' => True) (trivial) (first
              | (go_at_call 5; refine (refsum_ok [] _ _ _ l HLd.out).mono ?_; rintro e w' ⟨rfl, rfl⟩)
              | (go_at_call 4; refine (sum_ok [] _ _ 2 [l, []] (HSL.out.ext ((Ext.drew _).keep []))).mono ?_; rintro e w3 ⟨rfl, hw3⟩
                 rw [HFL.out]; have HX3 := Lib.hid (show Ext w w3 from HX2.out.trans (by rw [← hw3]; exact (Ext.alloc w2 _).trans (Ext.drew _))); clear hw3))
            all_goals
              have HL3 := Lib.hid (HL.out.ext (HX3.out.keep []))
              have hemp : ((l.length : Int) == 0) = false := by rw [beq_eq_false_iff_ne]; omega
              have HOE := Lib.hid (own_empty w3 w3.heap.size (Nat.le_refl _))
              have HNEW := Lib.hid (HL3.out.ext (ext_fresh2 (F := [w3.heap.size]) (Ext.alloc w3 (.cells #[] 5)) (by simp)))
              go_wp2_with (at_builtin; go_must (refine wp_app (K := Kd.u8) et_u8 rfl _ _ (by rfl) (w3.alloc (.cells #[] 5)) w3.heap.size [w3.heap.size] (.slice (some ⟨w3.heap.size, 0, none⟩) 0 0) [] l _ _ (by rfl) (by rfl) HOE.out HNEW.out (by simp; omega) (by simp; omega) (by simp) ?_); intro v' w4 F' hown hk hk0 hF)
              have hn : (bit : Int) % (8 * (l.length : Int)) = ((bit % (8 * l.length) : Nat) : Int) := by simp
              have hnl : bit % (8 * l.length) < 8 * l.length := Nat.mod_lt _ (by omega)
              rw [hn]
              generalize bit % (8 * l.length) = n at *
              rw [List.nil_append] at hown
              obtain ⟨i, hiq⟩ : ∃ i : Nat, i = n / 8 := ⟨_, rfl⟩
              obtain ⟨r, hrq⟩ : ∃ r : Nat, r = n % 8 := ⟨_, rfl⟩
              have hi : i < l.length := by omega
              have hq : (n : Int) / 8 = (i : Int) := by omega
              have hr : (n : Int) % 8 = (r : Int) := by omega
              have hr8 : r < 8 := by omega
              obtain ⟨g2, c2, rfl, hg2F, hg2b, ⟨cs, hcs, hcell⟩, hfrz, hset⟩ := hown.at_ hi
              have hcell0 := hcell 0 _ (by rw [show cs = _ from hcs]; rfl)
              simp only [show Kd.u8.sz = 1 from rfl, Nat.mul_one, Nat.add_zero] at hcell0 hset hfrz hown
              have hf0 := hfrz i
              have HSET := Lib.hid hset
              have HOWN := Lib.hid hown
              have HK := Lib.hid hk
              have HK0 := Lib.hid hk0
              have h8 : l[i].toNat < 256 := UInt8.toNat_lt _
              clear hn hcell hset hown hk hk0 hfrz hcs hiq hrq
              have hsh : IntKind.u8.wrap (2 ^ r) = ((2 ^ r : Nat) : Int) := by
                have : r = 0 ∨ r = 1 ∨ r = 2 ∨ r = 3 ∨ r = 4 ∨ r = 5 ∨ r = 6 ∨ r = 7 := by omega
                rcases this with rfl | rfl | rfl | rfl | rfl | rfl | rfl | rfl <;> decide
              obtain ⟨hyne, hyx⟩ := flip_ne l[i] hr8
              have HYX := Lib.hid hyx
              have HNE := Lib.hid (sumS_set hi hyne)
              generalize UInt8.ofNat (l[i].toNat ^^^ 2 ^ r) = y at *
              have hown5 := HSET.out 0 (.int .u8 (y.toNat : Int)) y (by omega) (fun cs hcs _ => by
                have : cs = [.int .u8 (l[i].toNat : Int)] := hcs
                subst this
                rfl)
              rw [Nat.add_zero] at hown5
              have HOWN5 := Lib.hid hown5
              have HX5 := Lib.hid (HX3.out.trans (keep_ext0 (((ext_fresh2 (F := [w3.heap.size]) (Ext.alloc w3 (.cells #[] 5)) (by simp)).trans HK.out).trans (Keep.setCell F' w4 ⟨g2, i, none⟩ (.int .u8 (y.toNat : Int)) hg2F))))
              clear hyne hyx hown5
              go_region
              all_goals
                go_wp2_with fail
                rw [HYX.out]
                obtain ⟨-, hs5⟩ := HOWN5.out.to_sl (by rw [List.length_set]; omega)
                have hr5 := rows1 hs5 (by simp) 22
                rw [List.length_set] at hr5
                have e5 : (w4.setCell ⟨g2, i, none⟩ (.int .u8 (y.toNat : Int))).heap.size = w4.heap.size := by simp
                rw [e5] at hr5
                refine (sum_ok [] _ _ 1 [l.set i y] (hr5.ext ((Ext.drew _).keep []))).mono ?_
                rintro e w6 ⟨rfl, hw6⟩
                have HX6 := Lib.hid (show Ext w w6 from by rw [← hw6]; exact (HX5.out.trans (Ext.alloc _ _)).trans (Ext.drew _))
                rw [show [l.set i y].flatten = l.set i y from by simp]
                have hne : ((sumS (l.set i y) : Int) != (sumS l : Int)) = true := by
                  rw [bne_iff_ne]; have := HNE.out; omega
                clear hw6 hr5 hs5 e5
                go_wp2
                go_ret
                exact ⟨rfl, HX6.out⟩
          · have HSL := Lib.hid (rows2 (F := []) HL2.out (Sl.nil Kd.u8 [] w2 (some ⟨g, o + l.length, none⟩) (c - l.length)) (by simp) 22)
            have HFL := Lib.hid (show [l, []].flatten = l from by simp)
            have HLd := Lib.hid (HL2.out.ext ((Ext.drew w2).keep []))
            have hs1 : ((sumS l : Int) != (sumS l : Int)) = false := by simp
            clear h0
            go_wp2_with fail
            go_region_held3 (fun w' => True) (trivial) (first
              | (go_at_call 5; refine (refsum_ok [] _ _ _ l HLd.out).mono ?_; rintro e w' ⟨rfl, rfl⟩)
              | (go_at_call 4; refine (sum_ok [] _ _ 2 [l, []] (HSL.out.ext ((Ext.drew _).keep []))).mono ?_; rintro e w3 ⟨rfl, hw3⟩
                 rw [HFL.out]; have HX3 := Lib.hid (show Ext w w3 from HX2.out.trans (by rw [← hw3]; exact (Ext.alloc w2 _).trans (Ext.drew _))); clear hw3))
            all_goals
              have HL3 := Lib.hid (HL.out.ext (HX3.out.keep []))
              have hemp : ((l.length : Int) == 0) = false := by rw [beq_eq_false_iff_ne]; omega
              have HOE := Lib.hid (own_empty w3 w3.heap.size (Nat.le_refl _))
              have HNEW := Lib.hid (HL3.out.ext (ext_fresh2 (F := [w3.heap.size]) (Ext.alloc w3 (.cells #[] 5)) (by simp)))
              go_wp2_with (at_builtin; go_must (refine wp_app (K := Kd.u8) et_u8 rfl _ _ (by rfl) (w3.alloc (.cells #[] 5)) w3.heap.size [w3.heap.size] (.slice (some ⟨w3.heap.size, 0, none⟩) 0 0) [] l _ _ (by rfl) (by rfl) HOE.out HNEW.out (by simp; omega) (by simp; omega) (by simp) ?_); intro v' w4 F' hown hk hk0 hF)
              have hn : (bit : Int) % (8 * (l.length : Int)) = ((bit % (8 * l.length) : Nat) : Int) := by simp
              have hnl : bit % (8 * l.length) < 8 * l.length := Nat.mod_lt _ (by omega)
              rw [hn]
              generalize bit % (8 * l.length) = n at *
              rw [List.nil_append] at hown
              obtain ⟨i, hiq⟩ : ∃ i : Nat, i = n / 8 := ⟨_, rfl⟩
              obtain ⟨r, hrq⟩ : ∃ r : Nat, r = n % 8 := ⟨_, rfl⟩
              have hi : i < l.length := by omega
              have hq : (n : Int) / 8 = (i : Int) := by omega
              have hr : (n : Int) % 8 = (r : Int) := by omega
              have hr8 : r < 8 := by omega
              obtain ⟨g2, c2, rfl, hg2F, hg2b, ⟨cs, hcs, hcell⟩, hfrz, hset⟩ := hown.at_ hi
              have hcell0 := hcell 0 _ (by rw [show cs = _ from hcs]; rfl)
              simp only [show Kd.u8.sz = 1 from rfl, Nat.mul_one, Nat.add_zero] at hcell0 hset hfrz hown
              have hf0 := hfrz i
              have HSET := Lib.hid hset
              have HOWN := Lib.hid hown
              have HK := Lib.hid hk
              have HK0 := Lib.hid hk0
              have h8 : l[i].toNat < 256 := UInt8.toNat_lt _
              clear hn hcell hset hown hk hk0 hfrz hcs hiq hrq
              have hsh : IntKind.u8.wrap (2 ^ r) = ((2 ^ r : Nat) : Int) := by
                have : r = 0 ∨ r = 1 ∨ r = 2 ∨ r = 3 ∨ r = 4 ∨ r = 5 ∨ r = 6 ∨ r = 7 := by omega
                rcases this with rfl | rfl | rfl | rfl | rfl | rfl | rfl | rfl <;> decide
              obtain ⟨hyne, hyx⟩ := flip_ne l[i] hr8
              have HYX := Lib.hid hyx
              have HNE := Lib.hid (sumS_set hi hyne)
              generalize UInt8.ofNat (l[i].toNat ^^^ 2 ^ r) = y at *
              have hown5 := HSET.out 0 (.int .u8 (y.toNat : Int)) y (by omega) (fun cs hcs _ => by
                have : cs = [.int .u8 (l[i].toNat : Int)] := hcs
                subst this
                rfl)
              rw [Nat.add_zero] at hown5
              have HOWN5 := Lib.hid hown5
              have HX5 := Lib.hid (HX3.out.trans (keep_ext0 (((ext_fresh2 (F := [w3.heap.size]) (Ext.alloc w3 (.cells #[] 5)) (by simp)).trans HK.out).trans (Keep.setCell F' w4 ⟨g2, i, none⟩ (.int .u8 (y.toNat : Int)) hg2F))))
              clear hyne hyx hown5
              go_region
              all_goals
                go_wp2_with fail
                rw [HYX.out]
                obtain ⟨-, hs5⟩ := HOWN5.out.to_sl (by rw [List.length_set]; omega)
                have hr5 := rows1 hs5 (by simp) 22
                rw [List.length_set] at hr5
                have e5 : (w4.setCell ⟨g2, i, none⟩ (.int .u8 (y.toNat : Int))).heap.size = w4.heap.size := by simp
                rw [e5] at hr5
                refine (sum_ok [] _ _ 1 [l.set i y] (hr5.ext ((Ext.drew _).keep []))).mono ?_
                rintro e w6 ⟨rfl, hw6⟩
                have HX6 := Lib.hid (show Ext w w6 from by rw [← hw6]; exact (HX5.out.trans (Ext.alloc _ _)).trans (Ext.drew _))
                rw [show [l.set i y].flatten = l.set i y from by simp]
                have hne : ((sumS (l.set i y) : Int) != (sumS l : Int)) = true := by
                  rw [bne_iff_ne]; have := HNE.out; omega
                clear hw6 hr5 hs5 e5
                go_wp2
                go_ret
                exact ⟨rfl, HX6.out⟩
      · have hcl1 : cut < l.length := by omega
        clear hcc
        refine (sum_ok [] _ _ 1 [l] (rows1 HL1.out (by simp) _)).mono ?_
        rintro e w2 ⟨rfl, hw2⟩
        rw [show [l].flatten = l from by simp]
        have HX2 := Lib.hid (show Ext w w2 from HX0.out.trans (by rw [← hw2]; exact Ext.alloc _ _))
        have HL2 := Lib.hid (HL.out.ext (HX2.out.keep []))
        clear hw2
        by_cases h0 : l = []
        · exfalso
          rw [h0] at hcl1
          simp at hcl1
        · have hlp : 0 < l.length := List.length_pos_iff.2 h0
          obtain ⟨g, o, rfl, hg, -, -⟩ := HL2.out.2.2 hlp
          have hcap := HL2.out.1
          have hcl0 : cut ≤ l.length := by omega
          have eT : (l.take cut).length = cut := by rw [List.length_take]; omega
          have eD : (l.drop cut).length = l.length - cut := List.length_drop
          have HR := rows2 (F := []) (sl_take HL2.out cut) (sl_drop' HL2.out cut) (by simp) 22
          rw [eT, eD] at HR
          have hcl : ¬ c = cut := by omega
          have hb1 : (cut : Int) ≤ (c : Int) := by omega
          have hb2 : (cut : Int) ≤ (l.length : Int) := by omega
          have hb3 : cut ≤ c := by omega
          have hb0 : (0 : Int) ≤ (cut : Int) := by omega
          have hb4 : ¬ (cut : Int) < 0 := by omega
          have hb5 : ¬ (c : Int) < (cut : Int) := by omega
          have hb6 : ¬ c < cut := by omega
          rw [if_neg hcl] at HR
          have HSL := Lib.hid HR
          clear HR eT eD
          have HFL := Lib.hid (show [l.take cut, l.drop cut].flatten = l from by simp)
          have HLd := Lib.hid (HL2.out.ext ((Ext.drew w2).keep []))
          have hs1 : ((sumS l : Int) != (sumS l : Int)) = false := by simp
          clear h0
          go_wp2_with fail
          go_region_held3 (fun w' => True) (trivial) (first
            | (go_at_call 5; refine (refsum_ok [] _ _ _ l HLd.out).mono ?_; rintro e w' ⟨rfl, rfl⟩)
            | (go_at_call 4; refine (sum_ok [] _ _ 2 [l.take cut, l.drop cut] (HSL.out.ext ((Ext.drew _).keep []))).mono ?_; rintro e w3 ⟨rfl, hw3⟩
               rw [HFL.out]; have HX3 := Lib.hid (show Ext w w3 from HX2.out.trans (by rw [← hw3]; exact (Ext.alloc w2 _).trans (Ext.drew _))); clear hw3))
          all_goals
            have HL3 := Lib.hid (HL.out.ext (HX3.out.keep []))
            have hemp : ((l.length : Int) == 0) = false := by rw [beq_eq_false_iff_ne]; omega
            have HOE := Lib.hid (own_empty w3 w3.heap.size (Nat.le_refl _))
            have HNEW := Lib.hid (HL3.out.ext (ext_fresh2 (F := [w3.heap.size]) (Ext.alloc w3 (.cells #[] 5)) (by simp)))
            go_wp2_with (at_builtin; go_must (refine wp_app (K := Kd.u8) et_u8 rfl _ _ (by rfl) (w3.alloc (.cells #[] 5)) w3.heap.size [w3.heap.size] (.slice (some ⟨w3.heap.size, 0, none⟩) 0 0) [] l _ _ (by rfl) (by rfl) HOE.out HNEW.out (by simp; omega) (by simp; omega) (by simp) ?_); intro v' w4 F' hown hk hk0 hF)
            have hn : (bit : Int) % (8 * (l.length : Int)) = ((bit % (8 * l.length) : Nat) : Int) := by simp
            have hnl : bit % (8 * l.length) < 8 * l.length := Nat.mod_lt _ (by omega)
            rw [hn]
            generalize bit % (8 * l.length) = n at *
            rw [List.nil_append] at hown
            obtain ⟨i, hiq⟩ : ∃ i : Nat, i = n / 8 := ⟨_, rfl⟩
            obtain ⟨r, hrq⟩ : ∃ r : Nat, r = n % 8 := ⟨_, rfl⟩
            have hi : i < l.length := by omega
            have hq : (n : Int) / 8 = (i : Int) := by omega
            have hr : (n : Int) % 8 = (r : Int) := by omega
            have hr8 : r < 8 := by omega
            obtain ⟨g2, c2, rfl, hg2F, hg2b, ⟨cs, hcs, hcell⟩, hfrz, hset⟩ := hown.at_ hi
            have hcell0 := hcell 0 _ (by rw [show cs = _ from hcs]; rfl)
            simp only [show Kd.u8.sz = 1 from rfl, Nat.mul_one, Nat.add_zero] at hcell0 hset hfrz hown
            have hf0 := hfrz i
            have HSET := Lib.hid hset
            have HOWN := Lib.hid hown
            have HK := Lib.hid hk
            have HK0 := Lib.hid hk0
            have h8 : l[i].toNat < 256 := UInt8.toNat_lt _
            clear hn hcell hset hown hk hk0 hfrz hcs hiq hrq
            have hsh : IntKind.u8.wrap (2 ^ r) = ((2 ^ r : Nat) : Int) := by
              have : r = 0 ∨ r = 1 ∨ r = 2 ∨ r = 3 ∨ r = 4 ∨ r = 5 ∨ r = 6 ∨ r = 7 := by omega
              rcases this with rfl | rfl | rfl | rfl | rfl | rfl | rfl | rfl <;> decide
            obtain ⟨hyne, hyx⟩ := flip_ne l[i] hr8
            have HYX := Lib.hid hyx
            have HNE := Lib.hid (sumS_set hi hyne)
            generalize UInt8.ofNat (l[i].toNat ^^^ 2 ^ r) = y at *
            have hown5 := HSET.out 0 (.int .u8 (y.toNat : Int)) y (by omega) (fun cs hcs _ => by
              have : cs = [.int .u8 (l[i].toNat : Int)] := hcs
              subst this
              rfl)
            rw [Nat.add_zero] at hown5
            have HOWN5 := Lib.hid hown5
            have HX5 := Lib.hid (HX3.out.trans (keep_ext0 (((ext_fresh2 (F := [w3.heap.size]) (Ext.alloc w3 (.cells #[] 5)) (by simp)).trans HK.out).trans (Keep.setCell F' w4 ⟨g2, i, none⟩ (.int .u8 (y.toNat : Int)) hg2F))))
            clear hyne hyx hown5
            go_region
            all_goals
              go_wp2_with fail
              rw [HYX.out]
              obtain ⟨-, hs5⟩ := HOWN5.out.to_sl (by rw [List.length_set]; omega)
              have hr5 := rows1 hs5 (by simp) 22
              rw [List.length_set] at hr5
              have e5 : (w4.setCell ⟨g2, i, none⟩ (.int .u8 (y.toNat : Int))).heap.size = w4.heap.size := by simp
              rw [e5] at hr5
              refine (sum_ok [] _ _ 1 [l.set i y] (hr5.ext ((Ext.drew _).keep []))).mono ?_
              rintro e w6 ⟨rfl, hw6⟩
              have HX6 := Lib.hid (show Ext w w6 from by rw [← hw6]; exact (HX5.out.trans (Ext.alloc _ _)).trans (Ext.drew _))
              rw [show [l.set i y].flatten = l.set i y from by simp]
              have hne : ((sumS (l.set i y) : Int) != (sumS l : Int)) = true := by
                rw [bne_iff_ne]; have := HNE.out; omega
              clear hw6 hr5 hs5 e5
              go_wp2
              go_ret
              exact ⟨rfl, HX6.out⟩
end Go.Proofs.Ytbbhbgccmekheaa
