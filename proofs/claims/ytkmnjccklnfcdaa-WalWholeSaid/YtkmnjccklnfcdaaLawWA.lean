/- The statements on a log: few writes; a sector of one byte. The statements on a log: what all homes have; are they the same? The statements on a log: homes, with writes done. The statements on a log: the least log. -/
import Derived.Test.YtkmnjccklnfcdaaWal19
namespace Go.Proofs.Ytkmnjccklnfcdaa
open Go Go.RowKit Bst
set_option linter.unusedVariables false
set_option linter.unusedSimpArgs false
def fewW (ws : List (Int × List UInt8)) : Bool := decide (ws.length ≤ 10) && ws.all (fun x => decide (x.2.length ≤ 100))
set_option maxHeartbeats 1000000 in
theorem few_ok (w : World) (F : List Nat) (ws : List (Int × List UInt8)) (A : Option Addr) (c : Nat) (hs : Sl KApi F w A c ws) :
    Calls Try.prog 11 #[.slice A ws.length c] w fun e w' => e = .returned (.bool (fewW ws)) ∧ Ext w w' := by
  have HS := Lib.hid hs
  have hle := hs.len_le
  clear hs
  by_cases hl : ws.length ≤ 10
  · have t0 : decide ((10 : Int) < (ws.length : Int)) = false := decide_eq_false (by omega)
    have HF : Hid (fewW ws = ws.all (fun x => decide (x.2.length ≤ 100))) := by unfold Hid fewW; rw [decide_eq_true hl]; rfl
    go_enter Try.func11, Try.ntmps11
    go_wp2
    go_loopw [10] (fun iv wr => ∃ (k : Nat), k ≤ ws.length ∧ iv = .int .i64 (k : Int) ∧ Hid (Ext w wr) ∧ Hid ((ws.take k).all (fun x => decide (x.2.length ≤ 100)) = true)) (fun iv _ => ws.length - (intOf iv).toNat)
    case atStart => exact ⟨0, Nat.zero_le _, rfl, Ext.refl _, rfl⟩
    case round =>
      obtain ⟨k, hk, rfl, HX, HALL⟩ := hrel
      by_cases hlt : k < ws.length
      · obtain ⟨g, o, A2, c2, rfl, hg, hgF, k0, k1, hs8, hi⟩ := api_at (HS.out.ext (HX.out.keep F)) hlt
        have HT : Hid ((ws.take (k + 1)).all (fun x => decide (x.2.length ≤ 100)) = decide (ws[k].2.length ≤ 100)) := by
          unfold Hid; rw [List.take_succ_eq_append_getElem hlt, List.all_append, HALL.out]; simp
        have HM : Hid (ws[k] ∈ ws) := List.getElem_mem hlt
        have hl8 := hs8.len_le
        generalize ws[k] = x at *
        clear hs8
        by_cases hx : x.2.length ≤ 100
        · have t1 : decide ((100 : Int) < (x.2.length : Int)) = false := decide_eq_false (by omega)
          have HT2 : Hid ((ws.take (k + 1)).all (fun x => decide (x.2.length ≤ 100)) = true) := by rw [Hid, HT.out]; exact decide_eq_true hx
          clear hx
          go_wp2
          go_roundw
          case rel => exact ⟨k + 1, by omega, by go_num, HX.out.trans (Ext.alloc _ _), HT2.out⟩
          case measure => simp [intOf] <;> omega
        · have t1 : decide ((100 : Int) < (x.2.length : Int)) = true := decide_eq_true (by omega)
          have HR : Hid (fewW ws = false) := by
            rw [Hid, HF.out, List.all_eq_false]
            exact ⟨x, HM.out, by simpa using hx⟩
          clear hx
          go_wp2
          go_ret
          exact ⟨by rw [HR.out]; rfl, HX.out.trans (Ext.alloc _ _)⟩
      · obtain rfl : k = ws.length := by omega
        have HR : Hid (fewW ws = true) := by rw [Hid, HF.out]; have := HALL.out; rwa [List.take_length] at this
        go_wp2
        go_ret
        exact ⟨by rw [HR.out]; rfl, HX.out⟩
  · have t0 : decide ((10 : Int) < (ws.length : Int)) = true := decide_eq_true (by omega)
    have HR : Hid (fewW ws = false) := by unfold Hid fewW; rw [decide_eq_false hl]; rfl
    go_enter Try.func11, Try.ntmps11
    go_wp2
    go_ret
    exact ⟨by rw [HR.out]; rfl, Ext.refl _⟩
set_option maxRecDepth 100000 in
set_option maxHeartbeats 1000000 in
theorem fill_ok (w : World) (b : UInt8) :
    Calls Try.prog 56 #[.int .u8 (b.toNat : Int)] w fun e w' => ∃ g, e = .returned (.slice (some ⟨g, 0, none⟩) 64 64) ∧ Bst.Pre encU8 w' g (List.replicate 64 b) ∧ w.heap.size ≤ g ∧ Ext w w' := by
  have hmk := make64 w
  have hP := pre64 w
  have hx := Ext.alloc w (.cells z64.toArray 5)
  obtain ⟨g, hg⟩ : ∃ g, g = w.heap.size := ⟨_, rfl⟩
  generalize w.alloc (.cells z64.toArray 5) = w1 at *
  rw [← hg] at hmk hP
  have HP := Lib.hid hP
  have HX := Lib.hid hx
  have HG : Hid (w.heap.size ≤ g) := by unfold Hid; omega
  clear hP hx hg
  go_enter Try.func56, Try.ntmps56
  go_wp2
  go_loopw [8] (fun iv wr => ∃ (k : Nat), k ≤ 64 ∧ iv = .int .i64 (k : Int) ∧ Hid (Keep [g] w1 [g] wr) ∧ Hid (Bst.Pre encU8 wr g (List.replicate k b ++ zeros (64 - k)))) (fun iv _ => 64 - (intOf iv).toNat)
  case atStart => exact ⟨0, Nat.zero_le _, rfl, Keep.refl _ _, HP.out⟩
  case round =>
    obtain ⟨k, hk, rfl, HK, HPK⟩ := hrel
    by_cases hlt : k < 64
    · have hlen : (List.replicate k b ++ zeros (64 - k)).length = 64 := by simp [zeros]; omega
      have hc : wr.cell? ⟨g, k, none⟩ = some (.int .u8 0) := HPK.out.cell (by
        rw [List.getElem?_map, List.getElem?_append_right (by simp), List.length_replicate, Nat.sub_self]
        obtain ⟨m, hm⟩ : ∃ m, 64 - k = m + 1 := ⟨63 - k, by omega⟩
        rw [hm]; rfl)
      have hf := HPK.out.frozen k
      have hs := HPK.out.set (k := k) (by omega) b
      have e : (List.replicate k b ++ zeros (64 - k)).set k b = List.replicate (k + 1) b ++ zeros (64 - (k + 1)) := by
        rw [List.set_append, if_neg (by simp), List.length_replicate, Nat.sub_self, show 64 - k = (64 - (k + 1)) + 1 by omega, List.replicate_succ']
        simp [zeros, List.replicate_succ]
      rw [e] at hs
      have HS := Lib.hid hs
      have HK2 := Lib.hid (HK.out.trans (Keep.setCell [g] wr ⟨g, k, none⟩ (encU8 b) (by simp)))
      clear hs e hlen
      go_wp2
      go_roundw
      case rel => exact ⟨k + 1, by omega, by go_num, HK2.out, HS.out⟩
      case measure => simp [intOf] <;> omega
    · obtain rfl : k = 64 := by omega
      go_wp2
      go_ret
      exact ⟨g, rfl, by simpa [zeros] using HPK.out, HG.out, ((HX.out.fresh1 HG.out).trans HK.out).toExt⟩
end Go.Proofs.Ytkmnjccklnfcdaa
namespace Go.Proofs.Ytkmnjccklnfcdaa
open Go Go.RowKit Bst
set_option linter.unusedVariables false
set_option linter.unusedSimpArgs false
theorem et_secs : ET Try.prog 34 41 (.slice none 0 0) 1 24 := ⟨Try.underlying34, info_parts (by kernel_rfl), rfl, by decide⟩
set_option maxRecDepth 100000 in
set_option maxHeartbeats 1000000 in
theorem lhomes_ok (w : World) (F G : List Nat) (lb db : Nat) (d : Dsk) (l : Lg) (h : LogOn w F lb db d l) (ha : aliveS d l = 0) (hG : ∀ b ∈ G, b < w.heap.size) :
    Calls Try.prog 15 #[.pointer (some ⟨lb, 0, none⟩)] w fun e w' => ∃ A c, e = .returned (.tuple #[.slice A (d.now.drop (2 + l.size)).length c, .bool true]) ∧ Sl (Kd.slice Kd.u8) G w' A c (d.now.drop (2 + l.size)) ∧ Ext w w' := by
  have HL := Lib.hid h
  have HA := Lib.hid ha
  have HG := Lib.hid hG
  have hsz := h.size
  have hdl := h.disk.len
  have hok : d.Ok := by obtain ⟨_, _, _, h⟩ := h.disk; exact h.ok
  have HOK := Lib.hid hok
  obtain ⟨hn, hhn⟩ : ∃ hn, hn = homesS d.now l.size := ⟨_, rfl⟩
  have HHN := Lib.hid hhn.symm
  obtain ⟨H, hH⟩ : ∃ H, H = d.now.drop (2 + l.size) := ⟨_, rfl⟩
  have hHl : H.length = hn := by rw [hH, hhn, List.length_drop]; unfold homesS; omega
  have hnl : hn ≤ 16384 := by unfold homesS at hhn; omega
  have HHL := Lib.hid hHl
  have HHH := Lib.hid hH
  have HHD : Hid ((hn : Int) = (homesS d.now l.size : Int)) := by rw [Hid, hhn]
  rw [← hH]
  clear h ha hG hok hhn hH hHl
  go_enter Try.func15, Try.ntmps15
  go_wp2_with (go_at_call 22; refine (homes_at _ F db lb d l HL.out hn HHN.out).mono ?_; rintro e w1 ⟨rfl, hx⟩; have HX := Lib.hid hx; clear hx)
  go_loopw [4, 10] (fun ov iv wr => ∃ (k : Nat) (Fk : List Nat) (out : List Sec), k ≤ hn ∧ iv = .int .i64 (k : Int) ∧ Hid (out = H.take k) ∧ Hid (Own (Kd.slice Kd.u8) Fk wr w.heap.size 41 ov out) ∧ Hid (Ext w wr) ∧ Hid (∀ x ∈ G, x ∈ Fk) ∧ Hid (∀ x ∈ Fk, x < wr.heap.size)) (fun _ iv _ => hn - (intOf iv).toNat)
  case atStart => exact ⟨0, G, [], Nat.zero_le _, rfl, rfl, Own.nil _ _ _ _ _, HX.out, fun x hx => hx, fun x hx => Nat.lt_of_lt_of_le (HG.out x hx) HX.out.size⟩
  case round =>
    obtain ⟨k, Fk, out, hk, rfl, HOE, HOUT, HX0, HGF, HFK⟩ := hrel
    have hol : out.length ≤ 16384 := by rw [HOE.out, List.length_take]; omega
    by_cases hlt : k < hn
    · have hkl : k < H.length := by rw [HHL.out]; exact hlt
      obtain ⟨r1, r2, r3, r4⟩ := readS_spec HOK.out hsz.2 HA.out (by omega : (0 : Int) ≤ (k : Int)) (by rw [← HHD.out]; omega)
      have e1 : d.now.getD (2 + l.size + (k : Int).toNat) [] = H[k] := by
        have h1 : H[k]? = d.now[2 + l.size + k]? := by rw [HHH.out, List.getElem?_drop]
        rw [List.getElem?_eq_getElem hkl] at h1
        rw [Int.toNat_natCast, List.getD_eq_getElem?_getD, ← h1]; rfl
      rw [e1] at r1 r2
      have HT : Hid (H.take (k + 1) = out ++ [H[k]]) := by rw [Hid, List.take_succ_eq_append_getElem hkl, HOE.out]
      have HR := Lib.hid r1
      have HR2 := Lib.hid r2
      have HL0 := Lib.hid (HL.out.ext HX0.out)
      generalize H[k] = s at *
      clear r1 r2 r3 r4 e1
      go_wp2_with fail
      refine (lread_ok wr F lb db d l HL0.out (k : Int)).mono ?_
      rw [HR.out]
      rintro e w2 ⟨A, c, rfl, hs2, hA, hx2⟩
      have hgF : Sl Kd.u8 Fk w2 A c s := by
        have hs3 : Sl Kd.u8 [] w2 A c s := hs2.ext (Keep.nil w2)
        exact sl_reF hs3 (fun _ g o e hm => by have h1 := hA g o e; have h2 := HFK.out g hm; omega) (fun cs x h _ => h)
      have HRR : Hid ((Kd.slice Kd.u8).R Fk w2 [.slice A s.length c] s) := ⟨A, c, rfl, hgF⟩
      have HX2 := Lib.hid hx2
      have HOU2 := Lib.hid (HOUT.out.ext_ hx2)
      have HF2 : Hid (∀ x ∈ Fk, x < w2.heap.size) := fun x hx => Nat.lt_of_lt_of_le (HFK.out x hx) hx2.size
      have HSZ : Hid (w.heap.size ≤ w2.heap.size) := (HX0.out.trans hx2).size
      clear hs2 hA hx2 hgF
      go_wp2_with (at_builtin; go_must (refine wp_app1 (K := Kd.slice Kd.u8) et_secs rfl _ _ (by rfl) w2 [.slice A s.length c] w.heap.size Fk _ out s (by rfl) (by rfl) rfl HOU2.out HRR.out HF2.out (by omega) (by omega) HSZ.out ?_); intro v' w4 F' hown hk' hk0 hF hFF; have HOW := Lib.hid hown; have HK := Lib.hid hk'; have HK0 := Lib.hid hk0; have HF3 := Lib.hid hF; have HFF2 := Lib.hid hFF; clear hown hk' hk0 hF hFF)
      have HXE : Hid (Ext w w4) := by
        have hb : ∀ b ∈ u4.ownBlock.toList, w.heap.size ≤ b := fun b hb => (HOUT.out.lt b (by simpa using hb)).1
        exact (((HX0.out.trans HX2.out).keep _).trans HK0.out).ext hb
      go_roundw
      case rel => exact ⟨k + 1, F', out ++ [s], by omega, by go_num, HT.out.symm, HOW.out, HXE.out, fun x hx => HFF2.out x (HGF.out x hx), HF3.out⟩
      case measure => simp [intOf] <;> omega
    · obtain rfl : k = hn := by omega
      have HTH : Hid (out = H) := by rw [Hid, HOE.out, List.take_of_length_le (by rw [HHL.out]; exact Nat.le_refl _)]
      have ho := HOUT.out
      rw [HTH.out] at ho
      obtain ⟨A', c', rfl, hs⟩ := ho.form (by rw [HHL.out]; omega)
      have HSR := Lib.hid (hs G (fun b hb => ⟨HGF.out b hb, fun e => by have := (ho.lt b e).1; have := HG.out b hb; omega⟩))
      clear ho hs
      go_wp2
      go_ret2
      exact ⟨A', c', rfl, HSR.out, HX0.out⟩
theorem same_ok2 (F F2 : List Nat) (w : World) (A B : Option Addr) (c d : Nat) (la lb : List UInt8) (ha : Sl Kd.u8 F w A c la) (hb : Sl Kd.u8 F2 w B d lb) :
    Calls Try.prog 32 #[.slice A la.length c, .slice B lb.length d] w fun e w' => e = .returned (.bool (decide (la = lb))) ∧ Ext w w' := by
  refine (same_ok [] w A B c d la lb (ha.ext (Keep.nil w)) (hb.ext (Keep.nil w))).mono ?_
  rintro e w' ⟨rfl, n, rfl⟩
  exact ⟨rfl, Ext.drewN w n⟩
set_option maxRecDepth 100000 in
set_option maxHeartbeats 1000000 in
theorem lsame_ok (w : World) (F F2 : List Nat) (A B : Option Addr) (c c' : Nat) (la lb : List Sec) (ha : Sl (Kd.slice Kd.u8) F w A c la) (hb : Sl (Kd.slice Kd.u8) F2 w B c' lb) (m n : Nat) (hm : la.length = m) (hn : lb.length = n) :
    Calls Try.prog 17 #[.slice A m c, .slice B n c'] w fun e w' => e = .returned (.bool (decide (la = lb))) ∧ Ext w w' := by
  subst hm; subst hn
  have h1 := ha.len_le
  have h2 := hb.len_le
  have HSA := Lib.hid ha
  have HSB := Lib.hid hb
  clear ha hb
  by_cases hl : la.length = lb.length
  · have HLL := Lib.hid hl
    have t0 : ((la.length : Int) != (lb.length : Int)) = false := by simp [hl]
    have hl1 : la.length ≤ lb.length := by omega
    clear hl
    go_enter Try.func17, Try.ntmps17
    go_wp2
    go_loopw [13] (fun iv wr => ∃ (k : Nat), k ≤ la.length ∧ iv = .int .i64 (k : Int) ∧ Hid (Ext w wr) ∧ Hid (la.take k = lb.take k)) (fun iv _ => la.length - (intOf iv).toNat)
    case atStart => exact ⟨0, Nat.zero_le _, rfl, Ext.refl _, rfl⟩
    case round =>
      obtain ⟨k, hk, rfl, HX, HT⟩ := hrel
      by_cases hlt : k < la.length
      · have hlt2 : k < lb.length := by omega
        obtain ⟨g, o, A2, c2, rfl, k0, s0⟩ := Sl.row_at (HSA.out.ext (HX.out.keep F)) hlt
        obtain ⟨g', o', A3, c3, rfl, k1, s1⟩ := Sl.row_at (HSB.out.ext (HX.out.keep F2)) hlt2
        have ht := take_eq_iff k HLL.out hlt HT.out
        have HTT := Lib.hid ht
        have HNE : Hid (la[k] ≠ lb[k] → la ≠ lb) := fun hne e => hne (by subst e; rfl)
        have HS0 := Lib.hid (s0.ext ((Ext.drew wr).keep _))
        have HS1 := Lib.hid (s1.ext ((Ext.drew wr).keep _))
        have q0 := ((Ext.drew wr).keep []).cell_some k0 (by simp)
        have q1 := ((Ext.drew wr).keep []).cell_some k1 (by simp)
        have Q0 := Lib.hid q0
        have Q1 := Lib.hid q1
        generalize la[k] = x at *
        generalize lb[k] = y at *
        clear s0 s1 ht q0 q1
        by_cases he : x = y
        · have HD : Hid (decide (x = y) = true) := decide_eq_true he
          have HT2 := Lib.hid (HTT.out.2 he)
          clear he
          go_wp2
          go_region_held3 (fun w' => w'.cell? ⟨g, o + k, none⟩ = some (.slice A2 x.length c2) ∧ w'.cell? ⟨g', o' + k, none⟩ = some (.slice A3 y.length c3)) (first | go_keep | exact ⟨z0, z1⟩) ((go_at_call 32; refine (same_ok2 F F2 _ A2 A3 c2 c3 x y HS0.out HS1.out).mono ?_; rw [HD.out]; rintro e w3 ⟨rfl, hx3⟩; have z0 := (hx3.keep []).cell_some Q0.out (by simp); have z1 := (hx3.keep []).cell_some Q1.out (by simp); have HX3 := Lib.hid ((HX.out.trans (Ext.drew _)).trans hx3); clear hx3))
          go_wp2
          go_roundw
          case rel => exact ⟨k + 1, by omega, by go_num, HX3.out, HT2.out⟩
          case measure => simp [intOf] <;> omega
        · have HD : Hid (decide (x = y) = false) := decide_eq_false he
          have HR : Hid (decide (la = lb) = false) := decide_eq_false (HNE.out he)
          clear he
          go_wp2
          go_region_held3 (fun w' => w'.cell? ⟨g, o + k, none⟩ = some (.slice A2 x.length c2) ∧ w'.cell? ⟨g', o' + k, none⟩ = some (.slice A3 y.length c3)) (first | go_keep | exact ⟨z0, z1⟩) ((go_at_call 32; refine (same_ok2 F F2 _ A2 A3 c2 c3 x y HS0.out HS1.out).mono ?_; rw [HD.out]; rintro e w3 ⟨rfl, hx3⟩; have z0 := (hx3.keep []).cell_some Q0.out (by simp); have z1 := (hx3.keep []).cell_some Q1.out (by simp); have HX3 := Lib.hid ((HX.out.trans (Ext.drew _)).trans hx3); clear hx3))
          go_wp2
          go_ret
          exact ⟨by rw [HR.out]; rfl, HX3.out⟩
      · have HR : Hid (decide (la = lb) = true) := decide_eq_true (by
          have := HT.out
          rwa [List.take_of_length_le (by omega), List.take_of_length_le (by have := HLL.out; omega)] at this)
        go_wp2
        go_ret
        exact ⟨by rw [HR.out]; rfl, HX.out⟩
  · have t0 : ((la.length : Int) != (lb.length : Int)) = true := by simp; omega
    have HR : Hid (decide (la = lb) = false) := decide_eq_false (fun e => hl (by rw [e]))
    clear hl
    go_enter Try.func17, Try.ntmps17
    go_wp2
    go_ret
    exact ⟨by rw [HR.out]; rfl, Ext.refl _⟩
end Go.Proofs.Ytkmnjccklnfcdaa
namespace Go.Proofs.Ytkmnjccklnfcdaa
open Go Go.RowKit Bst
set_option linter.unusedVariables false
set_option linter.unusedSimpArgs false
theorem own_emptyL (w : World) (F : List Nat) (e : TypeId) (hF : w.heap.size ∈ F) : Own (Kd.slice Kd.u8) F (w.alloc (.cells #[] e)) w.heap.size e (.slice (some ⟨w.heap.size, 0, none⟩) 0 0) [] := by
  refine ⟨⟨[], ⟨by simp, .inr ⟨w.heap.size, 0, #[], rfl, Nat.le_refl _, heap_alloc_new w _, Nat.le_refl _, by simp [maxLen], by simp, by simp⟩⟩, rfl⟩, fun g hg => ?_⟩
  simp [Value.ownBlock] at hg
  rw [← hg]; exact hF
set_option maxRecDepth 100000 in
set_option maxHeartbeats 1000000 in
theorem ldone_ok (w : World) (G : List Nat) (A B : Option Addr) (c c' : Nat) (la : List Sec) (ws : List (Int × Sec)) (ha : Sl (Kd.slice Kd.u8) G w A c la) (hb : Sl KApi G w B c' ws) (hG : ∀ b ∈ G, b < w.heap.size) (hr : ∀ x ∈ ws, 0 ≤ x.1 ∧ x.1 < la.length) (hl : la.length ≤ 100000) (hw : ws.length ≤ 100000) :
    Calls Try.prog 18 #[.slice A la.length c, .slice B ws.length c'] w fun e w' => ∃ A' c2, e = .returned (.slice A' (applyW la ws).length c2) ∧ Sl (Kd.slice Kd.u8) G w' A' c2 (applyW la ws) ∧ Ext w w' := by
  have HSA := Lib.hid ha
  have HSB := Lib.hid hb
  have HG := Lib.hid hG
  have HR := Lib.hid hr
  clear ha hb hG hr
  have hx0 := Ext.alloc w (.cells #[] 41)
  have HOE : Hid (Own (Kd.slice Kd.u8) (w.heap.size :: G) (w.alloc (.cells #[] 41)) w.heap.size 41 (.slice (some ⟨w.heap.size, 0, none⟩) 0 0) []) := own_emptyL w _ _ (by simp)
  have hk0 : Keep G w (w.heap.size :: G) (w.alloc (.cells #[] 41)) := ⟨hx0.os, hx0.tape, hx0.output, hx0.size, fun k hk _ => hx0.block k hk (by simp), fun b hb => by
    rcases List.mem_cons.1 hb with e | e
    · exact .inr (by rw [e]; exact Nat.le_refl _)
    · exact .inl e⟩
  have HSN : Hid (Sl (Kd.slice Kd.u8) (w.heap.size :: G) (w.alloc (.cells #[] 41)) A c la) := HSA.out.ext hk0
  have HK0 := Lib.hid hk0
  clear hx0 hk0
  go_enter Try.func18, Try.ntmps18
  go_wp2_with (at_builtin; go_must (refine wp_app (K := Kd.slice Kd.u8) et_secs rfl _ _ (by rfl) (w.alloc (.cells #[] 41)) w.heap.size (w.heap.size :: G) _ [] la A c (by rfl) (by rfl) HOE.out HSN.out (by simp; omega) (by simp; omega) (by simp) ?_); intro v' w1 F1 hown hk hk0 hF; have HOW := Lib.hid hown; have HK1 := Lib.hid (HK0.out.trans hk); have HK2 := Lib.hid hk0; have HF1 := Lib.hid hF; clear hown hk hk0 hF)
  have HXE : Hid (Ext w w1) := (((Ext.alloc w (.cells #[] 41)).keep [w.heap.size]).trans HK2.out.1).ext (by simp)
  have HLT : Hid (∀ x ∈ F1, x < w1.heap.size) := HK2.out.2 (fun b hb => by
    rcases List.mem_cons.1 hb with e | e
    · rw [e]; simp
    · have := HG.out b e; simp; omega)
  have HFG : Hid (∀ x ∈ G, x ∈ F1) := fun x hx => HF1.out x (List.mem_cons_of_mem _ hx)
  have ho := HOW.out
  rw [List.nil_append] at ho
  obtain ⟨Av, cv, hv0, -⟩ := ho.form (by omega)
  subst hv0
  have HO1 := Lib.hid ho
  have HVB : Hid (∀ g, (Value.slice Av la.length cv).ownBlock = some g → w.heap.size ≤ g ∧ g ∈ F1) := fun g hg => ⟨(ho.lt g hg).1, ho.2 g hg⟩
  clear ho HOW
  go_loopw [13] (fun iv wr => ∃ (k : Nat), k ≤ ws.length ∧ iv = .int .i64 (k : Int) ∧ Hid (Own (Kd.slice Kd.u8) F1 wr w.heap.size 41 (.slice Av la.length cv) (applyW la (ws.take k))) ∧ Hid (Keep (Value.slice Av la.length cv).ownBlock.toList w1 (Value.slice Av la.length cv).ownBlock.toList wr)) (fun iv _ => ws.length - (intOf iv).toNat)
  case atStart => exact ⟨0, Nat.zero_le _, rfl, HO1.out, Keep.refl _ _⟩
  case round =>
    obtain ⟨k, hk, rfl, HOK, HKK⟩ := hrel
    by_cases hlt : k < ws.length
    · have hKf : Keep G w F1 wr := HK1.out.trans (HKK.out.widen (fun b hb => (HVB.out b (by simpa using hb)).2))
      obtain ⟨g, o, A2, c2, rfl, hg, hgF, k0, k1, hs8, hi⟩ := api_at (HSB.out.ext hKf) hlt
      obtain ⟨r0, r1⟩ := HR.out ws[k] (List.getElem_mem hlt)
      have HT : Hid (applyW la (ws.take (k + 1)) = (applyW la (ws.take k)).set ws[k].1.toNat ws[k].2) := by
        rw [Hid, List.take_succ_eq_append_getElem hlt, applyW_snoc]; rfl
      have hlen : (applyW la (ws.take k)).length = la.length := applyW_length _ _
      generalize ws[k] = x at *
      generalize applyW la (ws.take k) = L at *
      obtain ⟨m, hm⟩ : ∃ m, m = x.1.toNat := ⟨_, rfl⟩
      have hxm : x.1 = (m : Int) := by omega
      have hml : m < L.length := by omega
      obtain ⟨gv, cv', hv, hgvF, hgvb, ⟨cs, hcs, hcell⟩, hfz, hset⟩ := HOK.out.at_ hml
      obtain ⟨A9, c9, rfl, h9⟩ := hcs
      have HS8 := Lib.hid hs8
      have q0 : wr.cell? ⟨gv, m, none⟩ = some (.slice A9 L[m].length c9) := by simpa [Kd.slice] using hcell 0 _ rfl
      have qf := hfz m
      have HX1 : Hid (x.1 = (m : Int)) := hxm
      have HM := Lib.hid hm
      have HLEN := Lib.hid hlen
      have hb1 : (m : Int) < (la.length : Int) := by omega
      injection hv with hv1 hv2 hv3
      subst hv1
      have hs9 : Sl Kd.u8 F1 (wr.setCell ⟨gv, m * 1 + 0, none⟩ (.slice A2 x.2.length c2)) A2 c2 x.2 := HS8.out.ext (Keep.setCell F1 _ _ _ hgvF)
      have hown := hset 0 (.slice A2 x.2.length c2) x.2 (by show 0 < 1; decide) (fun cs hcs _ => by
        obtain ⟨A8, c8, rfl, _⟩ := hcs
        exact ⟨A2, c2, rfl, hs9⟩)
      rw [show m * (Kd.slice Kd.u8).sz + 0 = m from Nat.mul_one m] at hown
      have HOWN := Lib.hid (hown.alloc (.cells #[.int .i64 (m : Int), .slice A2 x.2.length c2] 100))
      have HKS : Hid (Keep (Value.slice (some ⟨gv, 0, none⟩) la.length cv).ownBlock.toList wr (Value.slice (some ⟨gv, 0, none⟩) la.length cv).ownBlock.toList ((wr.setCell ⟨gv, m, none⟩ (.slice A2 x.2.length c2)).alloc (.cells #[.int .i64 (m : Int), .slice A2 x.2.length c2] 100))) := (Keep.setCell _ _ _ _ (by simp [Value.ownBlock])).trans ((Ext.alloc _ _).keep _)
      clear hs9 hown
      have HGB := Lib.hid hgvb
      have hglt := World.block_lt_of_cell? wr _ q0
      have hne := World.new_ne wr _ q0
      clear hs8 hv2 hv3 hcell hfz hset hm hlen hKf h9 hi r0 r1
      rw [hxm] at k0
      clear hxm
      go_wp2
      go_roundw
      case rel => exact ⟨k + 1, by omega, by go_num, by rw [HT.out, ← HM.out]; exact HOWN.out, HKK.out.trans HKS.out⟩
      case measure => simp [intOf] <;> omega
    · obtain rfl : k = ws.length := by omega
      have ho := HOK.out
      rw [List.take_length] at ho
      have HXR : Hid (Ext w wr) := ((HXE.out.keep _).trans HKK.out).ext (fun b hb => (HVB.out b (by simpa using hb)).1)
      obtain ⟨A', c2, he, hs⟩ := ho.form (by rw [applyW_length]; omega)
      have HSR := Lib.hid (hs G (fun b hb => ⟨HFG.out b hb, fun e => by have := (ho.lt b e).1; have := HG.out b hb; omega⟩))
      have HHE := Lib.hid he
      clear ho hs he
      go_wp2
      go_ret
      exact ⟨A', c2, by rw [← HHE.out]; rfl, HSR.out, HXR.out⟩
end Go.Proofs.Ytkmnjccklnfcdaa
namespace Bst
set_option linter.unusedVariables false
/-- What is new since w0, and what may change. -/
structure Fresh (w0 : Go.World) (F : List Nat) (w : Go.World) : Prop where
  ext : Ext w0 w
  new : ∀ b ∈ F, w0.heap.size ≤ b
theorem Fresh.step {w0 w w' : Go.World} {F F' : List Nat} (h : Fresh w0 F w) (k : Keep F w F' w') : Fresh w0 F' w' :=
  ⟨((h.ext.keep F).trans k).ext h.new, fun b hb => by
    rcases k.fresh b hb with h1 | h1
    · exact h.new b h1
    · exact Nat.le_trans h.ext.size h1⟩
theorem Fresh.more {w0 w w' : Go.World} {F : List Nat} (h : Fresh w0 F w) (k : Ext w w') : Fresh w0 F w' := ⟨h.ext.trans k, h.new⟩
theorem Fresh.sub {w0 w : Go.World} {F F' : List Nat} (h : Fresh w0 F w) (hs : ∀ b ∈ F', b ∈ F) : Fresh w0 F' w := ⟨h.ext, fun b hb => h.new b (hs b hb)⟩
theorem Fresh.cons {w0 w : Go.World} {F : List Nat} (h : Fresh w0 F w) {b : Nat} (hb : w0.heap.size ≤ b) : Fresh w0 (b :: F) w := ⟨h.ext, fun x hx => by
  rcases List.mem_cons.1 hx with e | e
  · rw [e]; exact hb
  · exact h.new x e⟩
def aD1 : Dsk := (formatS (Dsk.new 6) 3).2
def aL : Lg := ⟨3, 4, 1, 0, 0, 0⟩
def aD2 : Dsk := (openS aD1).2.1
def five : Sec := List.replicate 64 5
def aD3 : Dsk := (commitS aD2 aL [(0, five)]).2.1
def aL3 : Lg := (commitS aD2 aL [(0, five)]).2.2
theorem aw_format : (formatS (Dsk.new 6) 3).1 = 0 := by kernel_rfl
theorem aw_open : openS aD1 = (0, aD2, some aL) := by kernel_rfl
theorem aw_homes : homesS aD2.now aL.size = 1 := by kernel_rfl
theorem aw_commit : (commitS aD2 aL [(0, five)]).1 = 0 := by kernel_rfl
theorem aw_left : aL3.size - aL3.used = 0 := by kernel_rfl
theorem aw_read : readS aD3 aL3 0 = (five, 0) := by kernel_rfl
theorem aw_size : aL3.used = aL3.size := by kernel_rfl
theorem aw_waits : (Dsk.new 6).wait.length = 0 ∧ aD1.wait.length = 0 ∧ aD2.wait.length = 0 ∧ aL3.size = 3 := ⟨by kernel_rfl, by kernel_rfl, by kernel_rfl, by kernel_rfl⟩
end Bst
namespace Go.Proofs.Ytkmnjccklnfcdaa
open Go Go.RowKit Bst
set_option linter.unusedVariables false
set_option linter.unusedSimpArgs false
theorem fill5_ok (w : World) : Calls Try.prog 56 #[.int .u8 5] w fun e w' => ∃ g, e = .returned (.slice (some ⟨g, 0, none⟩) 64 64) ∧ Bst.Pre encU8 w' g five ∧ w.heap.size ≤ g ∧ Ext w w' := fill_ok w 5
theorem same_at (F F2 : List Nat) (w : World) (A B : Option Addr) (c d : Nat) (la lb : List UInt8) (ha : Sl Kd.u8 F w A c la) (hb : Sl Kd.u8 F2 w B d lb) (m n : Nat) (hm : la.length = m) (hn : lb.length = n) (x : Bool) (hx : decide (la = lb) = x) :
    Calls Try.prog 32 #[.slice A m c, .slice B n d] w fun e w' => e = .returned (.bool x) ∧ Ext w w' := by
  subst hm; subst hn; subst hx
  exact same_ok2 F F2 w A B c d la lb ha hb
theorem five_length : five.length = 64 := by kernel_rfl
theorem LogOn.of_open {w w' : World} {F : List Nat} {db : Nat} {r : Int × Dsk × Option Lg} {e : Ending} (h : OpenR F w db r e w') {n : Int} {d : Dsk} {l : Lg} (hr : r = (n, d, some l)) : ∃ lb F', e = .returned (.tuple #[.pointer (some ⟨lb, 0, none⟩), .int .i64 0]) ∧ LogOn w' F' lb db d l ∧ w.heap.size ≤ lb ∧ Keep F w F' w' ∧ (∀ x ∈ F, x ∈ F') := by
  subst hr
  obtain ⟨F', h1, h2, h3, -, h5⟩ := h
  obtain ⟨lb, he, hl, hg⟩ := h5 l rfl
  exact ⟨lb, F', he, hl, hg, h2, h3⟩
set_option maxRecDepth 100000 in
set_option maxHeartbeats 2000000 in
theorem awake_ok (w : World) : Calls Try.prog 10 #[] w fun e w' => e = .returned (.bool true) ∧ Ext w w' := by
  go_enter Try.func10, Try.ntmps10
  go_wp2_with fail
  refine (new_ok w 6 (by omega) (by omega)).mono ?_
  rintro e w1 ⟨db, F1, rfl, hd1, hf1, hx1⟩
  have HD1 := Lib.hid hd1
  have HF1 : Hid (Fresh w F1 w1) := ⟨hx1, hf1⟩
  clear hd1 hf1 hx1
  go_wp2_with fail
  refine (format_ok w1 F1 db (Dsk.new 6) HD1.out 3 ⟨by omega, by show 3 + 3 ≤ (List.replicate 6 _).length; simp⟩ (by rw [aw_waits.1]; omega)).mono ?_
  rw [show formatS (Dsk.new 6) ((3 : Nat) : Int) = formatS (Dsk.new 6) 3 from rfl, aw_format]
  rintro e w2 ⟨rfl, F2, h1, h2, h3⟩
  have HD2 : Hid (DiskAt w2 F2 db aD1) := h1
  have HF2 := Lib.hid (HF1.out.step h2)
  clear h1 h2 h3
  go_wp2_with fail
  refine (open_ok w2 F2 db aD1 HD2.out (by rw [aw_waits.2.1]; omega)).mono ?_
  intro e w3 h
  obtain ⟨lb, F3, rfl, hl3, hlb, hk3, -⟩ := LogOn.of_open h aw_open
  have HL3 := Lib.hid hl3
  have HF3 := Lib.hid ((HF2.out.step hk3).cons (Nat.le_trans HF2.out.ext.size hlb))
  clear h hl3 hlb hk3
  go_wp2_with fail
  refine (homes_at w3 F3 db lb aD2 aL HL3.out 1 aw_homes).mono ?_
  rintro e w4 ⟨rfl, hx4⟩
  have HL4 := Lib.hid (HL3.out.ext hx4)
  have HF4 := Lib.hid (HF3.out.more hx4)
  clear hx4
  go_wp2_with fail
  refine (base_ok w4 lb db aL HL4.out.log).mono ?_
  rintro e w' ⟨rfl, rfl⟩
  have hb4 : ((aL.base : Int)) = 4 := rfl
  rw [hb4]
  clear hb4
  go_wp2_with fail
  refine (fill5_ok w4).mono ?_
  rintro e w5 ⟨g, rfl, hp5, hg5, hx5⟩
  have HL5 := Lib.hid (HL4.out.ext hx5)
  have HF5 := Lib.hid (HF4.out.more hx5)
  have hgn : g ∉ lb :: F3 := fun hm => by
    rcases List.mem_cons.1 hm with e | e
    · have := HL4.out.lt; omega
    · have := HL4.out.disk.lt g e; omega
  have hlt5 : ∀ b ∈ lb :: F3, b < w5.heap.size := fun b hb => by
    rcases List.mem_cons.1 hb with e | e
    · rw [e]; exact HL5.out.lt
    · exact HL5.out.disk.lt b e
  have hs5 : Sl Kd.u8 (lb :: F3) w5 (some ⟨g, 0, none⟩) 64 five := Pre.sl8 hp5 hgn (by rw [five_length]; omega) (by rw [five_length]; omega)
  have hR : KApi.R (lb :: F3) w5 [.int .i64 0, .slice (some ⟨g, 0, none⟩) 64 64] (0, five) := ⟨[_], [_], rfl, ⟨rfl, InI64.of (by omega) (by omega)⟩, ⟨some ⟨g, 0, none⟩, 64, by rw [five_length], hs5⟩⟩
  have HW : Hid (Sl KApi (lb :: F3) (w5.alloc (.cells #[.int .i64 0, .slice (some ⟨g, 0, none⟩) 64 64] 100)) (some ⟨w5.heap.size, 0, none⟩) 1 [(0, five)]) := Sl.single (e := 100) hR hlt5
  clear hp5 hx5 hs5 hR hlt5 hgn
  go_wp2_with fail
  have HL6 := Lib.hid (HL5.out.ext (Ext.alloc w5 (.cells #[.int .i64 0, .slice (some ⟨g, 0, none⟩) 64 64] 100)))
  have HF6 := Lib.hid (HF5.out.more (Ext.alloc w5 (.cells #[.int .i64 0, .slice (some ⟨g, 0, none⟩) 64 64] 100)))
  refine (commit_ok _ F3 lb db aD2 aL HL6.out [(0, five)] (some ⟨w5.heap.size, 0, none⟩) 1 HW.out (by rw [aw_waits.2.2.1]; omega) (by simp) (by show 0 < 1000000000; omega)).mono ?_
  rintro e w7 ⟨rfl, F7, h1, h2, h3⟩
  have HL7 : Hid (LogOn w7 F7 lb db aD3 aL3) := h1
  have HF7 := Lib.hid (HF6.out.step h2)
  rw [aw_commit]
  clear h1 h2 h3 HL6 HF6 HW
  go_wp2_with fail
  refine (lread_ok w7 F7 lb db aD3 aL3 HL7.out 0).mono ?_
  rw [aw_read]
  rintro e w8 ⟨A, c, rfl, hs8, -, hx8⟩
  rw [show (five, (0 : Int)).1.length = 64 from five_length]
  have HS8 := Lib.hid hs8
  have HL8 := Lib.hid (HL7.out.ext hx8)
  have HF8 := Lib.hid (HF7.out.more hx8)
  clear hs8 hx8
  go_wp2_with fail
  refine (fill5_ok w8).mono ?_
  rintro e w9 ⟨g9, rfl, hp9, hg9, hx9⟩
  have HS9 := Lib.hid (HS8.out.ext (hx9.keep F7))
  have HP9 : Hid (Sl Kd.u8 [] w9 (some ⟨g9, 0, none⟩) 64 five) := Pre.sl8 hp9 (by simp) (by rw [five_length]; omega) (by rw [five_length]; omega)
  have HL9 := Lib.hid (HL8.out.ext hx9)
  have HF9 := Lib.hid (HF8.out.more hx9)
  clear hp9 hg9 hx9
  go_wp2_with fail
  refine (same_at F7 [] w9 A (some ⟨g9, 0, none⟩) c 64 five five HS9.out HP9.out 64 64 five_length five_length true (by simp)).mono ?_
  rintro e w10 ⟨rfl, hx10⟩
  have HL10 := Lib.hid (HL9.out.ext hx10)
  have HF10 := Lib.hid (HF9.out.more hx10)
  clear hx10
  go_wp2_with fail
  refine (left_ok w10 lb db aL3 HL10.out.log (by rw [aw_size]; exact Nat.le_refl _) (by rw [aw_waits.2.2.2]; omega)).mono ?_
  rw [aw_left]
  rintro e w11 ⟨rfl, hx11⟩
  have HF11 := Lib.hid (HF10.out.more hx11)
  clear hx11
  go_wp2
  go_ret
  exact ⟨rfl, HF11.out.ext⟩
end Go.Proofs.Ytkmnjccklnfcdaa
