/- A log: Read; a transaction's entries. A log: a transaction's entries. -/
import Derived.Test.YtkmnjccklnfcdaaWalD
namespace Go.Proofs.Ytkmnjccklnfcdaa
open Go Go.RowKit Bst
set_option linter.unusedVariables false
set_option linter.unusedSimpArgs false
/-- What a reading answers. -/
def ReadR (F : List Nat) (w : World) (r : Sec × Int) (e : Ending) (w' : World) : Prop :=
  ∃ A c, e = .returned (.tuple #[.slice A r.1.length c, .int .i64 r.2]) ∧ Sl Kd.u8 F w' A c r.1 ∧ (∀ g o, A = some ⟨g, o, none⟩ → w.heap.size ≤ g) ∧ Ext w w'
theorem readS_spec {d : Dsk} {l : Lg} (h : d.Ok) (hs : l.size + 3 ≤ d.now.length) {n : Int} (ha : aliveS d l = 0) (h0 : 0 ≤ n) (h1 : n < (homesS d.now l.size : Int)) :
    readS d l n = (d.now.getD (2 + l.size + n.toNat) [], 0) ∧ (d.now.getD (2 + l.size + n.toNat) []).length = 64 ∧ 2 + l.size + n.toNat < d.now.length ∧ d.off = false := by
  have ho : d.off = false := by
    unfold aliveS at ha
    cases h2 : d.off
    · rfl
    · rw [if_pos (Or.inl h2)] at ha; cases ha
  have hl : 2 + l.size + n.toNat < d.now.length := by unfold homesS at h1; omega
  refine ⟨?_, getD_sec h.nowS hl, hl, ho⟩
  unfold readS
  rw [if_neg (by rw [ha]; decide), if_neg (by omega)]
  have hm : d.may (2 + (l.size : Int) + n) = 0 := by unfold Dsk.may; rw [ho, if_neg (by decide), if_neg (by omega)]
  unfold Dsk.read
  rw [hm, if_neg (by decide)]
  rw [show (2 + (l.size : Int) + n).toNat = 2 + l.size + n.toNat by omega]
set_option maxRecDepth 100000 in
set_option maxHeartbeats 1000000 in
theorem lread_ok (w : World) (F : List Nat) (lb db : Nat) (d : Dsk) (l : Lg) (h : LogOn w F lb db d l) (n : Int) :
    Calls Try.prog 57 #[.pointer (some ⟨lb, 0, none⟩), .int .i64 n] w (ReadR F w (readS d l n)) := by
  have HL := Lib.hid h
  have hsz := h.size
  have hdl := h.disk.len
  have hok : d.Ok := by obtain ⟨_, _, _, h⟩ := h.disk; exact h.ok
  have HOK := Lib.hid hok
  obtain ⟨a, ha⟩ : ∃ a, a = aliveS d l := ⟨_, rfl⟩
  have HA := Lib.hid ha
  obtain ⟨hn, hhn⟩ : ∃ hn, hn = homesS d.now l.size := ⟨_, rfl⟩
  have HHN := Lib.hid hhn.symm
  clear h hok
  by_cases h0 : a = 0
  · subst h0
    by_cases hlo : n < 0
    · have t0 : decide (n < 0) = true := decide_eq_true hlo
      have HR : Hid (readS d l n = ([], 31)) := by
        unfold Hid readS; rw [← HA.out, if_neg (by simp), if_pos (Or.inl hlo)]
      clear ha hhn hlo
      go_enter Try.func57, Try.ntmps57
      go_wp2_with fail
      refine (alive_ok _ F db lb d l HL.out.disk HL.out.log).mono ?_
      rw [← HA.out]
      rintro e w1 ⟨rfl, hx⟩
      have HX := Lib.hid hx
      clear hx
      go_wp2
      go_ret2
      exact ⟨none, 0, by rw [HR.out]; rfl, by rw [HR.out]; exact Sl.nil _ _ _ _ _, fun g o e => by (cases e), HX.out⟩
    · have t0 : decide (n < 0) = false := decide_eq_false hlo
      by_cases hhi : (hn : Int) ≤ n
      · have t1 : decide ((hn : Int) ≤ n) = true := decide_eq_true hhi
        have HR : Hid (readS d l n = ([], 31)) := by
          unfold Hid readS; rw [← HA.out, if_neg (by simp), if_pos (Or.inr (by rw [← hhn]; exact hhi))]
        clear ha hhn hlo hhi
        go_enter Try.func57, Try.ntmps57
        go_wp2_with fail
        refine (alive_ok _ F db lb d l HL.out.disk HL.out.log).mono ?_
        rw [← HA.out]
        rintro e w1 ⟨rfl, hx⟩
        have HX := Lib.hid hx
        have HL1 := Lib.hid (HL.out.ext hx)
        clear hx
        go_wp2_with (go_at_call 22; refine (homes_at _ F db lb d l HL1.out hn HHN.out).mono ?_; rintro e w2 ⟨rfl, hx⟩; have HX2 := Lib.hid (HX.out.trans hx); clear hx)
        go_ret2
        exact ⟨none, 0, by rw [HR.out]; rfl, by rw [HR.out]; exact Sl.nil _ _ _ _ _, fun g o e => by (cases e), HX2.out⟩
      · have t1 : decide ((hn : Int) ≤ n) = false := decide_eq_false hhi
        obtain ⟨r1, r2, r3, r4⟩ := readS_spec HOK.out hsz.2 HA.out.symm (by omega : 0 ≤ n) (by rw [← hhn]; omega)
        have hn1 : n ≤ 16384 := by omega
        have hn0 : 0 ≤ n := by omega
        have HR := Lib.hid r1
        have HR2 := Lib.hid r2
        have HR3 := Lib.hid r3
        have HR4 := Lib.hid r4
        have HE : Hid ((2 + (l.size : Int) + n) = ((2 + l.size + n.toNat : Nat) : Int)) := by unfold Hid; omega
        clear ha hhn hlo hhi r1 r2 r3 r4
        go_enter Try.func57, Try.ntmps57
        go_wp2_with fail
        refine (alive_ok _ F db lb d l HL.out.disk HL.out.log).mono ?_
        rw [← HA.out]
        rintro e w1 ⟨rfl, hx⟩
        have HX := Lib.hid hx
        have HL1 := Lib.hid (HL.out.ext hx)
        clear hx
        go_wp2_with (go_at_call 22; refine (homes_at _ F db lb d l HL1.out hn HHN.out).mono ?_; rintro e w2 ⟨rfl, hx⟩; have HX2 := Lib.hid (HX.out.trans hx); have HL2 := Lib.hid ((HL1.out.ext hx).ext (Ext.drew _)); have c0 := (HL1.out.ext hx).log.cells.1; clear hx)
        go_region_held3 (fun w' => w'.cell? ⟨lb, 0, none⟩ = some (.pointer (some ⟨db, 0, none⟩))) (first | exact c0 | exact c3) (first
          | (go_at_call 106; refine (home_ok _ lb db l HL2.out.log (by omega) n hn0 hn1).mono ?_; rintro e w' ⟨rfl, rfl⟩)
          | (go_at_call 20; rw [HE.out]; refine (read_ok _ F db d HL2.out.disk (2 + l.size + n.toNat) HR3.out HR4.out).mono ?_; rintro e w3 ⟨g, rfl, h1, h2, h3⟩; have HP := Lib.hid h1; have HG := Lib.hid h2; have HX3 := Lib.hid ((HX2.out.trans (Ext.drew _)).trans h3); have c3 := (h3.keep []).cell_some c0 (by simp); clear h1 h2 h3))
        go_wp2
        go_ret2
        have HSL : Sl Kd.u8 F w3 (some ⟨g, 0, none⟩) 64 (d.now.getD (2 + l.size + n.toNat) []) := Pre.sl8 HP.out (fun hm => by have h1 := HL.out.disk.lt g hm; have h2 := HG.out; have h3 := (HX2.out.trans (Ext.drew _)).size; omega) (by rw [HR2.out]; omega) (by rw [HR2.out]; omega)
        refine ⟨some ⟨g, 0, none⟩, 64, ?_, by rw [HR.out]; exact HSL, fun g' o e => ?_, HX3.out⟩
        · rw [HR.out, HR2.out]; rfl
        · injection e with e
          injection e with e
          subst e
          have h2 := HG.out
          have h3 := (HX2.out.trans (Ext.drew _)).size
          omega
  · have d0 : (a != 0) = true := by simpa using h0
    have HR : Hid (readS d l n = ([], a)) := by
      unfold Hid readS; rw [← HA.out, if_pos h0]
    clear ha h0 hhn
    go_enter Try.func57, Try.ntmps57
    go_wp2_with fail
    refine (alive_ok _ F db lb d l HL.out.disk HL.out.log).mono ?_
    rw [← HA.out]
    rintro e w1 ⟨rfl, hx⟩
    have HX := Lib.hid hx
    clear hx
    go_wp2
    go_ret2
    exact ⟨none, 0, by rw [HR.out]; rfl, by rw [HR.out]; exact Sl.nil _ _ _ _ _, fun g o e => by (cases e), HX.out⟩
end Go.Proofs.Ytkmnjccklnfcdaa
namespace Go.Proofs.Ytkmnjccklnfcdaa
open Go Go.RowKit Bst
set_option linter.unusedVariables false
set_option linter.unusedSimpArgs false
/-- An entry, as it lies in a list. -/
def KEn : Kd (Nat × Nat × Sec) where
  sz := 4
  R F w cs x := ∃ A c dt, cs = [.int .i64 (x.1 : Int), .int .i64 (x.2.1 : Int), .slice A dt.length c, .bool false] ∧ Sl Kd.u8 F w A c dt ∧ padS dt = x.2.2 ∧ dt.length ≤ 32
  len h := by obtain ⟨_, _, _, rfl, _⟩ := h; rfl
  one h := by obtain ⟨_, _, _, rfl, _⟩ := h; intro u hu; simp at hu; rcases hu with rfl | rfl | rfl | rfl <;> rfl
  ext h k := by obtain ⟨A, c, dt, e, h1, h2, h3⟩ := h; exact ⟨A, c, dt, e, h1.ext k, h2, h3⟩
/-- A slice that was laid whole. -/
theorem sl_lit {α : Type} {K : Kd α} {F : List Nat} {w : World} {xs : List Value} {l : List α} (e : TypeId) (h : Flat K F w xs l) (hF : ∀ b ∈ F, b < w.heap.size) (hl : l.length ≤ 140737488355328) :
    Sl K F (w.alloc (.cells xs.toArray e)) (some ⟨w.heap.size, 0, none⟩) l.length l := by
  refine ⟨Nat.le_refl _, hl, fun _ => ⟨w.heap.size, 0, rfl, by simp, fun hm => by have := hF _ hm; omega, fun i x hx => ?_⟩⟩
  obtain ⟨cs, hR, hc⟩ := h.get hx
  refine ⟨cs, K.ext hR ((Ext.alloc w _).keep F), fun j u hu => ?_⟩
  rw [cell_blk (heap_alloc_new w _)]
  rw [Nat.zero_add]
  simpa using hc j u hu
theorem sl_take8 {α : Type} {K : Kd α} {F : List Nat} {w : World} {A : Option Addr} {c : Nat} {l : List α} (h : Sl K F w A c l) (k : Nat) : Sl K F w A c (l.take k) := by
  refine ⟨Nat.le_trans (by simp; omega) h.1, Nat.le_trans (by simp; omega) h.2.1, fun hn => ?_⟩
  rw [List.length_take] at hn
  obtain ⟨g, o, rfl, hg, hF, hc⟩ := h.2.2 (by omega)
  refine ⟨g, o, rfl, hg, hF, fun i x hx => hc i x ?_⟩
  rw [List.getElem?_take] at hx
  split at hx
  · exact hx
  · cases hx
theorem sl_drop8 {α : Type} {K : Kd α} {F : List Nat} {w : World} {g o c : Nat} {l : List α} (h : Sl K F w (some ⟨g, o, none⟩) c l) (k : Nat) (hk : k ≤ l.length) : Sl K F w (some ⟨g, o + k * K.sz, none⟩) (c - k) (l.drop k) := by
  refine ⟨by rw [List.length_drop]; have := h.1; omega, Nat.le_trans (by simp) h.2.1, fun hn => ?_⟩
  rw [List.length_drop] at hn
  obtain ⟨g', o', e, hg, hF, hc⟩ := h.2.2 (by omega)
  injection e with e
  injection e with e1 e2
  subst e1; subst e2
  refine ⟨g, o + k * K.sz, rfl, hg, hF, fun i x hx => ?_⟩
  rw [List.getElem?_drop] at hx
  obtain ⟨cs, hR, hcell⟩ := hc (k + i) x hx
  refine ⟨cs, hR, fun j u hu => ?_⟩
  have := hcell j u hu
  rwa [Nat.add_mul, Nat.add_assoc, ← Nat.add_assoc o] at this
theorem sl_reF8 {F F' : List Nat} {w : World} {g o c : Nat} {l : List UInt8} (h : Sl Kd.u8 F w (some ⟨g, o, none⟩) c l) (hg : g ∉ F') : Sl Kd.u8 F' w (some ⟨g, o, none⟩) c l := by
  refine ⟨h.1, h.2.1, fun hn => ?_⟩
  obtain ⟨g', o', e, hg', _, hc⟩ := h.2.2 hn
  injection e with e
  injection e with e1 e2
  subst e1; subst e2
  exact ⟨g, o, rfl, hg', hg, hc⟩
theorem et_en : ET Try.prog 113 116 (.agg #[.int .i64 0, .int .i64 0, .slice none 0 0, .bool false]) 4 48 := ⟨Try.underlying113, info_parts (by kernel_rfl), rfl, by decide⟩
set_option maxRecDepth 100000 in
set_option maxHeartbeats 2000000 in
theorem entries_ok (w : World) (F : List Nat) (hFL : ∀ b ∈ F, b < w.heap.size) (ws : List (Int × List UInt8)) (A : Option Addr) (c : Nat) (hs : Sl KApi F w A c ws) (hl : ws.length ≤ 16384) (hr : ∀ x ∈ ws, 0 ≤ x.1 ∧ x.1 ≤ 16384 ∧ x.2.length = 64) :
    Calls Try.prog 70 #[.slice A ws.length c] w fun e w' => ∃ A' c', e = .returned (.slice A' (entriesB ws).length c') ∧ Sl KEn F w' A' c' (entriesB ws) ∧ Ext w w' := by
  have HS := Lib.hid hs
  have HR := Lib.hid hr
  have HFL := Lib.hid hFL
  clear hs hr hFL
  go_enter Try.func70, Try.ntmps70
  go_wp2
  go_loopw [3, 8] (fun ov iv wr => ∃ (k : Nat) (Fk : List Nat) (out : List (Nat × Nat × Sec)), k ≤ ws.length ∧ iv = .int .i64 (k : Int) ∧ Hid (out = (ws.take k).flatMap pairE) ∧ Hid (Own KEn Fk wr w.heap.size 116 ov out) ∧ Hid (Ext w wr) ∧ Hid (∀ x ∈ F, x ∈ Fk) ∧ Hid (∀ x ∈ Fk, x < wr.heap.size) ∧ Hid (∀ x ∈ Fk, x ∈ F ∨ w.heap.size ≤ x)) (fun _ iv _ => ws.length - (intOf iv).toNat)
  case atStart => exact ⟨0, F, [], Nat.zero_le _, rfl, rfl, Own.nil _ _ _ _ _, Ext.refl _, fun x hx => hx, HFL.out, fun x hx => .inl hx⟩
  case round =>
    obtain ⟨k, Fk, out, hk, rfl, HOE, HOUT, HX0, HFF, HFK, HFN⟩ := hrel
    by_cases hlt : k < ws.length
    · obtain ⟨h0, h1, h64⟩ := HR.out ws[k] (List.getElem_mem hlt)
      obtain ⟨g, o, A2, c2, rfl, hg, hgF, k0, k1, hs8, hi⟩ := api_at HS.out hlt
      replace k0 := (HX0.out.keep []).cell_some k0 (by simp)
      replace k1 := (HX0.out.keep []).cell_some k1 (by simp)
      have HE : Hid ((ws.take (k + 1)).flatMap pairE = (ws.take k).flatMap pairE ++ pairE ws[k]) := by
        unfold Hid; rw [List.take_succ_eq_append_getElem hlt, List.flatMap_append]; simp
      rw [← HOE.out] at HE
      have HLN : Hid (out.length ≤ 32768) := by unfold Hid; rw [HOE.out, flat_pair_length, List.length_take]; omega
      obtain ⟨A0, c0, hov, -⟩ := HOUT.out.form (by have := HLN.out; omega)
      subst hov
      generalize ws[k] = x at *
      rw [h64] at k1
      obtain ⟨g2, o2, rfl, hg2, hg2F, -⟩ := hs8.2.2 (by omega)
      have hc64 : 64 ≤ c2 := by have := hs8.1; omega
      have HS8 := Lib.hid hs8
      have H64 := Lib.hid h64
      clear hs8 h64
      go_wp2
      have y0 : (wr.alloc (.cells #[.int .i64 x.1, .slice (some ⟨g2, o2, none⟩) 64 c2] 100)).cell? ⟨wr.heap.size, 0, none⟩ = some (.int .i64 x.1) := cell_blk (heap_alloc_new wr _) 0
      have y1 : (wr.alloc (.cells #[.int .i64 x.1, .slice (some ⟨g2, o2, none⟩) 64 c2] 100)).cell? ⟨wr.heap.size, 1, none⟩ = some (.slice (some ⟨g2, o2, none⟩) 64 c2) := cell_blk (heap_alloc_new wr _) 1
      have hxx := Ext.alloc wr (.cells #[.int .i64 x.1, .slice (some ⟨g2, o2, none⟩) 64 c2] 100)
      obtain ⟨X, hX⟩ : ∃ X, X = wr.heap.size := ⟨_, rfl⟩
      have HXX := Lib.hid hX
      rw [← hX] at y0 y1
      generalize (wr.alloc (.cells #[.int .i64 x.1, .slice (some ⟨g2, o2, none⟩) 64 c2] 100)) = w2 at *
      rw [← hX]
      have n0 := World.new_ne w2 _ y0
      obtain ⟨m, hm⟩ : ∃ m, m = x.1.toNat := ⟨_, rfl⟩
      have HM : Hid (x.1 = (m : Int)) := by unfold Hid; omega
      have HM2 := Lib.hid hm
      have HX2 := Lib.hid (HX0.out.trans hxx)
      have HOU2 := Lib.hid (HOUT.out.ext_ hxx)
      have hF2 : ∀ b ∈ Fk, b < w2.heap.size := fun b hb => Nat.lt_of_lt_of_le (HFK.out b hb) hxx.size
      have hs1 : Sl Kd.u8 F w2 (some ⟨g2, o2, none⟩) c2 x.2 := HS8.out.ext (HX2.out.keep F)
      have hg2k : g2 ∉ Fk := fun hm => by
        rcases HFN.out g2 hm with h1 | h1
        · exact hg2F h1
        · omega
      have hs2 : Sl Kd.u8 Fk w2 (some ⟨g2, o2, none⟩) c2 x.2 := sl_reF8 hs1 hg2k
      have hfl : Flat KEn Fk w2 [.int .i64 1, .int .i64 x.1, .slice (some ⟨g2, o2, none⟩) 32 c2, .bool false, .int .i64 2, .int .i64 x.1, .slice (some ⟨g2, o2 + 32, none⟩) 32 (c2 - 32), .bool false] (pairE x) := by
        have l1 : (x.2.take 32).length = 32 := by rw [List.length_take, H64.out]; rfl
        have l2 : (x.2.drop 32).length = 32 := by rw [List.length_drop, H64.out]
        have t1 := sl_take8 hs2 32
        have t2 := sl_drop8 hs2 32 (by rw [H64.out]; omega)
        refine ⟨[_, _, _, _], _, rfl, ⟨_, _, _, ?_, t1, padS_full l1, by omega⟩, ⟨[_, _, _, _], _, rfl, ⟨_, _, _, ?_, t2, padS_full l2, by omega⟩, rfl⟩⟩
        · rw [l1, ← HM2.out, ← HM.out]; rfl
        · rw [l2, ← HM2.out, ← HM.out]; rfl
      obtain ⟨v', w4, F', hr, ho, hk, ⟨hk2, hlt2⟩, hsub⟩ := run_app et_en 113 (w2.alloc (.cells #[.int .i64 1, .int .i64 x.1, .slice (some ⟨g2, o2, none⟩) 32 c2, .bool false, .int .i64 2, .int .i64 x.1, .slice (some ⟨g2, o2 + 32, none⟩) 32 (c2 - 32), .bool false] 116)).drew w.heap.size Fk (.slice A0 out.length c0) out (pairE x) (some ⟨w2.heap.size, 0, none⟩) 2 ((HOU2.out.alloc _).ext_ (Ext.drew _)) ((sl_lit 116 hfl hF2 (by simp)).ext ((Ext.drew _).keep Fk)) (by have := HLN.out; rw [show (pairE x).length = 2 from rfl]; omega) (by have := HLN.out; rw [show (pairE x).length = 2 from rfl]; omega) (by have := HX2.out.size; simp; omega)
      have HRR : Hid ((Builtin.append_ #[113, 113] 113 #[.slice A0 out.length c0, .slice (some ⟨w2.heap.size, 0, none⟩) 2 2]).run Try.prog (w2.alloc (.cells #[.int .i64 1, .int .i64 x.1, .slice (some ⟨g2, o2, none⟩) 32 c2, .bool false, .int .i64 2, .int .i64 x.1, .slice (some ⟨g2, o2 + 32, none⟩) 32 (c2 - 32), .bool false] 116)).drew = .ok v' w4) := hr
      have HKF := Lib.hid hk
      have HXS : Hid (wr.heap.size ≤ w2.heap.size) := hxx.size
      have HO := Lib.hid ho
      have HK2 := Lib.hid hk2
      have HLT := Lib.hid hlt2
      have HSUB := Lib.hid hsub
      have hX2 : X ∉ (Value.slice A0 out.length c0).ownBlock.toList := fun hm => by have h1 := (HOUT.out.lt X (by simpa using hm)).2; omega
      have e1 := hk2.cell_some (((Ext.alloc w2 _).trans (Ext.drew _)).keep [] |>.cell_some y0 (by simp)) hX2
      have e2 := hk2.cell_some (((Ext.alloc w2 _).trans (Ext.drew _)).keep [] |>.cell_some y1 (by simp)) hX2
      have d1 : (0 : Int) ≤ (c2 : Int) := by omega
      have d3 : ¬ c2 = 32 := by omega
      have d2 : (32 : Int) ≤ (c2 : Int) := by omega
      clear hX hr ho hk hk2 hlt2 hsub hfl hs1 hs2 hF2 hm hxx hX2
      go_region_held3 (fun w' => w'.cell? ⟨X, 0, none⟩ = some (.int .i64 x.1) ∧ w'.cell? ⟨X, 1, none⟩ = some (.slice (some ⟨g2, o2, none⟩) 64 c2)) (first | go_keep | exact ⟨e1, e2⟩) (first
        | (rw [if_pos (by rfl)]; (refine st_append _ _ _ _ rfl _ _ _ rfl rfl _ HRR.out ?_)))
      have HXE : Hid (Ext w w4) := by
        have hb : ∀ b ∈ (Value.slice A0 out.length c0).ownBlock.toList, w.heap.size ≤ b := fun b hb => (HOUT.out.lt b (by simpa using hb)).1
        exact (((HX2.out.trans ((Ext.alloc w2 _).trans (Ext.drew _))).keep _).trans HK2.out).ext hb
      have HFN2 : Hid (∀ x ∈ F', x ∈ F ∨ w.heap.size ≤ x) := fun b hb => by
        rcases HKF.out.fresh b hb with h1 | h1
        · exact HFN.out b h1
        · have h2 := HX2.out.size; simp at h1; exact .inr (by omega)
      go_wp2
      go_roundw
      case rel => exact ⟨k + 1, F', out ++ pairE x, by omega, by go_num, HE.out.symm, HO.out, HXE.out, fun x hx => HSUB.out x (HFF.out x hx), HLT.out (fun b hb => by have h1 := HFK.out b hb; have h2 := HXS.out; simp; omega), HFN2.out⟩
      case measure => simp [intOf] <;> omega
    · obtain rfl : k = ws.length := by omega
      have HE : Hid (entriesB ws = out ++ [(3, ws.length, zeros 32)]) := by
        unfold Hid
        rw [HOE.out, List.take_length]; rfl
      have HLN : Hid (out.length ≤ 32768) := by unfold Hid; rw [HOE.out, flat_pair_length, List.length_take]; omega
      have HR : KEn.R Fk wr [.int .i64 3, .int .i64 (ws.length : Int), .slice none 0 0, .bool false] (3, ws.length, zeros 32) := ⟨none, 0, [], rfl, Sl.nil _ _ _ _ _, rfl, Nat.zero_le _⟩
      have HRH := Lib.hid HR
      have HSZ : Hid (w.heap.size ≤ wr.heap.size) := HX0.out.size
      clear HR
      go_wp2_with (at_builtin; go_must (refine wp_app1 (K := KEn) et_en rfl _ _ (by rfl) wr [.int .i64 3, .int .i64 (ws.length : Int), .slice none 0 0, .bool false] w.heap.size Fk _ out (3, ws.length, zeros 32) (by rfl) (by rfl) rfl HOUT.out HRH.out HFK.out (by have := HLN.out; omega) (by have := HLN.out; omega) HSZ.out ?_); intro v' w4 F' hown hk hk0 hF hFF; have HOW := Lib.hid hown; have HK := Lib.hid hk; have HK0 := Lib.hid hk0; have HF2 := Lib.hid hF; have HFF2 := Lib.hid hFF; clear hown hk hk0 hF hFF)
      have HXE : Hid (Ext w w4) := by
        have hb : ∀ b ∈ u3.ownBlock.toList, w.heap.size ≤ b := fun b hb => (HOUT.out.lt b (by simpa using hb)).1
        exact ((HX0.out.keep _).trans HK0.out).ext hb
      have ho := HOW.out
      rw [← HE.out] at ho
      obtain ⟨A', c', rfl, hs⟩ := ho.form (by rw [entriesB_length]; omega)
      have HSR := Lib.hid (hs F (fun b hb => ⟨HFF2.out b (HFF.out b hb), fun e => by have := (ho.lt b e).1; have := HFL.out b hb; omega⟩))
      clear ho hs HOW
      go_ret
      exact ⟨A', c', rfl, HSR.out, HXE.out⟩
end Go.Proofs.Ytkmnjccklnfcdaa
