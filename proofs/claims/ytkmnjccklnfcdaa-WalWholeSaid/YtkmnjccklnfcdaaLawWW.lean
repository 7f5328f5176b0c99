/- The statement WalWhole: its contract. -/
import Derived.Test.YtkmnjccklnfcdaaLawWA
import Derived.Test.YtkmnjccklnfcdaaLawWT
import Derived.Test.YtkmnjccklnfcdaaWalWP
namespace Bst
theorem commitT_wait (d : Dsk) (l : Lg) (ws : List (Int × Sec)) : (commitT d l ws).2.1.wait.length ≤ d.wait.length + (3 * ws.length + 1) := by
  have h1 := layS_wait l.base (entriesB ws) d l.used
  rw [entriesB_length] at h1
  have h2 := flush_wait (layS l.base d l.used (entriesB ws)).2
  have h3 := seqR_wait l.size ws (layS l.base d l.used (entriesB ws)).2.flush.2
  unfold commitT
  simp only
  split
  · simp only; omega
  · split
    · simp only; omega
    · simp only; omega
theorem commitT_commits (d : Dsk) (l : Lg) (ws : List (Int × Sec)) : (commitT d l ws).2.2.commits ≤ l.commits + 1 := by
  unfold commitT
  simp only
  split
  · simp only; omega
  · split
    · simp only; omega
    · simp only; omega
theorem commit_commits (d : Dsk) (l : Lg) (ws : List (Int × Sec)) : (commitS d l ws).2.2.commits ≤ l.commits + 1 := by
  unfold commitS
  split
  · simp only; omega
  · split
    · simp only; omega
    · split
      · simp only; omega
      · split
        · simp only; omega
        · split
          · have h1 := check_size d l
            have h2 := commitT_commits (checkS d l).2.1 (checkS d l).2.2 ws
            simp only
            split
            · omega
            · omega
          · exact commitT_commits d l ws
theorem commit_wait (d : Dsk) (l : Lg) (ws : List (Int × Sec)) : (commitS d l ws).2.1.wait.length ≤ d.wait.length + (3 * ws.length + 2) := by
  unfold commitS
  split
  · simp only; omega
  · split
    · simp only; omega
    · split
      · simp only; omega
      · split
        · simp only; omega
        · split
          · have h1 := check_wait d l
            have h2 := commitT_wait (checkS d l).2.1 (checkS d l).2.2 ws
            simp only
            split
            · omega
            · omega
          · have := commitT_wait d l ws
            omega
end Bst
namespace Go.Proofs.Ytkmnjccklnfcdaa
open Go Go.RowKit Bst
set_option linter.unusedVariables false
set_option linter.unusedSimpArgs false
theorem fuse_on (w : World) (F : List Nat) (lb db : Nat) (d : Dsk) (l : Lg) (h : LogOn w F lb db d l) (n : Int) (hn : n ≤ 9223372036854775807) :
    Calls Try.prog 23 #[.pointer (some ⟨db, 0, none⟩), .int .i64 n] w fun e w' => e = .returned (.tuple #[]) ∧ LogOn w' F lb db (d.fused n) l ∧ Keep F w F w' := by
  have hd : db ∈ F := by obtain ⟨_, _, _, h⟩ := h.disk; exact h.inF.1
  refine (fuse_ok w F db d h.disk n hn).mono ?_
  rintro e w' ⟨rfl, h1, h2⟩
  have hk : Keep F w F w' := h2.widen (fun b hb => by rw [List.mem_singleton.1 hb]; exact hd)
  exact ⟨rfl, h.redisk h1 hk rfl, hk⟩
theorem fuse_on0 (w : World) (F : List Nat) (db : Nat) (d : Dsk) (h : DiskAt w F db d) (n : Int) (hn : n ≤ 9223372036854775807) :
    Calls Try.prog 23 #[.pointer (some ⟨db, 0, none⟩), .int .i64 n] w fun e w' => e = .returned (.tuple #[]) ∧ DiskAt w' F db (d.fused n) ∧ Keep F w F w' := by
  have hd : db ∈ F := by obtain ⟨_, _, _, h⟩ := h; exact h.inF.1
  refine (fuse_ok w F db d h n hn).mono ?_
  rintro e w' ⟨rfl, h1, h2⟩
  exact ⟨rfl, h1, h2.widen (fun b hb => by rw [List.mem_singleton.1 hb]; exact hd)⟩
theorem ww_alive : aliveS wwD2 wwL = 0 := by unfold aliveS; rw [ww_off, ww_lives]; rfl
theorem sl_sub {α : Type} {K : Kd α} {F F' : List Nat} {w : World} {A : Option Addr} {c : Nat} {l : List α} (h : Sl K F w A c l) (hs : ∀ b ∈ F', b ∈ F) : Sl K F' w A c l := h.ext (Keep.sub w hs)
set_option maxRecDepth 100000 in
set_option maxHeartbeats 8000000 in
theorem whole_ok (w : World) (A : Option Addr) (c : Nat) (ls : List (List (Int × List UInt8))) (f0 f1 : Nat) (hf0 : f0 < 65536) (hf1 : f1 < 65536) (A0' A1' : Option Addr) (k0 k1 : Nat) (ch0 ch1 : List UInt8)
    (hs : Sl (Kd.slice KApi) [] w A c ls) (hs0 : Sl Kd.u8 [] w A0' k0 ch0) (hs1 : Sl Kd.u8 [] w A1' k1 ch1) :
    Calls Try.prog 4 #[.slice A ls.length c, .agg #[.int .u16 (f0 : Int), .int .u16 (f1 : Int)], .agg #[.slice A0' ch0.length k0, .slice A1' ch1.length k1]] w fun e w' => e = .returned (.bool true) ∧ Ext w w' := by
  have HS := Lib.hid hs
  have HS0 := Lib.hid hs0
  have HS1 := Lib.hid hs1
  have hle := hs.len_le
  have hle0 := hs0.len_le
  have hle1 := hs1.len_le
  clear hs hs0 hs1
  go_enter Try.func4, Try.ntmps4
  go_wp2_with fail
  have hxB := (Ext.alloc w (.cells #[.int .u16 (f0 : Int), .int .u16 (f1 : Int)] 47)).trans (Ext.alloc (w.alloc (.cells #[.int .u16 (f0 : Int), .int .u16 (f1 : Int)] 47)) (.cells #[.slice A0' ch0.length k0, .slice A1' ch1.length k1] 48))
  have hb5 := heap_alloc_new (w.alloc (.cells #[.int .u16 (f0 : Int), .int .u16 (f1 : Int)] 47)) (.cells #[.slice A0' ch0.length k0, .slice A1' ch1.length k1] 48)
  have hb4 : ((w.alloc (.cells #[.int .u16 (f0 : Int), .int .u16 (f1 : Int)] 47)).alloc (.cells #[.slice A0' ch0.length k0, .slice A1' ch1.length k1] 48)).heap[w.heap.size]? = some (.cells #[.int .u16 (f0 : Int), .int .u16 (f1 : Int)] 47 (0, 0)) := by
    rw [(Ext.alloc _ _).block w.heap.size (by simp) (by simp)]
    exact heap_alloc_new w _
  rw [show (w.alloc (.cells #[.int .u16 (f0 : Int), .int .u16 (f1 : Int)] 47)).heap.size = w.heap.size + 1 by simp] at hb5
  generalize ((w.alloc (.cells #[.int .u16 (f0 : Int), .int .u16 (f1 : Int)] 47)).alloc (.cells #[.slice A0' ch0.length k0, .slice A1' ch1.length k1] 48)) = W0 at *
  obtain ⟨B4, hB4⟩ : ∃ B4, B4 = w.heap.size := ⟨_, rfl⟩
  rw [← hB4] at hb4 hb5 ⊢
  have B40 := Lib.hid (cell_blk hb4 0)
  have B41 := Lib.hid (cell_blk hb4 1)
  have B50 := Lib.hid (cell_blk hb5 0)
  have B51 := Lib.hid (cell_blk hb5 1)
  have HXB := Lib.hid hxB
  have HS := Lib.hid (HS.out.ext (hxB.keep []))
  have HS0 := Lib.hid (HS0.out.ext (hxB.keep []))
  have HS1 := Lib.hid (HS1.out.ext (hxB.keep []))
  clear hxB hb4 hb5 hB4
  refine (awake_ok W0).mono ?_
  rintro e w1 ⟨rfl, hx1⟩
  have HX1 := Lib.hid hx1
  have q50 : w1.cell? ⟨B4 + 1, 0, none⟩ = some (.slice A0' ch0.length k0) := (hx1.keep []).cell_some B50.out (by simp)
  have q51 : w1.cell? ⟨B4 + 1, 1, none⟩ = some (.slice A1' ch1.length k1) := (hx1.keep []).cell_some B51.out (by simp)
  clear hx1
  by_cases g0 : 12 < ls.length
  · have t0 : decide ((12 : Int) < (ls.length : Int)) = true := decide_eq_true (by omega)
    go_wp2
    go_ret
    exact ⟨rfl, HXB.out.trans HX1.out⟩
  · have t0 : decide ((12 : Int) < (ls.length : Int)) = false := decide_eq_false (by omega)
    by_cases g1 : 300 < ch0.length
    · have t1 : decide ((300 : Int) < (ch0.length : Int)) = true := decide_eq_true (by omega)
      go_wp2
      go_ret
      exact ⟨rfl, HXB.out.trans HX1.out⟩
    · have t1 : decide ((300 : Int) < (ch0.length : Int)) = false := decide_eq_false (by omega)
      by_cases g2 : 300 < ch1.length
      · have t2 : decide ((300 : Int) < (ch1.length : Int)) = true := decide_eq_true (by omega)
        go_wp2
        go_ret
        exact ⟨rfl, HXB.out.trans HX1.out⟩
      · have t2 : decide ((300 : Int) < (ch1.length : Int)) = false := decide_eq_false (by omega)
        go_wp2_with fail
        refine (new_ok w1 30 (by omega) (by omega)).mono ?_
        rintro e w2 ⟨db, F2, rfl, hd2, hf2, hx2⟩
        have HD2 := Lib.hid hd2
        have HF2 : Hid (Fresh W0 F2 w2) := ⟨HX1.out.trans hx2, fun b hb => Nat.le_trans HX1.out.size (hf2 b hb)⟩
        clear hd2 hf2 hx2 q50 q51 t1 t2
        go_wp2_with fail
        refine (format_ok w2 F2 db (Dsk.new 30) HD2.out 15 ⟨by omega, by show 15 + 3 ≤ (List.replicate 30 _).length; simp⟩ (by show 0 + 15 + 3 < 1000000000; omega)).mono ?_
        rw [show formatS (Dsk.new 30) ((15 : Nat) : Int) = formatS (Dsk.new 30) 15 from rfl, ww_format]
        rintro e w3 ⟨rfl, F3, h1, h2, h3⟩
        have HD3 : Hid (DiskAt w3 F3 db wwD1) := h1
        have HF3 := Lib.hid (HF2.out.step h2)
        clear h1 h2 h3
        go_wp2_with fail
        refine (open_ok w3 F3 db wwD1 HD3.out (by rw [ww_wait1]; simp)).mono ?_
        intro e w4 h
        obtain ⟨lb, F4, rfl, hl4, hlb, hk4, -⟩ := LogOn.of_open h ww_open
        have HL4 := Lib.hid hl4
        have HF4 := Lib.hid ((HF3.out.step hk4).cons (Nat.le_trans HF3.out.ext.size hlb))
        clear h hl4 hlb hk4
        go_wp2_with fail
        refine (homes_at w4 F4 db lb wwD2 wwL HL4.out 13 ww_homes).mono ?_
        rintro e w5 ⟨rfl, hx5⟩
        have HL5 := Lib.hid (HL4.out.ext hx5)
        have HF5 := Lib.hid (HF4.out.more hx5)
        clear hx5
        go_wp2_with fail
        refine (lhomes_ok w5 F4 (lb :: F4) lb db wwD2 wwL HL5.out ww_alive HL5.out.ltc).mono ?_
        rintro e w6 ⟨A3, c3, rfl, hs6, hx6⟩
        rw [show wwD2.now.drop (2 + wwL.size) = wwH from rfl] at hs6 ⊢
        have HN6 := Lib.hid hs6
        have HL6 := Lib.hid (HL5.out.ext hx6)
        have HF6 := Lib.hid (HF5.out.more hx6)
        clear hs6 hx6
        obtain ⟨n, hn⟩ : ∃ n, n = f0 % 200 := ⟨_, rfl⟩
        have hNN : (f0 : Int) % 200 = (n : Int) := by omega
        have hnl : n < 200 := by omega
        have hf0b : (f0 : Int) ≤ 65535 := by omega
        have q40 := (HF6.out.ext.keep []).cell_some B40.out (by simp)
        clear hn
        go_wp2_with fail
        refine (fuse_on w6 F4 lb db wwD2 wwL HL6.out (n : Int) (by omega)).mono ?_
        rintro e w7 ⟨rfl, hl7, hk7⟩
        have HL7 := Lib.hid hl7
        have HF7 := Lib.hid (HF6.out.step (hk7.widen2 lb))
        have HN7 := Lib.hid (HN6.out.ext (hk7.widen2 lb))
        have HLF := Lib.hid (ww_life (n : Int))
        have HH13 : Hid (wwH.length = 13) := by unfold Hid wwH; rw [List.length_drop, ww_len]
        clear hl7 hk7 q40 hNN
        go_wp2
        go_loopw [11, 13, 72] (fun nv av iv wr => ∃ (k : Nat) (d : Dsk) (l : Lg) (T : List (List (Int × Sec))) (H Ha : List Sec) (F : List Nat) (A3 : Option Addr) (c3 : Nat) (A4 : Option Addr) (c4 : Nat), k ≤ ls.length ∧ nv = .slice A3 H.length c3 ∧ av = .slice A4 Ha.length c4 ∧ iv = .int .i64 (k : Int) ∧ Hid (LogOn wr F lb db d l) ∧ Hid (Life 30 15 d l T H) ∧ Hid (l.base ≤ 16 + 15 * k) ∧ Hid (d.wait.length ≤ 40 * k) ∧ Hid (l.commits ≤ k) ∧ Hid (d.lives = 0) ∧ Hid (H.length = 13) ∧ Hid (Sl (Kd.slice Kd.u8) (lb :: F) wr A3 c3 H) ∧ Hid (Sl (Kd.slice Kd.u8) (lb :: F) wr A4 c4 Ha) ∧ Hid (Fresh W0 (lb :: F) wr)) (fun _ _ iv _ => ls.length - (intOf iv).toNat)
        case atStart => exact ⟨0, wwD2.fused (n : Int), wwL, [], wwH, wwH, F4, A3, c3, A3, c3, Nat.zero_le _, rfl, rfl, rfl, HL7.out, HLF.out, Nat.le_refl _, by rw [Dsk.fused_wait, ww_wait]; exact Nat.le_refl _, Nat.le_refl _, by rw [Hid, Dsk.fused_lives, ww_lives], HH13.out, HN7.out, HN7.out, HF7.out⟩
        case round =>
          obtain ⟨k, d, l, T, H, Ha, F, A3, c3, A4, c4, hk, rfl, rfl, rfl, HLK, HLI, HBK, HWK, HCK, HLV, H13, HNK, HAK, HFK⟩ := hrel
          by_cases hlt : k < ls.length
          · obtain ⟨g, o, Aw, cw, rfl, kc, hsw⟩ := Sl.row_at (HFK.out.sl HS.out) hlt
            have HSW := Lib.hid hsw
            have hwl := hsw.len_le
            generalize ls[k] = ws at *
            clear hsw
            cases hfw : fewW ws
            · have HFW := Lib.hid hfw
              clear hfw
              go_wp2_with fail
              refine (few_ok wr _ ws Aw cw HSW.out).mono ?_
              rw [HFW.out]
              rintro e w8 ⟨rfl, hx8⟩
              have HX8 := Lib.hid (HFK.out.more hx8)
              clear hx8
              go_wp2
              go_ret
              exact ⟨rfl, HXB.out.trans HX8.out.ext⟩
            · have HFW := Lib.hid hfw
              have hfl : ws.length ≤ 10 := by
                unfold fewW at hfw
                have := (Bool.and_eq_true _ _).mp hfw
                exact of_decide_eq_true this.1
              clear hfw
              go_wp2_with fail
              refine (few_ok wr _ ws Aw cw HSW.out).mono ?_
              rw [HFW.out]
              rintro e w8 ⟨rfl, hx8⟩
              have HL8 := Lib.hid (HLK.out.ext hx8)
              have HF8 := Lib.hid (HFK.out.more hx8)
              have HN8 := Lib.hid (HNK.out.ext (hx8.keep _))
              have HA8 := Lib.hid (HAK.out.ext (hx8.keep _))
              have HW8 := Lib.hid (HSW.out.ext (hx8.keep _))
              clear hx8
              go_wp2_with fail
              refine (commit_ok w8 F lb db d l HL8.out ws Aw cw HW8.out (by have := HWK.out; omega) (by omega) (by have := HCK.out; omega)).mono ?_
              intro e w9 h
              have hcm := commit_two HLI.out (by have := HBK.out; omega) ws
              have hcw := commit_wait d l ws
              have hcl := commit_lives d l ws
              have hcc := commit_commits d l ws
              generalize commitS d l ws = r at *
              cases hcm with
              | @no en he =>
                obtain ⟨F9, rfl, hl9, hk9, -⟩ := LogOn.of_commit h rfl
                have HL9 := Lib.hid hl9
                have HF9 := Lib.hid (HF8.out.step hk9)
                have HN9 := Lib.hid (HN8.out.ext hk9)
                have HA9 := Lib.hid (HA8.out.ext hk9)
                have HB9 : Hid (l.base ≤ 16 + 15 * (k + 1)) := by have := HBK.out; unfold Hid; omega
                have HW9 : Hid (d.wait.length ≤ 40 * (k + 1)) := by have := HWK.out; unfold Hid; omega
                have HC9 : Hid (l.commits ≤ k + 1) := by have := HCK.out; unfold Hid; omega
                clear h hl9 hk9 hcw hcl hcc
                rcases he with rfl | rfl
                · go_wp2
                  go_roundw
                  case rel => exact ⟨k + 1, d, l, T, H, Ha, F9, A3, c3, A4, c4, by omega, rfl, rfl, by go_num, HL9.out, HLI.out, HB9.out, HW9.out, HC9.out, HLV.out, H13.out, HN9.out, HA9.out, HF9.out⟩
                  case measure => simp [intOf] <;> omega
                · go_wp2
                  go_roundw
                  case rel => exact ⟨k + 1, d, l, T, H, Ha, F9, A3, c3, A4, c4, by omega, rfl, rfl, by go_num, HL9.out, HLI.out, HB9.out, HW9.out, HC9.out, HLV.out, H13.out, HN9.out, HA9.out, HF9.out⟩
                  case measure => simp [intOf] <;> omega
              | @yes d' l' T' hm hli hb hl =>
                obtain ⟨F9, rfl, hl9, hk9, -⟩ := LogOn.of_commit h rfl
                have HL9 := Lib.hid hl9
                have HF9 := Lib.hid (HF8.out.step hk9)
                have HN9 := Lib.hid (HN8.out.ext hk9)
                have HWS9 := Lib.hid (HW8.out.ext hk9)
                have HMM := Lib.hid hm
                have HLI9 := Lib.hid hli
                have HB9 : Hid (l'.base ≤ 16 + 15 * (k + 1)) := by have := HBK.out; unfold Hid; omega
                have HW9 : Hid (d'.wait.length ≤ 40 * (k + 1)) := by have := HWK.out; simp only at hcw; unfold Hid; omega
                have HC9 : Hid (l'.commits ≤ k + 1) := by have := HCK.out; simp only at hcc; unfold Hid; omega
                have HV9 : Hid (d'.lives = 0) := by have h1 : d'.lives = d.lives := hcl; rw [Hid, h1]; exact HLV.out
                clear h hl9 hk9 hcw hcl hcc hm hli hb hl
                go_wp2_with fail
                refine (ldone_ok w9 (lb :: F9) A3 Aw c3 cw H ws HN9.out HWS9.out HL9.out.ltc (fun y hy => by rw [H13.out]; exact HMM.out.home y hy) (by rw [H13.out]; omega) (by omega)).mono ?_
                rintro e w10 ⟨A5, c5, rfl, hs10, hx10⟩
                have HA10 := Lib.hid hs10
                have HL10 := Lib.hid (HL9.out.ext hx10)
                have HF10 := Lib.hid (HF9.out.more hx10)
                have H1310 : Hid ((applyW H ws).length = 13) := by rw [Hid, applyW_length]; exact H13.out
                clear hs10 hx10
                go_wp2
                go_roundw
                case rel => exact ⟨k + 1, d', l', T', applyW H ws, applyW H ws, F9, A5, c5, A5, c5, by omega, rfl, rfl, by go_num, HL10.out, HLI9.out, HB9.out, HW9.out, HC9.out, HV9.out, H1310.out, HA10.out, HA10.out, HF10.out⟩
                case measure => simp [intOf] <;> omega
              | @dead d' l' B' hm hdd hb =>
                obtain ⟨F9, rfl, hl9, hk9, -⟩ := LogOn.of_commit h rfl
                have HL9 := Lib.hid hl9
                have HF9 := Lib.hid (HF8.out.step hk9)
                have HN9 := Lib.hid (HN8.out.ext hk9)
                have HWS9 := Lib.hid (HW8.out.ext hk9)
                have HMM := Lib.hid hm
                have HDD := Lib.hid hdd
                have HBB : Hid (B' ≤ 196) := by have := HBK.out; unfold Hid; omega
                have HV9 : Hid (d'.lives = 0) := by have h1 : d'.lives = d.lives := hcl; rw [Hid, h1]; exact HLV.out
                clear h hl9 hk9 hcw hcl hcc hm hdd hb
                go_wp2_with fail
                refine (ldone_ok w9 (lb :: F9) A3 Aw c3 cw H ws HN9.out HWS9.out HL9.out.ltc (fun y hy => by rw [H13.out]; exact HMM.out.home y hy) (by rw [H13.out]; omega) (by omega)).mono ?_
                rintro e w5 ⟨A4, c4, rfl, hs10, hx10⟩
                have hsub : ∀ b ∈ F9, b ∈ lb :: F9 := fun b hb => List.mem_cons_of_mem _ hb
                obtain ⟨F5, rfl⟩ : ∃ F5, F5 = F9 := ⟨_, rfl⟩
                obtain ⟨d5, rfl⟩ : ∃ d5, d5 = d' := ⟨_, rfl⟩
                obtain ⟨Ha, hHa⟩ : ∃ Ha, Ha = applyW H ws := ⟨_, rfl⟩
                have HREC : Hid (∀ cs, Rec 30 15 196 (fun X => X = H ∨ X = Ha) (crashW d5.kept d5.wait cs)) := fun cs => by
                  obtain ⟨b, sl, T, X, p1, p2, p3, p4⟩ := HDD.out.img cs
                  exact ⟨b, sl, T, X, by rw [hHa]; exact p1.out, Nat.le_trans p2 HBB.out, p3, p4⟩
                rw [← hHa] at hs10 ⊢
                have HD5 := Lib.hid (HL9.out.disk.ext hx10)
                have HF5 := Lib.hid ((HF9.out.more hx10).sub hsub)
                have HN5 := Lib.hid (sl_sub (HN9.out.ext (hx10.keep _)) hsub)
                have HAF5 := Lib.hid (sl_sub hs10 hsub)
                have HLV5 : Hid (d5.lives < 1000) := by rw [Hid, HV9.out]; omega
                clear hs10 hx10 hsub hHa
                have q50 := (HF5.out.ext.keep []).cell_some B50.out (by simp)
                go_wp2_with fail
                refine (crash_ok w5 F5 db d5 HD5.out A0' k0 ch0 (HF5.out.sl HS0.out) (by have := HLV5.out; omega)).mono ?_
                rintro e w6 ⟨rfl, F6, h1, h2, h3⟩
                obtain ⟨n, hn⟩ : ∃ n, n = f1 % 60 := ⟨_, rfl⟩
                have hfr := ww_first (HREC.out ch0) ((d5.crash ch0).fused (n : Int)) rfl rfl rfl rfl
                have hlv7 : ((d5.crash ch0).fused (n : Int)).lives < 2000 := by show d5.lives + 1 < 2000; have := HLV5.out; omega
                obtain ⟨D6, hD6⟩ : ∃ D6, D6 = d5.crash ch0 := ⟨_, rfl⟩
                rw [← hD6] at h1 hfr hlv7
                have hw6 : D6.wait.length = 0 := by rw [hD6]; rfl
                have HD6 := Lib.hid h1
                have HF6 := Lib.hid (HF5.out.step h2)
                have HN6 := Lib.hid (HN5.out.ext h2)
                have HA6 := Lib.hid (HAF5.out.ext h2)
                have HFR := Lib.hid hfr
                have HLV7 := Lib.hid hlv7
                have HW6 := Lib.hid hw6
                have HNN : Hid ((f1 : Int) % 60 = (n : Int)) := by unfold Hid; omega
                have hnl : n < 60 := by omega
                have q41 := (HF6.out.ext.keep []).cell_some B41.out (by simp)
                clear h1 h2 h3 hn hfr hlv7 hD6 hw6 q50
                have hNN := HNN.out
                have hf1b : (f1 : Int) ≤ 65535 := by omega
                go_wp2_with fail
                refine (fuse_on0 w6 F6 db D6 HD6.out (n : Int) (by omega)).mono ?_
                rintro e w7 ⟨rfl, h1, h2⟩
                have HD7 := Lib.hid h1
                have HF7 := Lib.hid (HF6.out.step h2)
                have HN7 := Lib.hid (HN6.out.ext h2)
                have HA7 := Lib.hid (HA6.out.ext h2)
                clear h1 h2 q41 hNN
                go_wp2_with fail
                refine (open_ok w7 F6 db (D6.fused (n : Int)) HD7.out (by rw [Dsk.fused_wait, HW6.out]; omega)).mono ?_
                intro e w8 h
                obtain ⟨H1, hH1, hcase, hrec⟩ := HFR.out
                have hlo := open_lives (D6.fused (n : Int))
                rcases hcase with ⟨d8, l8, ho8⟩ | ⟨d8, ho8⟩
                · obtain ⟨lb8, F8, rfl, hl8, -, hk8, -⟩ := LogOn.of_open h ho8
                  rw [ho8] at hrec hlo
                  have HD8 := Lib.hid hl8.disk
                  have HF8 := Lib.hid (HF7.out.step hk8)
                  have HN8 := Lib.hid (HN7.out.ext hk8)
                  have HAF8 := Lib.hid (HA7.out.ext hk8)
                  have HREC2 := Lib.hid hrec
                  have HH1 := Lib.hid hH1
                  have HLV8 : Hid (d8.lives < 2000) := by have h1 : d8.lives = _ := hlo; rw [Hid, h1]; exact HLV7.out
                  clear h ho8 hl8 hk8 hrec hH1 hlo
                  have q51b := (HF8.out.ext.keep []).cell_some B51.out (by simp)
                  go_wp2_with fail
                  refine (crash_ok w8 F8 db d8 HD8.out A1' k1 ch1 (HF8.out.sl HS1.out) (by have := HLV8.out; omega)).mono ?_
                  rintro e w9 ⟨rfl, F9, h1, h2, h3⟩
                  have hsec := ww_second (HREC2.out ch1) (d8.crash ch1) ⟨rfl, rfl⟩ rfl rfl rfl
                  obtain ⟨D9, hD9⟩ : ∃ D9, D9 = d8.crash ch1 := ⟨_, rfl⟩
                  have hw9 : D9.wait.length = 0 := by rw [hD9]; rfl
                  have hlv9 : D9.lives < 3000 := by rw [hD9]; show d8.lives + 1 < 3000; have := HLV8.out; omega
                  have HLV9 := Lib.hid hlv9
                  rw [← hD9] at hsec h1
                  have HD9 := Lib.hid h1
                  have HF9 := Lib.hid (HF8.out.step h2)
                  have HN9 := Lib.hid (HN8.out.ext h2)
                  have HA9 := Lib.hid (HAF8.out.ext h2)
                  have HSEC := Lib.hid hsec
                  have HW9 := Lib.hid hw9
                  clear h1 h2 h3 hsec hD9 hw9 hlv9 q51b
                  go_wp2_with fail
                  obtain ⟨D10, l10, o10, a10, z10, n10, dr10, D11, l11, o11, a11, z11, dr11⟩ := HSEC.out
                  have HO11 := Lib.hid o11
                  have HA10' := Lib.hid a10
                  have HA11' := Lib.hid a11
                  have HZ10 : Hid (D10.now.drop (2 + l10.size) = H1) := by rw [Hid, z10]; exact dr10
                  have HZ11 : Hid (D11.now.drop (2 + l11.size) = H1) := by rw [Hid, z11]; exact dr11
                  have HLV10 : Hid (D10.lives < 1000000000) := by
                    have h1 := open_lives D9
                    rw [o10] at h1
                    have h2 : D10.lives = D9.lives := h1
                    have h4 := HLV9.out
                    rw [Hid, h2]; omega
                  refine (open_ok w9 F9 db D9 HD9.out (by rw [HW9.out]; omega)).mono ?_
                  intro e w10 h
                  obtain ⟨lb2, F10, rfl, hl10, hlb10, hk10, -⟩ := LogOn.of_open h o10
                  have HL10 := Lib.hid hl10
                  have HF10 := Lib.hid ((HF9.out.step hk10).cons (Nat.le_trans HF9.out.ext.size hlb10))
                  have HN10 := Lib.hid (HN9.out.ext hk10)
                  have HA10 := Lib.hid (HA9.out.ext hk10)
                  clear h hl10 hlb10 hk10 o10 o11 a10 a11 z10 z11 n10 dr10 dr11
                  go_wp2_with fail
                  refine (lhomes_ok w10 F10 F10 lb2 db D10 l10 HL10.out HA10'.out HL10.out.disk.lt).mono ?_
                  rw [HZ10.out]
                  rintro e w11 ⟨A5, c5, rfl, hs11, hx11⟩
                  have HG11 := Lib.hid hs11
                  have HL11 := Lib.hid (HL10.out.ext hx11)
                  have HF11 := Lib.hid (HF10.out.more hx11)
                  have HN11 := Lib.hid (HN10.out.ext (hx11.keep _))
                  have HA11 := Lib.hid (HA10.out.ext (hx11.keep _))
                  clear hs11 hx11
                  go_wp2_with fail
                  refine (lsame_ok w11 _ _ A5 A3 c5 c3 H1 H HG11.out HN11.out _ _ rfl rfl).mono ?_
                  rintro e w12 ⟨rfl, hx12⟩
                  have HG12 := Lib.hid (HG11.out.ext (hx12.keep _))
                  have HL12 := Lib.hid (HL11.out.ext hx12)
                  have HF12 := Lib.hid (HF11.out.more hx12)
                  have HA12 := Lib.hid (HA11.out.ext (hx12.keep _))
                  clear hx12
                  by_cases hHH : H1 = H
                  · rw [decide_eq_true hHH]
                    clear hHH
                    go_wp2_with fail
                    refine (crash_ok w12 F10 db D10 HL12.out.disk none 0 [] (Sl.nil _ _ _ _ _) HLV10.out).mono ?_
                    rintro e w14 ⟨rfl, F14, h1, h2, h3⟩
                    have HD14 := Lib.hid h1
                    have hsub : ∀ b ∈ F10, b ∈ lb2 :: F10 := fun b hb => List.mem_cons_of_mem _ hb
                    have HF14 := Lib.hid ((HF12.out.sub hsub).step h2)
                    have HG14 := Lib.hid (HG12.out.ext h2)
                    clear h1 h2 h3 hsub
                    go_wp2_with fail
                    refine (open_ok w14 F14 db (D10.crash []) HD14.out (by show 0 + 20000 < 1000000000; omega)).mono ?_
                    intro e w15 h
                    obtain ⟨lb3, F15, rfl, hl15, hlb15, hk15, -⟩ := LogOn.of_open h HO11.out
                    have HL15 := Lib.hid hl15
                    have HF15 := Lib.hid (HF14.out.step hk15)
                    have HG15 := Lib.hid (HG14.out.ext hk15)
                    clear h hl15 hlb15 hk15
                    go_wp2_with fail
                    refine (lhomes_ok w15 F15 [] lb3 db D11 l11 HL15.out HA11'.out (by simp)).mono ?_
                    rw [HZ11.out]
                    rintro e w16 ⟨A6, c6, rfl, hs16, hx16⟩
                    have HS16 := Lib.hid hs16
                    have HF16 := Lib.hid (HF15.out.more hx16)
                    have HG16 := Lib.hid (HG15.out.ext (hx16.keep _))
                    clear hs16 hx16
                    go_wp2_with fail
                    refine (lsame_ok w16 _ _ A6 A5 c6 c5 H1 H1 HS16.out HG16.out _ _ rfl rfl).mono ?_
                    rw [decide_eq_true rfl]
                    rintro e w17 ⟨rfl, hx17⟩
                    have HF17 := Lib.hid (HF16.out.more hx17)
                    clear hx17
                    go_wp2
                    go_ret
                    exact ⟨rfl, HXB.out.trans HF17.out.ext⟩
                  · rw [decide_eq_false hHH]
                    have hHA : H1 = Ha := by
                      rcases HH1.out with e1 | e1
                      · exact absurd e1 hHH
                      · exact e1
                    have HHA := Lib.hid hHA
                    clear hHH hHA
                    go_wp2_with fail
                    refine (lsame_ok w12 _ _ A5 A4 c5 c4 H1 Ha HG12.out HA12.out _ _ rfl rfl).mono ?_
                    rw [decide_eq_true HHA.out]
                    rintro e w13 ⟨rfl, hx13⟩
                    replace HG12 := Lib.hid (HG12.out.ext (hx13.keep _))
                    replace HL12 := Lib.hid (HL12.out.ext hx13)
                    replace HF12 := Lib.hid (HF12.out.more hx13)
                    clear hx13
                    go_wp2_with fail
                    refine (crash_ok w13 F10 db D10 HL12.out.disk none 0 [] (Sl.nil _ _ _ _ _) HLV10.out).mono ?_
                    rintro e w14 ⟨rfl, F14, h1, h2, h3⟩
                    have HD14 := Lib.hid h1
                    have hsub : ∀ b ∈ F10, b ∈ lb2 :: F10 := fun b hb => List.mem_cons_of_mem _ hb
                    have HF14 := Lib.hid ((HF12.out.sub hsub).step h2)
                    have HG14 := Lib.hid (HG12.out.ext h2)
                    clear h1 h2 h3 hsub
                    go_wp2_with fail
                    refine (open_ok w14 F14 db (D10.crash []) HD14.out (by show 0 + 20000 < 1000000000; omega)).mono ?_
                    intro e w15 h
                    obtain ⟨lb3, F15, rfl, hl15, hlb15, hk15, -⟩ := LogOn.of_open h HO11.out
                    have HL15 := Lib.hid hl15
                    have HF15 := Lib.hid (HF14.out.step hk15)
                    have HG15 := Lib.hid (HG14.out.ext hk15)
                    clear h hl15 hlb15 hk15
                    go_wp2_with fail
                    refine (lhomes_ok w15 F15 [] lb3 db D11 l11 HL15.out HA11'.out (by simp)).mono ?_
                    rw [HZ11.out]
                    rintro e w16 ⟨A6, c6, rfl, hs16, hx16⟩
                    have HS16 := Lib.hid hs16
                    have HF16 := Lib.hid (HF15.out.more hx16)
                    have HG16 := Lib.hid (HG15.out.ext (hx16.keep _))
                    clear hs16 hx16
                    go_wp2_with fail
                    refine (lsame_ok w16 _ _ A6 A5 c6 c5 H1 H1 HS16.out HG16.out _ _ rfl rfl).mono ?_
                    rw [decide_eq_true rfl]
                    rintro e w17 ⟨rfl, hx17⟩
                    have HF17 := Lib.hid (HF16.out.more hx17)
                    clear hx17
                    go_wp2
                    go_ret
                    exact ⟨rfl, HXB.out.trans HF17.out.ext⟩
                · obtain ⟨F8, hd8, hk8, -, he8, -⟩ := h
                  rw [ho8] at hd8 he8 hrec hlo
                  obtain rfl := he8 rfl
                  have HD8 : Hid (DiskAt w8 F8 db d8) := hd8
                  have HF8 := Lib.hid (HF7.out.step hk8)
                  have HN8 := Lib.hid (HN7.out.ext hk8)
                  have HAF8 := Lib.hid (HA7.out.ext hk8)
                  have HREC2 := Lib.hid hrec
                  have HH1 := Lib.hid hH1
                  have HLV8 : Hid (d8.lives < 2000) := by have h1 : d8.lives = _ := hlo; rw [Hid, h1]; exact HLV7.out
                  clear ho8 hd8 hk8 he8 hrec hH1 hlo
                  have q51b := (HF8.out.ext.keep []).cell_some B51.out (by simp)
                  go_wp2_with fail
                  refine (crash_ok w8 F8 db d8 HD8.out A1' k1 ch1 (HF8.out.sl HS1.out) (by have := HLV8.out; omega)).mono ?_
                  rintro e w9 ⟨rfl, F9, h1, h2, h3⟩
                  have hsec := ww_second (HREC2.out ch1) (d8.crash ch1) ⟨rfl, rfl⟩ rfl rfl rfl
                  obtain ⟨D9, hD9⟩ : ∃ D9, D9 = d8.crash ch1 := ⟨_, rfl⟩
                  have hw9 : D9.wait.length = 0 := by rw [hD9]; rfl
                  have hlv9 : D9.lives < 3000 := by rw [hD9]; show d8.lives + 1 < 3000; have := HLV8.out; omega
                  have HLV9 := Lib.hid hlv9
                  rw [← hD9] at hsec h1
                  have HD9 := Lib.hid h1
                  have HF9 := Lib.hid (HF8.out.step h2)
                  have HN9 := Lib.hid (HN8.out.ext h2)
                  have HA9 := Lib.hid (HAF8.out.ext h2)
                  have HSEC := Lib.hid hsec
                  have HW9 := Lib.hid hw9
                  clear h1 h2 h3 hsec hD9 hw9 hlv9 q51b
                  go_wp2_with fail
                  obtain ⟨D10, l10, o10, a10, z10, n10, dr10, D11, l11, o11, a11, z11, dr11⟩ := HSEC.out
                  have HO11 := Lib.hid o11
                  have HA10' := Lib.hid a10
                  have HA11' := Lib.hid a11
                  have HZ10 : Hid (D10.now.drop (2 + l10.size) = H1) := by rw [Hid, z10]; exact dr10
                  have HZ11 : Hid (D11.now.drop (2 + l11.size) = H1) := by rw [Hid, z11]; exact dr11
                  have HLV10 : Hid (D10.lives < 1000000000) := by
                    have h1 := open_lives D9
                    rw [o10] at h1
                    have h2 : D10.lives = D9.lives := h1
                    have h4 := HLV9.out
                    rw [Hid, h2]; omega
                  refine (open_ok w9 F9 db D9 HD9.out (by rw [HW9.out]; omega)).mono ?_
                  intro e w10 h
                  obtain ⟨lb2, F10, rfl, hl10, hlb10, hk10, -⟩ := LogOn.of_open h o10
                  have HL10 := Lib.hid hl10
                  have HF10 := Lib.hid ((HF9.out.step hk10).cons (Nat.le_trans HF9.out.ext.size hlb10))
                  have HN10 := Lib.hid (HN9.out.ext hk10)
                  have HA10 := Lib.hid (HA9.out.ext hk10)
                  clear h hl10 hlb10 hk10 o10 o11 a10 a11 z10 z11 n10 dr10 dr11
                  go_wp2_with fail
                  refine (lhomes_ok w10 F10 F10 lb2 db D10 l10 HL10.out HA10'.out HL10.out.disk.lt).mono ?_
                  rw [HZ10.out]
                  rintro e w11 ⟨A5, c5, rfl, hs11, hx11⟩
                  have HG11 := Lib.hid hs11
                  have HL11 := Lib.hid (HL10.out.ext hx11)
                  have HF11 := Lib.hid (HF10.out.more hx11)
                  have HN11 := Lib.hid (HN10.out.ext (hx11.keep _))
                  have HA11 := Lib.hid (HA10.out.ext (hx11.keep _))
                  clear hs11 hx11
                  go_wp2_with fail
                  refine (lsame_ok w11 _ _ A5 A3 c5 c3 H1 H HG11.out HN11.out _ _ rfl rfl).mono ?_
                  rintro e w12 ⟨rfl, hx12⟩
                  have HG12 := Lib.hid (HG11.out.ext (hx12.keep _))
                  have HL12 := Lib.hid (HL11.out.ext hx12)
                  have HF12 := Lib.hid (HF11.out.more hx12)
                  have HA12 := Lib.hid (HA11.out.ext (hx12.keep _))
                  clear hx12
                  by_cases hHH : H1 = H
                  · rw [decide_eq_true hHH]
                    clear hHH
                    go_wp2_with fail
                    refine (crash_ok w12 F10 db D10 HL12.out.disk none 0 [] (Sl.nil _ _ _ _ _) HLV10.out).mono ?_
                    rintro e w14 ⟨rfl, F14, h1, h2, h3⟩
                    have HD14 := Lib.hid h1
                    have hsub : ∀ b ∈ F10, b ∈ lb2 :: F10 := fun b hb => List.mem_cons_of_mem _ hb
                    have HF14 := Lib.hid ((HF12.out.sub hsub).step h2)
                    have HG14 := Lib.hid (HG12.out.ext h2)
                    clear h1 h2 h3 hsub
                    go_wp2_with fail
                    refine (open_ok w14 F14 db (D10.crash []) HD14.out (by show 0 + 20000 < 1000000000; omega)).mono ?_
                    intro e w15 h
                    obtain ⟨lb3, F15, rfl, hl15, hlb15, hk15, -⟩ := LogOn.of_open h HO11.out
                    have HL15 := Lib.hid hl15
                    have HF15 := Lib.hid (HF14.out.step hk15)
                    have HG15 := Lib.hid (HG14.out.ext hk15)
                    clear h hl15 hlb15 hk15
                    go_wp2_with fail
                    refine (lhomes_ok w15 F15 [] lb3 db D11 l11 HL15.out HA11'.out (by simp)).mono ?_
                    rw [HZ11.out]
                    rintro e w16 ⟨A6, c6, rfl, hs16, hx16⟩
                    have HS16 := Lib.hid hs16
                    have HF16 := Lib.hid (HF15.out.more hx16)
                    have HG16 := Lib.hid (HG15.out.ext (hx16.keep _))
                    clear hs16 hx16
                    go_wp2_with fail
                    refine (lsame_ok w16 _ _ A6 A5 c6 c5 H1 H1 HS16.out HG16.out _ _ rfl rfl).mono ?_
                    rw [decide_eq_true rfl]
                    rintro e w17 ⟨rfl, hx17⟩
                    have HF17 := Lib.hid (HF16.out.more hx17)
                    clear hx17
                    go_wp2
                    go_ret
                    exact ⟨rfl, HXB.out.trans HF17.out.ext⟩
                  · rw [decide_eq_false hHH]
                    have hHA : H1 = Ha := by
                      rcases HH1.out with e1 | e1
                      · exact absurd e1 hHH
                      · exact e1
                    have HHA := Lib.hid hHA
                    clear hHH hHA
                    go_wp2_with fail
                    refine (lsame_ok w12 _ _ A5 A4 c5 c4 H1 Ha HG12.out HA12.out _ _ rfl rfl).mono ?_
                    rw [decide_eq_true HHA.out]
                    rintro e w13 ⟨rfl, hx13⟩
                    replace HG12 := Lib.hid (HG12.out.ext (hx13.keep _))
                    replace HL12 := Lib.hid (HL12.out.ext hx13)
                    replace HF12 := Lib.hid (HF12.out.more hx13)
                    clear hx13
                    go_wp2_with fail
                    refine (crash_ok w13 F10 db D10 HL12.out.disk none 0 [] (Sl.nil _ _ _ _ _) HLV10.out).mono ?_
                    rintro e w14 ⟨rfl, F14, h1, h2, h3⟩
                    have HD14 := Lib.hid h1
                    have hsub : ∀ b ∈ F10, b ∈ lb2 :: F10 := fun b hb => List.mem_cons_of_mem _ hb
                    have HF14 := Lib.hid ((HF12.out.sub hsub).step h2)
                    have HG14 := Lib.hid (HG12.out.ext h2)
                    clear h1 h2 h3 hsub
                    go_wp2_with fail
                    refine (open_ok w14 F14 db (D10.crash []) HD14.out (by show 0 + 20000 < 1000000000; omega)).mono ?_
                    intro e w15 h
                    obtain ⟨lb3, F15, rfl, hl15, hlb15, hk15, -⟩ := LogOn.of_open h HO11.out
                    have HL15 := Lib.hid hl15
                    have HF15 := Lib.hid (HF14.out.step hk15)
                    have HG15 := Lib.hid (HG14.out.ext hk15)
                    clear h hl15 hlb15 hk15
                    go_wp2_with fail
                    refine (lhomes_ok w15 F15 [] lb3 db D11 l11 HL15.out HA11'.out (by simp)).mono ?_
                    rw [HZ11.out]
                    rintro e w16 ⟨A6, c6, rfl, hs16, hx16⟩
                    have HS16 := Lib.hid hs16
                    have HF16 := Lib.hid (HF15.out.more hx16)
                    have HG16 := Lib.hid (HG15.out.ext (hx16.keep _))
                    clear hs16 hx16
                    go_wp2_with fail
                    refine (lsame_ok w16 _ _ A6 A5 c6 c5 H1 H1 HS16.out HG16.out _ _ rfl rfl).mono ?_
                    rw [decide_eq_true rfl]
                    rintro e w17 ⟨rfl, hx17⟩
                    have HF17 := Lib.hid (HF16.out.more hx17)
                    clear hx17
                    go_wp2
                    go_ret
                    exact ⟨rfl, HXB.out.trans HF17.out.ext⟩
          · obtain rfl : k = ls.length := by omega
            have hsub : ∀ b ∈ F, b ∈ lb :: F := fun b hb => List.mem_cons_of_mem _ hb
            obtain ⟨w5, rfl⟩ : ∃ w5, w5 = wr := ⟨_, rfl⟩
            obtain ⟨F5, rfl⟩ : ∃ F5, F5 = F := ⟨_, rfl⟩
            obtain ⟨d5, rfl⟩ : ∃ d5, d5 = d := ⟨_, rfl⟩
            have HREC : Hid (∀ cs, Rec 30 15 196 (fun X => X = H ∨ X = Ha) (crashW d5.kept d5.wait cs)) := fun cs => (HLI.out.crash (Hs := fun X => X = H ∨ X = Ha) (Or.inl rfl) cs).mono (by have := HBK.out; omega)
            have HD5 := Lib.hid HLK.out.disk
            have HF5 := Lib.hid (HFK.out.sub hsub)
            have HN5 := Lib.hid (sl_sub HNK.out hsub)
            have HAF5 := Lib.hid (sl_sub HAK.out hsub)
            have HLV5 : Hid (d5.lives < 1000) := by rw [Hid, HLV.out]; omega
            clear hsub
            have q50 := (HF5.out.ext.keep []).cell_some B50.out (by simp)
            go_wp2_with fail
            refine (crash_ok w5 F5 db d5 HD5.out A0' k0 ch0 (HF5.out.sl HS0.out) (by have := HLV5.out; omega)).mono ?_
            rintro e w6 ⟨rfl, F6, h1, h2, h3⟩
            obtain ⟨n, hn⟩ : ∃ n, n = f1 % 60 := ⟨_, rfl⟩
            have hfr := ww_first (HREC.out ch0) ((d5.crash ch0).fused (n : Int)) rfl rfl rfl rfl
            have hlv7 : ((d5.crash ch0).fused (n : Int)).lives < 2000 := by show d5.lives + 1 < 2000; have := HLV5.out; omega
            obtain ⟨D6, hD6⟩ : ∃ D6, D6 = d5.crash ch0 := ⟨_, rfl⟩
            rw [← hD6] at h1 hfr hlv7
            have hw6 : D6.wait.length = 0 := by rw [hD6]; rfl
            have HD6 := Lib.hid h1
            have HF6 := Lib.hid (HF5.out.step h2)
            have HN6 := Lib.hid (HN5.out.ext h2)
            have HA6 := Lib.hid (HAF5.out.ext h2)
            have HFR := Lib.hid hfr
            have HLV7 := Lib.hid hlv7
            have HW6 := Lib.hid hw6
            have HNN : Hid ((f1 : Int) % 60 = (n : Int)) := by unfold Hid; omega
            have hnl : n < 60 := by omega
            have q41 := (HF6.out.ext.keep []).cell_some B41.out (by simp)
            clear h1 h2 h3 hn hfr hlv7 hD6 hw6 q50
            have hNN := HNN.out
            have hf1b : (f1 : Int) ≤ 65535 := by omega
            go_wp2_with fail
            refine (fuse_on0 w6 F6 db D6 HD6.out (n : Int) (by omega)).mono ?_
            rintro e w7 ⟨rfl, h1, h2⟩
            have HD7 := Lib.hid h1
            have HF7 := Lib.hid (HF6.out.step h2)
            have HN7 := Lib.hid (HN6.out.ext h2)
            have HA7 := Lib.hid (HA6.out.ext h2)
            clear h1 h2 q41 hNN
            go_wp2_with fail
            refine (open_ok w7 F6 db (D6.fused (n : Int)) HD7.out (by rw [Dsk.fused_wait, HW6.out]; omega)).mono ?_
            intro e w8 h
            obtain ⟨H1, hH1, hcase, hrec⟩ := HFR.out
            have hlo := open_lives (D6.fused (n : Int))
            rcases hcase with ⟨d8, l8, ho8⟩ | ⟨d8, ho8⟩
            · obtain ⟨lb8, F8, rfl, hl8, -, hk8, -⟩ := LogOn.of_open h ho8
              rw [ho8] at hrec hlo
              have HD8 := Lib.hid hl8.disk
              have HF8 := Lib.hid (HF7.out.step hk8)
              have HN8 := Lib.hid (HN7.out.ext hk8)
              have HAF8 := Lib.hid (HA7.out.ext hk8)
              have HREC2 := Lib.hid hrec
              have HH1 := Lib.hid hH1
              have HLV8 : Hid (d8.lives < 2000) := by have h1 : d8.lives = _ := hlo; rw [Hid, h1]; exact HLV7.out
              clear h ho8 hl8 hk8 hrec hH1 hlo
              have q51b := (HF8.out.ext.keep []).cell_some B51.out (by simp)
              go_wp2_with fail
              refine (crash_ok w8 F8 db d8 HD8.out A1' k1 ch1 (HF8.out.sl HS1.out) (by have := HLV8.out; omega)).mono ?_
              rintro e w9 ⟨rfl, F9, h1, h2, h3⟩
              have hsec := ww_second (HREC2.out ch1) (d8.crash ch1) ⟨rfl, rfl⟩ rfl rfl rfl
              obtain ⟨D9, hD9⟩ : ∃ D9, D9 = d8.crash ch1 := ⟨_, rfl⟩
              have hw9 : D9.wait.length = 0 := by rw [hD9]; rfl
              have hlv9 : D9.lives < 3000 := by rw [hD9]; show d8.lives + 1 < 3000; have := HLV8.out; omega
              have HLV9 := Lib.hid hlv9
              rw [← hD9] at hsec h1
              have HD9 := Lib.hid h1
              have HF9 := Lib.hid (HF8.out.step h2)
              have HN9 := Lib.hid (HN8.out.ext h2)
              have HA9 := Lib.hid (HAF8.out.ext h2)
              have HSEC := Lib.hid hsec
              have HW9 := Lib.hid hw9
              clear h1 h2 h3 hsec hD9 hw9 hlv9 q51b
              go_wp2_with fail
              obtain ⟨D10, l10, o10, a10, z10, n10, dr10, D11, l11, o11, a11, z11, dr11⟩ := HSEC.out
              have HO11 := Lib.hid o11
              have HA10' := Lib.hid a10
              have HA11' := Lib.hid a11
              have HZ10 : Hid (D10.now.drop (2 + l10.size) = H1) := by rw [Hid, z10]; exact dr10
              have HZ11 : Hid (D11.now.drop (2 + l11.size) = H1) := by rw [Hid, z11]; exact dr11
              have HLV10 : Hid (D10.lives < 1000000000) := by
                have h1 := open_lives D9
                rw [o10] at h1
                have h2 : D10.lives = D9.lives := h1
                have h4 := HLV9.out
                rw [Hid, h2]; omega
              refine (open_ok w9 F9 db D9 HD9.out (by rw [HW9.out]; omega)).mono ?_
              intro e w10 h
              obtain ⟨lb2, F10, rfl, hl10, hlb10, hk10, -⟩ := LogOn.of_open h o10
              have HL10 := Lib.hid hl10
              have HF10 := Lib.hid ((HF9.out.step hk10).cons (Nat.le_trans HF9.out.ext.size hlb10))
              have HN10 := Lib.hid (HN9.out.ext hk10)
              have HA10 := Lib.hid (HA9.out.ext hk10)
              clear h hl10 hlb10 hk10 o10 o11 a10 a11 z10 z11 n10 dr10 dr11
              go_wp2_with fail
              refine (lhomes_ok w10 F10 F10 lb2 db D10 l10 HL10.out HA10'.out HL10.out.disk.lt).mono ?_
              rw [HZ10.out]
              rintro e w11 ⟨A5, c5, rfl, hs11, hx11⟩
              have HG11 := Lib.hid hs11
              have HL11 := Lib.hid (HL10.out.ext hx11)
              have HF11 := Lib.hid (HF10.out.more hx11)
              have HN11 := Lib.hid (HN10.out.ext (hx11.keep _))
              have HA11 := Lib.hid (HA10.out.ext (hx11.keep _))
              clear hs11 hx11
              go_wp2_with fail
              refine (lsame_ok w11 _ _ A5 A3 c5 c3 H1 H HG11.out HN11.out _ _ rfl rfl).mono ?_
              rintro e w12 ⟨rfl, hx12⟩
              have HG12 := Lib.hid (HG11.out.ext (hx12.keep _))
              have HL12 := Lib.hid (HL11.out.ext hx12)
              have HF12 := Lib.hid (HF11.out.more hx12)
              have HA12 := Lib.hid (HA11.out.ext (hx12.keep _))
              clear hx12
              by_cases hHH : H1 = H
              · rw [decide_eq_true hHH]
                clear hHH
                go_wp2_with fail
                refine (crash_ok w12 F10 db D10 HL12.out.disk none 0 [] (Sl.nil _ _ _ _ _) HLV10.out).mono ?_
                rintro e w14 ⟨rfl, F14, h1, h2, h3⟩
                have HD14 := Lib.hid h1
                have hsub : ∀ b ∈ F10, b ∈ lb2 :: F10 := fun b hb => List.mem_cons_of_mem _ hb
                have HF14 := Lib.hid ((HF12.out.sub hsub).step h2)
                have HG14 := Lib.hid (HG12.out.ext h2)
                clear h1 h2 h3 hsub
                go_wp2_with fail
                refine (open_ok w14 F14 db (D10.crash []) HD14.out (by show 0 + 20000 < 1000000000; omega)).mono ?_
                intro e w15 h
                obtain ⟨lb3, F15, rfl, hl15, hlb15, hk15, -⟩ := LogOn.of_open h HO11.out
                have HL15 := Lib.hid hl15
                have HF15 := Lib.hid (HF14.out.step hk15)
                have HG15 := Lib.hid (HG14.out.ext hk15)
                clear h hl15 hlb15 hk15
                go_wp2_with fail
                refine (lhomes_ok w15 F15 [] lb3 db D11 l11 HL15.out HA11'.out (by simp)).mono ?_
                rw [HZ11.out]
                rintro e w16 ⟨A6, c6, rfl, hs16, hx16⟩
                have HS16 := Lib.hid hs16
                have HF16 := Lib.hid (HF15.out.more hx16)
                have HG16 := Lib.hid (HG15.out.ext (hx16.keep _))
                clear hs16 hx16
                go_wp2_with fail
                refine (lsame_ok w16 _ _ A6 A5 c6 c5 H1 H1 HS16.out HG16.out _ _ rfl rfl).mono ?_
                rw [decide_eq_true rfl]
                rintro e w17 ⟨rfl, hx17⟩
                have HF17 := Lib.hid (HF16.out.more hx17)
                clear hx17
                go_wp2
                go_ret
                exact ⟨rfl, HXB.out.trans HF17.out.ext⟩
              · rw [decide_eq_false hHH]
                have hHA : H1 = Ha := by
                  rcases HH1.out with e1 | e1
                  · exact absurd e1 hHH
                  · exact e1
                have HHA := Lib.hid hHA
                clear hHH hHA
                go_wp2_with fail
                refine (lsame_ok w12 _ _ A5 A4 c5 c4 H1 Ha HG12.out HA12.out _ _ rfl rfl).mono ?_
                rw [decide_eq_true HHA.out]
                rintro e w13 ⟨rfl, hx13⟩
                replace HG12 := Lib.hid (HG12.out.ext (hx13.keep _))
                replace HL12 := Lib.hid (HL12.out.ext hx13)
                replace HF12 := Lib.hid (HF12.out.more hx13)
                clear hx13
                go_wp2_with fail
                refine (crash_ok w13 F10 db D10 HL12.out.disk none 0 [] (Sl.nil _ _ _ _ _) HLV10.out).mono ?_
                rintro e w14 ⟨rfl, F14, h1, h2, h3⟩
                have HD14 := Lib.hid h1
                have hsub : ∀ b ∈ F10, b ∈ lb2 :: F10 := fun b hb => List.mem_cons_of_mem _ hb
                have HF14 := Lib.hid ((HF12.out.sub hsub).step h2)
                have HG14 := Lib.hid (HG12.out.ext h2)
                clear h1 h2 h3 hsub
                go_wp2_with fail
                refine (open_ok w14 F14 db (D10.crash []) HD14.out (by show 0 + 20000 < 1000000000; omega)).mono ?_
                intro e w15 h
                obtain ⟨lb3, F15, rfl, hl15, hlb15, hk15, -⟩ := LogOn.of_open h HO11.out
                have HL15 := Lib.hid hl15
                have HF15 := Lib.hid (HF14.out.step hk15)
                have HG15 := Lib.hid (HG14.out.ext hk15)
                clear h hl15 hlb15 hk15
                go_wp2_with fail
                refine (lhomes_ok w15 F15 [] lb3 db D11 l11 HL15.out HA11'.out (by simp)).mono ?_
                rw [HZ11.out]
                rintro e w16 ⟨A6, c6, rfl, hs16, hx16⟩
                have HS16 := Lib.hid hs16
                have HF16 := Lib.hid (HF15.out.more hx16)
                have HG16 := Lib.hid (HG15.out.ext (hx16.keep _))
                clear hs16 hx16
                go_wp2_with fail
                refine (lsame_ok w16 _ _ A6 A5 c6 c5 H1 H1 HS16.out HG16.out _ _ rfl rfl).mono ?_
                rw [decide_eq_true rfl]
                rintro e w17 ⟨rfl, hx17⟩
                have HF17 := Lib.hid (HF16.out.more hx17)
                clear hx17
                go_wp2
                go_ret
                exact ⟨rfl, HXB.out.trans HF17.out.ext⟩
            · obtain ⟨F8, hd8, hk8, -, he8, -⟩ := h
              rw [ho8] at hd8 he8 hrec hlo
              obtain rfl := he8 rfl
              have HD8 : Hid (DiskAt w8 F8 db d8) := hd8
              have HF8 := Lib.hid (HF7.out.step hk8)
              have HN8 := Lib.hid (HN7.out.ext hk8)
              have HAF8 := Lib.hid (HA7.out.ext hk8)
              have HREC2 := Lib.hid hrec
              have HH1 := Lib.hid hH1
              have HLV8 : Hid (d8.lives < 2000) := by have h1 : d8.lives = _ := hlo; rw [Hid, h1]; exact HLV7.out
              clear ho8 hd8 hk8 he8 hrec hH1 hlo
              have q51b := (HF8.out.ext.keep []).cell_some B51.out (by simp)
              go_wp2_with fail
              refine (crash_ok w8 F8 db d8 HD8.out A1' k1 ch1 (HF8.out.sl HS1.out) (by have := HLV8.out; omega)).mono ?_
              rintro e w9 ⟨rfl, F9, h1, h2, h3⟩
              have hsec := ww_second (HREC2.out ch1) (d8.crash ch1) ⟨rfl, rfl⟩ rfl rfl rfl
              obtain ⟨D9, hD9⟩ : ∃ D9, D9 = d8.crash ch1 := ⟨_, rfl⟩
              have hw9 : D9.wait.length = 0 := by rw [hD9]; rfl
              have hlv9 : D9.lives < 3000 := by rw [hD9]; show d8.lives + 1 < 3000; have := HLV8.out; omega
              have HLV9 := Lib.hid hlv9
              rw [← hD9] at hsec h1
              have HD9 := Lib.hid h1
              have HF9 := Lib.hid (HF8.out.step h2)
              have HN9 := Lib.hid (HN8.out.ext h2)
              have HA9 := Lib.hid (HAF8.out.ext h2)
              have HSEC := Lib.hid hsec
              have HW9 := Lib.hid hw9
              clear h1 h2 h3 hsec hD9 hw9 hlv9 q51b
              go_wp2_with fail
              obtain ⟨D10, l10, o10, a10, z10, n10, dr10, D11, l11, o11, a11, z11, dr11⟩ := HSEC.out
              have HO11 := Lib.hid o11
              have HA10' := Lib.hid a10
              have HA11' := Lib.hid a11
              have HZ10 : Hid (D10.now.drop (2 + l10.size) = H1) := by rw [Hid, z10]; exact dr10
              have HZ11 : Hid (D11.now.drop (2 + l11.size) = H1) := by rw [Hid, z11]; exact dr11
              have HLV10 : Hid (D10.lives < 1000000000) := by
                have h1 := open_lives D9
                rw [o10] at h1
                have h2 : D10.lives = D9.lives := h1
                have h4 := HLV9.out
                rw [Hid, h2]; omega
              refine (open_ok w9 F9 db D9 HD9.out (by rw [HW9.out]; omega)).mono ?_
              intro e w10 h
              obtain ⟨lb2, F10, rfl, hl10, hlb10, hk10, -⟩ := LogOn.of_open h o10
              have HL10 := Lib.hid hl10
              have HF10 := Lib.hid ((HF9.out.step hk10).cons (Nat.le_trans HF9.out.ext.size hlb10))
              have HN10 := Lib.hid (HN9.out.ext hk10)
              have HA10 := Lib.hid (HA9.out.ext hk10)
              clear h hl10 hlb10 hk10 o10 o11 a10 a11 z10 z11 n10 dr10 dr11
              go_wp2_with fail
              refine (lhomes_ok w10 F10 F10 lb2 db D10 l10 HL10.out HA10'.out HL10.out.disk.lt).mono ?_
              rw [HZ10.out]
              rintro e w11 ⟨A5, c5, rfl, hs11, hx11⟩
              have HG11 := Lib.hid hs11
              have HL11 := Lib.hid (HL10.out.ext hx11)
              have HF11 := Lib.hid (HF10.out.more hx11)
              have HN11 := Lib.hid (HN10.out.ext (hx11.keep _))
              have HA11 := Lib.hid (HA10.out.ext (hx11.keep _))
              clear hs11 hx11
              go_wp2_with fail
              refine (lsame_ok w11 _ _ A5 A3 c5 c3 H1 H HG11.out HN11.out _ _ rfl rfl).mono ?_
              rintro e w12 ⟨rfl, hx12⟩
              have HG12 := Lib.hid (HG11.out.ext (hx12.keep _))
              have HL12 := Lib.hid (HL11.out.ext hx12)
              have HF12 := Lib.hid (HF11.out.more hx12)
              have HA12 := Lib.hid (HA11.out.ext (hx12.keep _))
              clear hx12
              by_cases hHH : H1 = H
              · rw [decide_eq_true hHH]
                clear hHH
                go_wp2_with fail
                refine (crash_ok w12 F10 db D10 HL12.out.disk none 0 [] (Sl.nil _ _ _ _ _) HLV10.out).mono ?_
                rintro e w14 ⟨rfl, F14, h1, h2, h3⟩
                have HD14 := Lib.hid h1
                have hsub : ∀ b ∈ F10, b ∈ lb2 :: F10 := fun b hb => List.mem_cons_of_mem _ hb
                have HF14 := Lib.hid ((HF12.out.sub hsub).step h2)
                have HG14 := Lib.hid (HG12.out.ext h2)
                clear h1 h2 h3 hsub
                go_wp2_with fail
                refine (open_ok w14 F14 db (D10.crash []) HD14.out (by show 0 + 20000 < 1000000000; omega)).mono ?_
                intro e w15 h
                obtain ⟨lb3, F15, rfl, hl15, hlb15, hk15, -⟩ := LogOn.of_open h HO11.out
                have HL15 := Lib.hid hl15
                have HF15 := Lib.hid (HF14.out.step hk15)
                have HG15 := Lib.hid (HG14.out.ext hk15)
                clear h hl15 hlb15 hk15
                go_wp2_with fail
                refine (lhomes_ok w15 F15 [] lb3 db D11 l11 HL15.out HA11'.out (by simp)).mono ?_
                rw [HZ11.out]
                rintro e w16 ⟨A6, c6, rfl, hs16, hx16⟩
                have HS16 := Lib.hid hs16
                have HF16 := Lib.hid (HF15.out.more hx16)
                have HG16 := Lib.hid (HG15.out.ext (hx16.keep _))
                clear hs16 hx16
                go_wp2_with fail
                refine (lsame_ok w16 _ _ A6 A5 c6 c5 H1 H1 HS16.out HG16.out _ _ rfl rfl).mono ?_
                rw [decide_eq_true rfl]
                rintro e w17 ⟨rfl, hx17⟩
                have HF17 := Lib.hid (HF16.out.more hx17)
                clear hx17
                go_wp2
                go_ret
                exact ⟨rfl, HXB.out.trans HF17.out.ext⟩
              · rw [decide_eq_false hHH]
                have hHA : H1 = Ha := by
                  rcases HH1.out with e1 | e1
                  · exact absurd e1 hHH
                  · exact e1
                have HHA := Lib.hid hHA
                clear hHH hHA
                go_wp2_with fail
                refine (lsame_ok w12 _ _ A5 A4 c5 c4 H1 Ha HG12.out HA12.out _ _ rfl rfl).mono ?_
                rw [decide_eq_true HHA.out]
                rintro e w13 ⟨rfl, hx13⟩
                replace HG12 := Lib.hid (HG12.out.ext (hx13.keep _))
                replace HL12 := Lib.hid (HL12.out.ext hx13)
                replace HF12 := Lib.hid (HF12.out.more hx13)
                clear hx13
                go_wp2_with fail
                refine (crash_ok w13 F10 db D10 HL12.out.disk none 0 [] (Sl.nil _ _ _ _ _) HLV10.out).mono ?_
                rintro e w14 ⟨rfl, F14, h1, h2, h3⟩
                have HD14 := Lib.hid h1
                have hsub : ∀ b ∈ F10, b ∈ lb2 :: F10 := fun b hb => List.mem_cons_of_mem _ hb
                have HF14 := Lib.hid ((HF12.out.sub hsub).step h2)
                have HG14 := Lib.hid (HG12.out.ext h2)
                clear h1 h2 h3 hsub
                go_wp2_with fail
                refine (open_ok w14 F14 db (D10.crash []) HD14.out (by show 0 + 20000 < 1000000000; omega)).mono ?_
                intro e w15 h
                obtain ⟨lb3, F15, rfl, hl15, hlb15, hk15, -⟩ := LogOn.of_open h HO11.out
                have HL15 := Lib.hid hl15
                have HF15 := Lib.hid (HF14.out.step hk15)
                have HG15 := Lib.hid (HG14.out.ext hk15)
                clear h hl15 hlb15 hk15
                go_wp2_with fail
                refine (lhomes_ok w15 F15 [] lb3 db D11 l11 HL15.out HA11'.out (by simp)).mono ?_
                rw [HZ11.out]
                rintro e w16 ⟨A6, c6, rfl, hs16, hx16⟩
                have HS16 := Lib.hid hs16
                have HF16 := Lib.hid (HF15.out.more hx16)
                have HG16 := Lib.hid (HG15.out.ext (hx16.keep _))
                clear hs16 hx16
                go_wp2_with fail
                refine (lsame_ok w16 _ _ A6 A5 c6 c5 H1 H1 HS16.out HG16.out _ _ rfl rfl).mono ?_
                rw [decide_eq_true rfl]
                rintro e w17 ⟨rfl, hx17⟩
                have HF17 := Lib.hid (HF16.out.more hx17)
                clear hx17
                go_wp2
                go_ret
                exact ⟨rfl, HXB.out.trans HF17.out.ext⟩
end Go.Proofs.Ytkmnjccklnfcdaa
