/- The statement WalTurned: its contract. -/
import Derived.Test.YtkmnjccklnfcdaaLawWA
import Derived.Test.YtkmnjccklnfcdaaWalTTP
import Derived.Laws.BitsAllLaws
namespace Go.Proofs.Ytkmnjccklnfcdaa
open Go Go.RowKit Bst
set_option linter.unusedVariables false
set_option linter.unusedSimpArgs false
theorem LogOn.of_commit {w w' : World} {F : List Nat} {lb db : Nat} {r : Int × Dsk × Lg} {e : Ending} (h : CommitR F w lb db r e w') {n : Int} {d : Dsk} {l : Lg} (hr : r = (n, d, l)) : ∃ F', e = .returned (.int .i64 n) ∧ LogOn w' F' lb db d l ∧ Keep (lb :: F) w (lb :: F') w' ∧ (∀ x ∈ F, x ∈ F') := by
  subst hr
  obtain ⟨he, F', h1, h2, h3⟩ := h
  exact ⟨F', he, h1, h2, h3⟩
theorem _root_.Bst.Fresh.sl {α : Type} {K : Kd α} {w w' : World} {F : List Nat} {A : Option Addr} {c : Nat} {l : List α} (f : Fresh w F w') (h : Sl K [] w A c l) : Sl K F w' A c l := h.ext (f.ext.freshF f.new)
theorem LogOn.ltc {w : World} {F : List Nat} {lb db : Nat} {d : Dsk} {l : Lg} (h : LogOn w F lb db d l) : ∀ b ∈ lb :: F, b < w.heap.size := fun b hb => by
  rcases List.mem_cons.1 hb with e | e
  · rw [e]; exact h.lt
  · exact h.disk.lt b e
theorem wt_alive : aliveS wtD2 wtL = 0 := by unfold aliveS; rw [wt_off, wt_lives]; rfl
theorem wt_may {ws : List (Int × Sec)} (h : ws.all (mayW wtD2 wtL) = true) : MayE 13 ws := by
  have hh : homesS wtD2.now wtL.size = 13 := by unfold homesS; rw [wt_len]; rfl
  rw [List.all_eq_true] at h
  refine ⟨fun x hx => ?_, fun x hx => ?_⟩
  · have := of_decide_eq_true (h x hx)
    rw [hh] at this
    omega
  · exact (of_decide_eq_true (h x hx)).2.2
theorem xor_u8 (a b : UInt8) : bits .xor .u8 (a.toNat : Int) (b.toNat : Int) = (((a ^^^ b).toNat : Nat) : Int) := by
  rw [u8_xor_nat a.toNat b.toNat (UInt8.toNat_lt a) (UInt8.toNat_lt b), UInt8.toNat_xor]
set_option maxRecDepth 100000 in
set_option maxHeartbeats 8000000 in
theorem law_turned_ok (w : World) (A : Option Addr) (c : Nat) (ws : List (Int × List UInt8)) (at_ : Nat) (x : UInt8) (hat : at_ < 65536) (hs : Sl KApi [] w A c ws) :
    Calls Try.prog 3 #[.slice A ws.length c, .int .u16 (at_ : Int), .int .u8 (x.toNat : Int)] w fun e w' => e = .returned (.bool true) ∧ Ext w w' := by
  have HS := Lib.hid hs
  have hle := hs.len_le
  clear hs
  cases hfw : fewW ws
  · have HFW := Lib.hid hfw
    clear hfw
    go_enter Try.func3, Try.ntmps3
    go_wp2_with fail
    refine (awake_ok w).mono ?_
    rintro e w1 ⟨rfl, hx1⟩
    have HX1 := Lib.hid hx1
    clear hx1
    go_wp2_with fail
    refine (few_ok w1 [] ws A c (HS.out.ext (HX1.out.keep []))).mono ?_
    rw [HFW.out]
    rintro e w2 ⟨rfl, hx2⟩
    have HX2 := Lib.hid (HX1.out.trans hx2)
    clear hx2
    go_wp2
    go_ret
    exact ⟨rfl, HX2.out⟩
  · have HFW := Lib.hid hfw
    have hfl : ws.length ≤ 10 := by
      unfold fewW at hfw
      have := (Bool.and_eq_true _ _).mp hfw
      exact of_decide_eq_true this.1
    clear hfw
    by_cases hne : ws = []
    · subst hne
      go_enter Try.func3, Try.ntmps3
      go_wp2_with fail
      refine (awake_ok w).mono ?_
      rintro e w1 ⟨rfl, hx1⟩
      have HX1 := Lib.hid hx1
      clear hx1
      go_wp2_with fail
      refine (few_ok w1 [] [] A c (HS.out.ext (HX1.out.keep []))).mono ?_
      rw [HFW.out]
      rintro e w2 ⟨rfl, hx2⟩
      have HX2 := Lib.hid (HX1.out.trans hx2)
      clear hx2
      go_wp2
      go_ret
      exact ⟨rfl, HX2.out⟩
    · have t0 : ((ws.length : Int) == 0) = false := by
        have : ws.length ≠ 0 := fun e => hne (List.eq_nil_of_length_eq_zero e)
        simp; omega
      have HNE := Lib.hid hne
      clear hne
      go_enter Try.func3, Try.ntmps3
      go_wp2_with fail
      refine (awake_ok w).mono ?_
      rintro e w1 ⟨rfl, hx1⟩
      have HX1 := Lib.hid hx1
      have HS1 := Lib.hid (HS.out.ext (hx1.keep []))
      clear hx1
      go_wp2_with fail
      refine (few_ok w1 [] ws A c HS1.out).mono ?_
      rw [HFW.out]
      rintro e w2 ⟨rfl, hx2⟩
      have HX2 := Lib.hid (HX1.out.trans hx2)
      have HS2 := Lib.hid (HS1.out.ext (hx2.keep []))
      clear hx2
      go_wp2_with fail
      refine (new_ok w2 40 (by omega) (by omega)).mono ?_
      rintro e w3 ⟨db, F3, rfl, hd3, hf3, hx3⟩
      have HD3 := Lib.hid hd3
      have HF3 : Hid (Fresh w F3 w3) := ⟨HX2.out.trans hx3, fun b hb => Nat.le_trans HX2.out.size (hf3 b hb)⟩
      clear hd3 hf3 hx3
      go_wp2_with fail
      refine (format_ok w3 F3 db (Dsk.new 40) HD3.out 25 ⟨by omega, by show 25 + 3 ≤ (List.replicate 40 _).length; simp⟩ (by show 0 + 25 + 3 < 1000000000; omega)).mono ?_
      rw [show formatS (Dsk.new 40) ((25 : Nat) : Int) = formatS (Dsk.new 40) 25 from rfl]
      rintro e w4 ⟨rfl, F4, h1, h2, h3⟩
      have HD4 : Hid (DiskAt w4 F4 db wtD1) := h1
      have HF4 := Lib.hid (HF3.out.step h2)
      clear h1 h2 h3
      go_wp2_with fail
      refine (open_ok w4 F4 db wtD1 HD4.out (by rw [show wtD1.wait = [] from by kernel_rfl]; simp)).mono ?_
      intro e w5 h
      obtain ⟨lb, F5, rfl, hl5, hlb, hk5, -⟩ := LogOn.of_open h wt_open
      have HL5 := Lib.hid hl5
      have HF5 := Lib.hid ((HF4.out.step hk5).cons (Nat.le_trans HF4.out.ext.size hlb))
      clear h hl5 hk5 hlb
      have hG5 : ∀ b ∈ lb :: F5, b < w5.heap.size := HL5.out.ltc
      go_wp2_with fail
      refine (lhomes_ok w5 F5 (lb :: F5) lb db wtD2 wtL HL5.out wt_alive hG5).mono ?_
      rintro e w6 ⟨A1, c1, rfl, hs6, hx6⟩
      obtain ⟨H0, hH0⟩ : ∃ H0, H0 = wtD2.now.drop 27 := ⟨_, rfl⟩
      have hH1 : wtD2.now.drop (2 + wtL.size) = H0 := by rw [hH0]; rfl
      have HH0 := Lib.hid hH0
      have HH0L : Hid (H0.length = 13) := by rw [Hid, hH0, List.length_drop, wt_len]
      rw [hH1] at hs6 ⊢
      have HS6 := Lib.hid hs6
      have HL6 := Lib.hid (HL5.out.ext hx6)
      have HF6 := Lib.hid (HF5.out.more hx6)
      clear hs6 hx6 hH0 hH1 hG5
      go_wp2_with fail
      refine (commit_ok w6 F5 lb db wtD2 wtL HL6.out ws A c (HF6.out.sl HS.out) (by rw [wt_wait]; simp) (by omega) (by show 0 < 1000000000; omega)).mono ?_
      intro e w7 h
      cases hm : ws.all (mayW wtD2 wtL)
      · have hr : commitS wtD2 wtL ws = (2, wtD2, wtL) := by
          unfold commitS
          rw [wt_alive, if_neg (by decide), if_pos hm]
        obtain ⟨F7, rfl, hl7, hk7, -⟩ := LogOn.of_commit h hr
        have HF7 := Lib.hid (HF6.out.step hk7)
        clear h hr hl7 hk7 hm
        go_wp2
        go_ret
        exact ⟨rfl, HF7.out.ext⟩
      · have hW : WtW ws := ⟨HNE.out, hfl, wt_may hm⟩
        have HW := Lib.hid hW
        obtain ⟨F7, rfl, hl7, hk7, -⟩ := LogOn.of_commit h (wt_commit hW hm)
        obtain ⟨D7, hD7⟩ : ∃ D7, D7 = ((wtD2.puts (laidW 26 0 (entriesB ws))).keepAll).puts (shiftW 25 ws) := ⟨_, rfl⟩
        rw [← hD7] at hl7
        have hcr := wt_crash ws
        have hho := wt_homes hW
        have ha7 : aliveS D7 { wtL with used := 0 + (2 * ws.length + 1), commits := 1 } = 0 := by
          unfold aliveS
          rw [hD7, Dsk.puts_lives, Dsk.keepAll_lives, Dsk.puts_lives, wt_lives, (((wt_calm.puts _).keepAll).puts _).off]
          rfl
        rw [← hD7] at hcr hho
        have HCR := Lib.hid hcr
        have HA7 := Lib.hid ha7
        have HWT : Hid (D7.wait.length ≤ 10 ∧ D7.lives < 1000000000) := by
          rw [hD7]
          refine ⟨?_, by rw [Dsk.puts_lives, Dsk.keepAll_lives, Dsk.puts_lives, wt_lives]; omega⟩
          show (([] : List (Int × Sec)) ++ shiftW 25 ws).length ≤ 10
          simp; omega
        have HL7 := Lib.hid hl7
        have HF7 := Lib.hid (HF6.out.step hk7)
        have HS7 := Lib.hid (HS6.out.ext hk7)
        have HHO : Hid (D7.now.drop (2 + 25) = applyW H0 ws) := by rw [Hid, HH0.out]; exact hho
        clear h hl7 hk7 hm hW hD7 hcr hho ha7
        go_wp2_with fail
        refine (lhomes_ok w7 F7 (lb :: F7) lb db D7 _ HL7.out HA7.out HL7.out.ltc).mono ?_
        rintro e w8 ⟨A2, c2, rfl, hs8, hx8⟩
        rw [show 2 + ({ wtL with used := 0 + (2 * ws.length + 1), commits := 1 } : Lg).size = 2 + 25 from rfl, HHO.out] at hs8 ⊢
        have HS8 := Lib.hid hs8
        have HN8 := Lib.hid (HS7.out.ext (hx8.keep _))
        have HL8 := Lib.hid (HL7.out.ext hx8)
        have HF8 := Lib.hid (HF7.out.more hx8)
        clear hs8 hx8
        go_wp2_with fail
        refine (ldone_ok w8 (lb :: F7) A1 A c1 c H0 ws HN8.out (HF8.out.sl HS.out) HL8.out.ltc (fun y hy => by rw [HH0L.out]; exact HW.out.may.home y hy) (by rw [HH0L.out]; omega) (by omega)).mono ?_
        rintro e w9 ⟨A3, c3, rfl, hs9, hx9⟩
        have HS9 := Lib.hid hs9
        have HA9 := Lib.hid (HS8.out.ext (hx9.keep _))
        have HN9 := Lib.hid (HN8.out.ext (hx9.keep _))
        have HL9 := Lib.hid (HL8.out.ext hx9)
        have HF9 := Lib.hid (HF8.out.more hx9)
        clear hs9 hx9
        go_wp2_with fail
        refine (lsame_ok w9 _ _ A2 A3 c2 c3 (applyW H0 ws) (applyW H0 ws) HA9.out HS9.out _ _ rfl rfl).mono ?_
        rw [decide_eq_true rfl]
        rintro e w10 ⟨rfl, hx10⟩
        have HA10 := Lib.hid (HA9.out.ext (hx10.keep _))
        have HN10 := Lib.hid (HN9.out.ext (hx10.keep _))
        have HL10 := Lib.hid (HL9.out.ext hx10)
        have HF10 := Lib.hid (HF9.out.more hx10)
        clear hx10
        obtain ⟨n, hn⟩ : ∃ n, n = at_ % (64 * (2 * ws.length + 1)) := ⟨_, rfl⟩
        obtain ⟨j, hj⟩ : ∃ j, j = n / 64 := ⟨_, rfl⟩
        obtain ⟨i, hi⟩ : ∃ i, i = n % 64 := ⟨_, rfl⟩
        have hnl : n < 64 * (2 * ws.length + 1) := by rw [hn]; exact Nat.mod_lt _ (by omega)
        have hjl : j < 2 * ws.length + 1 := by omega
        have hil : i < 64 := by omega
        have HNN : Hid ((at_ : Int) % (64 * (2 * (ws.length : Int) + 1)) = (n : Int)) := by
          rw [Hid, hn, Int.natCast_emod]; simp
        have HJJ : Hid (2 + (n : Int) / 64 = ((2 + j : Nat) : Int)) := by unfold Hid; omega
        have hII : (n : Int) % 64 = (i : Int) := by omega
        have HII := Lib.hid hII
        clear hn hj hi hII
        go_wp2_with fail
        refine (crash_ok w10 F7 db D7 HL10.out.disk none 0 [] (Sl.nil _ _ _ _ _) HWT.out.2).mono ?_
        rintro e w11 ⟨rfl, F11, h1, h2, h3⟩
        rw [HCR.out] at h1
        have HD11 := Lib.hid h1
        have hsub : ∀ b ∈ F7, b ∈ lb :: F7 := fun b hb => List.mem_cons_of_mem _ hb
        have HF11 := Lib.hid ((HF10.out.sub hsub).step h2)
        have HA11 := Lib.hid ((HA10.out.ext (Keep.sub w10 hsub)).ext h2)
        have HN11 := Lib.hid ((HN10.out.ext (Keep.sub w10 hsub)).ext h2)
        clear h1 h2 h3 hsub
        have hNN := HNN.out
        have hn0 : (0 : Int) ≤ (n : Int) := by omega
        have hn1 : (n : Int) ≤ 2000 := by omega
        go_wp2_with fail
        rw [HJJ.out]
        obtain ⟨D8, hD8⟩ : ∃ D8, D8 = Dsk.mk (wtK ws) (wtK ws) [] (-1) false 1 := ⟨_, rfl⟩
        have h8n : D8.now = wtK ws := by rw [hD8]
        have h8l : D8.now.length = 40 := by rw [h8n, wtK_len]
        have h8c : D8.Calm := by rw [hD8]; exact ⟨rfl, rfl⟩
        have h8w : D8.wait.length = 0 := by rw [hD8]; rfl
        rw [← hD8] at HD11
        obtain ⟨q, hq⟩ : ∃ q, q = (wtK ws).getD (2 + j) [] := ⟨_, rfl⟩
        have hql : q.length = 64 := by rw [hq]; exact getD_sec (wtK_sec HW.out) (by rw [wtK_len]; omega)
        have HQL := Lib.hid hql
        obtain ⟨y, hy⟩ : ∃ y, y = q.getD i 0 ^^^ x := ⟨_, rfl⟩
        have hbk := wt_back HW.out hjl hil x _ rfl
        rw [← hq, ← hy, ← hD8, ← HH0.out] at hbk
        have hyl : (q.set i y).length = 64 := by rw [List.length_set, hql]
        have hwr := Dsk.write_calm h8c (n := (2 : Int) + (j : Int)) (b := q.set i y) (by omega) (by omega) hyl
        have HWR : Hid (D8.write (2 + (n : Int) / 64) (q.set i y) = (0, D8.puts [((2 : Int) + (j : Int), q.set i y)])) := by rw [Hid, HJJ.out, ← hwr]; congr 1
        have HBK := Lib.hid hbk
        have H8W := Lib.hid h8w
        have H8L := Lib.hid h8l
        have hqi : q[i]? = some (q.getD i 0) := by rw [List.getD_eq_getElem?_getD, List.getElem?_eq_getElem (by omega)]; rfl
        have HQI := Lib.hid hqi
        have hxr := xor_u8 (q.getD i 0) x
        rw [← hy] at hxr
        have HXRR := Lib.hid hxr
        have HYL := Lib.hid hyl
        have HQ8 : Hid (D8.now.getD (2 + j) [] = q) := by rw [Hid, h8n, hq]
        refine (read_ok w11 F11 db D8 HD11.out (2 + j) (by omega) h8c.off).mono ?_
        rw [HQ8.out]
        rintro e w12 ⟨g, rfl, hp12, hg12, hx12⟩
        have HP12 := Lib.hid hp12
        have HD12 := Lib.hid (HD11.out.ext hx12)
        have HF12 := Lib.hid (HF11.out.more hx12)
        have hkg : Keep F11 w11 (g :: F11) w12 := ⟨hx12.os, hx12.tape, hx12.output, hx12.size, fun k hk _ => hx12.block k hk (by simp), fun b hb => by
          rcases List.mem_cons.1 hb with e | e
          · exact .inr (by rw [e]; exact hg12)
          · exact .inl e⟩
        have HA12 := Lib.hid (HA11.out.ext hkg)
        have HN12 := Lib.hid (HN11.out.ext hkg)
        clear hkg
        have HGF : Hid (g ∉ F11) := fun hm => by have := HD11.out.lt g hm; omega
        obtain ⟨v0, hv0⟩ : ∃ v0, v0 = q.getD i 0 := ⟨_, rfl⟩
        rw [← hv0] at HQI hxr HXRR
        have cq : w12.cell? ⟨g, i, none⟩ = some (.int .u8 (v0.toNat : Int)) := HP12.out.cell (by rw [List.getElem?_map, HQI.out]; rfl)
        have cf := HP12.out.frozen i
        have hps := HP12.out.set (k := i) (by omega) y
        have HPS := Lib.hid hps
        have HG11 : Hid (w11.heap.size ≤ g) := hg12
        clear hp12 hg12 hx12 hps hq hql hy hbk hyl hwr h8w h8l h8n hD8 hqi h8c hv0
        have hII := HII.out
        go_wp2_with fail
        have hk13 : Keep [g] w12 [g] (w12.setCell ⟨g, i, none⟩ (.int .u8 (y.toNat : Int))) := Keep.setCell [g] _ _ _ (by simp)
        have hp13 : Bst.Pre encU8 (w12.setCell ⟨g, i, none⟩ (.int .u8 (y.toNat : Int))) g (q.set i y) := HPS.out
        generalize w12.setCell ⟨g, i, none⟩ (.int .u8 (y.toNat : Int)) = w13 at *
        have HD13 := Lib.hid (HD12.out.far hk13 (fun z hz => by simp; intro e; exact HGF.out (e ▸ hz)))
        have HF13 : Hid (Fresh w (g :: F11) w13) := (HF12.out.cons (Nat.le_trans HF11.out.ext.size HG11.out)).step (hk13.widen3 F11)
        have HA13 := Lib.hid (HA12.out.ext (hk13.widen3 F11))
        have HN13 := Lib.hid (HN12.out.ext (hk13.widen3 F11))
        have HS13 : Hid (Sl Kd.u8 F11 w13 (some ⟨g, 0, none⟩) 64 (q.set i y)) := Pre.sl8 hp13 HGF.out (by rw [HYL.out]; omega) (by rw [HYL.out]; omega)
        clear hk13 hp13 cq cf
        refine (write_any w13 F11 db D8 HD13.out (2 + (n : Int) / 64) (q.set i y) (some ⟨g, 0, none⟩) 64 64 HYL.out HS13.out (by rw [H8W.out]; omega)).mono ?_
        rw [HWR.out]
        rintro e w14 ⟨rfl, F14, h1, h2, h3⟩
        obtain ⟨D9, hD9⟩ : ∃ D9, D9 = D8.puts [((2 : Int) + (j : Int), q.set i y)] := ⟨_, rfl⟩
        have HD14 : Hid (DiskAt w14 F14 db D9) := by rw [hD9]; exact h1
        have hbk := HBK.out
        rw [← hD9] at hbk
        have HBK9 := Lib.hid hbk
        have H9W : Hid (D9.wait.length + 20000 < 1000000000) := by rw [hD9, Dsk.puts_wait, List.length_append, H8W.out]; simp [Hid]
        have HF14 := Lib.hid (HF13.out.step (h2.widen2 g))
        have HA14 := Lib.hid (HA13.out.ext (h2.widen2 g))
        have HN14 := Lib.hid (HN13.out.ext (h2.widen2 g))
        clear h1 h2 h3 hbk hD9 HBK
        go_wp2_with fail
        obtain ⟨D10, ho10, hc10, hv10, hl10, hh10⟩ := HBK9.out
        have HHH := Lib.hid hh10
        have ha10 : aliveS D10 ⟨25, 51, 0, 0, 1, 0⟩ = 0 := by unfold aliveS; rw [if_neg (by rw [hc10.off, hv10]; simp)]
        have HA10' := Lib.hid ha10
        refine (open_ok w14 F14 db D9 HD14.out H9W.out).mono ?_
        intro e w15 h
        obtain ⟨lb2, F15, rfl, hl15, hlb15, hk15, -⟩ := LogOn.of_open h ho10
        have HL15 := Lib.hid hl15
        have HF15 := Lib.hid (HF14.out.step (hk15.widen2 g))
        have HA15 := Lib.hid (HA14.out.ext (hk15.widen2 g))
        have HN15 := Lib.hid (HN14.out.ext (hk15.widen2 g))
        clear h hl15 hlb15 hk15 ho10 hc10 hv10 hl10 hh10 ha10
        go_wp2_with fail
        refine (lhomes_ok w15 F15 [] lb2 db D10 _ HL15.out HA10'.out (by simp)).mono ?_
        rintro e w16 ⟨A5, c5, rfl, hs16, hx16⟩
        rw [show 2 + (⟨25, 51, 0, 0, 1, 0⟩ : Lg).size = 27 from rfl, HHH.out] at hs16 ⊢
        have HF16 := Lib.hid (HF15.out.more hx16)
        have HA16 := Lib.hid (HA15.out.ext (hx16.keep _))
        have HN16 := Lib.hid (HN15.out.ext (hx16.keep _))
        have HS16 := Lib.hid hs16
        clear hs16 hx16
        by_cases hx0 : x = 0
        · have t1 : ((x.toNat : Int) == 0) = true := by rw [hx0]; rfl
          have HS17 : Hid (Sl (Kd.slice Kd.u8) [] w16 A5 c5 (applyW H0 ws)) := by have := HS16.out; rwa [if_pos hx0] at this
          rw [if_pos hx0]
          clear hx0 HS16
          go_wp2_with fail
          refine (lsame_ok w16 _ _ A5 A2 c5 c2 (applyW H0 ws) (applyW H0 ws) HS17.out HA16.out _ _ rfl rfl).mono ?_
          rw [decide_eq_true rfl]
          rintro e w17 ⟨rfl, hx17⟩
          have HF17 := Lib.hid (HF16.out.more hx17)
          clear hx17
          go_wp2
          go_ret
          exact ⟨rfl, HF17.out.ext⟩
        · have t1 : ((x.toNat : Int) == 0) = false := by
            have : x.toNat ≠ 0 := fun e => hx0 (UInt8.toNat_inj.1 (by rw [e]; rfl))
            simp; omega
          have HS17 : Hid (Sl (Kd.slice Kd.u8) [] w16 A5 c5 H0) := by have := HS16.out; rwa [if_neg hx0] at this
          rw [if_neg hx0]
          clear hx0 HS16
          go_wp2_with fail
          refine (lsame_ok w16 _ _ A5 A1 c5 c1 H0 H0 HS17.out HN16.out _ _ rfl rfl).mono ?_
          rw [decide_eq_true rfl]
          rintro e w17 ⟨rfl, hx17⟩
          have HF17 := Lib.hid (HF16.out.more hx17)
          clear hx17
          go_wp2
          go_ret
          exact ⟨rfl, HF17.out.ext⟩
theorem law_turned_nat (w : World) (A : Option Addr) (c : Nat) (ws : List (Int × List UInt8)) (at_ n : Nat) (hat : at_ < 65536) (hn : n < 256) (hs : Sl KApi [] w A c ws) :
    Calls Try.prog 3 #[.slice A ws.length c, .int .u16 (at_ : Int), .int .u8 (n : Int)] w fun e w' => e = .returned (.bool true) ∧ Ext w w' := by
  have := law_turned_ok w A c ws at_ (UInt8.ofNat n) hat hs
  rwa [show (UInt8.ofNat n).toNat = n by simp [UInt8.toNat_ofNat']; omega] at this
end Go.Proofs.Ytkmnjccklnfcdaa
