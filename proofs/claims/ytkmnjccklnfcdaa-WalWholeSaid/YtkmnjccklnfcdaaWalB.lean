/- A disk in memory: Write and Flush, whatever comes. A log: Format. -/
import Derived.Test.YtkmnjccklnfcdaaWalA
import Derived.Test.YtkmnjccklnfcdaaR01
namespace Go.Proofs.Ytkmnjccklnfcdaa
open Go Go.RowKit Bst
set_option linter.unusedVariables false
set_option linter.unusedSimpArgs false

theorem write_no (w : World) (F : List Nat) (db : Nat) (d : Dsk) (h : DiskAt w F db d) (n : Int) (hm : d.may n ≠ 0) (A : Option Addr) (k c : Nat) :
    Calls Try.prog 21 #[.pointer (some ⟨db, 0, none⟩), .int .i64 n, .slice A k c] w fun e w' => e = .returned (.int .i64 (d.may n)) ∧ w = w' := by
  have H := Lib.hid h
  clear h
  have d0 : (d.may n != 0) = true := by simpa using hm
  clear hm
  generalize hq : d.may n = q at *
  have HQ := Lib.hid hq
  clear hq
  go_enter Try.func21, Try.ntmps21
  go_wp2_with (go_at_call 74; refine (may_ok w F db d H.out n).mono ?_; rw [HQ.out]; rintro e w' ⟨rfl, rfl⟩)
  go_ret
  exact ⟨rfl, rfl⟩
theorem write_len (w : World) (F : List Nat) (db : Nat) (d : Dsk) (h : DiskAt w F db d) (n : Int) (hm : d.may n = 0) (A : Option Addr) (k c : Nat) (hk : k ≠ 64) :
    Calls Try.prog 21 #[.pointer (some ⟨db, 0, none⟩), .int .i64 n, .slice A k c] w fun e w' => e = .returned (.int .i64 2) ∧ w = w' := by
  have H := Lib.hid h
  have HM := Lib.hid hm
  have d0 : ((k : Int) != 64) = true := by simp; omega
  clear h hm
  go_enter Try.func21, Try.ntmps21
  go_wp2_with (go_at_call 74; refine (may_ok w F db d H.out n).mono ?_; rw [HM.out]; rintro e w' ⟨rfl, rfl⟩)
  go_ret
  exact ⟨rfl, rfl⟩
theorem write_any (w : World) (F : List Nat) (db : Nat) (d : Dsk) (h : DiskAt w F db d) (n : Int) (b : List UInt8) (A : Option Addr) (k c : Nat) (hk : b.length = k) (hs : Sl Kd.u8 F w A c b) (hw : d.wait.length < 1000000000) :
    Calls Try.prog 21 #[.pointer (some ⟨db, 0, none⟩), .int .i64 n, .slice A k c] w fun e w' => e = .returned (.int .i64 (d.write n b).1) ∧ ∃ F', DiskAt w' F' db (d.write n b).2 ∧ Keep F w F' w' ∧ ∀ x ∈ F, x ∈ F' := by
  by_cases hm : d.may n = 0
  · by_cases hb : b.length = 64
    · obtain ⟨h1, h2, h3⟩ : d.off = false ∧ 0 ≤ n ∧ n < d.now.length := by
        rcases d.may_cases n with ⟨_, h1⟩ | ⟨_, _, h1⟩ | ⟨h1, h2, h3, _⟩
        · rw [hm] at h1; cases h1
        · rw [hm] at h1; cases h1
        · exact ⟨h1, h2, h3⟩
      obtain ⟨m, rfl⟩ : ∃ m : Nat, n = (m : Int) := ⟨n.toNat, by omega⟩
      obtain rfl : k = 64 := by omega
      have e1 : d.write (m : Int) b = (if (d.put m b).burnt.off then 30 else 0, (d.put m b).burnt) := by
        unfold Dsk.write; rw [if_neg (by simpa using hm), if_neg (by simpa using hb)]
      rw [e1]
      exact write_ok w F db d h m (by omega) h1 b hb A c hs hw
    · have e1 : d.write n b = (2, d) := by unfold Dsk.write; rw [if_neg (by simpa using hm), if_pos hb]
      rw [e1]
      refine (write_len w F db d h n hm A k c (by omega)).mono ?_
      rintro e w' ⟨rfl, rfl⟩
      exact ⟨rfl, F, h, Keep.refl _ _, fun x hx => hx⟩
  · have e1 : d.write n b = (d.may n, d) := by unfold Dsk.write; rw [if_pos hm]
    rw [e1]
    refine (write_no w F db d h n hm A k c).mono ?_
    rintro e w' ⟨rfl, rfl⟩
    exact ⟨rfl, F, h, Keep.refl _ _, fun x hx => hx⟩
theorem flush_any (w : World) (F : List Nat) (db : Nat) (d : Dsk) (h : DiskAt w F db d) :
    Calls Try.prog 61 #[.pointer (some ⟨db, 0, none⟩)] w fun e w' => e = .returned (.int .i64 d.flush.1) ∧ DiskAt w' F db d.flush.2 ∧ Keep F w F w' := by
  by_cases hm : d.may 0 = 0
  · have h1 : d.off = false := by
      rcases d.may_cases 0 with ⟨_, h1⟩ | ⟨_, _, h1⟩ | ⟨h1, _, _, _⟩
      · rw [hm] at h1; cases h1
      · rw [hm] at h1; cases h1
      · exact h1
    cases hb : d.burnt.off
    · have e1 : d.flush = (0, d.burnt.keepAll) := by unfold Dsk.flush; rw [if_neg (by simpa using hm), if_neg (by rw [hb]; decide)]
      rw [e1]
      exact flush_ok w F db d h h1 hb
    · have e1 : d.flush = (30, d.burnt) := by unfold Dsk.flush; rw [if_neg (by simpa using hm), if_pos hb]
      rw [e1]
      exact flush_burnt w F db d h h1 hb
  · have e1 : d.flush = (d.may 0, d) := by unfold Dsk.flush; rw [if_pos hm]
    rw [e1]
    refine (flush_off w F db d h hm).mono ?_
    rintro e w' ⟨rfl, rfl⟩
    exact ⟨rfl, h, Keep.refl _ _⟩
/-- Two slices of bytes alike. -/
theorem equal8_ok (F : List Nat) (w : World) (A B : Option Addr) (k l c c' : Nat) (x y : List UInt8) (hk : x.length = k) (hl : y.length = l) (hx : Sl Kd.u8 F w A c x) (hy : Sl Kd.u8 F w B c' y) :
    Calls Try.prog 134 #[.slice A k c, .slice B l c'] w fun e w' => e = .returned (.bool (decide (x = y))) ∧ ∃ n, w' = w.drewN n := by
  subst hk
  subst hl
  generalize hla : x = la at *
  generalize hlb : y = lb at *
  clear hla hlb x y
  have la_le := hx.len_le
  have HA := Lib.hid hx
  have HB := Lib.hid hy
  clear hx hy
  by_cases hl : la.length = lb.length
  · have HL := Lib.hid hl
    have hb0 : ((la.length : Int) != (lb.length : Int)) = false := by simp [hl]
    have hl1 : la.length ≤ lb.length := by omega
    clear hl
    go_enter Try.func134, Try.ntmps134
    go_wp2
    go_loopw [13] (fun i wr => ∃ k n : Nat, k ≤ la.length ∧ i = .int .i64 k ∧ wr = w.drewN n ∧ Hid (la.take k = lb.take k)) (fun i _ => la.length - (intOf i).toNat)
    case atStart => exact ⟨0, 0, Nat.zero_le _, rfl, rfl, rfl⟩
    case round =>
      obtain ⟨k, n, hk, rfl, rfl, HT⟩ := hrel
      by_cases hlt : k < la.length
      · obtain ⟨g, o, rfl, ca⟩ := HA.out.u8_at hlt
        obtain ⟨g', o', rfl, cb⟩ := HB.out.u8_at (k := k) (by omega)
        go_wp2
        go_quiet (fail)
        rw [u8_ne]
        have ht := take_eq_iff k HL.out hlt HT.out
        by_cases he : la[k] = lb[k]
        · rw [decide_eq_true he]
          have HT' := Lib.hid (ht.2 he)
          clear he ht
          go_wp2
          go_roundw
          case rel => exact ⟨k + 1, n + nq, by omega, by go_num, rfl, HT'⟩
          case measure => simp [intOf]; omega
        · rw [decide_eq_false he]
          have hne : Hid (la ≠ lb) := fun e => he (by subst e; rfl)
          clear he ht
          go_wp2
          go_ret
          exact ⟨by simp [hne.out], _, by rw [World.drewN_drewN]⟩
      · have he : la = lb := by
          have := HT.out
          rwa [List.take_of_length_le (by omega), List.take_of_length_le (by have := HL.out; omega)] at this
        have HE := Lib.hid he
        clear he
        go_wp2
        go_ret
        exact ⟨by simp [HE.out], _, rfl⟩
  · have hne : Hid (la ≠ lb) := fun e => hl (by subst e; rfl)
    have hb0 : ((la.length : Int) != (lb.length : Int)) = true := by simp; omega
    go_enter Try.func134, Try.ntmps134
    go_wp2
    go_ret
    exact ⟨by simp [hne.out], 0, rfl⟩

end Go.Proofs.Ytkmnjccklnfcdaa
namespace Bst
theorem burnt_wait (d : Dsk) : d.burnt.wait = d.wait := by unfold Dsk.burnt; split <;> rfl
theorem burnt_now (d : Dsk) : d.burnt.now = d.now := by unfold Dsk.burnt; split <;> rfl
theorem burnt_lives (d : Dsk) : d.burnt.lives = d.lives := by unfold Dsk.burnt; split <;> rfl
theorem write_wait (d : Dsk) (n : Int) (b : Sec) : (d.write n b).2.wait.length ≤ d.wait.length + 1 := by
  unfold Dsk.write
  split
  · exact Nat.le_succ _
  · split
    · exact Nat.le_succ _
    · show (d.put n b).burnt.wait.length ≤ _; rw [burnt_wait]; simp [Dsk.put]
theorem write_now (d : Dsk) (n : Int) (b : Sec) : (d.write n b).2.now.length = d.now.length := by
  unfold Dsk.write
  split
  · rfl
  · split
    · rfl
    · show (d.put n b).burnt.now.length = _; rw [burnt_now]; simp [Dsk.put]
theorem flush_wait (d : Dsk) : d.flush.2.wait.length ≤ d.wait.length := by
  unfold Dsk.flush
  split
  · exact Nat.le_refl _
  · split
    · show d.burnt.wait.length ≤ _; rw [burnt_wait]; exact Nat.le_refl _
    · exact Nat.zero_le _
theorem slotB_length (b s : Nat) : (slotB b s).length = 64 := by simp [slotB, beL_length, zeros]
theorem flush_now (d : Dsk) : d.flush.2.now = d.now := by
  unfold Dsk.flush
  split
  · rfl
  · split
    · exact burnt_now d
    · exact burnt_now d
end Bst
namespace Go.Proofs.Ytkmnjccklnfcdaa
open Go Go.RowKit Bst
set_option linter.unusedVariables false
set_option linter.unusedSimpArgs false

theorem DiskAt.lt {w : World} {F : List Nat} {db : Nat} {d : Dsk} (h : DiskAt w F db d) : ∀ x ∈ F, x < w.heap.size := by
  obtain ⟨_, _, _, h⟩ := h; exact h.ltF
theorem DiskAt.len {w : World} {F : List Nat} {db : Nat} {d : Dsk} (h : DiskAt w F db d) : 1 ≤ d.now.length ∧ d.now.length ≤ 16384 := by
  obtain ⟨_, _, _, h⟩ := h; exact ⟨h.ok.pos, h.ok.le⟩
theorem format_no (w : World) (F : List Nat) (db : Nat) (d : Dsk) (h : DiskAt w F db d) (n : Int) (hn : -9223372036854775808 ≤ n ∧ n ≤ 9223372036854775807) (hr : ¬ (3 ≤ n ∧ n + 3 ≤ (d.now.length : Int))) :
    Calls Try.prog 13 #[.pointer (some ⟨db, 0, none⟩), .int .i64 n] w fun e w' => e = .returned (.int .i64 2) ∧ w = w' := by
  have H := Lib.hid h
  have hl := h.len
  have h0 : ((d.now.length : Int) == 0) = false := by rw [beq_eq_false_iff_ne]; omega
  have HN := Lib.hid hn
  have HR := Lib.hid (decide_eq_false hr)
  clear h hn hr hl
  go_enter Try.func13, Try.ntmps13
  go_wp2_with (first
    | (go_at_call 59; refine (size_ok w F db d H.out).mono ?_; rintro e w' ⟨rfl, rfl⟩)
    | (go_at_call 60; refine (room_ok w F db d H.out n HN.out).mono ?_; rw [HR.out]; rintro e w' ⟨rfl, rfl⟩))
  go_ret
  exact ⟨rfl, rfl⟩
set_option maxRecDepth 100000 in
set_option maxHeartbeats 1000000 in
theorem format_ok (w : World) (F : List Nat) (db : Nat) (d : Dsk) (h : DiskAt w F db d) (s : Nat) (hr : 3 ≤ s ∧ s + 3 ≤ d.now.length) (hw : d.wait.length + s + 3 < 1000000000) :
    Calls Try.prog 13 #[.pointer (some ⟨db, 0, none⟩), .int .i64 (s : Int)] w fun e w' => e = .returned (.int .i64 (formatS d (s : Int)).1) ∧ ∃ F', DiskAt w' F' db (formatS d (s : Int)).2 ∧ Keep F w F' w' ∧ ∀ x ∈ F, x ∈ F' := by
  have H := Lib.hid h
  have hl := h.len
  have h0 : ((d.now.length : Int) == 0) = false := by rw [beq_eq_false_iff_ne]; omega
  have hs : s ≤ 16384 := by omega
  have HR : Hid (decide (3 ≤ (s : Int) ∧ (s : Int) + 3 ≤ (d.now.length : Int)) = true) := decide_eq_true (by omega)
  have HI : Hid (-9223372036854775808 ≤ (s : Int) ∧ (s : Int) ≤ 9223372036854775807) := ⟨by omega, by omega⟩
  have HFO : Hid (formatS d (s : Int) =
      let a := blankS d 1 (1 + s)
      if a.1 ≠ 0 then a else
      let b := a.2.flush
      if b.1 ≠ 0 then b else
      let c := b.2.write 0 (slotB 1 s)
      if c.1 ≠ 0 then c else c.2.flush) := by
    unfold Hid formatS
    rw [if_neg (by omega)]
    rfl
  have HW := Lib.hid hw
  clear h hr hl
  go_enter Try.func13, Try.ntmps13
  go_wp2_with (first
    | (go_at_call 59; refine (size_ok w F db d H.out).mono ?_; rintro e w' ⟨rfl, rfl⟩)
    | (go_at_call 60; refine (room_ok w F db d H.out (s : Int) HI.out).mono ?_; rw [HR.out]; rintro e w' ⟨rfl, rfl⟩))
  go_loopw [5] (fun iv wr => ∃ (j : Nat) (dj : Dsk) (Fj : List Nat), j ≤ 1 + s ∧ iv = .int .i64 ((1 + j : Nat) : Int) ∧ Hid (DiskAt wr Fj db dj) ∧ Hid (Keep F w Fj wr) ∧ Hid (∀ x ∈ F, x ∈ Fj) ∧ Hid (blankS d 1 (1 + s) = blankS dj (1 + j) (1 + s - j)) ∧ Hid (dj.wait.length ≤ d.wait.length + j)) (fun iv _ => (3 + s) - (intOf iv).toNat)
  case atStart => exact ⟨0, d, F, Nat.zero_le _, rfl, H.out, Keep.refl _ _, fun x hx => hx, rfl, Nat.le_refl _⟩
  case round =>
    obtain ⟨j, dj, Fj, hj, rfl, HD, HK, HF, HB, HJ⟩ := hrel
    by_cases hlt : j < 1 + s
    · have hd : decide (1 + j < 2 + s) = true := decide_eq_true (by omega)
      have hmk := make64 wr
      have hP := pre64 wr
      have hxa := Ext.alloc wr (.cells z64.toArray 5)
      obtain ⟨wa, hwa⟩ : ∃ wa, wa = wr.alloc (.cells z64.toArray 5) := ⟨_, rfl⟩
      rw [← hwa] at hmk hP hxa
      have hnF : wr.heap.size ∉ Fj := fun hm => by have := HD.out.lt _ hm; omega
      obtain ⟨g, hg⟩ : ∃ g, g = wr.heap.size := ⟨_, rfl⟩
      rw [← hg] at hmk hP hnF
      have HSL : Hid (Sl Kd.u8 Fj wa (some ⟨g, 0, none⟩) 64 (zeros 64)) := Pre.sl8 hP hnF (by rw [zeros_length]; omega) (by rw [zeros_length]; omega)
      have HDA := Lib.hid (HD.out.ext hxa)
      have HKA := Lib.hid (HK.out.trans (hxa.keep Fj))
      have HWB : Hid (dj.wait.length < 1000000000) := by have := HJ.out; have := HW.out; unfold Hid; omega
      have hstep : blankS dj (1 + j) (1 + s - j) = if (dj.write ((1 + j : Nat) : Int) (zeros 64)).1 ≠ 0 then dj.write ((1 + j : Nat) : Int) (zeros 64) else blankS (dj.write ((1 + j : Nat) : Int) (zeros 64)).2 (1 + j + 1) (s - j) := by
        rw [show 1 + s - j = (s - j) + 1 by omega, blankS]
      have hww := write_wait dj ((1 + j : Nat) : Int) (zeros 64)
      obtain ⟨r, hr⟩ : ∃ r, r = (dj.write ((1 + j : Nat) : Int) (zeros 64)).1 := ⟨_, rfl⟩
      rw [← hr] at hstep
      by_cases he : r = 0
      · subst he
        rw [if_neg (by simp)] at hstep
        have HST := Lib.hid (HB.out.trans hstep)
        have HWW : Hid ((dj.write ((1 + j : Nat) : Int) (zeros 64)).2.wait.length ≤ d.wait.length + (j + 1)) := by have := HJ.out; unfold Hid; omega
        have HRR := Lib.hid hr
        clear hwa hg hnF hP hxa hstep hww hr
        go_wp2_with (go_at_call 21; refine (write_any wa Fj db dj HDA.out ((1 + j : Nat) : Int) (zeros 64) (some ⟨g, 0, none⟩) 64 64 (zeros_length 64) HSL.out HWB.out).mono ?_; rw [← HRR.out]; rintro e w' ⟨rfl, F2, h1, h2, h3⟩; have H1 := Lib.hid h1; have H2 := Lib.hid (HKA.out.trans h2); have H3 := Lib.hid h3; clear h1 h2 h3)
        go_roundw
        case rel => exact ⟨j + 1, _, F2, by omega, by go_num, H1.out, H2.out, fun x hx => H3.out x (HF.out x hx), by have := HST.out; rw [show 1 + s - (j + 1) = s - j by omega]; exact this, HWW.out⟩
        case measure => simp [intOf] <;> omega
      · have d0 : (r != 0) = true := by simpa using he
        rw [if_pos (by simpa using he)] at hstep
        have HST := Lib.hid (HB.out.trans hstep)
        have HRR := Lib.hid hr
        have HRES : Hid (formatS d (s : Int) = dj.write ((1 + j : Nat) : Int) (zeros 64)) := by
          unfold Hid
          rw [HFO.out]
          show (if (blankS d 1 (1 + s)).1 ≠ 0 then blankS d 1 (1 + s) else _) = _
          rw [HST.out, ← hr, if_pos (by simpa using he)]
        clear hwa hg hnF hP hxa hstep hww hr he
        go_wp2_with (go_at_call 21; refine (write_any wa Fj db dj HDA.out ((1 + j : Nat) : Int) (zeros 64) (some ⟨g, 0, none⟩) 64 64 (zeros_length 64) HSL.out HWB.out).mono ?_; rw [← HRR.out]; rintro e w' ⟨rfl, F2, h1, h2, h3⟩; have H1 := Lib.hid h1; have H2 := Lib.hid (HKA.out.trans h2); have H3 := Lib.hid h3; clear h1 h2 h3)
        go_ret
        exact ⟨by rw [HRES.out, ← HRR.out]; rfl, F2, by rw [HRES.out]; exact H1.out, H2.out, fun x hx => H3.out x (HF.out x hx)⟩
    · obtain rfl : j = 1 + s := by omega
      have hd : decide (1 + (1 + s) < 2 + s) = false := decide_eq_false (by omega)
      have HBL : Hid (blankS d 1 (1 + s) = (0, dj)) := by
        unfold Hid; rw [HB.out, Nat.sub_self]; rfl
      obtain ⟨r, hr⟩ : ∃ r, r = dj.flush.1 := ⟨_, rfl⟩
      have HRR := Lib.hid hr
      have hfw := flush_wait dj
      have HFW : Hid (dj.flush.2.wait.length < 1000000000) := by have := HJ.out; have := HW.out; unfold Hid; omega
      by_cases he : r = 0
      · subst he
        obtain ⟨q, hq⟩ : ∃ q, q = (dj.flush.2.write 0 (slotB 1 s)).1 := ⟨_, rfl⟩
        have HQQ := Lib.hid hq
        by_cases hq0 : q = 0
        · subst hq0
          have HRES : Hid (formatS d (s : Int) = (dj.flush.2.write 0 (slotB 1 s)).2.flush) := by
            unfold Hid
            rw [HFO.out, HBL.out]
            show (if dj.flush.1 ≠ 0 then dj.flush else if (dj.flush.2.write 0 (slotB 1 s)).1 ≠ 0 then dj.flush.2.write 0 (slotB 1 s) else (dj.flush.2.write 0 (slotB 1 s)).2.flush) = _
            rw [← hr, ← hq]; rfl
          clear hr hq hfw
          go_wp2_with (first
            | (go_at_call 61; refine (flush_any wr Fj db dj HD.out).mono ?_; rw [← HRR.out]; rintro e w1 ⟨rfl, h1, h2⟩; have H1 := Lib.hid h1; have H2 := Lib.hid (HK.out.trans h2); clear h1 h2)
            | (go_at_call 62; refine (slotBytes_ok w1 1 s (by omega) (by omega)).mono ?_; rintro e w2 ⟨g, rfl, h1, h2, h3⟩; have HD2 := Lib.hid (H1.out.ext h3); have HK2 := Lib.hid (H2.out.trans (h3.keep Fj)); have HS2 : Hid (Sl Kd.u8 Fj w2 (some ⟨g, 0, none⟩) 64 (slotB 1 s)) := Pre.sl8 h1 (fun hm => by have := H1.out.lt _ hm; omega) (by rw [slotB_length]; omega) (by rw [slotB_length]; omega); clear h1 h2 h3)
            | (go_at_call 21; refine (write_any w2 Fj db dj.flush.2 HD2.out 0 (slotB 1 s) (some ⟨g, 0, none⟩) 64 64 (slotB_length 1 s) HS2.out HFW.out).mono ?_; rw [← HQQ.out]; rintro e w3 ⟨rfl, F2, h1, h2, h3⟩; have HD3 := Lib.hid h1; have HK3 := Lib.hid (HK2.out.trans h2); have HF3 := Lib.hid h3; clear h1 h2 h3))
          refine (flush_any _ F2 db _ HD3.out).mono ?_
          rintro e w4 ⟨rfl, h1, h2⟩
          have HD4 := Lib.hid h1
          have HK4 := Lib.hid (HK3.out.trans h2)
          clear h1 h2
          obtain ⟨u, hu⟩ : ∃ u, u = (dj.flush.2.write 0 (slotB 1 s)).2.flush.1 := ⟨_, rfl⟩
          have HU := Lib.hid hu
          rw [← hu]
          clear hu
          go_wp2
          go_ret
          exact ⟨by rw [HRES.out, ← HU.out]; rfl, F2, by rw [HRES.out]; exact HD4.out, HK4.out, fun x hx => HF3.out x (HF.out x hx)⟩
        · have d0 : (q != 0) = true := by simpa using hq0
          have HRES : Hid (formatS d (s : Int) = dj.flush.2.write 0 (slotB 1 s)) := by
            unfold Hid
            rw [HFO.out, HBL.out]
            show (if dj.flush.1 ≠ 0 then dj.flush else if (dj.flush.2.write 0 (slotB 1 s)).1 ≠ 0 then dj.flush.2.write 0 (slotB 1 s) else (dj.flush.2.write 0 (slotB 1 s)).2.flush) = _
            rw [← hr, ← hq, if_neg (by simp), if_pos hq0]
          clear hr hq hfw hq0
          go_wp2_with (first
            | (go_at_call 61; refine (flush_any wr Fj db dj HD.out).mono ?_; rw [← HRR.out]; rintro e w1 ⟨rfl, h1, h2⟩; have H1 := Lib.hid h1; have H2 := Lib.hid (HK.out.trans h2); clear h1 h2)
            | (go_at_call 62; refine (slotBytes_ok w1 1 s (by omega) (by omega)).mono ?_; rintro e w2 ⟨g, rfl, h1, h2, h3⟩; have HD2 := Lib.hid (H1.out.ext h3); have HK2 := Lib.hid (H2.out.trans (h3.keep Fj)); have HS2 : Hid (Sl Kd.u8 Fj w2 (some ⟨g, 0, none⟩) 64 (slotB 1 s)) := Pre.sl8 h1 (fun hm => by have := H1.out.lt _ hm; omega) (by rw [slotB_length]; omega) (by rw [slotB_length]; omega); clear h1 h2 h3)
            | (go_at_call 21; refine (write_any w2 Fj db dj.flush.2 HD2.out 0 (slotB 1 s) (some ⟨g, 0, none⟩) 64 64 (slotB_length 1 s) HS2.out HFW.out).mono ?_; rw [← HQQ.out]; rintro e w3 ⟨rfl, F2, h1, h2, h3⟩; have HD3 := Lib.hid h1; have HK3 := Lib.hid (HK2.out.trans h2); have HF3 := Lib.hid h3; clear h1 h2 h3))
          go_ret
          exact ⟨by rw [HRES.out, ← HQQ.out]; rfl, F2, by rw [HRES.out]; exact HD3.out, HK3.out, fun x hx => HF3.out x (HF.out x hx)⟩
      · have d0 : (r != 0) = true := by simpa using he
        have HRES : Hid (formatS d (s : Int) = dj.flush) := by
          unfold Hid
          rw [HFO.out, HBL.out]
          show (if dj.flush.1 ≠ 0 then dj.flush else _) = _
          rw [← hr, if_pos he]
        clear hr hfw he
        go_wp2_with (go_at_call 61; refine (flush_any wr Fj db dj HD.out).mono ?_; rw [← HRR.out]; rintro e w1 ⟨rfl, h1, h2⟩; have H1 := Lib.hid h1; have H2 := Lib.hid (HK.out.trans h2); clear h1 h2)
        go_ret
        exact ⟨by rw [HRES.out, ← HRR.out]; rfl, Fj, by rw [HRES.out]; exact H1.out, H2.out, HF.out⟩
end Go.Proofs.Ytkmnjccklnfcdaa
