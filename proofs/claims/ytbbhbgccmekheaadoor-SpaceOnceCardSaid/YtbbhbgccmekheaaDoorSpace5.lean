/- Contracts: Claim and Give of a space. -/
import Derived.Test.YtbbhbgccmekheaaDoorSpace4
namespace Go.Proofs.YtbbhbgccmekheaaDoor
open Go Go.RowKit Bst
set_option linter.unusedVariables false
set_option linter.unusedSimpArgs false

set_option maxHeartbeats 2000000 in
theorem all_ok (w : World) (b g : Nat) (T : List Bool) (h : SpaceAt w b g T) (A : Option Addr) (c : Nat) (l : List Int) (hl : Sl Kd.int [b, g] w A c l) (free : Bool) :
    Calls Tryd.prog 37 #[.pointer (some ⟨b, 0, none⟩), .slice A l.length c, .bool free] w fun e w' =>
      e = .returned (.int .i64 (turnS T l (!free)).1) ∧ SpaceAt w' b g (turnS T l (!free)).2 ∧ Keep [b, g] w [b, g] w' := by
  have hs := h.size
  have hle := hl.len_le
  have hcap := hl.cap
  obtain ⟨c0, -, c3, -⟩ := h.head
  have H := Lib.hid h
  have HLl := Lib.hid hl
  clear h hl
  go_enter Tryd.func37, Tryd.ntmps37
  go_wp2
  go_loopw [22] (fun i wr => ∃ k : Nat, k ≤ l.length ∧ i = .int .i64 (k : Int) ∧ Hid (Upto T l (!free) k) ∧ Hid (SpaceAt wr b g (flips T (l.take k))) ∧ Hid (Keep [b, g] w [b, g] wr)) (fun i _ => l.length - (intOf i).toNat)
  case atStart => exact ⟨0, Nat.zero_le _, rfl, upto_zero T l _, H.out, Keep.refl _ _⟩
  case round =>
    obtain ⟨k, hk, rfl, HU, HS, HK⟩ := hrel
    by_cases hlt : k < l.length
    · obtain ⟨a, o, hA, hcell, hi64⟩ := (HLl.out.ext HK.out).int_at hlt
      have hlen := flips_length T (l.take k)
      obtain ⟨d0, -, -, -⟩ := HS.out.head
      rw [hlen] at d0
      have hnx := fun h0 h1 => upto_next (was := !free) hlt HU.out h0 h1
      have HSU := Lib.hid (upto_succ (T := T) (was := !free) hlt)
      have hts := flips_snoc T (l.take k) l[k]
      have etk : l.take k ++ [l[k]] = l.take (k + 1) := (List.take_succ_eq_append_getElem hlt).symm
      rw [etk] at hts
      have HTS := Lib.hid hts
      have HNX := Lib.hid hnx
      have HLEN := Lib.hid hlen
      clear hts etk hnx hlen
      generalize l[k] = n at *
      by_cases hgood : Upto T l (!free) (k + 1)
      · subst hA
        obtain ⟨h0, h1, h2⟩ := (HSU.out.1 hgood).2.1
        have hgd := (HNX.out h0 h1).1 hgood
        obtain ⟨nn, rfl⟩ := Int.eq_ofNat_of_zero_le h0
        simp only [Int.toNat_natCast] at hgd h2
        have q0 : decide ((nn : Int) < 0) = false := decide_eq_false (by omega)
        have q1 : decide (T.length ≤ nn) = false := decide_eq_false (by omega)
        have hTk : nn < (flips T (l.take k)).length := by rw [HLEN.out]; omega
        have HG := Lib.hid hgd
        have HGOOD := Lib.hid hgood
        clear h2 hgd hgood
        go_wp2_with (go_at_call 21; refine (has_in _ b g _ _ HS.out nn hTk).mono ?_; rintro e w' ⟨rfl, rfl⟩; rw [HG.out, Bool.not_not])
        refine (turn_ok _ b g _ HS.out nn hTk).mono ?_
        rintro e w1 ⟨rfl, hsp1, hk1⟩
        have HS1 := Lib.hid hsp1
        have HK1 := Lib.hid (HK.out.trans hk1)
        clear hsp1 hk1
        go_wp2
        go_roundw
        case rel => exact ⟨k + 1, by omega, by go_num, HGOOD.out, by rw [Hid, HTS.out]; simpa using HS1.out, HK1.out⟩
        case measure => simp [intOf]; omega
      · have HX := Lib.hid (not_upto hgood)
        have hbad : n < 0 ∨ (0 ≤ n ∧ (T.length : Int) ≤ n) ∨ (∃ nn : Nat, n = nn ∧ nn < T.length ∧ (flips T (l.take k)).getD nn false = free) := by
          by_cases h0 : n < 0
          · exact .inl h0
          · by_cases h1 : (T.length : Int) ≤ n
            · exact .inr (.inl ⟨by omega, h1⟩)
            · refine .inr (.inr ⟨n.toNat, by omega, by omega, ?_⟩)
              have := mt (HNX.out (by omega) (by omega)).2 hgood
              cases free <;> simpa using this
        have HFF : Hid (flips (flips T (l.take k)) (l.take k) = T) := flips_flips T (l.take k)
        have HR : Hid (∀ x ∈ l.take k, 0 ≤ x ∧ x < T.length) := fun x hx => ⟨(HU.out.1 x hx).1, (HU.out.1 x hx).2.1⟩
        have HA := Lib.hid hA
        subst hA
        clear hgood
        rcases hbad with hb0 | ⟨hb1, hb2⟩ | ⟨nn, rfl, hn1, hn2⟩
        all_goals first
          | (have q0 : decide (n < 0) = true := decide_eq_true hb0
             go_wp2)
          | (have q0 : decide (n < 0) = false := decide_eq_false (by omega)
             have q1 : decide ((T.length : Int) ≤ n) = true := decide_eq_true hb2
             go_wp2)
          | (have q0 : decide ((nn : Int) < 0) = false := decide_eq_false (by omega)
             have q1 : decide (T.length ≤ nn) = false := decide_eq_false (by omega)
             have hTk : nn < (flips T (l.take k)).length := by rw [HLEN.out]; omega
             have HG := Lib.hid hn2
             clear hn2
             go_wp2_with (go_at_call 21; refine (has_in _ b g _ _ HS.out nn hTk).mono ?_; rintro e w' ⟨rfl, rfl⟩; rw [HG.out]))
        all_goals
          go_loopw [48] (fun i wx => ∃ j : Nat, j ≤ k ∧ i = .int .i64 (j : Int) ∧ Hid (SpaceAt wx b g (flips (flips T (l.take k)) (l.take j))) ∧ Hid (Keep [b, g] w [b, g] wx)) (fun i _ => k - (intOf i).toNat)
          case atStart => exact ⟨0, Nat.zero_le _, rfl, HS.out, HK.out⟩
          case round =>
            obtain ⟨j, hj, rfl, HS2, HK2⟩ := hrel
            by_cases hjk : j < k
            · obtain ⟨a2, o2, hA2, hcell2, -⟩ := (HLl.out.ext HK2.out).int_at (k := j) (by omega)
              injection hA2 with hA2
              injection hA2 with hA3 hA4
              subst hA3; subst hA4
              have hjl : j < l.length := by omega
              obtain ⟨r0, r1⟩ := HR.out l[j] (List.mem_take_iff_getElem.2 ⟨j, by omega, rfl⟩)
              have hts := flips_snoc (flips T (l.take k)) (l.take j) l[j]
              have etk : l.take j ++ [l[j]] = l.take (j + 1) := (List.take_succ_eq_append_getElem hjl).symm
              rw [etk] at hts
              have HTS2 := Lib.hid hts
              clear hts etk
              generalize l[j] = y at *
              obtain ⟨yy, rfl⟩ := Int.eq_ofNat_of_zero_le r0
              have hyy : yy < (flips (flips T (l.take k)) (l.take j)).length := by rw [flips_length, HLEN.out]; omega
              go_wp2_with (go_at_call 35; refine (turn_ok _ b g _ HS2.out yy hyy).mono ?_; rintro e w1 ⟨rfl, hsp1, hk1⟩; have HS3 := Lib.hid hsp1; have HK3 := Lib.hid (HK2.out.trans hk1); clear hsp1 hk1)
              go_roundw
              case rel => exact ⟨j + 1, by omega, by go_num, by rw [Hid, HTS2.out]; simpa using HS3.out, HK3.out⟩
              case measure => simp [intOf]; omega
            · have hjk2 : l.take j = l.take k := by rw [show j = k by omega]
              have hB2 := HS2.out
              rw [hjk2, HFF.out] at hB2
              have HB2 := Lib.hid hB2
              clear hjk2 hB2
              go_wp2
              go_ret
              exact ⟨ret_int (by rw [turnS_no HX.out]), by rw [turnS_no HX.out]; exact HB2.out, HK2.out⟩
    · have HOK : Hid (TurnOk T l (!free)) := (upto_all (by omega)).1 HU.out
      have e1 : flips T (l.take k) = flips T l := by rw [List.take_of_length_le (by omega)]
      have hB2 := HS.out
      rw [e1] at hB2
      have HB2 := Lib.hid hB2
      clear e1 hB2
      go_wp2
      go_ret
      exact ⟨ret_int (by rw [turnS_yes HOK.out]), by rw [turnS_yes HOK.out]; exact HB2.out, HK.out⟩
theorem claim_ok (w : World) (b g : Nat) (T : List Bool) (h : SpaceAt w b g T) (A : Option Addr) (c : Nat) (l : List Int) (hl : Sl Kd.int [b, g] w A c l) :
    Calls Tryd.prog 15 #[.pointer (some ⟨b, 0, none⟩), .slice A l.length c] w fun e w' =>
      e = .returned (.int .i64 (turnS T l false).1) ∧ SpaceAt w' b g (turnS T l false).2 ∧ Keep [b, g] w [b, g] w' := by
  go_enter Tryd.func15, Tryd.ntmps15
  go_wp2_with fail
  refine (all_ok w b g T h A c l hl true).mono ?_
  rintro e w' ⟨rfl, h1, h2⟩
  simp only [Bool.not_true] at h1 ⊢
  have H1 := Lib.hid h1
  have H2 := Lib.hid h2
  clear h1 h2
  go_wp2
  go_ret
  exact ⟨rfl, H1.out, H2.out⟩
theorem give_ok (w : World) (b g : Nat) (T : List Bool) (h : SpaceAt w b g T) (A : Option Addr) (c : Nat) (l : List Int) (hl : Sl Kd.int [b, g] w A c l) :
    Calls Tryd.prog 17 #[.pointer (some ⟨b, 0, none⟩), .slice A l.length c] w fun e w' =>
      e = .returned (.int .i64 (turnS T l true).1) ∧ SpaceAt w' b g (turnS T l true).2 ∧ Keep [b, g] w [b, g] w' := by
  go_enter Tryd.func17, Tryd.ntmps17
  go_wp2_with fail
  refine (all_ok w b g T h A c l hl false).mono ?_
  rintro e w' ⟨rfl, h1, h2⟩
  simp only [Bool.not_false] at h1 ⊢
  have H1 := Lib.hid h1
  have H2 := Lib.hid h2
  clear h1 h2
  go_wp2
  go_ret
  exact ⟨rfl, H1.out, H2.out⟩
end Go.Proofs.YtbbhbgccmekheaaDoor
