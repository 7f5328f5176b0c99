/- Contracts: the reference's Turn; Claim and Give. -/
import Derived.Test.YtbbhbgccmekheaaDoorSpace3
import Derived.Test.YtbbhbgccmekheaaDoorSpace2
namespace Go.Proofs.YtbbhbgccmekheaaDoor
open Go Go.RowKit Bst
set_option linter.unusedVariables false
set_option linter.unusedSimpArgs false

set_option maxHeartbeats 1000000 in
theorem turn19_ok (w : World) (m : Nat) (T : List Bool) (h : BoolsAt w m T) (A : Option Addr) (c : Nat) (l : List Int) (hl : Sl Kd.int [m] w A c l) (was : Bool) :
    Calls Tryd.prog 16 #[.slice (some ⟨m, 0, none⟩) T.length T.length, .slice A l.length c, .bool was] w fun e w' =>
      e = .returned (.int .i64 (turnS T l was).1) ∧ BoolsAt w' m (turnS T l was).2 ∧ Keep [m] w [m] w' := by
  have hs := h.size
  have hle := hl.len_le
  have H := Lib.hid h
  have HLl := Lib.hid hl
  clear h hl
  go_enter Tryd.func16, Tryd.ntmps16
  go_wp2
  go_loop [7] (fun i => ∃ k : Nat, k ≤ l.length ∧ i = .int .i64 (k : Int) ∧ Hid (Upto T l was k)) (fun i => l.length - (intOf i).toNat)
  case atStart => exact ⟨0, Nat.zero_le _, rfl, upto_zero T l was⟩
  case round =>
    obtain ⟨k, hk, rfl, HU⟩ := hrel
    by_cases hlt : k < l.length
    · obtain ⟨g, o, rfl, hcell, hi64⟩ := HLl.out.int_at hlt
      have HN := Lib.hid (upto_succ (T := T) (was := was) hlt)
      have HMEM : Hid (∀ j, j < k → (l[j]? = some l[k] → ¬ Upto T l was (k + 1))) := fun j hj hjk hu => by
        have := ((upto_succ (T := T) (was := was) hlt).1 hu).2.2
        exact this (List.mem_take_iff_getElem.2 ⟨j, by omega, by have := List.getElem?_eq_some_iff.1 hjk; exact this.2⟩)
      have HALL : Hid (∀ x, (∀ j, j < k → l[j]? ≠ some x) → x ∉ l.take k) := fun x hx hm => by
        obtain ⟨j, hj, e⟩ := List.mem_take_iff_getElem.1 hm
        exact hx j (by omega) (by rw [List.getElem?_eq_getElem (by omega), e])
      generalize hn : l[k] = n at *
      have HNK := Lib.hid (show l[k]? = some n by rw [List.getElem?_eq_getElem hlt, hn])
      have HI := Lib.hid hi64
      clear hi64 hn
      by_cases h0 : 0 ≤ n ∧ n < T.length
      · obtain ⟨h0, h1⟩ := h0
        obtain ⟨nn, rfl⟩ := Int.eq_ofNat_of_zero_le h0
        have h1' : nn < T.length := by omega
        have d0 : decide ((nn : Int) < 0) = false := decide_eq_false (by omega)
        have d1 : decide (T.length ≤ nn) = false := decide_eq_false (by omega)
        obtain ⟨hb, -, -⟩ := H.out.at_ h1'
        by_cases he : T.getD nn false = was
        · rw [he] at hb
          have HE := Lib.hid he
          clear he h0 h1
          go_wp2
          go_loop [9] (fun i => ∃ j : Nat, j ≤ k ∧ i = .int .i64 (j : Int) ∧ Hid (∀ x, x < j → l[x]? ≠ some (nn : Int))) (fun i => k - (intOf i).toNat)
          case atStart => exact ⟨0, Nat.zero_le _, rfl, fun x hx => by omega⟩
          case round =>
            obtain ⟨j, hj, rfl, HJ⟩ := hrel
            by_cases hjk : j < k
            · obtain ⟨g2, o2, hA, hcell2, -⟩ := HLl.out.int_at (k := j) (by omega)
              injection hA with hA
              injection hA with hA1 hA2
              subst hA1; subst hA2
              by_cases hnj : l[j] = (nn : Int)
              · have HX := Lib.hid (not_upto (HMEM.out j hjk (by rw [List.getElem?_eq_getElem (by omega), hnj])))
                rw [hnj] at hcell2
                clear hnj
                go_wp2
                go_ret
                exact ⟨ret_int (by rw [turnS_no HX.out]), by rw [turnS_no HX.out]; exact H.out, Keep.refl _ _⟩
              · have hbq : (l[j] == (nn : Int)) = false := beq_eq_false_iff_ne.2 hnj
                have HQ : Hid (l[j]? ≠ some (nn : Int)) := by
                  show _ ≠ _
                  rw [List.getElem?_eq_getElem (by omega)]; simpa using hnj
                generalize l[j] = y at *
                clear hnj
                go_wp2
                go_round
                case rel => exact ⟨j + 1, by omega, by go_num, fun x hx => by
                  by_cases hxj : x = j
                  · subst hxj; exact HQ.out
                  · exact HJ.out x (by omega)⟩
                case measure => simp [intOf]; omega
            · have HU2 : Hid (Upto T l was (k + 1)) := HN.out.2 ⟨HU.out, ⟨by omega, by omega, by simpa using HE.out⟩, HALL.out _ (fun x hx => HJ.out x (by omega))⟩
              go_wp2
              go_round
              case rel => exact ⟨k + 1, by omega, by go_num, HU2.out⟩
              case measure => simp [intOf]; omega
        · have HX : Hid (¬ TurnOk T l was) := not_upto (i := k + 1) (fun hu => he (by have := (HN.out.1 hu).2.1.2.2; simpa using this))
          have hbn : (T.getD nn false == was) = false := by simpa using he
          generalize T.getD nn false = tb at *
          clear he
          go_wp2
          go_ret
          exact ⟨ret_int (by rw [turnS_no HX.out]), by rw [turnS_no HX.out]; exact H.out, Keep.refl _ _⟩
      · have HX : Hid (¬ TurnOk T l was) := not_upto (i := k + 1) (fun hu => h0 ⟨(HN.out.1 hu).2.1.1, (HN.out.1 hu).2.1.2.1⟩)
        by_cases hneg : n < 0
        · clear h0
          have d0 : decide (n < 0) = true := decide_eq_true hneg
          go_wp2
          go_ret
          exact ⟨ret_int (by rw [turnS_no HX.out]), by rw [turnS_no HX.out]; exact H.out, Keep.refl _ _⟩
        · have h1 : (T.length : Int) ≤ n := by omega
          have d0 : decide (n < 0) = false := decide_eq_false hneg
          have d1 : decide ((T.length : Int) ≤ n) = true := decide_eq_true h1
          clear h0
          go_wp2
          go_ret
          exact ⟨ret_int (by rw [turnS_no HX.out]), by rw [turnS_no HX.out]; exact H.out, Keep.refl _ _⟩
    · have HOK : Hid (TurnOk T l was) := (upto_all (by omega)).1 HU.out
      go_wp2
      go_loopw [10] (fun i wr => ∃ j : Nat, j ≤ l.length ∧ i = .int .i64 (j : Int) ∧ Hid (BoolsAt wr m (flips T (l.take j))) ∧ Hid (Keep [m] w [m] wr)) (fun i _ => l.length - (intOf i).toNat)
      case atStart => exact ⟨0, Nat.zero_le _, rfl, H.out, Keep.refl _ _⟩
      case round =>
        obtain ⟨j, hj, rfl, HB, HK⟩ := hrel
        by_cases hjl : j < l.length
        · obtain ⟨g, o, rfl, hcell, hi64⟩ := (HLl.out.ext HK.out).int_at hjl
          obtain ⟨h0, h1, h2⟩ := HOK.out.1 l[j] (List.getElem_mem hjl)
          have hnx := (upto_next hjl (upto_mono HOK.out j) h0 h1).1 (upto_mono HOK.out (j + 1))
          have hts := flips_snoc T (l.take j) l[j]
          have etk : l.take j ++ [l[j]] = l.take (j + 1) := (List.take_succ_eq_append_getElem hjl).symm
          rw [etk] at hts
          have HTS := Lib.hid hts
          clear hts etk h2
          generalize l[j] = n at *
          obtain ⟨nn, rfl⟩ := Int.eq_ofNat_of_zero_le h0
          have h1' : nn < T.length := by omega
          obtain ⟨hb, hf, hset⟩ := HB.out.at_ (k := nn) (by rw [flips_length]; exact h1')
          have hfl := set_flip (T := flips T (l.take j)) (k := nn) (x := !was) (by simpa using hnx)
          have hs2 := hset (!was)
          rw [hfl] at hs2
          have HS2 := Lib.hid hs2
          have HK2 := Lib.hid (HK.out.trans (Keep.setCell [m] wr ⟨m, nn, none⟩ (.bool (!was)) (by simp)))
          clear hs2 hfl hset hnx h0 h1 hi64
          go_wp2
          go_roundw
          case rel => exact ⟨j + 1, by omega, by go_num, by rw [Hid, HTS.out]; simpa using HS2.out, HK2.out⟩
          case measure => simp [intOf]; omega
        · have e1 : flips T (l.take j) = flips T l := by rw [List.take_of_length_le (by omega)]
          have hB2 := HB.out
          rw [e1] at hB2
          have HB2 := Lib.hid hB2
          clear e1 hB2
          go_wp2
          go_ret
          exact ⟨ret_int (by rw [turnS_yes HOK.out]), by rw [turnS_yes HOK.out]; exact HB2.out, HK.out⟩
end Go.Proofs.YtbbhbgccmekheaaDoor
