/- Contracts of the reference's sectors: Free, Take, Turn; a slice of bools that is written in place. -/
import Derived.Test.YtbbhbgccmekheaaDoorSpace
namespace Go.Proofs.YtbbhbgccmekheaaDoor
open Go Go.RowKit Bst
set_option linter.unusedVariables false
set_option linter.unusedSimpArgs false

/-- Sectors, a bool each, in block m. -/
structure BoolsAt (w : World) (m : Nat) (T : List Bool) : Prop where
  size : T.length ≤ 16384
  blk : ∃ t, w.heap[m]? = some (.cells (T.map Value.bool).toArray t (0, 0))
theorem BoolsAt.keep {w w' : World} {m : Nat} {T : List Bool} {F F' : List Nat} (h : BoolsAt w m T) (k : Keep F w F' w') (hm : m ∉ F) : BoolsAt w' m T := by
  obtain ⟨t, h1⟩ := h.blk
  exact ⟨h.size, t, by rw [k.block m (Array.getElem?_eq_some_iff.1 h1).1 hm]; exact h1⟩
theorem BoolsAt.lt {w : World} {m : Nat} {T : List Bool} (h : BoolsAt w m T) : m < w.heap.size := by
  obtain ⟨t, h1⟩ := h.blk
  exact (Array.getElem?_eq_some_iff.1 h1).1
theorem BoolsAt.at_ {w : World} {m : Nat} {T : List Bool} (h : BoolsAt w m T) {k : Nat} (hk : k < T.length) :
    w.cell? ⟨m, k, none⟩ = some (.bool (T.getD k false)) ∧ w.frozen? ⟨m, k, none⟩ = false ∧ ∀ x, BoolsAt (w.setCell ⟨m, k, none⟩ (.bool x)) m (T.set k x) := by
  obtain ⟨t, h1⟩ := h.blk
  refine ⟨?_, frozen_blk h1 k, fun x => ⟨by simp; exact h.size, t, ?_⟩⟩
  · rw [cell_blk h1 k]; simp [List.getD_eq_getElem?_getD, hk]
  · rw [set_blk h1]; congr 2; apply Array.ext'; simp [List.map_set]
theorem set_flip {T : List Bool} {k : Nat} {x : Bool} (h : T.getD k false = !x) : T.set k x = Bst.flip T k := by
  unfold Bst.flip; rw [h]; simp

theorem freeN_take_succ (T : List Bool) (k : Nat) (hk : k < T.length) : freeN (T.take (k + 1)) = freeN (T.take k) + if T.getD k false then 0 else 1 := by
  have e : T.take (k + 1) = T.take k ++ [T[k]] := List.take_succ_eq_append_getElem hk
  have happ : ∀ (a b : List Bool), freeN (a ++ b) = freeN a + freeN b := by
    intro a b
    induction a with
    | nil => simp [freeN]
    | cons x a ih => simp [freeN, ih]; omega
  have e2 : T.getD k false = T[k] := by simp [List.getD_eq_getElem?_getD, hk]
  rw [e, happ, e2]; simp [freeN]
set_option maxHeartbeats 400000 in
theorem free19_ok (w : World) (m : Nat) (T : List Bool) (h : BoolsAt w m T) :
    Calls Tryd.prog 36 #[.slice (some ⟨m, 0, none⟩) T.length T.length] w fun e w' => e = .returned (.int .i64 (freeN T : Int)) ∧ w = w' := by
  have hs := h.size
  have H := Lib.hid h
  clear h
  go_enter Tryd.func36, Tryd.ntmps36
  go_wp2
  go_loop [3, 4] (fun n i => ∃ k : Nat, k ≤ T.length ∧ i = .int .i64 (k : Int) ∧ n = .int .i64 (freeN (T.take k) : Int)) (fun _ i => T.length - (intOf i).toNat)
  case atStart => exact ⟨0, Nat.zero_le _, rfl, by simp [freeN]⟩
  case round =>
    obtain ⟨k, hk, rfl, rfl⟩ := hrel
    have hle := freeN_le (T.take k)
    rw [List.length_take] at hle
    by_cases hlt : k < T.length
    · obtain ⟨hc, -, -⟩ := H.out.at_ hlt
      have hsu := freeN_take_succ T k hlt
      cases hb : T.getD k false
      · rw [hb] at hc hsu
        have HS := Lib.hid hsu
        clear hb hsu
        go_wp2
        go_round
        case rel => exact ⟨k + 1, by omega, by go_num, by rw [HS.out]; go_num⟩
        case measure => simp [intOf]; omega
      · rw [hb] at hc hsu
        have HS := Lib.hid hsu
        clear hb hsu
        go_wp2
        go_round
        case rel => exact ⟨k + 1, by omega, by go_num, by rw [HS.out]; simp⟩
        case measure => simp [intOf]; omega
    · go_wp2
      go_ret
      exact ⟨ret_int (by rw [List.take_of_length_le (by omega)]), rfl⟩

/-- The loop of the reference's Take. -/
def Take19Inv (w : World) (m : Nat) (T : List Bool) (k : Nat) (out i : Value) (wr : World) : Prop :=
  ∃ (l : List Int) (j : Nat) (T' : List Bool) (F : List Nat), i = .int .i64 (j : Int) ∧ l.length ≤ k ∧ j ≤ T.length ∧ T'.length = T.length ∧ Own Kd.int F wr w.heap.size 3 out l ∧
    l ++ (takeS T' (k - l.length)).1 = (takeS T k).1 ∧ (takeS T' (k - l.length)).2 = (takeS T k).2 ∧ (∀ x, x < j → T'.getD x false = true) ∧ k - l.length ≤ freeN T' ∧
    BoolsAt wr m T' ∧ Keep [m] w F wr ∧ m ∈ F ∧ (∀ x ∈ F, x < wr.heap.size)
set_option maxHeartbeats 1000000 in
theorem take19_ok (w : World) (m : Nat) (T : List Bool) (h : BoolsAt w m T) (k : Nat) (hk : k ≤ freeN T) :
    Calls Tryd.prog 13 #[.slice (some ⟨m, 0, none⟩) T.length T.length, .int .i64 (k : Int)] w fun e w' => ∃ A c,
      e = .returned (.tuple #[.slice A (takeS T k).1.length c, .int .i64 0]) ∧ Sl Kd.int [m] w' A c (takeS T k).1 ∧ BoolsAt w' m (takeS T k).2 ∧ Keep [m] w [m] w' ∧ ∀ a, A = some a → w.heap.size ≤ a.block := by
  have hs := h.size
  have hle := freeN_le T
  have hms := h.lt
  have H := Lib.hid h
  clear h
  have hd1 : decide ((k : Int) < 0) = false := decide_eq_false (by omega)
  have hd2 : decide (freeN T < k) = false := decide_eq_false (by omega)
  go_enter Tryd.func13, Tryd.ntmps13
  go_wp2_with (go_at_call 36; refine (free19_ok w m T H.out).mono ?_; rintro e w' ⟨rfl, rfl⟩)
  go_loopw [6, 7] (fun out i wr => Take19Inv w m T k out i wr) (fun out i _ => T.length - (intOf i).toNat)
  case atStart =>
    exact ⟨[], 0, T, [m], rfl, Nat.zero_le _, Nat.zero_le _, rfl, Own.nil _ _ _ _ _, by simp, by simp, fun j hj => by omega, by simpa using hk, H.out, Keep.refl _ _, by simp, by simpa using hms⟩
  case round =>
    obtain ⟨l, j, T', F, rfl, hlk, hjT, hlen, hown, e1, e2, hlow, hfr, hsp, hkeep, hF, hFs⟩ := hrel
    obtain ⟨A, c, rfl, hsl⟩ := hown.form (by omega)
    have HS := Lib.hid hsp
    have HO := Lib.hid hown
    have E1 := Lib.hid e1
    have E2 := Lib.hid e2
    have HL := Lib.hid hlow
    have HK := Lib.hid hkeep
    have HSL := Lib.hid hsl
    have HLEN := Lib.hid hlen
    clear hsp hown e1 e2 hlow hkeep hsl hlen
    by_cases hlt : l.length < k ∧ j < T.length
    · obtain ⟨hlt, hjl⟩ := hlt
      obtain ⟨hc, hf, hset⟩ := HS.out.at_ (k := j) (by rw [HLEN.out]; exact hjl)
      have hd : decide ((l.length : Int) < (k : Int)) = true := by simp; omega
      cases hb : T'.getD j false
      · rw [hb] at hc
        have HNF := Lib.hid (firstFree_eq (T := T') (n := j) (by rw [HLEN.out]; exact hjl) hb HL.out)
        have HSET := Lib.hid (set_flip (x := true) (T := T') (k := j) (by rw [hb]; rfl) ▸ hset true)
        have HLOW := Lib.hid (low_flip (T := T') (n := j) (i := j) (by rw [HLEN.out]; exact hjl) HL.out hb)
        have HGD := Lib.hid (show (Bst.flip T' j).getD j false = true by rw [flip_getD T' j j (by rw [HLEN.out]; exact hjl), if_pos rfl, hb]; rfl)
        obtain ⟨st1, st2⟩ := take_step hlt HNF.out E1.out E2.out
        have hfn := freeN_flip_first (T := T') (by omega)
        rw [HNF.out] at hfn
        have S1 := Lib.hid st1
        have S2 := Lib.hid st2
        have HFN := Lib.hid hfn
        have hi64 : InI64 (j : Int) := InI64.of (by omega) (by omega)
        have HI := Lib.hid hi64
        have hk1 := Keep.setCell F wr ⟨m, j, none⟩ (.bool true) hF
        have hk10 := Keep.setCell [m] wr ⟨m, j, none⟩ (.bool true) (by simp)
        have hlb := HO.out.lt
        have hown1 := HO.out.keep hk10 (fun x hx hm => by have := hlb x hx; simp at hm; omega) hk1
        have HO1 := Lib.hid hown1
        have HK1 := Lib.hid (HK.out.trans hk1)
        have hF1 : ∀ x ∈ F, x < (wr.setCell ⟨m, j, none⟩ (.bool true)).heap.size := fun x hx => Nat.lt_of_lt_of_le (hFs x hx) hk1.size
        have hbase : w.heap.size ≤ (wr.setCell ⟨m, j, none⟩ (.bool true)).heap.size := Nat.le_trans HK.out.size hk1.size
        have HF1 := Lib.hid hF1
        have HBASE := Lib.hid hbase
        clear hb hset st1 st2 hfn hi64 hk1 hk10 hown1 hlb hF1 hbase
        go_wp2_with (at_builtin; go_must (refine wp_app1 (K := Kd.int) et_int rfl _ _ (by rfl) (wr.setCell ⟨m, j, none⟩ (.bool true)) [.int .i64 (j : Int)] w.heap.size F (.slice A l.length c) l (j : Int) (by rfl) (by rfl) (by simp) (by exact HO1.out) ⟨rfl, HI.out⟩ HF1.out (by omega) (by omega) HBASE.out ?_); intro v' w2 F' hown2 hk2 hk0 hn2 hF2)
        obtain ⟨A', c', rfl, hsl'⟩ := hown2.form (by simp; omega)
        have hlb2 := HO1.out.lt
        have HS2 := Lib.hid (HSET.out.keep hk0 (fun hm => by have := hlb2 m (by simpa using hm); omega))
        have HO2 := Lib.hid hown2
        have HGR := Lib.hid (HK1.out.trans hk2)
        have HF2 := Lib.hid hF2
        have HN2 := Lib.hid hn2
        clear hown2 hk2 hk0 hn2 hF2 hsl' hlb2
        go_wp2
        go_roundw
        case rel =>
          exact ⟨l ++ [(j : Int)], j + 1, Bst.flip T' j, F', by go_num, by simp; omega, by omega, by rw [flip_length]; exact HLEN.out, HO2.out, S1.out, S2.out, fun x hx => by
            by_cases hxj : x = j
            · subst hxj; exact HGD.out
            · exact HLOW.out x (by omega), by have := HFN.out; simp; omega, HS2.out, HGR.out, HF2.out _ hF, HN2.out⟩
        case measure => simp [intOf]; omega
      · rw [hb] at hc
        have HB := Lib.hid hb
        clear hb hset
        go_wp2
        go_roundw
        case rel =>
          exact ⟨l, j + 1, T', F, by go_num, hlk, by omega, HLEN.out, HO.out, E1.out, E2.out, fun x hx => by
            by_cases hxj : x = j
            · subst hxj; exact HB.out
            · exact HL.out x (by omega), hfr, HS.out, HK.out, hF, hFs⟩
        case measure => simp [intOf]; omega
    · have h0 : k - l.length = 0 := by
        rcases Nat.lt_or_ge l.length k with h1 | h1
        · have h2 := freeN_zero_of (T := T') (fun x hx => HL.out x (by have := HLEN.out; omega))
          omega
        · omega
      have e1 := E1.out
      have e2 := E2.out
      rw [h0] at e1 e2
      simp only [takeS, List.append_nil] at e1 e2
      have E3 := Lib.hid e1
      have E4 := Lib.hid e2
      have hsl2 := HSL.out [m] (by
        have hlb := HO.out.lt
        intro x hx
        simp at hx
        subst hx
        exact ⟨hF, fun e => by have := hlb _ e; omega⟩)
      have HSL2 := Lib.hid hsl2
      have HK2 := Lib.hid (HK.out.trans (Keep.sub (F' := [m]) wr (by simp; exact hF)))
      have HFR := Lib.hid (show ∀ a, A = some a → w.heap.size ≤ a.block from fun a ha => (HO.out.lt a.block (by rw [ha]; rfl)).1)
      clear hsl2 e1 e2 h0
      have hd : (decide (j < T.length) && decide (l.length < k)) = false := by
        rw [Bool.and_eq_false_iff]; simp; omega
      by_cases hj : j < T.length
      · have hd2 : ¬ l.length < k := by omega
        go_wp2
        go_ret2
        exact ⟨A, c, by rw [← E3.out]; rfl, by rw [← E3.out]; exact HSL2.out, by rw [← E4.out]; exact HS.out, HK2.out, HFR.out⟩
      · go_wp2
        go_ret2
        exact ⟨A, c, by rw [← E3.out]; rfl, by rw [← E3.out]; exact HSL2.out, by rw [← E4.out]; exact HS.out, HK2.out, HFR.out⟩
end Go.Proofs.YtbbhbgccmekheaaDoor
