/- Contracts of package space: Take, Claim, Give. -/
import Derived.Test.YtbbhbgccmekheaaDoorSpace
namespace Go.Proofs.YtbbhbgccmekheaaDoor
open Go Go.RowKit Bst
set_option linter.unusedVariables false


set_option maxHeartbeats 1000000 in
theorem tz_core (x k idx : Nat) (w : World) (hx0 : ((x : Int) == 0) = false)
    (key : IntKind.u64.wrap (bits BinOp.and IntKind.u64 (x : Int) (IntKind.u64.wrap (-(x : Int))) * 285870213051353865) / 288230376151711744 = (idx : Int))
    (hi : idx < 64) (hk : k < 64) (hcell : w.cell? ⟨0, idx, none⟩ = some (.int .u8 k)) :
    Calls Tryd.prog 34 #[.int .u64 x] w fun e w' => e = .returned (.int .i64 k) ∧ w = w' := by
  go_enter Tryd.func34, Tryd.ntmps34
  go_wp2_with (simp only [key])
  go_ret
  exact ⟨rfl, rfl⟩
theorem tz_ok (x : Nat) (hx : x < 18446744073709551616) (hx0 : x ≠ 0) (w : World) (hT : TabAt 0 Lib.deBruijn64tab w) :
    Calls Tryd.prog 34 #[.int .u64 (x : Int)] w fun e w' => e = .returned (.int .i64 (Lib.ctz 64 x : Int)) ∧ w = w' := by
  obtain ⟨hlow, hk⟩ := Lib.lowest_bit 64 x hx0 hx
  obtain ⟨hi, htab⟩ := Lib.deBruijn64_at _ hk
  have hcell := hT _ hi
  rw [htab] at hcell
  exact tz_core x _ _ w (by simp; omega) (tz64_key x _ hx hx0 hlow) hi hk hcell
/-- The table of the library's bits. -/
abbrev Tab (w : World) : Prop := TabAt 0 Lib.deBruijn64tab w
theorem Tab.keep {w w' : World} {F F' : List Nat} (h : Tab w) (k : Keep F w F' w') (hg : 0 ∉ F) : Tab w' :=
  fun j hj => k.cell_some (h j hj) hg

/-- The loop of Take. -/
def TakeInv (w : World) (b g : Nat) (T : List Bool) (k : Nat) (out i : Value) (wr : World) : Prop :=
  ∃ (l : List Int) (iN : Nat) (T' : List Bool) (F : List Nat), i = .int .i64 (iN : Int) ∧ l.length ≤ k ∧ iN ≤ 256 ∧ Own Kd.int F wr w.heap.size 3 out l ∧
    l ++ (takeS T' (k - l.length)).1 = (takeS T k).1 ∧ (takeS T' (k - l.length)).2 = (takeS T k).2 ∧ (∀ j, j < 64 * iN → T'.getD j false = true) ∧ k - l.length ≤ freeN T' ∧
    SpaceAt wr b g T' ∧ Keep [b, g] w F wr ∧ (b ∈ F ∧ g ∈ F) ∧ (∀ x ∈ F, x < wr.heap.size)
set_option maxHeartbeats 1000000 in
theorem take_ok (w : World) (b g : Nat) (T : List Bool) (h : SpaceAt w b g T) (k : Nat) (hk : k ≤ freeN T) (ht : Tab w) (hb : 0 ∉ [b, g]) :
    Calls Tryd.prog 12 #[.pointer (some ⟨b, 0, none⟩), .int .i64 (k : Int)] w fun e w' => ∃ A c,
      e = .returned (.tuple #[.slice A (takeS T k).1.length c, .int .i64 0]) ∧ Sl Kd.int [b, g] w' A c (takeS T k).1 ∧ SpaceAt w' b g (takeS T k).2 ∧ Keep [b, g] w [b, g] w' ∧ ∀ a, A = some a → w.heap.size ≤ a.block := by
  obtain ⟨c0, c1, c3, f1⟩ := h.head
  have hs := h.size
  have hle := freeN_le T
  have hbs := World.block_lt_of_cell? w _ c0
  have hgs : g < w.heap.size := by obtain ⟨ws, t, hg, _⟩ := h.words; exact (Array.getElem?_eq_some_iff.1 hg).1
  have H := Lib.hid h
  have HT := Lib.hid ht
  have HB := Lib.hid hb
  clear h ht hb
  go_enter Tryd.func12, Tryd.ntmps12
  go_wp2
  go_loopw [6, 7] (fun out i wr => TakeInv w b g T k out i wr) (fun out i _ => (k - lenOf out) + (256 - (intOf i).toNat))
  case atStart =>
    exact ⟨[], 0, T, [b, g], rfl, Nat.zero_le _, by omega, Own.nil _ _ _ _ _, by simp, by simp, fun j hj => by omega, by simpa using hk, H.out, Keep.refl _ _, by simp, by intro x hx; simp at hx; rcases hx with rfl | rfl <;> assumption⟩
  case round =>
    obtain ⟨l, iN, T', F, rfl, hlk, hi256, hown, e1, e2, hlow, hfr, hsp, hkeep, hF, hFs⟩ := hrel
    obtain ⟨A, c, rfl, hsl⟩ := hown.form (by omega)
    by_cases hlt : l.length < k
    · have hiw := word_in hlow (by omega)
      obtain ⟨n, x, hn, c2, cg, fg, hx, hbit, hfl⟩ := hsp.word iN hiw
      have hn' : iN < n := by omega
      have HS := Lib.hid hsp
      have HO := Lib.hid hown
      have E1 := Lib.hid e1
      have E2 := Lib.hid e2
      have HL := Lib.hid hlow
      have HK := Lib.hid hkeep
      have HSL := Lib.hid hsl
      have HBIT := Lib.hid hbit
      have hs' := hsp.size
      have NX := not64 x hx
      have FW := first_of_word hx hbit hlow (by omega)
      have FU := full_word hx hbit hlow
      have hy : 18446744073709551615 - x < 18446744073709551616 := by omega
      generalize 18446744073709551615 - x = y at *
      have FW' := Lib.hid FW
      have FU' := Lib.hid FU
      clear hsp hown e1 e2 hlow hkeep hsl hbit hfl hn FW FU
      by_cases hz : y = 0
      · have hz1 : ((y : Int) != 0) = false := by simp [hz]
        have HLN := Lib.hid (FU'.out hz)
        clear hz
        go_wp2_with fail
        go_roundw
        case rel => exact ⟨l, iN + 1, T', F, by go_num, hlk, by omega, HO.out, E1.out, E2.out, HLN.out, hfr, HS.out, HK.out, hF, hFs⟩
        case measure => simp [intOf]; omega
      · have hz1 : ((y : Int) != 0) = true := by simp; omega
        have FW2 := Lib.hid (FW'.out hz)
        have hz' : 0 < y := by omega
        clear hz
        go_wp2_with fail
        refine (tz_ok y hy (by omega) _ (HT.out.keep HK.out HB.out)).mono ?_
        rintro e w' ⟨rfl, rfl⟩
        obtain ⟨hc64, -, -⟩ := ctz_spec y (by omega) hy
        generalize Lib.ctz 64 y = c64 at *
        go_wp2_with fail
        rw [show (64 * (iN : Int) + (c64 : Int)) = ((firstFree T' : Nat) : Int) from by rw [FW2.out]; simp]
        have hff := firstFree_lt (T := T') (by omega)
        refine (turn_ok _ b g T' HS.out (firstFree T') hff).mono ?_
        rintro e w1 ⟨rfl, hsp1, hk1⟩
        have hlb := HO.out.lt
        have hown1 := HO.out.keep hk1 (fun x hx hm => by have := hlb x hx; simp at hm; omega) (hk1.widen (by simp; exact hF))
        have hF1 : ∀ x ∈ F, x < w1.heap.size := fun x hx => Nat.lt_of_lt_of_le (hFs x hx) hk1.size
        have hbase : w.heap.size ≤ w1.heap.size := Nat.le_trans HK.out.size hk1.size
        have HO1 := Lib.hid hown1
        have HS1 := Lib.hid hsp1
        have HK1 := Lib.hid (HK.out.trans (hk1.widen (F := F) (by simp; exact hF)))
        generalize hNF : firstFree T' = nf at *
        have HNF := Lib.hid hNF
        clear hown1 hsp1 hk1 hlb hNF
        have hi64 : InI64 (nf : Int) := InI64.of (by omega) (by omega)
        have HI := Lib.hid hi64
        clear hi64
        go_wp2_with (at_builtin; go_must (refine wp_app1 (K := Kd.int) et_int rfl _ _ rfl w1 [.int .i64 (nf : Int)] w.heap.size F (.slice A l.length c) l (nf : Int) (by rfl) (by rfl) (by simp) (by exact HO1.out) ⟨rfl, HI.out⟩ hF1 (by omega) (by omega) hbase ?_); intro v' w2 F' hown2 hk2 hk0 hn2 hF2)
        obtain ⟨st1, st2⟩ := take_step hlt HNF.out E1.out E2.out
        have hlow2 := low_flip hff HL.out (by rw [← HNF.out]; exact getD_firstFree (by rw [HNF.out]; exact hff))
        have hfn := freeN_flip_first (T := T') (by omega)
        rw [HNF.out] at hfn
        have hgr := HK1.out.trans hk2
        obtain ⟨A', c', rfl, hsl'⟩ := hown2.form (by simp; omega)
        have hlb2 := HO1.out.lt
        have HS2 := Lib.hid (HS1.out.keep hk0 (fun hm => by have := hlb2 b (by simpa using hm); omega) (fun hm => by have := hlb2 g (by simpa using hm); omega))
        have HN2 := Lib.hid hn2
        have HO2 := Lib.hid hown2
        have S1 := Lib.hid st1
        have S2 := Lib.hid st2
        have HL2 := Lib.hid hlow2
        have HGR := Lib.hid hgr
        have HK2 := Lib.hid hk2
        have HF2 := Lib.hid hF2
        clear hown2 st1 st2 hlow2 hgr hsl' hk2 hF2 hk0 hn2 hlb2
        go_wp2
        go_roundw
        case rel =>
          exact ⟨l ++ [(nf : Int)], iN, Bst.flip T' nf, F', rfl, by simp; omega, hi256, HO2.out, S1.out, S2.out, HL2.out, by simp; omega, HS2.out, HGR.out, ⟨HF2.out _ hF.1, HF2.out _ hF.2⟩, HN2.out⟩
        case measure => simp [intOf, lenOf]; omega
    · have h0 : k - l.length = 0 := by omega
      rw [h0] at e1 e2
      simp only [takeS, List.append_nil] at e1 e2
      have hsl2 := hsl [b, g] (by
        have hlb := hown.lt
        intro x hx
        simp at hx
        rcases hx with rfl | rfl
        · exact ⟨hF.1, fun e => by have := hlb _ e; omega⟩
        · exact ⟨hF.2, fun e => by have := hlb _ e; omega⟩)
      have HFR := Lib.hid (show ∀ a, A = some a → w.heap.size ≤ a.block from fun a ha => (hown.lt a.block (by rw [ha]; rfl)).1)
      have E1 := Lib.hid e1
      have E2 := Lib.hid e2
      have HSL := Lib.hid hsl2
      have HSP := Lib.hid hsp
      have HK := Lib.hid (hkeep.trans (Keep.sub (F' := [b, g]) wr (by simp; exact hF)))
      clear hsl2 hsl hsp hkeep hown e1 e2 hlow
      go_wp2
      go_ret2
      exact ⟨A, c, by rw [← E1.out]; rfl, by rw [← E1.out]; exact HSL.out, by rw [← E2.out]; exact HSP.out, HK.out, HFR.out⟩
end Go.Proofs.YtbbhbgccmekheaaDoor
