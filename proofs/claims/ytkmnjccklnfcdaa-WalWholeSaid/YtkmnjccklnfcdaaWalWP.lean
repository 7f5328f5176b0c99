/- A transaction survives wholly or not at all, plainly: the start, and what comes behind the loop. -/
import Derived.Test.YtkmnjccklnfcdaaWalCrP
namespace Bst
set_option linter.unusedVariables false
theorem write_lives (d : Dsk) (n : Int) (b : Sec) : (d.write n b).2.lives = d.lives := by
  unfold Dsk.write
  split
  · rfl
  · split
    · rfl
    · show (d.put n b).burnt.lives = _
      unfold Dsk.burnt
      split <;> rfl
theorem flush_lives (d : Dsk) : d.flush.2.lives = d.lives := by
  unfold Dsk.flush
  split
  · rfl
  · split
    · show d.burnt.lives = _
      unfold Dsk.burnt
      split <;> rfl
    · show d.burnt.lives = _
      unfold Dsk.burnt
      split <;> rfl
theorem seq_lives : ∀ (ws : List (Int × Sec)) (d : Dsk), (seqW d ws).2.lives = d.lives
  | [], d => rfl
  | x :: ws, d => by
    rw [seqW]
    split
    · exact write_lives _ _ _
    · rw [seq_lives ws, write_lives]
theorem raise_lives (d : Dsk) (l : Lg) : (raiseS d l).2.1.lives = d.lives := by
  unfold raiseS
  simp only
  split
  · exact write_lives _ _ _
  · split
    · rw [flush_lives, write_lives]
    · rw [flush_lives, write_lives]
theorem check_lives (d : Dsk) (l : Lg) : (checkS d l).2.1.lives = d.lives := by
  unfold checkS
  split
  · rfl
  · split
    · rfl
    · split
      · exact flush_lives d
      · rw [raise_lives, flush_lives]
theorem commitT_lives (d : Dsk) (l : Lg) (ws : List (Int × Sec)) : (commitT d l ws).2.1.lives = d.lives := by
  unfold commitT
  simp only [layS_seq, redoS_seq]
  split
  · exact seq_lives _ _
  · split
    · rw [flush_lives, seq_lives]
    · show (seqW _ _).2.lives = _
      rw [seq_lives, flush_lives, seq_lives]
theorem commit_lives (d : Dsk) (l : Lg) (ws : List (Int × Sec)) : (commitS d l ws).2.1.lives = d.lives := by
  unfold commitS
  split
  · rfl
  · split
    · rfl
    · split
      · rfl
      · split
        · rfl
        · split
          · simp only
            split
            · exact check_lives _ _
            · rw [commitT_lives, check_lives]
          · exact commitT_lives _ _ _
theorem open_lives (d : Dsk) : (openS d).2.1.lives = d.lives := by
  unfold openS
  split
  · rfl
  · simp only
    split
    · rfl
    · split
      · rfl
      · rw [redoS_seq]
        split
        · exact seq_lives _ _
        · split
          · rw [check_lives, seq_lives]
          · rw [check_lives, seq_lives]
def wwD1 : Dsk := (formatS (Dsk.new 30) 15).2
def wwD2 : Dsk := (openS wwD1).2.1
def wwL : Lg := ⟨15, 16, 1, 0, 0, 0⟩
def wwH : List Sec := wwD2.now.drop 17
theorem ww_format : (formatS (Dsk.new 30) 15).1 = 0 := by kernel_rfl
theorem ww_open : openS wwD1 = (0, wwD2, some wwL) := by kernel_rfl
theorem ww_off : wwD2.off = false := by kernel_rfl
theorem ww_wait : wwD2.wait = [] := by kernel_rfl
theorem ww_wait1 : wwD1.wait = [] := by kernel_rfl
theorem ww_lives : wwD2.lives = 0 := by kernel_rfl
theorem ww_same : wwD2.kept = wwD2.now := by kernel_rfl
theorem ww_len : wwD2.now.length = 30 := by kernel_rfl
theorem ww_homes : homesS wwD2.now wwL.size = 13 := by kernel_rfl
theorem ww_slot1 : wwD2.now.getD 1 [] = slotB 16 15 := by kernel_rfl
theorem ww_slot0 : wwD2.now.getD 0 [] = slotB 1 15 := by kernel_rfl
theorem ww_zeros : wwD2.now.drop 2 = List.replicate 28 (zeros 64) := by kernel_rfl
theorem ww_sec : ∀ s ∈ wwD2.now, s.length = 64 := by
  have : wwD2.now.all (fun s => decide (s.length = 64)) = true := by kernel_rfl
  intro s hs
  exact of_decide_eq_true (List.all_eq_true.1 this s hs)
theorem ww_place (p : Nat) (hp : p < 28) : wwD2.now.getD (2 + p) [] = zeros 64 := by
  rw [← getD_drop, ww_zeros, List.getD_eq_getElem?_getD, List.getElem?_replicate, if_pos hp]; rfl
theorem ww_drop : applyW (wwD2.now.drop (2 + 15)) [] = wwH := by unfold wwH applyW; rw [List.foldl_nil]
theorem ww_img : Img 30 15 wwD2.kept 16 1 [] wwH := by
  rw [ww_same]
  refine ⟨ww_len, ww_sec, by omega, by omega, by omega, by omega, ww_slot1, ⟨1, by omega, ?_⟩, fun p hp => ⟨0, by omega, ?_⟩, fun i x hx => by simp at hx, Nat.zero_le _, (fun w hw => by cases hw), ww_drop⟩
  · rw [show 1 - 1 = 0 from rfl, ww_slot0]; exact Stm.slot (by omega)
  · rw [ww_place p (by omega)]; exact Stm.zero
theorem Dsk.fused_kept (d : Dsk) (n : Int) : (d.fused n).kept = d.kept := rfl
theorem Dsk.fused_now (d : Dsk) (n : Int) : (d.fused n).now = d.now := rfl
theorem Dsk.fused_wait (d : Dsk) (n : Int) : (d.fused n).wait = d.wait := rfl
theorem Dsk.fused_off (d : Dsk) (n : Int) : (d.fused n).off = d.off := rfl
theorem Dsk.fused_lives (d : Dsk) (n : Int) : (d.fused n).lives = d.lives := rfl
theorem life_start {d : Dsk} {l : Lg} {H : List Sec} (n : Int) (h1 : d.off = false) (h2 : d.lives = l.life) (h3 : l.size = 15) (h4 : l.used = 0) (h5 : Img 30 15 d.kept l.base l.slot [] H) (h6 : Clean 15 d.kept l.base 0) (h7 : d.wait = []) (h8 : d.now = d.kept) (h9 : d.now.drop 17 = H) : Life 30 15 (d.fused n) l [] H :=
  ⟨h1, h2, h3, h4, h5, by rw [h4]; exact h6, (by rw [Dsk.fused_wait, h7]; intro x hx; cases hx), by rw [Dsk.fused_now, Dsk.fused_wait, Dsk.fused_kept, h7, h8]; rfl, h9⟩
theorem ww_clean : Clean 15 wwD2.kept 16 0 := fun p _ hp => ⟨0, by omega, by rw [ww_same, ww_place p (by omega)]; exact Stm.zero⟩
theorem ww_life (n : Int) : Life 30 15 (wwD2.fused n) wwL [] wwH :=
  life_start n ww_off ww_lives (by kernel_rfl) (by kernel_rfl) ww_img ww_clean ww_wait ww_same.symm (by unfold wwH; rw [])
theorem Life.aliveZ {N S : Nat} {d : Dsk} {l : Lg} {T : List (List (Int × Sec))} {H : List Sec} (h : Life N S d l T H) : aliveS d l = 0 := by
  unfold aliveS; rw [if_neg (by rw [h.off, h.alive]; simp)]
/-- The first recovery. -/
theorem ww_first {Hs : List Sec → Prop} {K : List Sec} (h : Rec 30 15 196 Hs K) (d : Dsk) (ho : d.off = false) (hk : d.kept = K) (hn : d.now = K) (hw : d.wait = []) :
    ∃ H1, Hs H1 ∧ ((∃ d3 l3, openS d = (0, d3, some l3)) ∨ ∃ d3, openS d = (30, d3, none)) ∧ ∀ cs, Rec 30 15 211 (fun X => X = H1) (crashW (openS d).2.1.kept (openS d).2.1.wait cs) := by
  obtain ⟨B, sl, T, H1, h1, h2, h3, h4⟩ := h
  refine ⟨H1, h1, ?_⟩
  rcases open_two ho hk hn hw h3 h4 (by omega) (Hs := fun X => X = H1) rfl with ⟨e, l, q1, q2, q3, q4, q5, q6⟩ | ⟨e, q1, q2⟩
  · refine ⟨.inl ⟨(openS d).2.1, l, ?_⟩, fun cs => ?_⟩
    · rw [← e, ← q1]
    · exact (q2.crash (Hs := fun X => X = H1) rfl cs).mono (by omega)
  · refine ⟨.inr ⟨(openS d).2.1, ?_⟩, fun cs => ?_⟩
    · rw [← e, ← q1]
    · exact (q2.img cs).mono (by omega)
/-- The second one, and the third. -/
theorem ww_second {H1 : List Sec} {K : List Sec} (h : Rec 30 15 211 (fun X => X = H1) K) (d : Dsk) (hc : d.Calm) (hk : d.kept = K) (hn : d.now = K) (hw : d.wait = []) :
    ∃ d4 l4, openS d = (0, d4, some l4) ∧ aliveS d4 l4 = 0 ∧ l4.size = 15 ∧ d4.now.length = 30 ∧ d4.now.drop 17 = H1 ∧ ∃ d5 l5, openS (d4.crash []) = (0, d5, some l5) ∧ aliveS d5 l5 = 0 ∧ l5.size = 15 ∧ d5.now.drop 17 = H1 := by
  obtain ⟨B, sl, T, H2, rfl, h2, h3, h4⟩ := h
  obtain ⟨e, l, q1, q2, q3, q4⟩ := open_calm hc hk hn hw h3 h4 (by omega)
  refine ⟨(openS d).2.1, l, by rw [← e, ← q1], q2.aliveZ, q2.size, q2.len, by have := q2.homes; exact this, ?_⟩
  obtain ⟨B', sl', T', H3, rfl, g2, g3, g4⟩ := q2.crash (Hs := fun X => X = H2) rfl []
  obtain ⟨e', l', r1, r2, r3, r4, r5, r6⟩ := open_last (d := (openS d).2.1.crash []) ⟨rfl, rfl⟩ rfl rfl rfl g3 g4
  refine ⟨(openS ((openS d).2.1.crash [])).2.1, l', by rw [← e', ← r1], ?_, r4, r6⟩
  unfold aliveS; rw [if_neg (by rw [r2, r3]; simp)]
end Bst
