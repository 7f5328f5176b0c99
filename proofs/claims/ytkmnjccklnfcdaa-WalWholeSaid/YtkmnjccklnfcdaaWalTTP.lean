/- A modified byte, plainly. -/
import Derived.Test.YtkmnjccklnfcdaaWalCrP
namespace Bst
set_option linter.unusedVariables false
theorem bestS_congr {a b : List Sec} (hl : a.length = b.length) (h0 : a.getD 0 [] = b.getD 0 []) (h1 : a.getD 1 [] = b.getD 1 []) : bestS a = bestS b := by
  unfold bestS; rw [hl, h0, h1]
/-- A recovery without a fuse, whatever waits. -/
theorem open_plain {d : Dsk} (hc : d.Calm) {B S sl : Nat} (hb : bestS d.now = (B, S, sl)) (h1 : 1 ≤ B) (ht : B + S ≤ topW) (hsl : sl ≤ 1) (hS : 2 + S < d.now.length) {ws : List (Int × Sec)} (hs : saysS d.now B S (S + 1) 0 [] = ws) (hw : ∀ x ∈ ws, 0 ≤ x.1 ∧ 2 + S + x.1 < d.now.length ∧ x.2.length = 64) :
    ∃ d', openS d = (0, d', some ⟨S, B + S, 1 - sl, 0, d.lives, 0⟩) ∧ d'.Calm ∧ d'.lives = d.lives ∧ d'.now.length = d.now.length ∧ d'.now.drop (2 + S) = applyW (d.now.drop (2 + S)) ws ∧ d'.wait = [] := by
  have hr := redoS_calm S ws d hc hw
  obtain ⟨q, hq⟩ : ∃ q, q = d.puts (shiftW S ws) := ⟨_, rfl⟩
  have hqc : q.Calm := by rw [hq]; exact hc.puts _
  have hql : q.now.length = d.now.length := by rw [hq]; exact Dsk.puts_len _ _
  have hqv : q.lives = d.lives := by rw [hq]; rfl
  have hqd : q.now.drop (2 + S) = applyW (d.now.drop (2 + S)) ws := by
    rw [hq]; exact applyW_drop_shift S ws d.now (fun x hx => (hw x hx).1)
  rw [← hq] at hr
  have e1 := Dsk.flush_calm hqc (by omega)
  have e3 : q.keepAll.write (1 - (sl : Int)) (slotB (B + S) S) = (0, q.keepAll.puts [(1 - (sl : Int), slotB (B + S) S)]) := Dsk.write_calm hqc.keepAll (by omega) (by show 1 - (sl : Int) < (q.now.length : Int); omega) (slotB_len _ _)
  have e4 := Dsk.flush_calm (hqc.keepAll.puts [(1 - (sl : Int), slotB (B + S) S)]) (by rw [Dsk.puts_len]; show 1 ≤ q.now.length; omega)
  have e2 : checkS q { size := S, base := B, slot := sl, used := 0, life := d.lives, commits := 0 } = (0, (q.keepAll.puts [(1 - (sl : Int), slotB (B + S) S)]).keepAll, ⟨S, B + S, 1 - sl, 0, d.lives, 0⟩) := by
    unfold checkS aliveS
    rw [if_neg (by rw [if_neg (by rw [hqc.off, hqv]; simp)]; decide), if_neg (by show ¬ topW < B + S; omega), e1, if_neg (by simp)]
    unfold raiseS
    simp only [e3, e4, ne_eq, not_true_eq_false, if_false]
    rfl
  refine ⟨(q.keepAll.puts [(1 - (sl : Int), slotB (B + S) S)]).keepAll, ?_, (hqc.keepAll.puts _).keepAll, hqv, ?_, ?_, rfl⟩
  · unfold openS
    rw [hc.off, if_neg (by decide), hb]
    simp only
    rw [if_neg (by omega), if_neg (by omega), hs, hr, if_neg (by simp), e2, if_neg (by simp)]
  · show (applyW q.now _).length = _; rw [applyW_length, hql]
  · show (applyW q.now [(1 - (sl : Int), slotB (B + S) S)]).drop (2 + S) = _
    rw [applyW_drop_low _ _ _ (fun y hy => by rw [List.mem_singleton.1 hy]; show (1 - (sl : Int)).toNat < _; omega), hqd]
def wtD1 : Dsk := (formatS (Dsk.new 40) 25).2
def wtD2 : Dsk := (openS wtD1).2.1
def wtL : Lg := ⟨25, 26, 1, 0, 0, 0⟩
theorem wt_open : openS wtD1 = (0, wtD2, some wtL) := by kernel_rfl
theorem wt_off : wtD2.off = false := by kernel_rfl
theorem wt_fuse : wtD2.fuse = -1 := by kernel_rfl
theorem wt_wait : wtD2.wait = [] := by kernel_rfl
theorem wt_lives : wtD2.lives = 0 := by kernel_rfl
theorem wt_same : wtD2.kept = wtD2.now := by kernel_rfl
theorem wt_len : wtD2.now.length = 40 := by kernel_rfl
theorem wt_best : bestS wtD2.now = (26, 25, 1) := by kernel_rfl
theorem wt_zeros : wtD2.now.drop 2 = List.replicate 38 (zeros 64) := by kernel_rfl
theorem wt_calm : wtD2.Calm := ⟨wt_off, wt_fuse⟩
/-- All sectors behind a transaction's entries. -/
def wtK (w : List (Int × Sec)) : List Sec := applyW wtD2.now (laidW 26 0 (entriesB w))
theorem wtK_len (w : List (Int × Sec)) : (wtK w).length = 40 := by unfold wtK; rw [applyW_length, wt_len]
theorem wt_place (p : Nat) (hp : p < 38) : wtD2.now.getD (2 + p) [] = zeros 64 := by
  rw [← getD_drop, wt_zeros, List.getD_eq_getElem?_getD, List.getElem?_replicate, if_pos hp]; rfl
theorem Dsk.puts_kept (d : Dsk) (a : List (Int × Sec)) : (d.puts a).kept = d.kept := rfl
theorem Dsk.puts_wait (d : Dsk) (a : List (Int × Sec)) : (d.puts a).wait = d.wait ++ a := rfl
theorem Dsk.puts_now (d : Dsk) (a : List (Int × Sec)) : (d.puts a).now = applyW d.now a := rfl
theorem Dsk.puts_lives (d : Dsk) (a : List (Int × Sec)) : (d.puts a).lives = d.lives := rfl
theorem Dsk.keepAll_kept (d : Dsk) : d.keepAll.kept = applyW d.kept d.wait := rfl
theorem Dsk.keepAll_now (d : Dsk) : d.keepAll.now = d.now := rfl
theorem Dsk.keepAll_lives (d : Dsk) : d.keepAll.lives = d.lives := rfl
structure WtW (w : List (Int × Sec)) : Prop where
  ne : w ≠ []
  few : w.length ≤ 10
  may : MayE 13 w
theorem wtK_homes {w : List (Int × Sec)} (h : WtW w) : (wtK w).drop 27 = wtD2.now.drop 27 := by
  have := h.few
  unfold wtK
  rw [applyW_drop_low _ _ _ (fun y hy => by obtain ⟨m1, m2, m3⟩ := laidW_mem hy; rw [entriesB_length] at m2; omega)]
theorem wtK_laid {w : List (Int × Sec)} (h : WtW w) (i : Nat) (x : Nat × Nat × Sec) (hx : (entriesB w)[i]? = some x) : (wtK w).getD (2 + (0 + i)) [] = entryB x.1 x.2.1 x.2.2 (26 + (0 + i)) := by
  have := h.few
  exact laidW_getD (base := 26) (entriesB w) 0 wtD2.now i x (by rw [wt_len, entriesB_length]; omega) hx
theorem wtK_far {w : List (Int × Sec)} (h : WtW w) (p : Nat) (h1 : 2 * w.length + 1 ≤ p) (h2 : p < 38) : (wtK w).getD (2 + p) [] = zeros 64 := by
  unfold wtK
  rw [applyW_getD_far _ _ _ (fun y hy => by obtain ⟨m1, m2, m3⟩ := laidW_mem hy; rw [entriesB_length] at m2; omega), wt_place p h2]
theorem wtK_slots {w : List (Int × Sec)} {n : Nat} (h : n < 2) : (wtK w).getD n [] = wtD2.now.getD n [] := by
  unfold wtK
  rw [applyW_getD_far _ _ _ (fun y hy => by obtain ⟨m1, m2, m3⟩ := laidW_mem hy; omega)]
theorem wtK_best (w : List (Int × Sec)) : bestS (wtK w) = (26, 25, 1) := by
  rw [← wt_best]
  exact bestS_congr (by rw [wtK_len, wt_len]) (wtK_slots (by omega)) (wtK_slots (by omega))
theorem wtK_home_len {w : List (Int × Sec)} (h : WtW w) {K : List Sec} (hK : K.length = 40) : MayE (homesS K 25) w := by
  have : homesS K 25 = 13 := by unfold homesS; rw [hK]
  rw [this]; exact h.may
/-- What the log says: all of it. -/
theorem wt_says {w : List (Int × Sec)} (h : WtW w) : saysS (wtK w) 26 25 26 0 [] = w := by
  have hf := h.few
  have h1 := oneS_laid (now := wtK w) (base := 26) (size := 25) (p := 0) (w := w) (wtK_home_len h (wtK_len w)) (fun i x hx => wtK_laid h i x hx) (by omega) h.ne (by unfold homesS; rw [wtK_len]; omega) (by omega) 0 26 (Nat.zero_le _) (by omega)
  simp only [Nat.mul_zero, Nat.add_zero, List.take_zero, Nat.zero_add] at h1
  rw [saysS, h1]
  simp only [List.nil_append]
  rw [saysS, oneS_zeros (now := wtK w) (base := 26) (size := 25) (p := 2 * w.length + 1) (fun hp => wtK_far h _ (Nat.le_refl _) (by omega)) (by omega) (by omega)]
/-- .. nothing, where a byte was turned. -/
theorem wt_none {w : List (Int × Sec)} (h : WtW w) {j i : Nat} (hj : j < 2 * w.length + 1) (hi : i < 64) {c : UInt8} (hc : c ≠ ((wtK w).getD (2 + j) []).getD i 0) : saysS ((wtK w).set (2 + j) (((wtK w).getD (2 + j) []).set i c)) 26 25 26 0 [] = [] := by
  have hf := h.few
  have hel : j < (entriesB w).length := by rw [entriesB_length]; omega
  have hx := wtK_laid h j _ (List.getElem?_eq_getElem hel)
  have hd := entriesB_data h.may.data _ (List.getElem_mem hel)
  rw [Nat.zero_add] at hx
  rw [hx] at hc ⊢
  have ht := entryR_turned hd hi hc
  generalize hK : (wtK w).set (2 + j) ((entryB (entriesB w)[j].1 (entriesB w)[j].2.1 (entriesB w)[j].2.2 (26 + j)).set i c) = K
  have hKl : K.length = 40 := by rw [← hK, List.length_set, wtK_len]
  have hKj : K.getD (2 + j) [] = (entryB (entriesB w)[j].1 (entriesB w)[j].2.1 (entriesB w)[j].2.2 (26 + j)).set i c := by
    rw [← hK, List.getD_eq_getElem?_getD, List.getElem?_set, if_pos rfl, if_pos (by rw [wtK_len]; omega)]; rfl
  have hKf : ∀ n, n ≠ 2 + j → K.getD n [] = (wtK w).getD n [] := fun n hn => by
    rw [← hK, List.getD_eq_getElem?_getD, List.getD_eq_getElem?_getD, List.getElem?_set, if_neg (by omega)]
  have hpl : placeS K 26 25 (0 + j) = none := by
    unfold placeS
    rw [if_neg (by omega), Nat.zero_add, hKj]; exact ht
  have := oneS_broken (now := K) (base := 26) (size := 25) (p := 0) (w := w) (wtK_home_len h hKl) (j := j) (by omega) (fun i x hi hx => by rw [hKf _ (by omega)]; exact wtK_laid h i x hx) hpl (by omega) (by unfold homesS; rw [hKl]; omega) 26 0 (by omega)
  simp only [Nat.mul_zero, Nat.add_zero, List.take_zero] at this
  rw [saysS, this]
/-- The commit. -/
theorem wt_commit {w : List (Int × Sec)} (h : WtW w) (hm : w.all (mayW wtD2 wtL) = true) :
    commitS wtD2 wtL w = (0, ((wtD2.puts (laidW 26 0 (entriesB w))).keepAll).puts (shiftW 25 w), { wtL with used := 0 + (2 * w.length + 1), commits := 1 }) := by
  have hf := h.few
  unfold commitS
  have ha : aliveS wtD2 wtL = 0 := by unfold aliveS; rw [wt_off, wt_lives]; rfl
  rw [ha, if_neg (by decide), if_neg (by rw [hm]; decide), if_neg (by show ¬ 25 < _; omega), if_neg h.ne, if_neg (by show ¬ 25 < 0 + _; omega)]
  have e1 := layS_calm 26 (entriesB w) wtD2 0 wt_calm (entriesB_data h.may.data) (by rw [entriesB_length, wt_len]; omega)
  have e0 : commitT wtD2 wtL w = (if (layS 26 wtD2 0 (entriesB w)).1 ≠ 0 then ((layS 26 wtD2 0 (entriesB w)).1, (layS 26 wtD2 0 (entriesB w)).2, wtL) else
    if (layS 26 wtD2 0 (entriesB w)).2.flush.1 ≠ 0 then ((layS 26 wtD2 0 (entriesB w)).2.flush.1, (layS 26 wtD2 0 (entriesB w)).2.flush.2, wtL) else
    ((redoS 25 (layS 26 wtD2 0 (entriesB w)).2.flush.2 w).1, (redoS 25 (layS 26 wtD2 0 (entriesB w)).2.flush.2 w).2, { wtL with used := 0 + (2 * w.length + 1), commits := 1 })) := rfl
  have e2 := Dsk.flush_calm (wt_calm.puts (laidW 26 0 (entriesB w))) (by rw [Dsk.puts_len, wt_len]; omega)
  have e3 := redoS_calm 25 w ((wtD2.puts (laidW 26 0 (entriesB w))).keepAll) (wt_calm.puts _).keepAll (fun x hx => by
    have h1 := h.may.home x hx
    have h2 := h.may.data x hx
    show 0 ≤ x.1 ∧ 2 + 25 + x.1 < ((wtD2.puts (laidW 26 0 (entriesB w))).now.length : Int) ∧ _
    rw [Dsk.puts_len, wt_len]
    omega)
  rw [e0, e1]
  simp only [e2, e3, ne_eq, not_true_eq_false, if_false]
/-- .. the homes behind it. -/
theorem wt_homes {w : List (Int × Sec)} (h : WtW w) : ((((wtD2.puts (laidW 26 0 (entriesB w))).keepAll).puts (shiftW 25 w)).now).drop 27 = applyW (wtD2.now.drop 27) w := by
  rw [Dsk.puts_now, Dsk.keepAll_now, Dsk.puts_now, show applyW wtD2.now (laidW 26 0 (entriesB w)) = wtK w from rfl, show (27 : Nat) = 2 + 25 from rfl]
  rw [applyW_drop_shift 25 w _ (fun x hx => (h.may.home x hx).1)]
  rw [show 2 + 25 = 27 from rfl, wtK_homes h]
/-- .. a crash. -/
theorem wt_crash (w : List (Int × Sec)) : ((((wtD2.puts (laidW 26 0 (entriesB w))).keepAll).puts (shiftW 25 w)).crash []) = { kept := wtK w, now := wtK w, wait := [], fuse := -1, off := false, lives := 1 } := by
  have e : crashW (((wtD2.puts (laidW 26 0 (entriesB w))).keepAll).puts (shiftW 25 w)).kept (((wtD2.puts (laidW 26 0 (entriesB w))).keepAll).puts (shiftW 25 w)).wait [] = wtK w := by
    rw [crashW_nil, Dsk.puts_kept, Dsk.keepAll_kept, Dsk.puts_kept, Dsk.puts_wait, wt_wait, wt_same, List.nil_append]
    unfold wtK
    rfl
  unfold Dsk.crash
  simp only [e, Dsk.puts_lives, Dsk.keepAll_lives, wt_lives]
theorem wtK_sec {w : List (Int × Sec)} (h : WtW w) : ∀ s ∈ wtK w, s.length = 64 := by
  intro s hs
  refine applyW_sec _ (fun x hx => ?_) wtD2.now ?_ s hs
  · obtain ⟨i, hi⟩ := List.getElem?_of_mem hx
    obtain ⟨y, hy, rfl⟩ := laidW_get _ _ _ _ _ hi
    exact entryB_length (entriesB_data h.may.data y (List.mem_of_getElem? hy))
  · have : wtD2.now.all (fun s => decide (s.length = 64)) = true := by kernel_rfl
    intro s hs
    exact of_decide_eq_true (List.all_eq_true.1 this s hs)
/-- The recovery behind a byte that was turned, or not. -/
theorem wt_back {w : List (Int × Sec)} (h : WtW w) {j i : Nat} (hj : j < 2 * w.length + 1) (hi : i < 64) (x : UInt8) (d5 : Dsk) (hd : d5 = (Dsk.mk (wtK w) (wtK w) [] (-1) false 1).puts [((2 : Int) + (j : Int), ((wtK w).getD (2 + j) []).set i ((((wtK w).getD (2 + j) []).getD i 0) ^^^ x))]) :
    ∃ d', openS d5 = (0, d', some ⟨25, 51, 0, 0, 1, 0⟩) ∧ d'.Calm ∧ d'.lives = 1 ∧ d'.now.length = 40 ∧ d'.now.drop 27 = (if x = 0 then applyW (wtD2.now.drop 27) w else wtD2.now.drop 27) := by
  have hf := h.few
  have hsec := getD_sec (wtK_sec h) (n := 2 + j) (by rw [wtK_len]; omega)
  have hnow : d5.now = (wtK w).set (2 + j) (((wtK w).getD (2 + j) []).set i ((((wtK w).getD (2 + j) []).getD i 0) ^^^ x)) := by
    rw [hd]
    show applyW (wtK w) [((2 : Int) + (j : Int), _)] = _
    show (wtK w).set ((2 : Int) + (j : Int)).toNat _ = _
    rw [show ((2 : Int) + (j : Int)).toNat = 2 + j by omega]
  have hc : d5.Calm := by rw [hd]; exact Dsk.Calm.puts ⟨rfl, rfl⟩ _
  have hl : d5.lives = 1 := by rw [hd]; rfl
  have hnl : d5.now.length = 40 := by rw [hnow, List.length_set, wtK_len]
  have hbest : bestS d5.now = (26, 25, 1) := by
    rw [← wtK_best w, hnow]
    refine bestS_congr (by rw [List.length_set]) ?_ ?_ <;> simp only [List.getD_eq_getElem?_getD] <;> rw [List.getElem?_set, if_neg (by omega)]
  have hdrop : d5.now.drop 27 = wtD2.now.drop 27 := by
    rw [hnow, List.drop_set_of_lt (by omega), wtK_homes h]
  by_cases hx : x = 0
  · subst hx
    have e : d5.now = wtK w := by
      rw [hnow]
      have hil : i < ((wtK w).getD (2 + j) []).length := by omega
      have e1 : ((wtK w).getD (2 + j) []).set i ((((wtK w).getD (2 + j) []).getD i 0) ^^^ 0) = (wtK w).getD (2 + j) [] := by
        apply List.ext_getElem?
        intro k
        rw [List.getElem?_set]
        by_cases hk : i = k
        · subst hk
          rw [if_pos rfl, if_pos hil, List.getD_eq_getElem?_getD, List.getElem?_eq_getElem hil]; simp
        · rw [if_neg hk]
      rw [e1]
      apply List.ext_getElem?
      intro k
      rw [List.getElem?_set]
      by_cases hk : 2 + j = k
      · subst hk
        have hkl : 2 + j < (wtK w).length := by rw [wtK_len]; omega
        rw [if_pos rfl, if_pos hkl, List.getD_eq_getElem?_getD, List.getElem?_eq_getElem hkl]; rfl
      · rw [if_neg hk]
    obtain ⟨d', h1, h2, h3, h4, h5, _⟩ := open_plain hc hbest (by omega) (by unfold topW; omega) (by omega) (by rw [hnl]; omega) (ws := w) (by rw [e]; exact wt_says h) (fun y hy => by
      have h1 := h.may.home y hy
      have h2 := h.may.data y hy
      rw [hnl]; omega)
    rw [hl] at h1
    exact ⟨d', h1, h2, by rw [h3, hl], by rw [h4, hnl], by rw [if_pos rfl, ← hdrop]; exact h5⟩
  · have hne : (((wtK w).getD (2 + j) []).getD i 0) ^^^ x ≠ ((wtK w).getD (2 + j) []).getD i 0 := fun e => hx (by
      have h2 := congrArg (fun z => ((wtK w).getD (2 + j) []).getD i 0 ^^^ z) e
      simp only [← UInt8.xor_assoc, UInt8.xor_self, UInt8.zero_xor] at h2
      exact h2)
    obtain ⟨d', h1, h2, h3, h4, h5, _⟩ := open_plain hc hbest (by omega) (by unfold topW; omega) (by omega) (by rw [hnl]; omega) (ws := []) (by rw [hnow]; exact wt_none h hj hi hne) (fun y hy => by cases hy)
    rw [hl] at h1
    exact ⟨d', h1, h2, by rw [h3, hl], by rw [h4, hnl], by rw [if_neg hx, ← hdrop]; exact h5⟩
end Bst
