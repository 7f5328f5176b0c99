/- A log on a disk without a fuse, plainly: all that is written is there. A log, the power going, plainly: what a crash leaves. A log, the power going, plainly: a commit, a recovery. A log, the power going, plainly: a commit. A log, the power going, plainly: a commit whatever it is of; recovering without a fuse. -/
import Derived.Test.YtkmnjccklnfcdaaPlainA
namespace Bst
set_option linter.unusedVariables false

structure Dsk.Calm (d : Dsk) : Prop where
  off : d.off = false
  fuse : d.fuse = -1
def Dsk.puts (d : Dsk) (ws : List (Int × Sec)) : Dsk := { d with wait := d.wait ++ ws, now := applyW d.now ws }
theorem Dsk.puts_nil (d : Dsk) : d.puts [] = d := by simp [Dsk.puts, applyW]
theorem Dsk.puts_puts (d : Dsk) (a b : List (Int × Sec)) : (d.puts a).puts b = d.puts (a ++ b) := by
  simp [Dsk.puts, applyW, List.foldl_append]
theorem Dsk.put_puts (d : Dsk) (n : Int) (b : Sec) : d.put n b = d.puts [(n, b)] := rfl
theorem Dsk.puts_len (d : Dsk) (a : List (Int × Sec)) : (d.puts a).now.length = d.now.length := applyW_length a d.now
theorem Dsk.Calm.puts {d : Dsk} (h : d.Calm) (a : List (Int × Sec)) : (d.puts a).Calm := ⟨h.off, h.fuse⟩
theorem Dsk.Calm.keepAll {d : Dsk} (h : d.Calm) : d.keepAll.Calm := ⟨h.off, h.fuse⟩
theorem Dsk.Calm.burnt {d : Dsk} (h : d.Calm) : d.burnt = d := by unfold Dsk.burnt; rw [if_pos (by rw [h.fuse]; decide)]
theorem Dsk.write_calm {d : Dsk} (h : d.Calm) {n : Int} {b : Sec} (h0 : 0 ≤ n) (hn : n < d.now.length) (hb : b.length = 64) : d.write n b = (0, d.puts [(n, b)]) := by
  have hm : d.may n = 0 := by unfold Dsk.may; rw [h.off, if_neg (by decide), if_neg (by omega)]
  have hc : (d.put n b).Calm := ⟨h.off, h.fuse⟩
  unfold Dsk.write
  rw [hm, if_neg (by decide), if_neg (by rw [hb]; decide), hc.burnt, hc.off, if_neg (by decide)]
  rfl
theorem Dsk.flush_calm {d : Dsk} (h : d.Calm) (hp : 1 ≤ d.now.length) : d.flush = (0, d.keepAll) := by
  have hm : d.may 0 = 0 := by unfold Dsk.may; rw [h.off, if_neg (by decide), if_neg (by omega)]
  unfold Dsk.flush
  rw [hm, if_neg (by decide), h.burnt, h.off, if_neg (by decide)]
abbrev shiftW (size : Nat) (ws : List (Int × Sec)) : List (Int × Sec) := ws.map fun x => (2 + size + x.1, x.2)
theorem redoS_calm (size : Nat) : ∀ (ws : List (Int × Sec)) (d : Dsk), d.Calm → (∀ x ∈ ws, 0 ≤ x.1 ∧ 2 + size + x.1 < d.now.length ∧ x.2.length = 64) → redoS size d ws = (0, d.puts (shiftW size ws))
  | [], d, _, _ => by rw [redoS, shiftW, List.map_nil, Dsk.puts_nil]
  | x :: ws, d, h, hx => by
    obtain ⟨h0, h1, h2⟩ := hx x (List.mem_cons_self ..)
    have hw := Dsk.write_calm h (n := 2 + size + x.1) (b := x.2) (by omega) h1 h2
    rw [redoS, hw, if_neg (by simp)]
    show redoS size (d.puts _) ws = _
    rw [redoS_calm size ws (d.puts _) (h.puts _) (fun y hy => by rw [Dsk.puts_len]; exact hx y (List.mem_cons_of_mem _ hy)), Dsk.puts_puts]
    rfl
/-- The writes that lay entries. -/
def laidW (base : Nat) : Nat → List (Nat × Nat × Sec) → List (Int × Sec)
  | _, [] => []
  | p, x :: xs => ((2 + (p : Int)), entryB x.1 x.2.1 x.2.2 (base + p)) :: laidW base (p + 1) xs
theorem layS_calm (base : Nat) : ∀ (xs : List (Nat × Nat × Sec)) (d : Dsk) (p : Nat), d.Calm → (∀ x ∈ xs, x.2.2.length = 32) → 2 + p + xs.length ≤ d.now.length → layS base d p xs = (0, d.puts (laidW base p xs))
  | [], d, p, _, _, _ => by rw [layS, laidW, Dsk.puts_nil]
  | x :: xs, d, p, h, hx, hl => by
    rw [List.length_cons] at hl
    have hw := Dsk.write_calm h (n := 2 + (p : Int)) (b := entryB x.1 x.2.1 x.2.2 (base + p)) (by omega) (by omega) (entryB_length (hx x (List.mem_cons_self ..)))
    rw [layS, hw]
    show (if (0 : Int) ≠ 0 then _ else layS base (d.puts _) (p + 1) xs) = _
    rw [if_neg (by decide), layS_calm base xs (d.puts _) (p + 1) (h.puts _) (fun y hy => hx y (List.mem_cons_of_mem _ hy)) (by rw [Dsk.puts_len]; omega), Dsk.puts_puts]
    rfl
theorem entriesB_data {w : List (Int × Sec)} (h : ∀ x ∈ w, x.2.length = 64) : ∀ y ∈ entriesB w, y.2.2.length = 32 := by
  intro y hy
  unfold entriesB at hy
  rcases List.mem_append.1 hy with h1 | h1
  · obtain ⟨x, hx, h2⟩ := List.mem_flatMap.1 h1
    have := h x hx
    simp at h2
    rcases h2 with rfl | rfl
    · simp [this]
    · simp [this]
  · rw [List.mem_singleton.1 h1]; exact zeros_length 32
theorem applyW_app (l : List Sec) (a b : List (Int × Sec)) : applyW l (a ++ b) = applyW (applyW l a) b := by simp [applyW, List.foldl_append]
/-- Writes below a place leave what is from it on. -/
theorem applyW_drop_low (k : Nat) : ∀ (ws : List (Int × Sec)) (l : List Sec), (∀ x ∈ ws, x.1.toNat < k) → (applyW l ws).drop k = l.drop k
  | [], l, _ => rfl
  | x :: ws, l, h => by
    show (applyW (setW l x) ws).drop k = _
    rw [applyW_drop_low k ws _ (fun y hy => h y (List.mem_cons_of_mem _ hy))]
    unfold setW
    rw [List.drop_set_of_lt (h x (List.mem_cons_self ..))]
theorem applyW_drop_shift (size : Nat) : ∀ (ws : List (Int × Sec)) (l : List Sec), (∀ x ∈ ws, 0 ≤ x.1) → (applyW l (shiftW size ws)).drop (2 + size) = applyW (l.drop (2 + size)) ws
  | [], l, _ => rfl
  | x :: ws, l, h => by
    show (applyW (setW l (2 + size + x.1, x.2)) (shiftW size ws)).drop _ = applyW (setW (l.drop (2 + size)) x) ws
    rw [applyW_drop_shift size ws _ (fun y hy => h y (List.mem_cons_of_mem _ hy))]
    have := h x (List.mem_cons_self ..)
    congr 1
    unfold setW
    show (l.set (2 + (size : Int) + x.1).toNat x.2).drop (2 + size) = _
    rw [show (2 + (size : Int) + x.1).toNat = (2 + size) + x.1.toNat by omega, List.drop_set, if_neg (by omega), Nat.add_sub_cancel_left]
/-- A sector that no write is of. -/
theorem applyW_getD_far (n : Nat) : ∀ (ws : List (Int × Sec)) (l : List Sec), (∀ x ∈ ws, x.1.toNat ≠ n) → (applyW l ws).getD n [] = l.getD n []
  | [], l, _ => rfl
  | x :: ws, l, h => by
    show (applyW (setW l x) ws).getD n [] = _
    rw [applyW_getD_far n ws _ (fun y hy => h y (List.mem_cons_of_mem _ hy))]
    unfold setW
    have := h x (List.mem_cons_self ..)
    simp [List.getD_eq_getElem?_getD, this]
theorem laidW_mem {base : Nat} : ∀ {xs : List (Nat × Nat × Sec)} {p : Nat} {x : Int × Sec}, x ∈ laidW base p xs → 2 + p ≤ x.1.toNat ∧ x.1.toNat < 2 + p + xs.length ∧ 0 ≤ x.1
  | [], p, x, h => by cases h
  | y :: ys, p, x, h => by
    rcases List.mem_cons.1 h with rfl | h1
    · simp only [List.length_cons]; omega
    · have := laidW_mem h1; simp only [List.length_cons]; omega
theorem laidW_getD {base : Nat} : ∀ (xs : List (Nat × Nat × Sec)) (p : Nat) (l : List Sec) (i : Nat) (x : Nat × Nat × Sec), 2 + p + xs.length ≤ l.length → xs[i]? = some x → (applyW l (laidW base p xs)).getD (2 + (p + i)) [] = entryB x.1 x.2.1 x.2.2 (base + (p + i))
  | [], p, l, i, x, _, h => by simp at h
  | y :: ys, p, l, i, x, hl, h => by
    rw [List.length_cons] at hl
    show (applyW (setW l (2 + (p : Int), entryB y.1 y.2.1 y.2.2 (base + p))) (laidW base (p + 1) ys)).getD _ [] = _
    cases i with
    | zero =>
      simp at h; subst h
      rw [applyW_getD_far _ _ _ (fun z hz => by have := laidW_mem hz; omega)]
      unfold setW
      show (l.set (2 + (p : Int)).toNat _).getD _ [] = _
      rw [show (2 + (p : Int)).toNat = 2 + p by omega]
      simp [List.getD_eq_getElem?_getD, show 2 + p < l.length by omega]
    | succ i =>
      have := laidW_getD (base := base) ys (p + 1) (setW l (2 + (p : Int), entryB y.1 y.2.1 y.2.2 (base + p))) i x (by rw [setW_length]; omega) (by simpa using h)
      rw [show p + (i + 1) = p + 1 + i by omega]
      exact this
/-- A transaction of which a place is not right. -/
theorem oneS_broken {now : List Sec} {base size p : Nat} {w : List (Int × Sec)} (hw : MayE (homesS now size) w) {j : Nat} (hj : j ≤ 2 * w.length) (hl : ∀ i x, i < j → (entriesB w)[i]? = some x → now.getD (2 + (p + i)) [] = entryB x.1 x.2.1 x.2.2 (base + (p + i)))
    (hb : placeS now base size (p + j) = none) (hp : p + (2 * w.length + 1) ≤ size) (hh : homesS now size < 4294967296) :
    ∀ (f m : Nat), 2 * m ≤ j → oneS now base size f (p + 2 * m) (w.take m) = none
  | 0, m, _ => rfl
  | f + 1, m, hm => by
    by_cases h0 : j = 2 * m
    · rw [oneS, ← h0, hb]
    · have hml : m < w.length := by omega
      obtain ⟨e1, e2⟩ := entriesB_pair hml
      have hx := hw.home _ (List.getElem_mem hml)
      have hd := hw.data _ (List.getElem_mem hml)
      have p1 := placeS_laid (size := size) (p := p + 2 * m) (by omega) (hl _ _ (by omega) e1) (by show 1 < 256; decide) (by show w[m].1.toNat < _; omega) (by show (w[m].2.take 32).length = 32; rw [List.length_take, hd]; rfl)
      rw [oneS, p1]
      simp only
      rw [if_neg (by simp), if_neg (by omega), Nat.add_assoc p]
      by_cases h1 : j = 2 * m + 1
      · rw [← h1, hb]
      · have p2 := placeS_laid (size := size) (p := p + (2 * m + 1)) (by omega) (hl _ _ (by omega) e2) (by show 2 < 256; decide) (by show w[m].1.toNat < _; omega) (by show (w[m].2.drop 32).length = 32; rw [List.length_drop, hd])
        rw [p2]
        simp only [true_and, if_true]
        have e3 : w.take m ++ [(((w[m].1.toNat : Nat) : Int), w[m].2.take 32 ++ w[m].2.drop 32)] = w.take (m + 1) := by
          rw [List.take_append_drop, Int.toNat_of_nonneg hx.1, List.take_succ_eq_append_getElem hml]
        rw [e3, show p + 2 * m + 2 = p + 2 * (m + 1) by omega]
        exact oneS_broken hw hj hl hb hp hh f (m + 1) (by omega)
/-- Noughts are no entry. -/
theorem entryR_zeros {a : Nat} (h0 : 0 < a) (h1 : a < 18446744073709551616) : entryR (zeros 64) a = none := by
  refine entryR_stale (zeros_length 64) (fun e => ?_)
  have e2 := congrArg beV e
  rw [beV_beL 8 a (by simpa using h1)] at e2
  have : beV ((zeros 64).drop 56) = 0 := by decide +kernel
  omega
theorem oneS_zeros {now : List Sec} {base size p : Nat} (h : p < size → now.getD (2 + p) [] = zeros 64) (h0 : 0 < base + p) (h1 : base + p < 18446744073709551616) (f : Nat) (out : List (Int × Sec)) : oneS now base size f p out = none := by
  cases f with
  | zero => rfl
  | succ f =>
    have : placeS now base size p = none := by
      unfold placeS
      by_cases hp : size ≤ p
      · rw [if_pos hp]
      · rw [if_neg hp, h (by omega), entryR_zeros h0 h1]
    rw [oneS, this]
end Bst
namespace Bst
set_option linter.unusedVariables false

/-- A sector's last eight bytes are a small stamp. -/
structure Stm (b : Sec) (u : Nat) : Prop where
  len : b.length = 64
  lt : u < 256
  eq : b.drop 56 = beL u 8
theorem beL_small {u : Nat} (h : u < 256) : beL u 8 = zeros 7 ++ [UInt8.ofNat u] := by
  have e : ∀ k, leL 0 k = zeros k := by
    intro k
    induction k with
    | zero => rfl
    | succ k ih => rw [leL, show 0 / 256 = 0 from rfl, ih]; rfl
  rw [beL, leL, show u / 256 = 0 by omega, show u % 256 = u by omega, e, List.reverse_cons]
  congr 1
theorem beL_small_inj {u v : Nat} (hu : u < 256) (hv : v < 256) (h : beL u 8 = beL v 8) : u = v := by
  have := congrArg beV h
  rwa [beV_beL 8 u (by omega), beV_beL 8 v (by omega)] at this
def tornS (new old : Sec) (c : Nat) : Sec := new.take c ++ old.drop c
theorem tornS_length {a b : Sec} (ha : a.length = 64) (hb : b.length = 64) (c : Nat) : (tornS a b c).length = 64 := by simp [tornS, ha, hb]; omega
theorem tornS_full {a b : Sec} (ha : a.length = 64) (hb : b.length = 64) {c : Nat} (hc : 64 ≤ c) : tornS a b c = a := by
  unfold tornS
  rw [List.take_of_length_le (by omega), List.drop_of_length_le (by omega), List.append_nil]
theorem tornS_stm {a b : Sec} {u v : Nat} (ha : Stm a v) (hb : Stm b u) {c : Nat} (hc : c < 64) : Stm (tornS a b c) u := by
  refine ⟨tornS_length ha.len hb.len c, hb.lt, ?_⟩
  unfold tornS
  by_cases h : c ≤ 56
  · rw [List.drop_append, List.drop_of_length_le (by rw [List.length_take]; omega), List.nil_append, List.length_take, ha.len, List.drop_drop, show c + (56 - min c 64) = 56 by omega]
    exact hb.eq
  · have e1 : (a.take c).drop 56 = (a.drop 56).take (c - 56) := by rw [List.drop_take]
    have e2 : b.drop c = (b.drop 56).drop (c - 56) := by rw [List.drop_drop, show 56 + (c - 56) = c by omega]
    rw [List.drop_append, e1, List.length_take, ha.len, show 56 - min c 64 = 0 by omega, List.drop_zero, e2, ha.eq, hb.eq, beL_small ha.lt, beL_small hb.lt]
    have : c - 56 = 1 ∨ c - 56 = 2 ∨ c - 56 = 3 ∨ c - 56 = 4 ∨ c - 56 = 5 ∨ c - 56 = 6 ∨ c - 56 = 7 := by omega
    rcases this with e | e | e | e | e | e | e <;> rw [e] <;> rfl
theorem Stm.entry {k n a : Nat} {d : Sec} (hd : d.length = 32) (ha : a < 256) : Stm (entryB k n d a) a := ⟨entryB_length hd, ha, entryB_stamp hd⟩
theorem slotB_len (b s : Nat) : (slotB b s).length = 64 := by simp [slotB, beL_length, zeros]
theorem slotB_stamp (b s : Nat) : (slotB b s).drop 56 = beL b 8 := by
  have e : slotB b s = (beL b 8 ++ (beL s 4 ++ zeros 44)) ++ beL b 8 := by simp [slotB]
  rw [e, List.drop_left' (by simp [beL_length, zeros])]
theorem Stm.slot {b s : Nat} (h : b < 256) : Stm (slotB b s) b := ⟨slotB_len b s, h, slotB_stamp b s⟩
theorem Stm.zero : Stm (zeros 64) 0 := ⟨zeros_length 64, by decide, by decide +kernel⟩
/-- A slot that is right has its stamp. -/
theorem slotR_stm {b : Sec} {u n : Nat} (h : Stm b u) {x : Nat × Nat} (hx : slotR b n = some x) : x.1 = u := by
  unfold slotR at hx
  split at hx
  · rename_i hc
    injection hx with hx
    rw [← hx]
    show beV (b.take 8) = u
    rw [hc.1, h.eq, beV_beL 8 u (by have := h.lt; omega)]
  · cases hx
theorem slotR_zero {b : Sec} {n : Nat} (h : Stm b 0) : slotR b n = none := by
  cases hx : slotR b n with
  | none => rfl
  | some x =>
    have h0 := slotR_stm h hx
    unfold slotR at hx
    split at hx
    · rename_i hc
      injection hx with hx
      rw [← hx] at h0
      have := hc.2.1
      omega
    · cases hx
theorem slotR_slotB {b s n : Nat} (hb : 1 ≤ b) (hb2 : b ≤ topW) (hs : 3 ≤ s) (hn : s + 3 ≤ n) (hs2 : s < 4294967296) : slotR (slotB b s) n = some (b, s) := by
  have e1 : (slotB b s).take 8 = beL b 8 := by rw [slotB, List.take_left' (beL_length _ _)]
  have e2 : ((slotB b s).drop 8).take 4 = beL s 4 := by rw [slotB, List.drop_left' (beL_length _ _), List.take_left' (beL_length _ _)]
  have e3 : ((slotB b s).drop 12).take 44 = zeros 44 := by
    have : slotB b s = (beL b 8 ++ beL s 4) ++ (zeros 44 ++ beL b 8) := by simp [slotB]
    rw [this, List.drop_left' (by simp [beL_length]), List.take_left' (zeros_length 44)]
  unfold slotR
  rw [e1, e2, e3, slotB_stamp, beV_beL 8 b (by unfold topW at hb2; omega), beV_beL 4 s (by simpa using hs2), if_pos ⟨rfl, hb, hb2, hs, hn, nought_zeros 44⟩]
theorem entryR_stm {b : Sec} {u a : Nat} (h : Stm b u) (hne : u ≠ a) (ha : a < 256) : entryR b a = none :=
  entryR_stale h.len (fun e => hne (beL_small_inj h.lt ha (h.eq.symm.trans e)))

/-- Crashes, write by write. -/
theorem crashW_nil (l : List Sec) (ws : List (Int × Sec)) : crashW l ws [] = l := by cases ws <;> rfl
theorem crashW_app : ∀ (a b : List (Int × Sec)) (l : List Sec) (cs : List UInt8), crashW l (a ++ b) cs = crashW (crashW l a cs) b (cs.drop a.length)
  | [], b, l, cs => by cases cs <;> simp [crashW]
  | x :: a, b, l, [] => by simp [crashW_nil, crashW]
  | x :: a, b, l, c :: cs => by
    rw [List.cons_append, crashW, crashW, crashW_app a b]
    rfl
/-- What holds at each step of a crash. -/
theorem crashW_steps : ∀ (ws : List (Int × Sec)) (l : List Sec) (cs : List UInt8) (I : Nat → List Sec → Prop), I 0 l → (∀ i x l c, ws[i]? = some x → I i l → c ≤ 64 → I (i + 1) (tornW l x c)) → ∃ i, i ≤ ws.length ∧ I i (crashW l ws cs)
  | [], l, cs, I, h0, _ => ⟨0, Nat.le_refl _, by cases cs <;> exact h0⟩
  | x :: ws, l, [], I, h0, _ => ⟨0, Nat.zero_le _, h0⟩
  | x :: ws, l, c :: cs, I, h0, hs => by
    obtain ⟨i, hi, h⟩ := crashW_steps ws (tornW l x (min c.toNat 64)) cs (fun i l => I (i + 1) l) (hs 0 x l _ rfl h0 (by omega)) (fun i y l c hy h hc => hs (i + 1) y l c (by simpa using hy) h hc)
    exact ⟨i + 1, by simpa using hi, h⟩
theorem tornW_getD (l : List Sec) (x : Int × Sec) (c n : Nat) (hn : n < l.length) : (tornW l x c).getD n [] = if n = x.1.toNat then tornS x.2 (l.getD n []) c else l.getD n [] := by
  unfold tornW
  simp only [List.getD_eq_getElem?_getD, List.getElem?_set]
  by_cases h : x.1.toNat = n
  · subst h
    simp [hn, tornS]
  · simp [h, Ne.symm h]
theorem tornW_drop_low (l : List Sec) (x : Int × Sec) (c k : Nat) (h : x.1.toNat < k) : (tornW l x c).drop k = l.drop k := by
  unfold tornW; rw [List.drop_set_of_lt h]
theorem tornW_drop_high (l : List Sec) (x : Int × Sec) (c k : Nat) (h : k ≤ x.1.toNat) : ∃ y, (tornW l x c).drop k = (l.drop k).set (x.1.toNat - k) y := by
  refine ⟨x.2.take c ++ (l.getD x.1.toNat []).drop c, ?_⟩
  unfold tornW; rw [List.drop_set, if_neg (by omega)]
theorem getD_drop (l : List Sec) (k n : Nat) : (l.drop k).getD n [] = l.getD (k + n) [] := by
  simp [List.getD_eq_getElem?_getD]
/-- Where a home is written later, what it was before is nothing. -/
theorem applyW_set_over : ∀ (ws : List (Int × Sec)) (l : List Sec) (n : Nat) (y : Sec), (∃ x ∈ ws, x.1.toNat = n) → applyW (l.set n y) ws = applyW l ws
  | [], l, n, y, h => by obtain ⟨x, hx, _⟩ := h; cases hx
  | x :: ws, l, n, y, h => by
    show applyW (setW (l.set n y) x) ws = applyW (setW l x) ws
    by_cases e : x.1.toNat = n
    · have : setW (l.set n y) x = setW l x := by unfold setW; rw [e, List.set_set]
      rw [this]
    · have : setW (l.set n y) x = (setW l x).set n y := by unfold setW; rw [List.set_comm _ _ (Ne.symm e)]
      rw [this]
      refine applyW_set_over ws _ n y ?_
      obtain ⟨z, hz, hn⟩ := h
      rcases List.mem_cons.1 hz with rfl | h1
      · exact absurd hn e
      · exact ⟨z, h1, hn⟩
end Bst
namespace Bst
/-- The entries of transactions, one behind the other. -/
abbrev flatE (T : List (List (Int × Sec))) : List (Nat × Nat × Sec) := T.flatMap entriesB
/-- A disk's sectors with a log in them: N sectors, S places, the base B in the slot sl, the transactions T; H: the homes when they are redone. -/
structure Img (N S : Nat) (K : List Sec) (B sl : Nat) (T : List (List (Int × Sec))) (H : List Sec) : Prop where
  len : K.length = N
  sec : ∀ s ∈ K, s.length = 64
  room : 3 ≤ S ∧ S + 3 ≤ N ∧ N ≤ 16384
  pos : 1 ≤ B
  small : B + S ≤ 256
  slLe : sl ≤ 1
  slot : K.getD sl [] = slotB B S
  other : ∃ u, u < B ∧ Stm (K.getD (1 - sl) []) u
  place : ∀ p, p < S → ∃ u, u ≤ B + p ∧ Stm (K.getD (2 + p) []) u
  laid : LaidE K B 0 (flatE T)
  fits : (flatE T).length ≤ S
  may : ∀ w ∈ T, MayE (N - 2 - S) w ∧ w ≠ []
  homes : applyW (K.drop (2 + S)) T.flatten = H
/-- Nothing more is said. -/
def Stops (S : Nat) (K : List Sec) (B : Nat) (T : List (List (Int × Sec))) : Prop := ∀ f, oneS K B S f (flatE T).length [] = none
/-- All places behind what is said are old. -/
def Clean (S : Nat) (K : List Sec) (B q : Nat) : Prop := ∀ p, q ≤ p → p < S → ∃ u, u < B + p ∧ Stm (K.getD (2 + p) []) u
section
variable {N S : Nat} {K : List Sec} {B sl : Nat} {T : List (List (Int × Sec))} {H : List Sec}
theorem Img.best (h : Img N S K B sl T H) : bestS K = (B, S, sl) := by
  obtain ⟨u, hu, ho⟩ := h.other
  have hr := h.room
  have hs := h.small
  have hp := h.pos
  have e := slotR_slotB (n := K.length) h.pos (by unfold topW; omega) h.room.1 (by rw [h.len]; omega) (by omega : S < 4294967296)
  rw [← h.slot] at e
  have hl := h.slLe
  unfold bestS
  rcases (by omega : sl = 0 ∨ sl = 1) with rfl | rfl
  · rw [e]
    cases hx : slotR (K.getD 1 []) K.length with
    | none => rfl
    | some x =>
      have := slotR_stm ho hx
      obtain ⟨b, s⟩ := x
      simp only at this ⊢
      rw [if_neg (by omega)]
  · rw [e]
    cases hx : slotR (K.getD 0 []) K.length with
    | none => simp; omega
    | some x =>
      have := slotR_stm ho hx
      obtain ⟨b, s⟩ := x
      simp only at this ⊢
      rw [if_pos (by omega)]
theorem Clean.stops (h : Clean S K B (flatE T).length) (hs : B + S ≤ 256) : Stops S K B T := by
  intro f
  cases f with
  | zero => rfl
  | succ f =>
    have : placeS K B S (flatE T).length = none := by
      unfold placeS
      split
      · rfl
      · obtain ⟨u, hu, hst⟩ := h _ (Nat.le_refl _) (by omega)
        exact entryR_stm hst (by omega) (by omega)
    rw [oneS, this]
theorem placeS_congr {K' : List Sec} (h : ∀ p, p < S → K'.getD (2 + p) [] = K.getD (2 + p) []) (p : Nat) : placeS K' B S p = placeS K B S p := by
  unfold placeS
  split
  · rfl
  · rw [h p (by omega)]
theorem oneS_congr {K' : List Sec} (hl : K'.length = K.length) (h : ∀ p, p < S → K'.getD (2 + p) [] = K.getD (2 + p) []) : ∀ (f i : Nat) (out : List (Int × Sec)), oneS K' B S f i out = oneS K B S f i out
  | 0, _, _ => rfl
  | f + 1, i, out => by
    have hh : homesS K' S = homesS K S := by unfold homesS; rw [hl]
    rw [oneS, oneS, placeS_congr h, placeS_congr h, hh]
    simp only [oneS_congr hl h f]
/-- A home of what is said, torn or written. -/
def Tch (N S : Nat) (T : List (List (Int × Sec))) (x : Int × Sec) : Prop := 2 + S ≤ x.1.toNat ∧ x.1.toNat < N ∧ x.2.length = 64 ∧ ∃ y ∈ T.flatten, y.1.toNat = x.1.toNat - (2 + S)
theorem Img.torn_home (h : Img N S K B sl T H) {x : Int × Sec} (hx : Tch N S T x) (c : Nat) : Img N S (tornW K x c) B sl T H := by
  obtain ⟨h1, h2, h3, h4⟩ := hx
  have hr := h.room
  have hsl := h.slLe
  have hg : ∀ n, n < 2 + S → (tornW K x c).getD n [] = K.getD n [] := fun n hn => by
    rw [tornW_getD _ _ _ _ (by rw [h.len]; omega), if_neg (by omega)]
  refine ⟨by rw [tornW_length]; exact h.len, tornW_sec h.sec h3 c, h.room, h.pos, h.small, h.slLe, by rw [hg _ (by omega)]; exact h.slot, by rw [hg _ (by omega)]; exact h.other, fun p hp => by rw [hg _ (by omega)]; exact h.place p hp, fun i y hy => ?_, h.fits, h.may, ?_⟩
  · have := (List.getElem?_eq_some_iff.1 hy).1
    have := h.fits
    rw [hg _ (by omega)]; exact h.laid i y hy
  · obtain ⟨y, hy⟩ := tornW_drop_high K x c (2 + S) h1
    rw [hy, applyW_set_over _ _ _ _ h4]; exact h.homes
theorem tch_places {x : Int × Sec} (hx : Tch N S T x) (hl : K.length = N) (c p : Nat) (hp : p < S) : (tornW K x c).getD (2 + p) [] = K.getD (2 + p) [] := by
  obtain ⟨h1, h2, h3, h4⟩ := hx
  rw [tornW_getD _ _ _ _ (by omega), if_neg (by omega)]
/-- A slot torn, short of its end. -/
theorem Img.torn_slot (h : Img N S K B sl T H) {b c : Nat} (hb : b < 256) (hc : c < 64) : Img N S (tornW K (1 - (sl : Int), slotB b S) c) B sl T H ∧ ∀ p, (tornW K (1 - (sl : Int), slotB b S) c).getD (2 + p) [] = K.getD (2 + p) [] := by
  have hr := h.room
  have hsl := h.slLe
  have ht : (1 - (sl : Int)).toNat = 1 - sl := by omega
  have hg : ∀ n, n ≠ 1 - sl → (tornW K (1 - (sl : Int), slotB b S) c).getD n [] = K.getD n [] := fun n hn => by
    by_cases hnl : n < K.length
    · rw [tornW_getD _ _ _ _ hnl, ht, if_neg hn]
    · rw [List.getD_eq_getElem?_getD, List.getD_eq_getElem?_getD, List.getElem?_eq_none (by rw [tornW_length]; omega), List.getElem?_eq_none (by omega)]
  obtain ⟨u, hu, ho⟩ := h.other
  refine ⟨⟨by rw [tornW_length]; exact h.len, tornW_sec h.sec (slotB_len _ _) c, h.room, h.pos, h.small, h.slLe, by rw [hg _ (by omega)]; exact h.slot, ⟨u, hu, ?_⟩, fun p hp => by rw [hg _ (by omega)]; exact h.place p hp, fun i y hy => by rw [hg _ (by omega)]; exact h.laid i y hy, h.fits, h.may, ?_⟩, fun p => hg _ (by omega)⟩
  · rw [tornW_getD _ _ _ _ (by rw [h.len]; omega), ht, if_pos rfl]
    exact tornS_stm (Stm.slot hb) ho hc
  · rw [tornW_drop_low _ _ _ _ (by rw [ht]; omega)]; exact h.homes
/-- The other slot, wholly written, where all homes are kept. -/
theorem Img.up (h : Img N S K B sl T H) (hH : K.drop (2 + S) = H) (hs : B + S + S ≤ 256) : Img N S (tornW K (1 - (sl : Int), slotB (B + S) S) 64) (B + S) (1 - sl) [] H ∧ Clean S (tornW K (1 - (sl : Int), slotB (B + S) S) 64) (B + S) 0 := by
  have hr := h.room
  have hsl := h.slLe
  have ht : (1 - (sl : Int)).toNat = 1 - sl := by omega
  have hg : ∀ n, n ≠ 1 - sl → (tornW K (1 - (sl : Int), slotB (B + S) S) 64).getD n [] = K.getD n [] := fun n hn => by
    by_cases hnl : n < K.length
    · rw [tornW_getD _ _ _ _ hnl, ht, if_neg hn]
    · rw [List.getD_eq_getElem?_getD, List.getD_eq_getElem?_getD, List.getElem?_eq_none (by rw [tornW_length]; omega), List.getElem?_eq_none (by omega)]
  have hpl : ∀ p, p < S → ∃ u, u < B + S + p ∧ Stm ((tornW K (1 - (sl : Int), slotB (B + S) S) 64).getD (2 + p) []) u := fun p hp => by
    obtain ⟨u, hu, hst⟩ := h.place p hp
    exact ⟨u, by omega, by rw [hg _ (by omega)]; exact hst⟩
  have hp := h.pos
  refine ⟨⟨by rw [tornW_length]; exact h.len, tornW_sec h.sec (slotB_len _ _) 64, h.room, by omega, by omega, by omega, ?_, ⟨B, by omega, ?_⟩, fun p hp => by obtain ⟨u, hu, hst⟩ := hpl p hp; exact ⟨u, by omega, hst⟩, fun i y hy => by simp at hy, Nat.zero_le _, (fun w hw => by cases hw), ?_⟩, fun p _ hp => hpl p hp⟩
  · have := h.sec (K.getD (1 - sl) [])
    rw [tornW_getD _ _ _ _ (by rw [h.len]; omega), ht, if_pos rfl]
    exact tornS_full (slotB_len _ _) (getD_sec h.sec (by rw [h.len]; omega)) (Nat.le_refl _)
  · rw [hg _ (by omega), show 1 - (1 - sl) = sl by omega, h.slot]
    exact Stm.slot (by omega)
  · rw [tornW_drop_low _ _ _ _ (by rw [ht]; omega), hH]; rfl
theorem LaidE.mid {now : List Sec} {base : Nat} {a b c : List (Nat × Nat × Sec)} (h : LaidE now base 0 (a ++ (b ++ c))) : LaidE now base a.length b := by
  intro i x hx
  have := h (a.length + i) x (by rw [List.getElem?_append_right (by omega), Nat.add_sub_cancel_left, List.getElem?_append_left (List.getElem?_eq_some_iff.1 hx).1]; exact hx)
  rw [Nat.zero_add] at this
  exact this
/-- What the log says is what was done. -/
theorem Img.says (h : Img N S K B sl T H) (hst : Stops S K B T) : ∀ (R A : List (List (Int × Sec))) (f : Nat), T = A ++ R → R.length < f → saysS K B S f (flatE A).length A.flatten = T.flatten
  | [], A, f, e, hf => by
    obtain ⟨f, rfl⟩ : ∃ g, f = g + 1 := ⟨f - 1, by omega⟩
    rw [List.append_nil] at e
    subst e
    rw [saysS, hst]
  | w :: R, A, f, e, hf => by
    obtain ⟨f, rfl⟩ : ∃ g, f = g + 1 := ⟨f - 1, by omega⟩
    have hfl : flatE T = flatE A ++ (entriesB w ++ flatE R) := by rw [e]; simp [flatE]
    have hlaid := h.laid
    rw [hfl] at hlaid
    have hfit := h.fits
    rw [hfl, List.length_append, List.length_append, entriesB_length] at hfit
    have hm := h.may w (by rw [e]; simp)
    have hr := h.room
    have hh : homesS K S = N - 2 - S := by unfold homesS; rw [h.len]
    have h1 := oneS_laid (now := K) (base := B) (size := S) (p := (flatE A).length) (w := w) (by rw [hh]; exact hm.1) hlaid.mid (by omega) hm.2 (by omega) (by omega) 0 (S + 1) (Nat.zero_le _) (by omega)
    simp only [Nat.mul_zero, Nat.add_zero, List.take_zero] at h1
    rw [saysS, h1]
    simp only
    have e2 : (flatE A).length + (2 * w.length + 1) = (flatE (A ++ [w])).length := by simp [flatE, entriesB_length]
    have e3 : A.flatten ++ w = (A ++ [w]).flatten := by simp
    rw [e2, e3]
    exact Img.says h hst R (A ++ [w]) f (by rw [e]; simp) (by simp at hf; omega)
theorem Img.few (h : Img N S K B sl T H) : T.length ≤ S := by
  have : ∀ T : List (List (Int × Sec)), T.length ≤ (flatE T).length := by
    intro T
    induction T with
    | nil => exact Nat.le_refl _
    | cons w T ih => rw [List.length_cons]; simp only [flatE, List.flatMap_cons, List.length_append, entriesB_length] at *; omega
  exact Nat.le_trans (this T) h.fits
theorem Img.says_all (h : Img N S K B sl T H) (hst : Stops S K B T) : saysS K B S (S + 1) 0 [] = T.flatten :=
  h.says hst T [] (S + 1) rfl (by have := h.few; omega)
end
end Bst
namespace Bst
set_option linter.unusedVariables false

/-- Writes one behind the other. -/
def seqW : Dsk → List (Int × Sec) → Int × Dsk
  | d, [] => (0, d)
  | d, x :: ws => if (d.write x.1 x.2).1 ≠ 0 then d.write x.1 x.2 else seqW (d.write x.1 x.2).2 ws
theorem redoS_seq (size : Nat) : ∀ (ws : List (Int × Sec)) (d : Dsk), redoS size d ws = seqW d (shiftW size ws)
  | [], _ => rfl
  | x :: ws, d => by rw [redoS, shiftW, List.map_cons, seqW, redoS_seq size ws]
theorem layS_seq (base : Nat) : ∀ (xs : List (Nat × Nat × Sec)) (d : Dsk) (p : Nat), layS base d p xs = seqW d (laidW base p xs)
  | [], _, _ => rfl
  | x :: xs, d, p => by rw [layS, laidW, seqW]; simp only [layS_seq base xs]
/-- Where the power stays, and what is there now. -/
structure Runs (d d' : Dsk) (ws : List (Int × Sec)) : Prop where
  off : d'.off = false
  kept : d'.kept = d.kept
  wait : d'.wait = d.wait ++ ws
  now : d'.now = applyW d.now ws
  lives : d'.lives = d.lives
structure Dies (d d' : Dsk) (ws : List (Int × Sec)) : Prop where
  off : d'.off = true
  kept : d'.kept = d.kept
  wait : d'.wait = d.wait ++ ws
  lives : d'.lives = d.lives
theorem write_two {d : Dsk} (ho : d.off = false) {n : Int} {b : Sec} (h0 : 0 ≤ n) (hn : n < d.now.length) (hb : b.length = 64) :
    (d.write n b).1 = 0 ∧ Runs d (d.write n b).2 [(n, b)] ∨ (d.write n b).1 = 30 ∧ Dies d (d.write n b).2 [(n, b)] := by
  have hm : d.may n = 0 := by unfold Dsk.may; rw [ho, if_neg (by decide), if_neg (by omega)]
  unfold Dsk.write
  rw [hm, if_neg (by decide), if_neg (by rw [hb]; decide)]
  show (if (d.put n b).burnt.off = true then (30 : Int) else 0) = 0 ∧ Runs d (d.put n b).burnt _ ∨ (if (d.put n b).burnt.off = true then (30 : Int) else 0) = 30 ∧ Dies d (d.put n b).burnt _
  unfold Dsk.burnt
  split
  · left
    refine ⟨by show (if (d.put n b).off = true then (30 : Int) else 0) = 0; rw [show (d.put n b).off = d.off from rfl, ho]; rfl, ho, rfl, rfl, rfl, rfl⟩
  · by_cases hf : (d.put n b).fuse = 0
    · right
      exact ⟨by simp [hf], by simp [hf], rfl, rfl, rfl⟩
    · left
      exact ⟨by simp [hf], by simp [hf], rfl, rfl, rfl, rfl⟩
theorem flush_two {d : Dsk} (ho : d.off = false) (hp : 1 ≤ d.now.length) :
    d.flush.1 = 0 ∧ d.flush.2.off = false ∧ d.flush.2.kept = applyW d.kept d.wait ∧ d.flush.2.wait = [] ∧ d.flush.2.now = d.now ∧ d.flush.2.lives = d.lives ∨ d.flush.1 = 30 ∧ Dies d d.flush.2 [] := by
  have hm : d.may 0 = 0 := by unfold Dsk.may; rw [ho, if_neg (by decide), if_neg (by omega)]
  unfold Dsk.flush
  rw [hm, if_neg (by decide)]
  unfold Dsk.burnt
  by_cases h : d.fuse < 0
  · rw [if_pos h, ho, if_neg (by decide)]
    exact .inl ⟨rfl, ho, rfl, rfl, rfl, rfl⟩
  · rw [if_neg h]
    by_cases hf : d.fuse = 0
    · right
      simp only [hf, decide_true, if_true]
      exact ⟨trivial, rfl, rfl, by simp, rfl⟩
    · left
      simp only [hf, decide_false, Bool.false_eq_true, if_false]
      exact ⟨trivial, rfl, rfl, rfl, rfl, rfl⟩
theorem Runs.app {a b c : Dsk} {x y : List (Int × Sec)} (h : Runs a b x) (k : Runs b c y) : Runs a c (x ++ y) :=
  ⟨k.off, k.kept.trans h.kept, by rw [k.wait, h.wait, List.append_assoc], by rw [k.now, h.now, applyW_app], k.lives.trans h.lives⟩
theorem Runs.dies {a b c : Dsk} {x y : List (Int × Sec)} (h : Runs a b x) (k : Dies b c y) : Dies a c (x ++ y) :=
  ⟨k.off, k.kept.trans h.kept, by rw [k.wait, h.wait, List.append_assoc], k.lives.trans h.lives⟩
theorem Runs.none (d : Dsk) (ho : d.off = false) : Runs d d [] := ⟨ho, rfl, by simp, rfl, rfl⟩
theorem seqW_two : ∀ (ws : List (Int × Sec)) (d : Dsk), d.off = false → (∀ x ∈ ws, 0 ≤ x.1 ∧ x.1 < d.now.length ∧ x.2.length = 64) →
    (seqW d ws).1 = 0 ∧ Runs d (seqW d ws).2 ws ∨ (seqW d ws).1 = 30 ∧ ∃ i, i < ws.length ∧ Dies d (seqW d ws).2 (ws.take (i + 1))
  | [], d, ho, _ => .inl ⟨rfl, Runs.none d ho⟩
  | x :: ws, d, ho, h => by
    obtain ⟨h0, h1, h2⟩ := h x (List.mem_cons_self ..)
    rw [seqW]
    rcases write_two ho h0 h1 h2 with ⟨e, r⟩ | ⟨e, r⟩
    · rw [if_neg (by rw [e]; decide)]
      have hl : (d.write x.1 x.2).2.now.length = d.now.length := by rw [r.now]; exact applyW_length _ _
      rcases seqW_two ws (d.write x.1 x.2).2 r.off (fun y hy => by rw [hl]; exact h y (List.mem_cons_of_mem _ hy)) with ⟨e2, r2⟩ | ⟨e2, i, hi, r2⟩
      · exact .inl ⟨e2, r.app r2⟩
      · exact .inr ⟨e2, i + 1, by simpa using hi, r.dies r2⟩
    · rw [if_pos (by rw [e]; decide)]
      exact .inr ⟨e, 0, by simp, r⟩
/-- Behind a crash. -/
theorem crash_kept (d : Dsk) (cs : List UInt8) : (d.crash cs).kept = crashW d.kept d.wait cs ∧ (d.crash cs).now = crashW d.kept d.wait cs ∧ (d.crash cs).wait = [] ∧ (d.crash cs).off = false ∧ (d.crash cs).fuse = -1 ∧ (d.crash cs).lives = d.lives + 1 := ⟨rfl, rfl, rfl, rfl, rfl, rfl⟩

/-- What is behind a crash can be recovered: to one of these. -/
def Rec (N S B : Nat) (Hs : List Sec → Prop) (K : List Sec) : Prop := ∃ B' sl T H, Hs H ∧ B' ≤ B ∧ Img N S K B' sl T H ∧ Stops S K B' T
theorem Rec.mono {N S B B2 : Nat} {Hs : List Sec → Prop} {K : List Sec} (h : Rec N S B Hs K) (hb : B ≤ B2) : Rec N S B2 Hs K := by
  obtain ⟨B', sl, T, H, h1, h2, h3, h4⟩ := h
  exact ⟨B', sl, T, H, h1, Nat.le_trans h2 hb, h3, h4⟩
/-- The power is off; whatever is kept, it can be recovered. -/
structure Dead (N S B : Nat) (Hs : List Sec → Prop) (d : Dsk) : Prop where
  off : d.off = true
  img : ∀ cs, Rec N S B Hs (crashW d.kept d.wait cs)
/-- A log that lives. -/
structure Life (N S : Nat) (d : Dsk) (l : Lg) (T : List (List (Int × Sec))) (H : List Sec) : Prop where
  off : d.off = false
  alive : d.lives = l.life
  size : l.size = S
  used : l.used = (flatE T).length
  img : Img N S d.kept l.base l.slot T H
  clean : Clean S d.kept l.base l.used
  wait : ∀ x ∈ d.wait, Tch N S T x
  now : d.now = applyW d.kept d.wait
  homes : d.now.drop (2 + S) = H
section
variable {N S : Nat} {K : List Sec} {B sl : Nat} {T : List (List (Int × Sec))} {H : List Sec}
/-- Homes torn. -/
theorem Img.crash_homes (h : Img N S K B sl T H) {ws : List (Int × Sec)} (hw : ∀ x ∈ ws, Tch N S T x) (cs : List UInt8) : Img N S (crashW K ws cs) B sl T H ∧ ∀ p, p < S → (crashW K ws cs).getD (2 + p) [] = K.getD (2 + p) [] := by
  obtain ⟨i, _, h1⟩ := crashW_steps ws K cs (fun _ L => Img N S L B sl T H ∧ ∀ p, p < S → L.getD (2 + p) [] = K.getD (2 + p) []) ⟨h, fun _ _ => rfl⟩ (fun i x L c hx ⟨h1, h2⟩ _ => by
    have ht := hw x (List.mem_of_getElem? hx)
    exact ⟨h1.torn_home ht c, fun p hp => by rw [tch_places ht h1.len c p hp, h2 p hp]⟩)
  exact h1
theorem Stops.congr {K' : List Sec} (h : Stops S K B T) (hl : K'.length = K.length) (hp : ∀ p, p < S → K'.getD (2 + p) [] = K.getD (2 + p) []) : Stops S K' B T :=
  fun f => by rw [oneS_congr hl hp]; exact h f
theorem Clean.congr {K' : List Sec} {q : Nat} (h : Clean S K B q) (hp : ∀ p, p < S → K'.getD (2 + p) [] = K.getD (2 + p) []) : Clean S K' B q :=
  fun p h1 h2 => by rw [hp p h2]; exact h p h1 h2
/-- Homes written whole. -/
theorem Img.apply_homes (h : Img N S K B sl T H) {ws : List (Int × Sec)} (hw : ∀ x ∈ ws, Tch N S T x) : Img N S (applyW K ws) B sl T H ∧ ∀ p, p < S → (applyW K ws).getD (2 + p) [] = K.getD (2 + p) [] := by
  induction ws generalizing K with
  | nil => exact ⟨h, fun _ _ => rfl⟩
  | cons x ws ih =>
    have ht := hw x (List.mem_cons_self ..)
    have e : setW K x = tornW K x 64 := by
      unfold setW tornW
      by_cases hn : x.1.toNat < K.length
      · have := getD_sec h.sec hn
        rw [List.take_of_length_le (by rw [ht.2.2.1]; exact Nat.le_refl _), List.drop_of_length_le (by omega), List.append_nil]
      · rw [List.set_eq_of_length_le (by omega), List.set_eq_of_length_le (by omega)]
    show Img N S (applyW (setW K x) ws) B sl T H ∧ _
    obtain ⟨h1, h2⟩ := ih (K := setW K x) (by rw [e]; exact h.torn_home ht 64) (fun y hy => hw y (List.mem_cons_of_mem _ hy))
    exact ⟨h1, fun p hp => (h2 p hp).trans (by rw [e]; exact tch_places ht h.len 64 p hp)⟩
/-- Of a log that lives, whatever is kept when the power goes, the homes come back. -/
theorem Life.crash {d : Dsk} {l : Lg} (h : Life N S d l T H) {Hs : List Sec → Prop} (hH : Hs H) (cs : List UInt8) : Rec N S l.base Hs (crashW d.kept d.wait cs) := by
  obtain ⟨h1, h2⟩ := h.img.crash_homes h.wait cs
  have hs := (h.used ▸ h.clean).stops h.img.small
  exact ⟨l.base, l.slot, T, H, hH, Nat.le_refl _, h1, hs.congr (by rw [h1.len, h.img.len]) h2⟩
end
end Bst
namespace Bst
section
variable {N S : Nat} {K : List Sec} {B sl : Nat} {T : List (List (Int × Sec))} {H : List Sec}
theorem crash_slot (h : Img N S K B sl T H) (hst : Stops S K B T) (hK : K.drop (2 + S) = H) (hs : B + S + S ≤ 256) {Hs : List Sec → Prop} (hH : Hs H) (cs : List UInt8) : Rec N S (B + S) Hs (crashW K [(1 - (sl : Int), slotB (B + S) S)] cs) := by
  have hr := h.room
  cases cs with
  | nil => exact ⟨B, sl, T, H, hH, Nat.le_add_right _ _, h, hst⟩
  | cons c cs =>
    rw [crashW]
    have e : ∀ L : List Sec, crashW L [] cs = L := fun L => by cases cs <;> rfl
    rw [e]
    by_cases hc : min c.toNat 64 < 64
    · obtain ⟨h1, h2⟩ := h.torn_slot (b := B + S) (c := min c.toNat 64) (by omega) hc
      exact ⟨B, sl, T, H, hH, Nat.le_add_right _ _, h1, hst.congr (by rw [h1.len, h.len]) (fun p _ => h2 p)⟩
    · rw [show min c.toNat 64 = 64 by omega]
      obtain ⟨h1, h2⟩ := h.up hK hs
      exact ⟨B + S, 1 - sl, [], H, hH, Nat.le_refl _, h1, h2.stops (by omega)⟩
theorem setW_torn {L : List Sec} (h : ∀ s ∈ L, s.length = 64) {x : Int × Sec} (hx : x.2.length = 64) : setW L x = tornW L x 64 := by
  unfold setW tornW
  by_cases hn : x.1.toNat < L.length
  · have := getD_sec h hn
    rw [List.take_of_length_le (by omega), List.drop_of_length_le (by omega), List.append_nil]
  · rw [List.set_eq_of_length_le (by omega), List.set_eq_of_length_le (by omega)]
/-- The base raised, where all is kept. -/
theorem raise_two {d : Dsk} {l : Lg} (ho : d.off = false) (hk : d.kept = K) (hn : d.now = K) (hw : d.wait = []) (hv : d.lives = l.life) (hl : l.size = S) (hb : l.base = B) (hsl : l.slot = sl)
    (h : Img N S K B sl T H) (hst : Stops S K B T) (hK : K.drop (2 + S) = H) (hs : B + S + S ≤ 256) {Hs : List Sec → Prop} (hH : Hs H) :
    (raiseS d l).1 = 0 ∧ Life N S (raiseS d l).2.1 (raiseS d l).2.2 [] H ∧ (raiseS d l).2.2 = l.up ∧ (raiseS d l).2.1.lives = d.lives ∨ (raiseS d l).1 = 30 ∧ Dead N S (B + S) Hs (raiseS d l).2.1 := by
  have hr := h.room
  have hs1 := h.slLe
  have hlen : d.now.length = N := by rw [hn]; exact h.len
  unfold raiseS
  rw [hl, hb, hsl]
  rcases write_two ho (n := 1 - (sl : Int)) (b := slotB (B + S) S) (by omega) (by omega) (slotB_len _ _) with ⟨e, r⟩ | ⟨e, r⟩
  · simp only [e, ne_eq, not_true_eq_false, if_false]
    rcases flush_two r.off (by rw [r.now]; show 1 ≤ (applyW _ _).length; rw [applyW_length]; omega) with ⟨e2, f1, f2, f3, f4, f5⟩ | ⟨e2, r2⟩
    · left
      simp only [e2, not_true_eq_false, if_false]
      obtain ⟨u1, u2⟩ := h.up hK hs
      have ek : (d.write (1 - (sl : Int)) (slotB (B + S) S)).2.flush.2.kept = tornW K (1 - (sl : Int), slotB (B + S) S) 64 := by
        rw [f2, r.kept, r.wait, hw, hk]
        exact setW_torn h.sec (slotB_len _ _)
      have en : (d.write (1 - (sl : Int)) (slotB (B + S) S)).2.flush.2.now = tornW K (1 - (sl : Int), slotB (B + S) S) 64 := by
        rw [f4, r.now, hn]
        exact setW_torn h.sec (slotB_len _ _)
      refine ⟨trivial, ⟨f1, ?_, hl, rfl, ?_, ?_, (by rw [f3]; intro x hx; cases hx), (by rw [en, ek, f3]; rfl), by rw [en]; exact u1.homes⟩, trivial, by rw [f5, r.lives]⟩
      · rw [f5, r.lives]; exact hv
      · rw [ek]
        show Img N S _ (l.base + l.size) (1 - l.slot) [] H
        rw [hb, hl, hsl]; exact u1
      · rw [ek]
        show Clean S _ (l.base + l.size) 0
        rw [hb, hl]; exact u2
    · right
      simp only [e2]
      rw [if_pos (show ¬ (30 : Int) = 0 by decide)]
      exact ⟨rfl, r2.off, fun cs => by rw [r2.kept, r.kept, hk, r2.wait, r.wait, hw, List.append_nil, List.nil_append]; exact crash_slot h hst hK hs hH cs⟩
  · right
    simp only [e]
    rw [if_pos (show (30 : Int) ≠ 0 by decide)]
    exact ⟨rfl, r.off, fun cs => by rw [r.kept, hk, r.wait, hw, List.nil_append]; exact crash_slot h hst hK hs hH cs⟩
theorem Img.crash_rec (h : Img N S K B sl T H) (hst : Stops S K B T) {ws : List (Int × Sec)} (hw : ∀ x ∈ ws, Tch N S T x) {Hs : List Sec → Prop} (hH : Hs H) (cs : List UInt8) : Rec N S B Hs (crashW K ws cs) := by
  obtain ⟨h1, h2⟩ := h.crash_homes hw cs
  exact ⟨B, sl, T, H, hH, Nat.le_refl _, h1, hst.congr (by rw [h1.len, h.len]) h2⟩
/-- A checkpoint. -/
theorem check_two {d : Dsk} {l : Lg} (ho : d.off = false) (hk : d.kept = K) (hn : d.now = applyW K d.wait) (hw : ∀ x ∈ d.wait, Tch N S T x) (hv : d.lives = l.life) (hl : l.size = S) (hb : l.base = B) (hsl : l.slot = sl)
    (h : Img N S K B sl T H) (hst : Stops S K B T) (hK : d.now.drop (2 + S) = H) (hs : B + S + S ≤ 256) {Hs : List Sec → Prop} (hH : Hs H) :
    (checkS d l).1 = 0 ∧ Life N S (checkS d l).2.1 (checkS d l).2.2 [] H ∧ (checkS d l).2.2 = l.up ∧ (checkS d l).2.1.lives = d.lives ∨ (checkS d l).1 = 30 ∧ Dead N S (B + S) Hs (checkS d l).2.1 := by
  have ha : aliveS d l = 0 := by unfold aliveS; rw [if_neg (by rw [ho, hv]; simp)]
  have hr := h.room
  have hlen : d.now.length = N := by rw [hn, applyW_length]; exact h.len
  unfold checkS
  rw [ha, hb, hl, if_neg (by decide), if_neg (by unfold topW; omega)]
  obtain ⟨a1, a2⟩ := h.apply_homes hw
  rcases flush_two ho (by omega) with ⟨e2, f1, f2, f3, f4, f5⟩ | ⟨e2, r2⟩
  · rw [if_neg (by rw [e2]; decide)]
    rw [hk] at f2
    have := raise_two (d := d.flush.2) (l := l) f1 f2 (by rw [f4, hn]) f3 (by rw [f5, hv]) hl hb hsl a1 (hst.congr (by rw [a1.len, h.len]) a2) (by rw [← hn]; exact hK) hs hH
    rw [f5] at this
    exact this
  · right
    rw [if_pos (by rw [e2]; decide)]
    exact ⟨e2, r2.off, fun cs => by rw [r2.kept, hk, r2.wait, List.append_nil]; exact (h.crash_rec hst hw hH cs).mono (Nat.le_add_right _ _)⟩
theorem Life.check {d : Dsk} {l : Lg} (h : Life N S d l T H) (hs : l.base + S + S ≤ 256) {Hs : List Sec → Prop} (hH : Hs H) :
    (checkS d l).1 = 0 ∧ Life N S (checkS d l).2.1 (checkS d l).2.2 [] H ∧ (checkS d l).2.2 = l.up ∧ (checkS d l).2.1.lives = d.lives ∨ (checkS d l).1 = 30 ∧ Dead N S (l.base + S) Hs (checkS d l).2.1 :=
  check_two h.off rfl h.now h.wait h.alive h.size rfl rfl h.img ((h.used ▸ h.clean).stops h.img.small) h.homes hs hH
theorem shift_tch (h : Img N S K B sl T H) : ∀ x ∈ shiftW S T.flatten, Tch N S T x ∧ 0 ≤ x.1 := by
  intro x hx
  obtain ⟨y, hy, rfl⟩ := List.mem_map.1 hx
  obtain ⟨w, hw, hyw⟩ := List.mem_flatten.1 hy
  obtain ⟨h0, h1⟩ := (h.may w hw).1.home y hyw
  have h2 := (h.may w hw).1.data y hyw
  have hr := h.room
  refine ⟨⟨?_, ?_, h2, y, hy, ?_⟩, ?_⟩ <;> show _ <;> simp only <;> omega
/-- A recovery. -/
theorem open_two {d : Dsk} (ho : d.off = false) (hk : d.kept = K) (hn : d.now = K) (hw : d.wait = []) (h : Img N S K B sl T H) (hst : Stops S K B T) (hs : B + S + S ≤ 256) {Hs : List Sec → Prop} (hH : Hs H) :
    (openS d).1 = 0 ∧ (∃ l, (openS d).2.2 = some l ∧ Life N S (openS d).2.1 l [] H ∧ l.base = B + S ∧ l.slot = 1 - sl ∧ l.commits = 0 ∧ (openS d).2.1.lives = d.lives) ∨ (openS d).1 = 30 ∧ (openS d).2.2 = none ∧ Dead N S (B + S) Hs (openS d).2.1 := by
  have hr := h.room
  have hp := h.pos
  unfold openS
  rw [ho, if_neg (by decide), hn, h.best]
  simp only
  rw [if_neg (by omega), if_neg (by unfold topW; omega), h.says_all hst, redoS_seq]
  have htc := shift_tch h
  rcases seqW_two (shiftW S T.flatten) d ho (fun x hx => by obtain ⟨⟨h1, h2, h3, _⟩, h0⟩ := htc x hx; rw [hn, h.len]; omega) with ⟨e, r⟩ | ⟨e, i, hi, r⟩
  · rw [if_neg (by rw [e]; decide)]
    have hnow : (seqW d (shiftW S T.flatten)).2.now = applyW K (seqW d (shiftW S T.flatten)).2.wait := by rw [r.now, r.wait, hw, hn, List.nil_append]
    have hdrop : (seqW d (shiftW S T.flatten)).2.now.drop (2 + S) = H := by
      rw [r.now, hn, applyW_drop_shift _ _ _ (fun x hx => by
        obtain ⟨w, hw, hxw⟩ := List.mem_flatten.1 hx
        exact ((h.may w hw).1.home x hxw).1)]
      exact h.homes
    rcases check_two (d := (seqW d (shiftW S T.flatten)).2) (l := { size := S, base := B, slot := sl, used := 0, life := d.lives, commits := 0 }) r.off (by rw [r.kept, hk]) hnow (by rw [r.wait, hw, List.nil_append]; exact fun x hx => (htc x hx).1) r.lives rfl rfl rfl h hst hdrop hs hH with ⟨e2, c1, c2, c3⟩ | ⟨e2, c1⟩
    · left
      rw [if_neg (by rw [e2]; decide)]
      refine ⟨rfl, _, rfl, c1, ?_, ?_, ?_, by rw [c3, r.lives]⟩ <;> rw [c2] <;> rfl
    · right
      rw [if_pos (by rw [e2]; decide)]
      exact ⟨e2, rfl, c1⟩
  · right
    rw [if_pos (by rw [e]; decide)]
    exact ⟨e, rfl, r.off, fun cs => by
      rw [r.kept, hk, r.wait, hw, List.nil_append]
      exact (h.crash_rec hst (fun x hx => (htc x (List.mem_of_mem_take hx)).1) hH cs).mono (Nat.le_add_right _ _)⟩
end
end Bst
namespace Bst
set_option linter.unusedVariables false
section
variable {N S : Nat} {K : List Sec} {B sl : Nat} {T : List (List (Int × Sec))} {H : List Sec}
theorem laidW_length (base : Nat) : ∀ (xs : List (Nat × Nat × Sec)) (p : Nat), (laidW base p xs).length = xs.length
  | [], _ => rfl
  | x :: xs, p => by rw [laidW, List.length_cons, List.length_cons, laidW_length base xs]
theorem laidW_take (base : Nat) : ∀ (xs : List (Nat × Nat × Sec)) (p m : Nat), (laidW base p xs).take m = laidW base p (xs.take m)
  | [], p, m => by simp [laidW]
  | x :: xs, p, 0 => by simp [laidW]
  | x :: xs, p, m + 1 => by rw [laidW, List.take_succ_cons, List.take_succ_cons, laidW, laidW_take base xs]
theorem laidW_get (base : Nat) : ∀ (xs : List (Nat × Nat × Sec)) (p i : Nat) (y : Int × Sec), (laidW base p xs)[i]? = some y → ∃ x, xs[i]? = some x ∧ y = (2 + ((p + i : Nat) : Int), entryB x.1 x.2.1 x.2.2 (base + (p + i)))
  | [], p, i, y, h => by simp [laidW] at h
  | x :: xs, p, 0, y, h => by
    simp [laidW] at h
    exact ⟨x, rfl, h.symm⟩
  | x :: xs, p, i + 1, y, h => by
    rw [laidW, List.getElem?_cons_succ] at h
    obtain ⟨z, hz, e⟩ := laidW_get base xs (p + 1) i y h
    exact ⟨z, hz, by rw [e, show p + 1 + i = p + (i + 1) by omega]⟩
/-- A place behind what is said, torn or written. -/
theorem Img.torn_place (h : Img N S K B sl T H) {p : Nat} (hq : (flatE T).length ≤ p) (hp : p < S) {k n : Nat} {dt : Sec} (hd : dt.length = 32) (hold : ∃ u, u < B + p ∧ Stm (K.getD (2 + p) []) u) {c : Nat} (hc : c ≤ 64) :
    Img N S (tornW K (2 + (p : Int), entryB k n dt (B + p)) c) B sl T H ∧ (∀ m, m ≠ 2 + p → (tornW K (2 + (p : Int), entryB k n dt (B + p)) c).getD m [] = K.getD m []) ∧
    ((tornW K (2 + (p : Int), entryB k n dt (B + p)) c).getD (2 + p) [] = entryB k n dt (B + p) ∨ ∃ u, u < B + p ∧ Stm ((tornW K (2 + (p : Int), entryB k n dt (B + p)) c).getD (2 + p) []) u) := by
  have hr := h.room
  have hsl := h.slLe
  have hsm := h.small
  have hlen := h.len
  have ht : (2 + (p : Int)).toNat = 2 + p := by omega
  have hg : ∀ m, m ≠ 2 + p → (tornW K (2 + (p : Int), entryB k n dt (B + p)) c).getD m [] = K.getD m [] := fun m hm => by
    by_cases hnl : m < K.length
    · rw [tornW_getD _ _ _ _ hnl, ht, if_neg hm]
    · rw [List.getD_eq_getElem?_getD, List.getD_eq_getElem?_getD, List.getElem?_eq_none (by rw [tornW_length]; omega), List.getElem?_eq_none (by omega)]
  obtain ⟨u, hu, ho⟩ := hold
  have hst : Stm (entryB k n dt (B + p)) (B + p) := Stm.entry hd (by omega)
  have hself : (tornW K (2 + (p : Int), entryB k n dt (B + p)) c).getD (2 + p) [] = entryB k n dt (B + p) ∨ ∃ u, u < B + p ∧ Stm ((tornW K (2 + (p : Int), entryB k n dt (B + p)) c).getD (2 + p) []) u := by
    rw [tornW_getD _ _ _ _ (by rw [hlen]; omega), ht, if_pos rfl]
    by_cases h64 : c = 64
    · left
      exact tornS_full hst.len ho.len (by omega)
    · right
      exact ⟨u, hu, tornS_stm hst ho (by omega)⟩
  refine ⟨⟨by rw [tornW_length]; exact h.len, tornW_sec h.sec hst.len c, h.room, h.pos, h.small, h.slLe, by rw [hg _ (by omega)]; exact h.slot, by rw [hg _ (by omega)]; exact h.other, fun m hm => ?_, fun i y hy => ?_, h.fits, h.may, ?_⟩, hg, hself⟩
  · by_cases e : m = p
    · subst e
      rcases hself with h1 | ⟨v, hv, h1⟩
      · exact ⟨B + m, Nat.le_refl _, by rw [h1]; exact hst⟩
      · exact ⟨v, by omega, h1⟩
    · rw [hg _ (by omega)]; exact h.place m hm
  · have := (List.getElem?_eq_some_iff.1 hy).1
    rw [hg _ (by omega)]; exact h.laid i y hy
  · rw [tornW_drop_low _ _ _ _ (by rw [ht]; omega)]; exact h.homes
/-- What a crash leaves of a transaction whose entries were on their way. -/
structure Half (N S : Nat) (K : List Sec) (B sl : Nat) (T : List (List (Int × Sec))) (H : List Sec) (E : List (Nat × Nat × Sec)) (i : Nat) : Prop where
  img : Img N S K B sl T H
  old : ∀ p, (flatE T).length + i ≤ p → p < S → ∃ u, u < B + p ∧ Stm (K.getD (2 + p) []) u
  new : (∀ j x, j < i → E[j]? = some x → K.getD (2 + ((flatE T).length + j)) [] = entryB x.1 x.2.1 x.2.2 (B + ((flatE T).length + j))) ∨
    ∃ j, j < i ∧ (∃ u, u < B + ((flatE T).length + j) ∧ Stm (K.getD (2 + ((flatE T).length + j)) []) u) ∧ ∀ j' x, j' < j → E[j']? = some x → K.getD (2 + ((flatE T).length + j')) [] = entryB x.1 x.2.1 x.2.2 (B + ((flatE T).length + j'))
theorem Half.step {E : List (Nat × Nat × Sec)} {i : Nat} (h : Half N S K B sl T H E i) (hE : ∀ x ∈ E, x.2.2.length = 32) {x : Nat × Nat × Sec} (hx : E[i]? = some x) (hp : (flatE T).length + i < S) {c : Nat} (hc : c ≤ 64) :
    Half N S (tornW K (2 + (((flatE T).length + i : Nat) : Int), entryB x.1 x.2.1 x.2.2 (B + ((flatE T).length + i))) c) B sl T H E (i + 1) := by
  generalize hq : (flatE T).length = q at *
  obtain ⟨h1, h2, h3⟩ := h.img.torn_place (p := q + i) (k := x.1) (n := x.2.1) (by rw [hq]; omega) hp (hE x (List.mem_of_getElem? hx)) (h.old _ (by rw [hq]; exact Nat.le_refl _) hp) hc
  have hnew := h.new
  have hold := h.old
  rw [hq] at hnew hold
  refine ⟨h1, fun p hp1 hp2 => ?_, ?_⟩
  · rw [h2 _ (by omega)]; exact hold p (by omega) hp2
  · rw [hq]
    rcases hnew with hn | ⟨j, hj, ⟨u, hu, hs⟩, hl⟩
    · rcases h3 with h3 | ⟨u, hu, h3⟩
      · left
        intro j y hj hy
        by_cases e : j = i
        · subst e
          rw [hx] at hy
          injection hy with hy
          subst hy
          exact h3
        · rw [h2 _ (by omega)]; exact hn j y (by omega) hy
      · right
        refine ⟨i, Nat.lt_succ_self _, ⟨u, hu, h3⟩, fun j y hj hy => ?_⟩
        rw [h2 _ (by omega)]; exact hn j y hj hy
    · right
      refine ⟨j, by omega, ⟨u, hu, by rw [h2 _ (by omega)]; exact hs⟩, fun j' y hj' hy => ?_⟩
      rw [h2 _ (by omega)]; exact hl j' y hj' hy
theorem flatE_snoc (T : List (List (Int × Sec))) (w : List (Int × Sec)) : flatE (T ++ [w]) = flatE T ++ entriesB w := by simp [flatE]
/-- All entries laid. -/
theorem Img.more (h : Img N S K B sl T H) {w : List (Int × Sec)} (hm : MayE (N - 2 - S) w) (hne : w ≠ []) (hfit : (flatE T).length + (2 * w.length + 1) ≤ S)
    (hl : ∀ j x, (entriesB w)[j]? = some x → K.getD (2 + ((flatE T).length + j)) [] = entryB x.1 x.2.1 x.2.2 (B + ((flatE T).length + j))) : Img N S K B sl (T ++ [w]) (applyW H w) := by
  refine ⟨h.len, h.sec, h.room, h.pos, h.small, h.slLe, h.slot, h.other, h.place, ?_, ?_, ?_, ?_⟩
  · rw [flatE_snoc]
    intro i x hx
    by_cases hi : i < (flatE T).length
    · rw [List.getElem?_append_left hi] at hx
      exact h.laid i x hx
    · rw [List.getElem?_append_right (by omega)] at hx
      have := hl _ x hx
      rw [show (flatE T).length + (i - (flatE T).length) = i by omega] at this
      rw [Nat.zero_add]
      exact this
  · rw [flatE_snoc, List.length_append, entriesB_length]; exact hfit
  · intro v hv
    rcases List.mem_append.1 hv with h1 | h1
    · exact h.may v h1
    · rw [List.mem_singleton.1 h1]; exact ⟨hm, hne⟩
  · rw [List.flatten_append, applyW_app, h.homes]; simp
theorem Half.rec_ {w : List (Int × Sec)} {i : Nat} (h : Half N S K B sl T H (entriesB w) i) (hm : MayE (N - 2 - S) w) (hne : w ≠ []) (hfit : (flatE T).length + (2 * w.length + 1) ≤ S) (hi : i ≤ 2 * w.length + 1) {Hs : List Sec → Prop} (hH : Hs H) (hH2 : Hs (applyW H w)) : Rec N S B Hs K := by
  have hr := h.img.room
  have hsm := h.img.small
  have hh : homesS K S = N - 2 - S := by unfold homesS; rw [h.img.len]
  have hbr : ∀ j, j ≤ 2 * w.length → (∃ u, u < B + ((flatE T).length + j) ∧ Stm (K.getD (2 + ((flatE T).length + j)) []) u) → (∀ j' x, j' < j → (entriesB w)[j']? = some x → K.getD (2 + ((flatE T).length + j')) [] = entryB x.1 x.2.1 x.2.2 (B + ((flatE T).length + j'))) → Stops S K B T := by
    intro j hj ⟨u, hu, hs⟩ hl f
    have hpl : placeS K B S ((flatE T).length + j) = none := by
      unfold placeS
      rw [if_neg (by omega)]
      exact entryR_stm hs (by omega) (by omega)
    have := oneS_broken (now := K) (base := B) (size := S) (p := (flatE T).length) (w := w) (by rw [hh]; exact hm) hj hl hpl hfit (by omega) f 0 (by omega)
    simpa using this
  rcases h.new with hn | ⟨j, hj, hs, hl⟩
  · by_cases e : i = 2 * w.length + 1
    · have h2 := h.img.more hm hne hfit (fun j x hx => hn j x (by have := (List.getElem?_eq_some_iff.1 hx).1; rw [entriesB_length] at this; omega) hx)
      refine ⟨B, sl, T ++ [w], applyW H w, hH2, Nat.le_refl _, h2, Clean.stops ?_ hsm⟩
      rw [flatE_snoc, List.length_append, entriesB_length, ← e]
      exact h.old
    · exact ⟨B, sl, T, H, hH, Nat.le_refl _, h.img, hbr i (by omega) (h.old _ (Nat.le_refl _) (by omega)) hn⟩
  · exact ⟨B, sl, T, H, hH, Nat.le_refl _, h.img, hbr j (by omega) hs hl⟩
theorem Img.crash_entries (h : Img N S K B sl T H) (hc : Clean S K B (flatE T).length) {w : List (Int × Sec)} (hm : MayE (N - 2 - S) w) (hne : w ≠ []) (hfit : (flatE T).length + (2 * w.length + 1) ≤ S) {Hs : List Sec → Prop} (hH : Hs H) (hH2 : Hs (applyW H w)) (m : Nat) (cs : List UInt8) :
    Rec N S B Hs (crashW K ((laidW B (flatE T).length (entriesB w)).take m) cs) := by
  have hE := entriesB_data hm.data
  obtain ⟨i, hi, hI⟩ := crashW_steps ((laidW B (flatE T).length (entriesB w)).take m) K cs (fun i L => Half N S L B sl T H (entriesB w) i) ⟨h, hc, .inl (fun j x hj => absurd hj (Nat.not_lt_zero _))⟩ (fun i y L c hy hL hc => by
    rw [List.getElem?_take] at hy
    split at hy
    · obtain ⟨x, hx, rfl⟩ := laidW_get _ _ _ _ _ hy
      have := (List.getElem?_eq_some_iff.1 hx).1
      rw [entriesB_length] at this
      exact hL.step hE hx (by omega) hc
    · cases hy)
  rw [List.length_take, laidW_length, entriesB_length] at hi
  exact hI.rec_ hm hne hfit (by omega) hH hH2
/-- Entries written whole. -/
theorem Img.apply_entries (h : Img N S K B sl T H) (hc : Clean S K B (flatE T).length) {w : List (Int × Sec)} (hm : MayE (N - 2 - S) w) (hne : w ≠ []) (hfit : (flatE T).length + (2 * w.length + 1) ≤ S) :
    Img N S (applyW K (laidW B (flatE T).length (entriesB w))) B sl (T ++ [w]) (applyW H w) ∧ Clean S (applyW K (laidW B (flatE T).length (entriesB w))) B (flatE (T ++ [w])).length := by
  have hE := entriesB_data hm.data
  have key : ∀ (n : Nat), n ≤ (entriesB w).length → Half N S (applyW K ((laidW B (flatE T).length (entriesB w)).take n)) B sl T H (entriesB w) n ∧ (∀ j x, j < n → (entriesB w)[j]? = some x → (applyW K ((laidW B (flatE T).length (entriesB w)).take n)).getD (2 + ((flatE T).length + j)) [] = entryB x.1 x.2.1 x.2.2 (B + ((flatE T).length + j))) := by
    intro n
    induction n with
    | zero => exact fun _ => ⟨⟨h, hc, .inl (fun j x hj => absurd hj (Nat.not_lt_zero _))⟩, fun j x hj => absurd hj (Nat.not_lt_zero _)⟩
    | succ n ih =>
      intro hn
      obtain ⟨h1, h2⟩ := ih (by omega)
      have hg : (laidW B (flatE T).length (entriesB w))[n]? = some ((laidW B (flatE T).length (entriesB w))[n]'(by rw [laidW_length]; omega)) := List.getElem?_eq_getElem _
      have e : (laidW B (flatE T).length (entriesB w)).take (n + 1) = (laidW B (flatE T).length (entriesB w)).take n ++ [(laidW B (flatE T).length (entriesB w))[n]'(by rw [laidW_length]; omega)] := List.take_succ_eq_append_getElem (by rw [laidW_length]; omega)
      obtain ⟨x, hx, hy⟩ := laidW_get _ _ _ _ _ hg
      rw [e, applyW_app]
      generalize applyW K ((laidW B (flatE T).length (entriesB w)).take n) = L at *
      have hxl := hE x (List.mem_of_getElem? hx)
      have hlen : n < 2 * w.length + 1 := by rw [entriesB_length] at hn; omega
      have ew : applyW L [(laidW B (flatE T).length (entriesB w))[n]'(by rw [laidW_length]; omega)] = tornW L (2 + (((flatE T).length + n : Nat) : Int), entryB x.1 x.2.1 x.2.2 (B + ((flatE T).length + n))) 64 := by
        rw [hy]
        exact setW_torn h1.img.sec (entryB_length hxl)
      rw [ew]
      have hs := h1.step hE hx (by omega) (c := 64) (Nat.le_refl _)
      refine ⟨hs, fun j y hj hy2 => ?_⟩
      have ht : (2 + (((flatE T).length + n : Nat) : Int)).toNat = 2 + ((flatE T).length + n) := by omega
      have hL := h1.img.len
      have hr := h1.img.room
      rw [tornW_getD _ _ _ _ (by omega), ht]
      by_cases ej : j = n
      · subst ej
        rw [hx] at hy2
        injection hy2 with hy2
        subst hy2
        rw [if_pos rfl]
        exact tornS_full (entryB_length hxl) (getD_sec h1.img.sec (by omega)) (Nat.le_refl _)
      · rw [if_neg (by omega)]
        exact h2 j y (by omega) hy2
  obtain ⟨h1, h2⟩ := key _ (Nat.le_refl _)
  rw [List.take_of_length_le (by rw [laidW_length]; exact Nat.le_refl _)] at h1 h2
  refine ⟨h1.img.more hm hne hfit (fun j x hx => h2 j x (List.getElem?_eq_some_iff.1 hx).1 hx), ?_⟩
  rw [flatE_snoc, List.length_append]
  exact h1.old
end
/-- Of which homes it may be. -/
structure Kp (H : List Sec) (w : List (Int × Sec)) (X : List Sec) : Prop where
  out : X = H ∨ X = applyW H w
section
variable {N S : Nat} {T : List (List (Int × Sec))} {H : List Sec} {d : Dsk} {l : Lg}
/-- The transaction, where there is room. -/
theorem commitT_two (h : Life N S d l T H) {w : List (Int × Sec)} (hm : MayE (N - 2 - S) w) (hne : w ≠ []) (hfit : l.used + (2 * w.length + 1) ≤ S) :
    (commitT d l w).1 = 0 ∧ Life N S (commitT d l w).2.1 (commitT d l w).2.2 (T ++ [w]) (applyW H w) ∧ (commitT d l w).2.2.base = l.base ∧ (commitT d l w).2.1.lives = d.lives ∨
    (commitT d l w).1 = 30 ∧ Dead N S l.base (Kp H w) (commitT d l w).2.1 := by
  have hr := h.img.room
  have hlen : d.now.length = N := by rw [h.now, applyW_length]; exact h.img.len
  have hu := h.used
  obtain ⟨a1, a2⟩ := h.img.apply_homes h.wait
  have hst := (h.used ▸ h.clean).stops h.img.small
  have hcl : Clean S (applyW d.kept d.wait) l.base (flatE T).length := by rw [← hu]; exact h.clean.congr a2
  unfold commitT
  rw [layS_seq, hu, h.size]
  rcases seqW_two (laidW l.base (flatE T).length (entriesB w)) d h.off (fun x hx => by
    obtain ⟨m1, m2, m3⟩ := laidW_mem hx
    rw [entriesB_length] at m2
    obtain ⟨i, hi⟩ := List.getElem?_of_mem hx
    obtain ⟨y, hy, rfl⟩ := laidW_get _ _ _ _ _ hi
    exact ⟨m3, by omega, entryB_length (entriesB_data hm.data y (List.mem_of_getElem? hy))⟩) with ⟨e, r⟩ | ⟨e, i, hi, r⟩
  · simp only [e, ne_eq, not_true_eq_false, if_false]
    have hnl : 1 ≤ (seqW d (laidW l.base (flatE T).length (entriesB w))).2.now.length := by rw [r.now, applyW_length]; omega
    rcases flush_two r.off hnl with ⟨e2, f1, f2, f3, f4, f5⟩ | ⟨e2, r2⟩
    · simp only [e2, not_true_eq_false, if_false]
      rw [redoS_seq]
      have hk2 : (seqW d (laidW l.base (flatE T).length (entriesB w))).2.flush.2.kept = applyW (applyW d.kept d.wait) (laidW l.base (flatE T).length (entriesB w)) := by
        rw [f2, r.kept, r.wait, applyW_app]
      have hn2 : (seqW d (laidW l.base (flatE T).length (entriesB w))).2.flush.2.now = applyW (applyW d.kept d.wait) (laidW l.base (flatE T).length (entriesB w)) := by
        rw [f4, r.now, h.now]
      obtain ⟨b1, b2⟩ := a1.apply_entries hcl hm hne (by omega)
      have b3 := b2.stops b1.small
      have hdrop : ∀ x : List (Int × Sec), (∀ y ∈ x, 0 ≤ y.1) → (applyW (applyW (applyW d.kept d.wait) (laidW l.base (flatE T).length (entriesB w))) (shiftW S x)).drop (2 + S) = applyW H x := by
        intro x hx
        rw [applyW_drop_shift S x _ hx, applyW_drop_low _ _ _ (fun y hy => by obtain ⟨m1, m2, m3⟩ := laidW_mem hy; rw [entriesB_length] at m2; omega), ← h.now, h.homes]
      have htw : ∀ x ∈ shiftW S w, Tch N S (T ++ [w]) x ∧ 0 ≤ x.1 := by
        intro x hx
        obtain ⟨y, hy, rfl⟩ := List.mem_map.1 hx
        obtain ⟨h0, h1⟩ := hm.home y hy
        have h2 := hm.data y hy
        refine ⟨⟨?_, ?_, h2, y, by simp [hy], ?_⟩, ?_⟩ <;> show _ <;> simp only <;> omega
      rcases seqW_two (shiftW S w) (seqW d (laidW l.base (flatE T).length (entriesB w))).2.flush.2 f1 (fun x hx => by
        obtain ⟨⟨t1, t2, t3, _⟩, t4⟩ := htw x hx
        rw [f4, r.now, applyW_length, hlen]; omega) with ⟨e3, r3⟩ | ⟨e3, i, hi, r3⟩
      · left
        refine ⟨e3, ⟨r3.off, ?_, rfl, ?_, ?_, ?_, ?_, ?_, ?_⟩, trivial, by rw [r3.lives, f5, r.lives]⟩
        · rw [r3.lives, f5, r.lives]; exact h.alive
        · show (flatE T).length + (2 * w.length + 1) = _
          rw [flatE_snoc, List.length_append, entriesB_length]
        · rw [r3.kept, hk2]; exact b1
        · rw [r3.kept, hk2]
          have : (flatE (T ++ [w])).length = (flatE T).length + (2 * w.length + 1) := by rw [flatE_snoc, List.length_append, entriesB_length]
          rw [this] at b2
          exact b2
        · rw [r3.wait, f3, List.nil_append]; exact fun x hx => (htw x hx).1
        · rw [r3.now, r3.kept, r3.wait, f3, List.nil_append, hk2, hn2]
        · rw [r3.now, hn2]; exact hdrop w (fun y hy => (hm.home y hy).1)
      · right
        refine ⟨e3, r3.off, fun cs => ?_⟩
        show Rec N S l.base (Kp H w) (crashW (seqW (seqW d (laidW l.base (flatE T).length (entriesB w))).2.flush.2 (shiftW S w)).2.kept (seqW (seqW d (laidW l.base (flatE T).length (entriesB w))).2.flush.2 (shiftW S w)).2.wait cs)
        rw [r3.kept, hk2, r3.wait, f3, List.nil_append]
        exact b1.crash_rec b3 (fun x hx => (htw x (List.mem_of_mem_take hx)).1) ⟨.inr rfl⟩ cs
    · right
      simp only [e2]
      rw [if_pos (show ¬ (30 : Int) = 0 by decide)]
      refine ⟨rfl, r2.off, fun cs => ?_⟩
      show Rec N S l.base (Kp H w) (crashW (seqW d (laidW l.base (flatE T).length (entriesB w))).2.flush.2.kept (seqW d (laidW l.base (flatE T).length (entriesB w))).2.flush.2.wait cs)
      rw [r2.kept, r.kept, r2.wait, List.append_nil, r.wait, crashW_app]
      obtain ⟨k1, k2⟩ := h.img.crash_homes h.wait cs
      have := k1.crash_entries (by rw [← hu]; exact h.clean.congr k2) hm hne (by omega) (Hs := Kp H w) ⟨.inl rfl⟩ ⟨.inr rfl⟩ (2 * w.length + 1) (cs.drop d.wait.length)
      rw [List.take_of_length_le (by rw [laidW_length, entriesB_length]; exact Nat.le_refl _)] at this
      exact this
  · right
    simp only [e]
    rw [if_pos (show (30 : Int) ≠ 0 by decide)]
    refine ⟨rfl, r.off, fun cs => ?_⟩
    show Rec N S l.base (Kp H w) (crashW (seqW d (laidW l.base (flatE T).length (entriesB w))).2.kept (seqW d (laidW l.base (flatE T).length (entriesB w))).2.wait cs)
    rw [r.kept, r.wait, crashW_app]
    obtain ⟨k1, k2⟩ := h.img.crash_homes h.wait cs
    exact k1.crash_entries (by rw [← hu]; exact h.clean.congr k2) hm hne (by omega) ⟨.inl rfl⟩ ⟨.inr rfl⟩ _ _
end
end Bst
namespace Bst
set_option linter.unusedVariables false
section
variable {N S : Nat} {K : List Sec} {B sl : Nat} {T : List (List (Int × Sec))} {H : List Sec} {d : Dsk} {l : Lg}
/-- What a commit comes to. -/
inductive Cmt (N S : Nat) (d : Dsk) (l : Lg) (H : List Sec) (w : List (Int × Sec)) : Int × Dsk × Lg → Prop
  | no {e : Int} (he : e = 2 ∨ e = 3) : Cmt N S d l H w (e, d, l)
  | yes {d' : Dsk} {l' : Lg} {T' : List (List (Int × Sec))} (hm : MayE (N - 2 - S) w) (h : Life N S d' l' T' (applyW H w)) (hb : l'.base ≤ l.base + S) (hl : d'.lives = d.lives) : Cmt N S d l H w (0, d', l')
  | dead {d' : Dsk} {l' : Lg} {B' : Nat} (hm : MayE (N - 2 - S) w) (h : Dead N S B' (Kp H w) d') (hb : B' ≤ l.base + S) : Cmt N S d l H w (30, d', l')
theorem Life.len (h : Life N S d l T H) : d.now.length = N := by rw [h.now, applyW_length]; exact h.img.len
theorem mayE_of (h : Life N S d l T H) {w : List (Int × Sec)} (hw : w.all (mayW d l) = true) : MayE (N - 2 - S) w := by
  have hh : homesS d.now l.size = N - 2 - S := by unfold homesS; rw [h.len, h.size]
  rw [List.all_eq_true] at hw
  refine ⟨fun x hx => ?_, fun x hx => ?_⟩
  · have := of_decide_eq_true (hw x hx)
    rw [hh] at this
    omega
  · have := of_decide_eq_true (hw x hx)
    exact this.2.2
theorem commit_two (h : Life N S d l T H) (hs : l.base + S + S ≤ 256) (w : List (Int × Sec)) : Cmt N S d l H w (commitS d l w) := by
  have ha : aliveS d l = 0 := by unfold aliveS; rw [if_neg (by rw [h.off, h.alive]; simp)]
  unfold commitS
  rw [ha, if_neg (by decide)]
  by_cases hw : w.all (mayW d l) = true
  · rw [if_neg (by rw [hw]; decide)]
    have hm := mayE_of h hw
    by_cases h3 : l.size < 2 * w.length + 1
    · rw [if_pos h3]; exact .no (.inr rfl)
    · rw [if_neg h3]
      by_cases hn : w = []
      · rw [if_pos hn]
        subst hn
        exact .yes hm h (Nat.le_add_right _ _) rfl
      · rw [if_neg hn]
        have hsz := h.size
        by_cases h4 : l.size < l.used + (2 * w.length + 1)
        · rw [if_pos h4]
          rcases h.check hs (Hs := Kp H w) ⟨.inl rfl⟩ with ⟨e, c1, c2, c3⟩ | ⟨e, c1⟩
          · simp only [e, ne_eq, not_true_eq_false, if_false]
            have hb : (checkS d l).2.2.base = l.base + S := by rw [c2]; show l.base + l.size = _; rw [h.size]
            have hu : (checkS d l).2.2.used = 0 := by rw [c2]; rfl
            generalize hr : commitT (checkS d l).2.1 (checkS d l).2.2 w = r
            have := commitT_two c1 hm hn (by rw [hu]; omega)
            rw [hr] at this
            obtain ⟨e', d', l'⟩ := r
            rcases this with ⟨f1, f2, f3, f4⟩ | ⟨f1, f2⟩
            · cases f1
              exact .yes hm f2 (by simp only at f3; omega) (f4.trans c3)
            · cases f1
              exact .dead hm f2 (by omega)
          · simp only [e]
            rw [if_pos (show (30 : Int) ≠ 0 by decide)]
            generalize hr : checkS d l = r at *
            obtain ⟨e', d', l'⟩ := r
            cases e
            exact .dead hm c1 (by omega)
        · rw [if_neg h4]
          generalize hr : commitT d l w = r
          have := commitT_two h hm hn (by omega)
          rw [hr] at this
          obtain ⟨e', d', l'⟩ := r
          rcases this with ⟨f1, f2, f3, f4⟩ | ⟨f1, f2⟩
          · cases f1
            exact .yes hm f2 (by simp only at f3; omega) f4
          · cases f1
            exact .dead hm f2 (by omega)
  · rw [if_pos (by simpa using hw)]; exact .no (.inl rfl)
theorem Dsk.Calm.write (h : d.Calm) (n : Int) (b : Sec) : (d.write n b).2.Calm := by
  unfold Dsk.write
  split
  · exact h
  · split
    · exact h
    · have hc : (d.put n b).Calm := ⟨h.off, h.fuse⟩
      show (d.put n b).burnt.Calm
      rw [hc.burnt]; exact hc
theorem Dsk.Calm.flush (h : d.Calm) : d.flush.2.Calm := by
  unfold Dsk.flush
  split
  · exact h
  · rw [h.burnt]
    split
    · exact h
    · exact ⟨h.off, h.fuse⟩
theorem Dsk.Calm.seq : ∀ (ws : List (Int × Sec)) {d : Dsk}, d.Calm → (seqW d ws).2.Calm
  | [], d, h => h
  | x :: ws, d, h => by
    rw [seqW]
    split
    · exact h.write _ _
    · exact Dsk.Calm.seq ws (h.write _ _)
theorem Dsk.Calm.raise (h : d.Calm) : (raiseS d l).2.1.Calm := by
  unfold raiseS
  simp only
  split
  · exact h.write _ _
  · split
    · exact (h.write _ _).flush
    · exact (h.write _ _).flush
theorem Dsk.Calm.check (h : d.Calm) : (checkS d l).2.1.Calm := by
  unfold checkS
  split
  · exact h
  · split
    · exact h
    · split
      · exact h.flush
      · exact h.flush.raise
theorem Dsk.Calm.open_ (h : d.Calm) : (openS d).2.1.Calm := by
  unfold openS
  split
  · exact h
  · simp only
    split
    · exact h
    · split
      · exact h
      · rw [redoS_seq]
        split
        · exact Dsk.Calm.seq _ h
        · split
          · exact (Dsk.Calm.seq _ h).check
          · exact (Dsk.Calm.seq _ h).check
theorem open_calm {d : Dsk} (hc : d.Calm) (hk : d.kept = K) (hn : d.now = K) (hw : d.wait = []) (h : Img N S K B sl T H) (hst : Stops S K B T) (hs : B + S + S ≤ 256) :
    (openS d).1 = 0 ∧ ∃ l, (openS d).2.2 = some l ∧ Life N S (openS d).2.1 l [] H ∧ l.base = B + S ∧ (openS d).2.1.lives = d.lives := by
  rcases open_two hc.off hk hn hw h hst hs (Hs := fun _ => True) trivial with ⟨e, l, h1, h2, h3, _, _, h4⟩ | ⟨e, _, h1⟩
  · exact ⟨e, l, h1, h2, h3, h4⟩
  · have := h1.off
    rw [hc.open_.off] at this
    cases this
/-- .. whatever the stamps: the homes are there. -/
theorem open_last {d : Dsk} (hc : d.Calm) (hk : d.kept = K) (hn : d.now = K) (hw : d.wait = []) (h : Img N S K B sl T H) (hst : Stops S K B T) :
    (openS d).1 = 0 ∧ ∃ l, (openS d).2.2 = some l ∧ (openS d).2.1.off = false ∧ (openS d).2.1.lives = l.life ∧ l.size = S ∧ (openS d).2.1.now.length = N ∧ (openS d).2.1.now.drop (2 + S) = H := by
  have hr := h.room
  have hp := h.pos
  have hsm := h.small
  have hsl := h.slLe
  unfold openS
  rw [hc.off, if_neg (by decide), hn, h.best]
  simp only
  rw [if_neg (by omega), if_neg (by unfold topW; omega), h.says_all hst, redoS_seq]
  have htc := shift_tch h
  have hcs := Dsk.Calm.seq (shiftW S T.flatten) hc
  rcases seqW_two (shiftW S T.flatten) d hc.off (fun x hx => by obtain ⟨⟨h1, h2, h3, _⟩, h0⟩ := htc x hx; rw [hn, h.len]; omega) with ⟨e, r⟩ | ⟨e, i, hi, r⟩
  · rw [if_neg (by rw [e]; decide)]
    generalize (seqW d (shiftW S T.flatten)).2 = q at *
    have hql : q.now.length = N := by rw [r.now, applyW_length, hn]; exact h.len
    have hqd : q.now.drop (2 + S) = H := by
      rw [r.now, hn, applyW_drop_shift _ _ _ (fun x hx => by
        obtain ⟨w, hw, hxw⟩ := List.mem_flatten.1 hx
        exact ((h.may w hw).1.home x hxw).1)]
      exact h.homes
    have e1 := Dsk.flush_calm hcs (by omega)
    have e2 : checkS q { size := S, base := B, slot := sl, used := 0, life := d.lives, commits := 0 } = raiseS q.keepAll { size := S, base := B, slot := sl, used := 0, life := d.lives, commits := 0 } := by
      unfold checkS aliveS
      rw [if_neg (by rw [if_neg (by rw [r.off, r.lives]; simp)]; decide), if_neg (by unfold topW; simp only; omega), e1, if_neg (by simp)]
    have e3 : q.keepAll.write (1 - (sl : Int)) (slotB (B + S) S) = (0, q.keepAll.puts [(1 - (sl : Int), slotB (B + S) S)]) := Dsk.write_calm hcs.keepAll (by omega) (by show 1 - (sl : Int) < (q.now.length : Int); omega) (slotB_len _ _)
    have e4 := Dsk.flush_calm (hcs.keepAll.puts [(1 - (sl : Int), slotB (B + S) S)]) (by rw [Dsk.puts_len]; show 1 ≤ q.now.length; omega)
    rw [e2]
    unfold raiseS
    simp only [e3, e4, ne_eq, not_true_eq_false, if_false]
    refine ⟨trivial, _, rfl, (hcs.keepAll.puts _).keepAll.off, r.lives, rfl, ?_, ?_⟩
    · show (applyW q.now _).length = N; rw [applyW_length]; exact hql
    · show (applyW q.now [(1 - (sl : Int), slotB (B + S) S)]).drop (2 + S) = H
      rw [applyW_drop_low _ _ _ (fun y hy => by rw [List.mem_singleton.1 hy]; show (1 - (sl : Int)).toNat < _; omega), hqd]
  · have := r.off
    rw [hcs.off] at this
    cases this
end
end Bst
