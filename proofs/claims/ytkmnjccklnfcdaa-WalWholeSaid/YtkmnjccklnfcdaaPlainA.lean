/- Numbers as bytes, plainly: the highest first. A disk, plainly: what is kept, what it has now, what waits. The checksum, plainly: a step of a bit, of a byte, of bytes; a changed byte changes it. A log on a disk, plainly. A log on a disk, plainly: entries that are right, turned, stale. The steps in which an entry's bytes are laid, plainly. What a log says, plainly: how much, and of which homes. -/
import Derived.WalkKit
namespace Bst
set_option linter.unusedVariables false

/-- A number's bytes, the lowest first. -/
def leL : Nat → Nat → List UInt8
  | _, 0 => []
  | n, k + 1 => UInt8.ofNat (n % 256) :: leL (n / 256) k
/-- .. the highest first. -/
def beL (n k : Nat) : List UInt8 := (leL n k).reverse
/-- The number of bytes, the highest first. -/
def beV (l : List UInt8) : Nat := l.foldl (fun x c => 256 * x + c.toNat) 0
theorem leL_length : ∀ (k n : Nat), (leL n k).length = k
  | 0, _ => rfl
  | k + 1, n => by rw [leL, List.length_cons, leL_length k]
theorem beL_length (n k : Nat) : (beL n k).length = k := by rw [beL, List.length_reverse, leL_length]
theorem beV_snoc (l : List UInt8) (c : UInt8) : beV (l ++ [c]) = 256 * beV l + c.toNat := by simp [beV, List.foldl_append]
theorem beL_succ (n k : Nat) : beL n (k + 1) = beL (n / 256) k ++ [UInt8.ofNat (n % 256)] := by simp [beL, leL]
theorem beV_beL : ∀ (k n : Nat), n < 256 ^ k → beV (beL n k) = n
  | 0, n, h => by simp at h; subst h; rfl
  | k + 1, n, h => by
    have h2 : n / 256 < 256 ^ k := by rw [Nat.pow_succ] at h; omega
    rw [beL_succ, beV_snoc, beV_beL k _ h2]
    have : (UInt8.ofNat (n % 256)).toNat = n % 256 := by simp [UInt8.toNat_ofNat']
    rw [this]; omega
theorem beV_lt (l : List UInt8) : beV l < 256 ^ l.length := by
  have : ∀ (l : List UInt8) (x m : Nat), x < 256 ^ m → l.foldl (fun x c => 256 * x + c.toNat) x < 256 ^ (m + l.length) := by
    intro l
    induction l with
    | nil => intro x m h; simpa using h
    | cons c l ih =>
      intro x m h
      rw [List.foldl_cons, List.length_cons, show m + (l.length + 1) = (m + 1) + l.length by omega]
      refine ih _ _ ?_
      have := UInt8.toNat_lt c
      rw [Nat.pow_succ]; omega
  have h := this l 0 0 (by simp)
  rw [Nat.zero_add] at h
  exact h
theorem beL_beV (l : List UInt8) : beL (beV l) l.length = l := by
  have : ∀ (n : Nat) (l : List UInt8), l.length = n → beL (beV l) n = l := by
    intro n
    induction n with
    | zero => intro l h; rw [List.eq_nil_of_length_eq_zero h]; rfl
    | succ n ih =>
      intro l h
      rcases List.eq_nil_or_concat l with rfl | ⟨a, c, rfl⟩
      · simp at h
      · rw [List.concat_eq_append] at *
        have hc := UInt8.toNat_lt c
        rw [beV_snoc, beL_succ, show (256 * beV a + c.toNat) / 256 = beV a by omega, show (256 * beV a + c.toNat) % 256 = c.toNat by omega, ih a (by simpa using h)]
        simp
  exact this _ l rfl
theorem beV_inj {a b : List UInt8} (hl : a.length = b.length) (h : beV a = beV b) : a = b := by
  rw [← beL_beV a, ← beL_beV b, h, hl]
/-- What 'Get' answers: the number, the error. -/
def getS (b : List UInt8) : Nat × Int :=
  if b.length = 0 then (0, 10) else if 8 < b.length then (0, 2) else if 4611686018427387904 < beV b then (0, 11) else (beV b, 0)
theorem getS_ok {b : List UInt8} (h0 : b.length ≠ 0) (h8 : b.length ≤ 8) (hv : beV b ≤ 4611686018427387904) : getS b = (beV b, 0) := by
  unfold getS; rw [if_neg h0, if_neg (by omega), if_neg (by omega)]
theorem getS_form {b : List UInt8} (h0 : b.length ≠ 0) (h8 : b.length ≤ 8) (hv : 4611686018427387904 < beV b) : getS b = (0, 11) := by
  unfold getS; rw [if_neg h0, if_neg (by omega), if_pos hv]
theorem getS_four {b : List UInt8} (h : b.length = 4) : getS b = (beV b, 0) := by
  have := beV_lt b
  rw [h] at this
  exact getS_ok (by omega) (by omega) (by omega)
/-- May a number be put into so many bytes? -/
def mayPut (n : Int) (k : Int) : Bool := decide (1 ≤ k ∧ k ≤ 8 ∧ 0 ≤ n ∧ n ≤ 4611686018427387904 ∧ n < 256 ^ k.toNat)
/-- Some of a list written into another from a place on. -/
def putAt {α : Type} (l : List α) (o : Nat) (s : List α) : List α := l.take o ++ s ++ l.drop (o + s.length)
theorem putAt_length {α : Type} {l : List α} {o : Nat} {s : List α} (h : o + s.length ≤ l.length) : (putAt l o s).length = l.length := by
  simp [putAt]; omega
theorem putAt_get {α : Type} {l : List α} {o : Nat} {s : List α} (h : o + s.length ≤ l.length) (i : Nat) : (putAt l o s)[i]? = if i < o then l[i]? else if i < o + s.length then s[i - o]? else l[i]? := by
  unfold putAt
  by_cases h1 : i < o
  · rw [if_pos h1, List.append_assoc, List.getElem?_append_left (by rw [List.length_take]; omega), List.getElem?_take, if_pos h1]
  · rw [if_neg h1]
    by_cases h2 : i < o + s.length
    · rw [if_pos h2, List.append_assoc, List.getElem?_append_right (by rw [List.length_take]; omega), List.length_take, List.getElem?_append_left (by omega)]
      congr 1; omega
    · rw [if_neg h2, List.getElem?_append_right (by simp; omega), List.length_append, List.length_take, List.getElem?_drop]
      congr 1; omega
end Bst
namespace Bst
set_option linter.unusedVariables false

abbrev Sec := List UInt8
structure Dsk where
  kept : List Sec
  now : List Sec
  wait : List (Int × Sec)
  fuse : Int
  off : Bool
  lives : Nat
def zeros (n : Nat) : Sec := List.replicate n 0
theorem zeros_length (n : Nat) : (zeros n).length = n := List.length_replicate
def setW (l : List Sec) (x : Int × Sec) : List Sec := l.set x.1.toNat x.2
def applyW (l : List Sec) (ws : List (Int × Sec)) : List Sec := ws.foldl setW l
def Dsk.new (n : Nat) : Dsk := { kept := List.replicate n (zeros 64), now := List.replicate n (zeros 64), wait := [], fuse := -1, off := false, lives := 0 }
def Dsk.may (d : Dsk) (n : Int) : Int := if d.off then 30 else if n < 0 ∨ (d.now.length : Int) ≤ n then 31 else 0
def Dsk.burnt (d : Dsk) : Dsk := if d.fuse < 0 then d else { d with off := decide (d.fuse = 0), fuse := d.fuse - 1 }
/-- A write that goes into what waits. -/
def Dsk.put (d : Dsk) (n : Int) (b : Sec) : Dsk := { d with wait := d.wait ++ [(n, b)], now := d.now.set n.toNat b }
def Dsk.write (d : Dsk) (n : Int) (b : Sec) : Int × Dsk :=
  if d.may n ≠ 0 then (d.may n, d) else if b.length ≠ 64 then (2, d) else (if (d.put n b).burnt.off then 30 else 0, (d.put n b).burnt)
def Dsk.keepAll (d : Dsk) : Dsk := { d with kept := applyW d.kept d.wait, wait := [] }
def Dsk.flush (d : Dsk) : Int × Dsk :=
  if d.may 0 ≠ 0 then (d.may 0, d) else if d.burnt.off then (30, d.burnt) else (0, d.burnt.keepAll)
def Dsk.read (d : Dsk) (n : Int) : Sec × Int := if d.may n ≠ 0 then ([], d.may n) else (d.now.getD n.toNat [], 0)
/-- As much of a waiting write as is kept. -/
def tornW (l : List Sec) (x : Int × Sec) (c : Nat) : List Sec := l.set x.1.toNat (x.2.take c ++ (l.getD x.1.toNat []).drop c)
def crashW : List Sec → List (Int × Sec) → List UInt8 → List Sec
  | l, x :: ws, c :: cs => crashW (tornW l x (min c.toNat 64)) ws cs
  | l, _, _ => l
def Dsk.crash (d : Dsk) (cs : List UInt8) : Dsk :=
  let k := crashW d.kept d.wait cs
  { kept := k, now := k, wait := [], fuse := -1, off := false, lives := d.lives + 1 }
def Dsk.fused (d : Dsk) (n : Int) : Dsk := { d with fuse := max n (-1) }

structure Dsk.Ok (d : Dsk) : Prop where
  pos : 1 ≤ d.now.length
  le : d.now.length ≤ 16384
  same : d.kept.length = d.now.length
  nowS : ∀ s ∈ d.now, s.length = 64
  keptS : ∀ s ∈ d.kept, s.length = 64
  waitS : ∀ x ∈ d.wait, x.2.length = 64 ∧ 0 ≤ x.1 ∧ x.1 < d.now.length
  waits : d.wait.length ≤ 1000000000
  fuse : -1 ≤ d.fuse ∧ d.fuse ≤ 9223372036854775807
  lives : d.lives ≤ 1000000000

theorem setW_length (l : List Sec) (x : Int × Sec) : (setW l x).length = l.length := by simp [setW]
theorem applyW_length (ws : List (Int × Sec)) : ∀ l : List Sec, (applyW l ws).length = l.length := by
  induction ws with
  | nil => intro l; rfl
  | cons x ws ih => intro l; show (applyW (setW l x) ws).length = _; rw [ih, setW_length]
theorem applyW_snoc (l : List Sec) (ws : List (Int × Sec)) (x : Int × Sec) : applyW l (ws ++ [x]) = setW (applyW l ws) x := by simp [applyW]
theorem setW_mem {l : List Sec} {x : Int × Sec} {s : Sec} (h : s ∈ setW l x) : s ∈ l ∨ s = x.2 := List.mem_or_eq_of_mem_set h
theorem applyW_sec (ws : List (Int × Sec)) (hw : ∀ x ∈ ws, x.2.length = 64) : ∀ (l : List Sec), (∀ s ∈ l, s.length = 64) → ∀ s ∈ applyW l ws, s.length = 64 := by
  induction ws with
  | nil => intro l h; exact h
  | cons x ws ih =>
    intro l h
    refine ih (fun y hy => hw y (List.mem_cons_of_mem _ hy)) (setW l x) (fun s hs => ?_)
    rcases setW_mem hs with h1 | h1
    · exact h s h1
    · rw [h1]; exact hw x (List.mem_cons_self ..)
theorem tornW_length (l : List Sec) (x : Int × Sec) (c : Nat) : (tornW l x c).length = l.length := by simp [tornW]
theorem crashW_length : ∀ (l : List Sec) (ws : List (Int × Sec)) (cs : List UInt8), (crashW l ws cs).length = l.length
  | l, [], cs => by cases cs <;> rfl
  | l, _ :: _, [] => rfl
  | l, x :: ws, c :: cs => by rw [crashW, crashW_length, tornW_length]
theorem getD_sec {l : List Sec} (h : ∀ s ∈ l, s.length = 64) {n : Nat} (hn : n < l.length) : (l.getD n []).length = 64 := by
  rw [List.getD_eq_getElem?_getD, List.getElem?_eq_getElem hn]; exact h _ (List.getElem_mem hn)
theorem tornW_sec {l : List Sec} (h : ∀ s ∈ l, s.length = 64) {x : Int × Sec} (hx : x.2.length = 64) (c : Nat) : ∀ s ∈ tornW l x c, s.length = 64 := by
  intro s hs
  by_cases hn : x.1.toNat < l.length
  · rcases List.mem_or_eq_of_mem_set hs with h1 | h1
    · exact h s h1
    · have := getD_sec h hn
      rw [h1, List.length_append, List.length_take, List.length_drop]; omega
  · unfold tornW at hs
    rw [List.set_eq_of_length_le (by omega)] at hs
    exact h s hs
theorem crashW_sec : ∀ (l : List Sec) (ws : List (Int × Sec)) (cs : List UInt8), (∀ x ∈ ws, x.2.length = 64) → (∀ s ∈ l, s.length = 64) → ∀ s ∈ crashW l ws cs, s.length = 64
  | l, [], cs, _, h => by cases cs <;> exact h
  | l, _ :: _, [], _, h => h
  | l, x :: ws, c :: cs, hw, h => by
    rw [crashW]
    exact crashW_sec _ ws cs (fun y hy => hw y (List.mem_cons_of_mem _ hy)) (tornW_sec h (hw x (List.mem_cons_self ..)) _)
theorem Dsk.Ok.new {n : Nat} (h1 : 1 ≤ n) (h2 : n ≤ 16384) : (Dsk.new n).Ok := by
  have hz : ∀ s ∈ List.replicate n (zeros 64), s.length = 64 := fun s hs => by rw [(List.mem_replicate.1 hs).2]; exact zeros_length 64
  refine ⟨?_, ?_, rfl, hz, hz, (fun x hx => by cases hx), Nat.zero_le _, (by show (-1 : Int) ≤ -1 ∧ (-1 : Int) ≤ _; decide), Nat.zero_le _⟩
  · show 1 ≤ (List.replicate n (zeros 64)).length; rw [List.length_replicate]; exact h1
  · show (List.replicate n (zeros 64)).length ≤ 16384; rw [List.length_replicate]; exact h2
theorem Dsk.Ok.burnt {d : Dsk} (h : d.Ok) : d.burnt.Ok := by
  unfold Dsk.burnt
  split
  · exact h
  · exact ⟨h.pos, h.le, h.same, h.nowS, h.keptS, h.waitS, h.waits, by have := h.fuse; show -1 ≤ d.fuse - 1 ∧ d.fuse - 1 ≤ _; omega, h.lives⟩
theorem Dsk.Ok.put {d : Dsk} (h : d.Ok) {n : Int} {b : Sec} (h0 : 0 ≤ n) (hn : n < d.now.length) (hb : b.length = 64) (hw : d.wait.length < 1000000000) : (d.put n b).Ok := by
  refine ⟨?_, ?_, ?_, ?_, h.keptS, ?_, ?_, h.fuse, h.lives⟩
  · show 1 ≤ (d.now.set _ _).length; rw [List.length_set]; exact h.pos
  · show (d.now.set _ _).length ≤ _; rw [List.length_set]; exact h.le
  · show d.kept.length = (d.now.set _ _).length; rw [List.length_set]; exact h.same
  · intro s hs
    rcases List.mem_or_eq_of_mem_set hs with h1 | h1
    · exact h.nowS s h1
    · rw [h1]; exact hb
  · intro x hx
    show _ ∧ _ ∧ x.1 < ((d.now.set _ _).length : Nat)
    rw [List.length_set]
    rcases List.mem_append.1 hx with h1 | h1
    · exact h.waitS x h1
    · rw [List.mem_singleton.1 h1]; exact ⟨hb, h0, hn⟩
  · show (d.wait ++ _).length ≤ _
    rw [List.length_append]; simp; omega
theorem Dsk.Ok.keepAll {d : Dsk} (h : d.Ok) : d.keepAll.Ok := by
  refine ⟨h.pos, h.le, ?_, h.nowS, ?_, (fun x hx => by cases hx), Nat.zero_le _, h.fuse, h.lives⟩
  · show (applyW d.kept d.wait).length = _; rw [applyW_length]; exact h.same
  · exact applyW_sec _ (fun x hx => (h.waitS x hx).1) _ h.keptS
theorem Dsk.Ok.crash {d : Dsk} (h : d.Ok) (cs : List UInt8) (hl : d.lives < 1000000000) : (d.crash cs).Ok := by
  have hlen : (crashW d.kept d.wait cs).length = d.now.length := by rw [crashW_length]; exact h.same
  have hs := crashW_sec d.kept d.wait cs (fun x hx => (h.waitS x hx).1) h.keptS
  exact ⟨by show 1 ≤ (crashW _ _ _).length; rw [hlen]; exact h.pos, by show (crashW _ _ _).length ≤ _; rw [hlen]; exact h.le, rfl, hs, hs, (fun x hx => by cases hx), Nat.zero_le _, (by show (-1 : Int) ≤ -1 ∧ (-1 : Int) ≤ _; decide), by show d.lives + 1 ≤ _; omega⟩
theorem Dsk.Ok.fused {d : Dsk} (h : d.Ok) {n : Int} (hn : n ≤ 9223372036854775807) : (d.fused n).Ok :=
  ⟨h.pos, h.le, h.same, h.nowS, h.keptS, h.waitS, h.waits, by show -1 ≤ max n (-1) ∧ max n (-1) ≤ _; omega, h.lives⟩
theorem Dsk.may_cases (d : Dsk) (n : Int) : (d.off = true ∧ d.may n = 30) ∨ (d.off = false ∧ (n < 0 ∨ (d.now.length : Int) ≤ n) ∧ d.may n = 31) ∨ (d.off = false ∧ 0 ≤ n ∧ n < d.now.length ∧ d.may n = 0) := by
  unfold Dsk.may
  cases h : d.off
  · by_cases hn : n < 0 ∨ (d.now.length : Int) ≤ n
    · exact .inr (.inl ⟨rfl, hn, by simp [hn]⟩)
    · exact .inr (.inr ⟨rfl, by omega, by omega, by simp [hn]⟩)
  · exact .inl ⟨rfl, by simp⟩
/-- The whole of a list of sectors, as bytes. -/
theorem flat_length {l : List Sec} (h : ∀ s ∈ l, s.length = 64) : l.flatten.length = l.length * 64 := by
  induction l with
  | nil => rfl
  | cons a l ih =>
    rw [List.flatten_cons, List.length_append, h a (List.mem_cons_self ..), ih (fun s hs => h s (List.mem_cons_of_mem _ hs)), List.length_cons]; omega
theorem flat_at {l : List Sec} (h : ∀ s ∈ l, s.length = 64) {n : Nat} (hn : n < l.length) : (l.flatten.drop (n * 64)).take 64 = l[n] := by
  induction l generalizing n with
  | nil => exact absurd hn (Nat.not_lt_zero _)
  | cons a l ih =>
    have ha := h a (List.mem_cons_self ..)
    cases n with
    | zero => simp [List.flatten_cons, ← ha]
    | succ n =>
      have := ih (fun s hs => h s (List.mem_cons_of_mem _ hs)) (n := n) (by simpa using hn)
      rw [List.flatten_cons, show (n + 1) * 64 = a.length + n * 64 by rw [ha]; omega, List.drop_append, List.drop_eq_nil_of_le (by omega), List.nil_append, Nat.add_sub_cancel_left, List.getElem_cons_succ]
      exact this
theorem flat_set {l : List Sec} (h : ∀ s ∈ l, s.length = 64) {n : Nat} (hn : n < l.length) {b : Sec} (hb : b.length = 64) : putAt l.flatten (n * 64) b = (l.set n b).flatten := by
  induction l generalizing n with
  | nil => exact absurd hn (Nat.not_lt_zero _)
  | cons a l ih =>
    have ha := h a (List.mem_cons_self ..)
    cases n with
    | zero =>
      unfold putAt
      rw [Nat.zero_mul, List.set_cons_zero, List.flatten_cons, List.flatten_cons, List.take_zero, List.nil_append, Nat.zero_add, hb, ← ha, List.drop_left]
    | succ n =>
      have := ih (fun s hs => h s (List.mem_cons_of_mem _ hs)) (n := n) (by simpa using hn)
      rw [List.set_cons_succ, List.flatten_cons, List.flatten_cons, ← this]
      unfold putAt
      rw [show (n + 1) * 64 = a.length + n * 64 by rw [ha]; omega, List.take_append, Nat.add_assoc, List.drop_append, List.take_of_length_le (by omega), List.drop_eq_nil_of_le (by omega), Nat.add_sub_cancel_left, Nat.add_sub_cancel_left]
      simp
end Bst
namespace Bst
set_option linter.unusedVariables false

/-- One bit. -/
def crcStep (x : Nat) : Nat := if x % 2 = 1 then (x / 2) ^^^ 3988292384 else x / 2
def crcSteps : Nat → Nat → Nat
  | 0, x => x
  | k + 1, x => crcStep (crcSteps k x)
def crcByte (x c : Nat) : Nat := crcSteps 8 (x ^^^ c)
def crcAll (x : Nat) : List UInt8 → Nat
  | [] => x
  | c :: l => crcAll (crcByte x c.toNat) l
/-- The sum of bytes. -/
def sumS (l : List UInt8) : Nat := 4294967295 - crcAll 4294967295 l

theorem crcStep_lt {x : Nat} (h : x < 4294967296) : crcStep x < 4294967296 := by
  unfold crcStep
  split
  · exact Nat.xor_lt_two_pow (n := 32) (by omega) (by omega)
  · omega
theorem crcSteps_lt {x : Nat} (h : x < 4294967296) : ∀ k, crcSteps k x < 4294967296
  | 0 => h
  | k + 1 => crcStep_lt (crcSteps_lt h k)
theorem xor_byte_lt {x c : Nat} (h : x < 4294967296) (hc : c < 256) : x ^^^ c < 4294967296 := Nat.xor_lt_two_pow (n := 32) h (by omega)
theorem crcByte_lt {x c : Nat} (h : x < 4294967296) (hc : c < 256) : crcByte x c < 4294967296 := crcSteps_lt (xor_byte_lt h hc) 8
theorem crcAll_lt : ∀ (l : List UInt8) {x : Nat}, x < 4294967296 → crcAll x l < 4294967296
  | [], _, h => h
  | c :: l, _, h => crcAll_lt l (crcByte_lt h (UInt8.toNat_lt c))
theorem crcAll_append (x : Nat) (a b : List UInt8) : crcAll x (a ++ b) = crcAll (crcAll x a) b := by
  induction a generalizing x with
  | nil => rfl
  | cons c a ih => exact ih _
theorem crcAll_snoc (x : Nat) (a : List UInt8) (c : UInt8) : crcAll x (a ++ [c]) = crcByte (crcAll x a) c.toNat := by
  rw [crcAll_append]; rfl
theorem sumS_lt (l : List UInt8) : sumS l < 4294967296 := by unfold sumS; omega

theorem crcStep_top {x : Nat} (h : x < 4294967296) : (crcStep x).testBit 31 = decide (x % 2 = 1) := by
  unfold crcStep
  have h2 : (x / 2).testBit 31 = false := Nat.testBit_lt_two_pow (by omega)
  split
  · rw [Nat.testBit_xor, h2]
    simp_all
    decide
  · rw [h2]; simp_all
theorem crcStep_inj {x y : Nat} (hx : x < 4294967296) (hy : y < 4294967296) (h : crcStep x = crcStep y) : x = y := by
  have e := crcStep_top hx
  rw [h, crcStep_top hy] at e
  have e2 : (y % 2 = 1) ↔ (x % 2 = 1) := by simpa using e
  unfold crcStep at h
  by_cases hp : x % 2 = 1
  · rw [if_pos hp, if_pos (e2.2 hp)] at h
    have h3 : x / 2 = y / 2 := by
      have := congrArg (· ^^^ 3988292384) h
      simpa [Nat.xor_assoc] using this
    have := e2.2 hp
    omega
  · rw [if_neg hp, if_neg (fun q => hp (e2.1 q))] at h
    have := fun q => hp (e2.1 q)
    omega
theorem crcSteps_inj {x y : Nat} (hx : x < 4294967296) (hy : y < 4294967296) : ∀ k, crcSteps k x = crcSteps k y → x = y
  | 0, h => h
  | k + 1, h => crcSteps_inj hx hy k (crcStep_inj (crcSteps_lt hx k) (crcSteps_lt hy k) h)
theorem xor_right_inj {x c d : Nat} (h : x ^^^ c = x ^^^ d) : c = d := by
  have := congrArg (x ^^^ ·) h
  simpa [← Nat.xor_assoc] using this
theorem xor_left_inj {x y c : Nat} (h : x ^^^ c = y ^^^ c) : x = y := by
  have := congrArg (· ^^^ c) h
  simpa [Nat.xor_assoc] using this
theorem crcAll_inj : ∀ (l : List UInt8) {x y : Nat}, x < 4294967296 → y < 4294967296 → crcAll x l = crcAll y l → x = y
  | [], _, _, _, _, h => h
  | c :: l, _, _, hx, hy, h => by
    have hc := UInt8.toNat_lt c
    have h1 := crcAll_inj l (crcByte_lt hx hc) (crcByte_lt hy hc) h
    exact xor_left_inj (crcSteps_inj (xor_byte_lt hx hc) (xor_byte_lt hy hc) 8 h1)
/-- One byte is another: so is the sum. -/
theorem sumS_set {l : List UInt8} {i : Nat} (hi : i < l.length) {c : UInt8} (hc : c ≠ l[i]) : sumS (l.set i c) ≠ sumS l := by
  have e1 : l = l.take i ++ l[i] :: l.drop (i + 1) := by simp
  have e2 : l.set i c = l.take i ++ c :: l.drop (i + 1) := by
    rw [List.set_eq_take_append_cons_drop, if_pos hi]
  intro h
  have hp : crcAll 4294967295 (l.take i) < 4294967296 := crcAll_lt _ (by omega)
  have l1 := crcAll_lt (l.set i c) (x := 4294967295) (by omega)
  have l2 := crcAll_lt l (x := 4294967295) (by omega)
  have h2 : crcAll 4294967295 (l.set i c) = crcAll 4294967295 l := by unfold sumS at h; omega
  rw [e2] at h2
  conv at h2 => rhs; rw [e1]
  rw [crcAll_append, crcAll_append] at h2
  generalize crcAll 4294967295 (l.take i) = x at *
  have c1 := UInt8.toNat_lt c
  have c2 := UInt8.toNat_lt l[i]
  have h3 := crcAll_inj (l.drop (i + 1)) (crcByte_lt hp c1) (crcByte_lt hp c2) h2
  have h4 := xor_right_inj (crcSteps_inj (xor_byte_lt hp c1) (xor_byte_lt hp c2) 8 h3)
  exact hc (UInt8.toNat_inj.1 h4)

/-- The reference's way: a byte's bits beside the sum's. -/
def refStep (x c : Nat) : Nat := if (x + c) % 2 = 1 then (x / 2) ^^^ 3988292384 else x / 2
def refSteps : Nat → Nat → Nat → Nat
  | 0, x, _ => x
  | k + 1, x, c => refStep (refSteps k x c) (c / 2 ^ k)
theorem xor_mod_two (x c : Nat) : (x ^^^ c) % 2 = (x + c) % 2 := by
  have h := Nat.xor_mod_two_pow (a := x) (b := c) (n := 1)
  simp only [Nat.pow_one] at h
  rw [h, Nat.add_mod]
  rcases Nat.mod_two_eq_zero_or_one x with h1 | h1 <;> rcases Nat.mod_two_eq_zero_or_one c with h2 | h2 <;> rw [h1, h2] <;> rfl
theorem xor_half (x c : Nat) : (x ^^^ c) / 2 = x / 2 ^^^ c / 2 := by
  apply Nat.eq_of_testBit_eq
  intro i
  simp [← Nat.testBit_succ, Nat.testBit_xor]
theorem refStep_eq (x c : Nat) : refStep x c ^^^ (c / 2) = crcStep (x ^^^ c) := by
  unfold refStep crcStep
  rw [xor_mod_two, xor_half]
  split
  · rw [Nat.xor_assoc, Nat.xor_assoc, Nat.xor_comm 3988292384]
  · rfl
theorem refSteps_eq (x c : Nat) : ∀ k, refSteps k x c ^^^ (c / 2 ^ k) = crcSteps k (x ^^^ c)
  | 0 => by simp [refSteps, crcSteps]
  | k + 1 => by
    have h := refStep_eq (refSteps k x c) (c / 2 ^ k)
    rw [refSteps_eq x c k] at h
    rw [Nat.div_div_eq_div_mul, ← Nat.pow_succ] at h
    exact h
theorem refSteps_eight {x c : Nat} (hc : c < 256) : refSteps 8 x c = crcByte x c := by
  have h := refSteps_eq x c 8
  rw [Nat.div_eq_of_lt hc] at h
  simpa [crcByte] using h
theorem refStep_lt {x c : Nat} (h : x < 4294967296) : refStep x c < 4294967296 := by
  unfold refStep
  split
  · exact Nat.xor_lt_two_pow (n := 32) (by omega) (by omega)
  · omega
theorem refSteps_lt {x c : Nat} (h : x < 4294967296) : ∀ k, refSteps k x c < 4294967296
  | 0 => h
  | k + 1 => refStep_lt (refSteps_lt h k)
end Bst
namespace Bst
set_option linter.unusedVariables false

abbrev topW : Nat := 2305843009213693952
structure Lg where
  size : Nat
  base : Nat
  slot : Nat
  used : Nat
  life : Nat
  commits : Nat
def nought (l : Sec) : Bool := l.all (· == 0)
def slotB (base size : Nat) : Sec := beL base 8 ++ (beL size 4 ++ (zeros 44 ++ beL base 8))
/-- The base and the size of a slot that is right, on a disk of n sectors. -/
def slotR (b : Sec) (n : Nat) : Option (Nat × Nat) :=
  if beV (b.take 8) = beV (b.drop 56) ∧ 1 ≤ beV (b.take 8) ∧ beV (b.take 8) ≤ topW ∧ 3 ≤ beV ((b.drop 8).take 4) ∧ beV ((b.drop 8).take 4) + 3 ≤ n ∧ nought ((b.drop 12).take 44) = true
  then some (beV (b.take 8), beV ((b.drop 8).take 4)) else none
def entryH (kind number : Nat) (data : Sec) : Sec := UInt8.ofNat kind :: (beL number 4 ++ (data ++ zeros 15))
def entryB (kind number : Nat) (data : Sec) (at_ : Nat) : Sec :=
  entryH kind number data ++ (beL (sumS (entryH kind number data ++ beL at_ 8)) 4 ++ beL at_ 8)
/-- What stands in a place, if it is right. -/
def entryR (b : Sec) (at_ : Nat) : Option (Nat × Nat × Sec) :=
  if b = entryB (b.getD 0 0).toNat (beV ((b.drop 1).take 4)) ((b.drop 5).take 32) at_ then some ((b.getD 0 0).toNat, beV ((b.drop 1).take 4), (b.drop 5).take 32) else none
def placeS (now : List Sec) (base size p : Nat) : Option (Nat × Nat × Sec) :=
  if size ≤ p then none else entryR (now.getD (2 + p) []) (base + p)
def homesS (now : List Sec) (size : Nat) : Nat := now.length - 2 - size
/-- The transaction from a place on, and the place behind it. -/
def oneS (now : List Sec) (base size : Nat) : Nat → Nat → List (Int × Sec) → Option (List (Int × Sec) × Nat)
  | 0, _, _ => none
  | f + 1, i, out =>
    match placeS now base size i with
    | none => none
    | some (k, n, dt) =>
      if k = 3 ∧ out ≠ [] ∧ n = out.length ∧ nought dt = true then some (out, i + 1)
      else if k ≠ 1 ∨ homesS now size ≤ n then none
      else match placeS now base size (i + 1) with
        | none => none
        | some (k2, n2, dt2) => if k2 = 2 ∧ n2 = n then oneS now base size f (i + 2) (out ++ [((n : Int), dt ++ dt2)]) else none
/-- All that the log says. -/
def saysS (now : List Sec) (base size : Nat) : Nat → Nat → List (Int × Sec) → List (Int × Sec)
  | 0, _, acc => acc
  | f + 1, place, acc =>
    match oneS now base size (size + 1) place [] with
    | none => acc
    | some (w, next) => saysS now base size f next (acc ++ w)
def redoS (size : Nat) : Dsk → List (Int × Sec) → Int × Dsk
  | d, [] => (0, d)
  | d, x :: ws => if (d.write (2 + size + x.1) x.2).1 ≠ 0 then d.write (2 + size + x.1) x.2 else redoS size (d.write (2 + size + x.1) x.2).2 ws
def aliveS (d : Dsk) (l : Lg) : Int := if d.off = true ∨ d.lives ≠ l.life then 30 else 0
/-- Bases raised. -/
def Lg.up (l : Lg) : Lg := { l with slot := 1 - l.slot, used := 0, base := l.base + l.size }
def raiseS (d : Dsk) (l : Lg) : Int × Dsk × Lg :=
  let a := d.write (1 - (l.slot : Int)) (slotB (l.base + l.size) l.size)
  if a.1 ≠ 0 then (a.1, a.2, l) else
  let b := a.2.flush
  if b.1 ≠ 0 then (b.1, b.2, l) else (0, b.2, l.up)
def checkS (d : Dsk) (l : Lg) : Int × Dsk × Lg :=
  if aliveS d l ≠ 0 then (aliveS d l, d, l) else
  if topW < l.base + l.size then (3, d, l) else
  if d.flush.1 ≠ 0 then (d.flush.1, d.flush.2, l) else raiseS d.flush.2 l
/-- The base, the size and the number of the better slot. -/
def bestS (now : List Sec) : Nat × Nat × Nat :=
  let a : Nat × Nat × Nat := match slotR (now.getD 0 []) now.length with | some (b, s) => (b, s, 0) | none => (0, 0, 0)
  match slotR (now.getD 1 []) now.length with | some (b, s) => if a.1 < b then (b, s, 1) else a | none => a
def openS (d : Dsk) : Int × Dsk × Option Lg :=
  if d.off = true then (30, d, none) else
  let (base, size, slot) := bestS d.now
  if base = 0 then (11, d, none) else
  if topW < base + size then (3, d, none) else
  let l : Lg := { size := size, base := base, slot := slot, used := 0, life := d.lives, commits := 0 }
  let r := redoS size d (saysS d.now base size (size + 1) 0 [])
  if r.1 ≠ 0 then (r.1, r.2, none) else
  let c := checkS r.2 l
  if c.1 ≠ 0 then (c.1, c.2.1, none) else (0, c.2.1, some c.2.2)
/-- The sectors of a transaction, from a stamp on. -/
def entriesB (w : List (Int × Sec)) : List (Nat × Nat × Sec) :=
  (w.flatMap fun x => [(1, x.1.toNat, x.2.take 32), (2, x.1.toNat, x.2.drop 32)]) ++ [(3, w.length, zeros 32)]
def layS (base : Nat) : Dsk → Nat → List (Nat × Nat × Sec) → Int × Dsk
  | d, _, [] => (0, d)
  | d, p, x :: xs =>
    let a := d.write (2 + (p : Int)) (entryB x.1 x.2.1 x.2.2 (base + p))
    if a.1 ≠ 0 then a else layS base a.2 (p + 1) xs
def mayW (d : Dsk) (l : Lg) (x : Int × Sec) : Bool := decide (0 ≤ x.1 ∧ x.1 < (homesS d.now l.size : Int) ∧ x.2.length = 64)
/-- Behind the room that was made. -/
def commitT (d : Dsk) (l : Lg) (w : List (Int × Sec)) : Int × Dsk × Lg :=
  let a := layS l.base d l.used (entriesB w)
  if a.1 ≠ 0 then (a.1, a.2, l) else
  let b := a.2.flush
  if b.1 ≠ 0 then (b.1, b.2, l) else
  let l2 : Lg := { l with used := l.used + (2 * w.length + 1), commits := l.commits + 1 }
  let c := redoS l.size b.2 w
  (c.1, c.2, l2)
def commitS (d : Dsk) (l : Lg) (w : List (Int × Sec)) : Int × Dsk × Lg :=
  if aliveS d l ≠ 0 then (aliveS d l, d, l) else
  if w.all (mayW d l) = false then (2, d, l) else
  if l.size < 2 * w.length + 1 then (3, d, l) else
  if w = [] then (0, d, l) else
  if l.size < l.used + (2 * w.length + 1) then
    let c := checkS d l
    if c.1 ≠ 0 then c else commitT c.2.1 c.2.2 w
  else commitT d l w
def readS (d : Dsk) (l : Lg) (home : Int) : Sec × Int :=
  if aliveS d l ≠ 0 then ([], aliveS d l) else
  if home < 0 ∨ (homesS d.now l.size : Int) ≤ home then ([], 31) else d.read (2 + l.size + home)
/-- A log made. -/
def blankS : Dsk → Nat → Nat → Int × Dsk
  | d, _, 0 => (0, d)
  | d, n, k + 1 => if (d.write (n : Int) (zeros 64)).1 ≠ 0 then d.write (n : Int) (zeros 64) else blankS (d.write (n : Int) (zeros 64)).2 (n + 1) k
def formatS (d : Dsk) (size : Int) : Int × Dsk :=
  if size < 3 ∨ (d.now.length : Int) < size + 3 then (2, d) else
  let a := blankS d 1 (1 + size.toNat)
  if a.1 ≠ 0 then a else
  let b := a.2.flush
  if b.1 ≠ 0 then b else
  let c := b.2.write 0 (slotB 1 size.toNat)
  if c.1 ≠ 0 then c else c.2.flush
end Bst
namespace Bst
set_option linter.unusedVariables false

theorem entryH_length {k n : Nat} {d : Sec} (hd : d.length = 32) : (entryH k n d).length = 52 := by
  simp [entryH, beL_length, zeros, hd]
theorem entryB_length {k n a : Nat} {d : Sec} (hd : d.length = 32) : (entryB k n d a).length = 64 := by
  simp [entryB, entryH_length hd, beL_length]
theorem entryB_stamp {k n a : Nat} {d : Sec} (hd : d.length = 32) : (entryB k n d a).drop 56 = beL a 8 := by
  unfold entryB
  rw [← List.append_assoc]
  rw [List.drop_left' (by rw [List.length_append, entryH_length hd, beL_length])]
theorem entryB_head {k n a : Nat} {d : Sec} (hd : d.length = 32) : (entryB k n d a).take 52 = entryH k n d := by
  unfold entryB
  rw [List.take_left' (entryH_length hd)]
theorem entryB_sum {k n a : Nat} {d : Sec} (hd : d.length = 32) : ((entryB k n d a).drop 52).take 4 = beL (sumS (entryH k n d ++ beL a 8)) 4 := by
  unfold entryB
  rw [List.drop_left' (entryH_length hd), List.take_left' (beL_length _ _)]
theorem entryB_kind {k n a : Nat} {d : Sec} : (entryB k n d a).getD 0 0 = UInt8.ofNat k := rfl
theorem entryB_num {k n a : Nat} {d : Sec} : ((entryB k n d a).drop 1).take 4 = beL n 4 := by
  have e : (entryB k n d a).drop 1 = beL n 4 ++ ((d ++ zeros 15) ++ (beL (sumS (entryH k n d ++ beL a 8)) 4 ++ beL a 8)) := by
    simp [entryB, entryH]
  rw [e, List.take_left' (beL_length _ _)]
theorem entryB_data {k n a : Nat} {d : Sec} (hd : d.length = 32) : ((entryB k n d a).drop 5).take 32 = d := by
  have e : (entryB k n d a).drop 5 = d ++ (zeros 15 ++ (beL (sumS (entryH k n d ++ beL a 8)) 4 ++ beL a 8)) := by
    have e2 : entryB k n d a = (UInt8.ofNat k :: beL n 4) ++ (d ++ (zeros 15 ++ (beL (sumS (entryH k n d ++ beL a 8)) 4 ++ beL a 8))) := by
      simp [entryB, entryH]
    rw [e2, List.drop_left' (by simp [beL_length])]
  rw [e, List.take_left' hd]
/-- What was laid is right. -/
theorem entryR_laid {k n a : Nat} {d : Sec} (hk : k < 256) (hn : n < 4294967296) (hd : d.length = 32) : entryR (entryB k n d a) a = some (k, n, d) := by
  have e1 : ((entryB k n d a).getD 0 0).toNat = k := by rw [entryB_kind]; simp [UInt8.toNat_ofNat']; omega
  have e2 : beV (((entryB k n d a).drop 1).take 4) = n := by rw [entryB_num, beV_beL 4 n (by simpa using hn)]
  unfold entryR
  rw [e1, e2, entryB_data hd, if_pos rfl]
/-- Another stamp. -/
theorem entryR_stale {b : Sec} {a : Nat} (hb : b.length = 64) (h : b.drop 56 ≠ beL a 8) : entryR b a = none := by
  unfold entryR
  rw [if_neg]
  intro e
  apply h
  have hd : ((b.drop 5).take 32).length = 32 := by rw [List.length_take, List.length_drop, hb]; rfl
  have := congrArg (fun l => List.drop 56 l) e
  simp only [entryB_stamp hd] at this
  exact this
/-- One byte turned. -/
theorem entryR_turned {k n a : Nat} {d : Sec} (hd : d.length = 32) {j : Nat} (hj : j < 64) {c : UInt8} (hc : c ≠ (entryB k n d a).getD j 0) : entryR ((entryB k n d a).set j c) a = none := by
  have hl := entryB_length (k := k) (n := n) (a := a) hd
  generalize hb : entryB k n d a = b at *
  replace hc : c ≠ b[j]'(by rw [hl]; exact hj) := by
    rw [List.getD_eq_getElem?_getD, List.getElem?_eq_getElem (by rw [hl]; exact hj)] at hc
    exact hc
  unfold entryR
  rw [if_neg]
  intro e
  generalize hk' : ((b.set j c).getD 0 0).toNat = k' at e
  generalize hn' : beV (((b.set j c).drop 1).take 4) = n' at e
  have hd' : (((b.set j c).drop 5).take 32).length = 32 := by rw [List.length_take, List.length_drop, List.length_set, hl]; rfl
  generalize ((b.set j c).drop 5).take 32 = d' at *
  -- the head and the sum of both
  have h52 : (b.set j c).take 52 = entryH k' n' d' := by rw [e, entryB_head hd']
  have hs : ((b.set j c).drop 52).take 4 = beL (sumS (entryH k' n' d' ++ beL a 8)) 4 := by rw [e, entryB_sum hd']
  have ht : (b.set j c).drop 56 = beL a 8 := by rw [e, entryB_stamp hd']
  have g52 : b.take 52 = entryH k n d := by rw [← hb, entryB_head hd]
  have gs : (b.drop 52).take 4 = beL (sumS (entryH k n d ++ beL a 8)) 4 := by rw [← hb, entryB_sum hd]
  have gt : b.drop 56 = beL a 8 := by rw [← hb, entryB_stamp hd]
  have hget : (b.set j c)[j]? = some c := by rw [List.getElem?_set, if_pos rfl, if_pos (by rw [hl]; exact hj)]
  have hbj : b[j]? = some (b[j]'(by rw [hl]; exact hj)) := List.getElem?_eq_getElem _
  by_cases h1 : j < 52
  · -- in the head: the sum is another one
    have e1 : entryH k' n' d' ++ beL a 8 = (entryH k n d ++ beL a 8).set j c := by
      rw [← h52, ← g52, List.set_append, if_pos (by rw [List.length_take]; omega), List.take_set]
    have hjl : j < (entryH k n d ++ beL a 8).length := by rw [List.length_append, entryH_length hd]; omega
    have e2 : (entryH k n d ++ beL a 8)[j] = b[j]'(by rw [hl]; exact hj) := by
      have : (entryH k n d ++ beL a 8)[j]? = b[j]? := by
        rw [← g52, List.getElem?_append_left (by rw [List.length_take]; omega), List.getElem?_take, if_pos h1]
      rw [List.getElem?_eq_getElem hjl, hbj] at this
      exact Option.some.inj this
    have hne := sumS_set hjl (c := c) (by rw [e2]; exact hc)
    rw [← e1] at hne
    apply hne
    have e3 : ((b.set j c).drop 52).take 4 = (b.drop 52).take 4 := by
      apply List.ext_getElem?
      intro i
      simp only [List.getElem?_take, List.getElem?_drop, List.getElem?_set]
      rw [if_neg (by omega : ¬ j = 52 + i)]
    rw [hs, gs] at e3
    have l1 := sumS_lt (entryH k' n' d' ++ beL a 8)
    have l2 := sumS_lt (entryH k n d ++ beL a 8)
    have := congrArg beV e3
    rwa [beV_beL 4 _ (by simpa using l1), beV_beL 4 _ (by simpa using l2)] at this
  · -- behind it: the head is as it was, so all is
    have e1 : entryH k' n' d' = entryH k n d := by
      rw [← h52, ← g52, List.take_set]
      rw [List.set_eq_of_length_le (by rw [List.length_take]; omega)]
    have e2 : b.set j c = b := by
      rw [e]
      rw [← hb]
      unfold entryB
      rw [e1]
    rw [e2, hbj] at hget
    exact hc (Option.some.inj hget).symm

/-- Places in which a transaction's entries stand. -/
def LaidE (now : List Sec) (base p : Nat) (xs : List (Nat × Nat × Sec)) : Prop := ∀ i x, xs[i]? = some x → now.getD (2 + (p + i)) [] = entryB x.1 x.2.1 x.2.2 (base + (p + i))
structure MayE (homes : Nat) (w : List (Int × Sec)) : Prop where
  home : ∀ x ∈ w, 0 ≤ x.1 ∧ x.1 < homes
  data : ∀ x ∈ w, x.2.length = 64
abbrev pairE (x : Int × Sec) : List (Nat × Nat × Sec) := [(1, x.1.toNat, x.2.take 32), (2, x.1.toNat, x.2.drop 32)]
theorem flat_pair_length (w : List (Int × Sec)) : (w.flatMap pairE).length = 2 * w.length := by
  induction w with
  | nil => rfl
  | cons x w ih => rw [List.flatMap_cons, List.length_append, ih, List.length_cons]; simp; omega
theorem entriesB_length (w : List (Int × Sec)) : (entriesB w).length = 2 * w.length + 1 := by
  rw [entriesB, List.length_append]
  rw [show (w.flatMap fun x => [(1, x.1.toNat, x.2.take 32), (2, x.1.toNat, x.2.drop 32)]) = w.flatMap pairE from rfl, flat_pair_length]
  rfl
theorem entriesB_pair {w : List (Int × Sec)} {i : Nat} (hi : i < w.length) : (entriesB w)[2 * i]? = some (1, w[i].1.toNat, w[i].2.take 32) ∧ (entriesB w)[2 * i + 1]? = some (2, w[i].1.toNat, w[i].2.drop 32) := by
  have key : ∀ (w : List (Int × Sec)) (i : Nat) (hi : i < w.length) (tl : List (Nat × Nat × Sec)), (w.flatMap pairE ++ tl)[2 * i]? = some (1, w[i].1.toNat, w[i].2.take 32) ∧ (w.flatMap pairE ++ tl)[2 * i + 1]? = some (2, w[i].1.toNat, w[i].2.drop 32) := by
    intro w
    induction w with
    | nil => intro i hi; exact absurd hi (Nat.not_lt_zero _)
    | cons x w ih =>
      intro i hi tl
      cases i with
      | zero => simp [List.flatMap_cons]
      | succ i =>
        obtain ⟨h1, h2⟩ := ih i (by simpa using hi) tl
        rw [List.flatMap_cons, List.append_assoc, show 2 * (i + 1) = (2 * i + 1) + 1 by omega, show (2 * i + 1) + 1 + 1 = (2 * i + 1 + 1) + 1 by omega]
        simp only [pairE, List.cons_append, List.nil_append, List.getElem?_cons_succ, List.getElem_cons_succ]
        exact ⟨h1, h2⟩
  exact key w i hi _
theorem entriesB_last (w : List (Int × Sec)) : (entriesB w)[2 * w.length]? = some (3, w.length, zeros 32) := by
  unfold entriesB
  rw [show (w.flatMap fun x => [(1, x.1.toNat, x.2.take 32), (2, x.1.toNat, x.2.drop 32)]) = w.flatMap pairE from rfl]
  rw [List.getElem?_append_right (by rw [flat_pair_length]; exact Nat.le_refl _), flat_pair_length, Nat.sub_self]
  rfl
theorem placeS_laid {now : List Sec} {base size p : Nat} {x : Nat × Nat × Sec} (hp : p < size) (h : now.getD (2 + p) [] = entryB x.1 x.2.1 x.2.2 (base + p)) (h1 : x.1 < 256) (h2 : x.2.1 < 4294967296) (h3 : x.2.2.length = 32) : placeS now base size p = some x := by
  unfold placeS
  rw [if_neg (by omega), h, entryR_laid h1 h2 h3]
theorem nought_zeros (n : Nat) : nought (zeros n) = true := by simp [nought, zeros]
/-- A transaction that was laid is read. -/
theorem oneS_laid {now : List Sec} {base size p : Nat} {w : List (Int × Sec)} (hw : MayE (homesS now size) w) (hl : LaidE now base p (entriesB w)) (hp : p + (2 * w.length + 1) ≤ size) (hne : w ≠ []) (hh : homesS now size < 4294967296) (hwl : w.length < 4294967296) :
    ∀ (m f : Nat), m ≤ w.length → w.length - m < f → oneS now base size f (p + 2 * m) (w.take m) = some (w, p + (2 * w.length + 1)) := by
  intro m f hm hf
  induction hk : w.length - m generalizing m f with
  | zero =>
    obtain rfl : m = w.length := by omega
    cases f with
    | zero => omega
    | succ f =>
      have hpl := placeS_laid (size := size) (p := p + 2 * w.length) (by omega) (hl _ _ (entriesB_last w)) (by show 3 < 256; decide) (by exact hwl) (by exact zeros_length 32)
      rw [oneS, hpl]
      simp only [List.take_length, nought_zeros, and_true]
      rw [if_pos ⟨trivial, hne⟩]
      rfl
  | succ q ih =>
    have hml : m < w.length := by omega
    cases f with
    | zero => omega
    | succ f =>
      obtain ⟨e1, e2⟩ := entriesB_pair hml
      have hx := hw.home _ (List.getElem_mem hml)
      have hd := hw.data _ (List.getElem_mem hml)
      have p1 := placeS_laid (size := size) (p := p + 2 * m) (by omega) (hl _ _ e1) (by show 1 < 256; decide) (by show w[m].1.toNat < _; omega) (by show (w[m].2.take 32).length = 32; rw [List.length_take, hd]; rfl)
      have p2 := placeS_laid (size := size) (p := p + (2 * m + 1)) (by omega) (hl _ _ e2) (by show 2 < 256; decide) (by show w[m].1.toNat < _; omega) (by show (w[m].2.drop 32).length = 32; rw [List.length_drop, hd])
      rw [oneS, p1]
      simp only
      rw [if_neg (by simp), if_neg (by omega), Nat.add_assoc p, p2]
      simp only [true_and, if_true]
      have e3 : w.take m ++ [(((w[m].1.toNat : Nat) : Int), w[m].2.take 32 ++ w[m].2.drop 32)] = w.take (m + 1) := by
        rw [List.take_append_drop, Int.toNat_of_nonneg hx.1, List.take_succ_eq_append_getElem hml]
      rw [e3, show p + 2 * m + 2 = p + 2 * (m + 1) by omega]
      exact ih (m + 1) f (by omega) (by omega) (by omega)
end Bst
namespace Bst
set_option linter.unusedVariables false
def padS (d : Sec) : Sec := d ++ zeros (32 - d.length)
theorem padS_length {d : Sec} (h : d.length ≤ 32) : (padS d).length = 32 := by simp [padS, zeros]; omega
theorem padS_full {d : Sec} (h : d.length = 32) : padS d = d := by simp [padS, zeros, h]
theorem zeros_add (a b : Nat) : zeros (a + b) = zeros a ++ zeros b := by simp [zeros, List.replicate_append_replicate]
def st1 (k : Nat) : Sec := UInt8.ofNat k :: zeros 63
def st2 (k n : Nat) : Sec := UInt8.ofNat k :: (beL n 4 ++ zeros 59)
def st3 (k n : Nat) (dt : Sec) : Sec := UInt8.ofNat k :: (beL n 4 ++ (dt ++ zeros 27))
def st4 (k n : Nat) (dt : Sec) (a : Nat) : Sec := entryH k n dt ++ (zeros 4 ++ beL a 8)
theorem st1_of (k : Nat) : (zeros 64).set 0 (UInt8.ofNat k) = st1 k := rfl
theorem putAt_mid {α : Type} (x y z s : List α) (h : s.length = y.length) : putAt (x ++ (y ++ z)) x.length s = x ++ (s ++ z) := by
  unfold putAt
  rw [List.take_left, h, ← List.append_assoc x y, ← List.length_append, List.drop_left]
  simp
theorem st2_of (k n : Nat) : putAt (st1 k) 1 (beL n 4) = st2 k n := by
  have := putAt_mid [UInt8.ofNat k] (zeros 4) (zeros 59) (beL n 4) (by rw [beL_length, zeros_length])
  rw [← zeros_add] at this
  exact this
theorem st3_of (k n : Nat) {d : Sec} (h : d.length ≤ 32) : putAt (st2 k n) 5 d = st3 k n (padS d) := by
  have := putAt_mid (UInt8.ofNat k :: beL n 4) (zeros d.length) (zeros (59 - d.length)) d (by rw [zeros_length])
  rw [← zeros_add, show d.length + (59 - d.length) = 59 by omega] at this
  have hl : (UInt8.ofNat k :: beL n 4).length = 5 := by rw [List.length_cons, beL_length]
  rw [hl] at this
  have e1 : st2 k n = UInt8.ofNat k :: beL n 4 ++ zeros 59 := rfl
  rw [e1, this]
  unfold st3 padS
  rw [show 59 - d.length = (32 - d.length) + 27 by omega, zeros_add]
  simp
theorem st4_of (k n a : Nat) {dt : Sec} (h : dt.length = 32) : putAt (st3 k n dt) 56 (beL a 8) = st4 k n dt a := by
  have e1 : st3 k n dt = (entryH k n dt ++ zeros 4) ++ (zeros 8 ++ []) := by
    unfold st3 entryH
    rw [show (27 : Nat) = 15 + (4 + 8) from rfl, zeros_add 15, zeros_add 4]
    simp
  have hl : (entryH k n dt ++ zeros 4).length = 56 := by rw [List.length_append, entryH_length h, zeros_length]
  have := putAt_mid (entryH k n dt ++ zeros 4) (zeros 8) [] (beL a 8) (by rw [beL_length, zeros_length])
  rw [hl] at this
  rw [e1, this]
  unfold st4
  simp
theorem st5_of (k n a : Nat) {dt : Sec} (h : dt.length = 32) : putAt (st4 k n dt a) 52 (beL (sumS (entryH k n dt ++ beL a 8)) 4) = entryB k n dt a := by
  have := putAt_mid (entryH k n dt) (zeros 4) (beL a 8) (beL (sumS (entryH k n dt ++ beL a 8)) 4) (by rw [beL_length, zeros_length])
  rw [entryH_length h] at this
  exact this
theorem st4_head (k n a : Nat) {dt : Sec} (h : dt.length = 32) : ((st4 k n dt a).drop 0).take 52 = entryH k n dt := by
  rw [List.drop_zero, st4, List.take_left' (entryH_length h)]
theorem st4_stamp (k n a : Nat) {dt : Sec} (h : dt.length = 32) : ((st4 k n dt a).drop 56).take 8 = beL a 8 := by
  rw [st4, ← List.append_assoc, List.drop_left' (by rw [List.length_append, entryH_length h, zeros_length]), List.take_of_length_le (by rw [beL_length]; omega)]
theorem st1_length (k : Nat) : (st1 k).length = 64 := rfl
theorem st2_length (k n : Nat) : (st2 k n).length = 64 := by simp [st2, beL_length, zeros]
theorem st3_length (k n : Nat) {dt : Sec} (h : dt.length = 32) : (st3 k n dt).length = 64 := by simp [st3, beL_length, zeros, h]
theorem st4_length (k n a : Nat) {dt : Sec} (h : dt.length = 32) : (st4 k n dt a).length = 64 := by simp [st4, entryH_length h, beL_length, zeros]
end Bst
namespace Bst
set_option linter.unusedVariables false
theorem oneS_spec {now : List Sec} {base size : Nat} : ∀ (f i : Nat) (out : List (Int × Sec)) (w : List (Int × Sec)) (nx : Nat), (∀ x ∈ out, 0 ≤ x.1 ∧ x.1 < homesS now size) → oneS now base size f i out = some (w, nx) →
    i < nx ∧ nx ≤ size ∧ 2 * w.length + 1 + i = nx + 2 * out.length ∧ w ≠ [] ∧ ∀ x ∈ w, 0 ≤ x.1 ∧ x.1 < homesS now size
  | 0, i, out, w, nx, _, h => by cases h
  | f + 1, i, out, w, nx, ho, h => by
    rw [oneS] at h
    cases hp : placeS now base size i with
    | none => rw [hp] at h; cases h
    | some x =>
      obtain ⟨k, n, dt⟩ := x
      rw [hp] at h
      simp only at h
      have hi : i < size := by
        by_cases hlt : i < size
        · exact hlt
        · unfold placeS at hp; rw [if_pos (by omega)] at hp; cases hp
      by_cases h1 : k = 3 ∧ out ≠ [] ∧ n = out.length ∧ nought dt = true
      · rw [if_pos h1] at h
        injection h with h
        injection h with e1 e2
        subst e1; subst e2
        exact ⟨by omega, by omega, by omega, h1.2.1, ho⟩
      · rw [if_neg h1] at h
        by_cases h2 : k ≠ 1 ∨ homesS now size ≤ n
        · rw [if_pos h2] at h; cases h
        · rw [if_neg h2] at h
          cases hq : placeS now base size (i + 1) with
          | none => rw [hq] at h; cases h
          | some y =>
            obtain ⟨k2, n2, dt2⟩ := y
            rw [hq] at h
            simp only at h
            split at h
            · obtain ⟨g1, g2, g3, g4, g5⟩ := oneS_spec f (i + 2) _ w nx (fun x hx => by
                rcases List.mem_append.1 hx with h3 | h3
                · exact ho x h3
                · rw [List.mem_singleton.1 h3]; show 0 ≤ (n : Int) ∧ (n : Int) < _; omega) h
              refine ⟨by omega, g2, ?_, g4, g5⟩
              rw [List.length_append] at g3
              simp at g3
              omega
            · cases h
theorem saysS_spec {now : List Sec} {base size : Nat} : ∀ (f p : Nat) (acc : List (Int × Sec)), 2 * acc.length ≤ p → p ≤ size → (∀ x ∈ acc, 0 ≤ x.1 ∧ x.1 < homesS now size) →
    2 * (saysS now base size f p acc).length ≤ size ∧ ∀ x ∈ saysS now base size f p acc, 0 ≤ x.1 ∧ x.1 < homesS now size
  | 0, p, acc, h1, h2, h3 => ⟨by rw [saysS]; omega, by rw [saysS]; exact h3⟩
  | f + 1, p, acc, h1, h2, h3 => by
    rw [saysS]
    cases hp : oneS now base size (size + 1) p [] with
    | none => exact ⟨by simp only; omega, h3⟩
    | some x =>
      obtain ⟨w, nx⟩ := x
      obtain ⟨g1, g2, g3, g4, g5⟩ := oneS_spec _ _ _ _ _ (fun x hx => by cases hx) hp
      refine saysS_spec f nx (acc ++ w) ?_ g2 (fun x hx => ?_)
      · rw [List.length_append]; simp at g3; omega
      · rcases List.mem_append.1 hx with h4 | h4
        · exact h3 x h4
        · exact g5 x h4
end Bst
