/- What is held of a space's sectors, plainly: taken, lowest first, each once; given back. -/
import Derived.Test.YtbbhbgccmekheaaDoorSpaceP
namespace Bst
set_option linter.unusedVariables false

/-- Just these sectors are taken, each named once. -/
structure Once (T : List Bool) (L : List Int) : Prop where
  nodup : L.Nodup
  range : ∀ x ∈ L, 0 ≤ x ∧ x < T.length
  iff : ∀ k, k < T.length → (T.getD k false = true ↔ (k : Int) ∈ L)

theorem Once.perm {T : List Bool} {L M : List Int} (h : Once T L) (p : L.Perm M) : Once T M :=
  ⟨p.nodup_iff.1 h.nodup, fun x hx => h.range x (p.mem_iff.2 hx), fun k hk => (h.iff k hk).trans p.mem_iff⟩
theorem Once.start (n : Nat) : Once (List.replicate n false) [] :=
  ⟨List.nodup_nil, fun _ h => (by cases h), fun k hk => by
    rw [List.length_replicate] at hk
    simp [List.getD_eq_getElem?_getD, hk]⟩
theorem Once.cons_flip {T : List Bool} {L : List Int} {n : Nat} (h : Once T L) (hn : n < T.length) (hf : T.getD n false = false) : Once (flip T n) ((n : Int) :: L) := by
  have hnL : (n : Int) ∉ L := fun e => by rw [← h.iff n hn, hf] at e; cases e
  refine ⟨List.nodup_cons.2 ⟨hnL, h.nodup⟩, fun x hx => ?_, fun k hk => ?_⟩
  · rw [flip_length]
    rcases List.mem_cons.1 hx with rfl | hx
    · omega
    · exact h.range x hx
  · rw [flip_length] at hk
    rw [flip_getD T n k hn]
    by_cases e : n = k
    · subst e; rw [if_pos rfl, hf]; simp
    · rw [if_neg e, h.iff k hk, List.mem_cons]
      constructor
      · exact .inr
      · rintro (e2 | e2)
        · omega
        · exact e2
theorem Once.flip_cons {T : List Bool} {L : List Int} {x : Int} (h : Once T (x :: L)) : Once (flip T x.toNat) L := by
  have hx := h.range x (by simp)
  obtain ⟨n, rfl⟩ := Int.eq_ofNat_of_zero_le hx.1
  have hn : n < T.length := by omega
  rw [Int.toNat_natCast]
  have hnd := List.nodup_cons.1 h.nodup
  refine ⟨hnd.2, fun y hy => by rw [flip_length]; exact h.range y (by simp [hy]), fun k hk => ?_⟩
  rw [flip_length] at hk
  rw [flip_getD T n k hn]
  by_cases e : n = k
  · subst e
    have : T.getD n false = true := (h.iff n hn).2 (by simp)
    rw [if_pos rfl, this]
    simp [hnd.1]
  · rw [if_neg e, h.iff k hk, List.mem_cons]
    constructor
    · rintro (e2 | e2)
      · omega
      · exact e2
    · exact .inr
theorem Once.free {T : List Bool} : ∀ {L : List Int}, Once T L → freeN T + L.length = T.length := by
  intro L
  induction L generalizing T with
  | nil =>
    intro h
    have e : T = List.replicate T.length false := by
      apply List.ext_getElem
      · simp
      · intro k h1 h2
        have := h.iff k h1
        simp only [List.getD_eq_getElem?_getD, List.getElem?_eq_getElem h1, Option.getD_some, List.not_mem_nil, iff_false, Bool.not_eq_true] at this
        rw [this]; simp
    rw [List.length_nil, Nat.add_zero]
    rw [e, freeN_replicate, List.length_replicate]
  | cons x L ih =>
    intro h
    have h2 := ih h.flip_cons
    have hx := h.range x (by simp)
    obtain ⟨n, rfl⟩ := Int.eq_ofNat_of_zero_le hx.1
    have hn : n < T.length := by omega
    rw [Int.toNat_natCast, flip_length] at h2
    have h3 := freeN_flip T n hn
    rw [(h.iff n hn).2 (by simp)] at h3
    simp at h3
    simp only [List.length_cons]
    omega
/-- What is taken: new, each once, the lowest. -/
theorem Once.take : ∀ {k : Nat} {T : List Bool} {L : List Int}, Once T L → k ≤ freeN T → Once (takeS T k).2 (L ++ (takeS T k).1) ∧
    (∀ j, (hj : j < (takeS T k).1.length) → ∀ y : Int, 0 ≤ y → y < (takeS T k).1[j] → y ∈ L ++ (takeS T k).1.take j) := by
  intro k
  induction k with
  | zero => intro T L h _; exact ⟨by simpa [takeS] using h, fun j hj => by simp [takeS] at hj⟩
  | succ k ih =>
    intro T L h hk
    have hpos : 0 < freeN T := by omega
    have hn := firstFree_lt hpos
    have hf := getD_firstFree hn
    have hlow : ∀ y, y < firstFree T → T.getD y false = true := fun y hy => by
      have := List.not_of_lt_findIdx (p := fun b => !b) (xs := T) hy
      simp only [Bool.not_eq_false'] at this
      rw [List.getD_eq_getElem?_getD, List.getElem?_eq_getElem (by omega), Option.getD_some]
      simpa using this
    have h1 := h.cons_flip hn hf
    have h2 := freeN_flip_first hpos
    have e : takeS T (k + 1) = ((firstFree T : Int) :: (takeS (flip T (firstFree T)) k).1, (takeS (flip T (firstFree T)) k).2) := rfl
    obtain ⟨i1, i2⟩ := ih (L := L ++ [(firstFree T : Int)]) (h1.perm (List.perm_append_singleton _ _).symm) (by omega)
    rw [e]
    refine ⟨by simpa using i1, fun j hj y hy0 hy => ?_⟩
    cases j with
    | zero =>
      simp only [List.getElem_cons_zero] at hy
      obtain ⟨m, rfl⟩ := Int.eq_ofNat_of_zero_le hy0
      have : (m : Int) ∈ L := (h.iff m (by omega)).1 (hlow m (by omega))
      simp [this]
    | succ j =>
      simp only [List.length_cons] at hj
      simp only [List.getElem_cons_succ] at hy
      have := i2 j (by omega) y hy0 hy
      simpa using this
theorem Once.turnOk {T : List Bool} {a M : List Int} (h : Once T (a ++ M)) : TurnOk T a true := by
  refine ⟨fun x hx => ?_, (List.nodup_append.1 h.nodup).1⟩
  have hr := h.range x (by simp [hx])
  refine ⟨hr.1, hr.2, (h.iff x.toNat (by omega)).2 ?_⟩
  rw [Int.toNat_of_nonneg hr.1]
  simp [hx]
theorem Once.give {M : List Int} : ∀ {a : List Int} {T : List Bool}, Once T (a ++ M) → Once (flips T a) M
  | [], _, h => h
  | x :: a, T, h => by
    have : flips T (x :: a) = flips (flip T x.toNat) a := rfl
    rw [this]
    exact Once.give h.flip_cons
theorem Once.again {T : List Bool} {a M : List Int} (h : Once T (a ++ M)) (ha : a ≠ []) : ¬ TurnOk (flips T a) a true := by
  intro ht
  cases a with
  | nil => exact ha rfl
  | cons x a =>
    have h2 := h.give
    obtain ⟨h0, h1, h3⟩ := ht.1 x (by simp)
    have h4 := (h2.iff x.toNat (by omega)).1 h3
    rw [Int.toNat_of_nonneg h0] at h4
    have hd := List.nodup_append.1 h.nodup
    exact hd.2.2 x (by simp) x h4 rfl
theorem Once.none {T : List Bool} (h : Once T []) : freeN T = T.length ∧ topS T = -1 := by
  refine ⟨by simpa using h.free, topUpto_none _ (fun j hj => ?_)⟩
  have := h.iff j hj
  simpa using this
theorem flatten_set {tk : List (List Int)} : ∀ {i : Nat} (hi : i < tk.length), tk.flatten.Perm (tk[i] ++ (tk.set i []).flatten) := by
  induction tk with
  | nil => intro i hi; exact absurd hi (Nat.not_lt_zero _)
  | cons a tk ih =>
    intro i hi
    cases i with
    | zero => simp
    | succ i =>
      simp only [List.flatten_cons, List.getElem_cons_succ, List.set_cons_succ]
      have := ih (i := i) (by simpa using hi)
      refine (List.Perm.append_left a this).trans ?_
      rw [← List.append_assoc, ← List.append_assoc]
      exact List.Perm.append_right _ List.perm_append_comm
end Bst
