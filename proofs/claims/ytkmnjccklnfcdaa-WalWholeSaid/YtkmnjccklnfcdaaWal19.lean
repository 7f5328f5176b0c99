/- A log: Commit. -/
import Derived.Test.YtkmnjccklnfcdaaWalE
import Derived.Test.YtkmnjccklnfcdaaWalF
namespace Bst
theorem layS_wait (base : Nat) : ∀ (xs : List (Nat × Nat × Sec)) (d : Dsk) (p : Nat), (layS base d p xs).2.wait.length ≤ d.wait.length + xs.length
  | [], d, p => Nat.le_refl _
  | x :: xs, d, p => by
    have h1 := write_wait d (2 + (p : Int)) (entryB x.1 x.2.1 x.2.2 (base + p))
    rw [layS]
    split
    · rw [List.length_cons]; omega
    · have := layS_wait base xs (d.write (2 + (p : Int)) (entryB x.1 x.2.1 x.2.2 (base + p))).2 (p + 1)
      rw [List.length_cons]; omega
theorem layS_now (base : Nat) : ∀ (xs : List (Nat × Nat × Sec)) (d : Dsk) (p : Nat), (layS base d p xs).2.now.length = d.now.length
  | [], d, p => rfl
  | x :: xs, d, p => by
    have h1 := write_now d (2 + (p : Int)) (entryB x.1 x.2.1 x.2.2 (base + p))
    rw [layS]
    split
    · exact h1
    · rw [layS_now base xs, h1]
theorem check_size (d : Dsk) (l : Lg) : (checkS d l).2.2.size = l.size ∧ (checkS d l).2.2.commits = l.commits := by
  unfold checkS raiseS
  split
  · exact ⟨rfl, rfl⟩
  · split
    · exact ⟨rfl, rfl⟩
    · split
      · exact ⟨rfl, rfl⟩
      · simp only
        split
        · exact ⟨rfl, rfl⟩
        · split <;> exact ⟨rfl, rfl⟩
theorem check_up {d : Dsk} {l : Lg} (h : (checkS d l).1 = 0) : (checkS d l).2.2 = l.up := by
  unfold checkS at h ⊢
  split
  · rename_i h1; rw [if_pos h1] at h; exact absurd h h1
  · rename_i h1
    rw [if_neg h1] at h
    split
    · rename_i h2; rw [if_pos h2] at h; cases h
    · rename_i h2
      rw [if_neg h2] at h
      split
      · rename_i h3; rw [if_pos h3] at h; exact absurd h h3
      · rename_i h3
        rw [if_neg h3] at h
        unfold raiseS at h ⊢
        simp only at h ⊢
        split
        · rename_i h4; rw [if_pos h4] at h; exact absurd h h4
        · rename_i h4
          rw [if_neg h4] at h
          split
          · rename_i h5; rw [if_pos h5] at h; exact absurd h h5
          · rfl
theorem check_wait (d : Dsk) (l : Lg) : (checkS d l).2.1.wait.length ≤ d.wait.length + 1 := by
  have h1 := flush_wait d
  unfold checkS
  split
  · simp only; omega
  · split
    · simp only; omega
    · split
      · simp only; omega
      · unfold raiseS
        simp only
        have h2 := write_wait d.flush.2 (1 - (l.slot : Int)) (slotB (l.base + l.size) l.size)
        have h3 := flush_wait (d.flush.2.write (1 - (l.slot : Int)) (slotB (l.base + l.size) l.size)).2
        split
        · simp only; omega
        · split <;> simp only <;> omega
end Bst
namespace Go.Proofs.Ytkmnjccklnfcdaa
open Go Go.RowKit Bst
set_option linter.unusedVariables false
set_option linter.unusedSimpArgs false
theorem en_at {F : List Nat} {w : World} {A : Option Addr} {c : Nat} {l : List (Nat × Nat × Sec)} (h : Sl KEn F w A c l) {k : Nat} (hk : k < l.length) :
    ∃ g o A2 c2 dt, A = some ⟨g, o, none⟩ ∧ g < w.heap.size ∧ g ∉ F ∧ w.cell? ⟨g, o + k * 4, none⟩ = some (.int .i64 (l[k].1 : Int)) ∧ w.cell? ⟨g, o + k * 4 + 1, none⟩ = some (.int .i64 (l[k].2.1 : Int)) ∧ w.cell? ⟨g, o + k * 4 + 2, none⟩ = some (.slice A2 dt.length c2) ∧ w.cell? ⟨g, o + k * 4 + 3, none⟩ = some (.bool false) ∧ Sl Kd.u8 F w A2 c2 dt ∧ padS dt = l[k].2.2 ∧ dt.length ≤ 32 := by
  obtain ⟨g, o, rfl, hg, hF, hc⟩ := h.2.2 (by omega)
  obtain ⟨cs, ⟨A2, c2, dt, rfl, hs, hp, hl⟩, hcell⟩ := hc k _ (getElem?_some_of_lt hk)
  exact ⟨g, o, A2, c2, dt, rfl, hg, hF, by simpa [KEn] using hcell 0 _ rfl, by simpa [KEn, Nat.add_assoc] using hcell 1 _ rfl, by simpa [KEn, Nat.add_assoc] using hcell 2 _ rfl, by simpa [KEn, Nat.add_assoc] using hcell 3 _ rfl, hs, hp, hl⟩
/-- What 'Commit' leaves. -/
def CommitR (F : List Nat) (w : World) (lb db : Nat) (r : Int × Dsk × Lg) (e : Ending) (w' : World) : Prop :=
  e = .returned (.int .i64 r.1) ∧ ∃ F', LogOn w' F' lb db r.2.1 r.2.2 ∧ Keep (lb :: F) w (lb :: F') w' ∧ ∀ x ∈ F, x ∈ F'
theorem CommitR.of {F F' : List Nat} {w w' : World} {lb db : Nat} {r : Int × Dsk × Lg} {n : Int} {d : Dsk} {l : Lg} {e : Ending} (hr : r = (n, d, l)) (he : e = .returned (.int .i64 n)) (hl : LogOn w' F' lb db d l) (hk : Keep (lb :: F) w (lb :: F') w') (hf : ∀ x ∈ F, x ∈ F') : CommitR F w lb db r e w' := by
  subst hr; exact ⟨he, F', hl, hk, hf⟩
theorem entriesB_small {ws : List (Int × Sec)} (h : ∀ x ∈ ws, x.1 ≤ 16384) (h0 : ∀ x ∈ ws, 0 ≤ x.1) (hl : ws.length ≤ 16384) : ∀ y ∈ entriesB ws, y.1 < 256 ∧ y.2.1 < 4294967296 := by
  intro y hy
  unfold entriesB at hy
  rcases List.mem_append.1 hy with h1 | h1
  · obtain ⟨x, hx, h2⟩ := List.mem_flatMap.1 h1
    have := h x hx
    simp at h2
    rcases h2 with rfl | rfl
    · simp only; omega
    · simp only; omega
  · rw [List.mem_singleton.1 h1]; simp only; omega
set_option maxRecDepth 100000 in
set_option maxHeartbeats 8000000 in
theorem commit_ok (w : World) (F : List Nat) (lb db : Nat) (d : Dsk) (l : Lg) (h : LogOn w F lb db d l) (ws : List (Int × List UInt8)) (A : Option Addr) (c : Nat) (hs : Sl KApi (lb :: F) w A c ws) (hw : d.wait.length + 100000 < 1000000000) (hl : ws.length ≤ 1000000000) (hc : l.commits < 1000000000) :
    Calls Try.prog 16 #[.pointer (some ⟨lb, 0, none⟩), .slice A ws.length c] w (CommitR F w lb db (commitS d l ws)) := by
  have HL := Lib.hid h
  have HS := Lib.hid hs
  have HW := Lib.hid hw
  have HC := Lib.hid hc
  have hsz := h.size
  have hdl := h.disk.len
  have hbs := h.base
  obtain ⟨a, ha⟩ : ∃ a, a = aliveS d l := ⟨_, rfl⟩
  have HA := Lib.hid ha
  obtain ⟨hn, hhn⟩ : ∃ hn, hn = homesS d.now l.size := ⟨_, rfl⟩
  have hnl : hn ≤ 16384 := by unfold homesS at hhn; omega
  have HHN := Lib.hid hhn.symm
  clear h hs hw hc hhn
  by_cases h0 : a = 0
  · subst h0
    have HCM : Hid (commitS d l ws = (if ws.all (mayW d l) = false then (2, d, l) else
        if l.size < 2 * ws.length + 1 then (3, d, l) else
        if ws = [] then (0, d, l) else
        if l.size < l.used + (2 * ws.length + 1) then
          let c := checkS d l
          if c.1 ≠ 0 then c else commitT c.2.1 c.2.2 ws
        else commitT d l ws)) := by
      unfold Hid commitS; rw [← HA.out, if_neg (by simp)]
    clear ha
    go_enter Try.func16, Try.ntmps16
    go_wp2_with fail
    refine (alive_ok _ F db lb d l HL.out.disk HL.out.log).mono ?_
    rw [← HA.out]
    rintro e w1 ⟨rfl, hx⟩
    have HX := Lib.hid hx
    have HL1 := Lib.hid (HL.out.ext hx)
    have HS1 := Lib.hid (HS.out.ext (hx.keep _))
    clear hx
    go_wp2
    go_loopw [22] (fun iv wr => ∃ (k : Nat), k ≤ ws.length ∧ iv = .int .i64 (k : Int) ∧ Hid (Ext w1 wr) ∧ Hid ((ws.take k).all (mayW d l) = true)) (fun iv _ => ws.length - (intOf iv).toNat)
    case atStart => exact ⟨0, Nat.zero_le _, rfl, Ext.refl _, rfl⟩
    case round =>
      obtain ⟨k, hk, rfl, HXR, HALL⟩ := hrel
      by_cases hlt : k < ws.length
      · obtain ⟨g, o, A2, c2, rfl, hg, hgF, k0, k1, hs8, hi⟩ := api_at HS1.out hlt
        replace k0 := (HXR.out.keep []).cell_some k0 (by simp)
        replace k1 := (HXR.out.keep []).cell_some k1 (by simp)
        have HT : Hid ((ws.take (k + 1)).all (mayW d l) = (true && mayW d l ws[k])) := by
          unfold Hid; rw [List.take_succ_eq_append_getElem hlt, List.all_append, HALL.out]; simp
        have HMW : Hid (mayW d l ws[k] = decide (0 ≤ ws[k].1 ∧ ws[k].1 < (hn : Int) ∧ ws[k].2.length = 64)) := by
          unfold Hid mayW; rw [HHN.out]
        have HNO : Hid (mayW d l ws[k] = false → commitS d l ws = (2, d, l)) := by
          intro hm
          rw [HCM.out, if_pos]
          rw [List.all_eq_false]
          exact ⟨ws[k], List.getElem_mem hlt, by rw [hm]; decide⟩
        generalize ws[k] = x at *
        have HLW := Lib.hid ((HL1.out.ext HXR.out).ext ((Ext.alloc wr (.cells #[.int .i64 x.1, .slice A2 x.2.length c2] 100)).trans (Ext.drew _)))
        have HXW := Lib.hid ((HX.out.trans HXR.out).trans ((Ext.alloc wr (.cells #[.int .i64 x.1, .slice A2 x.2.length c2] 100)).trans (Ext.drew _)))
        have HXR2 := Lib.hid (HXR.out.trans ((Ext.alloc wr (.cells #[.int .i64 x.1, .slice A2 x.2.length c2] 100)).trans (Ext.drew _)))
        have y0 : (wr.alloc (.cells #[.int .i64 x.1, .slice A2 x.2.length c2] 100)).drew.cell? ⟨wr.heap.size, 0, none⟩ = some (.int .i64 x.1) := cell_blk (heap_alloc_new wr _) 0
        have y1 : (wr.alloc (.cells #[.int .i64 x.1, .slice A2 x.2.length c2] 100)).drew.cell? ⟨wr.heap.size, 1, none⟩ = some (.slice A2 x.2.length c2) := cell_blk (heap_alloc_new wr _) 1
        clear hs8
        by_cases q0 : x.1 < 0
        · have t0 : decide (x.1 < 0) = true := decide_eq_true q0
          have HR : Hid (commitS d l ws = (2, d, l)) := HNO.out (by rw [HMW.out]; exact decide_eq_false (by omega))
          clear q0 hi
          go_wp2
          refine wp_region_any (by kernel_rfl) ?_
          try (change wpAny _ _ _ _ _ _ _ (World.drew _))
          refine wpAny_take (i := 0) (oi := ⟨some 26, _, _, _, _, _⟩) (v := ?_) rfl (by kernel_rfl) (by kernel_rfl) (by kernel_rfl) (fun _ _ _ h => h) (Or.inl ⟨by rfl, ?_⟩) ?_
          rotate_left
          · ((intro w; go_simp); try with_reducible rfl)
          try simp only [Act.put, List.setIfInBounds_toArray, List.set_cons_zero, List.set_cons_succ]
          refine wpAny_ready (rs := [1]) (by kernel_rfl) (by simp) ?_
          refine AllReady.cons rfl (fun K hK => ?_) ?_
          · go_simp
            refine hK _ _ ?_
            clear hK K
            try simp only [Act.put, List.setIfInBounds_toArray, List.set_cons_zero, List.set_cons_succ]
            refine wpAny_take (i := 2) (oi := ⟨some 28, _, _, _, _, _⟩) (v := ?_) rfl (by kernel_rfl) (by kernel_rfl) (by kernel_rfl) (fun _ _ _ h => h) (Or.inl ⟨by rfl, ?_⟩) ?_
            rotate_left
            · ((intro w; go_simp); try with_reducible rfl)
            try simp only [Act.put, List.setIfInBounds_toArray, List.set_cons_zero, List.set_cons_succ]
            refine wpAny_take (i := 3) (oi := ⟨some 29, _, _, _, _, _⟩) (v := ?_) rfl (by kernel_rfl) (by kernel_rfl) (by kernel_rfl) (fun _ _ _ h => h) (Or.inl ⟨by rfl, ?_⟩) ?_
            rotate_left
            · ((intro w; go_simp); try with_reducible rfl)
            try simp only [Act.put, List.setIfInBounds_toArray, List.set_cons_zero, List.set_cons_succ]
            refine wpAny_take (i := 4) (oi := ⟨some 30, _, _, _, _, _⟩) (v := undef) rfl (by kernel_rfl) (by kernel_rfl) (by kernel_rfl) (fun _ _ _ h => h) (Or.inr ⟨by rfl, rfl⟩) ?_
            try simp only [Act.put, List.setIfInBounds_toArray, List.set_cons_zero, List.set_cons_succ]
            refine wpAny_take (i := 5) (oi := ⟨some 31, _, _, _, _, _⟩) (v := undef) rfl (by kernel_rfl) (by kernel_rfl) (by kernel_rfl) (fun _ _ _ h => h) (Or.inr ⟨by rfl, rfl⟩) ?_
            try simp only [Act.put, List.setIfInBounds_toArray, List.set_cons_zero, List.set_cons_succ]
            refine wpAny_take (i := 6) (oi := ⟨some 32, _, _, _, _, _⟩) (v := undef) rfl (by kernel_rfl) (by kernel_rfl) (by kernel_rfl) (fun _ _ _ h => h) (Or.inr ⟨by rfl, rfl⟩) ?_
            try simp only [Act.put, List.setIfInBounds_toArray, List.set_cons_zero, List.set_cons_succ]
            refine wpAny_take (i := 7) (oi := ⟨some 33, _, _, _, _, _⟩) (v := undef) rfl (by kernel_rfl) (by kernel_rfl) (by kernel_rfl) (fun _ _ _ h => h) (Or.inr ⟨by rfl, rfl⟩) ?_
            try simp only [Act.put, List.setIfInBounds_toArray, List.set_cons_zero, List.set_cons_succ]
            refine wpAny_take (i := 8) (oi := ⟨some 34, _, _, _, _, _⟩) (v := undef) rfl (by kernel_rfl) (by kernel_rfl) (by kernel_rfl) (fun _ _ _ h => h) (Or.inr ⟨by rfl, rfl⟩) ?_
            try simp only [Act.put, List.setIfInBounds_toArray, List.set_cons_zero, List.set_cons_succ]
            refine wpAny_take (i := 9) (oi := ⟨some 35, _, _, _, _, _⟩) (v := ?_) rfl (by kernel_rfl) (by kernel_rfl) (by kernel_rfl) (fun _ _ _ h => h) (Or.inl ⟨by rfl, ?_⟩) ?_
            rotate_left
            · ((intro w; go_simp); try with_reducible rfl)
            try simp only [Act.put, List.setIfInBounds_toArray, List.set_cons_zero, List.set_cons_succ]
            refine wpAny_take (i := 10) (oi := ⟨some 36, _, _, _, _, _⟩) (v := ?_) rfl (by kernel_rfl) (by kernel_rfl) (by kernel_rfl) (fun _ _ _ h => h) (Or.inl ⟨by rfl, ?_⟩) ?_
            rotate_left
            · ((intro w; go_simp); try with_reducible rfl)
            try simp only [Act.put, List.setIfInBounds_toArray, List.set_cons_zero, List.set_cons_succ]
            refine wpAny_take (i := 11) (oi := ⟨some 37, _, _, _, _, _⟩) (v := undef) rfl (by kernel_rfl) (by kernel_rfl) (by kernel_rfl) (fun _ _ _ h => h) (Or.inr ⟨by rfl, rfl⟩) ?_
            try simp only [Act.put, List.setIfInBounds_toArray, List.set_cons_zero, List.set_cons_succ]
            refine wpAny_take (i := 12) (oi := ⟨some 38, _, _, _, _, _⟩) (v := undef) rfl (by kernel_rfl) (by kernel_rfl) (by kernel_rfl) (fun _ _ _ h => h) (Or.inr ⟨by rfl, rfl⟩) ?_
            try simp only [Act.put, List.setIfInBounds_toArray, List.set_cons_zero, List.set_cons_succ]
            refine wpAny_take (i := 13) (oi := ⟨some 39, _, _, _, _, _⟩) (v := undef) rfl (by kernel_rfl) (by kernel_rfl) (by kernel_rfl) (fun _ _ _ h => h) (Or.inr ⟨by rfl, rfl⟩) ?_
            try simp only [Act.put, List.setIfInBounds_toArray, List.set_cons_zero, List.set_cons_succ]
            refine wpAny_take (i := 14) (oi := ⟨some 40, _, _, _, _, _⟩) (v := undef) rfl (by kernel_rfl) (by kernel_rfl) (by kernel_rfl) (fun _ _ _ h => h) (Or.inr ⟨by rfl, rfl⟩) ?_
            try simp only [Act.put, List.setIfInBounds_toArray, List.set_cons_zero, List.set_cons_succ]
            refine wpAny_take (i := 15) (oi := ⟨some 41, _, _, _, _, _⟩) (v := ?_) rfl (by kernel_rfl) (by kernel_rfl) (by kernel_rfl) (fun _ _ _ h => h) (Or.inl ⟨by rfl, ?_⟩) ?_
            rotate_left
            · ((intro w; go_simp); try with_reducible rfl)
            try simp only [Act.put, List.setIfInBounds_toArray, List.set_cons_zero, List.set_cons_succ]
            refine wpAny_done (by kernel_rfl) ?_ _
            go_wp2
            go_ret
            exact CommitR.of HR.out rfl HLW.out (HXW.out.keep _) (fun x hx => hx)
          exact AllReady.nil
        · have t0 : decide (x.1 < 0) = false := decide_eq_false q0
          by_cases q1 : (hn : Int) ≤ x.1
          · have t1 : decide ((hn : Int) ≤ x.1) = true := decide_eq_true q1
            have HR : Hid (commitS d l ws = (2, d, l)) := HNO.out (by rw [HMW.out]; exact decide_eq_false (by omega))
            clear q0 q1 hi
            go_wp2
            refine wp_region_any (by kernel_rfl) ?_
            try (change wpAny _ _ _ _ _ _ _ (World.drew _))
            refine wpAny_take (i := 0) (oi := ⟨some 26, _, _, _, _, _⟩) (v := ?_) rfl (by kernel_rfl) (by kernel_rfl) (by kernel_rfl) (fun _ _ _ h => h) (Or.inl ⟨by rfl, ?_⟩) ?_
            rotate_left
            · ((intro w; go_simp); try with_reducible rfl)
            try simp only [Act.put, List.setIfInBounds_toArray, List.set_cons_zero, List.set_cons_succ]
            refine wpAny_ready (rs := [1]) (by kernel_rfl) (by simp) ?_
            refine AllReady.cons rfl (fun K hK => ?_) ?_
            · go_simp
              refine hK _ _ ?_
              clear hK K
              try simp only [Act.put, List.setIfInBounds_toArray, List.set_cons_zero, List.set_cons_succ]
              refine wpAny_take (i := 2) (oi := ⟨some 28, _, _, _, _, _⟩) (v := ?_) rfl (by kernel_rfl) (by kernel_rfl) (by kernel_rfl) (fun _ _ _ h => h) (Or.inl ⟨by rfl, ?_⟩) ?_
              rotate_left
              · ((intro w; go_simp); try with_reducible rfl)
              try simp only [Act.put, List.setIfInBounds_toArray, List.set_cons_zero, List.set_cons_succ]
              refine wpAny_take (i := 3) (oi := ⟨some 29, _, _, _, _, _⟩) (v := ?_) rfl (by kernel_rfl) (by kernel_rfl) (by kernel_rfl) (fun _ _ _ h => h) (Or.inl ⟨by rfl, ?_⟩) ?_
              rotate_left
              · ((intro w; go_simp); try with_reducible rfl)
              try simp only [Act.put, List.setIfInBounds_toArray, List.set_cons_zero, List.set_cons_succ]
              refine wpAny_take (i := 4) (oi := ⟨some 30, _, _, _, _, _⟩) (v := ?_) rfl (by kernel_rfl) (by kernel_rfl) (by kernel_rfl) (fun _ _ _ h => h) (Or.inl ⟨by rfl, ?_⟩) ?_
              rotate_left
              · ((intro w; go_simp); try with_reducible rfl)
              try simp only [Act.put, List.setIfInBounds_toArray, List.set_cons_zero, List.set_cons_succ]
              refine wpAny_take (i := 6) (oi := ⟨some 32, _, _, _, _, _⟩) (v := ?_) rfl (by kernel_rfl) (by kernel_rfl) (by kernel_rfl) (fun _ _ _ h => h) (Or.inl ⟨by rfl, ?_⟩) ?_
              rotate_left
              · ((intro w; go_simp); try with_reducible rfl)
              try simp only [Act.put, List.setIfInBounds_toArray, List.set_cons_zero, List.set_cons_succ]
              refine wpAny_ready (rs := [5, 7]) (by kernel_rfl) (by simp) ?_
              refine AllReady.cons rfl (fun K hK => ?_) ?_
              · go_simp
                refine hK _ _ ?_
                clear hK K
                try simp only [Act.put, List.setIfInBounds_toArray, List.set_cons_zero, List.set_cons_succ]
                refine wpAny_ready (rs := [7]) (by kernel_rfl) (by simp) ?_
                refine AllReady.cons rfl (fun K hK => ?_) ?_
                · go_simp
                  refine (homes_at _ F db lb d l HLW.out hn HHN.out).mono ?_
                  rintro e w3 ⟨rfl, hx3⟩
                  have HL3 := Lib.hid (HLW.out.ext hx3)
                  have HX3 := Lib.hid (HXW.out.trans hx3)
                  have z0 := (hx3.keep []).cell_some y0 (by simp)
                  clear hx3
                  refine hK _ _ ?_
                  clear hK K
                  try simp only [Act.put, List.setIfInBounds_toArray, List.set_cons_zero, List.set_cons_succ]
                  refine wpAny_take (i := 8) (oi := ⟨some 34, _, _, _, _, _⟩) (v := ?_) rfl (by kernel_rfl) (by kernel_rfl) (by kernel_rfl) (fun _ _ _ h => h) (Or.inl ⟨by rfl, ?_⟩) ?_
                  rotate_left
                  · ((intro w; go_simp); try with_reducible rfl)
                  try simp only [Act.put, List.setIfInBounds_toArray, List.set_cons_zero, List.set_cons_succ]
                  refine wpAny_take (i := 9) (oi := ⟨some 35, _, _, _, _, _⟩) (v := ?_) rfl (by kernel_rfl) (by kernel_rfl) (by kernel_rfl) (fun _ _ _ h => h) (Or.inl ⟨by rfl, ?_⟩) ?_
                  rotate_left
                  · ((intro w; go_simp); try with_reducible rfl)
                  try simp only [Act.put, List.setIfInBounds_toArray, List.set_cons_zero, List.set_cons_succ]
                  refine wpAny_take (i := 10) (oi := ⟨some 36, _, _, _, _, _⟩) (v := ?_) rfl (by kernel_rfl) (by kernel_rfl) (by kernel_rfl) (fun _ _ _ h => h) (Or.inl ⟨by rfl, ?_⟩) ?_
                  rotate_left
                  · ((intro w; go_simp); try with_reducible rfl)
                  try simp only [Act.put, List.setIfInBounds_toArray, List.set_cons_zero, List.set_cons_succ]
                  refine wpAny_take (i := 11) (oi := ⟨some 37, _, _, _, _, _⟩) (v := undef) rfl (by kernel_rfl) (by kernel_rfl) (by kernel_rfl) (fun _ _ _ h => h) (Or.inr ⟨by rfl, rfl⟩) ?_
                  try simp only [Act.put, List.setIfInBounds_toArray, List.set_cons_zero, List.set_cons_succ]
                  refine wpAny_take (i := 12) (oi := ⟨some 38, _, _, _, _, _⟩) (v := undef) rfl (by kernel_rfl) (by kernel_rfl) (by kernel_rfl) (fun _ _ _ h => h) (Or.inr ⟨by rfl, rfl⟩) ?_
                  try simp only [Act.put, List.setIfInBounds_toArray, List.set_cons_zero, List.set_cons_succ]
                  refine wpAny_take (i := 13) (oi := ⟨some 39, _, _, _, _, _⟩) (v := undef) rfl (by kernel_rfl) (by kernel_rfl) (by kernel_rfl) (fun _ _ _ h => h) (Or.inr ⟨by rfl, rfl⟩) ?_
                  try simp only [Act.put, List.setIfInBounds_toArray, List.set_cons_zero, List.set_cons_succ]
                  refine wpAny_take (i := 14) (oi := ⟨some 40, _, _, _, _, _⟩) (v := undef) rfl (by kernel_rfl) (by kernel_rfl) (by kernel_rfl) (fun _ _ _ h => h) (Or.inr ⟨by rfl, rfl⟩) ?_
                  try simp only [Act.put, List.setIfInBounds_toArray, List.set_cons_zero, List.set_cons_succ]
                  refine wpAny_take (i := 15) (oi := ⟨some 41, _, _, _, _, _⟩) (v := ?_) rfl (by kernel_rfl) (by kernel_rfl) (by kernel_rfl) (fun _ _ _ h => h) (Or.inl ⟨by rfl, ?_⟩) ?_
                  rotate_left
                  · ((intro w; go_simp); try with_reducible rfl)
                  try simp only [Act.put, List.setIfInBounds_toArray, List.set_cons_zero, List.set_cons_succ]
                  refine wpAny_done (by kernel_rfl) ?_ _
                  go_wp2
                  go_ret
                  exact CommitR.of HR.out rfl HL3.out (HX3.out.keep _) (fun x hx => hx)
                exact AllReady.nil
              refine AllReady.cons rfl (fun K hK => ?_) ?_
              · go_simp
                refine (homes_at _ F db lb d l HLW.out hn HHN.out).mono ?_
                rintro e w3 ⟨rfl, hx3⟩
                have HL3 := Lib.hid (HLW.out.ext hx3)
                have HX3 := Lib.hid (HXW.out.trans hx3)
                have z0 := (hx3.keep []).cell_some y0 (by simp)
                clear hx3
                refine hK _ _ ?_
                clear hK K
                try simp only [Act.put, List.setIfInBounds_toArray, List.set_cons_zero, List.set_cons_succ]
                refine wpAny_ready (rs := [5]) (by kernel_rfl) (by simp) ?_
                refine AllReady.cons rfl (fun K hK => ?_) ?_
                · go_simp
                  refine hK _ _ ?_
                  clear hK K
                  try simp only [Act.put, List.setIfInBounds_toArray, List.set_cons_zero, List.set_cons_succ]
                  refine wpAny_take (i := 8) (oi := ⟨some 34, _, _, _, _, _⟩) (v := ?_) rfl (by kernel_rfl) (by kernel_rfl) (by kernel_rfl) (fun _ _ _ h => h) (Or.inl ⟨by rfl, ?_⟩) ?_
                  rotate_left
                  · ((intro w; go_simp); try with_reducible rfl)
                  try simp only [Act.put, List.setIfInBounds_toArray, List.set_cons_zero, List.set_cons_succ]
                  refine wpAny_take (i := 9) (oi := ⟨some 35, _, _, _, _, _⟩) (v := ?_) rfl (by kernel_rfl) (by kernel_rfl) (by kernel_rfl) (fun _ _ _ h => h) (Or.inl ⟨by rfl, ?_⟩) ?_
                  rotate_left
                  · ((intro w; go_simp); try with_reducible rfl)
                  try simp only [Act.put, List.setIfInBounds_toArray, List.set_cons_zero, List.set_cons_succ]
                  refine wpAny_take (i := 10) (oi := ⟨some 36, _, _, _, _, _⟩) (v := ?_) rfl (by kernel_rfl) (by kernel_rfl) (by kernel_rfl) (fun _ _ _ h => h) (Or.inl ⟨by rfl, ?_⟩) ?_
                  rotate_left
                  · ((intro w; go_simp); try with_reducible rfl)
                  try simp only [Act.put, List.setIfInBounds_toArray, List.set_cons_zero, List.set_cons_succ]
                  refine wpAny_take (i := 11) (oi := ⟨some 37, _, _, _, _, _⟩) (v := undef) rfl (by kernel_rfl) (by kernel_rfl) (by kernel_rfl) (fun _ _ _ h => h) (Or.inr ⟨by rfl, rfl⟩) ?_
                  try simp only [Act.put, List.setIfInBounds_toArray, List.set_cons_zero, List.set_cons_succ]
                  refine wpAny_take (i := 12) (oi := ⟨some 38, _, _, _, _, _⟩) (v := undef) rfl (by kernel_rfl) (by kernel_rfl) (by kernel_rfl) (fun _ _ _ h => h) (Or.inr ⟨by rfl, rfl⟩) ?_
                  try simp only [Act.put, List.setIfInBounds_toArray, List.set_cons_zero, List.set_cons_succ]
                  refine wpAny_take (i := 13) (oi := ⟨some 39, _, _, _, _, _⟩) (v := undef) rfl (by kernel_rfl) (by kernel_rfl) (by kernel_rfl) (fun _ _ _ h => h) (Or.inr ⟨by rfl, rfl⟩) ?_
                  try simp only [Act.put, List.setIfInBounds_toArray, List.set_cons_zero, List.set_cons_succ]
                  refine wpAny_take (i := 14) (oi := ⟨some 40, _, _, _, _, _⟩) (v := undef) rfl (by kernel_rfl) (by kernel_rfl) (by kernel_rfl) (fun _ _ _ h => h) (Or.inr ⟨by rfl, rfl⟩) ?_
                  try simp only [Act.put, List.setIfInBounds_toArray, List.set_cons_zero, List.set_cons_succ]
                  refine wpAny_take (i := 15) (oi := ⟨some 41, _, _, _, _, _⟩) (v := ?_) rfl (by kernel_rfl) (by kernel_rfl) (by kernel_rfl) (fun _ _ _ h => h) (Or.inl ⟨by rfl, ?_⟩) ?_
                  rotate_left
                  · ((intro w; go_simp); try with_reducible rfl)
                  try simp only [Act.put, List.setIfInBounds_toArray, List.set_cons_zero, List.set_cons_succ]
                  refine wpAny_done (by kernel_rfl) ?_ _
                  go_wp2
                  go_ret
                  exact CommitR.of HR.out rfl HL3.out (HX3.out.keep _) (fun x hx => hx)
                exact AllReady.nil
              exact AllReady.nil
            exact AllReady.nil
          · have t1 : decide ((hn : Int) ≤ x.1) = false := decide_eq_false q1
            go_wp2
            by_cases q2 : x.2.length = 64
            · have t2 : ((x.2.length : Int) != 64) = false := by rw [q2]; rfl
              have HOKK : Hid (mayW d l x = true) := by rw [Hid, HMW.out]; exact decide_eq_true ⟨by omega, by omega, q2⟩
              clear q0 q1 q2 hi
              go_region_held3 (fun w' => w'.cell? ⟨wr.heap.size, 0, none⟩ = some (.int .i64 x.1) ∧ w'.cell? ⟨wr.heap.size, 1, none⟩ = some (.slice A2 x.2.length c2)) (first | exact ⟨y0, y1⟩ | exact ⟨z0, z1⟩) ((go_at_call 22; refine (homes_at _ F db lb d l HLW.out hn HHN.out).mono ?_; rintro e w3 ⟨rfl, hx3⟩; have z0 := (hx3.keep []).cell_some y0 (by simp); have z1 := (hx3.keep []).cell_some y1 (by simp); have HX3 := Lib.hid (HXR2.out.trans hx3); clear hx3))
              go_wp2
              go_roundw
              case rel => exact ⟨k + 1, by omega, by go_num, HX3.out, by rw [Hid, HT.out, HOKK.out]; rfl⟩
              case measure => simp [intOf] <;> omega
            · have t2 : ((x.2.length : Int) != 64) = true := by simp; omega
              have HR : Hid (commitS d l ws = (2, d, l)) := HNO.out (by rw [HMW.out]; exact decide_eq_false (by omega))
              clear q0 q1 q2 hi
              go_region_held3 (fun w' => w'.cell? ⟨wr.heap.size, 0, none⟩ = some (.int .i64 x.1) ∧ w'.cell? ⟨wr.heap.size, 1, none⟩ = some (.slice A2 x.2.length c2)) (first | exact ⟨y0, y1⟩ | exact ⟨z0, z1⟩) ((go_at_call 22; refine (homes_at _ F db lb d l HLW.out hn HHN.out).mono ?_; rintro e w3 ⟨rfl, hx3⟩; have z0 := (hx3.keep []).cell_some y0 (by simp); have z1 := (hx3.keep []).cell_some y1 (by simp); have HX3 := Lib.hid (HXW.out.trans hx3); have HL3 := Lib.hid (HLW.out.ext hx3); clear hx3))
              go_wp2
              go_ret
              exact CommitR.of HR.out rfl HL3.out (HX3.out.keep _) (fun x hx => hx)
      · obtain rfl : k = ws.length := by omega
        have HALL2 : Hid (ws.all (mayW d l) = true) := by have := HALL.out; rwa [List.take_length] at this
        have HLR := Lib.hid (HL1.out.ext HXR.out)
        have HXR2 := Lib.hid (HX.out.trans HXR.out)
        have HSR := Lib.hid (HS1.out.ext (HXR.out.keep _))
        have HC2 := Lib.hid (HCM.out.trans (if_neg (by rw [HALL2.out]; decide)))
        have e1 := HLR.out.log.cells.2.1
        clear HCM HALL
        by_cases q1 : l.size < 2 * ws.length + 1
        · have t1 : decide ((l.size : Int) < 2 * (ws.length : Int) + 1) = true := decide_eq_true (by omega)
          have HR := Lib.hid (HC2.out.trans (if_pos q1))
          clear q1
          go_wp2
          go_ret
          exact CommitR.of HR.out rfl HLR.out (HXR2.out.keep _) (fun x hx => hx)
        · have t1 : decide ((l.size : Int) < 2 * (ws.length : Int) + 1) = false := decide_eq_false (by omega)
          have HC3 := Lib.hid (HC2.out.trans (if_neg q1))
          have hln : 2 * ws.length + 1 ≤ l.size := by omega
          clear HC2 q1
          by_cases q2 : ws = []
          · have t2 : ((ws.length : Int) == 0) = true := by rw [q2]; rfl
            have HR := Lib.hid (HC3.out.trans (if_pos q2))
            clear q2
            go_wp2
            go_ret
            exact CommitR.of HR.out rfl HLR.out (HXR2.out.keep _) (fun x hx => hx)
          · have t2 : ((ws.length : Int) == 0) = false := by
              have : ws.length ≠ 0 := fun e => q2 (List.eq_nil_of_length_eq_zero e)
              simp; omega
            have HC4 := Lib.hid (HC3.out.trans (if_neg q2))
            clear HC3 q2
            have HMAY : Hid (∀ x ∈ ws, 0 ≤ x.1 ∧ x.1 ≤ 16384 ∧ x.2.length = 64) := fun x hx => by
              have := List.all_eq_true.1 HALL2.out x hx
              have := of_decide_eq_true this
              have h1 := HHN.out
              omega
            have HU := Lib.hid HL.out.used
            have hle : l.used ≤ l.size := HL.out.used
            have HLE : Hid (l.size ≤ 16384) := by unfold Hid; omega
            by_cases q3 : l.size < l.used + (2 * ws.length + 1)
            · have t3 : decide (((l.size - l.used : Nat) : Int) < 2 * (ws.length : Int) + 1) = true := decide_eq_true (by omega)
              have HC5a : Hid (commitS d l ws = if (checkS d l).1 ≠ 0 then checkS d l else commitT (checkS d l).2.1 (checkS d l).2.2 ws) := HC4.out.trans (if_pos q3)
              obtain ⟨r, hr⟩ : ∃ r, r = (checkS d l).1 := ⟨_, rfl⟩
              have HRR := Lib.hid hr
              clear q3 hr HC4
              go_wp2_with fail
              refine (left_ok wr lb db l HLR.out.log HU.out HLE.out).mono ?_
              rintro e w3 ⟨rfl, hx3⟩
              have HL3 := Lib.hid (HLR.out.ext hx3)
              have HX3 := Lib.hid (HXR2.out.trans hx3)
              have HS3 := Lib.hid (HSR.out.ext (hx3.keep _))
              clear hx3
              go_wp2_with fail
              refine (check_ok w3 F lb db d l HL3.out (by have := HW.out; omega)).mono ?_
              rw [← HRR.out]
              rintro e w5 ⟨rfl, F5, h1, h2, h3⟩
              have HLO5 := Lib.hid h1
              have HK5 := Lib.hid ((HX3.out.keep _).trans h2)
              have HF5 := Lib.hid h3
              have HS5 := Lib.hid (HS3.out.ext h2)
              clear h1 h2 h3
              by_cases hr0 : r = 0
              · subst hr0
                have HUP := Lib.hid (check_up HRR.out.symm)
                have HSZZ := Lib.hid (check_size d l)
                have HW5 : Hid ((checkS d l).2.1.wait.length + 90000 < 1000000000) := by have h1 := check_wait d l; have h2 := HW.out; unfold Hid; omega
                have HC5 := Lib.hid (HC5a.out.trans (by rw [if_neg (by rw [← HRR.out]; simp)]))
                have HFIT : Hid ((checkS d l).2.2.used + (2 * ws.length + 1) ≤ (checkS d l).2.2.size) := by
                  rw [Hid, HUP.out]; show 0 + (2 * ws.length + 1) ≤ l.size; omega
                have HCC5 : Hid ((checkS d l).2.2.commits < 1000000000) := by rw [Hid, HSZZ.out.2]; exact HC.out
                generalize (checkS d l).2.1 = d5 at *
                generalize (checkS d l).2.2 = l5 at *
                clear HUP HSZZ HRR HC5a
                go_wp2_with fail
                have hlt5 : ∀ b ∈ lb :: F5, b < w5.heap.size := fun b hb => by
                  rcases List.mem_cons.1 hb with e1 | e1
                  · rw [e1]; exact HLO5.out.lt
                  · exact HLO5.out.disk.lt b e1
                refine (entries_ok w5 (lb :: F5) hlt5 ws A c HS5.out (by omega) HMAY.out).mono ?_
                obtain ⟨E, hE⟩ : ∃ E, E = entriesB ws := ⟨_, rfl⟩
                have HE := Lib.hid hE
                have HEL : Hid (E.length = 2 * ws.length + 1) := by rw [Hid, hE, entriesB_length]
                have hel : E.length ≤ 16384 := by rw [HEL.out]; omega
                rw [← hE]
                rintro e w6 ⟨AE, cE, rfl, hsE, hx6⟩
                have HSE := Lib.hid hsE
                have HLO6 := Lib.hid (HLO5.out.ext hx6)
                have HK6 := Lib.hid (HK5.out.trans (hx6.keep _))
                have HS6 := Lib.hid (HS5.out.ext (hx6.keep _))
                clear hsE hx6 hE hlt5
                have HSHT : Hid (commitT d5 l5 ws = (if (layS l5.base d5 l5.used E).1 ≠ 0 then ((layS l5.base d5 l5.used E).1, (layS l5.base d5 l5.used E).2, l5) else
                    if (layS l5.base d5 l5.used E).2.flush.1 ≠ 0 then ((layS l5.base d5 l5.used E).2.flush.1, (layS l5.base d5 l5.used E).2.flush.2, l5) else
                    ((redoS l5.size (layS l5.base d5 l5.used E).2.flush.2 ws).1, (redoS l5.size (layS l5.base d5 l5.used E).2.flush.2 ws).2, { l5 with used := l5.used + (2 * ws.length + 1), commits := l5.commits + 1 }))) := by
                  rw [Hid, HE.out]; rfl
                go_wp2
                go_loopw [71] (fun iv wr => ∃ (j : Nat) (dj : Dsk) (Fj : List Nat), j ≤ E.length ∧ iv = .int .i64 (j : Int) ∧ Hid (LogOn wr Fj lb db dj l5) ∧ Hid (Keep (lb :: F) w (lb :: Fj) wr) ∧ Hid (∀ x ∈ F, x ∈ Fj) ∧ Hid (layS l5.base d5 l5.used E = layS l5.base dj (l5.used + j) (E.drop j)) ∧ Hid (dj.wait.length ≤ d5.wait.length + j) ∧ Hid (Sl KEn (lb :: Fj) wr AE cE E) ∧ Hid (Sl KApi (lb :: Fj) wr A c ws)) (fun iv _ => E.length - (intOf iv).toNat)
                case atStart => exact ⟨0, d5, F5, Nat.zero_le _, rfl, HLO6.out, HK6.out, HF5.out, rfl, Nat.le_refl _, HSE.out, HS6.out⟩
                case round =>
                  obtain ⟨j, dj, Fj, hj, rfl, HLJ, HKJ, HFJ, HLY, HWJ, HSJ, HAJ⟩ := hrel
                  by_cases hlt : j < E.length
                  · obtain ⟨g, o, A2, c2, dt, rfl, hg, hgF, k0, k1, k2, k3, hs8, hpad, hdtl⟩ := en_at HSJ.out hlt
                    have HDR : Hid (E.drop j = E[j] :: E.drop (j + 1)) := List.drop_eq_getElem_cons hlt
                    have HEJ : Hid (E[j].1 < 256 ∧ E[j].2.1 < 4294967296) := by
                      have := entriesB_small (fun x hx => (HMAY.out x hx).2.1) (fun x hx => (HMAY.out x hx).1) (by omega : ws.length ≤ 16384) E[j] (by rw [← HE.out]; exact List.getElem_mem hlt)
                      exact this
                    generalize E[j] = x at *
                    obtain ⟨xk, xn, xd⟩ := x
                    simp only at k0 k1 hpad HEJ
                    have HS8 := Lib.hid hs8
                    have HPAD := Lib.hid hpad
                    obtain ⟨b0, b1, b2, b3, b4, b5, b6, bf⟩ := HLJ.out.log.cells
                    have hlbl := World.block_lt_of_cell? wr _ b0
                    have hlbn := World.new_ne wr _ b0
                    have hlt5 := HLJ.out.used
                    have hsz5 := HLJ.out.size
                    have hbs5 := HLJ.out.base
                    have hdl5 := HLJ.out.disk.len
                    have hw0 := wrap_i64_id ((l5.used : Int) + (j : Int)) (by omega)
                    clear hs8 hpad b1 b3 b5 b6 bf
                    go_wp2
                    have hxx := (Ext.alloc wr (.cells #[.int .i64 (xk : Int), .int .i64 (xn : Int), .slice A2 dt.length c2, .bool false] 116)).trans (Ext.drew _)
                    have y0 : (wr.alloc (.cells #[.int .i64 (xk : Int), .int .i64 (xn : Int), .slice A2 dt.length c2, .bool false] 116)).drew.cell? ⟨wr.heap.size, 0, none⟩ = some (.int .i64 (xk : Int)) := cell_blk (heap_alloc_new wr _) 0
                    have y1 : (wr.alloc (.cells #[.int .i64 (xk : Int), .int .i64 (xn : Int), .slice A2 dt.length c2, .bool false] 116)).drew.cell? ⟨wr.heap.size, 1, none⟩ = some (.int .i64 (xn : Int)) := cell_blk (heap_alloc_new wr _) 1
                    have y2 : (wr.alloc (.cells #[.int .i64 (xk : Int), .int .i64 (xn : Int), .slice A2 dt.length c2, .bool false] 116)).drew.cell? ⟨wr.heap.size, 2, none⟩ = some (.slice A2 dt.length c2) := cell_blk (heap_alloc_new wr _) 2
                    have y3 : (wr.alloc (.cells #[.int .i64 (xk : Int), .int .i64 (xn : Int), .slice A2 dt.length c2, .bool false] 116)).drew.cell? ⟨wr.heap.size, 3, none⟩ = some (.bool false) := cell_blk (heap_alloc_new wr _) 3
                    have HLD := Lib.hid (HLJ.out.ext hxx)
                    have HXX := Lib.hid hxx
                    have y4 := HLD.out.log.cells.1
                    have y5 := HLD.out.log.cells.2.2.1
                    have HS8D := Lib.hid (HS8.out.ext (hxx.keep _))
                    have HXJ : Hid (wr.heap.size ∉ Fj) := fun hm => by have := HLJ.out.disk.lt _ hm; omega
                    have HEQ : Hid (((l5.base + (l5.used + j) : Nat) : Int) = (l5.base : Int) + ((l5.used : Int) + (j : Int))) := by unfold Hid; omega
                    have HEQ2 : Hid ((2 : Int) + ((l5.used + j : Nat) : Int) = 2 + ((l5.used : Int) + (j : Int))) := by unfold Hid; omega
                    have hw1 := wrap_i64_id ((l5.base : Int) + ((l5.used : Int) + (j : Int))) (by unfold topW at hbs5; omega)
                    have hw2 := wrap_i64_id (2 + ((l5.used : Int) + (j : Int))) (by omega)
                    have hbb : l5.base + (l5.used + j) ≤ 4611686018427387904 := by unfold topW at hbs5; omega
                    have HBB := Lib.hid hbb
                    obtain ⟨r, hr⟩ : ∃ r, r = (dj.write (2 + ((l5.used + j : Nat) : Int)) (entryB xk xn xd (l5.base + (l5.used + j)))).1 := ⟨_, rfl⟩
                    have HRR := Lib.hid hr
                    have hww := write_wait dj (2 + ((l5.used + j : Nat) : Int)) (entryB xk xn xd (l5.base + (l5.used + j)))
                    have hwn := write_now dj (2 + ((l5.used + j : Nat) : Int)) (entryB xk xn xd (l5.base + (l5.used + j)))
                    have HWN := Lib.hid hwn
                    have HWW : Hid ((dj.write (2 + ((l5.used + j : Nat) : Int)) (entryB xk xn xd (l5.base + (l5.used + j)))).2.wait.length ≤ d5.wait.length + (j + 1)) := by have := HWJ.out; unfold Hid; omega
                    have HWB : Hid (dj.wait.length < 1000000000) := by have := HWJ.out; have := HW5.out; unfold Hid; omega
                    have HST : Hid (layS l5.base d5 l5.used E = if r ≠ 0 then dj.write (2 + ((l5.used + j : Nat) : Int)) (entryB xk xn xd (l5.base + (l5.used + j))) else layS l5.base (dj.write (2 + ((l5.used + j : Nat) : Int)) (entryB xk xn xd (l5.base + (l5.used + j)))).2 (l5.used + j + 1) (E.drop (j + 1))) := by
                      rw [Hid, HLY.out, HDR.out, hr]; rfl
                    have HEBL : Hid ((entryB xk xn xd (l5.base + (l5.used + j))).length = 64) := by rw [Hid, ← HPAD.out]; exact entryB_length (padS_length hdtl)
                    clear hxx hr hww hwn hlt5
                    go_wp2
                    go_region_held3 (fun w' => w'.cell? ⟨lb, 0, none⟩ = some (.pointer (some ⟨db, 0, none⟩)) ∧ w'.cell? ⟨lb, 2, none⟩ = some (.int .i64 (l5.base : Int)) ∧ w'.cell? ⟨wr.heap.size, 0, none⟩ = some (.int .i64 (xk : Int)) ∧ w'.cell? ⟨wr.heap.size, 1, none⟩ = some (.int .i64 (xn : Int)) ∧ w'.cell? ⟨wr.heap.size, 2, none⟩ = some (.slice A2 dt.length c2) ∧ w'.cell? ⟨wr.heap.size, 3, none⟩ = some (.bool false)) (first | exact ⟨y4, y5, y0, y1, y2, y3⟩ | exact ⟨z4, z5, z0, z1, z2, z3⟩ | exact ⟨u4', u5', u0', u1', u2', u3'⟩) (first
                      | (go_at_call 71; rw [← HEQ.out]; (refine (ebytes_at _ _ xk xn (l5.base + (l5.used + j)) A2 dt.length c2 dt rfl HS8D.out hdtl HEJ.out.1 HEJ.out.2 HBB.out false).mono ?_); rw [HPAD.out]; rintro e w7 ⟨g7, rfl, h1, h2, h3⟩; have HL7 := Lib.hid (HLD.out.ext h3); have HX7 := Lib.hid (HXX.out.trans h3); have HE7 : Hid (Sl Kd.u8 Fj w7 (some ⟨g7, 0, none⟩) 64 (entryB xk xn xd (l5.base + (l5.used + j)))) := Pre.sl8 h1 (fun hm => by have := HLD.out.disk.lt _ hm; omega) (by rw [HEBL.out]; omega) (by rw [HEBL.out]; omega); have z0 := (h3.keep []).cell_some y0 (by simp); have z1 := (h3.keep []).cell_some y1 (by simp); have z2 := (h3.keep []).cell_some y2 (by simp); have z3 := (h3.keep []).cell_some y3 (by simp); have z4 := (h3.keep []).cell_some y4 (by simp); have z5 := (h3.keep []).cell_some y5 (by simp); clear h1 h2 h3)
                      | (go_at_call 21; rw [← HEQ2.out]; refine (write_any _ Fj db dj HL7.out.disk (2 + ((l5.used + j : Nat) : Int)) (entryB xk xn xd (l5.base + (l5.used + j))) (some ⟨g7, 0, none⟩) 64 64 HEBL.out HE7.out HWB.out).mono ?_; rw [← HRR.out]; rintro e w8 ⟨rfl, F8, h1, h2, h3⟩; have HL8 := Lib.hid (HL7.out.redisk h1 h2 HWN.out); have HK78 := Lib.hid ((HX7.out.keep Fj).trans h2); have HF8 := Lib.hid h3; have u0' := h2.cell_some z0 HXJ.out; have u1' := h2.cell_some z1 HXJ.out; have u2' := h2.cell_some z2 HXJ.out; have u3' := h2.cell_some z3 HXJ.out; have u4' := h2.cell_some z4 HLJ.out.out; have u5' := h2.cell_some z5 HLJ.out.out; clear h1 h2 h3))
                    have HK8 := Lib.hid (HKJ.out.trans (HK78.out.widen2 lb))
                    by_cases he : r = 0
                    · subst he
                      have HST2 := Lib.hid (HST.out.trans (if_neg (by simp)))
                      have HSE8 := Lib.hid (HSJ.out.ext (HK78.out.widen2 lb))
                      have HSA8 := Lib.hid (HAJ.out.ext (HK78.out.widen2 lb))
                      go_wp2
                      go_roundw
                      case rel => exact ⟨j + 1, _, F8, by omega, by go_num, HL8.out, HK8.out, fun x hx => HF8.out x (HFJ.out x hx), HST2.out, HWW.out, HSE8.out, HSA8.out⟩
                      case measure => simp [intOf] <;> omega
                    · have d0 : (r != 0) = true := by simpa using he
                      have HST2 := Lib.hid (HST.out.trans (if_pos he))
                      have HRES : Hid (commitS d l ws = (r, (dj.write (2 + ((l5.used + j : Nat) : Int)) (entryB xk xn xd (l5.base + (l5.used + j)))).2, l5)) := by
                        rw [Hid, HC5.out, HSHT.out, HST2.out, ← HRR.out, if_pos he]
                      clear he
                      go_wp2
                      go_ret
                      exact CommitR.of HRES.out rfl HL8.out HK8.out (fun x hx => HF8.out x (HFJ.out x hx))
                  · obtain rfl : j = E.length := by omega
                    have HLE : Hid (layS l5.base d5 l5.used E = (0, dj)) := by rw [Hid, HLY.out, List.drop_length]; rfl
                    obtain ⟨f, hf⟩ : ∃ f, f = dj.flush.1 := ⟨_, rfl⟩
                    have HFF := Lib.hid hf
                    have hfn := flush_now dj
                    have hfw := flush_wait dj
                    have HFN : Hid (dj.flush.2.now.length = dj.now.length) := by unfold Hid; rw [hfn]
                    have b0 := HLJ.out.log.cells.1
                    have hud := HLJ.out.used
                    have hsz6 := HLJ.out.size
                    have hcm := HLJ.out.commits
                    have hdl6 := HLJ.out.disk.len
                    by_cases hf0 : f = 0
                    · subst hf0
                      have HRES : Hid (commitS d l ws = ((redoS l5.size dj.flush.2 ws).1, (redoS l5.size dj.flush.2 ws).2, { l5 with used := l5.used + (2 * ws.length + 1), commits := l5.commits + 1 })) := by
                        rw [Hid, HC5.out, HSHT.out, HLE.out]
                        show (if (0 : Int) ≠ 0 then _ else if dj.flush.1 ≠ 0 then _ else _) = _
                        rw [if_neg (by simp), ← hf, if_neg (by simp)]
                      have HFW : Hid (dj.flush.2.wait.length + ws.length < 1000000000) := by have := HWJ.out; have := HW5.out; unfold Hid; omega
                      clear hf hfn hfw
                      go_wp2_with fail
                      refine (flush_any wr Fj db dj HLJ.out.disk).mono ?_
                      rw [← HFF.out]
                      rintro e w7 ⟨rfl, h1, h2⟩
                      have HL7 := Lib.hid (HLJ.out.redisk h1 h2 HFN.out)
                      have HK7 := Lib.hid (HKJ.out.trans (h2.widen2 lb))
                      have HS7 := Lib.hid (HAJ.out.ext (h2.widen2 lb))
                      obtain ⟨tb, hb7⟩ := HL7.out.log
                      have HB7 := Lib.hid hb7
                      have q4 := cell_blk hb7 4
                      have q6 := cell_blk hb7 6
                      have qf4 := frozen_blk hb7 4
                      have qf6 := frozen_blk hb7 6
                      clear h1 h2 hb7 b0
                      have HN4 : Hid (((l5.used + (2 * ws.length + 1) : Nat) : Int) = (l5.used : Int) + (2 * (ws.length : Int) + 1)) := by unfold Hid; omega
                      have HN6 : Hid (((l5.commits + 1 : Nat) : Int) = (l5.commits : Int) + 1) := by unfold Hid; omega
                      have hw4 := wrap_i64_id ((l5.used : Int) + (2 * (ws.length : Int) + 1)) (by omega)
                      go_wp2_with fail
                      have hb8 : ((w7.setCell ⟨lb, 4, none⟩ (.int .i64 ((l5.used : Int) + (2 * (ws.length : Int) + 1)))).setCell ⟨lb, 6, none⟩ (.int .i64 ((l5.commits : Int) + 1))).heap[lb]? = some (.cells #[.pointer (some ⟨db, 0, none⟩), .int .i64 (l5.size : Int), .int .i64 (l5.base : Int), .int .i64 (l5.slot : Int), .int .i64 ((l5.used : Int) + (2 * (ws.length : Int) + 1)), .int .i64 (l5.life : Int), .int .i64 ((l5.commits : Int) + 1)] tb (0, 0)) := by
                        rw [set_blk (set_blk HB7.out 4 _) 6]; rfl
                      have hK8 : Keep [lb] w7 [lb] ((w7.setCell ⟨lb, 4, none⟩ (.int .i64 ((l5.used : Int) + (2 * (ws.length : Int) + 1)))).setCell ⟨lb, 6, none⟩ (.int .i64 ((l5.commits : Int) + 1))) := (Keep.setCell [lb] _ _ _ (by simp)).trans (Keep.setCell [lb] _ _ _ (by simp))
                      generalize ((w7.setCell ⟨lb, 4, none⟩ (.int .i64 ((l5.used : Int) + (2 * (ws.length : Int) + 1)))).setCell ⟨lb, 6, none⟩ (.int .i64 ((l5.commits : Int) + 1))) = w8 at *
                      obtain ⟨l6, hl6⟩ : ∃ l6 : Lg, l6 = { l5 with used := l5.used + (2 * ws.length + 1), commits := l5.commits + 1 } := ⟨_, rfl⟩
                      have HL8 : Hid (LogOn w8 Fj lb db dj.flush.2 l6) := by
                        refine ⟨HL7.out.disk.far hK8 (fun x hx => by simp; intro e; exact HL7.out.out (e ▸ hx)), ⟨tb, ?_⟩, HL7.out.out, ?_, ?_, ?_, ?_, ?_, ?_⟩
                        · rw [hb8, hl6, HN4.out, HN6.out]
                        · rw [hl6]; exact HL7.out.size
                        · rw [hl6]; exact HL7.out.base
                        · rw [hl6]; exact HL7.out.slot
                        · rw [hl6]; show l5.used + (2 * ws.length + 1) ≤ l5.size; exact HFIT.out
                        · rw [hl6]; exact HL7.out.life
                        · rw [hl6]; show l5.commits + 1 ≤ _; have := HCC5.out; omega
                      have HK8 := Lib.hid (HK7.out.trans (hK8.widen3 Fj))
                      have HS8 := Lib.hid (HS7.out.ext (hK8.widen3 Fj))
                      rw [← hl6] at HRES
                      have HSZ6 : Hid (l6.size = l5.size) := by rw [hl6]; rfl
                      clear hb8 hK8 hl6 q4 q6 qf4 qf6
                      refine (redo_ok w8 Fj lb db dj.flush.2 l6 HL8.out ws A c (HS8.out.ext (Keep.sub w8 (fun b hb => List.mem_cons_of_mem _ hb))) HFW.out (fun x hx => ⟨(HMAY.out x hx).1, (HMAY.out x hx).2.1⟩)).mono ?_
                      rw [HSZ6.out]
                      rintro e w9 ⟨rfl, F9, h1, h2, h3⟩
                      have hsn := seqR_now l5.size ws dj.flush.2
                      have HL9 := Lib.hid (HL8.out.redisk h1 h2 hsn)
                      have HK9 := Lib.hid (HK8.out.trans (h2.widen2 lb))
                      have HF9 := Lib.hid h3
                      clear h1 h2 h3 hsn
                      obtain ⟨z, hz⟩ : ∃ z, z = (redoS l5.size dj.flush.2 ws).1 := ⟨_, rfl⟩
                      rw [← hz] at HRES ⊢
                      clear hz
                      go_wp2
                      go_ret
                      exact CommitR.of HRES.out rfl HL9.out HK9.out (fun x hx => HF9.out x (HFJ.out x hx))
                    · have d0 : (f != 0) = true := by simpa using hf0
                      have HRES : Hid (commitS d l ws = (f, dj.flush.2, l5)) := by
                        rw [Hid, HC5.out, HSHT.out, HLE.out]
                        show (if (0 : Int) ≠ 0 then _ else if dj.flush.1 ≠ 0 then _ else _) = _
                        rw [if_neg (by simp), ← hf, if_pos hf0]
                      clear hf hfn hfw hf0
                      go_wp2_with fail
                      refine (flush_any wr Fj db dj HLJ.out.disk).mono ?_
                      rw [← HFF.out]
                      rintro e w7 ⟨rfl, h1, h2⟩
                      have HL7 := Lib.hid (HLJ.out.redisk h1 h2 HFN.out)
                      have HK7 := Lib.hid (HKJ.out.trans (h2.widen2 lb))
                      clear h1 h2 b0
                      go_wp2
                      go_ret
                      exact CommitR.of HRES.out rfl HL7.out HK7.out HFJ.out
              · have d0 : (r != 0) = true := by simpa using hr0
                have HRES : Hid (commitS d l ws = (r, (checkS d l).2.1, (checkS d l).2.2)) := by
                  have := HC5a.out
                  rw [← HRR.out, if_pos hr0] at this
                  rw [Hid, this, HRR.out]
                clear hr0
                go_wp2
                go_ret
                exact CommitR.of HRES.out rfl HLO5.out HK5.out HF5.out
            · have t3 : decide (((l.size - l.used : Nat) : Int) < 2 * (ws.length : Int) + 1) = false := decide_eq_false (by omega)
              have HC5a := Lib.hid (HC4.out.trans (if_neg q3))
              have HFIT : Hid (l.used + (2 * ws.length + 1) ≤ l.size) := by unfold Hid; omega
              clear q3 HC4
              go_wp2_with fail
              refine (left_ok wr lb db l HLR.out.log HU.out HLE.out).mono ?_
              rintro e w5 ⟨rfl, hx3⟩
              have HLO5 := Lib.hid (HLR.out.ext hx3)
              have HK5 := Lib.hid ((HXR2.out.trans hx3).keep (lb :: F))
              have HF5 : Hid (∀ x ∈ F, x ∈ F) := fun x hx => hx
              have HS5 := Lib.hid (HSR.out.ext (hx3.keep _))
              have HW5 : Hid (d.wait.length + 90000 < 1000000000) := by have := HW.out; unfold Hid; omega
              have HCC5 := Lib.hid HC.out
              have HC5 := HC5a
              clear hx3 HC5a
              go_wp2_with fail
              have hlt5 : ∀ b ∈ lb :: F, b < w5.heap.size := fun b hb => by
                rcases List.mem_cons.1 hb with e1 | e1
                · rw [e1]; exact HLO5.out.lt
                · exact HLO5.out.disk.lt b e1
              refine (entries_ok w5 (lb :: F) hlt5 ws A c HS5.out (by omega) HMAY.out).mono ?_
              obtain ⟨E, hE⟩ : ∃ E, E = entriesB ws := ⟨_, rfl⟩
              have HE := Lib.hid hE
              have HEL : Hid (E.length = 2 * ws.length + 1) := by rw [Hid, hE, entriesB_length]
              have hel : E.length ≤ 16384 := by rw [HEL.out]; omega
              rw [← hE]
              rintro e w6 ⟨AE, cE, rfl, hsE, hx6⟩
              have HSE := Lib.hid hsE
              have HLO6 := Lib.hid (HLO5.out.ext hx6)
              have HK6 := Lib.hid (HK5.out.trans (hx6.keep _))
              have HS6 := Lib.hid (HS5.out.ext (hx6.keep _))
              clear hsE hx6 hE hlt5
              have HSHT : Hid (commitT d l ws = (if (layS l.base d l.used E).1 ≠ 0 then ((layS l.base d l.used E).1, (layS l.base d l.used E).2, l) else
                  if (layS l.base d l.used E).2.flush.1 ≠ 0 then ((layS l.base d l.used E).2.flush.1, (layS l.base d l.used E).2.flush.2, l) else
                  ((redoS l.size (layS l.base d l.used E).2.flush.2 ws).1, (redoS l.size (layS l.base d l.used E).2.flush.2 ws).2, { l with used := l.used + (2 * ws.length + 1), commits := l.commits + 1 }))) := by
                rw [Hid, HE.out]; rfl
              go_wp2
              go_loopw [71] (fun iv wr => ∃ (j : Nat) (dj : Dsk) (Fj : List Nat), j ≤ E.length ∧ iv = .int .i64 (j : Int) ∧ Hid (LogOn wr Fj lb db dj l) ∧ Hid (Keep (lb :: F) w (lb :: Fj) wr) ∧ Hid (∀ x ∈ F, x ∈ Fj) ∧ Hid (layS l.base d l.used E = layS l.base dj (l.used + j) (E.drop j)) ∧ Hid (dj.wait.length ≤ d.wait.length + j) ∧ Hid (Sl KEn (lb :: Fj) wr AE cE E) ∧ Hid (Sl KApi (lb :: Fj) wr A c ws)) (fun iv _ => E.length - (intOf iv).toNat)
              case atStart => exact ⟨0, d, F, Nat.zero_le _, rfl, HLO6.out, HK6.out, HF5.out, rfl, Nat.le_refl _, HSE.out, HS6.out⟩
              case round =>
                obtain ⟨j, dj, Fj, hj, rfl, HLJ, HKJ, HFJ, HLY, HWJ, HSJ, HAJ⟩ := hrel
                by_cases hlt : j < E.length
                · obtain ⟨g, o, A2, c2, dt, rfl, hg, hgF, k0, k1, k2, k3, hs8, hpad, hdtl⟩ := en_at HSJ.out hlt
                  have HDR : Hid (E.drop j = E[j] :: E.drop (j + 1)) := List.drop_eq_getElem_cons hlt
                  have HEJ : Hid (E[j].1 < 256 ∧ E[j].2.1 < 4294967296) := by
                    have := entriesB_small (fun x hx => (HMAY.out x hx).2.1) (fun x hx => (HMAY.out x hx).1) (by omega : ws.length ≤ 16384) E[j] (by rw [← HE.out]; exact List.getElem_mem hlt)
                    exact this
                  generalize E[j] = x at *
                  obtain ⟨xk, xn, xd⟩ := x
                  simp only at k0 k1 hpad HEJ
                  have HS8 := Lib.hid hs8
                  have HPAD := Lib.hid hpad
                  obtain ⟨b0, b1, b2, b3, b4, b5, b6, bf⟩ := HLJ.out.log.cells
                  have hlbl := World.block_lt_of_cell? wr _ b0
                  have hlbn := World.new_ne wr _ b0
                  have hlt5 := HLJ.out.used
                  have hsz5 := HLJ.out.size
                  have hbs5 := HLJ.out.base
                  have hdl5 := HLJ.out.disk.len
                  have hw0 := wrap_i64_id ((l.used : Int) + (j : Int)) (by omega)
                  clear hs8 hpad b1 b3 b5 b6 bf
                  go_wp2
                  have hxx := (Ext.alloc wr (.cells #[.int .i64 (xk : Int), .int .i64 (xn : Int), .slice A2 dt.length c2, .bool false] 116)).trans (Ext.drew _)
                  have y0 : (wr.alloc (.cells #[.int .i64 (xk : Int), .int .i64 (xn : Int), .slice A2 dt.length c2, .bool false] 116)).drew.cell? ⟨wr.heap.size, 0, none⟩ = some (.int .i64 (xk : Int)) := cell_blk (heap_alloc_new wr _) 0
                  have y1 : (wr.alloc (.cells #[.int .i64 (xk : Int), .int .i64 (xn : Int), .slice A2 dt.length c2, .bool false] 116)).drew.cell? ⟨wr.heap.size, 1, none⟩ = some (.int .i64 (xn : Int)) := cell_blk (heap_alloc_new wr _) 1
                  have y2 : (wr.alloc (.cells #[.int .i64 (xk : Int), .int .i64 (xn : Int), .slice A2 dt.length c2, .bool false] 116)).drew.cell? ⟨wr.heap.size, 2, none⟩ = some (.slice A2 dt.length c2) := cell_blk (heap_alloc_new wr _) 2
                  have y3 : (wr.alloc (.cells #[.int .i64 (xk : Int), .int .i64 (xn : Int), .slice A2 dt.length c2, .bool false] 116)).drew.cell? ⟨wr.heap.size, 3, none⟩ = some (.bool false) := cell_blk (heap_alloc_new wr _) 3
                  have HLD := Lib.hid (HLJ.out.ext hxx)
                  have HXX := Lib.hid hxx
                  have y4 := HLD.out.log.cells.1
                  have y5 := HLD.out.log.cells.2.2.1
                  have HS8D := Lib.hid (HS8.out.ext (hxx.keep _))
                  have HXJ : Hid (wr.heap.size ∉ Fj) := fun hm => by have := HLJ.out.disk.lt _ hm; omega
                  have HEQ : Hid (((l.base + (l.used + j) : Nat) : Int) = (l.base : Int) + ((l.used : Int) + (j : Int))) := by unfold Hid; omega
                  have HEQ2 : Hid ((2 : Int) + ((l.used + j : Nat) : Int) = 2 + ((l.used : Int) + (j : Int))) := by unfold Hid; omega
                  have hw1 := wrap_i64_id ((l.base : Int) + ((l.used : Int) + (j : Int))) (by unfold topW at hbs5; omega)
                  have hw2 := wrap_i64_id (2 + ((l.used : Int) + (j : Int))) (by omega)
                  have hbb : l.base + (l.used + j) ≤ 4611686018427387904 := by unfold topW at hbs5; omega
                  have HBB := Lib.hid hbb
                  obtain ⟨r, hr⟩ : ∃ r, r = (dj.write (2 + ((l.used + j : Nat) : Int)) (entryB xk xn xd (l.base + (l.used + j)))).1 := ⟨_, rfl⟩
                  have HRR := Lib.hid hr
                  have hww := write_wait dj (2 + ((l.used + j : Nat) : Int)) (entryB xk xn xd (l.base + (l.used + j)))
                  have hwn := write_now dj (2 + ((l.used + j : Nat) : Int)) (entryB xk xn xd (l.base + (l.used + j)))
                  have HWN := Lib.hid hwn
                  have HWW : Hid ((dj.write (2 + ((l.used + j : Nat) : Int)) (entryB xk xn xd (l.base + (l.used + j)))).2.wait.length ≤ d.wait.length + (j + 1)) := by have := HWJ.out; unfold Hid; omega
                  have HWB : Hid (dj.wait.length < 1000000000) := by have := HWJ.out; have := HW5.out; unfold Hid; omega
                  have HST : Hid (layS l.base d l.used E = if r ≠ 0 then dj.write (2 + ((l.used + j : Nat) : Int)) (entryB xk xn xd (l.base + (l.used + j))) else layS l.base (dj.write (2 + ((l.used + j : Nat) : Int)) (entryB xk xn xd (l.base + (l.used + j)))).2 (l.used + j + 1) (E.drop (j + 1))) := by
                    rw [Hid, HLY.out, HDR.out, hr]; rfl
                  have HEBL : Hid ((entryB xk xn xd (l.base + (l.used + j))).length = 64) := by rw [Hid, ← HPAD.out]; exact entryB_length (padS_length hdtl)
                  clear hxx hr hww hwn hlt5
                  go_wp2
                  go_region_held3 (fun w' => w'.cell? ⟨lb, 0, none⟩ = some (.pointer (some ⟨db, 0, none⟩)) ∧ w'.cell? ⟨lb, 2, none⟩ = some (.int .i64 (l.base : Int)) ∧ w'.cell? ⟨wr.heap.size, 0, none⟩ = some (.int .i64 (xk : Int)) ∧ w'.cell? ⟨wr.heap.size, 1, none⟩ = some (.int .i64 (xn : Int)) ∧ w'.cell? ⟨wr.heap.size, 2, none⟩ = some (.slice A2 dt.length c2) ∧ w'.cell? ⟨wr.heap.size, 3, none⟩ = some (.bool false)) (first | exact ⟨y4, y5, y0, y1, y2, y3⟩ | exact ⟨z4, z5, z0, z1, z2, z3⟩ | exact ⟨u4', u5', u0', u1', u2', u3'⟩) (first
                    | (go_at_call 71; rw [← HEQ.out]; (refine (ebytes_at _ _ xk xn (l.base + (l.used + j)) A2 dt.length c2 dt rfl HS8D.out hdtl HEJ.out.1 HEJ.out.2 HBB.out false).mono ?_); rw [HPAD.out]; rintro e w7 ⟨g7, rfl, h1, h2, h3⟩; have HL7 := Lib.hid (HLD.out.ext h3); have HX7 := Lib.hid (HXX.out.trans h3); have HE7 : Hid (Sl Kd.u8 Fj w7 (some ⟨g7, 0, none⟩) 64 (entryB xk xn xd (l.base + (l.used + j)))) := Pre.sl8 h1 (fun hm => by have := HLD.out.disk.lt _ hm; omega) (by rw [HEBL.out]; omega) (by rw [HEBL.out]; omega); have z0 := (h3.keep []).cell_some y0 (by simp); have z1 := (h3.keep []).cell_some y1 (by simp); have z2 := (h3.keep []).cell_some y2 (by simp); have z3 := (h3.keep []).cell_some y3 (by simp); have z4 := (h3.keep []).cell_some y4 (by simp); have z5 := (h3.keep []).cell_some y5 (by simp); clear h1 h2 h3)
                    | (go_at_call 21; rw [← HEQ2.out]; refine (write_any _ Fj db dj HL7.out.disk (2 + ((l.used + j : Nat) : Int)) (entryB xk xn xd (l.base + (l.used + j))) (some ⟨g7, 0, none⟩) 64 64 HEBL.out HE7.out HWB.out).mono ?_; rw [← HRR.out]; rintro e w8 ⟨rfl, F8, h1, h2, h3⟩; have HL8 := Lib.hid (HL7.out.redisk h1 h2 HWN.out); have HK78 := Lib.hid ((HX7.out.keep Fj).trans h2); have HF8 := Lib.hid h3; have u0' := h2.cell_some z0 HXJ.out; have u1' := h2.cell_some z1 HXJ.out; have u2' := h2.cell_some z2 HXJ.out; have u3' := h2.cell_some z3 HXJ.out; have u4' := h2.cell_some z4 HLJ.out.out; have u5' := h2.cell_some z5 HLJ.out.out; clear h1 h2 h3))
                  have HK8 := Lib.hid (HKJ.out.trans (HK78.out.widen2 lb))
                  by_cases he : r = 0
                  · subst he
                    have HST2 := Lib.hid (HST.out.trans (if_neg (by simp)))
                    have HSE8 := Lib.hid (HSJ.out.ext (HK78.out.widen2 lb))
                    have HSA8 := Lib.hid (HAJ.out.ext (HK78.out.widen2 lb))
                    go_wp2
                    go_roundw
                    case rel => exact ⟨j + 1, _, F8, by omega, by go_num, HL8.out, HK8.out, fun x hx => HF8.out x (HFJ.out x hx), HST2.out, HWW.out, HSE8.out, HSA8.out⟩
                    case measure => simp [intOf] <;> omega
                  · have d0 : (r != 0) = true := by simpa using he
                    have HST2 := Lib.hid (HST.out.trans (if_pos he))
                    have HRES : Hid (commitS d l ws = (r, (dj.write (2 + ((l.used + j : Nat) : Int)) (entryB xk xn xd (l.base + (l.used + j)))).2, l)) := by
                      rw [Hid, HC5.out, HSHT.out, HST2.out, ← HRR.out, if_pos he]
                    clear he
                    go_wp2
                    go_ret
                    exact CommitR.of HRES.out rfl HL8.out HK8.out (fun x hx => HF8.out x (HFJ.out x hx))
                · obtain rfl : j = E.length := by omega
                  have HLE : Hid (layS l.base d l.used E = (0, dj)) := by rw [Hid, HLY.out, List.drop_length]; rfl
                  obtain ⟨f, hf⟩ : ∃ f, f = dj.flush.1 := ⟨_, rfl⟩
                  have HFF := Lib.hid hf
                  have hfn := flush_now dj
                  have hfw := flush_wait dj
                  have HFN : Hid (dj.flush.2.now.length = dj.now.length) := by unfold Hid; rw [hfn]
                  have b0 := HLJ.out.log.cells.1
                  have hud := HLJ.out.used
                  have hsz6 := HLJ.out.size
                  have hcm := HLJ.out.commits
                  have hdl6 := HLJ.out.disk.len
                  by_cases hf0 : f = 0
                  · subst hf0
                    have HRES : Hid (commitS d l ws = ((redoS l.size dj.flush.2 ws).1, (redoS l.size dj.flush.2 ws).2, { l with used := l.used + (2 * ws.length + 1), commits := l.commits + 1 })) := by
                      rw [Hid, HC5.out, HSHT.out, HLE.out]
                      show (if (0 : Int) ≠ 0 then _ else if dj.flush.1 ≠ 0 then _ else _) = _
                      rw [if_neg (by simp), ← hf, if_neg (by simp)]
                    have HFW : Hid (dj.flush.2.wait.length + ws.length < 1000000000) := by have := HWJ.out; have := HW5.out; unfold Hid; omega
                    clear hf hfn hfw
                    go_wp2_with fail
                    refine (flush_any wr Fj db dj HLJ.out.disk).mono ?_
                    rw [← HFF.out]
                    rintro e w7 ⟨rfl, h1, h2⟩
                    have HL7 := Lib.hid (HLJ.out.redisk h1 h2 HFN.out)
                    have HK7 := Lib.hid (HKJ.out.trans (h2.widen2 lb))
                    have HS7 := Lib.hid (HAJ.out.ext (h2.widen2 lb))
                    obtain ⟨tb, hb7⟩ := HL7.out.log
                    have HB7 := Lib.hid hb7
                    have q4 := cell_blk hb7 4
                    have q6 := cell_blk hb7 6
                    have qf4 := frozen_blk hb7 4
                    have qf6 := frozen_blk hb7 6
                    clear h1 h2 hb7 b0
                    have HN4 : Hid (((l.used + (2 * ws.length + 1) : Nat) : Int) = (l.used : Int) + (2 * (ws.length : Int) + 1)) := by unfold Hid; omega
                    have HN6 : Hid (((l.commits + 1 : Nat) : Int) = (l.commits : Int) + 1) := by unfold Hid; omega
                    have hw4 := wrap_i64_id ((l.used : Int) + (2 * (ws.length : Int) + 1)) (by omega)
                    go_wp2_with fail
                    have hb8 : ((w7.setCell ⟨lb, 4, none⟩ (.int .i64 ((l.used : Int) + (2 * (ws.length : Int) + 1)))).setCell ⟨lb, 6, none⟩ (.int .i64 ((l.commits : Int) + 1))).heap[lb]? = some (.cells #[.pointer (some ⟨db, 0, none⟩), .int .i64 (l.size : Int), .int .i64 (l.base : Int), .int .i64 (l.slot : Int), .int .i64 ((l.used : Int) + (2 * (ws.length : Int) + 1)), .int .i64 (l.life : Int), .int .i64 ((l.commits : Int) + 1)] tb (0, 0)) := by
                      rw [set_blk (set_blk HB7.out 4 _) 6]; rfl
                    have hK8 : Keep [lb] w7 [lb] ((w7.setCell ⟨lb, 4, none⟩ (.int .i64 ((l.used : Int) + (2 * (ws.length : Int) + 1)))).setCell ⟨lb, 6, none⟩ (.int .i64 ((l.commits : Int) + 1))) := (Keep.setCell [lb] _ _ _ (by simp)).trans (Keep.setCell [lb] _ _ _ (by simp))
                    generalize ((w7.setCell ⟨lb, 4, none⟩ (.int .i64 ((l.used : Int) + (2 * (ws.length : Int) + 1)))).setCell ⟨lb, 6, none⟩ (.int .i64 ((l.commits : Int) + 1))) = w8 at *
                    obtain ⟨l6, hl6⟩ : ∃ l6 : Lg, l6 = { l with used := l.used + (2 * ws.length + 1), commits := l.commits + 1 } := ⟨_, rfl⟩
                    have HL8 : Hid (LogOn w8 Fj lb db dj.flush.2 l6) := by
                      refine ⟨HL7.out.disk.far hK8 (fun x hx => by simp; intro e; exact HL7.out.out (e ▸ hx)), ⟨tb, ?_⟩, HL7.out.out, ?_, ?_, ?_, ?_, ?_, ?_⟩
                      · rw [hb8, hl6, HN4.out, HN6.out]
                      · rw [hl6]; exact HL7.out.size
                      · rw [hl6]; exact HL7.out.base
                      · rw [hl6]; exact HL7.out.slot
                      · rw [hl6]; show l.used + (2 * ws.length + 1) ≤ l.size; exact HFIT.out
                      · rw [hl6]; exact HL7.out.life
                      · rw [hl6]; show l.commits + 1 ≤ _; have := HCC5.out; omega
                    have HK8 := Lib.hid (HK7.out.trans (hK8.widen3 Fj))
                    have HS8 := Lib.hid (HS7.out.ext (hK8.widen3 Fj))
                    rw [← hl6] at HRES
                    have HSZ6 : Hid (l6.size = l.size) := by rw [hl6]; rfl
                    clear hb8 hK8 hl6 q4 q6 qf4 qf6
                    refine (redo_ok w8 Fj lb db dj.flush.2 l6 HL8.out ws A c (HS8.out.ext (Keep.sub w8 (fun b hb => List.mem_cons_of_mem _ hb))) HFW.out (fun x hx => ⟨(HMAY.out x hx).1, (HMAY.out x hx).2.1⟩)).mono ?_
                    rw [HSZ6.out]
                    rintro e w9 ⟨rfl, F9, h1, h2, h3⟩
                    have hsn := seqR_now l.size ws dj.flush.2
                    have HL9 := Lib.hid (HL8.out.redisk h1 h2 hsn)
                    have HK9 := Lib.hid (HK8.out.trans (h2.widen2 lb))
                    have HF9 := Lib.hid h3
                    clear h1 h2 h3 hsn
                    obtain ⟨z, hz⟩ : ∃ z, z = (redoS l.size dj.flush.2 ws).1 := ⟨_, rfl⟩
                    rw [← hz] at HRES ⊢
                    clear hz
                    go_wp2
                    go_ret
                    exact CommitR.of HRES.out rfl HL9.out HK9.out (fun x hx => HF9.out x (HFJ.out x hx))
                  · have d0 : (f != 0) = true := by simpa using hf0
                    have HRES : Hid (commitS d l ws = (f, dj.flush.2, l)) := by
                      rw [Hid, HC5.out, HSHT.out, HLE.out]
                      show (if (0 : Int) ≠ 0 then _ else if dj.flush.1 ≠ 0 then _ else _) = _
                      rw [if_neg (by simp), ← hf, if_pos hf0]
                    clear hf hfn hfw hf0
                    go_wp2_with fail
                    refine (flush_any wr Fj db dj HLJ.out.disk).mono ?_
                    rw [← HFF.out]
                    rintro e w7 ⟨rfl, h1, h2⟩
                    have HL7 := Lib.hid (HLJ.out.redisk h1 h2 HFN.out)
                    have HK7 := Lib.hid (HKJ.out.trans (h2.widen2 lb))
                    clear h1 h2 b0
                    go_wp2
                    go_ret
                    exact CommitR.of HRES.out rfl HL7.out HK7.out HFJ.out
  · have d0 : (a != 0) = true := by simpa using h0
    have HR : Hid (commitS d l ws = (a, d, l)) := by
      unfold Hid commitS; rw [← HA.out, if_pos h0]
    clear ha h0
    go_enter Try.func16, Try.ntmps16
    go_wp2_with fail
    refine (alive_ok _ F db lb d l HL.out.disk HL.out.log).mono ?_
    rw [← HA.out]
    rintro e w1 ⟨rfl, hx⟩
    have HX := Lib.hid hx
    clear hx
    go_wp2
    go_ret
    exact CommitR.of HR.out rfl (HL.out.ext HX.out) (HX.out.keep _) (fun x hx => hx)
end Go.Proofs.Ytkmnjccklnfcdaa
