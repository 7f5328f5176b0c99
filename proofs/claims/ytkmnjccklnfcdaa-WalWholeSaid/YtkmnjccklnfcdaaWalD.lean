/- slices.Grow of nothing, slices.Concat. A log: the transaction from a place on. A log: all that it says. -/
import Derived.Test.YtkmnjccklnfcdaaWalC
import Derived.Test.YtkmnjccklnfcdaaCrcV
import Derived.Test.YtkmnjccklnfcdaaPlainA
import Derived.Lib.AppendZerosOnto
namespace Go.Proofs.Ytkmnjccklnfcdaa
open Go Go.RowKit Bst
set_option linter.unusedVariables false
set_option linter.unusedSimpArgs false
theorem wp_append_run {P : Program} {ops : Array Oper} {rest : List Oper} {o : Oper} {a : Act} {Q : Exit → Act → World → Prop} (hgd : o.guard = none) (t t' : TypeId) (s x : Operand) (ho : o.op = .call { callee := .builtin .append, args := #[s, x], argTypes := #[t, t'] }) (w : World) (u v r : Value) (hs : a.eval s = u) (hx : a.eval x = v) (w' : World) (hr : (Builtin.append_ #[t, t'] o.type #[u, v]).run P w = .ok r w')
    (h : wpList P ops Q rest (a.put o.dst r) w') : wpList P ops Q (o :: rest) a w :=
  wpList_plain hgd fun C hC => by
    unfold Oper.wp execOp
    simp only [ho, resolve, invoke, builtin, Sem.run_bind, Sem.run_pure, Result.andThen_ok, List.map_toArray, List.map_cons, List.map_nil, hs, hx, hr]
    exact hC _ _ h
theorem _root_.Bst.Keep.from_nil {w w' : World} {F' : List Nat} (h : Keep [] w F' w') (F : List Nat) : Keep F w F' w' :=
  ⟨h.os, h.tape, h.output, h.size, fun k hk _ => h.block k hk (by simp), fun b hb => by
    rcases h.fresh b hb with h1 | h1
    · cases h1
    · exact .inr h1⟩
theorem grow_zero (w : World) : Calls Try.prog 138 #[.slice none 0 0, .int .i64 0] w fun e w' => e = .returned (.slice none 0 0) ∧ w = w' := by
  go_enter Try.func138, Try.ntmps138
  go_wp2
  go_ret
  exact ⟨rfl, rfl⟩
set_option maxHeartbeats 1000000 in
theorem grow_some (w : World) (n : Nat) (h0 : 0 < n) (hn : n ≤ 140737488355328) : Calls Try.prog 138 #[.slice none 0 0, .int .i64 (n : Int)] w fun e w' => ∃ v, e = .returned v ∧ Own Kd.u8 [w.heap.size] w' w.heap.size 5 v [] ∧ Keep [] w [w.heap.size] w' := by
  obtain ⟨i0, hi0, hz0, hs0, hb0⟩ := et_u8.hi
  have hhold : (Builtin.firstCells i0.size 0 (.slice none 0 0)).run Try.prog w.drew = .ok ([] : List Value).toArray w.drew := run_firstCells_none w.drew i0.size 0 0 0
  have hrz : ∀ ty, (Builtin.append_ #[41, 3] ty #[.slice none 0 0, .int .i64 (n : Int)]).run Try.prog w = .ok (.slice (some ⟨w.heap.size, 0, none⟩) n (grownCap w n 0 5)) (w.drew.alloc (.cells (Builtin.zeroCells (Value.int .u8 0).cells n ++ Builtin.zeroCells (Value.int .u8 0).cells (grownCap w n 0 5 - n)) 5)) := fun ty => by
    have h := Lib.run_append_grow_zeros w 41 3 ty 5 i0 (.int .u8 0) .i64 .i64 Try.underlying41 Try.underlying3 hi0 hz0 none 0 0 [] hhold n h0 (by rw [hs0]; decide) (by omega) (by omega) (by rw [hb0]; omega) (growslice_fits (by omega) (by rw [hb0]; omega))
    simpa using h
  have hG1 : n ≤ grownCap w n 0 5 := grownCap_ge w _ _ _
  have hG2 := grownCap_le_maxLen w n 0 5 (by unfold maxLen; omega)
  obtain ⟨G, hG⟩ : ∃ G, G = grownCap w n 0 5 := ⟨_, rfl⟩
  obtain ⟨cs, hcs⟩ : ∃ cs, cs = Builtin.zeroCells (Value.int .u8 0).cells n ++ Builtin.zeroCells (Value.int .u8 0).cells (G - n) := ⟨_, rfl⟩
  rw [← hG, ← hcs] at hrz
  rw [← hG] at hG1 hG2
  have HC : Hid (cs.size = G * 1) := by rw [Hid, hcs]; simp [Builtin.zeroCells, Value.cells]; omega
  have HM := Lib.hid hG2
  have hg0 : decide (0 ≤ G) = true := decide_eq_true (Nat.zero_le _)
  have hG63 : G ≤ 9223372036854775807 := by unfold maxLen at hG2; omega
  have d0 : decide ((n : Int) < 0) = false := decide_eq_false (by omega)
  have d1 : decide ((n : Int) > 0) = true := decide_eq_true (by omega)
  have d2 : decide (0 < n) = true := decide_eq_true h0
  clear hG hcs hhold hi0 hz0 hs0 hb0 hG2
  have HRZ := Lib.hid hrz
  clear hrz
  go_enter Try.func138, Try.ntmps138
  go_wp2_with (at_builtin; go_must (refine wp_append_run rfl _ _ _ _ rfl w (.slice none 0 0) (.int .i64 (n : Int)) _ (by rfl) (by rfl) _ (HRZ.out _) ?_))
  go_ret
  refine ⟨_, rfl, ⟨⟨[], ⟨rfl, .inr ⟨w.heap.size, G, cs, rfl, Nat.le_refl _, heap_alloc_new w.drew _, Nat.zero_le _, HM.out, HC.out, rfl⟩⟩, rfl⟩, fun g hg => by simp [Value.ownBlock] at hg; simp [hg]⟩, ?_⟩
  exact ((Ext.drew w).trans (Ext.alloc _ _)).fresh1 (Nat.le_refl _)
theorem own_nil_any (w : World) (v : Value) (h : v = .slice none 0 0) : Own Kd.u8 [w.heap.size] w w.heap.size 5 v [] := by subst h; exact Own.nil _ _ _ _ _
theorem grow_any (w : World) (n : Nat) (hn : n ≤ 140737488355328) : Calls Try.prog 138 #[.slice none 0 0, .int .i64 (n : Int)] w fun e w' => ∃ v, e = .returned v ∧ Own Kd.u8 [w.heap.size] w' w.heap.size 5 v [] ∧ Keep [] w [w.heap.size] w' := by
  by_cases h0 : n = 0
  · subst h0
    refine (grow_zero w).mono ?_
    rintro e w' ⟨rfl, rfl⟩
    exact ⟨_, rfl, own_nil_any w _ rfl, (Ext.refl w).fresh1 (Nat.le_refl _)⟩
  · exact grow_some w n (by omega) hn
theorem flatten_take_snoc {α : Type} (ps : List (List α)) {k : Nat} (h : k < ps.length) : (ps.take (k + 1)).flatten = (ps.take k).flatten ++ ps[k] := by
  rw [List.take_succ_eq_append_getElem h, List.flatten_append]; simp
theorem flatten_take_le {α : Type} (ps : List (List α)) (k : Nat) : (ps.take k).flatten.length ≤ ps.flatten.length := by
  conv => rhs; rw [← List.take_append_drop k ps, List.flatten_append, List.length_append]
  omega
theorem _root_.Go.Proofs.Ytkmnjccklnfcdaa.sl_any {α : Type} {K : Kd α} {F F' : List Nat} {w w' : World} {base : Nat} {e : TypeId} {v : Value} {l : List α} (h : Own K F w base e v l) (hl : l.length ≤ 140737488355328) (hF : ∀ x ∈ F', x < base) : ∃ A c, v = .slice A l.length c ∧ Sl K [] w A c l := by
  obtain ⟨A, c, rfl, hs⟩ := h.form hl
  exact ⟨A, c, rfl, hs [] (fun _ h => by cases h)⟩
set_option maxHeartbeats 1000000 in
/-- Bytes, one behind the other. -/
theorem concat_ok (F : List Nat) (w : World) (A : Option Addr) (c : Nat) (ps : List (List UInt8)) (hs : Sl (Kd.slice Kd.u8) F w A c ps) (hl : ps.flatten.length ≤ 1000000000000) (q : Nat) (hq : ps.length = q) :
    Calls Try.prog 131 #[.slice A q c] w fun e w' => ∃ A' c', e = .returned (.slice A' ps.flatten.length c') ∧ Sl Kd.u8 [] w' A' c' ps.flatten ∧ (∀ g o, A' = some ⟨g, o, none⟩ → w.heap.size ≤ g) ∧ Ext w w' := by
  subst hq
  have hle := hs.len_le
  have HS := Lib.hid hs
  have HT := fun k => flatten_take_le ps k
  clear hs
  obtain ⟨N, hN⟩ : ∃ N, N = ps.flatten.length := ⟨_, rfl⟩
  have HNN := Lib.hid hN
  have HTH := Lib.hid HT
  have hN2 : N ≤ 1000000000000 := by omega
  clear HT hN hl
  go_enter Try.func131, Try.ntmps131
  go_wp2
  go_loop [3, 11] (fun xv iv => ∃ k : Nat, k ≤ ps.length ∧ iv = .int .i64 (k : Int) ∧ xv = .int .i64 ((ps.take k).flatten.length : Int)) (fun _ iv => ps.length - (intOf iv).toNat)
  case atStart => exact ⟨0, Nat.zero_le _, rfl, rfl⟩
  case round =>
    obtain ⟨k, hk, rfl, rfl⟩ := hrel
    by_cases hlt : k < ps.length
    · obtain ⟨g, o, A2, c2, rfl, hc, hs⟩ := Sl.row_at HS.out hlt
      have HSN := Lib.hid (congrArg List.length (flatten_take_snoc ps hlt))
      have h1 := HTH.out (k + 1)
      have h2 := congrArg List.length (flatten_take_snoc ps hlt)
      rw [List.length_append] at h2
      rw [← HNN.out] at h1
      have HM := Lib.hid h2
      rw [h2] at h1
      clear h2 hs HSN
      generalize (ps.take k).flatten.length = m at *
      generalize ps[k] = p at *
      have hm : m + p.length ≤ 1000000000000 := by omega
      have d0 : decide ((m : Int) + (p.length : Int) < 0) = false := decide_eq_false (by omega)
      clear h1
      go_wp2
      go_round
      case rel => exact ⟨k + 1, by omega, by go_num, by rw [HM.out]; go_num⟩
      case measure => simp [intOf] <;> omega
    · obtain rfl : k = ps.length := by omega
      have HTE : Hid ((ps.take ps.length).flatten.length = N) := by rw [Hid, List.take_length, HNN.out]
      rw [HTE.out]
      go_wp2_with (go_at_call 138; refine (grow_any w N (by omega)).mono ?_; rintro e w1 ⟨v0, rfl, h1, h2⟩; have HO := Lib.hid h1; have HK := Lib.hid h2; clear h1 h2)
      go_loopw [6, 27] (fun xv iv wr => ∃ (k : Nat) (Fk : List Nat), k ≤ ps.length ∧ iv = .int .i64 (k : Int) ∧ Hid (Own Kd.u8 Fk wr w.heap.size 5 xv (ps.take k).flatten) ∧ Hid (Keep [] w Fk wr)) (fun _ iv _ => ps.length - (intOf iv).toNat)
      case atStart => exact ⟨0, _, Nat.zero_le _, rfl, HO.out, HK.out⟩
      case round =>
        obtain ⟨k, Fk, hk, rfl, HO, HK⟩ := hrel
        by_cases hlt : k < ps.length
        · obtain ⟨g, o, A2, c2, rfl, hc, hs⟩ := Sl.row_at (HS.out.ext (HK.out.from_nil F)) hlt
          have HS2 := Lib.hid hs
          have h1 := HTH.out (k + 1)
          have h2 := flatten_take_snoc ps hlt
          have HAP := Lib.hid h2
          rw [← HNN.out, h2, List.length_append] at h1
          have HBD : Hid ((ps.take k).flatten.length + ps[k].length ≤ N) := h1
          have HSZ : Hid (w.heap.size ≤ wr.heap.size) := HK.out.size
          generalize (ps.take k).flatten = m at *
          generalize ps[k] = p at *
          clear h1 h2 hs
          go_wp2_with (at_builtin; go_must (refine wp_app (K := Kd.u8) et_u8 rfl _ _ (by rfl) wr w.heap.size Fk _ m p A2 c2 (by rfl) (by rfl) HO.out HS2.out (by have := HBD.out; omega) (by have := HBD.out; omega) HSZ.out ?_); intro v' w4 F' hown hk hk0 hF; have HOW := Lib.hid hown; have HKW := Lib.hid (HK.out.trans hk); clear hown hk hk0 hF)
          go_roundw
          case rel => exact ⟨k + 1, F', by omega, by go_num, by rw [HAP.out]; exact HOW.out, HKW.out⟩
          case measure => simp [intOf] <;> omega
        · obtain rfl : k = ps.length := by omega
          have ho := HO.out
          rw [List.take_length] at ho
          obtain ⟨A', c', rfl, hs⟩ := ho.form (by rw [← HNN.out]; omega)
          have hblk : ∀ g o, A' = some ⟨g, o, none⟩ → w.heap.size ≤ g := fun g o e => (ho.lt g (by rw [e]; rfl)).1
          have HSR := Lib.hid (hs [] (fun _ h => by cases h))
          have HBLK := Lib.hid hblk
          clear ho hs hblk
          go_wp2
          go_ret
          exact ⟨A', c', rfl, HSR.out, HBLK.out, HK.out.toExt⟩
end Go.Proofs.Ytkmnjccklnfcdaa
namespace Go.Proofs.Ytkmnjccklnfcdaa
open Go Go.RowKit Bst
set_option linter.unusedVariables false
set_option linter.unusedSimpArgs false
/-- What 'one' answers. -/
def OneR (F : List Nat) (w : World) (p : Nat) (r : Option (List (Int × Sec) × Nat)) (e : Ending) (w' : World) : Prop :=
  (r = none → e = .returned (.tuple #[.slice none 0 0, .int .i64 0]) ∧ Ext w w') ∧
  (∀ ws next, r = some (ws, next) → ∃ A c, e = .returned (.tuple #[.slice A ws.length c, .int .i64 ((next : Int) - (p : Int))]) ∧ Sl KApi F w' A c ws ∧ Ext w w')
theorem OneR.none_ {F : List Nat} {w w' : World} {p : Nat} {r : Option (List (Int × Sec) × Nat)} {e : Ending} (h : r = none) (he : e = .returned (.tuple #[.slice none 0 0, .int .i64 0])) (hx : Ext w w') : OneR F w p r e w' :=
  ⟨fun _ => ⟨he, hx⟩, fun ws next h2 => by rw [h] at h2; cases h2⟩
theorem homes_at (w : World) (F : List Nat) (db lb : Nat) (d : Dsk) (l : Lg) (h : LogOn w F lb db d l) (n : Nat) (hn : homesS d.now l.size = n) :
    Calls Try.prog 22 #[.pointer (some ⟨lb, 0, none⟩)] w fun e w' => e = .returned (.int .i64 (n : Int)) ∧ Ext w w' := by
  rw [← hn]; exact homes_ok w F db lb d l h.disk h.log h.size.2
theorem nought_at2 (F : List Nat) (w : World) (A : Option Addr) (c m : Nat) (b : List UInt8) (hb : Sl Kd.u8 F w A c b) (hm : b.length = m) (x : Bool) (hx : nought b = x) :
    Calls Try.prog 109 #[.slice A m c] w fun e w' => e = .returned (.bool x) ∧ w = w' := by
  subst hm; rw [← hx]; exact noughts_ok F w A c b hb
theorem sl_pair {w : World} {F : List Nat} {A1 A2 : Option Addr} {m1 m2 c1 c2 : Nat} {x y : List UInt8} (t : TypeId) (h1 : Sl Kd.u8 F w A1 c1 x) (h2 : Sl Kd.u8 F w A2 c2 y) (e1 : x.length = m1) (e2 : y.length = m2) (hF : ∀ b ∈ F, b < w.heap.size) :
    Sl (Kd.slice Kd.u8) F (w.alloc (.cells #[.slice A1 m1 c1, .slice A2 m2 c2] t)) (some ⟨w.heap.size, 0, none⟩) 2 [x, y] := by
  subst e1; subst e2
  have k := (Ext.alloc w (.cells #[.slice A1 x.length c1, .slice A2 y.length c2] t)).keep F
  have hb := heap_alloc_new w (.cells #[.slice A1 x.length c1, .slice A2 y.length c2] t)
  refine ⟨Nat.le_refl _, by simp, fun _ => ⟨w.heap.size, 0, rfl, by simp, fun hm => by have := hF _ hm; omega, fun i z hz => ?_⟩⟩
  match i, hz with
  | 0, hz =>
    simp at hz; subst hz
    refine ⟨_, ⟨A1, c1, rfl, h1.ext k⟩, fun j u hu => ?_⟩
    obtain rfl : j = 0 := by have := (List.getElem?_eq_some_iff.1 hu).1; simp at this; omega
    simp at hu; subst hu
    exact cell_blk hb 0
  | 1, hz =>
    simp at hz; subst hz
    refine ⟨_, ⟨A2, c2, rfl, h2.ext k⟩, fun j u hu => ?_⟩
    obtain rfl : j = 0 := by have := (List.getElem?_eq_some_iff.1 hu).1; simp at this; omega
    simp at hu; subst hu
    exact cell_blk hb 1
  | i + 2, hz => simp at hz
/-- What a slice reads as outside of blocks that are all below it. -/
theorem sl_reF {α : Type} {K : Kd α} {F : List Nat} {w : World} {A : Option Addr} {c : Nat} {l : List α} (h : Sl K [] w A c l) (hb : l ≠ [] → ∀ g o, A = some ⟨g, o, none⟩ → g ∉ F) (hR : ∀ cs x, K.R [] w cs x → x ∈ l → K.R F w cs x) : Sl K F w A c l := by
  refine ⟨h.1, h.2.1, fun hn => ?_⟩
  obtain ⟨g, o, rfl, hg, _, hc⟩ := h.2.2 hn
  refine ⟨g, o, rfl, hg, hb (fun e => by rw [e] at hn; exact absurd hn (Nat.lt_irrefl _)) g o rfl, fun i x hx => ?_⟩
  obtain ⟨cs, hr, hcell⟩ := hc i x hx
  exact ⟨cs, hR cs x hr (List.mem_of_getElem? hx), hcell⟩
theorem et_api : ET Try.prog 22 100 (.agg #[.int .i64 0, .slice none 0 0]) 2 32 := ⟨Try.underlying22, info_parts (by kernel_rfl), rfl, by decide⟩
theorem concat2_ok (F G : List Nat) (w : World) (A : Option Addr) (c : Nat) (x y : List UInt8) (hs : Sl (Kd.slice Kd.u8) F w A c [x, y]) (hx : x.length = 32) (hy : y.length = 32) (hG : ∀ b ∈ G, b < w.heap.size) :
    Calls Try.prog 131 #[.slice A 2 c] w fun e w' => ∃ A' c', e = .returned (.slice A' 64 c') ∧ Sl Kd.u8 G w' A' c' (x ++ y) ∧ Ext w w' := by
  have e : [x, y].flatten = x ++ y := by simp
  have el : [x, y].flatten.length = 64 := by rw [e, List.length_append, hx, hy]
  refine (concat_ok F w A c [x, y] hs (by rw [el]; decide) 2 rfl).mono ?_
  rintro e' w' ⟨A', c', rfl, h1, h2, h3⟩
  rw [el]
  rw [e] at h1
  exact ⟨A', c', rfl, sl_reF h1 (fun _ g o hA hm => by have := h2 g o hA; have := hG g hm; omega) (fun cs x h _ => h), h3⟩
/-- A write appended. -/
theorem one_app (w w9 : World) (Fk : List Nat) (A0 : Option Addr) (c0 : Nat) (out : List (Int × Sec)) (ho : Own KApi Fk w9 w.heap.size 100 (.slice A0 out.length c0) out) (nm : Nat) (A9 : Option Addr) (c9 : Nat) (dt : Sec) (hd : dt.length = 64) (hs : Sl Kd.u8 Fk w9 A9 c9 dt) (hn : nm < 4294967296)
    (hl : out.length ≤ 100000) (hF : ∀ b ∈ Fk, b < w9.heap.size) (hw : w.heap.size ≤ w9.heap.size) :
    ∃ v' w' F', (Builtin.append_ #[22, 22] 22 #[.slice A0 out.length c0, .slice (some ⟨w9.heap.size, 0, none⟩) 1 1]).run Try.prog (w9.alloc (.cells #[.int .i64 (nm : Int), .slice A9 64 c9] 100)) = .ok v' w' ∧ Own KApi F' w' w.heap.size 100 v' (out ++ [((nm : Int), dt)]) ∧
      (Keep (Value.slice A0 out.length c0).ownBlock.toList w9 (Value.slice A0 out.length c0).ownBlock.toList w' ∧ ∀ b ∈ F', b < w'.heap.size) ∧ ∀ b ∈ Fk, b ∈ F' := by
  have hR : KApi.R Fk w9 [.int .i64 (nm : Int), .slice A9 64 c9] ((nm : Int), dt) := ⟨[_], [_], rfl, ⟨rfl, InI64.of (by omega) (by omega)⟩, ⟨A9, c9, by rw [hd], hs⟩⟩
  obtain ⟨v', w', F', hr, h1, h2, ⟨h3, h4⟩, h5⟩ := run_app et_api 22 (w9.alloc (.cells #[.int .i64 (nm : Int), .slice A9 64 c9] 100)) w.heap.size Fk (.slice A0 out.length c0) out [((nm : Int), dt)] (some ⟨w9.heap.size, 0, none⟩) 1 (ho.alloc _) (Sl.single hR hF) (by simp; omega) (by simp; omega) (by simp; omega)
  exact ⟨v', w', F', hr, h1, ⟨((Ext.alloc w9 _).keep _).trans h3, h4 (fun b hb => Nat.lt_of_lt_of_le (hF b hb) (by simp))⟩, h5⟩
set_option maxRecDepth 100000 in
set_option maxHeartbeats 4000000 in
theorem one_ok (w : World) (F : List Nat) (lb db : Nat) (d : Dsk) (l : Lg) (h : LogOn w F lb db d l) (ho : d.off = false) (p : Nat) (hp : p ≤ l.size) :
    Calls Try.prog 110 #[.pointer (some ⟨lb, 0, none⟩), .int .i64 (p : Int)] w (OneR F w p (oneS d.now l.base l.size (l.size + 1) p [])) := by
  have HL := Lib.hid h
  have HO := Lib.hid ho
  have hsz := h.size
  have hdl := h.disk.len
  have hbs := h.base
  obtain ⟨hn, hhn⟩ : ∃ hn, hn = homesS d.now l.size := ⟨_, rfl⟩
  have HHN := Lib.hid hhn.symm
  have HBT : Hid (l.base + l.size ≤ 4611686018427387904) := by unfold Hid; have := hbs.2; unfold topW at this; omega
  have HFL : Hid (∀ x ∈ F, x < w.heap.size) := h.disk.lt
  clear h ho hhn
  go_enter Try.func110, Try.ntmps110
  go_wp2
  go_loopw [6, 7] (fun ov iv wr => ∃ (q f : Nat) (out : List (Int × Sec)) (Fk : List Nat), q ≤ l.size ∧ p ≤ q ∧ iv = .int .i64 (q : Int) ∧ Hid (Own KApi Fk wr w.heap.size 100 ov out) ∧ Hid (Ext w wr) ∧ Hid (∀ x ∈ F, x ∈ Fk) ∧ Hid (oneS d.now l.base l.size (l.size + 1) p [] = oneS d.now l.base l.size (f + 1) q out) ∧ Hid (2 * out.length + p = q) ∧ Hid (2 * (f + 1) + q = 2 * (l.size + 1) + p) ∧ Hid (∀ x ∈ Fk, x < wr.heap.size)) (fun _ iv _ => l.size - (intOf iv).toNat)
  case atStart => exact ⟨p, l.size, [], F, by omega, Nat.le_refl _, rfl, Own.nil _ _ _ _ _, Ext.refl _, fun x hx => hx, rfl, by simp [Hid], by simp [Hid], HFL.out⟩
  case round =>
    obtain ⟨q, f, out, Fk, hq, hpq, rfl, HOUT, HX0, HFF, HONE, HLEN, HF, HFK⟩ := hrel
    have hol : out.length ≤ 16384 := by have := HLEN.out; omega
    have HL0 : Hid (LogOn wr F lb db d l) := HL.out.ext HX0.out
    obtain ⟨A0, c0, hov, -⟩ := HOUT.out.form (by omega)
    subst hov
    have HALL : Hid (oneS d.now l.base l.size (l.size + 1) p [] = (match placeS d.now l.base l.size q with
      | none => none
      | some (k, n, dt) =>
        if k = 3 ∧ out ≠ [] ∧ n = out.length ∧ nought dt = true then some (out, q + 1)
        else if k ≠ 1 ∨ homesS d.now l.size ≤ n then none
        else match placeS d.now l.base l.size (q + 1) with
          | none => none
          | some (k2, n2, dt2) => if k2 = 2 ∧ n2 = n then oneS d.now l.base l.size f (q + 2) (out ++ [((n : Int), dt ++ dt2)]) else none)) := by
      unfold Hid; rw [HONE.out]; rfl
    clear hol
    go_wp2_with fail
    refine (at_ok _ F db lb d l HL0.out.disk HL0.out.log q HL0.out.size.2 HO.out HBT.out).mono ?_
    rintro e w1 ⟨kd, nm, A, m, c, okb, rfl, hx1, hkd, hnm, hno, hyes⟩
    have HX1 := Lib.hid (HX0.out.trans hx1)
    have HXR1 := Lib.hid hx1
    cases hp : placeS d.now l.base l.size q with
    | none =>
      have HNONE : Hid (oneS d.now l.base l.size (l.size + 1) p [] = none) := by
        have := HALL.out
        rw [hp] at this
        exact this
      obtain rfl := hno hp
      clear hp hno hyes hx1
      go_wp2
      go_ret2
      exact OneR.none_ HNONE.out rfl (HX1.out.trans (Ext.alloc _ _))
    | some x =>
      obtain ⟨k, n, dt⟩ := x
      have HAL2 : Hid (oneS d.now l.base l.size (l.size + 1) p [] = (if k = 3 ∧ out ≠ [] ∧ n = out.length ∧ nought dt = true then some (out, q + 1)
        else if k ≠ 1 ∨ homesS d.now l.size ≤ n then none
        else match placeS d.now l.base l.size (q + 1) with
          | none => none
          | some (k2, n2, dt2) => if k2 = 2 ∧ n2 = n then oneS d.now l.base l.size f (q + 2) (out ++ [((n : Int), dt ++ dt2)]) else none)) := by
        have := HALL.out
        rw [hp] at this
        exact this
      obtain ⟨rfl, rfl, rfl, rfl, hdl1, hsl1⟩ := hyes _ _ _ hp
      have HS1 := Lib.hid hsl1
      have HD1 := Lib.hid hdl1
      clear hp HALL HONE hno hyes hx1 hsl1 hdl1
      by_cases h3 : kd = 3
      · subst h3
        by_cases hz : out = []
        · have h0 : decide (0 < out.length) = false := by rw [hz]; rfl
          have HNONE : Hid (oneS d.now l.base l.size (l.size + 1) p [] = none) := by
            have := HAL2.out
            rw [if_neg (by rw [hz]; simp), if_pos (by simp)] at this
            exact this
          clear hz
          go_wp2
          refine wp_region_any (by kernel_rfl) ?_
          try (change wpAny _ _ _ _ _ _ _ (World.drew _))
          refine wpAny_take (i := 0) (oi := ⟨some 47, _, _, _, _, _⟩) (v := ?_) rfl (by kernel_rfl) (by kernel_rfl) (by kernel_rfl) (fun _ _ _ h => h) (Or.inl ⟨by rfl, ?_⟩) ?_
          rotate_left
          · ((intro w; go_simp); try with_reducible rfl)
          try simp only [Act.put, List.setIfInBounds_toArray, List.set_cons_zero, List.set_cons_succ]
          refine wpAny_ready (rs := [1]) (by kernel_rfl) (by simp) ?_
          refine AllReady.cons rfl (fun K hK => ?_) ?_
          · go_simp
            refine hK _ _ ?_
            clear hK K
            try simp only [Act.put, List.setIfInBounds_toArray, List.set_cons_zero, List.set_cons_succ]
            refine wpAny_take (i := 2) (oi := ⟨some 49, _, _, _, _, _⟩) (v := ?_) rfl (by kernel_rfl) (by kernel_rfl) (by kernel_rfl) (fun _ _ _ h => h) (Or.inl ⟨by rfl, ?_⟩) ?_
            rotate_left
            · ((intro w; go_simp); try with_reducible rfl)
            try simp only [Act.put, List.setIfInBounds_toArray, List.set_cons_zero, List.set_cons_succ]
            refine wpAny_take (i := 3) (oi := ⟨some 50, _, _, _, _, _⟩) (v := ?_) rfl (by kernel_rfl) (by kernel_rfl) (by kernel_rfl) (fun _ _ _ h => h) (Or.inl ⟨by rfl, ?_⟩) ?_
            rotate_left
            · ((intro w; go_simp); try with_reducible rfl)
            try simp only [Act.put, List.setIfInBounds_toArray, List.set_cons_zero, List.set_cons_succ]
            refine wpAny_take (i := 4) (oi := ⟨some 51, _, _, _, _, _⟩) (v := undef) rfl (by kernel_rfl) (by kernel_rfl) (by kernel_rfl) (fun _ _ _ h => h) (Or.inr ⟨by rfl, rfl⟩) ?_
            try simp only [Act.put, List.setIfInBounds_toArray, List.set_cons_zero, List.set_cons_succ]
            refine wpAny_take (i := 5) (oi := ⟨some 52, _, _, _, _, _⟩) (v := undef) rfl (by kernel_rfl) (by kernel_rfl) (by kernel_rfl) (fun _ _ _ h => h) (Or.inr ⟨by rfl, rfl⟩) ?_
            try simp only [Act.put, List.setIfInBounds_toArray, List.set_cons_zero, List.set_cons_succ]
            refine wpAny_take (i := 6) (oi := ⟨some 53, _, _, _, _, _⟩) (v := undef) rfl (by kernel_rfl) (by kernel_rfl) (by kernel_rfl) (fun _ _ _ h => h) (Or.inr ⟨by rfl, rfl⟩) ?_
            try simp only [Act.put, List.setIfInBounds_toArray, List.set_cons_zero, List.set_cons_succ]
            refine wpAny_take (i := 7) (oi := ⟨some 54, _, _, _, _, _⟩) (v := undef) rfl (by kernel_rfl) (by kernel_rfl) (by kernel_rfl) (fun _ _ _ h => h) (Or.inr ⟨by rfl, rfl⟩) ?_
            try simp only [Act.put, List.setIfInBounds_toArray, List.set_cons_zero, List.set_cons_succ]
            refine wpAny_take (i := 8) (oi := ⟨some 55, _, _, _, _, _⟩) (v := undef) rfl (by kernel_rfl) (by kernel_rfl) (by kernel_rfl) (fun _ _ _ h => h) (Or.inr ⟨by rfl, rfl⟩) ?_
            try simp only [Act.put, List.setIfInBounds_toArray, List.set_cons_zero, List.set_cons_succ]
            refine wpAny_take (i := 9) (oi := ⟨some 56, _, _, _, _, _⟩) (v := ?_) rfl (by kernel_rfl) (by kernel_rfl) (by kernel_rfl) (fun _ _ _ h => h) (Or.inl ⟨by rfl, ?_⟩) ?_
            rotate_left
            · ((intro w; go_simp); try with_reducible rfl)
            try simp only [Act.put, List.setIfInBounds_toArray, List.set_cons_zero, List.set_cons_succ]
            refine wpAny_take (i := 10) (oi := ⟨some 46, _, _, _, _, _⟩) (v := ?_) rfl (by kernel_rfl) (by kernel_rfl) (by kernel_rfl) (fun _ _ _ h => h) (Or.inl ⟨by rfl, ?_⟩) ?_
            rotate_left
            · ((intro w; go_simp); try with_reducible rfl)
            try simp only [Act.put, List.setIfInBounds_toArray, List.set_cons_zero, List.set_cons_succ]
            refine wpAny_done (by kernel_rfl) ?_ _
            go_wp2
            go_ret2
            exact OneR.none_ HNONE.out rfl ((HX1.out.trans (Ext.alloc _ _)).trans (Ext.drew _))
          exact AllReady.nil
        · have h0 : decide (0 < out.length) = true := by
            have : out.length ≠ 0 := fun e => hz (List.eq_nil_of_length_eq_zero e)
            exact decide_eq_true (by omega)
          by_cases hl : nm = out.length
          · have h1 : ((nm : Int) == (out.length : Int)) = true := by rw [hl]; simp
            cases hnt : nought dt
            · have HNT := Lib.hid hnt
              have HNONE : Hid (oneS d.now l.base l.size (l.size + 1) p [] = none) := by
                have := HAL2.out
                rw [if_neg (by rw [hnt]; simp), if_pos (by simp)] at this
                exact this
              clear hnt hl hz
              go_wp2_with (go_at_call 109; refine (nought_at2 F _ A c 32 dt (HS1.out.ext ((Ext.alloc _ _).keep F)) HD1.out false HNT.out).mono ?_; rintro e w' ⟨rfl, rfl⟩)
              refine wp_region_any (by kernel_rfl) ?_
              try (change wpAny _ _ _ _ _ _ _ (World.drew _))
              refine wpAny_take (i := 0) (oi := ⟨some 47, _, _, _, _, _⟩) (v := ?_) rfl (by kernel_rfl) (by kernel_rfl) (by kernel_rfl) (fun _ _ _ h => h) (Or.inl ⟨by rfl, ?_⟩) ?_
              rotate_left
              · ((intro w; go_simp); try with_reducible rfl)
              try simp only [Act.put, List.setIfInBounds_toArray, List.set_cons_zero, List.set_cons_succ]
              refine wpAny_ready (rs := [1]) (by kernel_rfl) (by simp) ?_
              refine AllReady.cons rfl (fun K hK => ?_) ?_
              · go_simp
                refine hK _ _ ?_
                clear hK K
                try simp only [Act.put, List.setIfInBounds_toArray, List.set_cons_zero, List.set_cons_succ]
                refine wpAny_take (i := 2) (oi := ⟨some 49, _, _, _, _, _⟩) (v := ?_) rfl (by kernel_rfl) (by kernel_rfl) (by kernel_rfl) (fun _ _ _ h => h) (Or.inl ⟨by rfl, ?_⟩) ?_
                rotate_left
                · ((intro w; go_simp); try with_reducible rfl)
                try simp only [Act.put, List.setIfInBounds_toArray, List.set_cons_zero, List.set_cons_succ]
                refine wpAny_take (i := 3) (oi := ⟨some 50, _, _, _, _, _⟩) (v := ?_) rfl (by kernel_rfl) (by kernel_rfl) (by kernel_rfl) (fun _ _ _ h => h) (Or.inl ⟨by rfl, ?_⟩) ?_
                rotate_left
                · ((intro w; go_simp); try with_reducible rfl)
                try simp only [Act.put, List.setIfInBounds_toArray, List.set_cons_zero, List.set_cons_succ]
                refine wpAny_take (i := 4) (oi := ⟨some 51, _, _, _, _, _⟩) (v := undef) rfl (by kernel_rfl) (by kernel_rfl) (by kernel_rfl) (fun _ _ _ h => h) (Or.inr ⟨by rfl, rfl⟩) ?_
                try simp only [Act.put, List.setIfInBounds_toArray, List.set_cons_zero, List.set_cons_succ]
                refine wpAny_take (i := 5) (oi := ⟨some 52, _, _, _, _, _⟩) (v := undef) rfl (by kernel_rfl) (by kernel_rfl) (by kernel_rfl) (fun _ _ _ h => h) (Or.inr ⟨by rfl, rfl⟩) ?_
                try simp only [Act.put, List.setIfInBounds_toArray, List.set_cons_zero, List.set_cons_succ]
                refine wpAny_take (i := 6) (oi := ⟨some 53, _, _, _, _, _⟩) (v := undef) rfl (by kernel_rfl) (by kernel_rfl) (by kernel_rfl) (fun _ _ _ h => h) (Or.inr ⟨by rfl, rfl⟩) ?_
                try simp only [Act.put, List.setIfInBounds_toArray, List.set_cons_zero, List.set_cons_succ]
                refine wpAny_take (i := 7) (oi := ⟨some 54, _, _, _, _, _⟩) (v := undef) rfl (by kernel_rfl) (by kernel_rfl) (by kernel_rfl) (fun _ _ _ h => h) (Or.inr ⟨by rfl, rfl⟩) ?_
                try simp only [Act.put, List.setIfInBounds_toArray, List.set_cons_zero, List.set_cons_succ]
                refine wpAny_take (i := 8) (oi := ⟨some 55, _, _, _, _, _⟩) (v := undef) rfl (by kernel_rfl) (by kernel_rfl) (by kernel_rfl) (fun _ _ _ h => h) (Or.inr ⟨by rfl, rfl⟩) ?_
                try simp only [Act.put, List.setIfInBounds_toArray, List.set_cons_zero, List.set_cons_succ]
                refine wpAny_take (i := 9) (oi := ⟨some 56, _, _, _, _, _⟩) (v := ?_) rfl (by kernel_rfl) (by kernel_rfl) (by kernel_rfl) (fun _ _ _ h => h) (Or.inl ⟨by rfl, ?_⟩) ?_
                rotate_left
                · ((intro w; go_simp); try with_reducible rfl)
                try simp only [Act.put, List.setIfInBounds_toArray, List.set_cons_zero, List.set_cons_succ]
                refine wpAny_take (i := 10) (oi := ⟨some 46, _, _, _, _, _⟩) (v := ?_) rfl (by kernel_rfl) (by kernel_rfl) (by kernel_rfl) (fun _ _ _ h => h) (Or.inl ⟨by rfl, ?_⟩) ?_
                rotate_left
                · ((intro w; go_simp); try with_reducible rfl)
                try simp only [Act.put, List.setIfInBounds_toArray, List.set_cons_zero, List.set_cons_succ]
                refine wpAny_done (by kernel_rfl) ?_ _
                go_wp2
                go_ret2
                exact OneR.none_ HNONE.out rfl ((HX1.out.trans (Ext.alloc _ _)).trans (Ext.drew _))
              exact AllReady.nil
            · have HNT := Lib.hid hnt
              have HSOME : Hid (oneS d.now l.base l.size (l.size + 1) p [] = some (out, q + 1)) := by
                have := HAL2.out
                rw [if_pos ⟨rfl, hz, hl, hnt⟩] at this
                exact this
              have HQ : Hid (((q + 1 : Nat) : Int) = (q : Int) + 1) := by unfold Hid; omega
              clear hl hnt hz
              go_wp2_with (go_at_call 109; refine (nought_at2 F _ A c 32 dt (HS1.out.ext ((Ext.alloc _ _).keep F)) HD1.out true HNT.out).mono ?_; rintro e w' ⟨rfl, rfl⟩)
              go_ret2
              have HSL : Sl KApi F wr A0 c0 out := by
                obtain ⟨A', c', he, hs⟩ := HOUT.out.form (by have := HLEN.out; omega)
                injection he with e1 _ e2
                subst e1; subst e2
                exact hs F (fun b hb => ⟨HFF.out b hb, fun e => by have := (HOUT.out.lt b e).1; have := HFL.out b hb; omega⟩)
              refine ⟨(fun h => by rw [HSOME.out] at h; cases h), fun ws next h => ?_⟩
              rw [HSOME.out] at h
              injection h with h
              injection h with e1 e2
              subst e1; subst e2
              exact ⟨A0, c0, by rw [HQ.out]; rfl, HSL.ext ((HXR1.out.trans (Ext.alloc _ _)).keep F), HX1.out.trans (Ext.alloc _ _)⟩
          · have h1 : ((nm : Int) == (out.length : Int)) = false := by simp; omega
            have HNONE : Hid (oneS d.now l.base l.size (l.size + 1) p [] = none) := by
              have := HAL2.out
              rw [if_neg (by simp [hl]), if_pos (by simp)] at this
              exact this
            clear hl hz
            go_wp2
            refine wp_region_any (by kernel_rfl) ?_
            try (change wpAny _ _ _ _ _ _ _ (World.drew _))
            refine wpAny_take (i := 0) (oi := ⟨some 47, _, _, _, _, _⟩) (v := ?_) rfl (by kernel_rfl) (by kernel_rfl) (by kernel_rfl) (fun _ _ _ h => h) (Or.inl ⟨by rfl, ?_⟩) ?_
            rotate_left
            · ((intro w; go_simp); try with_reducible rfl)
            try simp only [Act.put, List.setIfInBounds_toArray, List.set_cons_zero, List.set_cons_succ]
            refine wpAny_ready (rs := [1]) (by kernel_rfl) (by simp) ?_
            refine AllReady.cons rfl (fun K hK => ?_) ?_
            · go_simp
              refine hK _ _ ?_
              clear hK K
              try simp only [Act.put, List.setIfInBounds_toArray, List.set_cons_zero, List.set_cons_succ]
              refine wpAny_take (i := 2) (oi := ⟨some 49, _, _, _, _, _⟩) (v := ?_) rfl (by kernel_rfl) (by kernel_rfl) (by kernel_rfl) (fun _ _ _ h => h) (Or.inl ⟨by rfl, ?_⟩) ?_
              rotate_left
              · ((intro w; go_simp); try with_reducible rfl)
              try simp only [Act.put, List.setIfInBounds_toArray, List.set_cons_zero, List.set_cons_succ]
              refine wpAny_take (i := 3) (oi := ⟨some 50, _, _, _, _, _⟩) (v := ?_) rfl (by kernel_rfl) (by kernel_rfl) (by kernel_rfl) (fun _ _ _ h => h) (Or.inl ⟨by rfl, ?_⟩) ?_
              rotate_left
              · ((intro w; go_simp); try with_reducible rfl)
              try simp only [Act.put, List.setIfInBounds_toArray, List.set_cons_zero, List.set_cons_succ]
              refine wpAny_take (i := 4) (oi := ⟨some 51, _, _, _, _, _⟩) (v := undef) rfl (by kernel_rfl) (by kernel_rfl) (by kernel_rfl) (fun _ _ _ h => h) (Or.inr ⟨by rfl, rfl⟩) ?_
              try simp only [Act.put, List.setIfInBounds_toArray, List.set_cons_zero, List.set_cons_succ]
              refine wpAny_take (i := 5) (oi := ⟨some 52, _, _, _, _, _⟩) (v := undef) rfl (by kernel_rfl) (by kernel_rfl) (by kernel_rfl) (fun _ _ _ h => h) (Or.inr ⟨by rfl, rfl⟩) ?_
              try simp only [Act.put, List.setIfInBounds_toArray, List.set_cons_zero, List.set_cons_succ]
              refine wpAny_take (i := 6) (oi := ⟨some 53, _, _, _, _, _⟩) (v := undef) rfl (by kernel_rfl) (by kernel_rfl) (by kernel_rfl) (fun _ _ _ h => h) (Or.inr ⟨by rfl, rfl⟩) ?_
              try simp only [Act.put, List.setIfInBounds_toArray, List.set_cons_zero, List.set_cons_succ]
              refine wpAny_take (i := 7) (oi := ⟨some 54, _, _, _, _, _⟩) (v := undef) rfl (by kernel_rfl) (by kernel_rfl) (by kernel_rfl) (fun _ _ _ h => h) (Or.inr ⟨by rfl, rfl⟩) ?_
              try simp only [Act.put, List.setIfInBounds_toArray, List.set_cons_zero, List.set_cons_succ]
              refine wpAny_take (i := 8) (oi := ⟨some 55, _, _, _, _, _⟩) (v := undef) rfl (by kernel_rfl) (by kernel_rfl) (by kernel_rfl) (fun _ _ _ h => h) (Or.inr ⟨by rfl, rfl⟩) ?_
              try simp only [Act.put, List.setIfInBounds_toArray, List.set_cons_zero, List.set_cons_succ]
              refine wpAny_take (i := 9) (oi := ⟨some 56, _, _, _, _, _⟩) (v := ?_) rfl (by kernel_rfl) (by kernel_rfl) (by kernel_rfl) (fun _ _ _ h => h) (Or.inl ⟨by rfl, ?_⟩) ?_
              rotate_left
              · ((intro w; go_simp); try with_reducible rfl)
              try simp only [Act.put, List.setIfInBounds_toArray, List.set_cons_zero, List.set_cons_succ]
              refine wpAny_take (i := 10) (oi := ⟨some 46, _, _, _, _, _⟩) (v := ?_) rfl (by kernel_rfl) (by kernel_rfl) (by kernel_rfl) (fun _ _ _ h => h) (Or.inl ⟨by rfl, ?_⟩) ?_
              rotate_left
              · ((intro w; go_simp); try with_reducible rfl)
              try simp only [Act.put, List.setIfInBounds_toArray, List.set_cons_zero, List.set_cons_succ]
              refine wpAny_done (by kernel_rfl) ?_ _
              go_wp2
              go_ret2
              exact OneR.none_ HNONE.out rfl ((HX1.out.trans (Ext.alloc _ _)).trans (Ext.drew _))
            exact AllReady.nil
      · have h3b : ((kd : Int) == 3) = false := by simp; omega
        by_cases h1 : kd = 1
        · subst h1
          have HAL3 : Hid (oneS d.now l.base l.size (l.size + 1) p [] = (if hn ≤ nm then none
            else match placeS d.now l.base l.size (q + 1) with
              | none => none
              | some (k2, n2, dt2) => if k2 = 2 ∧ n2 = nm then oneS d.now l.base l.size f (q + 2) (out ++ [((nm : Int), dt ++ dt2)]) else none)) := by
            have := HAL2.out
            rw [if_neg (by simp), HHN.out] at this
            rw [Hid, this]
            by_cases hh : hn ≤ nm
            · rw [if_pos hh, if_pos (Or.inr hh)]
            · rw [if_neg hh, if_neg (by simp; omega)]
          clear h3 HAL2
          go_wp2
          have hbx := heap_alloc_new w1 (.cells #[.int .i64 1, .int .i64 (nm : Int), .slice A 32 c, .bool true] 116)
          have hxx := Ext.alloc w1 (.cells #[.int .i64 1, .int .i64 (nm : Int), .slice A 32 c, .bool true] 116)
          generalize (w1.alloc (.cells #[.int .i64 1, .int .i64 (nm : Int), .slice A 32 c, .bool true] 116)) = w2 at *
          obtain ⟨X, hX⟩ : ∃ X, X = w1.heap.size := ⟨_, rfl⟩
          rw [← hX] at hbx ⊢
          have HX2 := Lib.hid (HX1.out.trans hxx)
          have HXR2 := Lib.hid (HXR1.out.trans hxx)
          have HS2 := Lib.hid (HS1.out.ext (hxx.keep F))
          have HBX := Lib.hid hbx
          have x0 := cell_blk hbx 0
          have x1 := cell_blk hbx 1
          have HLD := Lib.hid (HL.out.ext (HX2.out.trans (Ext.drew _)))
          have HXX := Lib.hid hX
          have HX12 := Lib.hid hxx
          clear hbx hxx hX
          by_cases hh : hn ≤ nm
          · have d0 : decide (hn ≤ nm) = true := decide_eq_true hh
            have HNONE : Hid (oneS d.now l.base l.size (l.size + 1) p [] = none) := by
              have := HAL3.out
              rw [if_pos hh] at this
              exact this
            go_region_held3 (fun w' => w'.cell? ⟨X, 0, none⟩ = some (.int .i64 1) ∧ w'.cell? ⟨X, 1, none⟩ = some (.int .i64 (nm : Int))) (first | exact ⟨x0, x1⟩ | exact ⟨y0, y1⟩) ((go_at_call 22; refine (homes_at _ F db lb d l HLD.out hn HHN.out).mono ?_; rintro e w3 ⟨rfl, hx3⟩; have y0 := (hx3.keep []).cell_some x0 (by simp); have y1 := (hx3.keep []).cell_some x1 (by simp); have HX3 := Lib.hid ((HX2.out.trans (Ext.drew _)).trans hx3); clear hx3))
            go_wp2
            go_ret2
            exact OneR.none_ HNONE.out rfl HX3.out
          · have d0 : decide (hn ≤ nm) = false := decide_eq_false hh
            have HAL4 : Hid (oneS d.now l.base l.size (l.size + 1) p [] = (match placeS d.now l.base l.size (q + 1) with
              | none => none
              | some (k2, n2, dt2) => if k2 = 2 ∧ n2 = nm then oneS d.now l.base l.size f (q + 2) (out ++ [((nm : Int), dt ++ dt2)]) else none)) := by
              have := HAL3.out
              rw [if_neg hh] at this
              exact this
            have HQ1 : Hid (((q + 1 : Nat) : Int) = (q : Int) + 1) := by unfold Hid; omega
            clear HAL3 hh
            go_region_held3 (fun w' => w'.cell? ⟨X, 0, none⟩ = some (.int .i64 1) ∧ w'.cell? ⟨X, 1, none⟩ = some (.int .i64 (nm : Int))) (first | exact ⟨x0, x1⟩ | exact ⟨y0, y1⟩) ((go_at_call 22; refine (homes_at _ F db lb d l HLD.out hn HHN.out).mono ?_; rintro e w3 ⟨rfl, hx3⟩; have y0 := (hx3.keep []).cell_some x0 (by simp); have y1 := (hx3.keep []).cell_some x1 (by simp); have HX3 := Lib.hid ((HX2.out.trans (Ext.drew _)).trans hx3); have HXR3 := Lib.hid ((Ext.drew w2).trans hx3); clear hx3))
            clear x0 x1
            go_wp2_with fail
            rw [← HQ1.out]
            have HL3 := Lib.hid (HL.out.ext HX3.out)
            refine (at_ok _ F db lb d l HL3.out.disk HL3.out.log (q + 1) HL3.out.size.2 HO.out HBT.out).mono ?_
            rintro e w4 ⟨kd2, nm2, A2, m2, c2, ok2, rfl, hx4, hkd2, hnm2, hno2, hyes2⟩
            rw [HQ1.out]
            have HX4 := Lib.hid (HX3.out.trans hx4)
            have HXR4 := Lib.hid (HXR3.out.trans hx4)
            have z1 := (hx4.keep []).cell_some y1 (by simp)
            have z2 := ((HXR3.out.trans hx4).keep []).cell_some (cell_blk HBX.out 2) (by simp)
            have hz1 := World.new_ne w4 _ z1
            have hzl := World.block_lt_of_cell? w4 _ z1
            clear y0 y1
            cases hp2 : placeS d.now l.base l.size (q + 1) with
            | none =>
              have HNONE : Hid (oneS d.now l.base l.size (l.size + 1) p [] = none) := by
                have := HAL4.out
                rw [hp2] at this
                exact this
              obtain rfl := hno2 hp2
              clear hp2 hno2 hyes2 hx4
              go_wp2
              go_ret2
              exact OneR.none_ HNONE.out rfl (HX4.out.trans (Ext.alloc _ _))
            | some x =>
              obtain ⟨k2, n2, dt2⟩ := x
              have HAL5 : Hid (oneS d.now l.base l.size (l.size + 1) p [] = (if k2 = 2 ∧ n2 = nm then oneS d.now l.base l.size f (q + 2) (out ++ [((nm : Int), dt ++ dt2)]) else none)) := by
                have := HAL4.out
                rw [hp2] at this
                exact this
              have hpl : q + 1 < l.size := by
                by_cases hlt : q + 1 < l.size
                · exact hlt
                · unfold placeS at hp2; rw [if_pos (by omega)] at hp2; cases hp2
              obtain ⟨rfl, rfl, rfl, rfl, hdl2, hsl2⟩ := hyes2 _ _ _ hp2
              have HS4 := Lib.hid hsl2
              have HD2 := Lib.hid hdl2
              clear hp2 HAL4 hno2 hyes2 hx4 hsl2 hdl2
              by_cases h2 : kd2 = 2
              · subst h2
                by_cases hn2 : nm2 = nm
                · have t0 : ((nm2 : Int) != (nm : Int)) = false := by rw [hn2]; simp
                  have HAL6 : Hid (oneS d.now l.base l.size (l.size + 1) p [] = oneS d.now l.base l.size f (q + 2) (out ++ [((nm : Int), dt ++ dt2)])) := by
                    have := HAL5.out
                    rw [if_pos ⟨rfl, hn2⟩] at this
                    exact this
                  clear hn2 HAL5
                  go_wp2
                  have hby := heap_alloc_new w4 (.cells #[.int .i64 2, .int .i64 (nm2 : Int), .slice A2 32 c2, .bool true] 116)
                  have hxy := Ext.alloc w4 (.cells #[.int .i64 2, .int .i64 (nm2 : Int), .slice A2 32 c2, .bool true] 116)
                  have hxl := World.block_lt_of_cell? w4 _ z1
                  generalize (w4.alloc (.cells #[.int .i64 2, .int .i64 (nm2 : Int), .slice A2 32 c2, .bool true] 116)) = w5 at *
                  obtain ⟨Y, hY⟩ : ∃ Y, Y = w4.heap.size := ⟨_, rfl⟩
                  rw [← hY] at hby ⊢
                  have a1 := (hxy.keep []).cell_some z1 (by simp)
                  have a2 := (hxy.keep []).cell_some z2 (by simp)
                  have a3 := cell_blk hby 2
                  have l1 := World.new_ne w5 _ a1
                  have l3 := World.new_ne w5 _ a3
                  have HX5 := Lib.hid ((HX4.out.trans hxy).trans (Ext.drew _))
                  have HXR5 := Lib.hid (((HXR2.out.trans HXR4.out).trans hxy).trans (Ext.drew _))
                  have HFL5 : Hid (∀ b ∈ F, b < w5.drew.heap.size) := fun b hb => Nat.lt_of_lt_of_le (HFL.out b hb) HX5.out.size
                  have HXg : Hid (w1.heap.size ≤ X) := by unfold Hid; rw [HXX.out]; exact Nat.le_refl _
                  have HYg : Hid (w1.heap.size ≤ Y) := by unfold Hid; rw [hY]; have := HXR4.out.size; have := HX12.out.size; omega
                  have HSA := Lib.hid ((HS2.out.ext ((HXR4.out.trans hxy).keep F)).ext ((Ext.drew _).keep F))
                  have HSB := Lib.hid ((HS4.out.ext (hxy.keep F)).ext ((Ext.drew _).keep F))
                  have a1' := ((Ext.drew w5).keep []).cell_some a1 (by simp)
                  have a2' := ((Ext.drew w5).keep []).cell_some a2 (by simp)
                  have a3' := ((Ext.drew w5).keep []).cell_some a3 (by simp)
                  have A1' := Lib.hid a1'
                  have A2' := Lib.hid a2'
                  have A3' := Lib.hid a3'
                  clear hby hxy hY z1 z2 hz1 hzl hxl a1' a2' a3'
                  go_region_held3 (fun w' => w'.cell? ⟨X, 1, none⟩ = some (.int .i64 (nm : Int)) ∧ w'.cell? ⟨X, 2, none⟩ = some (.slice A 32 c) ∧ w'.cell? ⟨Y, 2, none⟩ = some (.slice A2 32 c2)) (first | go_keep | exact ⟨b1, b2, b3⟩ | exact ⟨e1, e2, e3⟩) (first
                    | (go_at_call 131; refine (concat2_ok F Fk _ _ 2 dt dt2 (sl_pair 41 HSA.out HSB.out HD1.out HD2.out HFL5.out) HD1.out HD2.out (fun b hb => by have h1 := HFK.out b hb; have h2 := HXR5.out.size; simp at h2 ⊢; omega)).mono ?_; rintro e w9 ⟨A9, c9, rfl, g1, g2⟩; have HX9 := Lib.hid ((Ext.alloc w5.drew _).trans g2); have b1 := (HX9.out.keep []).cell_some A1'.out (by simp); have b2 := (HX9.out.keep []).cell_some A2'.out (by simp); have b3 := (HX9.out.keep []).cell_some A3'.out (by simp); have n1 := World.new_ne w9 _ b1; have n3 := World.new_ne w9 _ b3; obtain ⟨v', w10, F', hr, ho, ⟨hk2, hlt⟩, hsub⟩ := one_app w w9 Fk A0 c0 out (HOUT.out.ext_ (HXR5.out.trans HX9.out)) nm A9 c9 (dt ++ dt2) (by rw [List.length_append, HD1.out, HD2.out]) g1 hnm (by have := HLEN.out; omega) (fun b hb => by have h1 := HFK.out b hb; have h2 := (HXR5.out.trans HX9.out).size; omega) ((HX5.out.trans HX9.out).size); have HR := Lib.hid hr; have e1 := hk2.cell_some b1 (fun hm => by have h1 := (HOUT.out.lt X (by simpa using hm)).2; have h2 := HXg.out; have h3 := HXR1.out.size; omega); have e2 := hk2.cell_some b2 (fun hm => by have h1 := (HOUT.out.lt X (by simpa using hm)).2; have h2 := HXg.out; have h3 := HXR1.out.size; omega); have e3 := hk2.cell_some b3 (fun hm => by have h1 := (HOUT.out.lt Y (by simpa using hm)).2; have h2 := HYg.out; have h3 := HXR1.out.size; omega); have HO := Lib.hid ho; have HK2 := Lib.hid hk2; have HLT := Lib.hid hlt; have HSUB := Lib.hid hsub; clear g1 g2 hr ho hk2 hlt hsub)
                    | (rw [if_pos (by rfl)]; refine st_append _ _ _ _ rfl _ _ _ rfl rfl _ HR.out ?_))
                  have HXE : Hid (Ext w w10) := by
                    have hb : ∀ b ∈ (Value.slice A0 out.length c0).ownBlock.toList, w.heap.size ≤ b := fun b hb => (HOUT.out.lt b (by simpa using hb)).1
                    exact (((HX5.out.trans HX9.out).keep _).trans HK2.out).ext hb
                  have HG1 : Hid (2 * (out ++ [((nm : Int), dt ++ dt2)]).length + p = q + 2) := by have := HLEN.out; unfold Hid; simp; omega
                  have HG2 : Hid (∃ g, f = g + 1) := ⟨f - 1, by have := HF.out; omega⟩
                  obtain ⟨g, hg⟩ := HG2.out
                  have HG := Lib.hid hg
                  clear hg
                  go_wp2
                  go_roundw
                  case rel => exact ⟨q + 2, g, out ++ [((nm : Int), dt ++ dt2)], F', by omega, by omega, by go_num, HO.out, HXE.out, fun x hx => HSUB.out x (HFF.out x hx), by rw [Hid, HAL6.out, HG.out], HG1.out, by have := HF.out; have := HG.out; unfold Hid; omega, HLT.out⟩
                  case measure => simp [intOf] <;> omega
                · have t0 : ((nm2 : Int) != (nm : Int)) = true := by simp; omega
                  have HNONE : Hid (oneS d.now l.base l.size (l.size + 1) p [] = none) := by
                    have := HAL5.out
                    rw [if_neg (by simp [hn2])] at this
                    exact this
                  clear hn2
                  go_wp2
                  go_ret2
                  exact OneR.none_ HNONE.out rfl (HX4.out.trans (Ext.alloc _ _))
              · have t0 : ((kd2 : Int) != 2) = true := by simp; omega
                have HNONE : Hid (oneS d.now l.base l.size (l.size + 1) p [] = none) := by
                  have := HAL5.out
                  rw [if_neg (by simp [h2])] at this
                  exact this
                clear h2
                go_wp2
                go_ret2
                exact OneR.none_ HNONE.out rfl (HX4.out.trans (Ext.alloc _ _))
        · have h1b : ((kd : Int) != 1) = true := by simp; omega
          have HNONE : Hid (oneS d.now l.base l.size (l.size + 1) p [] = none) := by
            have := HAL2.out
            rw [if_neg (by simp [h3]), if_pos (by simp [h1])] at this
            exact this
          clear h3 h1
          go_wp2
          refine wp_region_any (by kernel_rfl) ?_
          try (change wpAny _ _ _ _ _ _ _ (World.drew _))
          refine wpAny_take (i := 0) (oi := ⟨some 47, _, _, _, _, _⟩) (v := ?_) rfl (by kernel_rfl) (by kernel_rfl) (by kernel_rfl) (fun _ _ _ h => h) (Or.inl ⟨by rfl, ?_⟩) ?_
          rotate_left
          · ((intro w; go_simp); try with_reducible rfl)
          try simp only [Act.put, List.setIfInBounds_toArray, List.set_cons_zero, List.set_cons_succ]
          refine wpAny_ready (rs := [1]) (by kernel_rfl) (by simp) ?_
          refine AllReady.cons rfl (fun K hK => ?_) ?_
          · go_simp
            refine hK _ _ ?_
            clear hK K
            try simp only [Act.put, List.setIfInBounds_toArray, List.set_cons_zero, List.set_cons_succ]
            refine wpAny_take (i := 2) (oi := ⟨some 49, _, _, _, _, _⟩) (v := ?_) rfl (by kernel_rfl) (by kernel_rfl) (by kernel_rfl) (fun _ _ _ h => h) (Or.inl ⟨by rfl, ?_⟩) ?_
            rotate_left
            · ((intro w; go_simp); try with_reducible rfl)
            try simp only [Act.put, List.setIfInBounds_toArray, List.set_cons_zero, List.set_cons_succ]
            refine wpAny_take (i := 3) (oi := ⟨some 50, _, _, _, _, _⟩) (v := ?_) rfl (by kernel_rfl) (by kernel_rfl) (by kernel_rfl) (fun _ _ _ h => h) (Or.inl ⟨by rfl, ?_⟩) ?_
            rotate_left
            · ((intro w; go_simp); try with_reducible rfl)
            try simp only [Act.put, List.setIfInBounds_toArray, List.set_cons_zero, List.set_cons_succ]
            refine wpAny_take (i := 4) (oi := ⟨some 51, _, _, _, _, _⟩) (v := undef) rfl (by kernel_rfl) (by kernel_rfl) (by kernel_rfl) (fun _ _ _ h => h) (Or.inr ⟨by rfl, rfl⟩) ?_
            try simp only [Act.put, List.setIfInBounds_toArray, List.set_cons_zero, List.set_cons_succ]
            refine wpAny_take (i := 5) (oi := ⟨some 52, _, _, _, _, _⟩) (v := undef) rfl (by kernel_rfl) (by kernel_rfl) (by kernel_rfl) (fun _ _ _ h => h) (Or.inr ⟨by rfl, rfl⟩) ?_
            try simp only [Act.put, List.setIfInBounds_toArray, List.set_cons_zero, List.set_cons_succ]
            refine wpAny_take (i := 6) (oi := ⟨some 53, _, _, _, _, _⟩) (v := undef) rfl (by kernel_rfl) (by kernel_rfl) (by kernel_rfl) (fun _ _ _ h => h) (Or.inr ⟨by rfl, rfl⟩) ?_
            try simp only [Act.put, List.setIfInBounds_toArray, List.set_cons_zero, List.set_cons_succ]
            refine wpAny_take (i := 7) (oi := ⟨some 54, _, _, _, _, _⟩) (v := undef) rfl (by kernel_rfl) (by kernel_rfl) (by kernel_rfl) (fun _ _ _ h => h) (Or.inr ⟨by rfl, rfl⟩) ?_
            try simp only [Act.put, List.setIfInBounds_toArray, List.set_cons_zero, List.set_cons_succ]
            refine wpAny_take (i := 8) (oi := ⟨some 55, _, _, _, _, _⟩) (v := undef) rfl (by kernel_rfl) (by kernel_rfl) (by kernel_rfl) (fun _ _ _ h => h) (Or.inr ⟨by rfl, rfl⟩) ?_
            try simp only [Act.put, List.setIfInBounds_toArray, List.set_cons_zero, List.set_cons_succ]
            refine wpAny_take (i := 9) (oi := ⟨some 56, _, _, _, _, _⟩) (v := ?_) rfl (by kernel_rfl) (by kernel_rfl) (by kernel_rfl) (fun _ _ _ h => h) (Or.inl ⟨by rfl, ?_⟩) ?_
            rotate_left
            · ((intro w; go_simp); try with_reducible rfl)
            try simp only [Act.put, List.setIfInBounds_toArray, List.set_cons_zero, List.set_cons_succ]
            refine wpAny_take (i := 10) (oi := ⟨some 46, _, _, _, _, _⟩) (v := ?_) rfl (by kernel_rfl) (by kernel_rfl) (by kernel_rfl) (fun _ _ _ h => h) (Or.inl ⟨by rfl, ?_⟩) ?_
            rotate_left
            · ((intro w; go_simp); try with_reducible rfl)
            try simp only [Act.put, List.setIfInBounds_toArray, List.set_cons_zero, List.set_cons_succ]
            refine wpAny_done (by kernel_rfl) ?_ _
            go_wp2
            go_ret2
            exact OneR.none_ HNONE.out rfl ((HX1.out.trans (Ext.alloc _ _)).trans (Ext.drew _))
          exact AllReady.nil
end Go.Proofs.Ytkmnjccklnfcdaa
namespace Go.Proofs.Ytkmnjccklnfcdaa
open Go Go.RowKit Bst
set_option linter.unusedVariables false
set_option linter.unusedSimpArgs false
theorem DiskAt.widen {w : World} {F F' : List Nat} {db : Nat} {d : Dsk} (h : DiskAt w F db d) (hs : ∀ x ∈ F, x ∈ F') (hl : ∀ x ∈ F', x < w.heap.size) : DiskAt w F' db d := by
  obtain ⟨gk, gn, v, h⟩ := h
  exact ⟨gk, gn, v, h.ok, h.head, h.kept, h.now, own_wr h.wait (fun g hg => hs g (h.wait.2 g hg)), h.ne, h.apart, ⟨hs _ h.inF.1, hs _ h.inF.2.1, hs _ h.inF.2.2⟩, hl⟩
theorem LogOn.widen {w : World} {F F' : List Nat} {lb db : Nat} {d : Dsk} {l : Lg} (h : LogOn w F lb db d l) (hs : ∀ x ∈ F, x ∈ F') (hl : ∀ x ∈ F', x < w.heap.size) (hn : lb ∉ F') : LogOn w F' lb db d l :=
  ⟨h.disk.widen hs hl, h.log, hn, h.size, h.base, h.slot, h.used, h.life, h.commits⟩
set_option maxRecDepth 100000 in
set_option maxHeartbeats 2000000 in
theorem says_ok (w : World) (F : List Nat) (lb db : Nat) (d : Dsk) (l : Lg) (h : LogOn w F lb db d l) (ho : d.off = false) :
    Calls Try.prog 67 #[.pointer (some ⟨lb, 0, none⟩)] w fun e w' => ∃ A c, e = .returned (.slice A (saysS d.now l.base l.size (l.size + 1) 0 []).length c) ∧ Sl KApi F w' A c (saysS d.now l.base l.size (l.size + 1) 0 []) ∧ Ext w w' := by
  have HL := Lib.hid h
  have HO := Lib.hid ho
  have hsz := h.size
  have hdl := h.disk.len
  have hsp := saysS_spec (now := d.now) (base := l.base) (size := l.size) (l.size + 1) 0 [] (Nat.zero_le _) (Nat.zero_le _) (fun x hx => by cases hx)
  obtain ⟨S, hS⟩ : ∃ S, S = saysS d.now l.base l.size (l.size + 1) 0 [] := ⟨_, rfl⟩
  have hSl : S.length ≤ 16384 := by rw [hS]; omega
  rw [← hS]
  have HSS := Lib.hid hS
  have HFL : Hid (∀ x ∈ F, x < w.heap.size) := h.disk.lt
  have HLB : Hid (lb < w.heap.size) := h.lt
  clear h ho hS hsp
  go_enter Try.func67, Try.ntmps67
  go_wp2
  go_loopw [3, 4] (fun ov pv wr => ∃ (p f : Nat) (out : List (Int × Sec)) (Fk : List Nat), p ≤ l.size ∧ pv = .int .i64 (p : Int) ∧ Hid (Own KApi Fk wr w.heap.size 100 ov out) ∧ Hid (Ext w wr) ∧ Hid (∀ x ∈ F, x ∈ Fk) ∧ Hid (S = saysS d.now l.base l.size (f + 1) p out) ∧ Hid (2 * out.length ≤ p) ∧ Hid (l.size ≤ f + p) ∧ Hid (∀ x ∈ Fk, x < wr.heap.size) ∧ Hid (lb ∉ Fk)) (fun _ pv _ => l.size - (intOf pv).toNat)
  case atStart => exact ⟨0, l.size, [], F, Nat.zero_le _, rfl, Own.nil _ _ _ _ _, Ext.refl _, fun x hx => hx, HSS.out, Nat.le_refl _, by simp [Hid], HFL.out, HL.out.out⟩
  case round =>
    obtain ⟨p, f, out, Fk, hp, rfl, HOUT, HX0, HFF, HSY, HLEN, HF, HFK, HLK⟩ := hrel
    have HL0 : Hid (LogOn wr Fk lb db d l) := (HL.out.ext HX0.out).widen HFF.out HFK.out HLK.out
    have hol : out.length ≤ 16384 := by have := HLEN.out; omega
    obtain ⟨A0, c0, hov, -⟩ := HOUT.out.form (by omega)
    subst hov
    have HSY2 : Hid (S = (match oneS d.now l.base l.size (l.size + 1) p [] with
      | none => out
      | some (w, next) => saysS d.now l.base l.size f next (out ++ w))) := by unfold Hid; rw [HSY.out, saysS]; rfl
    clear HSY
    go_wp2_with fail
    refine (one_ok wr Fk lb db d l HL0.out HO.out p hp).mono ?_
    rintro e w1 ⟨h1, h2⟩
    cases hq : oneS d.now l.base l.size (l.size + 1) p [] with
    | none =>
      obtain ⟨rfl, hx⟩ := h1 hq
      have HX1 := Lib.hid hx
      have HSO : Hid (S = out) := by
        have := HSY2.out
        rw [hq] at this
        exact this
      clear h1 h2 hq hx
      go_wp2
      go_ret
      have HSL : Sl KApi F wr A0 c0 out := by
        obtain ⟨A', c', he, hs⟩ := HOUT.out.form (by have := HLEN.out; omega)
        injection he with e1 _ e2
        subst e1; subst e2
        exact hs F (fun b hb => ⟨HFF.out b hb, fun e => by have := (HOUT.out.lt b e).1; have := HFL.out b hb; omega⟩)
      exact ⟨A0, c0, by rw [HSO.out]; rfl, by rw [HSO.out]; exact HSL.ext (HX1.out.keep F), HX0.out.trans HX1.out⟩
    | some x =>
      obtain ⟨ws, nx⟩ := x
      obtain ⟨A, c, rfl, hs, hx⟩ := h2 ws nx hq
      obtain ⟨g1, g2, g3, g4, g5⟩ := oneS_spec _ _ _ _ _ (fun x hx => by cases hx) hq
      have HX1 := Lib.hid hx
      have HWS := Lib.hid hs
      have HS2 : Hid (S = saysS d.now l.base l.size f nx (out ++ ws)) := by
        have := HSY2.out
        rw [hq] at this
        exact this
      have HG2 : Hid (∃ g, f = g + 1) := ⟨f - 1, by have := HF.out; omega⟩
      obtain ⟨g, hg⟩ := HG2.out
      have HG := Lib.hid hg
      have t0 : (((nx : Int) - (p : Int)) == 0) = false := by simp; omega
      have HG3 : Hid (2 * (out ++ ws).length ≤ nx) := by have := HLEN.out; unfold Hid; rw [List.length_append]; simp at g3; omega
      have hwl : out.length + ws.length ≤ 16384 := by have := HG3.out; rw [List.length_append] at this; omega
      have HOU1 := Lib.hid (HOUT.out.ext_ HX1.out)
      have HNX : Hid ((p : Int) + ((nx : Int) - (p : Int)) = (nx : Int)) := by unfold Hid; omega
      have HSZ : Hid (w.heap.size ≤ w1.heap.size) := (HX0.out.trans HX1.out).size
      have HFK1 : Hid (∀ x ∈ Fk, x < w1.heap.size) := fun x hx => Nat.lt_of_lt_of_le (HFK.out x hx) HX1.out.size
      clear h1 h2 hq hx hs hg g3 g5 HSY2
      go_wp2_with (at_builtin; go_must (refine wp_app (K := KApi) et_api rfl _ _ (by rfl) w1 w.heap.size Fk _ out ws A c (by rfl) (by rfl) HOU1.out HWS.out (by omega) (by omega) HSZ.out ?_); intro v' w4 F' hown hk hk0 hF; have HOW := Lib.hid hown; have HKW := Lib.hid hk; have HK0 := Lib.hid hk0; have HF2 := Lib.hid hF; clear hown hk hk0 hF)
      have HXE : Hid (Ext w w4) := by
        have hb : ∀ b ∈ (Value.slice A0 out.length c0).ownBlock.toList, w.heap.size ≤ b := fun b hb => (HOUT.out.lt b (by simpa using hb)).1
        exact (((HX0.out.trans HX1.out).keep _).trans HK0.out.1).ext hb
      have HLN : Hid (lb ∉ F') := fun hm => by
        rcases HKW.out.fresh lb hm with h1 | h1
        · exact HLK.out h1
        · have := HLB.out; have := HSZ.out; omega
      go_roundw
      case rel => exact ⟨nx, g, out ++ ws, F', g2, by rw [HNX.out], HOW.out, HXE.out, fun x hx => HF2.out x (HFF.out x hx), by rw [Hid, HS2.out, HG.out], HG3.out, by have := HF.out; have := HG.out; unfold Hid; omega, HK0.out.2 HFK1.out, HLN.out⟩
      case measure => simp [intOf] <;> omega
end Go.Proofs.Ytkmnjccklnfcdaa
