/- From the reading of a call's arguments to the data; from a law's contract to its statement. -/
import Derived.Test.YtkmnjccklnfcdaaLib
import Derived.ProofKit
import Derived.OpenShut
import Derived.Carry
import Derived.ReadAgain
import Derived.Deep.DeepHandedRow
import Derived.Deep.Slices
import Derived.Lib.LaidTab
import Derived.LaidLaws
import Derived.SizedLaws
namespace Bst
open Go Go.ChangeShapes Go.WideShapes Go.RowKit
set_option linter.unusedVariables false

theorem weightsAll_mem {H : Type} {P : Program} {e : TypeId} : ∀ {ds : List (DataW H)} {d : DataW H}, d ∈ ds → ∀ n ∈ d.weights P e, n ∈ DataW.weightsAll P e ds
  | _ :: _, _, h, n, hn => by
    rw [DataW.weightsAll, List.mem_append]
    rcases List.mem_cons.1 h with rfl | h
    · exact .inl hn
    · exact .inr (weightsAll_mem h n hn)

/-- What a reading tells of lengths. -/
abbrev Fits {H : Type} (P : Program) (t : TypeId) (d : DataW H) : Prop := ∀ n ∈ d.weights P t, n ≤ reachBytes
theorem Fits.elem {H : Type} {P : Program} {t e : TypeId} {l s : List (DataW H)} (h : Fits P t (.slice l s)) (ht : P.underlying t = some (.slice e)) {d : DataW H} (hd : d ∈ l) : Fits P e d := by
  intro n hn
  refine h n ?_
  rw [DataW.weights, ht]
  exact List.mem_cons_of_mem _ (List.mem_append_left _ (weightsAll_mem hd n hn))
theorem Fits.len {H : Type} {P : Program} {t e : TypeId} {l s : List (DataW H)} (h : Fits P t (.slice l s)) (ht : P.underlying t = some (.slice e)) (hb : 0 < P.bytesOf e) : l.length ≤ 140737488355328 := by
  have := h ((l.length + s.length) * P.bytesOf e) (by rw [DataW.weights, ht]; exact List.mem_cons_self ..)
  have h2 : (l.length + s.length) * 1 ≤ (l.length + s.length) * P.bytesOf e := Nat.mul_le_mul_left _ hb
  have h3 : reachBytes = 140737488351232 := rfl
  omega
theorem Fits.field {H : Type} {P : Program} {t : TypeId} {fs : Array Field} {l : List (DataW H)} (h : Fits P t (.agg l)) (ht : P.underlying t = some (.struct fs)) {i : Nat} {f : Field} {d : DataW H} (hf : fs[i]? = some f) (hd : l[i]? = some d) : Fits P f.type d := by
  intro n hn
  refine h n ?_
  rw [DataW.weights, ht]
  exact DataW.weights_mem_each (j := i) (by simpa using ⟨f, hf, rfl⟩) hd n hn

/-- The data of a type are of a kind. -/
structure Reads {α : Type} (P : Program) (K : Kd α) (t : TypeId) : Prop where
  sz : P.cellsOf t = K.sz
  rd : ∀ {H : Type} (enc : TypeId × Value → H) (w : World) (base : Nat) (sp : Nat → Bool) (held : Bool) (fuel : Nat) (cs : List Value) (x : DataW H × List MemPlace),
    DataW.trod enc P w base sp held fuel t cs = some x → Fits P t x.1 → ∃ a, K.R [] w cs a

section
variable {P : Program} {t e : TypeId}
theorem Reads.int (ht : P.underlying t = some (.int .i64)) (hc : P.cellsOf t = 1) : Reads P Kd.int t :=
  ⟨hc, fun enc w base sp held fuel cs x h hF => by
    obtain ⟨n, rfl, rfl, hw⟩ := DataW.trod_int ht h
    exact ⟨n, rfl, bounds_i64 hw⟩⟩
theorem Reads.u8 (ht : P.underlying t = some (.int .u8)) (hc : P.cellsOf t = 1) : Reads P Kd.u8 t :=
  ⟨hc, fun enc w base sp held fuel cs x h hF => by
    obtain ⟨n, rfl, rfl, hw⟩ := DataW.trod_int ht h
    have := bounds_u8 hw
    refine ⟨UInt8.ofNat n.toNat, ?_⟩
    show [Value.int .u8 n] = [Value.int .u8 ((UInt8.ofNat n.toNat).toNat : Int)]
    congr 2
    simp only [UInt8.toNat_ofNat']
    omega⟩
theorem Reads.u64 (ht : P.underlying t = some (.int .u64)) (hc : P.cellsOf t = 1) : Reads P Kd.u64 t :=
  ⟨hc, fun enc w base sp held fuel cs x h hF => by
    obtain ⟨n, rfl, rfl, hw⟩ := DataW.trod_int ht h
    have := bounds_u64 hw
    refine ⟨n.toNat, ?_, by omega⟩
    congr 2
    omega⟩
theorem Reads.bool (ht : P.underlying t = some .bool) (hc : P.cellsOf t = 1) : Reads P Kd.bool t :=
  ⟨hc, fun enc w base sp held fuel cs x h hF => by
    obtain ⟨b, rfl, rfl⟩ := DataW.trod_bool ht h
    exact ⟨b, rfl⟩⟩
theorem Reads.str (ht : P.underlying t = some .string) (hc : P.cellsOf t = 1) : Reads P Kd.str t :=
  ⟨hc, fun enc w base sp held fuel cs x h hF => by
    obtain ⟨s, rfl, rfl, hs⟩ := DataW.trod_string ht h
    have := hF s.data.toList.length (by simp [DataW.weights])
    have h3 : reachBytes = 140737488351232 := rfl
    rw [Array.length_toList, ByteArray.size_data] at this
    exact ⟨s, rfl, by omega⟩⟩

theorem Reads.slice_at {α : Type} {K : Kd α} (R : Reads P K e) (hpos : 0 < K.sz) (hby : 0 < P.bytesOf e) (ht : P.underlying t = some (.slice e)) {H : Type} {enc : TypeId × Value → H} {w : World} {base : Nat} {sp : Nat → Bool} {held : Bool} {fuel : Nat} {cs : List Value}
    {x : DataW H × List MemPlace} (h : DataW.trod enc P w base sp held fuel t cs = some x) (hF : Fits P t x.1) : ∃ A c l, cs = [.slice A l.length c] ∧ Sl K [] w A c l := by
  rcases Deep.open_slice ht h with ⟨rfl, rfl⟩ | ⟨a, len, cap, m, n, D, Pl, rfl, hb, hl, hm, hmm, rfl, hx⟩
  · exact ⟨none, 0, [], rfl, Sl.nil ..⟩
  · have hlm : len ≤ m := by rw [hmm]; split <;> omega
    have hlen := hF.len ht hby
    rw [List.length_map, List.length_range] at hlen
    have each : ∀ i : Fin len, ∃ (y : α) (cs' : List Value), w.cells? base (a.add (i.1 * P.cellsOf e)) (P.cellsOf e) = some cs' ∧ K.R [] w cs' y := by
      intro i
      obtain ⟨cs', h1, h2⟩ := hx i.1 (by omega)
      obtain ⟨y, hy⟩ := R.rd enc w base sp held n cs' _ h2 (hF.elem ht (List.mem_map.2 ⟨i.1, List.mem_range.2 i.2, rfl⟩))
      exact ⟨y, cs', h1, hy⟩
    have ⟨f, hf⟩ := Classical.axiomOfChoice each
    refine ⟨some a, cap, List.ofFn f, by rw [List.length_ofFn], by rw [List.length_ofFn]; exact hl, by rw [List.length_ofFn]; exact hlen, fun hn => ?_⟩
    rw [List.length_ofFn] at hn
    obtain ⟨cs0, h0, hR0⟩ := hf ⟨0, hn⟩
    have hs0 := World.cells?_some h0
    have hl0 := K.len hR0
    have hc00 := hs0.2.2 0 (by rw [R.sz]; exact hpos)
    rw [List.getElem?_eq_getElem (by omega)] at hc00
    have hcell0 : w.cell? a = some cs0[0] := by simpa [Addr.add] using hc00
    obtain ⟨g, o, spot⟩ := a
    obtain rfl : spot = none := World.cell?_spot hcell0
    refine ⟨g, o, rfl, World.block_lt_of_cell? w _ hcell0, by simp, fun i y hy => ?_⟩
    have hi : i < len := by
      have := (List.getElem?_eq_some_iff.1 hy).1
      rwa [List.length_ofFn] at this
    obtain ⟨cs', h1, hR⟩ := hf ⟨i, hi⟩
    have hyy : f ⟨i, hi⟩ = y := by
      rw [List.getElem?_ofFn, dif_pos hi] at hy
      exact Option.some.inj hy
    rw [hyy] at hR
    refine ⟨cs', hR, fun j u hu => ?_⟩
    have hs1 := World.cells?_some h1
    have hj : j < P.cellsOf e := by
      have := (List.getElem?_eq_some_iff.1 hu).1
      omega
    have hc1 := hs1.2.2 j hj
    rw [hu] at hc1
    rw [← hc1]
    congr 1
    simp only [R.sz]
    unfold Addr.add
    by_cases e1 : i * K.sz = 0 <;> by_cases e2 : j = 0 <;> simp [e1, e2, Nat.add_assoc]
theorem Reads.slice {α : Type} {K : Kd α} (R : Reads P K e) (hpos : 0 < K.sz) (hby : 0 < P.bytesOf e) (ht : P.underlying t = some (.slice e)) (hc : P.cellsOf t = 1) : Reads P (Kd.slice K) t :=
  ⟨hc, fun enc w base sp held fuel cs x h hF => by
    obtain ⟨A, c, l, rfl, hs⟩ := R.slice_at hpos hby ht h hF
    exact ⟨l, A, c, rfl, hs⟩⟩

/-- The fields of a struct from a place on. -/
structure ReadsFs {α : Type} (P : Program) (K : Kd α) (fs : List Field) (off : Nat) : Prop where
  rd : ∀ {H : Type} (enc : TypeId × Value → H) (w : World) (base : Nat) (sp : Nat → Bool) (held : Bool) (fuel : Nat) (cs : List Value), cs.length = off + K.sz →
    (∀ f ∈ fs, ∃ x, DataW.trod enc P w base sp held fuel f.type ((cs.drop f.offset).take (P.cellsOf f.type)) = some x ∧ Fits P f.type x.1) → ∃ a, K.R [] w (cs.drop off) a
theorem ReadsFs.last {α : Type} {K : Kd α} {f : Field} {off : Nat} (R : Reads P K f.type) (ho : f.offset = off) : ReadsFs P K [f] off := by
  refine ⟨fun {H} enc w base sp held fuel cs hl h => ?_⟩
  obtain ⟨x, hx, hF⟩ := h f (by simp)
  rw [ho, R.sz, List.take_of_length_le (by rw [List.length_drop]; omega)] at hx
  exact R.rd enc w base sp held fuel _ _ hx hF
theorem ReadsFs.cons {α β : Type} {K : Kd α} {L : Kd β} {f : Field} {fs : List Field} {off : Nat} (R : Reads P K f.type) (ho : f.offset = off) (h : ReadsFs P L fs (off + K.sz)) : ReadsFs P (Kd.pair K L) (f :: fs) off := by
  refine ⟨fun {H} enc w base sp held fuel cs hl hh => ?_⟩
  obtain ⟨x, hx, hF⟩ := hh f (by simp)
  rw [ho, R.sz] at hx
  obtain ⟨a, ha⟩ := R.rd enc w base sp held fuel _ _ hx hF
  obtain ⟨b, hb⟩ := h.rd enc w base sp held fuel cs (by simp only [Kd.pair] at hl; omega) (fun g hg => hh g (List.mem_cons_of_mem _ hg))
  refine ⟨(a, b), _, _, ?_, ha, hb⟩
  rw [← List.drop_drop, List.take_append_drop]
theorem Reads.struct {α : Type} {K : Kd α} {fs : Array Field} (h : ReadsFs P K fs.toList 0) (ht : P.underlying t = some (.struct fs)) (hc : P.cellsOf t = K.sz) : Reads P K t :=
  ⟨hc, fun enc w base sp held fuel cs x hx hF => by
    obtain ⟨xs, n, rfl, rfl, hl, hxl, hf⟩ := DataW.trod_struct ht hx
    obtain ⟨a, ha⟩ := h.rd enc w base sp held n cs (by rw [hl, hc]; omega) (fun f hfm => by
      obtain ⟨i, hi⟩ := List.getElem?_of_mem hfm
      have hi2 : fs[i]? = some f := by simpa using hi
      have := hf i f hi2
      rw [List.getElem?_eq_getElem (by rw [hxl]; exact (Array.getElem?_eq_some_iff.1 hi2).1)] at this
      exact ⟨_, this, hF.field ht hi2 (by rw [List.getElem?_map, List.getElem?_eq_getElem (by rw [hxl]; exact (Array.getElem?_eq_some_iff.1 hi2).1)]; rfl)⟩)
    exact ⟨a, by simpa using ha⟩⟩
end

section
variable {H : Type} {enc : TypeId × Value → H} {P : Program} {W W' : World}
/-- An argument that is a slice. -/
theorem arg_sl {α : Type} {K : Kd α} {t e : TypeId} (R : Reads P K e) (hpos : 0 < K.sz) (hby : 0 < P.bytesOf e) (ht : P.underlying t = some (.slice e)) {r : Reach} {b0 base : Nat} {sp : Nat → Bool} {held : Bool} {v : Value} {d : DataW H} {ps : List MemPlace}
    (hval : Value.okWide P W r b0 t v) (h : DataW.Trod enc P W base sp held t v d ps) (hF : Fits P t d) : ∃ A c l, v = .slice A l.length c ∧ Sl K [] W A c l := by
  obtain ⟨a, len, cap, rfl⟩ := okWide_slice ht hval
  obtain ⟨fuel, hf⟩ := h
  obtain ⟨A, c, l, hcs, hs⟩ := R.slice_at hpos hby ht hf hF
  simp [Value.cells] at hcs
  obtain ⟨rfl, rfl, rfl⟩ := hcs
  exact ⟨_, _, l, rfl, hs⟩
theorem arg_int {t : TypeId} (ht : P.underlying t = some (.int .i64)) {r : Reach} {b0 base : Nat} {sp : Nat → Bool} {held : Bool} {v : Value} {d : DataW H} {ps : List MemPlace}
    (hval : Value.okWide P W r b0 t v) (h : DataW.Trod enc P W base sp held t v d ps) : ∃ n, v = .int .i64 n ∧ InI64 n := by
  obtain ⟨n, rfl, rfl, rfl, hw⟩ := open_int ht hval h
  exact ⟨n, rfl, bounds_i64 hw⟩
theorem arg_u8 {t : TypeId} (ht : P.underlying t = some (.int .u8)) {r : Reach} {b0 base : Nat} {sp : Nat → Bool} {held : Bool} {v : Value} {d : DataW H} {ps : List MemPlace}
    (hval : Value.okWide P W r b0 t v) (h : DataW.Trod enc P W base sp held t v d ps) : ∃ n : Nat, v = .int .u8 (n : Int) ∧ n < 256 := by
  obtain ⟨n, rfl, rfl, rfl, hw⟩ := open_int ht hval h
  have := bounds_u8 hw
  exact ⟨n.toNat, by congr 1; omega, by omega⟩

theorem arg_u16 {t : TypeId} (ht : P.underlying t = some (.int .u16)) {r : Reach} {b0 base : Nat} {sp : Nat → Bool} {held : Bool} {v : Value} {d : DataW H} {ps : List MemPlace}
    (hval : Value.okWide P W r b0 t v) (h : DataW.Trod enc P W base sp held t v d ps) : ∃ n : Nat, v = .int .u16 (n : Int) ∧ n < 65536 := by
  obtain ⟨n, rfl, rfl, rfl, hw⟩ := open_int ht hval h
  have := bounds_u16 hw
  exact ⟨n.toNat, by congr 1; omega, by omega⟩
theorem okWide_array2 {t e : TypeId} {n : Nat} (ht : P.underlying t = some (.array n e)) {r : Reach} {b0 : Nat} {v : Value} (h : Value.okWide P W r b0 t v) : ∃ cs, v = .agg cs ∧ cs.size = P.cellsOf t := by
  simp only [Value.okWide, ht] at h
  obtain ⟨cs, h1, h2, _⟩ := h
  exact ⟨cs, h1, h2⟩
theorem Fits.arr {t e : TypeId} {n : Nat} {l : List (DataW H)} (h : Fits P t (.agg l)) (ht : P.underlying t = some (.array n e)) {d : DataW H} (hd : d ∈ l) : Fits P e d := by
  intro m hm
  refine h m ?_
  rw [DataW.weights, ht]
  exact weightsAll_mem hd m hm
/-- An argument that is an array of two, of one cell each. -/
theorem arg_arr2 {t e : TypeId} (ht : P.underlying t = some (.array 2 e)) (hc : P.cellsOf t = 2) (he : P.cellsOf e = 1) {r : Reach} {b0 base : Nat} {sp : Nat → Bool} {held : Bool} {v : Value} {d : DataW H} {ps : List MemPlace}
    (hval : Value.okWide P W r b0 t v) (h : DataW.Trod enc P W base sp held t v d ps) (hF : Fits P t d) :
    ∃ c0 c1 m x0 x1, v = .agg #[c0, c1] ∧ DataW.trod enc P W base sp held m e [c0] = some x0 ∧ Fits P e x0.1 ∧ DataW.trod enc P W base sp held m e [c1] = some x1 ∧ Fits P e x1.1 := by
  obtain ⟨cs, rfl, hsz⟩ := okWide_array2 ht hval
  obtain ⟨fuel, hf⟩ := h
  obtain ⟨xs, m, rfl, hx, hl, hxl, hg⟩ := DataW.trod_array ht hf
  obtain ⟨cl⟩ := cs
  rw [hc] at hsz
  match cl, hsz with
  | [c0, c1], _ =>
  match xs, hxl with
  | [x0, x1], _ =>
  have g0 := hg 0 (by omega)
  have g1 := hg 1 (by omega)
  simp [Value.cells, he] at g0 g1
  injection hx with hx1 hx2
  subst hx1
  exact ⟨c0, c1, m, x0, x1, rfl, g0, hF.arr ht (by simp), g1, hF.arr ht (by simp)⟩
theorem arg_arr2_u16 {t e : TypeId} (ht : P.underlying t = some (.array 2 e)) (hc : P.cellsOf t = 2) (he : P.cellsOf e = 1) (hu : P.underlying e = some (.int .u16)) {r : Reach} {b0 base : Nat} {sp : Nat → Bool} {held : Bool} {v : Value} {d : DataW H} {ps : List MemPlace}
    (hval : Value.okWide P W r b0 t v) (h : DataW.Trod enc P W base sp held t v d ps) (hF : Fits P t d) :
    ∃ a b : Nat, v = .agg #[.int .u16 (a : Int), .int .u16 (b : Int)] ∧ a < 65536 ∧ b < 65536 := by
  obtain ⟨c0, c1, m, x0, x1, rfl, h0, -, h1, -⟩ := arg_arr2 ht hc he hval h hF
  obtain ⟨a, ha, -, wa⟩ := DataW.trod_int hu h0
  obtain ⟨b, hb, -, wb⟩ := DataW.trod_int hu h1
  have ba := bounds_u16 wa
  have bb := bounds_u16 wb
  simp at ha hb
  subst ha hb
  exact ⟨a.toNat, b.toNat, by rw [Int.toNat_of_nonneg ba.1, Int.toNat_of_nonneg bb.1], by omega, by omega⟩
theorem arg_arr2_sl {α : Type} {K : Kd α} {t e u : TypeId} (R : Reads P K u) (hpos : 0 < K.sz) (hby : 0 < P.bytesOf u) (ht : P.underlying t = some (.array 2 e)) (hc : P.cellsOf t = 2) (he : P.cellsOf e = 1) (hu : P.underlying e = some (.slice u)) {r : Reach} {b0 base : Nat} {sp : Nat → Bool} {held : Bool} {v : Value} {d : DataW H} {ps : List MemPlace}
    (hval : Value.okWide P W r b0 t v) (h : DataW.Trod enc P W base sp held t v d ps) (hF : Fits P t d) :
    ∃ A B c k l m, v = .agg #[.slice A l.length c, .slice B m.length k] ∧ Sl K [] W A c l ∧ Sl K [] W B k m := by
  obtain ⟨c0, c1, m, x0, x1, rfl, h0, f0, h1, f1⟩ := arg_arr2 ht hc he hval h hF
  obtain ⟨A, c, l, ha, sa⟩ := R.slice_at hpos hby hu h0 f0
  obtain ⟨B, k, l', hb, sb⟩ := R.slice_at hpos hby hu h1 f1
  simp at ha hb
  subst ha hb
  exact ⟨A, B, c, k, l, l', rfl, sa, sb⟩
/-- Of each argument: what the reach tells. -/
theorem fits_at {ts us : List TypeId} {ds gs : List (DataW H)} (h : (DataW.weightsEach P (ts ++ us) (ds ++ gs)).all (· ≤ reachBytes) = true) {j : Nat} {t : TypeId} {d : DataW H} (ht : (ts ++ us)[j]? = some t) (hd : (ds ++ gs)[j]? = some d) : Fits P t d :=
  fun n hn => by simpa using List.all_eq_true.1 h n (DataW.weights_mem_each ht hd n hn)

theorem trodAll_below (hl : laidOutB P = true) (hb : Below W.heap.size W W') : ∀ {ts : List TypeId} {vs : List Value} {ds : List (DataW H)} {ps : List MemPlace}, (∀ t ∈ ts, P.readableRec t = true ∧ t < P.types.size) →
    DataW.TrodAll enc P W 0 (fun _ => true) true ts vs ds ps → (∀ x ∈ ps, x.block < W.heap.size) → DataW.TrodAll enc P W' 0 (fun b => decide (b < W.heap.size)) true ts vs ds ps
  | [], [], [], _, _, h, _ => h
  | t :: ts, _ :: _, _ :: _, _, hr, ⟨p, q, h1, h2, e⟩, hlt =>
    ⟨p, q, Below.trod hl (hr t (by simp)).1 (hr t (by simp)).2 h1 hb (fun x hx => hlt x (by rw [e]; exact List.mem_append_left _ hx)),
      trodAll_below hl hb (fun t ht => hr t (List.mem_cons_of_mem _ ht)) h2 (fun x hx => hlt x (by rw [e]; exact List.mem_append_right _ hx)), e⟩

/-- What a statement asks behind the call: true came out; the arguments read as they did. -/
theorem post_true {f : Func} {s : ChangeSpec} {tb : TypeId} {args : Array Value} {ds gs : List (DataW H)} {before : List MemPlace} (hl : laidOutB P = true) (hr : ∀ t ∈ f.params.toList, P.readableRec t = true ∧ t < P.types.size)
    (hb : P.underlying tb = some .bool) (hf : f.resultTypes = #[tb]) (hv : s.vars = []) (hW : DataW.Whole enc P f.params.toList s.vars false W args.toList ds gs before) (hE : Ext W W')
    (hfn : s.fn H (ds ++ gs) = { results := [.lit (.bool true)], args := ds }) : s.post enc P f false true false false W args (.bool true) W' := by
  have hlt := hW.lt
  have hW' := hW
  obtain ⟨p, q, hA, hV, rfl, hz, hn⟩ := hW
  rw [hv] at hV
  obtain ⟨rfl, rfl⟩ := trodVars_none hV
  refine ⟨ds, [], _, [], p, [], hW', ?_, ?_, ?_, hE.below.frame _, fun h => by cases h⟩
  · rw [hfn, hf]
    exact trodAll_cons_mk (shut_bool hb true) trodAll_mk0
  · rw [hfn]
    exact trodAll_below hl hE.below hr hA (fun x hx => hlt x (by simpa using hx))
  · rw [hfn, hv]
    rfl
end
end Bst
