/- For every list of transactions, every two fuses and every two choices the statement about a transaction that survives completely or not at all answers true, and the transactions read behind the call as before it. No condition. -/
import Derived.Test.YtkmnjccklnfcdaaLawWW
import Derived.Test.YtkmnjccklnfcdaaLibClose
import Derived.Test.YtkmnjccklnfcdaaRows
import Derived.WalkKit
import Derived.ProofKit
import Derived.OpenShut
import Derived.Deep.DeepHandedRow
import Derived.Lib.LaidTab
namespace Go.Proofs.Ytkmnjccklnfcdaa.WalWhole
open Go Go.ChangeShapes Go.WideShapes Go.ChangeAt Go.RowKit Bst
set_option linter.unusedVariables false
set_option maxRecDepth 100000
theorem own : ownKnob Try.prog.godebug = none := by kernel_rfl
theorem laidOut : laidOutB Try.prog = true := by kernel_rfl
theorem cells_int : Try.prog.cellsOf 3 = 1 := by kernel_rfl
theorem cells_u8 : Try.prog.cellsOf 5 = 1 := by kernel_rfl
theorem by_u8 : 0 < Try.prog.bytesOf 5 := of_decide_eq_true (by kernel_rfl)
theorem cells_u8s : Try.prog.cellsOf 41 = 1 := by kernel_rfl
theorem cells_wr : Try.prog.cellsOf 100 = 2 := by kernel_rfl
theorem reads_wr : Reads Try.prog KApi 100 :=
  Reads.struct (K := KApi) (ReadsFs.cons (K := Kd.int) (L := Kd.slice Kd.u8) (Reads.int Try.underlying3 cells_int) rfl (ReadsFs.last (Reads.slice (K := Kd.u8) (Reads.u8 Try.underlying5 cells_u8) (by decide) by_u8 Try.underlying41 cells_u8s) rfl)) Try.underlying100 cells_wr
theorem by_wr : 0 < Try.prog.bytesOf 100 := of_decide_eq_true (by kernel_rfl)
theorem cells_wrs : Try.prog.cellsOf 22 = 1 := by kernel_rfl
theorem reads_wrs : Reads Try.prog (Kd.slice KApi) 22 := Reads.slice reads_wr (by decide) by_wr Try.underlying22 cells_wrs
theorem cells_u16 : Try.prog.cellsOf 23 = 1 := by kernel_rfl
theorem cells_arr16 : Try.prog.cellsOf 47 = 2 := by kernel_rfl
theorem cells_arrsl : Try.prog.cellsOf 48 = 2 := by kernel_rfl
theorem by_0 : 0 < Try.prog.bytesOf 22 := of_decide_eq_true (by kernel_rfl)
theorem readable : ∀ t ∈ Try.f4.params.toList, Try.prog.readableRec t = true ∧ t < Try.prog.types.size := by
  rw [Try.params4]
  intro t ht
  have h : (#[46, 47, 48] : Array Nat).toList.all (fun t => Try.prog.readableRec t && decide (t < Try.prog.types.size)) = true := by kernel_rfl
  simpa using List.all_eq_true.1 h t ht
/-- For every start that the row speaks of. -/
theorem contract (H : Type) (enc : TypeId × Value → H) (W : World) (base : Nat) (args : Array Value) (ds gs : List (DataW H)) (before : List MemPlace)
    (hval : ∀ (j : Nat) t v, Try.f4.params[j]? = some t → args[j]? = some v → Value.okWide Try.prog W .any base t v)
    (hW : DataW.Whole enc Try.prog Try.f4.params.toList Rows.walWholeSpec.vars false W args.toList ds gs before)
    (hsz : (DataW.weightsEach Try.prog (Try.f4.params.toList ++ (OpenSpec.ofChange Rows.walWholeSpec).bare.plain.varTypes Try.prog) (ds ++ gs)).all (· ≤ reachBytes) = true) :
    Calls Try.prog 4 args W fun e W' => ∃ v, e = .returned v ∧ Rows.walWholeSpec.post enc Try.prog Try.f4 false true false false W args v W' := by
  have hW' := hW
  obtain ⟨p, q, hA0, hV, rfl, hfz, hnd⟩ := hW
  have hA : DataW.TrodAll enc Try.prog W 0 (fun _ => true) true Try.f4.params.toList args.toList ds p := hA0
  rw [Try.params4] at hA hval hsz
  obtain ⟨v0, vs0, d0, ds0, p0, q0, hargs, rfl, rfl, h0, r0⟩ := trodAll_cons hA
  obtain ⟨v1, vs1, d1, ds1, p1, q1, rfl, rfl, rfl, h1, r1⟩ := trodAll_cons r0
  obtain ⟨v2, vs2, d2, ds2, p2, q2, rfl, rfl, rfl, h2, r2⟩ := trodAll_cons r1
  obtain ⟨rfl, rfl, rfl⟩ := trodAll_nil r2
  obtain rfl : args = #[v0, v1, v2] := by cases args; simp_all
  have hV2 := hV
  obtain ⟨rfl, rfl⟩ := trodVars_none hV2
  obtain ⟨A0, c0, l0, rfl, hl0⟩ := arg_sl (e := 22) reads_wrs (by decide) (by_0) Try.underlying46 (hval 0 46 v0 rfl rfl) h0 (fits_at hsz (j := 0) rfl rfl)
  obtain ⟨f0, f1, rfl, hf0, hf1⟩ := arg_arr2_u16 Try.underlying47 cells_arr16 cells_u16 Try.underlying23 (hval 1 47 v1 rfl rfl) h1 (fits_at hsz (j := 1) rfl rfl)
  obtain ⟨B0, B1, k0, k1, ch0, ch1, rfl, hb0, hb1⟩ := arg_arr2_sl (Reads.u8 Try.underlying5 cells_u8) (by decide) by_u8 Try.underlying48 cells_arrsl cells_u8s Try.underlying41 (hval 2 48 v2 rfl rfl) h2 (fits_at hsz (j := 2) rfl rfl)
  clear hA0
  simp only [List.append_nil] at hW'
  refine (whole_ok W A0 c0 l0 f0 f1 hf0 hf1 B0 B1 k0 k1 ch0 ch1 hl0 hb0 hb1).mono fun e W' ⟨he, hg⟩ => ?_
  subst he
  exact ⟨_, rfl, post_true laidOut readable Try.underlying4 (by kernel_rfl) rfl hW' hg rfl⟩
theorem reads (os : Os) {H : Type} (enc : TypeId × Value → H) : ∃ places, DataW.whole enc Try.prog ((World.holding Try.prog os ⟨#[], #[], []⟩).forCall (fun _ _ => 0) ⟨#[], #[Value.slice none 0 0, Value.agg #[.int .u16 0, .int .u16 0], Value.agg #[.slice none 0 0, .slice none 0 0]], []⟩).memory Try.f4.params.toList Rows.walWholeSpec.vars false #[Value.slice none 0 0, Value.agg #[.int .u16 0, .int .u16 0], Value.agg #[.slice none 0 0, .slice none 0 0]].toList 8 = some ([.nil, .agg [.lit (.int .u16 0), .lit (.int .u16 0)], .agg [.nil, .nil]], [], places) :=
  ⟨[], by kernel_rfl⟩
theorem lifted (os : Os) (started : os.Started) (H : Type) (enc : TypeId × Value → H) (F : Stop.Interp) :
    ReturnsInHanded {} Try.checked os 4 .any ((OpenSpec.ofChange Rows.walWholeSpec).preRow enc Try.prog Try.f4 Rows.walWholeRow.domain false Rows.walWholeRow.laid) (((OpenSpec.ofChange Rows.walWholeSpec).at F).post enc Try.prog Try.f4 false true false false) := by
  obtain ⟨places, hx⟩ := reads os enc
  refine returnsInHanded_of_row (C := Try.checked) (s := OpenSpec.ofChange Rows.walWholeSpec) own started (by kernel_rfl) Try.func4
    (witness_row_at (enc := enc) (C := Try.checked) false (World.holding Try.prog os ⟨#[], #[], []⟩) #[Value.slice none 0 0, Value.agg #[.int .u16 0, .int .u16 0], Value.agg #[.slice none 0 0, .slice none 0 0]] rfl (by kernel_rfl) (by kernel_rfl) (by kernel_rfl)
      (OpenSpec.preRow_of_cond 8 hx (by kernel_rfl) (fun k hk => by cases hk) (by kernel_rfl) (laidMet_of_run' 8 (by kernel_rfl) (by kernel_rfl)))) ?_
  intro W base args ds gs before hval hW _ _ hsz hL _ _
  exact contract H enc W base args ds gs before hval hW hsz
theorem said : Rows.WalWholeSaid :=
  OpenClaim.holds_of_cond 4 Try.f4 rfl rfl rfl rfl rfl rfl rfl ⟨rfl, rfl, rfl, rfl, rfl⟩ rfl rfl rfl rfl rfl (by kernel_rfl) Try.func4 (by kernel_rfl)
    (of_decide_eq_true (by kernel_rfl)) (by unfold Func.isWrapper; first | (rw [if_pos (by decide +kernel)]; kernel_rfl) | (rw [if_neg (by decide +kernel)]; exact ⟨rfl, rfl⟩))
    (fun os started H enc _ F => by rw [OpenClaim.pre_eq_preRow]; exact lifted os started H enc F)
end Go.Proofs.Ytkmnjccklnfcdaa.WalWhole
