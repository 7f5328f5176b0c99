/- For every writes, every place and every byte the statement about a modified byte answers true, and the writes read behind the call as before it. No condition. -/
import Derived.Test.YtkmnjccklnfcdaaLawWT
import Derived.Test.YtkmnjccklnfcdaaLibClose
import Derived.Test.YtkmnjccklnfcdaaRows
import Derived.WalkKit
import Derived.ProofKit
import Derived.OpenShut
import Derived.Deep.DeepHandedRow
import Derived.Lib.LaidTab
namespace Go.Proofs.Ytkmnjccklnfcdaa.WalTurned
open Go Go.ChangeShapes Go.WideShapes Go.ChangeAt Go.RowKit Bst
set_option linter.unusedVariables false
set_option maxRecDepth 100000
theorem own : ownKnob Try.prog.godebug = none := by kernel_rfl
theorem laidOut : laidOutB Try.prog = true := by kernel_rfl
theorem cells_int : Try.prog.cellsOf 3 = 1 := by kernel_rfl
theorem cells_u8 : Try.prog.cellsOf 5 = 1 := by kernel_rfl
theorem by_u8 : 0 < Try.prog.bytesOf 5 := of_decide_eq_true (by kernel_rfl)
theorem cells_u8s : Try.prog.cellsOf 41 = 1 := by kernel_rfl
theorem cells_wr : Try.prog.cellsOf 100 = 2 := by kernel_rfl
theorem reads_wr : Reads Try.prog KApi 100 :=
  Reads.struct (K := KApi) (ReadsFs.cons (K := Kd.int) (L := Kd.slice Kd.u8) (Reads.int Try.underlying3 cells_int) rfl (ReadsFs.last (Reads.slice (K := Kd.u8) (Reads.u8 Try.underlying5 cells_u8) (by decide) by_u8 Try.underlying41 cells_u8s) rfl)) Try.underlying100 cells_wr
theorem by_0 : 0 < Try.prog.bytesOf 100 := of_decide_eq_true (by kernel_rfl)
theorem readable : ∀ t ∈ Try.f3.params.toList, Try.prog.readableRec t = true ∧ t < Try.prog.types.size := by
  rw [Try.params3]
  intro t ht
  have h : (#[22, 23, 5] : Array Nat).toList.all (fun t => Try.prog.readableRec t && decide (t < Try.prog.types.size)) = true := by kernel_rfl
  simpa using List.all_eq_true.1 h t ht
/-- For every start that the row speaks of. -/
theorem contract (H : Type) (enc : TypeId × Value → H) (W : World) (base : Nat) (args : Array Value) (ds gs : List (DataW H)) (before : List MemPlace)
    (hval : ∀ (j : Nat) t v, Try.f3.params[j]? = some t → args[j]? = some v → Value.okWide Try.prog W .any base t v)
    (hW : DataW.Whole enc Try.prog Try.f3.params.toList Rows.walTurnedSpec.vars false W args.toList ds gs before)
    (hsz : (DataW.weightsEach Try.prog (Try.f3.params.toList ++ (OpenSpec.ofChange Rows.walTurnedSpec).bare.plain.varTypes Try.prog) (ds ++ gs)).all (· ≤ reachBytes) = true) :
    Calls Try.prog 3 args W fun e W' => ∃ v, e = .returned v ∧ Rows.walTurnedSpec.post enc Try.prog Try.f3 false true false false W args v W' := by
  have hW' := hW
  obtain ⟨p, q, hA0, hV, rfl, hfz, hnd⟩ := hW
  have hA : DataW.TrodAll enc Try.prog W 0 (fun _ => true) true Try.f3.params.toList args.toList ds p := hA0
  rw [Try.params3] at hA hval hsz
  obtain ⟨v0, vs0, d0, ds0, p0, q0, hargs, rfl, rfl, h0, r0⟩ := trodAll_cons hA
  obtain ⟨v1, vs1, d1, ds1, p1, q1, rfl, rfl, rfl, h1, r1⟩ := trodAll_cons r0
  obtain ⟨v2, vs2, d2, ds2, p2, q2, rfl, rfl, rfl, h2, r2⟩ := trodAll_cons r1
  obtain ⟨rfl, rfl, rfl⟩ := trodAll_nil r2
  obtain rfl : args = #[v0, v1, v2] := by cases args; simp_all
  have hV2 := hV
  obtain ⟨rfl, rfl⟩ := trodVars_none hV2
  obtain ⟨A0, c0, l0, rfl, hl0⟩ := arg_sl (e := 100) reads_wr (by decide) (by_0) Try.underlying22 (hval 0 22 v0 rfl rfl) h0 (fits_at hsz (j := 0) rfl rfl)
  obtain ⟨n1, rfl, hn1⟩ := arg_u16 Try.underlying23 (hval 1 23 v1 rfl rfl) h1
  obtain ⟨n2, rfl, hn2⟩ := arg_u8 Try.underlying5 (hval 2 5 v2 rfl rfl) h2
  clear hA0
  simp only [List.append_nil] at hW'
  refine (law_turned_nat W A0 c0 l0 n1 n2 hn1 hn2 hl0).mono fun e W' ⟨he, hg⟩ => ?_
  subst he
  exact ⟨_, rfl, post_true laidOut readable Try.underlying4 (by kernel_rfl) rfl hW' hg rfl⟩
theorem reads (os : Os) {H : Type} (enc : TypeId × Value → H) : ∃ places, DataW.whole enc Try.prog ((World.holding Try.prog os ⟨#[], #[], []⟩).forCall (fun _ _ => 0) ⟨#[], #[Value.slice none 0 0, Value.int .u16 0, Value.int .u8 0], []⟩).memory Try.f3.params.toList Rows.walTurnedSpec.vars false #[Value.slice none 0 0, Value.int .u16 0, Value.int .u8 0].toList 8 = some ([.nil, .lit (.int .u16 0), .lit (.int .u8 0)], [], places) :=
  ⟨[], by kernel_rfl⟩
theorem lifted (os : Os) (started : os.Started) (H : Type) (enc : TypeId × Value → H) (F : Stop.Interp) :
    ReturnsInHanded {} Try.checked os 3 .any ((OpenSpec.ofChange Rows.walTurnedSpec).preRow enc Try.prog Try.f3 Rows.walTurnedRow.domain false Rows.walTurnedRow.laid) (((OpenSpec.ofChange Rows.walTurnedSpec).at F).post enc Try.prog Try.f3 false true false false) := by
  obtain ⟨places, hx⟩ := reads os enc
  refine returnsInHanded_of_row (C := Try.checked) (s := OpenSpec.ofChange Rows.walTurnedSpec) own started (by kernel_rfl) Try.func3
    (witness_row_at (enc := enc) (C := Try.checked) false (World.holding Try.prog os ⟨#[], #[], []⟩) #[Value.slice none 0 0, Value.int .u16 0, Value.int .u8 0] rfl (by kernel_rfl) (by kernel_rfl) (by kernel_rfl)
      (OpenSpec.preRow_of_cond 8 hx (by kernel_rfl) (fun k hk => by cases hk) (by kernel_rfl) (laidMet_of_run' 8 (by kernel_rfl) (by kernel_rfl)))) ?_
  intro W base args ds gs before hval hW _ _ hsz hL _ _
  exact contract H enc W base args ds gs before hval hW hsz
theorem said : Rows.WalTurnedSaid :=
  OpenClaim.holds_of_cond 3 Try.f3 rfl rfl rfl rfl rfl rfl rfl ⟨rfl, rfl, rfl, rfl, rfl⟩ rfl rfl rfl rfl rfl (by kernel_rfl) Try.func3 (by kernel_rfl)
    (of_decide_eq_true (by kernel_rfl)) (by unfold Func.isWrapper; first | (rw [if_pos (by decide +kernel)]; kernel_rfl) | (rw [if_neg (by decide +kernel)]; exact ⟨rfl, rfl⟩))
    (fun os started H enc _ F => by rw [OpenClaim.pre_eq_preRow]; exact lifted os started H enc F)
end Go.Proofs.Ytkmnjccklnfcdaa.WalTurned
