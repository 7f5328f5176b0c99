/- math/bits.Len64, by the library's contract laid at this program. -/
import Derived.Test.YtbbhbgccmekheaaDoorSpace
import Derived.Shelf.Lay
import Derived.Shelf.Strconv.Itoa0
namespace Go.Proofs.YtbbhbgccmekheaaDoor
open Go Go.RowKit Bst Go.Shelf
def len64_ren : Go.Shelf.Ren := ⟨fun | 129 => 33 | n => n, fun | 53 => 69 | 3 => 3 | 4 => 4 | 46 => 77 | 5 => 5 | 9 => 9 | n => n, fun | n => n⟩
theorem len64_lays : Go.Proofs.Lays.n129 Tryd.prog len64_ren := {
  mixed := by kernel_rfl
  f129 := Tryd.func33.trans (congrArg some (by kernel_rfl))
  t3 := Tryd.underlying3
  a3 := Tryd.isAgg3
  z3 := Tryd.sizeOf3
  v3 := Tryd.zeroValue3
  t4 := Tryd.underlying4
  a4 := Tryd.isAgg4
  z4 := Tryd.sizeOf4
  v4 := Tryd.zeroValue4
  t5 := Tryd.underlying5
  a5 := Tryd.isAgg5
  z5 := Tryd.sizeOf5
  v5 := Tryd.zeroValue5
  t9 := Tryd.underlying9
  a9 := Tryd.isAgg9
  z9 := Tryd.sizeOf9
  v9 := Tryd.zeroValue9
  t46 := Tryd.underlying77
  a46 := Tryd.isAgg77
  z46 := Tryd.sizeOf77
  v46 := Tryd.zeroValue77
  t53 := Tryd.underlying69
  a53 := Tryd.isAgg69
  z53 := Tryd.sizeOf69
  v53 := Tryd.zeroValue69 }
theorem len64_ok (x : Nat) (w : World) (h : x < 18446744073709551616) :
    Calls Tryd.prog 33 #[.int .u64 (x : Int)] w fun e w' => e = .returned (.int .i64 (Lib.bitLen x : Int)) ∧ w = w' := by
  have := Any.bits_Len64 len64_lays (x : Int) w (by omega) (by omega)
  rw [Int.toNat_natCast] at this
  exact this.mono fun e w' ⟨h1, h2⟩ => ⟨h1, h2.symm⟩
end Go.Proofs.YtbbhbgccmekheaaDoor
