/-
  What a call of math/bits.Mul64 gives, by the shelf's contract.
-/
import Derived.Test.YtcfkapoppmpehaaRw
import Derived.Shelf.Bits.Mul64
namespace Go.Proofs.Ytcfkapoppmpehaa
open Go.RowKit Go.Shelf

def ren : Ren := ⟨fun n => if n = 264 then 94 else n, fun t => if t = 46 then 43 else if t = 53 then 72 else t, fun g => g⟩
theorem lays_mul : Lays.n264 Try.prog ren where
  mixed := rfl
  f264 := by kernel_rfl
  t46 := by kernel_rfl
  a46 := fun w => by kernel_rfl
  z46 := fun w => by kernel_rfl
  v46 := fun w => by kernel_rfl
  t53 := by kernel_rfl
  a53 := fun w => by kernel_rfl
  z53 := fun w => by kernel_rfl
  v53 := fun w => by kernel_rfl
theorem mul64_same (x y : Nat) (hx : x < 18446744073709551616) (hy : y < 18446744073709551616) (w : World) :
    Calls Try.prog 94 #[.int .u64 x, .int .u64 y] w fun e w' => e = .returned (.tuple #[.int .u64 ((x * y / 18446744073709551616 : Nat) : Int), .int .u64 ((x * y % 18446744073709551616 : Nat) : Int)]) ∧ w = w' :=
  (Any.bits_Mul64 lays_mul x y hx hy w).mono fun _ _ ⟨h, h'⟩ => ⟨h, h'.symm⟩
end Go.Proofs.Ytcfkapoppmpehaa
