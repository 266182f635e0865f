/-
  The keys of two seeds differ: the kernel computes them.
-/
import Derived.Test.YtcfkapoppmpehaaKw
namespace Go.Proofs.Ytcfkapoppmpehaa

set_option maxRecDepth 100000 in
theorem key_one : keyN 452312848583266388373324160190187140051835877600158453279131187530910662656 = 8502326665616404212456801865353264405815874534114345744608059411830247961068 := by decide +kernel
set_option maxRecDepth 100000 in
theorem key_three : keyN 1356938545749799165119972480570561420155507632800475359837393562592731987968 = 14646917588398876122180399923105926309929669912518143951704488481897692117685 := by decide +kernel
theorem keys_unlike : keyW (1 :: List.replicate 31 0) ≠ keyW (3 :: List.replicate 31 0) := fun h => by
  have h1 := keyN_eq (1 :: List.replicate 31 0) rfl
  have h3 := keyN_eq (3 :: List.replicate 31 0) rfl
  rw [show pkB (1 :: List.replicate 31 0) = 452312848583266388373324160190187140051835877600158453279131187530910662656 from by decide +kernel, key_one] at h1
  rw [show pkB (3 :: List.replicate 31 0) = 1356938545749799165119972480570561420155507632800475359837393562592731987968 from by decide +kernel, key_three] at h3
  rw [h, h3] at h1
  exact absurd h1 (by decide +kernel)
end Go.Proofs.Ytcfkapoppmpehaa
