/-
  The row of MerkleBytes.
-/
import Derived.Test.YtcfkapoppmpehaaL07
import Derived.Test.YtcfkapoppmpehaaEnter
import Derived.ChangeMaps5
namespace Go.Proofs.Ytcfkapoppmpehaa
open Go.ChangeShapes Go.WideShapes Go.ChangeAt Go.RowKit

set_option maxRecDepth 100000 in
theorem merkleBytes_lifted (os : Os) (started : os.Started) (H : Type) (enc : TypeId × Value → H) :
    ReturnsInHanded {} Try.checked os 7 .any (Rows.merkleBytesSpec.pre6 enc Try.prog Try.f7 Rows.merkleBytesRow.domain false) (Rows.merkleBytesSpec.post enc Try.prog Try.f7 false true false false) := by
  refine returnsInHanded_of_change (C := Try.checked) own started (by kernel_rfl) Try.func7
    (ChangeSpec.witness6 (enc := enc) (C := Try.checked) false ⟨#[], #[.slice none 0 0, .slice none 0 0], []⟩ 8 (by kernel_rfl) (by kernel_rfl) (by kernel_rfl) (by kernel_rfl)) ?_
  intro W base args ds gs before hval0 hW hcnd _
  have hval : ∀ (j : Nat) t v, Try.f7.params[j]? = some t → args[j]? = some v → Value.okWide Try.prog W .any base t v := hval0
  have hW' : DataW.Whole enc Try.prog Try.f7.params.toList [] false W args.toList ds gs before := hW
  obtain ⟨p, q, hA0, hV, rfl, hfz, hnd⟩ := hW
  have hA : DataW.TrodAll enc Try.prog W 0 (fun _ => true) true Try.f7.params.toList args.toList ds p := hA0
  rw [Try.params7] at hA hval
  obtain ⟨v0, v1, d0, d1, p0, p1, rfl, rfl, rfl, h0, h1⟩ := trodAll_two hA
  obtain ⟨rfl, rfl⟩ := trodVars_none hV
  obtain ⟨x0, hx0⟩ := arg_signeds (hval 0 46 v0 rfl rfl) h0
  obtain ⟨x1, hx1⟩ := arg_rowsb (hval 1 47 v1 rfl rfl) h1
  refine (merkleBytes_any v0 x0 v1 x1 W hx0 hx1).mono fun e W' ⟨he, hw⟩ => ?_
  subst he
  exact ⟨_, rfl, post_true rfl rfl rfl (fun t ht => by rw [Try.params7] at ht; simp at ht; rcases ht with rfl | rfl <;> exact ⟨by kernel_rfl, of_decide_eq_true (by kernel_rfl)⟩) hW' hw⟩

theorem merkleBytes_facts : joinedFacts Try.prog 7 Try.f7 Rows.merkleBytesSpec Rows.merkleBytesRow = true := by
  unfold joinedFacts
  rw [mayEnter, make_cut, lifts_final]
  kernel_rfl

theorem MerkleBytes_holds : Rows.MerkleBytesSaid :=
  OpenClaim.holds_of_wide 7 Try.f7 rfl rfl rfl rfl rfl rfl rfl ⟨rfl, rfl, rfl, rfl, rfl⟩ rfl rfl rfl rfl rfl (by kernel_rfl) Try.func7 merkleBytes_facts
    (of_decide_eq_true (by kernel_rfl)) (by unfold Func.isWrapper; first | (rw [if_pos (by decide +kernel)]; kernel_rfl) | (rw [if_neg (by decide +kernel)]; exact ⟨rfl, rfl⟩))
    (fun os started H enc _ => merkleBytes_lifted os started H enc)
end Go.Proofs.Ytcfkapoppmpehaa
