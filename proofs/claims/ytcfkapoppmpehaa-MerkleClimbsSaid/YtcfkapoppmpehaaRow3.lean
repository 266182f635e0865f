/-
  The row of MerkleClimbs.
-/
import Derived.Test.YtcfkapoppmpehaaL03
import Derived.Test.YtcfkapoppmpehaaEnter
namespace Go.Proofs.Ytcfkapoppmpehaa
open Go.ChangeShapes Go.WideShapes Go.ChangeAt Go.RowKit

set_option maxRecDepth 100000 in
theorem merkleClimbs_lifted (os : Os) (started : os.Started) (H : Type) (enc : TypeId × Value → H) :
    ReturnsInHanded {} Try.checked os 3 .any (Rows.merkleClimbsSpec.pre6 enc Try.prog Try.f3 Rows.merkleClimbsRow.domain false) (Rows.merkleClimbsSpec.post enc Try.prog Try.f3 false true false false) := by
  refine returnsInHanded_of_change (C := Try.checked) own started (by kernel_rfl) Try.func3
    (ChangeSpec.witness6 (enc := enc) (C := Try.checked) false ⟨#[], #[.slice none 0 0, .agg zero24, .agg zero24], []⟩ 8 (by kernel_rfl) (by kernel_rfl) (by kernel_rfl) (by kernel_rfl)) ?_
  intro W base args ds gs before hval0 hW hcnd _
  have hval : ∀ (j : Nat) t v, Try.f3.params[j]? = some t → args[j]? = some v → Value.okWide Try.prog W .any base t v := hval0
  have hW' : DataW.Whole enc Try.prog Try.f3.params.toList [] false W args.toList ds gs before := hW
  obtain ⟨p, q, hA0, hV, rfl, hfz, hnd⟩ := hW
  have hA : DataW.TrodAll enc Try.prog W 0 (fun _ => true) true Try.f3.params.toList args.toList ds p := hA0
  rw [Try.params3] at hA hval
  obtain ⟨v0, v1, v2, d0, d1, d2, p0, p1, p2, rfl, rfl, rfl, h0, h1, h2⟩ := trodAll_three hA
  obtain ⟨rfl, rfl⟩ := trodVars_none hV
  obtain ⟨cl, hcl⟩ := arg_climbs (hval 0 22 v0 rfl rfl) h0
  obtain ⟨a, ha, rfl⟩ := arg_id h1
  obtain ⟨b, hb, rfl⟩ := arg_id h2
  refine (merkleClimbs_any v0 cl a b ha hb W hcl).mono fun e W' ⟨he, hw⟩ => ?_
  subst he
  exact ⟨_, rfl, post_true rfl rfl rfl (fun t ht => by rw [Try.params3] at ht; simp at ht; rcases ht with rfl | rfl <;> exact ⟨by kernel_rfl, of_decide_eq_true (by kernel_rfl)⟩) hW' hw⟩


theorem merkleClimbs_facts : joinedFacts Try.prog 3 Try.f3 Rows.merkleClimbsSpec Rows.merkleClimbsRow = true := by
  unfold joinedFacts
  rw [mayEnter, make_cut, lifts_final]
  kernel_rfl

theorem MerkleClimbs_holds : Rows.MerkleClimbsSaid :=
  OpenClaim.holds_of_wide 3 Try.f3 rfl rfl rfl rfl rfl rfl rfl ⟨rfl, rfl, rfl, rfl, rfl⟩ rfl rfl rfl rfl rfl (by kernel_rfl) Try.func3 merkleClimbs_facts
    (of_decide_eq_true (by kernel_rfl)) (by unfold Func.isWrapper; first | (rw [if_pos (by decide +kernel)]; kernel_rfl) | (rw [if_neg (by decide +kernel)]; exact ⟨rfl, rfl⟩))
    (fun os started H enc _ => merkleClimbs_lifted os started H enc)
end Go.Proofs.Ytcfkapoppmpehaa
