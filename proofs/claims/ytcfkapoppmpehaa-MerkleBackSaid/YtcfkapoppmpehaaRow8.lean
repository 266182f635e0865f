/-
  The row of MerkleBack.
-/
import Derived.Test.YtcfkapoppmpehaaL08
import Derived.Test.YtcfkapoppmpehaaEnter
import Derived.ChangeMaps5
namespace Go.Proofs.Ytcfkapoppmpehaa
open Go.ChangeShapes Go.WideShapes Go.ChangeAt Go.RowKit

set_option maxRecDepth 100000 in
theorem merkleBack_lifted (os : Os) (started : os.Started) (H : Type) (enc : TypeId × Value → H) :
    ReturnsInHanded {} Try.checked os 8 .any (Rows.merkleBackSpec.pre6 enc Try.prog Try.f8 Rows.merkleBackRow.domain false) (Rows.merkleBackSpec.post enc Try.prog Try.f8 false true false false) := by
  refine returnsInHanded_of_change (C := Try.checked) own started (by kernel_rfl) Try.func8
    (ChangeSpec.witness6 (enc := enc) (C := Try.checked) false ⟨#[], #[.agg #[.int .i64 0, .slice none 0 0, .slice none 0 0], .slice none 0 0, .int .i64 0], []⟩ 8 (by kernel_rfl) (by kernel_rfl) (by kernel_rfl) (by kernel_rfl)) ?_
  intro W base args ds gs before hval0 hW hcnd _
  have hval : ∀ (j : Nat) t v, Try.f8.params[j]? = some t → args[j]? = some v → Value.okWide Try.prog W .any base t v := hval0
  have hW' : DataW.Whole enc Try.prog Try.f8.params.toList [] false W args.toList ds gs before := hW
  obtain ⟨p, q, hA0, hV, rfl, hfz, hnd⟩ := hW
  have hA : DataW.TrodAll enc Try.prog W 0 (fun _ => true) true Try.f8.params.toList args.toList ds p := hA0
  rw [Try.params8] at hA hval
  obtain ⟨v0, v1, v2, d0, d1, d2, p0, p1, p2, rfl, rfl, rfl, h0, h1, h2⟩ := trodAll_three hA
  obtain ⟨rfl, rfl⟩ := trodVars_none hV
  obtain ⟨x0l, x0c, x0p, hx0⟩ := arg_signed h0
  obtain ⟨x1, hx1, _⟩ := arg_bytes (hval 1 42 v1 rfl rfl) h1
  obtain ⟨x2, rfl, rfl, rfl, _⟩ := open_int (show Try.prog.underlying 3 = some (.int .i64) from by kernel_rfl) (hval 2 3 v2 rfl rfl) h2
  refine (merkleBack_any v0 x0l x0c x0p v1 x1 x2 W hx0 hx1).mono fun e W' ⟨he, hw⟩ => ?_
  subst he
  exact ⟨_, rfl, post_true rfl rfl rfl (fun t ht => by rw [Try.params8] at ht; simp at ht; rcases ht with rfl | rfl | rfl <;> exact ⟨by kernel_rfl, of_decide_eq_true (by kernel_rfl)⟩) hW' hw⟩

theorem merkleBack_facts : joinedFacts Try.prog 8 Try.f8 Rows.merkleBackSpec Rows.merkleBackRow = true := by
  unfold joinedFacts
  rw [mayEnter, make_cut, lifts_final]
  kernel_rfl

theorem MerkleBack_holds : Rows.MerkleBackSaid :=
  OpenClaim.holds_of_wide 8 Try.f8 rfl rfl rfl rfl rfl rfl rfl ⟨rfl, rfl, rfl, rfl, rfl⟩ rfl rfl rfl rfl rfl (by kernel_rfl) Try.func8 merkleBack_facts
    (of_decide_eq_true (by kernel_rfl)) (by unfold Func.isWrapper; first | (rw [if_pos (by decide +kernel)]; kernel_rfl) | (rw [if_neg (by decide +kernel)]; exact ⟨rfl, rfl⟩))
    (fun os started H enc _ => merkleBack_lifted os started H enc)
end Go.Proofs.Ytcfkapoppmpehaa
