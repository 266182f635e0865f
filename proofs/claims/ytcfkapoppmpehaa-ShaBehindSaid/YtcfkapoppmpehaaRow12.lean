/-
  The row of ShaBehind.
-/
import Derived.Test.YtcfkapoppmpehaaL12
import Derived.Test.YtcfkapoppmpehaaEnter
import Derived.ChangeMaps5
namespace Go.Proofs.Ytcfkapoppmpehaa
open Go.ChangeShapes Go.WideShapes Go.ChangeAt Go.RowKit Go.Deep

section
variable {H : Type} {enc : TypeId × Value → H} {w : World} {base : Nat} {spare : Nat → Bool} {held : Bool}
theorem trod_u32 {fuel : Nat} {cs : List Value} {x : DataW H × List MemPlace} (h : DataW.trod enc Try.prog w base spare held fuel 64 cs = some x) : ∃ b : BitVec 32, cs = [wv b] := by
  obtain ⟨n, rfl, _, hw⟩ := DataW.trod_int (show Try.prog.underlying 64 = some (.int .u32) from by kernel_rfl) h
  simp [Lit.wf] at hw
  refine ⟨BitVec.ofNat 32 n.toNat, ?_⟩
  show _ = [Value.int .u32 _]
  rw [BitVec.toNat_ofNat]
  have h1 : IntKind.u32.min = 0 := rfl
  have h2 : IntKind.u32.max = 4294967295 := rfl
  congr 2
  omega
theorem trod_words {t : TypeId} {n : Nat} (hu : Try.prog.underlying t = some (.array n 64)) (hc : Try.prog.cellsOf t = n) {fuel : Nat} {cs : List Value} {x : DataW H × List MemPlace} (h : DataW.trod enc Try.prog w base spare held fuel t cs = some x) :
    ∃ l : List (BitVec 32), l.length = n ∧ cs = l.map wv := by
  obtain ⟨xs, m, _, _, hl, hxl, hi⟩ := DataW.trod_array hu h
  have hx : Try.prog.cellsOf 64 = 1 := by kernel_rfl
  rw [hc] at hl
  obtain ⟨f, hf⟩ := choose_lt (α := BitVec 32) (n := n) (p := fun i b => cs[i]? = some (wv b)) (fun i h => by
    have h1 := hi i h
    rw [hx, Nat.mul_one, List.drop_eq_getElem_cons (by omega), List.getElem?_eq_getElem (by omega)] at h1
    obtain ⟨b, hb⟩ := trod_u32 h1
    refine ⟨b, ?_⟩
    rw [List.getElem?_eq_getElem (by omega)]
    exact congrArg some (List.cons.inj hb).1)
  refine ⟨(List.range n).map f, by simp, List.ext_getElem (by simp [hl]) fun i h1 h2 => ?_⟩
  have := hf i (by omega)
  rw [List.getElem?_eq_getElem h1] at this
  simpa using this
end
set_option maxRecDepth 100000 in
theorem arg_eight {H : Type} {enc : TypeId × Value → H} {w : World} {spare : Nat → Bool} {held : Bool} {v : Value} {d : DataW H} {ps : List MemPlace} (h : DataW.Trod enc Try.prog w 0 spare held 65 v d ps) : ∃ l : List (BitVec 32), l.length = 8 ∧ v = wagg l := by
  obtain ⟨fuel, h⟩ := h
  obtain ⟨l, hl, hc⟩ := trod_words (show Try.prog.underlying 65 = some (.array 8 64) from by kernel_rfl) (by kernel_rfl) h
  exact ⟨l, hl, cells_agg hc (by simp [hl])⟩
set_option maxRecDepth 100000 in
theorem arg_chunk {H : Type} {enc : TypeId × Value → H} {w : World} {spare : Nat → Bool} {held : Bool} {v : Value} {d : DataW H} {ps : List MemPlace} (h : DataW.Trod enc Try.prog w 0 spare held 68 v d ps) : ∃ l : List UInt8, l.length = 64 ∧ v = bagg l := by
  obtain ⟨fuel, h⟩ := h
  obtain ⟨l, hl, hc⟩ := trod_bytes (show Try.prog.underlying 68 = some (.array 64 5) from by kernel_rfl) (by kernel_rfl) h
  exact ⟨l, hl, cells_agg hc (by simp [hl])⟩

set_option maxRecDepth 100000 in
theorem shaBehind_lifted (os : Os) (started : os.Started) (H : Type) (enc : TypeId × Value → H) :
    ReturnsInHanded {} Try.checked os 12 .any (Rows.shaBehindSpec.pre6 enc Try.prog Try.f12 Rows.shaBehindRow.domain false) (Rows.shaBehindSpec.post enc Try.prog Try.f12 false true false false) := by
  refine returnsInHanded_of_change (C := Try.checked) own started (by kernel_rfl) Try.func12
    (ChangeSpec.witness6 (enc := enc) (C := Try.checked) false ⟨#[], #[.agg ((List.replicate 8 0#32).map wv).toArray, .agg ((List.replicate 64 (0 : UInt8)).map bv).toArray], []⟩ 8 (by kernel_rfl) (by kernel_rfl) (by kernel_rfl) (by kernel_rfl)) ?_
  intro W base args ds gs before hval0 hW hcnd _
  have hval : ∀ (j : Nat) t v, Try.f12.params[j]? = some t → args[j]? = some v → Value.okWide Try.prog W .any base t v := hval0
  have hW' : DataW.Whole enc Try.prog Try.f12.params.toList [] false W args.toList ds gs before := hW
  obtain ⟨p, q, hA0, hV, rfl, hfz, hnd⟩ := hW
  have hA : DataW.TrodAll enc Try.prog W 0 (fun _ => true) true Try.f12.params.toList args.toList ds p := hA0
  rw [Try.params12] at hA hval
  obtain ⟨v0, v1, d0, d1, p0, p1, rfl, rfl, rfl, h0, h1⟩ := trodAll_two hA
  obtain ⟨rfl, rfl⟩ := trodVars_none hV
  obtain ⟨x0, hx0, rfl⟩ := arg_eight h0
  obtain ⟨x1, hx1, rfl⟩ := arg_chunk h1
  refine (shaBehind_any x0 hx0 x1 hx1 W).mono fun e W' ⟨he, hw⟩ => ?_
  subst he
  exact ⟨_, rfl, post_true rfl rfl rfl (fun t ht => by rw [Try.params12] at ht; simp at ht; rcases ht with rfl | rfl <;> exact ⟨by kernel_rfl, of_decide_eq_true (by kernel_rfl)⟩) hW' hw⟩

theorem shaBehind_facts : joinedFacts Try.prog 12 Try.f12 Rows.shaBehindSpec Rows.shaBehindRow = true := by
  unfold joinedFacts
  rw [mayEnter, make_cut, lifts_final]
  kernel_rfl

theorem ShaBehind_holds : Rows.ShaBehindSaid :=
  OpenClaim.holds_of_wide 12 Try.f12 rfl rfl rfl rfl rfl rfl rfl ⟨rfl, rfl, rfl, rfl, rfl⟩ rfl rfl rfl rfl rfl (by kernel_rfl) Try.func12 shaBehind_facts
    (of_decide_eq_true (by kernel_rfl)) (by unfold Func.isWrapper; first | (rw [if_pos (by decide +kernel)]; kernel_rfl) | (rw [if_neg (by decide +kernel)]; exact ⟨rfl, rfl⟩))
    (fun os started H enc _ => shaBehind_lifted os started H enc)
end Go.Proofs.Ytcfkapoppmpehaa
