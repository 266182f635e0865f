/-
  The start's word of this seat, read once: the rows ask it of every law.
-/
import Derived.Test.YtcfkapoppmpehaaRows
import Derived.WalkKit
import Derived.JoinedOf
namespace Go.Proofs.Ytcfkapoppmpehaa
open Go.RowKit

set_option maxRecDepth 100000 in
def orderSigns : List Char := List.map Char.ofNat [104, 97, 114, 110, 101, 115, 115, 32, 97, 101, 53, 51, 102, 49, 101, 57, 56, 49, 97, 55, 54, 100, 102, 99, 100, 48, 48, 56, 50, 57, 97, 50, 98, 53, 53, 100, 49, 97, 54, 55, 100, 101, 49, 53, 52, 55, 55, 53, 56, 102, 50, 56, 50, 53, 57, 54, 48, 101, 54, 48, 48, 54, 49, 102, 100, 55, 101, 51, 48, 50, 52, 55, 32, 99, 117, 116, 32, 97, 116, 32, 115, 97, 102, 101, 104, 111, 117, 115, 101, 47, 115, 97, 102, 101, 104, 111, 117, 115, 101, 108, 97, 119, 48, 56, 46, 77, 101, 114, 107, 108, 101, 67, 108, 105, 109, 98, 115, 32, 115, 97, 102, 101, 104, 111, 117, 115, 101, 47, 115, 97, 102, 101, 104, 111, 117, 115, 101, 108, 97, 119, 48, 51, 46, 83, 104, 97, 68, 105, 103, 105, 116, 115, 32, 115, 97, 102, 101, 104, 111, 117, 115, 101, 47, 115, 97, 102, 101, 104, 111, 117, 115, 101, 108, 97, 119, 48, 51, 46, 83, 104, 97, 82, 101, 116, 117, 114, 110, 115, 32, 115, 97, 102, 101, 104, 111, 117, 115, 101, 47, 115, 97, 102, 101, 104, 111, 117, 115, 101, 108, 97, 119, 48, 51, 46, 83, 104, 97, 79, 114, 100, 101, 114, 115, 32, 115, 97, 102, 101, 104, 111, 117, 115, 101, 47, 115, 97, 102, 101, 104, 111, 117, 115, 101, 108, 97, 119, 48, 56, 46, 77, 101, 114, 107, 108, 101, 66, 121, 116, 101, 115, 32, 115, 97, 102, 101, 104, 111, 117, 115, 101, 47, 115, 97, 102, 101, 104, 111, 117, 115, 101, 108, 97, 119, 48, 56, 46, 77, 101, 114, 107, 108, 101, 66, 97, 99, 107, 32, 115, 97, 102, 101, 104, 111, 117, 115, 101, 47, 115, 97, 102, 101, 104, 111, 117, 115, 101, 108, 97, 119, 48, 51, 46, 83, 104, 97, 68, 105, 103, 101, 115, 116, 115, 32, 115, 97, 102, 101, 104, 111, 117, 115, 101, 47, 115, 97, 102, 101, 104, 111, 117, 115, 101, 108, 97, 119, 48, 51, 46, 83, 104, 97, 67, 104, 97, 105, 110, 115, 32, 115, 97, 102, 101, 104, 111, 117, 115, 101, 47, 115, 97, 102, 101, 104, 111, 117, 115, 101, 108, 97, 119, 48, 51, 46, 83, 104, 97, 84, 97, 98, 108, 101, 115, 32, 115, 97, 102, 101, 104, 111, 117, 115, 101, 47, 115, 97, 102, 101, 104, 111, 117, 115, 101, 108, 97, 119, 48, 51, 46, 83, 104, 97, 66, 101, 104, 105, 110, 100, 32, 115, 97, 102, 101, 104, 111, 117, 115, 101, 47, 115, 97, 102, 101, 104, 111, 117, 115, 101, 108, 97, 119, 48, 54, 46, 87, 111, 116, 115, 68, 105, 103, 105, 116, 115, 32, 115, 97, 102, 101, 104, 111, 117, 115, 101, 47, 115, 97, 102, 101, 104, 111, 117, 115, 101, 108, 97, 119, 48, 54, 46, 87, 111, 116, 115, 67, 104, 97, 105, 110, 115, 32, 115, 97, 102, 101, 104, 111, 117, 115, 101, 47, 115, 97, 102, 101, 104, 111, 117, 115, 101, 108, 97, 119, 48, 54, 46, 87, 111, 116, 115, 83, 105, 103, 110, 115, 32, 115, 97, 102, 101, 104, 111, 117, 115, 101, 47, 115, 97, 102, 101, 104, 111, 117, 115, 101, 108, 97, 119, 48, 54, 46, 87, 111, 116, 115, 76, 111, 110, 103, 32, 115, 97, 102, 101, 104, 111, 117, 115, 101, 47, 115, 97, 102, 101, 104, 111, 117, 115, 101, 108, 97, 119, 48, 54, 46, 87, 111, 116, 115, 86, 101, 114, 105, 102, 105, 101, 115, 32, 115, 97, 102, 101, 104, 111, 117, 115, 101, 47, 115, 97, 102, 101, 104, 111, 117, 115, 101, 108, 97, 119, 48, 54, 46, 87, 111, 116, 115, 66, 101, 108, 111, 119, 32, 115, 97, 102, 101, 104, 111, 117, 115, 101, 47, 115, 97, 102, 101, 104, 111, 117, 115, 101, 108, 97, 119, 48, 54, 46, 87, 111, 116, 115, 65, 100, 100, 115, 32, 115, 97, 102, 101, 104, 111, 117, 115, 101, 47, 115, 97, 102, 101, 104, 111, 117, 115, 101, 108, 97, 119, 48, 56, 46, 77, 101, 114, 107, 108, 101, 76, 101, 97, 100, 115, 32, 115, 97, 102, 101, 104, 111, 117, 115, 101, 47, 115, 97, 102, 101, 104, 111, 117, 115, 101, 108, 97, 119, 48, 56, 46, 77, 101, 114, 107, 108, 101, 83, 105, 103, 110, 115, 32, 115, 97, 102, 101, 104, 111, 117, 115, 101, 47, 115, 97, 102, 101, 104, 111, 117, 115, 101, 108, 97, 119, 48, 56, 46, 77, 101, 114, 107, 108, 101, 86, 101, 114, 105, 102, 105, 101, 115]
theorem order_lit : Try.prog.initOrder = "harness ae53f1e981a76dfcd00829a2b55d1a67de1547758f2825960e60061fd7e30247 cut at safehouse/safehouselaw08.MerkleClimbs safehouse/safehouselaw03.ShaDigits safehouse/safehouselaw03.ShaReturns safehouse/safehouselaw03.ShaOrders safehouse/safehouselaw08.MerkleBytes safehouse/safehouselaw08.MerkleBack safehouse/safehouselaw03.ShaDigests safehouse/safehouselaw03.ShaChains safehouse/safehouselaw03.ShaTables safehouse/safehouselaw03.ShaBehind safehouse/safehouselaw06.WotsDigits safehouse/safehouselaw06.WotsChains safehouse/safehouselaw06.WotsSigns safehouse/safehouselaw06.WotsLong safehouse/safehouselaw06.WotsVerifies safehouse/safehouselaw06.WotsBelow safehouse/safehouselaw06.WotsAdds safehouse/safehouselaw08.MerkleLeads safehouse/safehouselaw08.MerkleSigns safehouse/safehouselaw08.MerkleVerifies" := by kernel_rfl
set_option maxRecDepth 100000 in
theorem lit_signs : "harness ae53f1e981a76dfcd00829a2b55d1a67de1547758f2825960e60061fd7e30247 cut at safehouse/safehouselaw08.MerkleClimbs safehouse/safehouselaw03.ShaDigits safehouse/safehouselaw03.ShaReturns safehouse/safehouselaw03.ShaOrders safehouse/safehouselaw08.MerkleBytes safehouse/safehouselaw08.MerkleBack safehouse/safehouselaw03.ShaDigests safehouse/safehouselaw03.ShaChains safehouse/safehouselaw03.ShaTables safehouse/safehouselaw03.ShaBehind safehouse/safehouselaw06.WotsDigits safehouse/safehouselaw06.WotsChains safehouse/safehouselaw06.WotsSigns safehouse/safehouselaw06.WotsLong safehouse/safehouselaw06.WotsVerifies safehouse/safehouselaw06.WotsBelow safehouse/safehouselaw06.WotsAdds safehouse/safehouselaw08.MerkleLeads safehouse/safehouselaw08.MerkleSigns safehouse/safehouselaw08.MerkleVerifies" = String.ofList (List.map Char.ofNat [104, 97, 114, 110, 101, 115, 115, 32, 97, 101, 53, 51, 102, 49, 101, 57, 56, 49, 97, 55, 54, 100, 102, 99, 100, 48, 48, 56, 50, 57, 97, 50, 98, 53, 53, 100, 49, 97, 54, 55, 100, 101, 49, 53, 52, 55, 55, 53, 56, 102, 50, 56, 50, 53, 57, 54, 48, 101, 54, 48, 48, 54, 49, 102, 100, 55, 101, 51, 48, 50, 52, 55, 32, 99, 117, 116, 32, 97, 116, 32, 115, 97, 102, 101, 104, 111, 117, 115, 101, 47, 115, 97, 102, 101, 104, 111, 117, 115, 101, 108, 97, 119, 48, 56, 46, 77, 101, 114, 107, 108, 101, 67, 108, 105, 109, 98, 115, 32, 115, 97, 102, 101, 104, 111, 117, 115, 101, 47, 115, 97, 102, 101, 104, 111, 117, 115, 101, 108, 97, 119, 48, 51, 46, 83, 104, 97, 68, 105, 103, 105, 116, 115, 32, 115, 97, 102, 101, 104, 111, 117, 115, 101, 47, 115, 97, 102, 101, 104, 111, 117, 115, 101, 108, 97, 119, 48, 51, 46, 83, 104, 97, 82, 101, 116, 117, 114, 110, 115, 32, 115, 97, 102, 101, 104, 111, 117, 115, 101, 47, 115, 97, 102, 101, 104, 111, 117, 115, 101, 108, 97, 119, 48, 51, 46, 83, 104, 97, 79, 114, 100, 101, 114, 115, 32, 115, 97, 102, 101, 104, 111, 117, 115, 101, 47, 115, 97, 102, 101, 104, 111, 117, 115, 101, 108, 97, 119, 48, 56, 46, 77, 101, 114, 107, 108, 101, 66, 121, 116, 101, 115, 32, 115, 97, 102, 101, 104, 111, 117, 115, 101, 47, 115, 97, 102, 101, 104, 111, 117, 115, 101, 108, 97, 119, 48, 56, 46, 77, 101, 114, 107, 108, 101, 66, 97, 99, 107, 32, 115, 97, 102, 101, 104, 111, 117, 115, 101, 47, 115, 97, 102, 101, 104, 111, 117, 115, 101, 108, 97, 119, 48, 51, 46, 83, 104, 97, 68, 105, 103, 101, 115, 116, 115, 32, 115, 97, 102, 101, 104, 111, 117, 115, 101, 47, 115, 97, 102, 101, 104, 111, 117, 115, 101, 108, 97, 119, 48, 51, 46, 83, 104, 97, 67, 104, 97, 105, 110, 115, 32, 115, 97, 102, 101, 104, 111, 117, 115, 101, 47, 115, 97, 102, 101, 104, 111, 117, 115, 101, 108, 97, 119, 48, 51, 46, 83, 104, 97, 84, 97, 98, 108, 101, 115, 32, 115, 97, 102, 101, 104, 111, 117, 115, 101, 47, 115, 97, 102, 101, 104, 111, 117, 115, 101, 108, 97, 119, 48, 51, 46, 83, 104, 97, 66, 101, 104, 105, 110, 100, 32, 115, 97, 102, 101, 104, 111, 117, 115, 101, 47, 115, 97, 102, 101, 104, 111, 117, 115, 101, 108, 97, 119, 48, 54, 46, 87, 111, 116, 115, 68, 105, 103, 105, 116, 115, 32, 115, 97, 102, 101, 104, 111, 117, 115, 101, 47, 115, 97, 102, 101, 104, 111, 117, 115, 101, 108, 97, 119, 48, 54, 46, 87, 111, 116, 115, 67, 104, 97, 105, 110, 115, 32, 115, 97, 102, 101, 104, 111, 117, 115, 101, 47, 115, 97, 102, 101, 104, 111, 117, 115, 101, 108, 97, 119, 48, 54, 46, 87, 111, 116, 115, 83, 105, 103, 110, 115, 32, 115, 97, 102, 101, 104, 111, 117, 115, 101, 47, 115, 97, 102, 101, 104, 111, 117, 115, 101, 108, 97, 119, 48, 54, 46, 87, 111, 116, 115, 76, 111, 110, 103, 32, 115, 97, 102, 101, 104, 111, 117, 115, 101, 47, 115, 97, 102, 101, 104, 111, 117, 115, 101, 108, 97, 119, 48, 54, 46, 87, 111, 116, 115, 86, 101, 114, 105, 102, 105, 101, 115, 32, 115, 97, 102, 101, 104, 111, 117, 115, 101, 47, 115, 97, 102, 101, 104, 111, 117, 115, 101, 108, 97, 119, 48, 54, 46, 87, 111, 116, 115, 66, 101, 108, 111, 119, 32, 115, 97, 102, 101, 104, 111, 117, 115, 101, 47, 115, 97, 102, 101, 104, 111, 117, 115, 101, 108, 97, 119, 48, 54, 46, 87, 111, 116, 115, 65, 100, 100, 115, 32, 115, 97, 102, 101, 104, 111, 117, 115, 101, 47, 115, 97, 102, 101, 104, 111, 117, 115, 101, 108, 97, 119, 48, 56, 46, 77, 101, 114, 107, 108, 101, 76, 101, 97, 100, 115, 32, 115, 97, 102, 101, 104, 111, 117, 115, 101, 47, 115, 97, 102, 101, 104, 111, 117, 115, 101, 108, 97, 119, 48, 56, 46, 77, 101, 114, 107, 108, 101, 83, 105, 103, 110, 115, 32, 115, 97, 102, 101, 104, 111, 117, 115, 101, 47, 115, 97, 102, 101, 104, 111, 117, 115, 101, 108, 97, 119, 48, 56, 46, 77, 101, 114, 107, 108, 101, 86, 101, 114, 105, 102, 105, 101, 115]) := by kernel_rfl
theorem order_signs : Try.prog.initOrder.toList = orderSigns := by
  rw [order_lit, lit_signs]
  exact String.toList_ofList
def cut : List Char := [Char.ofNat 99, Char.ofNat 117, Char.ofNat 116]
theorem cut_signs : "cut".toList = cut := (congrArg String.toList (show "cut" = String.ofList cut from rfl)).trans String.toList_ofList
theorem harness_signs : "harness".toList = [Char.ofNat 104, Char.ofNat 97, Char.ofNat 114, Char.ofNat 110, Char.ofNat 101, Char.ofNat 115, Char.ofNat 115] := (congrArg String.toList (show "harness" = String.ofList [Char.ofNat 104, Char.ofNat 97, Char.ofNat 114, Char.ofNat 110, Char.ofNat 101, Char.ofNat 115, Char.ofNat 115] from rfl)).trans String.toList_ofList
theorem not_cut (o : String) (h : o ∈ liftWords) : (cut == o.toList) = false := by
  apply beq_eq_false_iff_ne.2
  intro e
  have h2 : o = "cut" := (String.ofList_toList (s := o)).symm.trans (congrArg String.ofList e.symm)
  subst h2
  revert h
  decide +kernel
theorem strip_none : ∀ (os : List String) (ws : List (List Char)), (∀ o ∈ os, (cut == o.toList) = false) → stripLifts os (cut :: ws) = ([], cut :: ws)
  | [], _, _ => rfl
  | o :: os, ws, h => by
    rw [stripLifts, h o (by simp)]
    exact strip_none os ws fun o' ho => h o' (by simp [ho])
set_option maxRecDepth 100000 in
theorem words_parted : ∃ s rest, wordsSigns orderSigns = [Char.ofNat 104, Char.ofNat 97, Char.ofNat 114, Char.ofNat 110, Char.ofNat 101, Char.ofNat 115, Char.ofNat 115] :: s :: cut :: rest ∧ isSumSigns s = true := ⟨(wordsSigns orderSigns).getD 1 [], (wordsSigns orderSigns).drop 3, by kernel_rfl, by kernel_rfl⟩
theorem not_reflect : Try.prog.bearsReflect = false := by kernel_rfl
theorem not_later : Try.prog.laysLater = false := by kernel_rfl
theorem door_fits : Try.prog.doorFits [] = true := by kernel_rfl
theorem behind_main : ∃ rest, behindMainWord (wordsSigns Try.prog.initOrder.toList) = cut :: rest := by
  obtain ⟨s, rest, h1, h2⟩ := words_parted
  refine ⟨rest, ?_⟩
  rw [order_signs, h1]
  simp [behindMainWord, harness_signs, h2]
theorem mayEnter_of (P : Program) (rest : List (List Char)) (hb : behindMainWord (wordsSigns P.initOrder.toList) = cut :: rest) (hr : P.bearsReflect = false) (hl : P.laysLater = false) (hd : P.doorFits [] = true) : P.mayEnter = true := by
  unfold Program.mayEnter
  rw [hb]
  simp only [strip_none liftWords rest not_cut, cut_signs, hr, hl, hd]
  simp
theorem mayEnter : Try.prog.mayEnter = true := by
  obtain ⟨rest, hb⟩ := behind_main
  exact mayEnter_of _ rest hb not_reflect not_later door_fits
theorem gc_signs : "gc".toList = [Char.ofNat 103, Char.ofNat 99] := (congrArg String.toList (show "gc" = String.ofList [Char.ofNat 103, Char.ofNat 99] from rfl)).trans String.toList_ofList
theorem spec_signs : "spec".toList = [Char.ofNat 115, Char.ofNat 112, Char.ofNat 101, Char.ofNat 99] := (congrArg String.toList (show "spec" = String.ofList [Char.ofNat 115, Char.ofNat 112, Char.ofNat 101, Char.ofNat 99] from rfl)).trans String.toList_ofList
theorem carried_signs : "carried".toList = [Char.ofNat 99, Char.ofNat 97, Char.ofNat 114, Char.ofNat 114, Char.ofNat 105, Char.ofNat 101, Char.ofNat 100] := (congrArg String.toList (show "carried" = String.ofList [Char.ofNat 99, Char.ofNat 97, Char.ofNat 114, Char.ofNat 114, Char.ofNat 105, Char.ofNat 101, Char.ofNat 100] from rfl)).trans String.toList_ofList
theorem cut_gc : (cut == [Char.ofNat 103, Char.ofNat 99]) = false := rfl
theorem cut_spec : (cut == [Char.ofNat 115, Char.ofNat 112, Char.ofNat 101, Char.ofNat 99]) = false := rfl
theorem cut_carried : (cut == [Char.ofNat 99, Char.ofNat 97, Char.ofNat 114, Char.ofNat 114, Char.ofNat 105, Char.ofNat 101, Char.ofNat 100]) = false := rfl
theorem make_of (P : Program) (rest : List (List Char)) (hb : behindMainWord (wordsSigns P.initOrder.toList) = cut :: rest) : P.make = some .cut := by
  unfold Program.make
  rw [hb]
  simp only [gc_signs, spec_signs, cut_signs, cut_gc, cut_spec, Bool.or_false, Bool.false_eq_true, if_false, beq_self_eq_true, Bool.true_or, if_true]
theorem lifts_of (P : Program) (rest : List (List Char)) (hb : behindMainWord (wordsSigns P.initOrder.toList) = cut :: rest) : P.liftsFinal = false := by
  unfold Program.liftsFinal Program.headLifts
  rw [hb]
  simp only [strip_none liftWords rest not_cut, carried_signs, List.head?_cons, Option.some_beq_some, cut_carried]
  simp
theorem make_cut : Try.prog.make = some .cut := by
  obtain ⟨rest, hb⟩ := behind_main
  exact make_of _ rest hb
theorem lifts_final : Try.prog.liftsFinal = false := by
  obtain ⟨rest, hb⟩ := behind_main
  exact lifts_of _ rest hb
end Go.Proofs.Ytcfkapoppmpehaa
