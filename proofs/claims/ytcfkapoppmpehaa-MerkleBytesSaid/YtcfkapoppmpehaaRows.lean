/-
  No cell of these rows narrows 'for every input' (looked for: loops, veiled, ifaces, maps, wideKeys, modest, calm, conditions, laid).
  DERIVED. THE GIVEN ROWS OF THIS SEAT. 20 by the template 'for every input the law returns true; each argument reads behind the call as it read before'; 0 by the template 'total and deterministic' (their statements: YtcfkapoppmpehaaTotals.lean).
  GIVEN WITH THE SEED: the statements are not yours to turn. If you find one false, say at which input.
  Laid BY PROGRAM, IN A SANDBOX (cutbox-rows.mjs): the forced cells as the released guide's own fill.sh prints them over the translation 81385f17c3222caf… (all of the seat's roots in one cut). By AI agents, Wed Nov 11 2026. No macro, syntax, notation, axiom, sorry.
-/
import Derived.Test.YtcfkapoppmpehaaChecked
import GoSem.Claim
import GoSem.ClaimJoined
import GoSem.ClaimMapViews
import Derived.JoinedTies
import Derived.KernelRfl
namespace Go.Proofs.Ytcfkapoppmpehaa
/- THE CELL 'sum', in the pinned program and in every row, IS THE sha256 OF THE DUMP (.gsa) THAT YtcfkapoppmpehaaProg.lean LOADS. Nothing in Lean hashes anything: it is a label: what it is worth is what the hold of that sum in a sandbox is worth. -/
noncomputable def Try.pinned : Pinned := { name := "ytcfkapoppmpehaa", sum := "81385f17c3222cafb727a36412053a94f1057df99522908666be2087c3c3090c", checked := Try.checked }
namespace Rows
def none {H : Type} : Left H := { results := [], args := [] }

/-- 'safehouselaw08.MerkleClimbs': WHATEVER THE INPUT: true; the input reads as it did. -/
def merkleClimbsSpec : ChangeSpec := { name := "merkleClimbs", fn := fun _ => fun
  | [d1, d2, d3] => { results := [.lit (.bool true)], args := [d1, d2, d3] }
  | _ => none }
def merkleClimbsRow : OpenClaim := { program := "ytcfkapoppmpehaa", sum := "81385f17c3222cafb727a36412053a94f1057df99522908666be2087c3c3090c", func := "safehouse/safehouselaw08.MerkleClimbs", spec := "merkleClimbs", unfollowed := true, recurses := true, apart := false }
def MerkleClimbsSaid : Prop := merkleClimbsRow.holds Try.pinned (OpenSpec.ofChange merkleClimbsSpec)

/-- ITS FALSE NEIGHBOUR: 'it returns false'. Refute it at one input. -/
def merkleClimbsWrong : ChangeSpec := { name := "merkleClimbs", fn := fun _ => fun
  | [d1, d2, d3] => { results := [.lit (.bool false)], args := [d1, d2, d3] }
  | _ => none }
def MerkleClimbsWrongFalsely : Prop := merkleClimbsRow.holds Try.pinned (OpenSpec.ofChange merkleClimbsWrong)

/-- 'safehouselaw03.ShaDigits': WHATEVER THE INPUT: true; the input reads as it did. -/
def shaDigitsSpec : ChangeSpec := { name := "shaDigits", fn := fun _ => fun
  | [d1, d2, d3] => { results := [.lit (.bool true)], args := [d1, d2, d3] }
  | _ => none }
def shaDigitsRow : OpenClaim := { program := "ytcfkapoppmpehaa", sum := "81385f17c3222cafb727a36412053a94f1057df99522908666be2087c3c3090c", func := "safehouse/safehouselaw03.ShaDigits", spec := "shaDigits", unfollowed := true, recurses := true, apart := false }
def ShaDigitsSaid : Prop := shaDigitsRow.holds Try.pinned (OpenSpec.ofChange shaDigitsSpec)

/-- ITS FALSE NEIGHBOUR: 'it returns false'. Refute it at one input. -/
def shaDigitsWrong : ChangeSpec := { name := "shaDigits", fn := fun _ => fun
  | [d1, d2, d3] => { results := [.lit (.bool false)], args := [d1, d2, d3] }
  | _ => none }
def ShaDigitsWrongFalsely : Prop := shaDigitsRow.holds Try.pinned (OpenSpec.ofChange shaDigitsWrong)

/-- 'safehouselaw03.ShaReturns': WHATEVER THE INPUT: true; the input reads as it did. -/
def shaReturnsSpec : ChangeSpec := { name := "shaReturns", fn := fun _ => fun
  | [d1, d2, d3, d4] => { results := [.lit (.bool true)], args := [d1, d2, d3, d4] }
  | _ => none }
def shaReturnsRow : OpenClaim := { program := "ytcfkapoppmpehaa", sum := "81385f17c3222cafb727a36412053a94f1057df99522908666be2087c3c3090c", func := "safehouse/safehouselaw03.ShaReturns", spec := "shaReturns", unfollowed := true, recurses := true, apart := false }
def ShaReturnsSaid : Prop := shaReturnsRow.holds Try.pinned (OpenSpec.ofChange shaReturnsSpec)

/-- ITS FALSE NEIGHBOUR: 'it returns false'. Refute it at one input. -/
def shaReturnsWrong : ChangeSpec := { name := "shaReturns", fn := fun _ => fun
  | [d1, d2, d3, d4] => { results := [.lit (.bool false)], args := [d1, d2, d3, d4] }
  | _ => none }
def ShaReturnsWrongFalsely : Prop := shaReturnsRow.holds Try.pinned (OpenSpec.ofChange shaReturnsWrong)

/-- 'safehouselaw03.ShaOrders': WHATEVER THE INPUT: true; the input reads as it did. -/
def shaOrdersSpec : ChangeSpec := { name := "shaOrders", fn := fun _ => fun
  | [d1, d2, d3] => { results := [.lit (.bool true)], args := [d1, d2, d3] }
  | _ => none }
def shaOrdersRow : OpenClaim := { program := "ytcfkapoppmpehaa", sum := "81385f17c3222cafb727a36412053a94f1057df99522908666be2087c3c3090c", func := "safehouse/safehouselaw03.ShaOrders", spec := "shaOrders", unfollowed := true, recurses := true, apart := false }
def ShaOrdersSaid : Prop := shaOrdersRow.holds Try.pinned (OpenSpec.ofChange shaOrdersSpec)

/-- ITS FALSE NEIGHBOUR: 'it returns false'. Refute it at one input. -/
def shaOrdersWrong : ChangeSpec := { name := "shaOrders", fn := fun _ => fun
  | [d1, d2, d3] => { results := [.lit (.bool false)], args := [d1, d2, d3] }
  | _ => none }
def ShaOrdersWrongFalsely : Prop := shaOrdersRow.holds Try.pinned (OpenSpec.ofChange shaOrdersWrong)

/-- 'safehouselaw08.MerkleBytes': WHATEVER THE INPUT: true; the input reads as it did. -/
def merkleBytesSpec : ChangeSpec := { name := "merkleBytes", fn := fun _ => fun
  | [d1, d2] => { results := [.lit (.bool true)], args := [d1, d2] }
  | _ => none }
def merkleBytesRow : OpenClaim := { program := "ytcfkapoppmpehaa", sum := "81385f17c3222cafb727a36412053a94f1057df99522908666be2087c3c3090c", func := "safehouse/safehouselaw08.MerkleBytes", spec := "merkleBytes", unfollowed := true, recurses := true, apart := false }
def MerkleBytesSaid : Prop := merkleBytesRow.holds Try.pinned (OpenSpec.ofChange merkleBytesSpec)

/-- ITS FALSE NEIGHBOUR: 'it returns false'. Refute it at one input. -/
def merkleBytesWrong : ChangeSpec := { name := "merkleBytes", fn := fun _ => fun
  | [d1, d2] => { results := [.lit (.bool false)], args := [d1, d2] }
  | _ => none }
def MerkleBytesWrongFalsely : Prop := merkleBytesRow.holds Try.pinned (OpenSpec.ofChange merkleBytesWrong)

/-- 'safehouselaw08.MerkleBack': WHATEVER THE INPUT: true; the input reads as it did. -/
def merkleBackSpec : ChangeSpec := { name := "merkleBack", fn := fun _ => fun
  | [d1, d2, d3] => { results := [.lit (.bool true)], args := [d1, d2, d3] }
  | _ => none }
def merkleBackRow : OpenClaim := { program := "ytcfkapoppmpehaa", sum := "81385f17c3222cafb727a36412053a94f1057df99522908666be2087c3c3090c", func := "safehouse/safehouselaw08.MerkleBack", spec := "merkleBack", unfollowed := true, recurses := true, apart := false }
def MerkleBackSaid : Prop := merkleBackRow.holds Try.pinned (OpenSpec.ofChange merkleBackSpec)

/-- ITS FALSE NEIGHBOUR: 'it returns false'. Refute it at one input. -/
def merkleBackWrong : ChangeSpec := { name := "merkleBack", fn := fun _ => fun
  | [d1, d2, d3] => { results := [.lit (.bool false)], args := [d1, d2, d3] }
  | _ => none }
def MerkleBackWrongFalsely : Prop := merkleBackRow.holds Try.pinned (OpenSpec.ofChange merkleBackWrong)

/-- 'safehouselaw03.ShaDigests': WHATEVER THE INPUT: true; the input reads as it did. -/
def shaDigestsSpec : ChangeSpec := { name := "shaDigests", fn := fun _ => fun
  | [d] => { results := [.lit (.bool true)], args := [d] }
  | _ => none }
def shaDigestsRow : OpenClaim := { program := "ytcfkapoppmpehaa", sum := "81385f17c3222cafb727a36412053a94f1057df99522908666be2087c3c3090c", func := "safehouse/safehouselaw03.ShaDigests", spec := "shaDigests", unfollowed := true, recurses := true, apart := false }
def ShaDigestsSaid : Prop := shaDigestsRow.holds Try.pinned (OpenSpec.ofChange shaDigestsSpec)

/-- ITS FALSE NEIGHBOUR: 'it returns false'. Refute it at one input. -/
def shaDigestsWrong : ChangeSpec := { name := "shaDigests", fn := fun _ => fun
  | [d] => { results := [.lit (.bool false)], args := [d] }
  | _ => none }
def ShaDigestsWrongFalsely : Prop := shaDigestsRow.holds Try.pinned (OpenSpec.ofChange shaDigestsWrong)

/-- 'safehouselaw03.ShaChains': WHATEVER THE INPUT: true; the input reads as it did. -/
def shaChainsSpec : ChangeSpec := { name := "shaChains", fn := fun _ => fun
  | [d] => { results := [.lit (.bool true)], args := [d] }
  | _ => none }
def shaChainsRow : OpenClaim := { program := "ytcfkapoppmpehaa", sum := "81385f17c3222cafb727a36412053a94f1057df99522908666be2087c3c3090c", func := "safehouse/safehouselaw03.ShaChains", spec := "shaChains", unfollowed := true, recurses := true, apart := false }
def ShaChainsSaid : Prop := shaChainsRow.holds Try.pinned (OpenSpec.ofChange shaChainsSpec)

/-- ITS FALSE NEIGHBOUR: 'it returns false'. Refute it at one input. -/
def shaChainsWrong : ChangeSpec := { name := "shaChains", fn := fun _ => fun
  | [d] => { results := [.lit (.bool false)], args := [d] }
  | _ => none }
def ShaChainsWrongFalsely : Prop := shaChainsRow.holds Try.pinned (OpenSpec.ofChange shaChainsWrong)

/-- 'safehouselaw03.ShaTables': WHATEVER THE INPUT: true; the input reads as it did. -/
def shaTablesSpec : ChangeSpec := { name := "shaTables", fn := fun _ => fun
  | [d] => { results := [.lit (.bool true)], args := [d] }
  | _ => none }
def shaTablesRow : OpenClaim := { program := "ytcfkapoppmpehaa", sum := "81385f17c3222cafb727a36412053a94f1057df99522908666be2087c3c3090c", func := "safehouse/safehouselaw03.ShaTables", spec := "shaTables", unfollowed := true, recurses := true, apart := false }
def ShaTablesSaid : Prop := shaTablesRow.holds Try.pinned (OpenSpec.ofChange shaTablesSpec)

/-- ITS FALSE NEIGHBOUR: 'it returns false'. Refute it at one input. -/
def shaTablesWrong : ChangeSpec := { name := "shaTables", fn := fun _ => fun
  | [d] => { results := [.lit (.bool false)], args := [d] }
  | _ => none }
def ShaTablesWrongFalsely : Prop := shaTablesRow.holds Try.pinned (OpenSpec.ofChange shaTablesWrong)

/-- 'safehouselaw03.ShaBehind': WHATEVER THE INPUT: true; the input reads as it did. -/
def shaBehindSpec : ChangeSpec := { name := "shaBehind", fn := fun _ => fun
  | [d1, d2] => { results := [.lit (.bool true)], args := [d1, d2] }
  | _ => none }
def shaBehindRow : OpenClaim := { program := "ytcfkapoppmpehaa", sum := "81385f17c3222cafb727a36412053a94f1057df99522908666be2087c3c3090c", func := "safehouse/safehouselaw03.ShaBehind", spec := "shaBehind", unfollowed := true, recurses := true, apart := false }
def ShaBehindSaid : Prop := shaBehindRow.holds Try.pinned (OpenSpec.ofChange shaBehindSpec)

/-- ITS FALSE NEIGHBOUR: 'it returns false'. Refute it at one input. -/
def shaBehindWrong : ChangeSpec := { name := "shaBehind", fn := fun _ => fun
  | [d1, d2] => { results := [.lit (.bool false)], args := [d1, d2] }
  | _ => none }
def ShaBehindWrongFalsely : Prop := shaBehindRow.holds Try.pinned (OpenSpec.ofChange shaBehindWrong)

/-- 'safehouselaw06.WotsDigits': WHATEVER THE INPUT: true; the input reads as it did. -/
def wotsDigitsSpec : ChangeSpec := { name := "wotsDigits", fn := fun _ => fun
  | [d] => { results := [.lit (.bool true)], args := [d] }
  | _ => none }
def wotsDigitsRow : OpenClaim := { program := "ytcfkapoppmpehaa", sum := "81385f17c3222cafb727a36412053a94f1057df99522908666be2087c3c3090c", func := "safehouse/safehouselaw06.WotsDigits", spec := "wotsDigits", unfollowed := true, recurses := true, apart := false }
def WotsDigitsSaid : Prop := wotsDigitsRow.holds Try.pinned (OpenSpec.ofChange wotsDigitsSpec)

/-- ITS FALSE NEIGHBOUR: 'it returns false'. Refute it at one input. -/
def wotsDigitsWrong : ChangeSpec := { name := "wotsDigits", fn := fun _ => fun
  | [d] => { results := [.lit (.bool false)], args := [d] }
  | _ => none }
def WotsDigitsWrongFalsely : Prop := wotsDigitsRow.holds Try.pinned (OpenSpec.ofChange wotsDigitsWrong)

/-- 'safehouselaw06.WotsChains': WHATEVER THE INPUT: true; the input reads as it did. -/
def wotsChainsSpec : ChangeSpec := { name := "wotsChains", fn := fun _ => fun
  | [d] => { results := [.lit (.bool true)], args := [d] }
  | _ => none }
def wotsChainsRow : OpenClaim := { program := "ytcfkapoppmpehaa", sum := "81385f17c3222cafb727a36412053a94f1057df99522908666be2087c3c3090c", func := "safehouse/safehouselaw06.WotsChains", spec := "wotsChains", unfollowed := true, recurses := true, apart := false }
def WotsChainsSaid : Prop := wotsChainsRow.holds Try.pinned (OpenSpec.ofChange wotsChainsSpec)

/-- ITS FALSE NEIGHBOUR: 'it returns false'. Refute it at one input. -/
def wotsChainsWrong : ChangeSpec := { name := "wotsChains", fn := fun _ => fun
  | [d] => { results := [.lit (.bool false)], args := [d] }
  | _ => none }
def WotsChainsWrongFalsely : Prop := wotsChainsRow.holds Try.pinned (OpenSpec.ofChange wotsChainsWrong)

/-- 'safehouselaw06.WotsSigns': WHATEVER THE INPUT: true; the input reads as it did. -/
def wotsSignsSpec : ChangeSpec := { name := "wotsSigns", fn := fun _ => fun
  | [d1, d2, d3] => { results := [.lit (.bool true)], args := [d1, d2, d3] }
  | _ => none }
def wotsSignsRow : OpenClaim := { program := "ytcfkapoppmpehaa", sum := "81385f17c3222cafb727a36412053a94f1057df99522908666be2087c3c3090c", func := "safehouse/safehouselaw06.WotsSigns", spec := "wotsSigns", unfollowed := true, recurses := true, apart := false }
def WotsSignsSaid : Prop := wotsSignsRow.holds Try.pinned (OpenSpec.ofChange wotsSignsSpec)

/-- ITS FALSE NEIGHBOUR: 'it returns false'. Refute it at one input. -/
def wotsSignsWrong : ChangeSpec := { name := "wotsSigns", fn := fun _ => fun
  | [d1, d2, d3] => { results := [.lit (.bool false)], args := [d1, d2, d3] }
  | _ => none }
def WotsSignsWrongFalsely : Prop := wotsSignsRow.holds Try.pinned (OpenSpec.ofChange wotsSignsWrong)

/-- 'safehouselaw06.WotsLong': WHATEVER THE INPUT: true; the input reads as it did. -/
def wotsLongSpec : ChangeSpec := { name := "wotsLong", fn := fun _ => fun
  | [d1, d2, d3] => { results := [.lit (.bool true)], args := [d1, d2, d3] }
  | _ => none }
def wotsLongRow : OpenClaim := { program := "ytcfkapoppmpehaa", sum := "81385f17c3222cafb727a36412053a94f1057df99522908666be2087c3c3090c", func := "safehouse/safehouselaw06.WotsLong", spec := "wotsLong", unfollowed := true, recurses := true, apart := false }
def WotsLongSaid : Prop := wotsLongRow.holds Try.pinned (OpenSpec.ofChange wotsLongSpec)

/-- ITS FALSE NEIGHBOUR: 'it returns false'. Refute it at one input. -/
def wotsLongWrong : ChangeSpec := { name := "wotsLong", fn := fun _ => fun
  | [d1, d2, d3] => { results := [.lit (.bool false)], args := [d1, d2, d3] }
  | _ => none }
def WotsLongWrongFalsely : Prop := wotsLongRow.holds Try.pinned (OpenSpec.ofChange wotsLongWrong)

/-- 'safehouselaw06.WotsVerifies': WHATEVER THE INPUT: true; the input reads as it did. -/
def wotsVerifiesSpec : ChangeSpec := { name := "wotsVerifies", fn := fun _ => fun
  | [d1, d2] => { results := [.lit (.bool true)], args := [d1, d2] }
  | _ => none }
def wotsVerifiesRow : OpenClaim := { program := "ytcfkapoppmpehaa", sum := "81385f17c3222cafb727a36412053a94f1057df99522908666be2087c3c3090c", func := "safehouse/safehouselaw06.WotsVerifies", spec := "wotsVerifies", unfollowed := true, recurses := true, apart := false }
def WotsVerifiesSaid : Prop := wotsVerifiesRow.holds Try.pinned (OpenSpec.ofChange wotsVerifiesSpec)

/-- ITS FALSE NEIGHBOUR: 'it returns false'. Refute it at one input. -/
def wotsVerifiesWrong : ChangeSpec := { name := "wotsVerifies", fn := fun _ => fun
  | [d1, d2] => { results := [.lit (.bool false)], args := [d1, d2] }
  | _ => none }
def WotsVerifiesWrongFalsely : Prop := wotsVerifiesRow.holds Try.pinned (OpenSpec.ofChange wotsVerifiesWrong)

/-- 'safehouselaw06.WotsBelow': WHATEVER THE INPUT: true; the input reads as it did. -/
def wotsBelowSpec : ChangeSpec := { name := "wotsBelow", fn := fun _ => fun
  | [d1, d2] => { results := [.lit (.bool true)], args := [d1, d2] }
  | _ => none }
def wotsBelowRow : OpenClaim := { program := "ytcfkapoppmpehaa", sum := "81385f17c3222cafb727a36412053a94f1057df99522908666be2087c3c3090c", func := "safehouse/safehouselaw06.WotsBelow", spec := "wotsBelow", unfollowed := true, recurses := true, apart := false }
def WotsBelowSaid : Prop := wotsBelowRow.holds Try.pinned (OpenSpec.ofChange wotsBelowSpec)

/-- ITS FALSE NEIGHBOUR: 'it returns false'. Refute it at one input. -/
def wotsBelowWrong : ChangeSpec := { name := "wotsBelow", fn := fun _ => fun
  | [d1, d2] => { results := [.lit (.bool false)], args := [d1, d2] }
  | _ => none }
def WotsBelowWrongFalsely : Prop := wotsBelowRow.holds Try.pinned (OpenSpec.ofChange wotsBelowWrong)

/-- 'safehouselaw06.WotsAdds': WHATEVER THE INPUT: true; the input reads as it did. -/
def wotsAddsSpec : ChangeSpec := { name := "wotsAdds", fn := fun _ => fun
  | [d1, d2, d3] => { results := [.lit (.bool true)], args := [d1, d2, d3] }
  | _ => none }
def wotsAddsRow : OpenClaim := { program := "ytcfkapoppmpehaa", sum := "81385f17c3222cafb727a36412053a94f1057df99522908666be2087c3c3090c", func := "safehouse/safehouselaw06.WotsAdds", spec := "wotsAdds", unfollowed := true, recurses := true, apart := false }
def WotsAddsSaid : Prop := wotsAddsRow.holds Try.pinned (OpenSpec.ofChange wotsAddsSpec)

/-- ITS FALSE NEIGHBOUR: 'it returns false'. Refute it at one input. -/
def wotsAddsWrong : ChangeSpec := { name := "wotsAdds", fn := fun _ => fun
  | [d1, d2, d3] => { results := [.lit (.bool false)], args := [d1, d2, d3] }
  | _ => none }
def WotsAddsWrongFalsely : Prop := wotsAddsRow.holds Try.pinned (OpenSpec.ofChange wotsAddsWrong)

/-- 'safehouselaw08.MerkleLeads': WHATEVER THE INPUT: true; the input reads as it did. -/
def merkleLeadsSpec : ChangeSpec := { name := "merkleLeads", fn := fun _ => fun
  | [d1, d2] => { results := [.lit (.bool true)], args := [d1, d2] }
  | _ => none }
def merkleLeadsRow : OpenClaim := { program := "ytcfkapoppmpehaa", sum := "81385f17c3222cafb727a36412053a94f1057df99522908666be2087c3c3090c", func := "safehouse/safehouselaw08.MerkleLeads", spec := "merkleLeads", unfollowed := true, recurses := true, apart := false }
def MerkleLeadsSaid : Prop := merkleLeadsRow.holds Try.pinned (OpenSpec.ofChange merkleLeadsSpec)

/-- ITS FALSE NEIGHBOUR: 'it returns false'. Refute it at one input. -/
def merkleLeadsWrong : ChangeSpec := { name := "merkleLeads", fn := fun _ => fun
  | [d1, d2] => { results := [.lit (.bool false)], args := [d1, d2] }
  | _ => none }
def MerkleLeadsWrongFalsely : Prop := merkleLeadsRow.holds Try.pinned (OpenSpec.ofChange merkleLeadsWrong)

/-- 'safehouselaw08.MerkleSigns': WHATEVER THE INPUT: true; the input reads as it did. -/
def merkleSignsSpec : ChangeSpec := { name := "merkleSigns", fn := fun _ => fun
  | [d1, d2, d3] => { results := [.lit (.bool true)], args := [d1, d2, d3] }
  | _ => none }
def merkleSignsRow : OpenClaim := { program := "ytcfkapoppmpehaa", sum := "81385f17c3222cafb727a36412053a94f1057df99522908666be2087c3c3090c", func := "safehouse/safehouselaw08.MerkleSigns", spec := "merkleSigns", unfollowed := true, recurses := true, apart := false }
def MerkleSignsSaid : Prop := merkleSignsRow.holds Try.pinned (OpenSpec.ofChange merkleSignsSpec)

/-- ITS FALSE NEIGHBOUR: 'it returns false'. Refute it at one input. -/
def merkleSignsWrong : ChangeSpec := { name := "merkleSigns", fn := fun _ => fun
  | [d1, d2, d3] => { results := [.lit (.bool false)], args := [d1, d2, d3] }
  | _ => none }
def MerkleSignsWrongFalsely : Prop := merkleSignsRow.holds Try.pinned (OpenSpec.ofChange merkleSignsWrong)

/-- 'safehouselaw08.MerkleVerifies': WHATEVER THE INPUT: true; the input reads as it did. -/
def merkleVerifiesSpec : ChangeSpec := { name := "merkleVerifies", fn := fun _ => fun
  | [d1, d2, d3] => { results := [.lit (.bool true)], args := [d1, d2, d3] }
  | _ => none }
def merkleVerifiesRow : OpenClaim := { program := "ytcfkapoppmpehaa", sum := "81385f17c3222cafb727a36412053a94f1057df99522908666be2087c3c3090c", func := "safehouse/safehouselaw08.MerkleVerifies", spec := "merkleVerifies", unfollowed := true, recurses := true, apart := false }
def MerkleVerifiesSaid : Prop := merkleVerifiesRow.holds Try.pinned (OpenSpec.ofChange merkleVerifiesSpec)

/-- ITS FALSE NEIGHBOUR: 'it returns false'. Refute it at one input. -/
def merkleVerifiesWrong : ChangeSpec := { name := "merkleVerifies", fn := fun _ => fun
  | [d1, d2, d3] => { results := [.lit (.bool false)], args := [d1, d2, d3] }
  | _ => none }
def MerkleVerifiesWrongFalsely : Prop := merkleVerifiesRow.holds Try.pinned (OpenSpec.ofChange merkleVerifiesWrong)

/- THE SECOND FORM. 'bulk': how many values and letters a reading holds, each counted each time it is reached (what is shared counts as often as it is met; a slice's spare places count too). A statement '..UptoSaid' is the law's where the arguments, and the package variables that the reading takes, are together of bulk at most 1048576: NARROWER than '..Said'. Prove '..Said' where nothing that the law and all that it calls make is longer than what came in: it says more and counts as full. Else prove '..UptoSaid'. A law counts once. -/
mutual
def uptoBulk {H : Type} : DataW H → Nat
  | .lit (.string bytes) => bytes.length + 1
  | .lit _ => 1
  | .nil => 1
  | .ptr d => uptoBulk d + 1
  | .slice elems spare => uptoBulkAll elems + uptoBulkAll spare + 1
  | .agg parts => uptoBulkAll parts + 1
  | .iface _ d => uptoBulk d + 1
  | .map entries => uptoBulkEntries entries + 1
  | .held _ => 1
def uptoBulkAll {H : Type} : List (DataW H) → Nat
  | [] => 0
  | d :: r => uptoBulk d + uptoBulkAll r
def uptoBulkEntries {H : Type} : List (Lit × DataW H) → Nat
  | [] => 0
  | x :: r => uptoBulkEntry x + uptoBulkEntries r
def uptoBulkEntry {H : Type} : Lit × DataW H → Nat
  | (.string bytes, d) => bytes.length + uptoBulk d + 1
  | (_, d) => uptoBulk d + 1
 end
def uptoSmall : (H : Type) → List (DataW H) → Bool := fun _ ds => decide (uptoBulkAll ds ≤ 1048576)
def OpenSpec.upto (s : _root_.Go.ChangeSpec) : _root_.Go.OpenSpec := { _root_.Go.OpenSpec.ofChange s with cond := some uptoSmall }

/-- 'safehouselaw08.MerkleClimbs', WHERE WHAT IT READS IS OF BULK AT MOST 1048576: true; the input reads as it did. -/
def merkleClimbsUptoRow : OpenClaim := { program := "ytcfkapoppmpehaa", sum := "81385f17c3222cafb727a36412053a94f1057df99522908666be2087c3c3090c", func := "safehouse/safehouselaw08.MerkleClimbs", spec := "merkleClimbs", unfollowed := true, recurses := true, apart := false, narrowed := true }
def MerkleClimbsUptoSaid : Prop := merkleClimbsUptoRow.holds Try.pinned (OpenSpec.upto merkleClimbsSpec)

/-- 'safehouselaw03.ShaDigits', WHERE WHAT IT READS IS OF BULK AT MOST 1048576: true; the input reads as it did. -/
def shaDigitsUptoRow : OpenClaim := { program := "ytcfkapoppmpehaa", sum := "81385f17c3222cafb727a36412053a94f1057df99522908666be2087c3c3090c", func := "safehouse/safehouselaw03.ShaDigits", spec := "shaDigits", unfollowed := true, recurses := true, apart := false, narrowed := true }
def ShaDigitsUptoSaid : Prop := shaDigitsUptoRow.holds Try.pinned (OpenSpec.upto shaDigitsSpec)

/-- 'safehouselaw03.ShaReturns', WHERE WHAT IT READS IS OF BULK AT MOST 1048576: true; the input reads as it did. -/
def shaReturnsUptoRow : OpenClaim := { program := "ytcfkapoppmpehaa", sum := "81385f17c3222cafb727a36412053a94f1057df99522908666be2087c3c3090c", func := "safehouse/safehouselaw03.ShaReturns", spec := "shaReturns", unfollowed := true, recurses := true, apart := false, narrowed := true }
def ShaReturnsUptoSaid : Prop := shaReturnsUptoRow.holds Try.pinned (OpenSpec.upto shaReturnsSpec)

/-- 'safehouselaw03.ShaOrders', WHERE WHAT IT READS IS OF BULK AT MOST 1048576: true; the input reads as it did. -/
def shaOrdersUptoRow : OpenClaim := { program := "ytcfkapoppmpehaa", sum := "81385f17c3222cafb727a36412053a94f1057df99522908666be2087c3c3090c", func := "safehouse/safehouselaw03.ShaOrders", spec := "shaOrders", unfollowed := true, recurses := true, apart := false, narrowed := true }
def ShaOrdersUptoSaid : Prop := shaOrdersUptoRow.holds Try.pinned (OpenSpec.upto shaOrdersSpec)

/-- 'safehouselaw08.MerkleBytes', WHERE WHAT IT READS IS OF BULK AT MOST 1048576: true; the input reads as it did. -/
def merkleBytesUptoRow : OpenClaim := { program := "ytcfkapoppmpehaa", sum := "81385f17c3222cafb727a36412053a94f1057df99522908666be2087c3c3090c", func := "safehouse/safehouselaw08.MerkleBytes", spec := "merkleBytes", unfollowed := true, recurses := true, apart := false, narrowed := true }
def MerkleBytesUptoSaid : Prop := merkleBytesUptoRow.holds Try.pinned (OpenSpec.upto merkleBytesSpec)

/-- 'safehouselaw08.MerkleBack', WHERE WHAT IT READS IS OF BULK AT MOST 1048576: true; the input reads as it did. -/
def merkleBackUptoRow : OpenClaim := { program := "ytcfkapoppmpehaa", sum := "81385f17c3222cafb727a36412053a94f1057df99522908666be2087c3c3090c", func := "safehouse/safehouselaw08.MerkleBack", spec := "merkleBack", unfollowed := true, recurses := true, apart := false, narrowed := true }
def MerkleBackUptoSaid : Prop := merkleBackUptoRow.holds Try.pinned (OpenSpec.upto merkleBackSpec)

/-- 'safehouselaw03.ShaDigests', WHERE WHAT IT READS IS OF BULK AT MOST 1048576: true; the input reads as it did. -/
def shaDigestsUptoRow : OpenClaim := { program := "ytcfkapoppmpehaa", sum := "81385f17c3222cafb727a36412053a94f1057df99522908666be2087c3c3090c", func := "safehouse/safehouselaw03.ShaDigests", spec := "shaDigests", unfollowed := true, recurses := true, apart := false, narrowed := true }
def ShaDigestsUptoSaid : Prop := shaDigestsUptoRow.holds Try.pinned (OpenSpec.upto shaDigestsSpec)

/-- 'safehouselaw03.ShaChains', WHERE WHAT IT READS IS OF BULK AT MOST 1048576: true; the input reads as it did. -/
def shaChainsUptoRow : OpenClaim := { program := "ytcfkapoppmpehaa", sum := "81385f17c3222cafb727a36412053a94f1057df99522908666be2087c3c3090c", func := "safehouse/safehouselaw03.ShaChains", spec := "shaChains", unfollowed := true, recurses := true, apart := false, narrowed := true }
def ShaChainsUptoSaid : Prop := shaChainsUptoRow.holds Try.pinned (OpenSpec.upto shaChainsSpec)

/-- 'safehouselaw03.ShaTables', WHERE WHAT IT READS IS OF BULK AT MOST 1048576: true; the input reads as it did. -/
def shaTablesUptoRow : OpenClaim := { program := "ytcfkapoppmpehaa", sum := "81385f17c3222cafb727a36412053a94f1057df99522908666be2087c3c3090c", func := "safehouse/safehouselaw03.ShaTables", spec := "shaTables", unfollowed := true, recurses := true, apart := false, narrowed := true }
def ShaTablesUptoSaid : Prop := shaTablesUptoRow.holds Try.pinned (OpenSpec.upto shaTablesSpec)

/-- 'safehouselaw03.ShaBehind', WHERE WHAT IT READS IS OF BULK AT MOST 1048576: true; the input reads as it did. -/
def shaBehindUptoRow : OpenClaim := { program := "ytcfkapoppmpehaa", sum := "81385f17c3222cafb727a36412053a94f1057df99522908666be2087c3c3090c", func := "safehouse/safehouselaw03.ShaBehind", spec := "shaBehind", unfollowed := true, recurses := true, apart := false, narrowed := true }
def ShaBehindUptoSaid : Prop := shaBehindUptoRow.holds Try.pinned (OpenSpec.upto shaBehindSpec)

/-- 'safehouselaw06.WotsDigits', WHERE WHAT IT READS IS OF BULK AT MOST 1048576: true; the input reads as it did. -/
def wotsDigitsUptoRow : OpenClaim := { program := "ytcfkapoppmpehaa", sum := "81385f17c3222cafb727a36412053a94f1057df99522908666be2087c3c3090c", func := "safehouse/safehouselaw06.WotsDigits", spec := "wotsDigits", unfollowed := true, recurses := true, apart := false, narrowed := true }
def WotsDigitsUptoSaid : Prop := wotsDigitsUptoRow.holds Try.pinned (OpenSpec.upto wotsDigitsSpec)

/-- 'safehouselaw06.WotsChains', WHERE WHAT IT READS IS OF BULK AT MOST 1048576: true; the input reads as it did. -/
def wotsChainsUptoRow : OpenClaim := { program := "ytcfkapoppmpehaa", sum := "81385f17c3222cafb727a36412053a94f1057df99522908666be2087c3c3090c", func := "safehouse/safehouselaw06.WotsChains", spec := "wotsChains", unfollowed := true, recurses := true, apart := false, narrowed := true }
def WotsChainsUptoSaid : Prop := wotsChainsUptoRow.holds Try.pinned (OpenSpec.upto wotsChainsSpec)

/-- 'safehouselaw06.WotsSigns', WHERE WHAT IT READS IS OF BULK AT MOST 1048576: true; the input reads as it did. -/
def wotsSignsUptoRow : OpenClaim := { program := "ytcfkapoppmpehaa", sum := "81385f17c3222cafb727a36412053a94f1057df99522908666be2087c3c3090c", func := "safehouse/safehouselaw06.WotsSigns", spec := "wotsSigns", unfollowed := true, recurses := true, apart := false, narrowed := true }
def WotsSignsUptoSaid : Prop := wotsSignsUptoRow.holds Try.pinned (OpenSpec.upto wotsSignsSpec)

/-- 'safehouselaw06.WotsLong', WHERE WHAT IT READS IS OF BULK AT MOST 1048576: true; the input reads as it did. -/
def wotsLongUptoRow : OpenClaim := { program := "ytcfkapoppmpehaa", sum := "81385f17c3222cafb727a36412053a94f1057df99522908666be2087c3c3090c", func := "safehouse/safehouselaw06.WotsLong", spec := "wotsLong", unfollowed := true, recurses := true, apart := false, narrowed := true }
def WotsLongUptoSaid : Prop := wotsLongUptoRow.holds Try.pinned (OpenSpec.upto wotsLongSpec)

/-- 'safehouselaw06.WotsVerifies', WHERE WHAT IT READS IS OF BULK AT MOST 1048576: true; the input reads as it did. -/
def wotsVerifiesUptoRow : OpenClaim := { program := "ytcfkapoppmpehaa", sum := "81385f17c3222cafb727a36412053a94f1057df99522908666be2087c3c3090c", func := "safehouse/safehouselaw06.WotsVerifies", spec := "wotsVerifies", unfollowed := true, recurses := true, apart := false, narrowed := true }
def WotsVerifiesUptoSaid : Prop := wotsVerifiesUptoRow.holds Try.pinned (OpenSpec.upto wotsVerifiesSpec)

/-- 'safehouselaw06.WotsBelow', WHERE WHAT IT READS IS OF BULK AT MOST 1048576: true; the input reads as it did. -/
def wotsBelowUptoRow : OpenClaim := { program := "ytcfkapoppmpehaa", sum := "81385f17c3222cafb727a36412053a94f1057df99522908666be2087c3c3090c", func := "safehouse/safehouselaw06.WotsBelow", spec := "wotsBelow", unfollowed := true, recurses := true, apart := false, narrowed := true }
def WotsBelowUptoSaid : Prop := wotsBelowUptoRow.holds Try.pinned (OpenSpec.upto wotsBelowSpec)

/-- 'safehouselaw06.WotsAdds', WHERE WHAT IT READS IS OF BULK AT MOST 1048576: true; the input reads as it did. -/
def wotsAddsUptoRow : OpenClaim := { program := "ytcfkapoppmpehaa", sum := "81385f17c3222cafb727a36412053a94f1057df99522908666be2087c3c3090c", func := "safehouse/safehouselaw06.WotsAdds", spec := "wotsAdds", unfollowed := true, recurses := true, apart := false, narrowed := true }
def WotsAddsUptoSaid : Prop := wotsAddsUptoRow.holds Try.pinned (OpenSpec.upto wotsAddsSpec)

/-- 'safehouselaw08.MerkleLeads', WHERE WHAT IT READS IS OF BULK AT MOST 1048576: true; the input reads as it did. -/
def merkleLeadsUptoRow : OpenClaim := { program := "ytcfkapoppmpehaa", sum := "81385f17c3222cafb727a36412053a94f1057df99522908666be2087c3c3090c", func := "safehouse/safehouselaw08.MerkleLeads", spec := "merkleLeads", unfollowed := true, recurses := true, apart := false, narrowed := true }
def MerkleLeadsUptoSaid : Prop := merkleLeadsUptoRow.holds Try.pinned (OpenSpec.upto merkleLeadsSpec)

/-- 'safehouselaw08.MerkleSigns', WHERE WHAT IT READS IS OF BULK AT MOST 1048576: true; the input reads as it did. -/
def merkleSignsUptoRow : OpenClaim := { program := "ytcfkapoppmpehaa", sum := "81385f17c3222cafb727a36412053a94f1057df99522908666be2087c3c3090c", func := "safehouse/safehouselaw08.MerkleSigns", spec := "merkleSigns", unfollowed := true, recurses := true, apart := false, narrowed := true }
def MerkleSignsUptoSaid : Prop := merkleSignsUptoRow.holds Try.pinned (OpenSpec.upto merkleSignsSpec)

/-- 'safehouselaw08.MerkleVerifies', WHERE WHAT IT READS IS OF BULK AT MOST 1048576: true; the input reads as it did. -/
def merkleVerifiesUptoRow : OpenClaim := { program := "ytcfkapoppmpehaa", sum := "81385f17c3222cafb727a36412053a94f1057df99522908666be2087c3c3090c", func := "safehouse/safehouselaw08.MerkleVerifies", spec := "merkleVerifies", unfollowed := true, recurses := true, apart := false, narrowed := true }
def MerkleVerifiesUptoSaid : Prop := merkleVerifiesUptoRow.holds Try.pinned (OpenSpec.upto merkleVerifiesSpec)

end Rows
end Go.Proofs.Ytcfkapoppmpehaa
