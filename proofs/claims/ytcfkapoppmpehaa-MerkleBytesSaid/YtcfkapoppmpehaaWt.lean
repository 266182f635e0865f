/-
  Rows of digests of the call's own, written.
-/
import Derived.Test.YtcfkapoppmpehaaFrs
import Derived.Deep.Upon
namespace Go.Proofs.Ytcfkapoppmpehaa
open Go.RowKit

theorem setCells_keep (g : Nat) : ∀ (vs : List Value) (o : Nat) (w : World), (w.setCells g o vs).os = w.os ∧ (w.setCells g o vs).tape = w.tape ∧ (w.setCells g o vs).output = w.output ∧ (w.setCells g o vs).heap.size = w.heap.size
  | [], _, _ => ⟨rfl, rfl, rfl, rfl⟩
  | v :: vs, o, w => by
    obtain ⟨h1, h2, h3, h4⟩ := setCells_keep g vs (o + 1) (w.setCell ⟨g, o, none⟩ v)
    refine ⟨h1, h2, h3, h4.trans ?_⟩
    simp [World.setCell]
theorem below_setCells {B g : Nat} {w0 w : World} (hb : Below B w0 w) (hBg : B ≤ g) (o : Nat) (vs : List Value) : Below B w0 (w.setCells g o vs) := by
  obtain ⟨h1, h2, h3, h4⟩ := setCells_keep g vs o w
  refine ⟨h1.trans hb.os, h2.trans hb.tape, h3.trans hb.output, Nat.le_trans hb.size (Nat.le_of_eq h4.symm), fun i hi => ?_⟩
  rw [← hb.block i hi]
  by_cases hs : i < w.heap.size
  · exact World.heap_setCells_other w g o vs hs (by omega)
  · rw [Array.getElem?_eq_none (by omega), Array.getElem?_eq_none (by omega)]
/-- A row of digests in the block g, that may be written. -/
def WrI (w : World) (g : Nat) (ids : List (List UInt8)) : Prop :=
  (∀ i, i < ids.length → (ids.getD i []).length = 32) ∧ (∀ i, i < ids.length → w.rangeAt g (i * 32) ((ids.getD i []).map bv)) ∧ ∀ i, i < ids.length → w.there g (i * 32) 32
theorem WrI.rd {w : World} {g c : Nat} {ids : List (List UInt8)} (h : WrI w g ids) (hc : ids.length ≤ c) : RdI w (.slice (some ⟨g, 0, none⟩) ids.length c) ids :=
  ⟨_, c, rfl, hc, h.1, fun _ => ⟨g, 0, rfl, fun i hi => by rw [Nat.zero_add]; exact h.2.1 i hi⟩⟩
theorem WrI.set {w : World} {g : Nat} {ids : List (List UInt8)} (h : WrI w g ids) (k : Nat) (y : List UInt8) (hy : y.length = 32) : WrI (w.setCells g (k * 32) (y.map bv)) g (ids.set k y) := by
  have hg : ∀ i, i < ids.length → (ids.set k y).getD i [] = if i = k then y else ids.getD i [] := fun i hi => by
    rw [List.getD_eq_getElem?_getD, List.getElem?_set]
    by_cases e : k = i
    · subst e; simp [hi]
    · rw [if_neg e, if_neg (fun h => e h.symm), List.getD_eq_getElem?_getD]
  refine ⟨fun i hi => ?_, fun i hi => ?_, fun i hi => World.there_setCells (h.2.2 i (by simpa using hi)) _ _ _⟩
  · rw [List.length_set] at hi
    rw [hg i hi]
    split
    · exact hy
    · exact h.1 i hi
  · rw [List.length_set] at hi
    rw [hg i hi]
    split
    · rename_i e
      subst e
      exact World.rangeAt_setCells_same w g _ _ (by rw [List.length_map, hy]; exact h.2.2 i hi)
    · rename_i e
      refine World.rangeAt_setCells_apart (h.2.1 i hi) g (k * 32) _ (.inr ?_)
      rw [List.length_map, List.length_map, h.1 i hi, hy]
      omega
theorem OwnI.wr {w : World} {base : Nat} {v : Value} {ids : List (List UInt8)} (h : OwnI w base v ids) (h0 : 0 < ids.length) : ∃ g c, v = .slice (some ⟨g, 0, none⟩) ids.length c ∧ ids.length ≤ c ∧ base ≤ g ∧ WrI w g ids := by
  have hrd := h.rd
  obtain ⟨hl, h1, ⟨rfl, h2⟩ | ⟨g, cap, cur, rfl, hbg, hg, hnc, hcm, hcs, htake⟩⟩ := h
  · omega
  · refine ⟨g, cap, rfl, hnc, hbg, hl, fun i hi => ?_, fun i hi j hj => ?_⟩
    · obtain ⟨a, c, he, _, _, hr⟩ := hrd
      cases he
      obtain ⟨b, o, he, hrr⟩ := hr h0
      cases he
      have := hrr i hi
      rwa [Nat.zero_add] at this
    · refine ⟨?_, frozen_of_row _ _ _ _ _ hg⟩
      rw [cell_of_row _ _ _ _ _ _ hg]
      have : i * 32 + j < cur.size := by rw [hcs]; omega
      simp [this]
theorem WrI.mono {w w' : World} {g : Nat} {ids : List (List UInt8)} (h : WrI w g ids) (hg : g < w.heap.size) (hb : Below w.heap.size w w') : WrI w' g ids :=
  ⟨h.1, fun i hi j u hu => (hb.cell (p := ⟨g, i * 32 + j, none⟩) hg).trans (h.2.1 i hi j u hu), fun i hi j hj => ⟨by rw [hb.cell (p := ⟨g, i * 32 + j, none⟩) hg]; exact (h.2.2 i hi j hj).1, (hb.frozen (p := ⟨g, i * 32 + j, none⟩) hg).trans (h.2.2 i hi j hj).2⟩⟩
end Go.Proofs.Ytcfkapoppmpehaa
