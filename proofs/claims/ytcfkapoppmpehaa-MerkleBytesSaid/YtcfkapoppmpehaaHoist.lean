/-
  A region that draws its order: some of its operations give their value in every world (they look at no memory): these are taken first; what is left has one order.
-/
import Derived.StillTail
import Derived.Deep.RegionHeld3
namespace Go.Proofs.Ytcfkapoppmpehaa
open Go

section
variable {P : Program} {ops : Array Oper} {md : Region.Mode}

def seqIdxB (md : Region.Mode) (ops : Array Oper) : List Nat → Array Bool → Bool
  | [], listed => (Region.ready md ops listed).isEmpty
  | k :: tl, listed => decide (Region.ready md ops listed = [k]) && seqIdxB md ops tl (listed.setIfInBounds k true)
def hoistB (md : Region.Mode) (ops : Array Oper) (tl : List Nat) : List Nat → Array Bool → Bool
  | [], listed => seqIdxB md ops tl listed
  | i :: hd, listed => (Region.ready md ops listed).contains i && Region.free md ops listed i && hoistB md ops tl hd (listed.setIfInBounds i true)

def wpIdx (P : Program) (ops : Array Oper) (Q : Exit → Act → World → Prop) : List Nat → Act → World → Prop
  | [], a, w => Q .normal a w
  | k :: tl, a, w => wpOp P ops Q k (wpIdx P ops Q tl) a w

theorem wpAny_of_idx {Q : Exit → Act → World → Prop} : ∀ (tl : List Nat) (listed : Array Bool) (a : Act) (w : World),
    seqIdxB md ops tl listed = true → wpIdx P ops Q tl a w → wpAny P md ops Q tl.length listed a w
  | [], _, _, _, hB, h => ⟨by simpa [seqIdxB] using hB, h⟩
  | k :: tl, listed, a, w, hB, h => by
    simp only [seqIdxB, Bool.and_eq_true, decide_eq_true_eq] at hB
    refine ⟨fun h1 => (by rw [hB.1] at h1; cases h1), fun i hi => ?_⟩
    rw [hB.1] at hi
    have hik : i = k := by simpa using hi
    subst hik
    exact wpOp_mono (fun a' w' h' => wpAny_of_idx tl _ a' w' hB.2 h') h

theorem wpIdx_of_list {Q : Exit → Act → World → Prop} : ∀ (tl : List Nat) (l : List Oper), (∀ j : Nat, l[j]? = (tl[j]?).bind (fun k : Nat => ops[k]?)) → l.length = tl.length → ∀ a w, wpList P ops Q l a w → wpIdx P ops Q tl a w
  | [], [], _, _, _, _, h => h
  | k :: tl, o :: l, hl, hn, a, w, h => by
    have h0 : ops[k]? = some o := by simpa using (hl 0).symm
    have hK : wpOp P ops Q k (wpList P ops Q l) a w := by unfold wpOp; simp only [h0]; exact h
    exact wpOp_mono (fun a' w' h' => wpIdx_of_list tl l (fun j => by simpa using hl (j + 1)) (by simpa using hn) a' w' h') hK
  | [], _ :: _, _, hn, _, _, _ => by simp at hn
  | _ :: _, [], _, hn, _, _, _ => by simp at hn

/-- The operations that are taken first: each gives one value, whatever the world. -/
def wpPure (P : Program) (ops : Array Oper) (K : Act → Prop) : List Nat → Act → Prop
  | [], a => K a
  | i :: hd, a => ∃ o v, ops[i]? = some o ∧ Yields P ops o v a ∧ wpPure P ops K hd (a.put o.dst v)

theorem wpAny_hoist {Q : Exit → Act → World → Prop} (hsel : Region.noSelect ops = true) (hQ : ∀ c a w, ¬ Q (.panic c) a w) (tl : List Nat) (w : World) : ∀ (hd : List Nat) (listed : Array Bool) (a : Act),
    hoistB md ops tl hd listed = true → wpPure P ops (fun a' => wpIdx P ops Q tl a' w) hd a → wpAny P md ops Q (hd.length + tl.length) listed a w
  | [], listed, a, hB, h => by
    simp only [List.length_nil, Nat.zero_add]
    exact wpAny_of_idx tl listed a w hB h
  | i :: hd, listed, a, hB, ⟨o, v, ho, hy, h⟩ => by
    simp only [hoistB, Bool.and_eq_true] at hB
    obtain ⟨⟨hr, hf⟩, hB'⟩ := hB
    have := wpAny_first (P := P) (md := md) (Q := Q) ho (Region.noSelect_spec hsel) (fun c a' w' hq => (hQ _ _ _ hq).elim) (hd.length + tl.length) listed a w (Region.free_spec ho hf) (by simpa using hr) hy
      (wpAny_hoist hsel hQ tl w hd _ _ hB' h)
    simpa [Nat.add_right_comm] using this

/-- The law. -/
theorem wp_region_hoist {id : Nat} {Q : Exit → Act → World → Prop} {a : Act} {w : World} {l : List Oper} (hd tl : List Nat) (lt : List Oper) (hm : P.follows .mixedOrders = true)
    (hB : (Region.noSelect l.toArray && hoistB .any l.toArray tl hd (Array.replicate l.length false) && decide (hd.length + tl.length = l.length)) = true)
    (hlt : lt = tl.filterMap (fun k : Nat => l[k]?)) (hn : lt.length = tl.length) (hj : ∀ j : Nat, lt[j]? = (tl[j]?).bind (fun k : Nat => l[k]?))
    (h : wpPure P l.toArray (fun a' => wpList P l.toArray (NoPanic Q) lt a' w.drew) hd a) : (Code.region id l.toArray true).wp P Q a w := by
  simp only [Bool.and_eq_true, decide_eq_true_eq] at hB
  obtain ⟨⟨hsel, hho⟩, hlen⟩ := hB
  subst hlt
  refine wp_region_noPanic (wp_region_any hm ?_)
  have := wpAny_hoist (P := P) (md := .any) (Q := NoPanic Q) hsel (fun _ _ _ h => h) tl w.drew hd _ a hho (by
    have key : ∀ (hd : List Nat) (a : Act), wpPure P l.toArray (fun a' => wpList P l.toArray (NoPanic Q) (tl.filterMap (fun k : Nat => l[k]?)) a' w.drew) hd a → wpPure P l.toArray (fun a' => wpIdx P l.toArray (NoPanic Q) tl a' w.drew) hd a := by
      intro hd
      induction hd with
      | nil => intro a h; exact wpIdx_of_list tl _ (fun j => by rw [hj j]; simp) hn a _ h
      | cons i hd ih => intro a ⟨o, v, ho, hy, h⟩; exact ⟨o, v, ho, hy, ih _ h⟩
    exact key hd a h)
  rw [hlen] at this
  simpa using this

theorem wpPure_nil {K : Act → Prop} {a : Act} (h : K a) : wpPure P ops K [] a := h
theorem wpPure_cons {K : Act → Prop} {a : Act} {i : Nat} {hd : List Nat} (o : Oper) (v : Value) (ho : ops[i]? = some o) (hg : o.guard = none) (hv : ∀ w, (execOp a.eval o).run P w = .ok (.value v) w)
    (h : wpPure P ops K hd (a.put o.dst v)) : wpPure P ops K (i :: hd) a := ⟨o, v, ho, .inl ⟨by simp [Region.wanted, hg], hv⟩, h⟩
end
end Go.Proofs.Ytcfkapoppmpehaa
