/-
  The law of text Rel, in the shape in which a walk uses it: a list of predicates, a list of steps.
-/
import Derived.Test.YtcfkapoppmpehaaRel
import Derived.Test.YtcfkapoppmpehaaBase
namespace Go.Proofs.Ytcfkapoppmpehaa
open Go Go.RowKit

@[go_sem] theorem onlyNormal_normal {K : Act → World → Prop} {a : Act} {w : World} : onlyNormal K .normal a w = K a w := rfl
def rAt (Rs : List (Value → World → Prop)) (k : Nat) : Value → World → Prop := Rs.getD k (fun _ _ => True)
def depsR (Rs : List (Value → World → Prop)) (x : Nat → Value) (w : World) : List Edge → Prop
  | [] => True
  | e :: es => (Region.binds .any e = true → rAt Rs e.on (x e.on) w) ∧ depsR Rs x w es
theorem depsR_of {Rs : List (Value → World → Prop)} {x : Nat → Value} {w : World} : ∀ {es : List Edge}, (∀ e ∈ es, Region.binds .any e = true → rAt Rs e.on (x e.on) w) → depsR Rs x w es
  | [], _ => trivial
  | e :: _, h => ⟨h e (by simp), depsR_of fun e' he => h e' (by simp [he])⟩
def stepsOk (P : Program) (ops : Array Oper) (a : Act) (Rs : List (Value → World → Prop)) (n : Nat) (w : World) : Nat → List Oper → Prop
  | _, [] => True
  | j, o :: rest => (∀ (x : Nat → Value) (w1 : World), Below w.heap.size w w1 → depsR Rs x w1 o.after.toList →
      ∀ K : Act → World → Prop, (∀ v w', rAt Rs j v w' → Below w1.heap.size w1 w' → K ((setAll ops a x n).put o.dst v) w') → wpList P ops (onlyNormal K) [o] (setAll ops a x n) w1) ∧ stepsOk P ops a Rs n w (j + 1) rest
theorem stepsOk_at {P : Program} {ops : Array Oper} {a : Act} {Rs : List (Value → World → Prop)} {n : Nat} {w : World} : ∀ {l : List Oper} {k : Nat}, stepsOk P ops a Rs n w k l → ∀ j o, l[j]? = some o →
    ∀ (x : Nat → Value) (w1 : World), Below w.heap.size w w1 → depsR Rs x w1 o.after.toList →
      ∀ K : Act → World → Prop, (∀ v w', rAt Rs (k + j) v w' → Below w1.heap.size w1 w' → K ((setAll ops a x n).put o.dst v) w') → wpList P ops (onlyNormal K) [o] (setAll ops a x n) w1
  | [], _, _, j, o, h => by simp at h
  | o' :: l, k, hs, j, o, h => by
    cases j with
    | zero =>
      simp at h
      subst h
      exact hs.1
    | succ j =>
      have := stepsOk_at hs.2 j o (by simpa using h)
      rw [show k + 1 + j = k + (j + 1) by omega] at this
      exact this
def Stays (R : Value → World → Prop) : Prop := ∀ v w w', Below w.heap.size w w' → R v w → R v w'
def allR (x : Nat → Value) (w : World) : Nat → List (Value → World → Prop) → Prop
  | _, [] => True
  | k, R :: Rs => R (x k) w ∧ allR x w (k + 1) Rs
theorem allR_of {x : Nat → Value} {w : World} : ∀ {Rs : List (Value → World → Prop)} {k : Nat}, (∀ j, j < Rs.length → rAt Rs j (x (k + j)) w) → allR x w k Rs
  | [], _, _ => trivial
  | R :: Rs, k, h => ⟨h 0 (by simp), allR_of fun j hj => by
      have := h (j + 1) (by simpa using hj)
      rw [show k + 1 + j = k + (j + 1) by omega]
      exact this⟩
def allStay : List (Value → World → Prop) → Prop
  | [] => True
  | R :: Rs => Stays R ∧ allStay Rs
theorem allStay_at : ∀ {Rs : List (Value → World → Prop)}, allStay Rs → ∀ k, Stays (rAt Rs k)
  | [], _, k => fun _ _ _ _ _ => by unfold rAt; simp
  | R :: Rs, h, 0 => h.1
  | R :: Rs, h, k + 1 => allStay_at h.2 k
theorem Stays.const (c : Value) : Stays fun v _ => v = c := fun _ _ _ _ h => h
theorem Stays.any : Stays fun _ _ => True := fun _ _ _ _ h => h

theorem wp_region_rels {P : Program} {id : Nat} {Q : Exit → Act → World → Prop} {a : Act} {w : World} {l : List Oper} (n : Nat) (Rs : List (Value → World → Prop)) (hm : P.follows .mixedOrders = true) (hB : relB l.toArray n = true) (hn : Rs.length = n)
    (hst : allStay Rs) (step : stepsOk P l.toArray a Rs n w 0 (l.take n))
    (fin : ∀ (x : Nat → Value) w1, Below w.heap.size w w1 → allR x w1 0 Rs → wpList P l.toArray Q (l.drop n) (setAll l.toArray a x n) w1) : (Code.region id l.toArray true).wp P Q a w := by
  refine wp_region_rel n (rAt Rs) hm hB (fun k _ v w1 w2 hb hr => allStay_at hst k v w1 w2 hb hr) (fun j o hj ho x w1 hb hd K hK => ?_) (fun x w1 hb hR => fin x w1 hb (allR_of fun j hj => by rw [Nat.zero_add]; exact hR j (by omega)))
  have h := stepsOk_at step j o (by rw [List.getElem?_take, if_pos hj]; exact ho) x w1 hb (depsR_of fun e he hbd => hd e (by simpa using he) hbd) K
  rw [Nat.zero_add] at h
  refine h fun v w' hv hbw => ?_
  have := hK v w' hv hbw
  unfold dstAt at this
  rw [List.getElem?_toArray, ho] at this
  exact this
end Go.Proofs.Ytcfkapoppmpehaa
