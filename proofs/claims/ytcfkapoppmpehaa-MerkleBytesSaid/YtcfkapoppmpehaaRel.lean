/-
  A region that draws its order: what each operation gives is told by a predicate that lasts while only new blocks are laid; each operation is looked at once, whatever has come before it.
-/
import Derived.Test.YtcfkapoppmpehaaTail
namespace Go.Proofs.Ytcfkapoppmpehaa
open Go Go.RowKit

/-- K at the normal end, and no other end. -/
def onlyNormal (K : Act → World → Prop) : Exit → Act → World → Prop
  | .normal, a, w => K a w
  | _, _, _ => False

section
variable {P : Program} {ops : Array Oper} {md : Region.Mode}

theorem wp_of_only {o : Oper} {a : Act} {w : World} {K K' : Act → World → Prop} {Q : Exit → Act → World → Prop} (hh : o.wp P a w K (onlyNormal K')) : o.wp P a w K Q := by
  unfold Oper.wp at *
  generalize (execOp a.eval o).run P w = r at *
  cases r with
  | ok n w' =>
    cases n <;> simp only [Oper.upon] at hh ⊢ <;>
      first
        | exact hh
        | exact Calls.mono hh (fun e w'' he => by
            cases e with
            | returned v => exact he
            | panicked c => exact absurd he id
            | outgrown => obtain ⟨_, _, h⟩ := he; exact absurd h id)
  | halt x w' => cases x <;> simp only [Oper.upon] at hh ⊢ <;> exact absurd hh id

theorem wpOp_of_only {j : Nat} {o : Oper} {a : Act} {w : World} {K : Act → World → Prop} {Q : Exit → Act → World → Prop} (hj : ops[j]? = some o) (h : wpList P ops (onlyNormal K) [o] a w) : wpOp P ops Q j K a w := by
  unfold wpOp
  simp only [hj]
  simp only [wpList] at h
  split
  · rename_i hw
    simp only [hw, if_true] at h
    rcases h with h | ⟨_, _, _, h⟩
    · exact .inl (wp_of_only (Oper.wp_mono (fun a w h => h) h))
    · exact absurd h id
  · rename_i hw
    simp only [hw] at h
    exact h

def dstAt (ops : Array Oper) (k : Nat) : Option Tmp := (ops[k]?).bind (·.dst)
/-- The frame with the first n operations' values. -/
def setAll (ops : Array Oper) (a : Act) (x : Nat → Value) : Nat → Act
  | 0 => a
  | k + 1 => (setAll ops a x k).put (dstAt ops k) (x k)
def upd (x : Nat → Value) (j : Nat) (v : Value) : Nat → Value := fun k => if k = j then v else x k

theorem setAll_upd (a : Act) (x : Nat → Value) (j : Nat) (v : Value) : ∀ n, n ≤ j → setAll ops a (upd x j v) n = setAll ops a x n
  | 0, _ => rfl
  | n + 1, h => by
    rw [setAll, setAll, setAll_upd a x j v n (by omega)]
    unfold upd
    rw [if_neg (by omega)]
theorem put_put (a : Act) (d : Option Tmp) (v u : Value) : (a.put d v).put d u = a.put d u := by
  cases d <;> simp [Act.put]
theorem put_comm' (a : Act) (d e : Option Tmp) (v u : Value) (h : ∀ i j, d = some i → e = some j → i ≠ j) : (a.put d v).put e u = (a.put e u).put d v := by
  cases d with
  | none => rfl
  | some i =>
    cases e with
    | none => rfl
    | some j =>
      have := h i j rfl rfl
      simp only [Act.put]
      rw [Array.setIfInBounds_comm _ _ this]
def distinctB (ops : Array Oper) (n : Nat) : Bool :=
  (List.range n).all fun j => (List.range j).all fun i => match dstAt ops i, dstAt ops j with | some a, some b => a != b | _, _ => true
theorem distinct_of {n : Nat} (h : distinctB ops n = true) {i j : Nat} (hij : i < j) (hj : j < n) : ∀ a b, dstAt ops i = some a → dstAt ops j = some b → a ≠ b := by
  intro a b ha hb
  unfold distinctB at h
  rw [List.all_eq_true] at h
  have h1 := h j (List.mem_range.2 hj)
  rw [List.all_eq_true] at h1
  have h2 := h1 i (List.mem_range.2 hij)
  rw [ha, hb] at h2
  simpa using h2
theorem setAll_put (a : Act) (x : Nat → Value) (j : Nat) (v : Value) (N : Nat) (hd : distinctB ops N = true) : ∀ n, j < n → n ≤ N → (setAll ops a x n).put (dstAt ops j) v = setAll ops a (upd x j v) n
  | 0, h, _ => by omega
  | n + 1, h, hN => by
    rw [setAll, setAll]
    by_cases e : j = n
    · subst e
      rw [put_put, setAll_upd _ _ _ _ _ (Nat.le_refl _)]
      unfold upd
      rw [if_pos rfl]
    · rw [put_comm' _ _ _ _ _ (fun p q hp hq hpq => distinct_of hd (show j < n by omega) (by omega) q p hq hp hpq.symm), setAll_put a x j v N hd n (by omega) (by omega)]
      congr 1
      unfold upd
      rw [if_neg (by omega)]
theorem setAll_self (a : Act) : ∀ n, setAll ops a (fun k => match dstAt ops k with | some d => a.tmps.getD d undef | none => undef) n = a
  | 0 => rfl
  | n + 1 => by
    rw [setAll, setAll_self a n]
    cases h : dstAt ops n with
    | none => simp only [Act.put]
    | some d =>
      simp only [Act.put]
      have : a.tmps.setIfInBounds d (a.tmps.getD d undef) = a.tmps := by
        apply Array.ext
        · simp
        · intro i h1 h2
          rw [Array.getElem_setIfInBounds]
          split
          · rename_i hi; subst hi; simp [h2]
          · rfl
      rw [this]

/-- Edges lead backwards. -/
def backB (md : Region.Mode) (ops : Array Oper) (n : Nat) : Bool :=
  (List.range n).all fun j => match ops[j]? with | none => true | some o => o.after.all fun e => !Region.binds md e || decide (e.on < j)
theorem back_of {n : Nat} (h : backB md ops n = true) {j : Nat} (hj : j < n) {o : Oper} (ho : ops[j]? = some o) : ∀ e ∈ o.after, Region.binds md e = true → e.on < j := by
  unfold backB at h
  rw [List.all_eq_true] at h
  have h1 := h j (List.mem_range.2 hj)
  rw [ho] at h1
  simp only [Array.all_eq_true', Bool.or_eq_true, Bool.not_eq_true', decide_eq_true_eq] at h1
  intro e he hb
  rcases h1 e he with h2 | h2
  · rw [hb] at h2; cases h2
  · exact h2

def left (listed : Array Bool) (n : Nat) : Nat := (List.range n).countP fun k => !listed.getD k false
theorem countP_one (p q : Nat → Bool) (i : Nat) (hp : p i = true) (hq : q i = false) (hk : ∀ k, k ≠ i → p k = q k) : ∀ l : List Nat, l.Nodup → i ∈ l → l.countP p = l.countP q + 1
  | [], _, h => by simp at h
  | k :: l, hn, h => by
    rw [List.nodup_cons] at hn
    by_cases e : k = i
    · subst e
      have : l.countP p = l.countP q := List.countP_congr fun m hm => by rw [hk m (fun e => hn.1 (e ▸ hm))]
      rw [List.countP_cons, List.countP_cons, hp, hq, this]
      simp
    · have hm : i ∈ l := by
        rcases List.mem_cons.1 h with h | h
        · exact absurd h.symm e
        · exact h
      rw [List.countP_cons, List.countP_cons, hk k e, countP_one p q i hp hq hk l hn.2 hm]
      omega
theorem left_set {listed : Array Bool} {n i : Nat} (hi : i < n) (hs : i < listed.size) (h : listed.getD i true = false) : left listed n = left (listed.setIfInBounds i true) n + 1 := by
  unfold left
  refine countP_one _ _ i ?_ ?_ (fun k hk => ?_) _ List.nodup_range (List.mem_range.2 hi)
  · rw [getD_both h]; rfl
  · simp [hs]
  · rw [getD_set_ne false (Ne.symm hk)]
theorem left_zero {listed : Array Bool} {n : Nat} (h : left listed n = 0) (k : Nat) (hk : k < n) : listed.getD k false = true := by
  unfold left at h
  rw [List.countP_eq_zero] at h
  have := h k (List.mem_range.2 hk)
  simpa using this
theorem left_pos {listed : Array Bool} {n f : Nat} (h : left listed n = f + 1) : ∃ k, k < n ∧ listed.getD k false = false := by
  have : 0 < left listed n := by omega
  unfold left at this
  rw [List.countP_pos_iff] at this
  obtain ⟨k, hk, h⟩ := this
  exact ⟨k, List.mem_range.1 hk, by simpa using h⟩
/-- Where something is left, something may come up. -/
theorem ready_some {n : Nat} {listed : Array Bool} (hb : backB md ops n = true) (hn : n ≤ ops.size) (hsz : listed.size = ops.size) : ∀ k, k < n → listed.getD k false = false → ∃ i, i ∈ Region.ready md ops listed := by
  intro k
  induction k using Nat.strongRecOn with
  | _ k ih =>
    intro hk hl
    have hks : k < ops.size := by omega
    by_cases hr : k ∈ Region.ready md ops listed
    · exact ⟨k, hr⟩
    · rw [mem_ready] at hr
      have h1 : listed.getD k true = false := getD_in (by omega) hl
      have : ¬ ∀ e ∈ ops[k].after, Region.binds md e = true → listed.getD e.on false = true := fun h => hr ⟨h1, ops[k], Array.getElem?_eq_getElem hks, h⟩
      simp only [Classical.not_forall] at this
      obtain ⟨e, he, hbd, hne⟩ := this
      have hlt := back_of hb hk (Array.getElem?_eq_getElem hks) e he hbd
      exact ih e.on hlt (by omega) (by simpa using hne)

theorem wpAny_rel {n g : Nat} {R : Nat → Value → World → Prop} {C : World → Prop} {a : Act} {Q : Exit → Act → World → Prop} (hn : n < ops.size)
    (hCw : ∀ w w', C w → Below w.heap.size w w' → C w') (hst : ∀ k v w w', k < n → Below w.heap.size w w' → R k v w → R k v w')
    (hd : distinctB ops n = true) (hb : backB md ops n = true) (hs : Region.sinkB md ops n = true) (hc : Region.chainB md ops n = true)
    (step : ∀ j o, j < n → ops[j]? = some o → ∀ (x : Nat → Value) w, C w → (∀ e ∈ o.after, Region.binds md e = true → R e.on (x e.on) w) →
      ∀ K : Act → World → Prop, (∀ v w', R j v w' → Below w.heap.size w w' → K ((setAll ops a x n).put (dstAt ops j) v) w') → wpList P ops (onlyNormal K) [o] (setAll ops a x n) w)
    (fin : ∀ listed x w, HeadInv md ops n listed → (∀ k, k < n → listed.getD k false = true) → C w → (∀ k, k < n → R k (x k) w) → wpAny P md ops Q g listed (setAll ops a x n) w) :
    ∀ (f : Nat) (listed : Array Bool) (x : Nat → Value) (w : World), left listed n = f → HeadInv md ops n listed → C w → (∀ k, k < n → listed.getD k false = true → R k (x k) w) →
      wpAny P md ops Q (f + g) listed (setAll ops a x n) w
  | 0, listed, x, w, hf, inv, hC, hR => by
    rw [Nat.zero_add]
    exact fin listed x w inv (left_zero hf) hC fun k hk => hR k hk (left_zero hf k hk)
  | f + 1, listed, x, w, hf, inv, hC, hR => by
    obtain ⟨k, hk, hkl⟩ := left_pos hf
    obtain ⟨i0, hi0⟩ := ready_some hb (Nat.le_of_lt hn) inv.size k hk hkl
    have hun : listed.getD k true = false := getD_in (by rw [inv.size]; omega) hkl
    rw [show f + 1 + g = (f + g) + 1 by omega]
    refine ⟨fun h => (by rw [h] at hi0; cases hi0), fun i hi => ?_⟩
    have hin : i < n := by
      rcases Nat.lt_or_ge i n with h | h
      · exact h
      · exact absurd hi (tail_waits hs hc hn inv _ k rfl hk hun i h)
    obtain ⟨hiun, o, ho, hall⟩ := mem_ready.1 hi
    refine wpOp_of_only ho (step i o hin ho x w hC (fun e he hbd => ?_) _ fun v w' hv hbw => ?_)
    · have hlt := back_of hb hin ho e he hbd
      exact hR e.on (by omega) (hall e he hbd)
    · rw [setAll_put _ _ _ _ n hd n hin (Nat.le_refl _)]
      refine wpAny_rel hn hCw hst hd hb hs hc step fin f _ _ _ ?_ (inv.set hi hin) (hCw _ _ hC hbw) fun k hk hkl => ?_
      · have := left_set hin (by rw [inv.size]; omega) hiun
        omega
      · unfold upd
        by_cases e : k = i
        · subst e; rw [if_pos rfl]; exact hv
        · rw [if_neg e]
          refine hst k _ _ _ hk hbw (hR k hk ?_)
          rwa [getD_set_ne false (Ne.symm e)] at hkl

/-- The checks, at the region's own text. -/
def relB (ops : Array Oper) (n : Nat) : Bool :=
  decide (n < ops.size) && distinctB ops n && backB .any ops n && Region.sinkB .any ops n && Region.chainB .any ops n &&
    Region.seqB .any ops (ops.size - n) n (Array.ofFn (n := ops.size) fun i => decide (i.val < n))

/-- The law. -/
theorem wp_region_rel {id : Nat} {Q : Exit → Act → World → Prop} {a : Act} {w : World} {l : List Oper} (n : Nat) (R : Nat → Value → World → Prop) (hm : P.follows .mixedOrders = true) (hB : relB l.toArray n = true)
    (hst : ∀ k, k < n → ∀ v w w', Below w.heap.size w w' → R k v w → R k v w')
    (step : ∀ j o, j < n → l[j]? = some o → ∀ (x : Nat → Value) w1, Below w.heap.size w w1 → (∀ e ∈ o.after, Region.binds .any e = true → R e.on (x e.on) w1) →
      ∀ K : Act → World → Prop, (∀ v w', R j v w' → Below w1.heap.size w1 w' → K ((setAll l.toArray a x n).put (dstAt l.toArray j) v) w') → wpList P l.toArray (onlyNormal K) [o] (setAll l.toArray a x n) w1)
    (fin : ∀ (x : Nat → Value) w1, Below w.heap.size w w1 → (∀ k, k < n → R k (x k) w1) → wpList P l.toArray Q (l.drop n) (setAll l.toArray a x n) w1) : (Code.region id l.toArray true).wp P Q a w := by
  simp only [relB, Bool.and_eq_true, decide_eq_true_eq] at hB
  obtain ⟨⟨⟨⟨⟨hn, hd⟩, hb⟩, hs⟩, hc⟩, hseq⟩ := hB
  refine wp_region_any hm ?_
  have inv0 : HeadInv .any l.toArray n (Array.replicate l.toArray.size false) :=
    ⟨by simp, fun j oj _ hl => (by rw [getD_replicate_false] at hl; cases hl), fun t _ ht => getD_in (by simpa using ht) (getD_replicate_false _ _)⟩
  have hl0 : left (Array.replicate l.toArray.size false) n = n := by
    unfold left
    have : (fun k => !(Array.replicate l.toArray.size false).getD k false) = fun _ => true := by funext k; rw [getD_replicate_false]; rfl
    rw [this]; simp
  have H := wpAny_rel (P := P) (md := .any) (ops := l.toArray) (n := n) (g := l.toArray.size - n) (R := R) (C := fun w1 => Below w.heap.size w w1) (a := a) (Q := Q) hn
    (fun w1 w2 h1 h2 => h1.trans (h2.mono h1.size)) (fun k v w1 w2 hk hbw hr => hst k hk v w1 w2 hbw hr) hd hb hs hc
    (fun j o hj ho x w1 hC hR K hK => step j o hj (by simpa using ho) x w1 hC hR K hK)
    (fun listed x w1 inv hall hC hR => by
      have hlisted : listed = Array.ofFn (n := l.toArray.size) fun i => decide (i.val < n) := by
        apply Array.ext
        · simp [inv.size]
        · intro i h1 h2
          rw [Array.getElem_ofFn]
          by_cases hi : i < n
          · have := hall i hi
            simp [h1] at this
            rw [this]; simp [hi]
          · have := inv.tail i (by omega) (by rw [← inv.size]; exact h1)
            simp [h1] at this
            rw [this]; simp [hi]
      have hdl : (l.drop n).length = l.toArray.size - n := by simp
      have := wpAny_of_seq (P := P) (md := .any) (Q' := Q) (ops := l.toArray) (l.drop n) n listed _ w1 (fun j => by simp [List.getElem?_drop]) (by rw [hdl, hlisted]; exact hseq) (fin x w1 hC hR)
      rwa [hdl] at this)
    n _ (fun k => match dstAt l.toArray k with | some d => a.tmps.getD d undef | none => undef) w.drew hl0 inv0 ((Below.refl _ _).drew)
    (fun k _ hl => by rw [getD_replicate_false] at hl; cases hl)
  rw [setAll_self, show n + (l.toArray.size - n) = l.toArray.size by omega] at H
  exact H
end
end Go.Proofs.Ytcfkapoppmpehaa
