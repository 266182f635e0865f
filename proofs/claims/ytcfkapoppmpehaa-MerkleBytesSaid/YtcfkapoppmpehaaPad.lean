/-
  What calls of lay, Put64 and Pad give: bytes filled up.
-/
import Derived.Test.YtcfkapoppmpehaaBase
import Derived.Laws.CopyOwn
import Derived.Lib.AppendZeros
import Derived.Deep.DeepCutAuto
namespace Go.Proofs.Ytcfkapoppmpehaa
open Go.RowKit

/-- The slice value v reads, in the world w, as these bytes. -/
def RdB (w : World) (v : Value) (bs : List UInt8) : Prop :=
  ∃ a cap, v = .slice a bs.length cap ∧ bs.length ≤ cap ∧ (0 < bs.length → ∃ b o, a = some ⟨b, o, none⟩ ∧ ∀ j, j < bs.length → w.cell? ⟨b, o + j, none⟩ = some (bv (bs.getD j 0)))
/-- The slice value v is a whole new block of these bytes. -/
def NewB (w w' : World) (v : Value) (bs : List UInt8) : Prop :=
  ∃ H, v = .slice (some ⟨H, 0, none⟩) bs.length bs.length ∧ w.heap.size ≤ H ∧ w'.heap[H]? = some (.cells (bs.map bv).toArray 5 (0, 0))

theorem setLb (l : List UInt8) (k : Nat) (x : UInt8) : ((l.map bv).toArray).setIfInBounds k (bv x) = ((l.set k x).map bv).toArray := by simp [List.map_set]
theorem getb (l : List UInt8) (i : Nat) (h : i < l.length) : (l.map bv).toArray[i]? = some (bv (l.getD i 0)) := by simp [h]

theorem RdB.mono {w w' : World} {v : Value} {bs : List UInt8} (h : RdB w v bs) (hb : Below w.heap.size w w') : RdB w' v bs := by
  obtain ⟨a, cap, rfl, hc, hr⟩ := h
  refine ⟨a, cap, rfl, hc, fun h0 => ?_⟩
  obtain ⟨b, o, rfl, hj⟩ := hr h0
  refine ⟨b, o, rfl, fun j hlt => ?_⟩
  rw [hb.cell (block_lt_of_cell (hj j hlt))]
  exact hj j hlt
theorem NewB.rd {w w' : World} {v : Value} {bs : List UInt8} (h : NewB w w' v bs) : RdB w' v bs := by
  obtain ⟨H, rfl, _, hH⟩ := h
  refine ⟨_, _, rfl, Nat.le_refl _, fun _ => ⟨H, 0, rfl, fun j hj => ?_⟩⟩
  rw [cell_of_row _ _ _ _ _ _ hH, Nat.zero_add, getb _ _ hj]

def layTo (bs : List UInt8) (x k : Nat) : List UInt8 := bs ++ (List.range 8).map (fun i => if i < k then byteAt x i else 0)
theorem layTo_length (bs : List UInt8) (x k : Nat) : (layTo bs x k).length = bs.length + 8 := by simp [layTo]
theorem layTo_full (bs : List UInt8) (x : Nat) : layTo bs x 8 = bs ++ be64 x := rfl
theorem layTo_step (bs : List UInt8) (x k : Nat) (hk : k < 8) : (layTo bs x k).set (bs.length + k) (byteAt x k) = layTo bs x (k + 1) := by
  unfold layTo
  rw [List.set_append_right _ _ (by omega), Nat.add_sub_cancel_left]
  congr 1
  apply List.ext_getElem?
  intro i
  by_cases e : k = i
  · subst e; rw [List.getElem?_set_self (by simpa using hk)]; simp [hk]
  · rw [List.getElem?_set_ne e]
    by_cases hi : i < 8
    · simp only [List.getElem?_map, List.getElem?_range hi, Option.map_some]
      by_cases h : i < k
      · rw [if_pos h, if_pos (by omega)]
      · rw [if_neg h, if_neg (by omega)]
    · rw [List.getElem?_eq_none (by simp; omega), List.getElem?_eq_none (by simp; omega)]

theorem info5 : (Try.prog.info? 5).map (fun i => (i.zero, i.size, i.bytes)) = some (some (.int .u8 0), 1, 1) := by kernel_rfl

theorem made5 (n : Nat) : madeCells #[Value.int .u8 0] n = ((List.replicate n (0 : UInt8)).map bv).toArray := by
  apply Array.ext'
  rw [toList_madeCells_one]
  simp
/-- make([]byte, l, c). -/
theorem run_make42 (u : World) (L C : Int) (l c : Nat) (hL : L = l) (hC : C = c) (h : l ≤ c) (hc : c ≤ 281474976710656) : (Instr.makeSlice 42 (.int .i64 L) (.int .i64 C)).run Try.prog u =
    .ok (.slice (some ⟨u.heap.size, 0, none⟩) l c) (u.alloc (.cells ((List.replicate c (0 : UInt8)).map bv).toArray 5)) := by
  obtain ⟨i0, hi, hz0, hz1, hz2⟩ := info_parts info5
  subst hL hC
  have h := run_make (P := Try.prog) u 42 5 i0 (.int .u8 0) (by kernel_rfl) hi hz0 .i64 .i64 (l : Int) (c : Int) (by omega) (by omega) (by rw [hz2]; omega) (by omega)
  rw [h, hz1]
  simp [made5, Value.cells]

set_option maxHeartbeats 400000 in
set_option maxRecDepth 100000 in
theorem lay_any (v : Value) (bs : List UInt8) (x : Nat) (hl : bs.length ≤ 60000) (w : World) (hv : RdB w v bs) :
    Calls Try.prog 105 #[v, .int .u64 x, .int .i64 8] w fun e w' => ∃ v', e = .returned v' ∧ NewB w w' v' (bs ++ be64 x) ∧ Below w.heap.size w w' := by
  have hv' := hv
  obtain ⟨a, cap, rfl, hc, hr⟩ := hv
  have Hr := Lib.hid hr
  clear hr
  have hmk := fun u => run_make42 u (↑bs.length + 8) (↑bs.length + 8) (bs.length + 8) (bs.length + 8) (by omega) (by omega) (Nat.le_refl _) (by omega)
  go_enter Try.func105, Try.ntmps105
  go_wp2_with (with_reducible refine wpList_copy_splice rfl (.tmp 14) (.tmp 15) 42 42 rfl 5 (by kernel_rfl) (by kernel_rfl) (some ⟨w.heap.size, 0, none⟩) a (bs.length + 8) (bs.length + 8) bs.length cap rfl rfl w.heap.size 0 (List.replicate (bs.length + 8) (bv 0)) 5 (by rw [List.toArray_replicate]; exact heap_alloc_new _ _) (bs.map bv) (by simp) ?c1 ?c2 ?c3 w.heap.size w ((Below.refl _ _).alloc (Nat.le_refl _) _) (Nat.le_refl _) ?_)
  case c1 =>
    intro h0
    obtain ⟨b, o, rfl, hj⟩ := Hr.out (by simpa using h0)
    refine ⟨_, rfl, fun j u hu => ?_⟩
    have hjl : j < bs.length := by
      have := (List.getElem?_eq_some_iff.1 hu).1
      simpa using this
    rw [Addr.add_mid, World.cell?_alloc_lt _ _ _ (block_lt_of_cell (hj j hjl)), hj j hjl, List.getD_eq_getElem?_getD, hu]
    rfl
  case c2 => simp
  case c3 => intro u hu; obtain ⟨x, _, rfl⟩ := List.mem_map.1 hu; rfl
  intro w1 hg1 hb1
  have hg2 : w1.heap[w.heap.size]? = some (.cells ((layTo bs x 0).map bv).toArray 5 (0, 0)) := by
    rw [hg1.out]
    congr 3
    simp [splice, layTo]
    rfl
  clear hg1 hmk Hr hv'
  obtain ⟨H, hH⟩ : ∃ H, H = w.heap.size := ⟨_, rfl⟩
  rw [← hH] at hg2 ⊢
  have HH := Lib.hid hH
  clear hH
  go_wp2_with fail
  go_loopw [18] (fun i wr => ∃ k : Nat, k ≤ 8 ∧ i = .int .i64 k ∧ Below w.heap.size w wr ∧ wr.heap[H]? = some (.cells ((layTo bs x k).map bv).toArray 5 (0, 0))) (fun i _ => 8 - (intOf i).toNat)
  case atStart => exact ⟨0, by omega, rfl, hb1, hg2⟩
  case round =>
    clear hb1 hg2
    obtain ⟨k, hk, rfl, hb, hg⟩ := hrel
    by_cases hlt : k < 8
    · have e0 : wr.cell? ⟨H, bs.length + k, none⟩ = some (bv ((layTo bs x k).getD (bs.length + k) 0)) := by
        rw [cell_of_row _ _ _ _ _ _ hg, getb _ _ (by rw [layTo_length]; omega)]
      have f0 : wr.frozen? ⟨H, bs.length + k, none⟩ = false := frozen_of_row _ _ _ _ _ hg
      generalize (layTo bs x k).getD (bs.length + k) 0 = y at *
      go_wp2_with fail
      go_roundw
      case rel =>
        refine ⟨k + 1, by omega, by go_num, hb.setCell (by show _ ≤ H; rw [HH.out]; exact Nat.le_refl _) _, ?_⟩
        have h := heap_setCell_same wr H (bs.length + k) _ _ (bv (byteAt x k)) hg
        rw [setLb, layTo_step _ _ _ hlt] at h
        rw [show (↑x / 2 ^ (8 * (7 - k)) % 256 : Int) = ((byteAt x k).toNat : Int) from by simp [byteAt]]
        exact h
      case measure => simp [intOf]; omega
    · obtain rfl : k = 8 := by omega
      go_wp2_with fail
      go_ret
      exact ⟨_, rfl, ⟨H, by simp [be64], by rw [HH.out]; exact Nat.le_refl _, hg⟩, hb⟩

set_option maxHeartbeats 400000 in
theorem put64_any (v : Value) (bs : List UInt8) (x : Nat) (hl : bs.length ≤ 60000) (w : World) (hv : RdB w v bs) :
    Calls Try.prog 87 #[v, .int .u64 x] w fun e w' => ∃ v', e = .returned v' ∧ NewB w w' v' (bs ++ be64 x) ∧ Below w.heap.size w w' := by
  go_enter Try.func87, Try.ntmps87
  go_wp2_with (go_at_call 105; refine (lay_any v bs x hl w hv).mono ?_; rintro e w' ⟨v', rfl, hn, hb⟩)
  go_ret
  exact ⟨_, rfl, hn, hb⟩

/-- append within the capacity of a row that is known, from one of its heads: elements of one cell. -/
theorem wpList_append_room {P : Program} (w : World) {ops : Array Oper} {rest : List Oper} {o : Oper} {a : Act} {Q : Exit → Act → World → Prop} (hgd : o.guard = none) (s x : Operand) (t : TypeId)
    (ho : o.op = .call { callee := .builtin .append, args := #[s, x], argTypes := #[t, t] }) (e : TypeId) (i : TypeInfo) (ht : P.underlying t = some (.slice e)) (hi : P.info? e = some i) (hs1 : i.size = 1)
    (g n cap : Nat) (cur : List Value) (hs : a.eval s = .slice (some ⟨g, 0, none⟩) n cap) (hg : w.heap[g]? = some (.cells cur.toArray e (0, 0)))
    (ad : Addr) (m c : Nat) (news : List Value) (hx : a.eval x = .slice (some ad) m c) (hl : news.length = m) (hnews : ∀ j u, news[j]? = some u → w.cell? (ad.add j) = some u) (h1 : ∀ u ∈ news, u.oneCell' = true)
    (hroom : n + m ≤ cap) (hcap : cap ≤ cur.length) (B : Nat) (w0 : World) (hb : Below B w0 w) (hBg : B ≤ g)
    (h : ∀ w', Hid (w'.heap[g]? = some (.cells (splice cur n news).toArray e (0, 0))) → Below B w0 w' → wpList P ops Q rest (a.put o.dst (.slice (some ⟨g, 0, none⟩) (n + m) cap)) w') : wpList P ops Q (o :: rest) a w := by
  have hr := run_append_room (P := P) w t o.type e i ht hi g n cap cur.toArray hg ad m c news (by rw [hs1, hl, Nat.mul_one]) hnews h1 hroom (by rw [hs1]; simp; omega)
  refine Lib.wpList_append_run w hgd s x t t ho _ _ hs hx _ _ hr ?_
  rw [hs1]
  have := h (w.setRow g (splice cur n news).toArray) (setRow_heap _ _ _ _ _ _ hg) (below_setRow' hb hBg _)
  simpa [splice] using this
theorem wpList_append_zeros_room {P : Program} (w : World) {ops : Array Oper} {rest : List Oper} {o : Oper} {a : Act} {Q : Exit → Act → World → Prop} (hgd : o.guard = none) (s x : Operand) (t tn : TypeId)
    (ho : o.op = .call { callee := .builtin .append, args := #[s, x], argTypes := #[t, tn] }) (e g n cap k : Nat) (cur : List Value) (z : Value) (kq : IntKind) (K : Int) (hs : a.eval s = .slice (some ⟨g, 0, none⟩) n cap) (hx : a.eval x = .int kq K) (hK : K = (k : Int))
    (hrun : ∀ ty, (Builtin.append_ #[t, tn] ty #[.slice (some ⟨g, 0, none⟩) n cap, .int kq (k : Int)]).run P w = .ok (.slice (some ⟨g, 0, none⟩) (n + k) cap) (w.setRow g (splice cur n (List.replicate k z)).toArray))
    (hg : w.heap[g]? = some (.cells cur.toArray e (0, 0))) (B : Nat) (w0 : World) (hb : Below B w0 w) (hBg : B ≤ g)
    (h : ∀ w', Hid (w'.heap[g]? = some (.cells (splice cur n (List.replicate k z)).toArray e (0, 0))) → Below B w0 w' → wpList P ops Q rest (a.put o.dst (.slice (some ⟨g, 0, none⟩) (n + k) cap)) w') : wpList P ops Q (o :: rest) a w := by
  subst hK
  exact Lib.wpList_append_run w hgd s x t tn ho _ _ hs hx _ _ (hrun _) (h _ (setRow_heap _ _ _ _ _ _ hg) (below_setRow' hb hBg _))

theorem zeroCells_one (z : Value) (n : Nat) : (Builtin.zeroCells #[z] n).toList = List.replicate n z := by
  simp only [Builtin.zeroCells, Array.toList_map, Array.toList_range]
  apply List.ext_getElem?
  intro i
  by_cases h : i < n
  · simp [h, Nat.mod_one]
  · rw [List.getElem?_eq_none (by simp; omega), List.getElem?_eq_none (by simp; omega)]

/-- append(s, make([]T, k)...) within the capacity of a row that is known. -/
theorem run_append_zeros_room {P : Program} (w : World) (t tn ty e : TypeId) (i : TypeInfo) (z : Value) (kq kn : IntKind) (ht : P.underlying t = some (.slice e)) (htn : P.underlying tn = some (.int kn)) (hi : P.info? e = some i) (hz : i.zero = some z)
    (hs1 : i.size = 1) (hz1 : z.cells = #[z]) (ho1 : z.oneCell' = true) (hb1 : i.bytes = 1)
    (g n cap k : Nat) (cur : List Value) (hg : w.heap[g]? = some (.cells cur.toArray e (0, 0))) (hroom : n + k ≤ cap) (hcap : cap ≤ cur.length) (hk : k ≤ 1000000) :
    (Builtin.append_ #[t, tn] ty #[.slice (some ⟨g, 0, none⟩) n cap, .int kq (k : Int)]).run P w =
      .ok (.slice (some ⟨g, 0, none⟩) (n + k) cap) (w.setRow g (splice cur n (List.replicate k z)).toArray) := by
  have hw : IntKind.i64.wrap (k : Int) = k := by rw [IntKind.wrap_i64]; omega
  have h48i : ¬ (281474976710656 < (k : Int) * (i.bytes : Int)) := by rw [hb1]; omega
  have hneg : ¬ ((k : Int) < 0) := by omega
  have hst := run_storeCells_at P g n e (List.replicate k z) 0 cur.toArray w hg (by simp; omega) (fun v hv => by rw [(List.mem_replicate.1 hv).2]; exact ho1)
  by_cases h0 : k = 0
  · subst h0
    have hw0 : IntKind.i64.wrap 0 = 0 := by rw [IntKind.wrap_i64]; rfl
    have hroom' : n ≤ cap := by omega
    have hself : w.setRow g cur.toArray = w := setRow_self w g _ e (0, 0) hg
    simp [Builtin.append_, run_underlying ht, run_underlying htn, sizeOf, typeInfo, hi, asInt, asIntOf, hw0, hroom', Addr.add_lit, storeCells, splice, hself]
  · simp [Builtin.append_, run_underlying ht, run_underlying htn, sizeOf, typeInfo, hi, hs1, asInt, asIntOf, hw, hneg, h48i, hroom, Addr.add_lit, zeroValue, hz, hz1, zeroCells_one, hst, h0, splice]

theorem splice_bytes (A X Y Z : List UInt8) (h : X.length = Y.length) : splice ((A ++ X ++ Z).map bv) A.length (Y.map bv) = (A ++ Y ++ Z).map bv := by
  unfold splice
  rw [List.map_append, List.map_append, List.append_assoc, List.take_left' (by simp), List.map_append, List.map_append, List.append_assoc]
  congr 2
  rw [← List.append_assoc, List.drop_left' (by simp [h])]
/-- The head of a row reads as a slice. -/
theorem rdB_head {w : World} {H cap : Nat} (bs rest : List UInt8) (hg : w.heap[H]? = some (.cells ((bs ++ rest).map bv).toArray 5 (0, 0))) (hc : bs.length ≤ cap) :
    RdB w (.slice (some ⟨H, 0, none⟩) bs.length cap) bs :=
  ⟨_, _, rfl, hc, fun _ => ⟨H, 0, rfl, fun j hj => by
    rw [cell_of_row _ _ _ _ _ _ hg, Nat.zero_add, getb _ _ (by simp; omega), List.getD_eq_getElem?_getD, List.getD_eq_getElem?_getD, List.getElem?_append_left hj]⟩⟩

def zeros (n : Nat) : List UInt8 := List.replicate n 0

set_option maxRecDepth 100000 in
set_option maxHeartbeats 400000 in
theorem pad_any (v : Value) (bs : List UInt8) (hl : bs.length ≤ 50000) (w : World) (hv : RdB w v bs) :
    Calls Try.prog 45 #[v] w fun e w' => ∃ v', e = .returned v' ∧ NewB w w' v' (padL bs) ∧ Below w.heap.size w w' := by
  have hv' := hv
  obtain ⟨a, cap, rfl, hc, hr⟩ := hv
  have Hr := Lib.hid hr
  clear hr
  have hmk := fun u => run_make42 u (↑bs.length) (↑bs.length + 72) bs.length (bs.length + 72) (by omega) (by omega) (by omega) (by omega)
  go_enter Try.func45, Try.ntmps45
  go_wp2_with (with_reducible refine wpList_copy_splice rfl (.tmp 10) (.tmp 11) 42 42 rfl 5 (by kernel_rfl) (by kernel_rfl) (some ⟨w.heap.size, 0, none⟩) a bs.length (bs.length + 72) bs.length cap rfl rfl w.heap.size 0 (List.replicate (bs.length + 72) (bv 0)) 5 (by rw [List.toArray_replicate]; exact heap_alloc_new _ _) (bs.map bv) (by simp) ?c1 ?c2 ?c3 w.heap.size w ((Below.refl _ _).alloc (Nat.le_refl _) _) (Nat.le_refl _) ?_)
  case c1 =>
    intro h0
    obtain ⟨b, o, rfl, hj⟩ := Hr.out (by simpa using h0)
    refine ⟨_, rfl, fun j u hu => ?_⟩
    have hjl : j < bs.length := by
      have := (List.getElem?_eq_some_iff.1 hu).1
      simpa using this
    rw [Addr.add_mid, World.cell?_alloc_lt _ _ _ (block_lt_of_cell (hj j hjl)), hj j hjl, List.getD_eq_getElem?_getD, hu]
    rfl
  case c2 => simp
  case c3 => intro u hu; obtain ⟨x, _, rfl⟩ := List.mem_map.1 hu; rfl
  intro w1 hg1 hb1
  have hg2 : w1.heap[w.heap.size]? = some (.cells ((bs ++ zeros 72).map bv).toArray 5 (0, 0)) := by
    rw [hg1.out]
    congr 3
    simp [splice, zeros]
  clear hg1 hmk Hr
  have hHl : w.heap.size < w1.heap.size := (Array.getElem?_eq_some_iff.1 hg2).1
  obtain ⟨i0, hi, hz0, hz1, hz2⟩ := info_parts info5
  have hk := fillN_lt bs.length
  go_upto_region 3 with fail
  go_step
  go_step
  go_step
  go_step
  go_step
  go_step
  go_step
  refine wpList_append_room _ rfl (.tmp 13) (.tmp 14) 42 rfl 5 i0 (by kernel_rfl) hi hz1 w.heap.size bs.length (bs.length + 72) ((bs ++ zeros 72).map bv) rfl ((Below.heap_alloc _ _ _ hHl).trans hg2) ⟨w1.heap.size, 0, none⟩ 1 1 [bv 128] rfl rfl ?d1 ?d2 (by omega) (by simp [zeros]) w.heap.size w (hb1.alloc (by omega) _) (Nat.le_refl _) ?_
  case d1 =>
    intro j u hj
    match j, hj with
    | 0, hj => simp at hj; subst hj; simp [Addr.add]
  case d2 => intro u hu; simp at hu; subst hu; rfl
  intro w2 hg3 hb2
  have hg4 : w2.heap[w.heap.size]? = some (.cells ((bs ++ 128 :: zeros 71).map bv).toArray 5 (0, 0)) := by
    rw [hg3.out]
    have h := splice_bytes bs (List.replicate 1 0) [128] (zeros 71) rfl
    rw [show bs ++ List.replicate 1 0 ++ zeros 71 = bs ++ zeros 72 from by rw [List.append_assoc]; rfl, List.append_assoc] at h
    have h' : splice (List.map bv (bs ++ zeros 72)) bs.length [bv 128] = List.map bv (bs ++ ([128] ++ zeros 71)) := h
    rw [h']
    rfl
  clear hg3 hg2 hHl
  have hkk : ((119 - (bs.length : Int) % 64) % 64) = ((fillN bs.length : Nat) : Int) := by unfold fillN; omega
  have hrz := fun ty => run_append_zeros_room (P := Try.prog) w2 42 3 ty 5 i0 (.int .u8 0) .i64 .i64 (by kernel_rfl) (by kernel_rfl) hi hz0 hz1 rfl rfl hz2 w.heap.size (bs.length + 1) (bs.length + 72) (fillN bs.length) _ hg4 (by omega) (by simp [zeros]) (by omega)
  have Hkk := Lib.hid hkk
  clear hkk
  go_wp2_with (refine wpList_append_zeros_room _ rfl (.tmp 16) (.tmp 21) 42 3 rfl 5 w.heap.size (bs.length + 1) (bs.length + 72) (fillN bs.length) _ (.int .u8 0) .i64 _ rfl rfl Hkk.out hrz hg4 w.heap.size w hb2 (Nat.le_refl _) ?_)
  intro w3 hg5 hb3
  have hg6 : w3.heap[w.heap.size]? = some (.cells ((bs ++ 128 :: List.replicate (fillN bs.length) 0 ++ List.replicate (71 - fillN bs.length) 0).map bv).toArray 5 (0, 0)) := by
    rw [hg5.out]
    have h := splice_bytes (bs ++ [128]) (List.replicate (fillN bs.length) 0) (List.replicate (fillN bs.length) 0) (List.replicate (71 - fillN bs.length) 0) rfl
    have e : bs ++ 128 :: List.replicate (fillN bs.length) 0 ++ List.replicate (71 - fillN bs.length) 0 = bs ++ [128] ++ List.replicate (fillN bs.length) 0 ++ List.replicate (71 - fillN bs.length) 0 := by simp
    have e' : bs ++ 128 :: zeros 71 = bs ++ [128] ++ List.replicate (fillN bs.length) (0 : UInt8) ++ List.replicate (71 - fillN bs.length) 0 := by
      rw [List.append_assoc, List.replicate_append_replicate, show fillN bs.length + (71 - fillN bs.length) = 71 by omega, List.append_assoc]; rfl
    rw [← e', List.map_append, List.map_cons, List.length_append, List.map_replicate] at h
    rw [e, ← e', List.map_append, List.map_cons]
    exact congrArg (fun l : List Value => some (Obj.cells l.toArray 5 (0, 0))) h
  have hrd := rdB_head (cap := bs.length + 72) _ _ hg6 (by simp; omega)
  have hlen : (bs ++ 128 :: List.replicate (fillN bs.length) 0).length = bs.length + 1 + fillN bs.length := by simp; omega
  rw [hlen] at hrd
  clear hg5 hg6 hrz hg4 hi hz0 hz1 hz2
  go_wp2_with (go_at_call 87; refine (put64_any _ (bs ++ 128 :: List.replicate (fillN bs.length) 0) (8 * bs.length) (by rw [hlen]; omega) w3 hrd).mono ?_; rintro e w' ⟨v', rfl, hn, hb⟩)
  go_ret
  refine ⟨_, rfl, ?_, hb3.trans (hb.mono hb3.size)⟩
  obtain ⟨H, rfl, hH, hh⟩ := hn
  exact ⟨H, rfl, Nat.le_trans hb3.size hH, hh⟩
end Go.Proofs.Ytcfkapoppmpehaa
