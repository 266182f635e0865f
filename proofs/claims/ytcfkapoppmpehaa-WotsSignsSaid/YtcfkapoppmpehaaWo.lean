/-
  What a call of Key gives.
-/
import Derived.Test.YtcfkapoppmpehaaWs
import Derived.Shelf.Abstract
namespace Go.Proofs.Ytcfkapoppmpehaa
open Go.RowKit Go.Shelf

theorem wpIn_tmps {F : Fence} {n : Nat} {P : Program} {c : Code} {Q : Exit → Act → World → Prop} {W : World} {T T' : Array Value} (h : T = T') (hh : c.wpIn F n P Q ⟨T', []⟩ W) : c.wpIn F n P Q ⟨T, []⟩ W := h ▸ hh
theorem keepsOthers_below {A B : World} (h : Below A.heap.size A B) : KeepsOthers A B := KeepsOthers.of_grownBy (grown_of_below h) (fun _ _ e => by cases e)
theorem OwnI.kept {w w' : World} {base : Nat} {v : Value} {ids : List (List UInt8)} {row : Option Nat} (h : OwnI w base v ids) (hg : w.grownBy w' row) (hr : ∀ r, row = some r → ∃ o : Obj, w.heap[r]? = some o ∧ o.isCells = false) : OwnI w' base v ids := by
  refine ⟨h.1, h.2.kept hg ?_⟩
  rcases h.2.2 with ⟨rfl, _⟩ | ⟨g, cap, cur, rfl, _, hgb, _⟩
  · exact .inl rfl
  · refine .inr fun e' => ?_
    obtain ⟨o, ho, hc⟩ := hr g (by simpa [Value.ownBlock] using e'.symm)
    rw [hgb] at ho; cases ho; cases hc
/-- A row of digests in a variable's box, grown by what stands in a block of its own. -/
theorem box_append {W w1 : World} {base B : Nat} {v v' : Value} {ids ids' : List (List UInt8)} {tmp : Obj} (hv : Boxed W B 27 v) (hB : B < base) (hbase : base ≤ W.heap.size) (hown : OwnI W base v ids) (hown' : OwnI w1 base v' ids') (hg : (W.alloc tmp).grownBy w1 v.ownBlock) :
    Boxed w1 B 27 v ∧ Boxed (w1.setCell ⟨B, 0, none⟩ v') B 27 v' ∧ OwnI (w1.setCell ⟨B, 0, none⟩ v') base v' ids' ∧ KeepsOthers W (w1.setCell ⟨B, 0, none⟩ v') ∧
      (∀ k, k < base → k ≠ B → (w1.setCell ⟨B, 0, none⟩ v').heap[k]? = W.heap[k]?) ∧ ∀ n0, n0 ≤ B → Below n0 W (w1.setCell ⟨B, 0, none⟩ v') := by
  have hlt : ∀ k, v.ownBlock = some k → base ≤ k := fun k hk => (hown.2.lt k hk).1
  have hlt' : ∀ k, v'.ownBlock = some k → base ≤ k := fun k hk => (hown'.2.lt k hk).1
  have hb : Below base W w1 := ((Below.refl base W).alloc hbase tmp).grown hg (by simp; omega) hlt
  have hv1 : Boxed w1 B 27 v := (hb.block B hB).trans hv
  have hne : v'.ownBlock ≠ some B := fun e => by have := hlt' B e; omega
  refine ⟨hv1, hv1.set v', ⟨hown'.1, hown'.2.kept (grownBy_setCell' w1 B v') (.inr hne)⟩, ?_, fun k hk hkB => ?_, fun n0 hn => ?_⟩
  · refine ((KeepsOthers.alloc W tmp).trans (KeepsOthers.of_grownBy hg fun j o ej hj => ?_)).trans (KeepsOthers.setCell _ _ _)
    rcases (hown.alloc tmp).2.2 with ⟨rfl, _⟩ | ⟨g, cap, cur, rfl, _, hgb, _⟩
    · simp [Value.ownBlock] at ej
    · obtain rfl : g = j := by simpa [Value.ownBlock] using ej
      rw [hgb] at hj; cases hj; rfl
  · exact ((grownBy_setCell' w1 B v').block k (Nat.lt_of_lt_of_le hk (Nat.le_trans hbase hb.size)) (fun e => hkB (by cases e; rfl))).trans (hb.block k hk)
  · exact (hb.mono (by omega)).setCell (p := ⟨B, 0, none⟩) hn v'
/-- append of one digest onto a row of digests of the call's own: what has turned is that row. -/
theorem wpList_append_id_grow {ops : Array Oper} {rest : List Oper} {o : Oper} {a : Act} {w : World} {Q : Exit → Act → World → Prop} (hgd : o.guard = none) (s x : Operand)
    (ho : o.op = .call { callee := .builtin .append, args := #[s, x], argTypes := #[27, 27] }) (base : Nat) (v : Value) (ids : List (List UInt8)) (hs : a.eval s = v) (hown : OwnI w base v ids)
    (g : Nat) (y : List UInt8) (hx : a.eval x = .slice (some ⟨g, 0, none⟩) 1 1) (hy : y.length = 32) (hg : w.heap[g]? = some (.cells (y.map bv).toArray 24 (0, 0))) (hsmall : ids.length ≤ 100000) (hbase : base ≤ w.heap.size)
    (h : ∀ g' c' w', OwnI w' base (.slice (some ⟨g', 0, none⟩) (ids ++ [y]).length c') (ids ++ [y]) → w.grownBy w' v.ownBlock → wpList Try.prog ops Q rest (a.put o.dst (.slice (some ⟨g', 0, none⟩) (ids ++ [y]).length c')) w') : wpList Try.prog ops Q (o :: rest) a w := by
  obtain ⟨i0, hi, hz0, hz1, hz2⟩ := info24
  refine wpList_append_own (P := Try.prog) w hgd s x 27 ho base 24 i0 (.agg zero24) 32 32 (by kernel_rfl) hi hz0 hz1 hz2 rfl (by decide) v ids.length _ hs hown.2 ⟨g, 0, none⟩ 1 1 (y.map bv) hx (by simp [hy]) (fun j u hu => ?_) (fun u hu => ?_) (by unfold maxLen; omega) (by omega) hbase (fun v' w' ho' hg' _ => ?_)
  · have hj := (List.getElem?_eq_some_iff.1 hu).1
    rw [List.length_map] at hj
    rw [cells_row _ hg j hj, ← hu]
    simp [hj]
  · obtain ⟨z, _, rfl⟩ := List.mem_map.1 hu; rfl
  · have ho2 : OwnI w' base v' (ids ++ [y]) := by
      refine ⟨fun i hi => ?_, ?_⟩
      · by_cases hlt : i < ids.length
        · have := hown.1 i hlt
          rwa [List.getD_eq_getElem?_getD, List.getElem?_append_left hlt, ← List.getD_eq_getElem?_getD]
        · obtain rfl : i = ids.length := by simp at hi; omega
          simp [hy]
      · rw [flat_one, List.length_append, List.length_singleton]; exact ho'
    have hl : (ids ++ [y]).length = ids.length + 1 := by simp
    obtain ⟨g', c', rfl⟩ := ownsRow_succ (show w'.ownsRow base 24 32 v' (ids.length + 1) (flat (ids ++ [y])) from by rw [← hl]; exact ho2.2)
    rw [← hl] at ho2 ⊢
    exact h g' c' w' ho2 hg'
theorem ends_said (ids : List (List UInt8)) : shaB (75 :: (([] : List Nat).map UInt8.ofNat ++ ids.flatten)) = keyOf ids := by
  rw [List.map_nil, List.nil_append]; rfl
theorem ends_range (x : List UInt8) : (List.finRange 67).map (fun i => endW x i.val) = (List.range 67).map (endW x) := by
  apply List.ext_getElem
  · simp
  · intro i h1 h2; simp

set_option maxRecDepth 100000 in
set_option maxHeartbeats 1000000 in
theorem key70_any (x : List UInt8) (hx : x.length = 32) (w : World) :
    Calls Try.prog 70 #[bagg x] w fun e w' => e = .returned (bagg (keyW x)) ∧ Below w.heap.size w w' := by
  refine (callsIn_wide (n := 9)).1 ?_
  refine callsIn_of_wp_marks Try.func70 rfl trivial (wpIn_wide.2 ?_) rfl
  simp only [Try.ntmps70, List.size_toArray, List.length_cons, List.length_nil, Nat.reduceAdd, Nat.reduceSub, Array.replicate_succ, Array.replicate_zero, List.push_toArray, List.append_toArray, List.nil_append, List.cons_append]
  go_upto_region 2 with fail
  obtain ⟨w2, hw2, hbl, hb2, hs2⟩ := allocs_named w [.cells (x.map bv).toArray 24, .cells zero24 24, .cells #[.slice none 0 0] 27]
  change Code.wp _ _ _ _ (List.foldl World.alloc w [.cells (x.map bv).toArray 24, .cells zero24 24, .cells #[.slice none 0 0] 27])
  rw [hw2]
  have hX : w2.heap[w.heap.size]? = some (.cells (x.map bv).toArray 24 (0, 0)) := hbl 0
  have hZ : w2.heap[w.heap.size + 1]? = some (.cells zero24 24 (0, 0)) := hbl 1
  have hL : Boxed w2 (w.heap.size + 2) 27 (.slice none 0 0) := hbl 2
  have hsz : w2.heap.size = w.heap.size + 3 := by simpa using hs2
  clear hbl hw2 hs2
  go_wp2_with (refine wpList_load_row rfl 24 (.tmp 1) rfl w.heap.size rfl 24 _ (0, 0) (.array 32 5) hX (by kernel_rfl) rfl (id_info x hx) ?_)
  refine (starts101_any x w2).mono ?_
  rintro e w3 ⟨rfl, rfl⟩
  dsimp only
  have hB3 : (w2.alloc (Obj.cells (x.map bv).toArray 24)).heap[w.heap.size + 3]? = some (.cells (x.map bv).toArray 24 (0, 0)) := by rw [← hsz]; exact heap_alloc_new w2 _
  have hb3 : Below w2.heap.size w2 (w2.alloc (Obj.cells (x.map bv).toArray 24)) := (Below.refl _ _).alloc (Nat.le_refl _) _
  have hs3 : (w2.alloc (Obj.cells (x.map bv).toArray 24)).heap.size = w.heap.size + 4 := by simp [hsz]
  have hZ3 := (hb3.block _ (by omega)).trans hZ
  have hL3 : Boxed (w2.alloc (Obj.cells (x.map bv).toArray 24)) (w.heap.size + 2) 27 (.slice none 0 0) := (hb3.block _ (by omega)).trans hL
  have hbw := hb2.trans (hb3.mono hb2.size)
  rw [hsz]
  generalize w2.alloc (Obj.cells (x.map bv).toArray 24) = w3 at *
  clear hX hZ hL hb2 hb3 hsz w2
  go_wp2_with fail
  refine (wpIn_wide (n := 9)).1 (wpIn_rangeFunc_ownH (F := Fence.wide) (w0 := w3) rfl (by omega) (gf := 109) (lb := #[.pointer (some ⟨w.heap.size + 3, 0, none⟩)]) rfl trivial (enters_of Try.func109 (by kernel_rfl) rfl)
    (starts_stops x hx (w.heap.size + 3) w.heap.size 8 w3 hB3) (fun h k => ⟨h.1.trans k.1, k.2.trans h.2⟩) ?hKb (Below.refl _ _) (fun _ => rfl)
    (fun pre W => (∃ v, Boxed W (w.heap.size + 2) 27 v ∧ OwnI W (w.heap.size + 4) v (pre.map fun i => endW x i.val)) ∧ W.heap[w.heap.size + 1]? = some (.cells zero24 24 (0, 0)) ∧ Below w.heap.size w W ∧ w.heap.size + 4 ≤ W.heap.size)
    (fun _ _ _ => False) ?hI (fun _ _ _ _ _ h => h.elim) ?h0
    (fun i a' W => ∃ Bx, w.heap.size + 4 ≤ Bx ∧ W.heap[Bx]? = some (.cells ((startW x i.val).map bv).toArray 24 (0, 0)) ∧ a' = { tmps := #[bagg x, .pointer (some ⟨w.heap.size, 0, none⟩), .pointer (some ⟨w.heap.size + 1, 0, none⟩), .pointer (some ⟨w.heap.size + 1 + 1, 0, none⟩), .int .i64 (i.val : Nat), .pointer (some ⟨Bx, 0, none⟩), undef, undef, .agg (x.map bv).toArray, .func (.func 109) #[] #[.pointer (some ⟨w.heap.size + 3, 0, none⟩)], .int .i64 (i.val : Nat), bagg (startW x i.val), undef, undef, undef, undef, undef, undef, undef, undef, undef, undef, undef, undef], defers := [] })
    ?hAx ?assign ?body ?done ?stop)
  case hKb =>
    intro W l o o' hl ho h1 h2
    exact ⟨(Below.refl _ W).grown (grownBy_putObj' W l o') (by have := (Array.getElem?_eq_some_iff.1 ho).1; omega) (fun k e => by cases e; omega), (grownBy_putObj' W l o').block _ (by have := (Array.getElem?_eq_some_iff.1 ho).1; omega) (fun e => by cases e; omega)⟩
  case hI =>
    rintro s A B row ⟨⟨v, hv, ho⟩, hz, hb, hs⟩ hg hr
    refine ⟨⟨v, hv.kept hg (fun e => ?_), ho.kept hg (fun r e => (hr r e).2)⟩, (hg.block _ (by omega) (fun e => ?_)).trans hz, hb.grown hg (by omega) (fun k e => ?_), Nat.le_trans hs hg.size⟩
    · have := (hr _ e.symm).1; omega
    · have := (hr _ e.symm).1; omega
    · have := (hr _ e).1; omega
  case h0 => exact ⟨⟨_, hL3, OwnI.nil _ _⟩, hZ3, hbw, by omega⟩
  case hAx =>
    rintro i a' _ A B row ⟨Bx, h1, h2, h3⟩ hg hr
    exact ⟨Bx, h1, (hg.block _ (Array.getElem?_eq_some_iff.1 h2).1 (fun e => by obtain ⟨_, o, ho, hc⟩ := hr _ e.symm; rw [h2] at ho; cases ho; cases hc)).trans h2, h3⟩
  case assign =>
    rintro l pre i W K hI hK
    have hzl := startW_length x i.val
    refine wpIn_tmps (T' := #[bagg x, .pointer (some ⟨w.heap.size, 0, none⟩), .pointer (some ⟨w.heap.size + 1, 0, none⟩), .pointer (some ⟨w.heap.size + 1 + 1, 0, none⟩), undef, undef, undef, undef, .agg (x.map bv).toArray, .func (.func 109) #[] #[.pointer (some ⟨w.heap.size + 3, 0, none⟩)], .int .i64 (i.val : Nat), bagg (startW x i.val), undef, undef, undef, undef, undef, undef, undef, undef, undef, undef, undef, undef]) (by simp [encS]) ?_
    replace hI := Lib.hid hI
    replace hK := Lib.hid hK
    refine wpIn_seq ?_
    refine wpIn_region_of (fun _ _ h => h) rfl ?_
    go_wp2_with fail
    refine wpIn_region_of (fun _ _ h => h) rfl ?_
    generalize startW x i.val = z at *
    go_wp2_with (refine wpList_store_new rfl 24 (.tmp 5) (.tmp 11) rfl _ _ (z.map bv).toArray rfl rfl (id_info z hzl) (id_size z hzl).symm (id_one z) ?_)
    obtain ⟨⟨v, hv, ho⟩, hz, hb, hs⟩ := hI.out
    exact hK.out _ _ ((KeepsOthers.alloc _ _).from _) ⟨(Below.refl _ W).alloc hb.size _, Below.heap_alloc W _ _ (by omega)⟩ ⟨⟨v, hv.alloc _, ho.alloc _⟩, (Below.heap_alloc W _ _ (by omega)).trans hz, hb.alloc hb.size _, by simp; omega⟩ ⟨W.heap.size, hs, heap_alloc_new W _, rfl⟩
  case body =>
    rintro l pre i a' W hl ⟨r, hr⟩ ⟨⟨v, hv, ho⟩, hz, hb, hs⟩ ⟨Bx, hBx, bX, rfl⟩ hlt
    have hi := i.isLt
    have hzl := startW_length x i.val
    have HC := Lib.hid (chain63_any (startW x i.val) hzl i.val 0 15 hi (by omega) (by omega) W)
    have Hnext := Lib.hid (show (pre ++ [i]).map (fun i => endW x i.val) = (pre.map fun i => endW x i.val) ++ [walkW (startW x i.val) i.val 0 (15 - 0)] by rw [List.map_append]; rfl)
    have hyl := walkW_length (startW x i.val) i.val 0 (15 - 0) hzl
    have hll : (pre.map fun i => endW x i.val).length ≤ 100000 := by simp; omega
    generalize walkW (startW x i.val) i.val 0 (15 - 0) = y at *
    generalize startW x i.val = z at *
    generalize (pre.map fun i => endW x i.val) = ids at *
    refine wpIn_block ?_
    refine wpIn_seq ?_
    refine wpIn_region_of (fun _ _ h => h) rfl ?_
    go_wp2_with (refine wpList_load_row rfl 24 (.tmp 5) rfl Bx rfl 24 _ (0, 0) (.array 32 5) bX (by kernel_rfl) rfl (id_info z hzl) ?_)
    refine HC.out.mono ?_
    rintro e w5 ⟨rfl, hb5⟩
    dsimp only
    go_wp2_with (refine wpList_store_new rfl 24 (.tmp 6) (.tmp 16) rfl _ _ (y.map bv).toArray rfl rfl (id_info y hyl) (id_size y hyl).symm (id_one y) ?_)
    have hY6 : (w5.alloc (Obj.cells (y.map bv).toArray 24)).heap[w5.heap.size]? = some (.cells (y.map bv).toArray 24 (0, 0)) := heap_alloc_new w5 _
    have hb6 : Below W.heap.size W (w5.alloc (Obj.cells (y.map bv).toArray 24)) := hb5.alloc hb5.size _
    refine wpIn_region_of (fun _ _ h => h) rfl ?_
    generalize w5.alloc (Obj.cells (y.map bv).toArray 24) = w6 at *
    have hs6 : w.heap.size + 4 ≤ w6.heap.size := Nat.le_trans hs hb6.size
    have hv6 : Boxed w6 (w.heap.size + 2) 27 v := (hb6.block _ (by omega)).trans hv
    have ho6 : OwnI w6 (w.heap.size + 4) v ids := ho.below hb6
    have hc6 : w6.cell? ⟨w.heap.size + 1 + 1, 0, none⟩ = some v := hv6.cell
    have ho7 := ho6.alloc (Obj.cells (y.map bv).toArray 24)
    have hnew : (w6.alloc (Obj.cells (y.map bv).toArray 24)).heap[w6.heap.size]? = some (.cells (y.map bv).toArray 24 (0, 0)) := heap_alloc_new w6 _
    have hs7 : w.heap.size + 4 ≤ (w6.alloc (Obj.cells (y.map bv).toArray 24)).heap.size := by simp; omega
    have hz6 := (hb6.block _ (by omega)).trans hz
    have hq6 := hb6.block (w.heap.size + 3) (by omega)
    have hbw6 := hb.trans (hb6.mono hb.size)
    have hk6 := keepsOthers_below hb6
    have hbW6 := hb6.mono hb.size
    clear hb5 hb6 bX hr hv ho hz hb hs HC
    go_wp2_with (first
      | (refine wpList_load_row rfl 24 (.tmp 6) rfl w5.heap.size rfl 24 _ (0, 0) (.array 32 5) hY6 (by kernel_rfl) rfl (id_info y hyl) ?_)
      | (rw [laid_row (y.map bv) _ (by rw [List.length_map, hyl]; rfl)]; refine wpList_append_id_grow rfl (.tmp 18) (.tmp 20) rfl (w.heap.size + 4) _ ids rfl ho7 w6.heap.size y rfl hyl hnew hll hs7 ?_))
    intro g' c' w8 ho8 hg8
    obtain ⟨hv8, hv9, ho9, hk9, hblk, hb9⟩ := box_append hv6 (by omega) hs6 ho6 ho8 hg8
    have hc8 : w8.cell? ⟨w.heap.size + 1 + 1, 0, none⟩ = some v := hv8.cell
    have hf8 : w8.frozen? ⟨w.heap.size + 1 + 1, 0, none⟩ = false := hv8.frozen
    replace hblk := Lib.hid hblk
    replace hb9 := Lib.hid hb9
    replace hv9 := Lib.hid hv9
    replace ho9 := Lib.hid ho9
    replace hk9 := Lib.hid hk9
    replace hz6 := Lib.hid hz6
    replace hq6 := Lib.hid hq6
    clear hv8 ho8 hg8 ho7 hnew hv6 hc6 hY6
    go_wp2_with fail
    refine ⟨(hk6.trans hk9.out).from _, ⟨hbW6.trans (hb9.out _ (by omega)), (hblk.out _ (by omega) (by omega)).trans hq6.out⟩, ⟨_, hv9.out, by rw [Hnext.out]; exact ho9.out⟩, (hblk.out _ (by omega) (by omega)).trans hz6.out, hbw6.trans (hb9.out _ (by omega)), ?_⟩
    exact Nat.le_trans hs6 hk9.out.size
  case done =>
    rintro D ys W hD rfl ⟨⟨v, hv, ho⟩, hz, hb, hs⟩ hK
    rw [ends_range] at ho
    have HD := Lib.hid (fun u w h1 h2 => wdigest_any 75 (.slice none 0 0) u [] ((List.range 67).map (endW x)) (by simp) (fun i => by simp) (by simp) w h1 h2)
    rw [ends_said, show keyOf ((List.range 67).map (endW x)) = keyW x from rfl] at HD
    have hI : (keyW x).length = 32 := keyOf_length _
    have hc : W.cell? ⟨w.heap.size + 1 + 1, 0, none⟩ = some v := hv.cell
    have hrd := Lib.hid ho.rd
    obtain ⟨d, hd⟩ : ∃ d, keyW x = d := ⟨_, rfl⟩
    rw [hd] at HD hI
    have Hd := Lib.hid hd
    clear hd
    have hnil : Hid (RdN W (.slice none 0 0) []) := Lib.hid ⟨none, 0, rfl, by simp, by simp⟩
    have hK0 := Lib.hid hK
    clear hK ho hv
    go_wp2_with fail
    refine (HD.out v W hnil.out hrd.out).mono ?_
    rintro e w6 ⟨rfl, hb6⟩
    have hZ6 := (hb6.block _ (by omega)).trans hz
    have hK6 := Lib.hid ((hb6.block _ (Array.getElem?_eq_some_iff.1 hK0.out).1).trans hK0.out)
    have hbw6 := hb.trans (hb6.mono hb.size)
    clear hb6 hz hK0 hrd
    dsimp only
    go_wp2_with (refine wpList_store_row rfl 24 (.tmp 2) (.tmp 23) rfl (w.heap.size + 1) 24 zero24 (d.map bv).toArray rfl rfl hZ6 (id_info d hI) (id_size d hI).symm (id_one d) ?_)
    have hKr : (w6.setRow (w.heap.size + 1) (d.map bv).toArray).heap[D]? = some (.deferred (some [])) := (setRow_other _ _ _ _ (by omega)).trans hK6.out
    have hZr : (w6.setRow (w.heap.size + 1) (d.map bv).toArray).heap[w.heap.size + 1]? = some (.cells (d.map bv).toArray 24 (0, 0)) := setRow_heap _ _ _ _ _ _ hZ6
    have hbr : Below w.heap.size w (w6.setRow (w.heap.size + 1) (d.map bv).toArray) := below_setRow' hbw6 (by omega) _
    generalize w6.setRow (w.heap.size + 1) (d.map bv).toArray = w7 at *
    refine ⟨by simp, .inl ⟨_, _, rfl, run_takeDeferred hKr, ?_⟩⟩
    have hDl := (Array.getElem?_eq_some_iff.1 hKr).1
    refine ⟨_, results_cell_row (d := .array 32 5) rfl _ _ (w.heap.size + 1) 24 (d.map bv).toArray (0, 0) rfl ((World.putObj_heap_other (by omega)).trans hZr) (by kernel_rfl) rfl (id_info d hI), by rw [Hd.out], ?_⟩
    exact hbr.grown (grownBy_putObj' w7 D _) hbr.size (fun k e => by cases e; omega)
  case stop =>
    rintro D c pre W _ _ h _
    exact h.elim
end Go.Proofs.Ytcfkapoppmpehaa
