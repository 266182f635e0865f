/-
  What a call of Sign gives.
-/
import Derived.Test.YtcfkapoppmpehaaWo
import Derived.Test.YtcfkapoppmpehaaRh
namespace Go.Proofs.Ytcfkapoppmpehaa
open Go.RowKit Go.Shelf

theorem digN_length (m : List UInt8) (hm : m.length = 32) : (digN m).length = 67 := by rw [digN, List.length_append, hexN_length, hm]; rfl
theorem digN_le (m : List UInt8) (hm : m.length = 32) : ∀ d ∈ digN m, d ≤ 15 := fun d hd => by
  have hS := sumN_le (hexN m)
  rw [hexN_length, hm] at hS
  rcases List.mem_append.1 hd with h | h
  · obtain ⟨b, _, hb⟩ := List.mem_flatMap.1 h
    have := b.toNat_lt
    simp at hb
    omega
  · simp at h
    omega
theorem digN_at (m : List UInt8) (hm : m.length = 32) (i : Nat) : (digN m).getD i 0 ≤ 15 := by
  by_cases h : i < (digN m).length
  · rw [List.getD_eq_getElem?_getD, List.getElem?_eq_getElem h, Option.getD_some]; exact digN_le m hm _ (List.getElem_mem _)
  · rw [List.getD_eq_getElem?_getD, List.getElem?_eq_none (by omega)]; simp
/-- A part of a signature. -/
def sigW (x m : List UInt8) (i : Nat) : List UInt8 := walkW (startW x i) i 0 ((digN m).getD i 0)
def signW (x m : List UInt8) : List (List UInt8) := (List.range 67).map (sigW x m)
theorem sigW_length (x m : List UInt8) (i : Nat) : (sigW x m i).length = 32 := walkW_length _ _ _ _ (startW_length _ _)
theorem signW_length (x m : List UInt8) : (signW x m).length = 67 := by simp [signW]
theorem sig_range (x m : List UInt8) : (List.finRange 67).map (fun i => sigW x m i.val) = signW x m := by
  apply List.ext_getElem
  · simp [signW]
  · intro i h1 h2; simp [signW]

set_option maxRecDepth 100000 in
set_option maxHeartbeats 1000000 in
theorem sign67_any (x m : List UInt8) (hx : x.length = 32) (hm : m.length = 32) (w : World) :
    Calls Try.prog 67 #[bagg x, bagg m] w fun e w' => ∃ v, e = .returned v ∧ OwnI w' w.heap.size v (signW x m) ∧ Below w.heap.size w w' := by
  have HDg := Lib.hid (digits_any m hm)
  have hdl := digN_length m hm
  have hd15 := Lib.hid (digN_at m hm)
  refine (callsIn_wide (n := 9)).1 ?_
  refine callsIn_of_wp_marks Try.func67 rfl trivial (wpIn_wide.2 ?_) rfl
  simp only [Try.ntmps67, List.size_toArray, List.length_cons, List.length_nil, Nat.reduceAdd, Nat.reduceSub, Array.replicate_succ, Array.replicate_zero, List.push_toArray, List.append_toArray, List.nil_append, List.cons_append]
  go_upto_region 1 with fail
  obtain ⟨w2, hw2, hbl, hb2, hs2⟩ := allocs_named w [.cells (x.map bv).toArray 24, .cells (m.map bv).toArray 24]
  change Code.wp _ _ _ _ (List.foldl World.alloc w [.cells (x.map bv).toArray 24, .cells (m.map bv).toArray 24])
  rw [hw2]
  have hX : w2.heap[w.heap.size]? = some (.cells (x.map bv).toArray 24 (0, 0)) := hbl 0
  have hM : w2.heap[w.heap.size + 1]? = some (.cells (m.map bv).toArray 24 (0, 0)) := hbl 1
  have hsz : w.heap.size + 2 ≤ w2.heap.size := by simp at hs2; omega
  clear hbl hw2 hs2
  go_wp2_with (refine wpList_load_row rfl 24 (.tmp 3) rfl (w.heap.size + 1) rfl 24 _ (0, 0) (.array 32 5) hM (by kernel_rfl) rfl (id_info m hm) ?_)
  refine (HDg.out w2).mono ?_
  rintro e w3 ⟨dv, rfl, hod, hb3⟩
  dsimp only
  have hrd := hod.rd
  obtain ⟨da, dc, rfl, hdc, hdr⟩ := hrd
  rw [hdl] at hdc hdr
  obtain ⟨db, d0, rfl, hcell⟩ := hdr (by omega)
  have hXr := (hb3.block _ (by omega)).trans hX
  have hbw := hb2.trans (hb3.mono hb2.size)
  have hsz3 : w.heap.size + 2 ≤ w3.heap.size := Nat.le_trans hsz hb3.size
  replace hcell := Lib.hid hcell
  clear hX hM hb2 hb3 hsz hdr hod HDg
  go_upto_region 3 with fail
  obtain ⟨w4, hw4, hbl4, hb4, hs4⟩ := allocs_named w3 [.cells #[.slice (some ⟨db, d0, none⟩) 67 dc] 77, .cells #[.slice none 0 0] 27]
  change Code.wp _ _ _ _ (List.foldl World.alloc w3 [.cells #[.slice (some ⟨db, d0, none⟩) 67 dc] 77, .cells #[.slice none 0 0] 27])
  rw [hw4]
  have hD4 : Boxed w4 w3.heap.size 77 (.slice (some ⟨db, d0, none⟩) 67 dc) := hbl4 0
  have hL4 : Boxed w4 (w3.heap.size + 1) 27 (.slice none 0 0) := hbl4 1
  have hs4' : w4.heap.size = w3.heap.size + 2 := by simpa using hs4
  have hX4 := (hb4.block _ (by omega)).trans hXr
  clear hbl4 hw4 hs4 hXr
  go_wp2_with (refine wpList_load_row rfl 24 (.tmp 2) rfl w.heap.size rfl 24 _ (0, 0) (.array 32 5) hX4 (by kernel_rfl) rfl (id_info x hx) ?_)
  refine (starts101_any x w4).mono ?_
  rintro e w5 ⟨rfl, rfl⟩
  dsimp only
  have hB5 : (w4.alloc (Obj.cells (x.map bv).toArray 24)).heap[w3.heap.size + 2]? = some (.cells (x.map bv).toArray 24 (0, 0)) := by rw [← hs4']; exact heap_alloc_new w4 _
  have hb5 : Below w4.heap.size w4 (w4.alloc (Obj.cells (x.map bv).toArray 24)) := (Below.refl _ _).alloc (Nat.le_refl _) _
  have hs5 : (w4.alloc (Obj.cells (x.map bv).toArray 24)).heap.size = w3.heap.size + 3 := by simp [hs4']
  have hD5 : Boxed (w4.alloc (Obj.cells (x.map bv).toArray 24)) w3.heap.size 77 (.slice (some ⟨db, d0, none⟩) 67 dc) := (hb5.block _ (by omega)).trans hD4
  have hL5 : Boxed (w4.alloc (Obj.cells (x.map bv).toArray 24)) (w3.heap.size + 1) 27 (.slice none 0 0) := (hb5.block _ (by omega)).trans hL4
  have hb35 := hb4.trans (hb5.mono (by omega))
  rw [hs4']
  generalize w4.alloc (Obj.cells (x.map bv).toArray 24) = w5 at *
  clear hX4 hD4 hL4 hb4 hb5 hs4' w4
  obtain ⟨N, hN⟩ : ∃ N, N = w3.heap.size := ⟨_, rfl⟩
  rw [← hN] at hB5 hs5 hD5 hL5 hb35 hsz3 ⊢
  replace hN := Lib.hid hN
  go_wp2_with fail
  refine (wpIn_wide (n := 9)).1 (wpIn_rangeFunc_ownH (F := Fence.wide) (w0 := w5) rfl (by omega) (gf := 109) (lb := #[.pointer (some ⟨N + 2, 0, none⟩)]) rfl trivial (enters_of Try.func109 (by kernel_rfl) rfl)
    (starts_stops x hx (N + 2) N 8 w5 hB5) (fun h k => ⟨h.1.trans k.1, k.2.trans h.2⟩) ?hKb (Below.refl _ _) (fun _ => rfl)
    (fun pre W => (∃ v, Boxed W (N + 1) 27 v ∧ OwnI W (N + 3) v (pre.map fun i => sigW x m i.val)) ∧ Boxed W N 77 (.slice (some ⟨db, d0, none⟩) 67 dc) ∧ Below N w3 W ∧ N + 3 ≤ W.heap.size)
    (fun _ _ _ => False) ?hI (fun _ _ _ _ _ h => h.elim) ?h0
    (fun i a' W => ∃ Bx, N + 3 ≤ Bx ∧ W.heap[Bx]? = some (.cells ((startW x i.val).map bv).toArray 24 (0, 0)) ∧ a' = { tmps := #[bagg x, bagg m, .pointer (some ⟨w.heap.size, 0, none⟩), .pointer (some ⟨w.heap.size + 1, 0, none⟩), .slice none 0 0, .pointer (some ⟨N, 0, none⟩), .pointer (some ⟨N + 1, 0, none⟩), .int .i64 (i.val : Nat), .pointer (some ⟨Bx, 0, none⟩), undef, undef, .agg (m.map bv).toArray, .slice (some ⟨db, d0, none⟩) (digN m).length dc, .agg (x.map bv).toArray, .func (.func 109) #[] #[.pointer (some ⟨N + 2, 0, none⟩)], .int .i64 (i.val : Nat), bagg (startW x i.val), undef, undef, undef, undef, undef, undef, undef, undef, undef, undef, undef, undef, undef, undef, undef], defers := [] })
    ?hAx ?assign ?body ?done ?stop)
  case hKb =>
    intro W l o o' hl ho h1 h2
    exact ⟨(Below.refl _ W).grown (grownBy_putObj' W l o') (by have := (Array.getElem?_eq_some_iff.1 ho).1; omega) (fun k e => by cases e; omega), (grownBy_putObj' W l o').block _ (by have := (Array.getElem?_eq_some_iff.1 ho).1; omega) (fun e => by cases e; omega)⟩
  case hI =>
    rintro s A B row ⟨⟨v, hv, ho⟩, hd, hb, hs⟩ hg hr
    refine ⟨⟨v, hv.kept hg (fun e => ?_), ho.kept hg (fun r e => (hr r e).2)⟩, hd.kept hg (fun e => ?_), hb.grown hg (by omega) (fun k e => ?_), Nat.le_trans hs hg.size⟩
    · have := (hr _ e.symm).1; omega
    · have := (hr _ e.symm).1; omega
    · have := (hr _ e).1; omega
  case h0 => exact ⟨⟨_, hL5, OwnI.nil _ _⟩, hD5, hb35.mono (by omega), by omega⟩
  case hAx =>
    rintro i a' _ A B row ⟨Bx, h1, h2, h3⟩ hg hr
    exact ⟨Bx, h1, (hg.block _ (Array.getElem?_eq_some_iff.1 h2).1 (fun e => by obtain ⟨_, o, ho, hc⟩ := hr _ e.symm; rw [h2] at ho; cases ho; cases hc)).trans h2, h3⟩
  case assign =>
    rintro l pre i W K hI hK
    have hzl := startW_length x i.val
    refine wpIn_tmps (T' := #[bagg x, bagg m, .pointer (some ⟨w.heap.size, 0, none⟩), .pointer (some ⟨w.heap.size + 1, 0, none⟩), .slice none 0 0, .pointer (some ⟨N, 0, none⟩), .pointer (some ⟨N + 1, 0, none⟩), undef, undef, undef, undef, .agg (m.map bv).toArray, .slice (some ⟨db, d0, none⟩) (digN m).length dc, .agg (x.map bv).toArray, .func (.func 109) #[] #[.pointer (some ⟨N + 2, 0, none⟩)], .int .i64 (i.val : Nat), bagg (startW x i.val), undef, undef, undef, undef, undef, undef, undef, undef, undef, undef, undef, undef, undef, undef, undef]) (by simp [encS, hdl]) ?_
    replace hI := Lib.hid hI
    replace hK := Lib.hid hK
    refine wpIn_seq ?_
    refine wpIn_region_of (fun _ _ h => h) rfl ?_
    go_wp2_with fail
    refine wpIn_region_of (fun _ _ h => h) rfl ?_
    generalize startW x i.val = z at *
    go_wp2_with (refine wpList_store_new rfl 24 (.tmp 8) (.tmp 16) rfl _ _ (z.map bv).toArray rfl rfl (id_info z hzl) (id_size z hzl).symm (id_one z) ?_)
    obtain ⟨⟨v, hv, ho⟩, hd, hb, hs⟩ := hI.out
    exact hK.out _ _ ((KeepsOthers.alloc _ _).from _) ⟨(Below.refl _ W).alloc (by omega) _, Below.heap_alloc W _ _ (by omega)⟩ ⟨⟨v, hv.alloc _, ho.alloc _⟩, hd.alloc _, hb.alloc (by omega) _, by simp; omega⟩ ⟨W.heap.size, hs, heap_alloc_new W _, rfl⟩
  case body =>
    rintro l pre i a' W hl ⟨r, hr⟩ ⟨⟨v, hv, ho⟩, hd, hb, hs⟩ ⟨Bx, hBx, bX, rfl⟩ hlt
    have hi := i.isLt
    have hzl := startW_length x i.val
    have hdi := hd15.out i.val
    have hcl : w3.cell? ⟨db, d0 + i.val, none⟩ = some (.int .i64 ((digN m).getD i.val 0 : Nat)) := hcell.out i.val hi
    have hdb : db < w3.heap.size := block_lt_of_cell hcl
    have HC := Lib.hid (fun W => chain63_any (startW x i.val) hzl i.val 0 ((digN m).getD i.val 0) hi (by omega) (by omega) W)
    have Hnext := Lib.hid (show (pre ++ [i]).map (fun i => sigW x m i.val) = (pre.map fun i => sigW x m i.val) ++ [walkW (startW x i.val) i.val 0 ((digN m).getD i.val 0 - 0)] by rw [List.map_append]; rfl)
    have hyl := walkW_length (startW x i.val) i.val 0 ((digN m).getD i.val 0 - 0) hzl
    have hll : (pre.map fun i => sigW x m i.val).length ≤ 100000 := by simp; omega
    generalize walkW (startW x i.val) i.val 0 ((digN m).getD i.val 0 - 0) = y at *
    generalize (pre.map fun i => sigW x m i.val) = ids at *
    generalize startW x i.val = z at *
    generalize (digN m).getD i.val 0 = dd at *
    have hcW : W.cell? ⟨db, d0 + i.val, none⟩ = some (.int .i64 (dd : Nat)) := (hb.cell (p := ⟨db, d0 + i.val, none⟩) (by show db < N; rw [hN.out]; exact hdb)).trans hcl
    have hdW := hd.cell
    have hdbW : db < W.heap.size := block_lt_of_cell hcW
    have Sx : ∀ w', Below W.heap.size W w' → w'.heap[Bx]? = some (.cells (z.map bv).toArray 24 (0, 0)) := fun w' h => (h.block _ (Array.getElem?_eq_some_iff.1 bX).1).trans bX
    have Sr : ∀ w', Below W.heap.size W w' → w'.rangeAt Bx 0 (z.map bv) := fun w' h => by
      have := rangeAt_row (Sx w' h) 0 32
      simpa [hzl, List.take_of_length_le] using this
    have Sd : ∀ w', Below W.heap.size W w' → w'.cell? ⟨N, 0, none⟩ = some (.slice (some ⟨db, d0, none⟩) 67 dc) := fun w' h => (h.cell (p := ⟨N, 0, none⟩) (by show N < W.heap.size; omega)).trans hdW
    have Sc : ∀ w', Below W.heap.size W w' → w'.cell? ⟨db, d0 + i.val, none⟩ = some (.int .i64 (dd : Nat)) := fun w' h => (h.cell (p := ⟨db, d0 + i.val, none⟩) hdbW).trans hcW
    refine wpIn_block ?_
    refine wpIn_seq ?_
    refine wpIn_region_any rfl (wpAnyIn_of (fun _ _ h => h) (by kernel_rfl) _ _ _ _ (wpAny_of_held (S := fun w' => Below W.heap.size W w') _ _ _ _ ?_))
    have hS0 : Below W.heap.size W { W with drawn := W.drawn + 1 } := (Below.refl _ _).drew
    generalize { W with drawn := W.drawn + 1 } = W0 at *
    refine wpAnyH_take (i := 0) (v := bagg z) rfl (by kernel_rfl) (by kernel_rfl) (by kernel_rfl) (fun _ _ _ h => h) (yl_row rfl 24 (.tmp 8) rfl Bx 0 rfl (z.map bv) (.array 32 5) Sr (by kernel_rfl) rfl (by rw [List.length_map, hzl]; kernel_rfl)) hS0 ?_
    simp only [List.getElem_toArray, List.getElem_cons_zero, Act.put, List.setIfInBounds_toArray, List.set_cons_succ, List.set_cons_zero]
    refine wpAnyH_take (i := 1) (v := .int .i64 (i.val : Nat)) rfl (by kernel_rfl) (by kernel_rfl) (by kernel_rfl) (fun _ _ _ h => h) (yl_move rfl (.tmp 7) rfl _ rfl) hS0 ?_
    simp only [List.getElem_toArray, List.getElem_cons_zero, List.getElem_cons_succ, Act.put, List.setIfInBounds_toArray, List.set_cons_succ, List.set_cons_zero]
    refine wpAnyH_take (i := 2) (v := .slice (some ⟨db, d0, none⟩) 67 dc) rfl (by kernel_rfl) (by kernel_rfl) (by kernel_rfl) (fun _ _ _ h => h) (yl_cell rfl 77 (.tmp 5) rfl ⟨N, 0, none⟩ rfl _ Sd (.slice 3) (by kernel_rfl) rfl) hS0 ?_
    simp only [List.getElem_toArray, List.getElem_cons_zero, List.getElem_cons_succ, Act.put, List.setIfInBounds_toArray, List.set_cons_succ, List.set_cons_zero]
    refine wpAnyH_take (i := 3) (v := .int .i64 (i.val : Nat)) rfl (by kernel_rfl) (by kernel_rfl) (by kernel_rfl) (fun _ _ _ h => h) (yl_move rfl (.tmp 7) rfl _ rfl) hS0 ?_
    simp only [List.getElem_toArray, List.getElem_cons_zero, List.getElem_cons_succ, Act.put, List.setIfInBounds_toArray, List.set_cons_succ, List.set_cons_zero]
    refine wpAnyH_take (i := 4) (v := .pointer (some ⟨db, d0 + i.val * 1, none⟩)) rfl (by kernel_rfl) (by kernel_rfl) (by kernel_rfl) (fun _ _ _ h => h) (yl_indexAddr rfl 77 3 1 (.tmp 20) (.tmp 21) rfl db d0 67 dc i.val (by kernel_rfl) (by kernel_rfl) rfl rfl hi) hS0 ?_
    simp only [List.getElem_toArray, List.getElem_cons_zero, List.getElem_cons_succ, Act.put, List.setIfInBounds_toArray, List.set_cons_succ, List.set_cons_zero]
    rw [Nat.mul_one]
    refine wpAnyH_take (i := 5) (v := .int .i64 (dd : Nat)) rfl (by kernel_rfl) (by kernel_rfl) (by kernel_rfl) (fun _ _ _ h => h) (yl_cell rfl 3 (.tmp 22) rfl ⟨db, d0 + i.val, none⟩ rfl _ Sc (.int .i64) (by kernel_rfl) rfl) hS0 ?_
    simp only [List.getElem_toArray, List.getElem_cons_zero, List.getElem_cons_succ, Act.put, List.setIfInBounds_toArray, List.set_cons_succ, List.set_cons_zero]
    refine wpAnyH_all (rs := [6, 10]) (by kernel_rfl) (by simp) ?_
    intro k hk
    simp only [List.mem_cons, List.not_mem_nil, or_false] at hk
    rcases hk with rfl | rfl
    case' inl =>
      refine wpOp_of_only rfl ?_
      simp only [List.getElem_toArray, List.getElem_cons_zero, List.getElem_cons_succ]
      go_wp2_with fail
      refine (HC.out W0).mono ?_
      rintro e W1 ⟨rfl, hb1⟩
      dsimp only
      go_wp2_with fail
      have hS1 := hS0.trans (hb1.mono hS0.size)
      refine ⟨hS1, ?_⟩
      refine wpAnyH_take (i := 7) (v := .tuple #[bagg y, .int .i64 0]) rfl (by kernel_rfl) (by kernel_rfl) (by kernel_rfl) (fun _ _ _ h => h) (yl_move rfl (.tmp 24) rfl _ rfl) hS1 ?_
      simp only [List.getElem_toArray, List.getElem_cons_zero, List.getElem_cons_succ, Act.put, List.setIfInBounds_toArray, List.set_cons_succ, List.set_cons_zero]
      refine wpAnyH_take (i := 8) (v := bagg y) rfl (by kernel_rfl) (by kernel_rfl) (by kernel_rfl) (fun _ _ _ h => h) (yl_extract rfl (.tmp 17) 0 rfl _ rfl _ rfl) hS1 ?_
      simp only [List.getElem_toArray, List.getElem_cons_zero, List.getElem_cons_succ, Act.put, List.setIfInBounds_toArray, List.set_cons_succ, List.set_cons_zero]
      refine wpAnyH_take (i := 9) (v := .int .i64 0) rfl (by kernel_rfl) (by kernel_rfl) (by kernel_rfl) (fun _ _ _ h => h) (yl_extract rfl (.tmp 17) 1 rfl _ rfl _ rfl) hS1 ?_
      simp only [List.getElem_toArray, List.getElem_cons_zero, List.getElem_cons_succ, Act.put, List.setIfInBounds_toArray, List.set_cons_succ, List.set_cons_zero]
      refine wpAnyH_all (rs := [10]) (by kernel_rfl) (by simp) ?_
      intro k hk
      simp only [List.mem_cons, List.not_mem_nil, or_false] at hk
      subst hk
      refine wpOp_of_only rfl ?_
      simp only [List.getElem_toArray, List.getElem_cons_zero, List.getElem_cons_succ]
      go_wp2_with fail
      refine ⟨hS1.alloc hS1.size _, ?_⟩
      refine wpAnyH_all (rs := [11]) (by kernel_rfl) (by simp) ?_
      intro k hk
      simp only [List.mem_cons, List.not_mem_nil, or_false] at hk
      subst hk
      refine wpOp_of_only rfl ?_
      simp only [List.getElem_toArray, List.getElem_cons_zero, List.getElem_cons_succ]
      go_wp2_with (refine wpList_store_new rfl 24 (.tmp 9) (.tmp 25) rfl _ _ (y.map bv).toArray rfl rfl (id_info y hyl) (id_size y hyl).symm (id_one y) ?_)
      refine ⟨hS1.alloc hS1.size _, ?_⟩
      have hY6 : (W1.alloc (Obj.cells (y.map bv).toArray 24)).heap[W1.heap.size]? = some (.cells (y.map bv).toArray 24 (0, 0)) := heap_alloc_new W1 _
      have hb6 : Below W.heap.size W (W1.alloc (Obj.cells (y.map bv).toArray 24)) := hS1.alloc hS1.size _
      generalize W1.alloc (Obj.cells (y.map bv).toArray 24) = w6 at *
      refine wpAnyH_take (i := 12) (v := .int .i64 0) rfl (by kernel_rfl) (by kernel_rfl) (by kernel_rfl) (fun _ _ _ h => h) (yl_assign rfl (.tmp 26) rfl _ rfl) hb6 ?_
      simp only [List.getElem_toArray, List.getElem_cons_zero, List.getElem_cons_succ, Act.put, List.setIfInBounds_toArray, List.set_cons_succ, List.set_cons_zero]
      refine wpAnyH_done (by kernel_rfl) ?_ _
      generalize W1.heap.size = Y at *
      clear hb1 hS1
    case' inr =>
      refine wpOp_of_only rfl ?_
      simp only [List.getElem_toArray, List.getElem_cons_zero, List.getElem_cons_succ]
      go_wp2_with fail
      have hZ1 : (W0.alloc (Obj.cells zero24 24)).heap[W0.heap.size]? = some (.cells zero24 24 (0, 0)) := heap_alloc_new W0 _
      have hS1 : Below W.heap.size W (W0.alloc (Obj.cells zero24 24)) := hS0.alloc hS0.size _
      refine ⟨hS1, ?_⟩
      change wpAnyH _ _ _ _ _ _ _ _ (W0.alloc (Obj.cells zero24 24))
      generalize W0.alloc (Obj.cells zero24 24) = W1 at *
      refine wpAnyH_all (rs := [6]) (by kernel_rfl) (by simp) ?_
      intro k hk
      simp only [List.mem_cons, List.not_mem_nil, or_false] at hk
      subst hk
      refine wpOp_of_only rfl ?_
      simp only [List.getElem_toArray, List.getElem_cons_zero, List.getElem_cons_succ]
      go_wp2_with fail
      refine (HC.out W1).mono ?_
      rintro e W2 ⟨rfl, hb2⟩
      dsimp only
      go_wp2_with fail
      have hZ2 := (hb2.block _ (Array.getElem?_eq_some_iff.1 hZ1).1).trans hZ1
      have hS2 := hS1.trans (hb2.mono hS1.size)
      refine ⟨hS2, ?_⟩
      refine wpAnyH_take (i := 7) (v := .tuple #[bagg y, .int .i64 0]) rfl (by kernel_rfl) (by kernel_rfl) (by kernel_rfl) (fun _ _ _ h => h) (yl_move rfl (.tmp 24) rfl _ rfl) hS2 ?_
      simp only [List.getElem_toArray, List.getElem_cons_zero, List.getElem_cons_succ, Act.put, List.setIfInBounds_toArray, List.set_cons_succ, List.set_cons_zero]
      refine wpAnyH_take (i := 8) (v := bagg y) rfl (by kernel_rfl) (by kernel_rfl) (by kernel_rfl) (fun _ _ _ h => h) (yl_extract rfl (.tmp 17) 0 rfl _ rfl _ rfl) hS2 ?_
      simp only [List.getElem_toArray, List.getElem_cons_zero, List.getElem_cons_succ, Act.put, List.setIfInBounds_toArray, List.set_cons_succ, List.set_cons_zero]
      refine wpAnyH_take (i := 9) (v := .int .i64 0) rfl (by kernel_rfl) (by kernel_rfl) (by kernel_rfl) (fun _ _ _ h => h) (yl_extract rfl (.tmp 17) 1 rfl _ rfl _ rfl) hS2 ?_
      simp only [List.getElem_toArray, List.getElem_cons_zero, List.getElem_cons_succ, Act.put, List.setIfInBounds_toArray, List.set_cons_succ, List.set_cons_zero]
      refine wpAnyH_all (rs := [11]) (by kernel_rfl) (by simp) ?_
      intro k hk
      simp only [List.mem_cons, List.not_mem_nil, or_false] at hk
      subst hk
      refine wpOp_of_only rfl ?_
      simp only [List.getElem_toArray, List.getElem_cons_zero, List.getElem_cons_succ]
      have hS0' := hS0.size
      go_wp2_with (refine wpList_store_row rfl 24 (.tmp 9) (.tmp 25) rfl W0.heap.size 24 zero24 (y.map bv).toArray rfl rfl hZ2 (id_info y hyl) (id_size y hyl).symm (id_one y) ?_)
      have hb6 : Below W.heap.size W (W2.setRow W0.heap.size (y.map bv).toArray) := below_setRow' hS2 hS0' _
      refine ⟨hb6, ?_⟩
      have hY6 : (W2.setRow W0.heap.size (y.map bv).toArray).heap[W0.heap.size]? = some (.cells (y.map bv).toArray 24 (0, 0)) := setRow_heap _ _ _ _ _ _ hZ2
      generalize W2.setRow W0.heap.size (y.map bv).toArray = w6 at *
      refine wpAnyH_take (i := 12) (v := .int .i64 0) rfl (by kernel_rfl) (by kernel_rfl) (by kernel_rfl) (fun _ _ _ h => h) (yl_assign rfl (.tmp 26) rfl _ rfl) hb6 ?_
      simp only [List.getElem_toArray, List.getElem_cons_zero, List.getElem_cons_succ, Act.put, List.setIfInBounds_toArray, List.set_cons_succ, List.set_cons_zero]
      refine wpAnyH_done (by kernel_rfl) ?_ _
      generalize W0.heap.size = Y at *
      clear hb2 hS1 hS2 hZ1 hZ2 hS0'
    all_goals
      have hs6 : N + 3 ≤ w6.heap.size := Nat.le_trans hs hb6.size
      have hv6 : Boxed w6 (N + 1) 27 v := (hb6.block _ (by omega)).trans hv
      have ho6 : OwnI w6 (N + 3) v ids := ho.below hb6
      have hc6 : w6.cell? ⟨N + 1, 0, none⟩ = some v := hv6.cell
      have ho7 := ho6.alloc (Obj.cells (y.map bv).toArray 24)
      have hnew : (w6.alloc (Obj.cells (y.map bv).toArray 24)).heap[w6.heap.size]? = some (.cells (y.map bv).toArray 24 (0, 0)) := heap_alloc_new w6 _
      have hs7 : N + 3 ≤ (w6.alloc (Obj.cells (y.map bv).toArray 24)).heap.size := by simp; omega
      have hd6 : w6.heap[N]? = some (.cells #[.slice (some ⟨db, d0, none⟩) 67 dc] 77 (0, 0)) := (hb6.block _ (by omega)).trans hd
      have hq6 := hb6.block (N + 2) (by omega)
      have hbw6 := hb.trans (hb6.mono (by omega))
      have hk6 := keepsOthers_below hb6
      have hbW6 := hb6.mono (show N ≤ W.heap.size by omega)
      replace hd6 := Lib.hid hd6
      clear hb6 bX hr hv ho hd hb hs HC Sx Sr Sd Sc hdW hcW hS0
      simp only [Exit.then]
      refine wpIn_region_of (fun _ _ h => h) rfl ?_
      go_wp2_with (first
        | (refine wpList_load_row rfl 24 (.tmp 9) rfl Y rfl 24 _ (0, 0) (.array 32 5) hY6 (by kernel_rfl) rfl (id_info y hyl) ?_)
        | (rw [laid_row (y.map bv) _ (by rw [List.length_map, hyl]; rfl)]; refine wpList_append_id_grow rfl (.tmp 27) (.tmp 29) rfl (N + 3) _ ids rfl ho7 w6.heap.size y rfl hyl hnew hll hs7 ?_))
      intro g' c' w8 ho8 hg8
      obtain ⟨hv8, hv9, ho9, hk9, hblk, hb9⟩ := box_append hv6 (by omega) hs6 ho6 ho8 hg8
      have hc8 : w8.cell? ⟨N + 1, 0, none⟩ = some v := hv8.cell
      have hf8 : w8.frozen? ⟨N + 1, 0, none⟩ = false := hv8.frozen
      replace hblk := Lib.hid hblk
      replace hb9 := Lib.hid hb9
      replace hv9 := Lib.hid hv9
      replace ho9 := Lib.hid ho9
      replace hk9 := Lib.hid hk9
      replace hq6 := Lib.hid hq6
      clear hv8 ho8 hg8 ho7 hnew hv6 hc6 hY6
      go_wp2_with fail
      refine ⟨(hk6.trans hk9.out).from _, ⟨hbW6.trans (hb9.out _ (by omega)), (hblk.out _ (by omega) (by omega)).trans hq6.out⟩, ⟨_, hv9.out, by rw [Hnext.out]; exact ho9.out⟩, (hblk.out _ (by omega) (by omega)).trans hd6.out, hbw6.trans (hb9.out _ (by omega)), ?_⟩
      exact Nat.le_trans hs6 hk9.out.size
  case done =>
    rintro D ys W hD rfl ⟨⟨v, hv, ho⟩, hd, hb, hs⟩ hK
    rw [sig_range] at ho
    have hc : W.cell? ⟨N + 1, 0, none⟩ = some v := hv.cell
    have hK0 := Lib.hid hK
    clear hK hd hv
    go_wp2_with fail
    have hDl := (Array.getElem?_eq_some_iff.1 hK0.out).1
    refine ⟨by simp, .inl ⟨_, _, rfl, run_takeDeferred hK0.out, ?_⟩⟩
    refine ⟨_, results_tmp rfl _ _ _, v, rfl, ⟨ho.1, ?_⟩, ?_⟩
    · refine ownsRow_putObj (l := D) ?_ _ hK0.out rfl
      rcases ho.2 with ⟨h1, h2 | ⟨g, cap, cur, hv, hbg, hrest⟩⟩
      · exact ⟨h1, .inl h2⟩
      · exact ⟨h1, .inr ⟨g, cap, cur, hv, by omega, hrest⟩⟩
    · exact (hbw.trans (hb.mono (by omega))).grown (grownBy_putObj' W D _) (by omega) (fun k e => by cases e; omega)
  case stop =>
    rintro D c pre W _ _ h _
    exact h.elim
end Go.Proofs.Ytcfkapoppmpehaa
