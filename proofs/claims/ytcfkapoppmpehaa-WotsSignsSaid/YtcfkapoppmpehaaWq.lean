/-
  What calls of Recover and Verify give.
-/
import Derived.Test.YtcfkapoppmpehaaWp
namespace Go.Proofs.Ytcfkapoppmpehaa
open Go.RowKit Go.Shelf

/-- What a part of a signature leads to; the key that a signature leads to. -/
def recP (m : List UInt8) (ids : List (List UInt8)) (i : Nat) : List UInt8 := walkW (ids.getD i []) i ((digN m).getD i 0) (15 - (digN m).getD i 0)
def recW (m : List UInt8) (ids : List (List UInt8)) : List UInt8 := keyOf ((List.range 67).map (recP m ids))
theorem recW_length (m : List UInt8) (ids : List (List UInt8)) : (recW m ids).length = 32 := keyOf_length _
theorem rec_next (m : List UInt8) (ids : List (List UInt8)) (k : Nat) : (List.range (k + 1)).map (recP m ids) = (List.range k).map (recP m ids) ++ [recP m ids k] := by rw [List.range_succ, List.map_append]; rfl

set_option maxRecDepth 100000 in
set_option maxHeartbeats 1000000 in
theorem recover_ok (m : List UInt8) (hm : m.length = 32) (sv : Value) (ids : List (List UInt8)) (hids : ids.length = 67) (w : World) (hv : RdI w sv ids) :
    Calls Try.prog 71 #[bagg m, sv] w fun e w' => e = .returned (.tuple #[bagg (recW m ids), .int .i64 0]) ∧ Below w.heap.size w w' := by
  obtain ⟨sa, sc, rfl, hsc, hl, hr⟩ := hv
  obtain ⟨sb, so, rfl, hrange⟩ := hr (by omega)
  rw [hids] at hsc ⊢
  have HDg := Lib.hid (digits_any m hm)
  have hdl := digN_length m hm
  have hd15 := Lib.hid (digN_at m hm)
  replace hl := Lib.hid hl
  replace hrange := Lib.hid hrange
  clear hr
  go_enter Try.func71, Try.ntmps71
  go_upto_region 3 with fail
  obtain ⟨w2, hw2, hbl, hb2, hs2⟩ := allocs_named w [.cells (m.map bv).toArray 24, .cells zero24 24]
  change Code.wp _ _ _ _ (List.foldl World.alloc w [.cells (m.map bv).toArray 24, .cells zero24 24])
  rw [hw2]
  have hM : w2.heap[w.heap.size]? = some (.cells (m.map bv).toArray 24 (0, 0)) := hbl 0
  have hZ : w2.heap[w.heap.size + 1]? = some (.cells zero24 24 (0, 0)) := hbl 1
  have hsz : w.heap.size + 2 ≤ w2.heap.size := by simp at hs2; omega
  clear hbl hw2 hs2
  go_wp2_with (refine wpList_load_row rfl 24 (.tmp 2) rfl w.heap.size rfl 24 _ (0, 0) (.array 32 5) hM (by kernel_rfl) rfl (id_info m hm) ?_)
  refine (HDg.out w2).mono ?_
  rintro e w3 ⟨dv, rfl, hod, hb3⟩
  dsimp only
  have hrd := hod.rd
  obtain ⟨da, dc, rfl, hdc, hdr⟩ := hrd
  rw [hdl] at hdc hdr ⊢
  clear hdl
  obtain ⟨db, d0, rfl, hcell⟩ := hdr (by omega)
  have hZ3 := (hb3.block _ (by omega)).trans hZ
  have hbw := hb2.trans (hb3.mono hb2.size)
  have hsz3 : w.heap.size + 2 ≤ w3.heap.size := Nat.le_trans hsz hb3.size
  replace hcell := Lib.hid hcell
  clear hM hZ hb2 hb3 hsz hdr hod HDg
  obtain ⟨N, hN⟩ : ∃ N, N = w3.heap.size := ⟨_, rfl⟩
  rw [← hN] at hsz3
  replace hN := Lib.hid hN
  go_wp2_with fail
  go_loopw [7, 20] (fun v i wr => ∃ k : Nat, k ≤ 67 ∧ i = .int .i64 k ∧ OwnI wr N v ((List.range k).map (recP m ids)) ∧ Below N w3 wr) (fun _ i _ => 67 - (intOf i).toNat)
  case atStart => exact ⟨0, by omega, rfl, OwnI.nil _ _, Below.refl _ _⟩
  case round =>
    obtain ⟨k, hk, rfl, hown, hbr⟩ := hrel
    have hsr : N ≤ wr.heap.size := by rw [hN.out]; exact hbr.size
    by_cases hlt : k < 67
    · have hg : decide ((k : Int) < 67) = true := decide_eq_true (by omega)
      have hrg : wr.rangeAt sb (so + k * 32) ((ids.getD k []).map bv) := RdI.at hrange.out hl.out w.heap.size wr (hbw.trans (hbr.mono (by omega))) (Nat.le_refl _) k (by omega)
      have hzl := hl.out k (by omega)
      have hdk := hd15.out k
      have hcl : w3.cell? ⟨db, d0 + k, none⟩ = some (.int .i64 ((digN m).getD k 0 : Nat)) := hcell.out k hlt
      have hdb : db < w3.heap.size := block_lt_of_cell hcl
      have HC := Lib.hid (fun W => chain63_any (ids.getD k []) hzl k ((digN m).getD k 0) 15 hlt (by omega) (by omega) W)
      have Hnext := Lib.hid (rec_next m ids k)
      have hyl : (recP m ids k).length = 32 := walkW_length _ _ _ _ hzl
      have hll : ((List.range k).map (recP m ids)).length ≤ 100000 := by simp; omega
      rw [show walkW (ids.getD k []) k ((digN m).getD k 0) (15 - (digN m).getD k 0) = recP m ids k from rfl] at HC
      generalize recP m ids k = y at *
      generalize ids.getD k [] = z at *
      generalize (digN m).getD k 0 = dd at *
      generalize (List.range k).map (recP m ids) = l at *
      have hcr : wr.cell? ⟨db, d0 + k, none⟩ = some (.int .i64 (dd : Nat)) := (hbr.cell (p := ⟨db, d0 + k, none⟩) (by show db < N; rw [hN.out]; exact hdb)).trans hcl
      have hdbr : db < wr.heap.size := block_lt_of_cell hcr
      clear hcl hdb
      go_upto_region 8 with (first
        | (refine wpList_load_mid rfl 24 (.tmp 23) rfl sb (so + k * 32) rfl (z.map bv) (.array 32 5) hrg (by kernel_rfl) rfl (by rw [List.length_map, hzl]; kernel_rfl) ?_)
        | (refine wpList_store_new rfl 24 (.tmp 9) (.tmp 24) rfl _ _ (z.map bv).toArray rfl rfl (id_info z hzl) (id_size z hzl).symm (id_one z) ?_))
      have bX : (wr.alloc (Obj.cells (z.map bv).toArray 24)).heap[wr.heap.size]? = some (.cells (z.map bv).toArray 24 (0, 0)) := heap_alloc_new wr _
      have hbW : Below wr.heap.size wr (wr.alloc (Obj.cells (z.map bv).toArray 24)) := (Below.refl _ _).alloc (Nat.le_refl _) _
      have hcW := (hbW.cell (p := ⟨db, d0 + k, none⟩) hdbr).trans hcr
      have hoW := hown.alloc (Obj.cells (z.map bv).toArray 24)
      have hsW : N ≤ (wr.alloc (Obj.cells (z.map bv).toArray 24)).heap.size := by simp; omega
      have hdbW : db < (wr.alloc (Obj.cells (z.map bv).toArray 24)).heap.size := by simp; omega
      have hbW3 := hbr.trans (hbW.mono hsr)
      generalize wr.alloc (Obj.cells (z.map bv).toArray 24) = W at *
      generalize wr.heap.size = X at *
      have Sr : ∀ w', Below W.heap.size W w' → w'.rangeAt X 0 (z.map bv) := fun w' h => by
        have := rangeAt_row ((h.block _ (Array.getElem?_eq_some_iff.1 bX).1).trans bX) 0 32
        simpa [hzl, List.take_of_length_le] using this
      have Sc : ∀ w', Below W.heap.size W w' → w'.cell? ⟨db, d0 + k, none⟩ = some (.int .i64 (dd : Nat)) := fun w' h => (h.cell (p := ⟨db, d0 + k, none⟩) hdbW).trans hcW
      clear hbr hown hrg hcr hbW hsr hdbr
      refine wp_region_held (S := fun w' => Below W.heap.size W w') rfl ?_
      have hS0 : Below W.heap.size W { W with drawn := W.drawn + 1 } := (Below.refl _ _).drew
      generalize { W with drawn := W.drawn + 1 } = W0 at *
      refine wpAnyH_take (i := 0) (v := bagg z) rfl (by kernel_rfl) (by kernel_rfl) (by kernel_rfl) (fun _ _ _ h => h) (yl_row rfl 24 (.tmp 9) rfl X 0 rfl (z.map bv) (.array 32 5) Sr (by kernel_rfl) rfl (by rw [List.length_map, hzl]; kernel_rfl)) hS0 ?_
      simp only [List.getElem_toArray, List.getElem_cons_zero, Act.put, List.setIfInBounds_toArray, List.set_cons_succ, List.set_cons_zero]
      refine wpAnyH_take (i := 1) (v := .int .i64 (k : Nat)) rfl (by kernel_rfl) (by kernel_rfl) (by kernel_rfl) (fun _ _ _ h => h) (yl_move rfl (.tmp 8) rfl _ rfl) hS0 ?_
      simp only [List.getElem_toArray, List.getElem_cons_zero, List.getElem_cons_succ, Act.put, List.setIfInBounds_toArray, List.set_cons_succ, List.set_cons_zero]
      refine wpAnyH_take (i := 2) (v := .slice (some ⟨db, d0, none⟩) 67 dc) rfl (by kernel_rfl) (by kernel_rfl) (by kernel_rfl) (fun _ _ _ h => h) (yl_move rfl (.tmp 6) rfl _ rfl) hS0 ?_
      simp only [List.getElem_toArray, List.getElem_cons_zero, List.getElem_cons_succ, Act.put, List.setIfInBounds_toArray, List.set_cons_succ, List.set_cons_zero]
      refine wpAnyH_take (i := 3) (v := .int .i64 (k : Nat)) rfl (by kernel_rfl) (by kernel_rfl) (by kernel_rfl) (fun _ _ _ h => h) (yl_move rfl (.tmp 8) rfl _ rfl) hS0 ?_
      simp only [List.getElem_toArray, List.getElem_cons_zero, List.getElem_cons_succ, Act.put, List.setIfInBounds_toArray, List.set_cons_succ, List.set_cons_zero]
      refine wpAnyH_take (i := 4) (v := .pointer (some ⟨db, d0 + k * 1, none⟩)) rfl (by kernel_rfl) (by kernel_rfl) (by kernel_rfl) (fun _ _ _ h => h) (yl_indexAddr rfl 77 3 1 (.tmp 28) (.tmp 29) rfl db d0 67 dc k (by kernel_rfl) (by kernel_rfl) rfl rfl hlt) hS0 ?_
      simp only [List.getElem_toArray, List.getElem_cons_zero, List.getElem_cons_succ, Act.put, List.setIfInBounds_toArray, List.set_cons_succ, List.set_cons_zero]
      rw [Nat.mul_one]
      refine wpAnyH_take (i := 5) (v := .int .i64 (dd : Nat)) rfl (by kernel_rfl) (by kernel_rfl) (by kernel_rfl) (fun _ _ _ h => h) (yl_cell rfl 3 (.tmp 30) rfl ⟨db, d0 + k, none⟩ rfl _ Sc (.int .i64) (by kernel_rfl) rfl) hS0 ?_
      simp only [List.getElem_toArray, List.getElem_cons_zero, List.getElem_cons_succ, Act.put, List.setIfInBounds_toArray, List.set_cons_succ, List.set_cons_zero]
      refine wpAnyH_all (rs := [6, 10]) (by kernel_rfl) (by simp) ?_
      intro k2 hk2
      simp only [List.mem_cons, List.not_mem_nil, or_false] at hk2
      rcases hk2 with rfl | rfl
      case' inl =>
        refine wpOp_of_only rfl ?_
        simp only [List.getElem_toArray, List.getElem_cons_zero, List.getElem_cons_succ]
        go_wp2_with fail
        refine (HC.out W0).mono ?_
        rintro e W1 ⟨rfl, hb1⟩
        dsimp only
        go_wp2_with fail
        have hS1 := hS0.trans (hb1.mono hS0.size)
        refine ⟨hS1, ?_⟩
        refine wpAnyH_take (i := 7) (v := .tuple #[bagg y, .int .i64 0]) rfl (by kernel_rfl) (by kernel_rfl) (by kernel_rfl) (fun _ _ _ h => h) (yl_move rfl (.tmp 32) rfl _ rfl) hS1 ?_
        simp only [List.getElem_toArray, List.getElem_cons_zero, List.getElem_cons_succ, Act.put, List.setIfInBounds_toArray, List.set_cons_succ, List.set_cons_zero]
        refine wpAnyH_take (i := 8) (v := bagg y) rfl (by kernel_rfl) (by kernel_rfl) (by kernel_rfl) (fun _ _ _ h => h) (yl_extract rfl (.tmp 25) 0 rfl _ rfl _ rfl) hS1 ?_
        simp only [List.getElem_toArray, List.getElem_cons_zero, List.getElem_cons_succ, Act.put, List.setIfInBounds_toArray, List.set_cons_succ, List.set_cons_zero]
        refine wpAnyH_take (i := 9) (v := .int .i64 0) rfl (by kernel_rfl) (by kernel_rfl) (by kernel_rfl) (fun _ _ _ h => h) (yl_extract rfl (.tmp 25) 1 rfl _ rfl _ rfl) hS1 ?_
        simp only [List.getElem_toArray, List.getElem_cons_zero, List.getElem_cons_succ, Act.put, List.setIfInBounds_toArray, List.set_cons_succ, List.set_cons_zero]
        refine wpAnyH_all (rs := [10]) (by kernel_rfl) (by simp) ?_
        intro k hk
        simp only [List.mem_cons, List.not_mem_nil, or_false] at hk
        subst hk
        refine wpOp_of_only rfl ?_
        simp only [List.getElem_toArray, List.getElem_cons_zero, List.getElem_cons_succ]
        go_wp2_with fail
        refine ⟨hS1.alloc hS1.size _, ?_⟩
        refine wpAnyH_all (rs := [11]) (by kernel_rfl) (by simp) ?_
        intro k hk
        simp only [List.mem_cons, List.not_mem_nil, or_false] at hk
        subst hk
        refine wpOp_of_only rfl ?_
        simp only [List.getElem_toArray, List.getElem_cons_zero, List.getElem_cons_succ]
        go_wp2_with (refine wpList_store_new rfl 24 (.tmp 10) (.tmp 33) rfl _ _ (y.map bv).toArray rfl rfl (id_info y hyl) (id_size y hyl).symm (id_one y) ?_)
        refine ⟨hS1.alloc hS1.size _, ?_⟩
        have hY6 : (W1.alloc (Obj.cells (y.map bv).toArray 24)).heap[W1.heap.size]? = some (.cells (y.map bv).toArray 24 (0, 0)) := heap_alloc_new W1 _
        have hb6 : Below W.heap.size W (W1.alloc (Obj.cells (y.map bv).toArray 24)) := hS1.alloc hS1.size _
        generalize W1.alloc (Obj.cells (y.map bv).toArray 24) = w6 at *
        refine wpAnyH_take (i := 12) (v := .int .i64 0) rfl (by kernel_rfl) (by kernel_rfl) (by kernel_rfl) (fun _ _ _ h => h) (yl_assign rfl (.tmp 34) rfl _ rfl) hb6 ?_
        simp only [List.getElem_toArray, List.getElem_cons_zero, List.getElem_cons_succ, Act.put, List.setIfInBounds_toArray, List.set_cons_succ, List.set_cons_zero]
        refine wpAnyH_done (by kernel_rfl) ?_ _
        generalize W1.heap.size = Y at *
        clear hb1 hS1
      case' inr =>
        refine wpOp_of_only rfl ?_
        simp only [List.getElem_toArray, List.getElem_cons_zero, List.getElem_cons_succ]
        go_wp2_with fail
        have hZ1 : (W0.alloc (Obj.cells zero24 24)).heap[W0.heap.size]? = some (.cells zero24 24 (0, 0)) := heap_alloc_new W0 _
        have hS1 : Below W.heap.size W (W0.alloc (Obj.cells zero24 24)) := hS0.alloc hS0.size _
        refine ⟨hS1, ?_⟩
        change wpAnyH _ _ _ _ _ _ _ _ (W0.alloc (Obj.cells zero24 24))
        generalize W0.alloc (Obj.cells zero24 24) = W1 at *
        refine wpAnyH_all (rs := [6]) (by kernel_rfl) (by simp) ?_
        intro k hk
        simp only [List.mem_cons, List.not_mem_nil, or_false] at hk
        subst hk
        refine wpOp_of_only rfl ?_
        simp only [List.getElem_toArray, List.getElem_cons_zero, List.getElem_cons_succ]
        go_wp2_with fail
        refine (HC.out W1).mono ?_
        rintro e W2 ⟨rfl, hb2⟩
        dsimp only
        go_wp2_with fail
        have hZ2 := (hb2.block _ (Array.getElem?_eq_some_iff.1 hZ1).1).trans hZ1
        have hS2 := hS1.trans (hb2.mono hS1.size)
        refine ⟨hS2, ?_⟩
        refine wpAnyH_take (i := 7) (v := .tuple #[bagg y, .int .i64 0]) rfl (by kernel_rfl) (by kernel_rfl) (by kernel_rfl) (fun _ _ _ h => h) (yl_move rfl (.tmp 32) rfl _ rfl) hS2 ?_
        simp only [List.getElem_toArray, List.getElem_cons_zero, List.getElem_cons_succ, Act.put, List.setIfInBounds_toArray, List.set_cons_succ, List.set_cons_zero]
        refine wpAnyH_take (i := 8) (v := bagg y) rfl (by kernel_rfl) (by kernel_rfl) (by kernel_rfl) (fun _ _ _ h => h) (yl_extract rfl (.tmp 25) 0 rfl _ rfl _ rfl) hS2 ?_
        simp only [List.getElem_toArray, List.getElem_cons_zero, List.getElem_cons_succ, Act.put, List.setIfInBounds_toArray, List.set_cons_succ, List.set_cons_zero]
        refine wpAnyH_take (i := 9) (v := .int .i64 0) rfl (by kernel_rfl) (by kernel_rfl) (by kernel_rfl) (fun _ _ _ h => h) (yl_extract rfl (.tmp 25) 1 rfl _ rfl _ rfl) hS2 ?_
        simp only [List.getElem_toArray, List.getElem_cons_zero, List.getElem_cons_succ, Act.put, List.setIfInBounds_toArray, List.set_cons_succ, List.set_cons_zero]
        refine wpAnyH_all (rs := [11]) (by kernel_rfl) (by simp) ?_
        intro k hk
        simp only [List.mem_cons, List.not_mem_nil, or_false] at hk
        subst hk
        refine wpOp_of_only rfl ?_
        simp only [List.getElem_toArray, List.getElem_cons_zero, List.getElem_cons_succ]
        have hS0' := hS0.size
        go_wp2_with (refine wpList_store_row rfl 24 (.tmp 10) (.tmp 33) rfl W0.heap.size 24 zero24 (y.map bv).toArray rfl rfl hZ2 (id_info y hyl) (id_size y hyl).symm (id_one y) ?_)
        have hb6 : Below W.heap.size W (W2.setRow W0.heap.size (y.map bv).toArray) := below_setRow' hS2 hS0' _
        refine ⟨hb6, ?_⟩
        have hY6 : (W2.setRow W0.heap.size (y.map bv).toArray).heap[W0.heap.size]? = some (.cells (y.map bv).toArray 24 (0, 0)) := setRow_heap _ _ _ _ _ _ hZ2
        generalize W2.setRow W0.heap.size (y.map bv).toArray = w6 at *
        refine wpAnyH_take (i := 12) (v := .int .i64 0) rfl (by kernel_rfl) (by kernel_rfl) (by kernel_rfl) (fun _ _ _ h => h) (yl_assign rfl (.tmp 34) rfl _ rfl) hb6 ?_
        simp only [List.getElem_toArray, List.getElem_cons_zero, List.getElem_cons_succ, Act.put, List.setIfInBounds_toArray, List.set_cons_succ, List.set_cons_zero]
        refine wpAnyH_done (by kernel_rfl) ?_ _
        generalize W0.heap.size = Y at *
        clear hb2 hS1 hS2 hZ1 hZ2 hS0'
      all_goals
        have hs6 : N ≤ w6.heap.size := Nat.le_trans hsW hb6.size
        have ho7 := (hoW.below hb6).alloc (Obj.cells (y.map bv).toArray 24)
        have hnew : (w6.alloc (Obj.cells (y.map bv).toArray 24)).heap[w6.heap.size]? = some (.cells (y.map bv).toArray 24 (0, 0)) := heap_alloc_new w6 _
        have hb7 := (hbW3.trans (hb6.mono hsW)).alloc hs6 (Obj.cells (y.map bv).toArray 24)
        have hs7 : N ≤ (w6.alloc (Obj.cells (y.map bv).toArray 24)).heap.size := by simp; omega
        clear hb6 bX hoW hbW3 HC Sr Sc hcW hS0 hs6
        simp only [Exit.then]
        go_wp2_with (first
          | (refine wpList_load_row rfl 24 (.tmp 10) rfl Y rfl 24 _ (0, 0) (.array 32 5) hY6 (by kernel_rfl) rfl (id_info y hyl) ?_)
          | (rw [laid_row (y.map bv) _ (by rw [List.length_map, hyl]; rfl)]; refine wpList_append_id_own rfl (.tmp 35) (.tmp 37) rfl N _ l rfl ho7 w6.heap.size y rfl hyl hnew hll w3 hb7 hs7 ?_))
        intro v8 w8 ho8 hb8
        have ho9 := ho8
        rw [← Hnext.out] at ho9
        clear ho8 hnew ho7 hb7 Hnext hY6
        go_wp2_with fail
        go_roundw
        case rel => exact ⟨k + 1, by omega, by go_num, ho9, hb8⟩
        case measure => simp [intOf]; omega
    · obtain rfl : k = 67 := by omega
      have hg : decide (((67 : Nat) : Int) < 67) = false := decide_eq_false (by omega)
      have HD := Lib.hid (fun u w h1 h2 => wdigest_any 75 (.slice none 0 0) u [] ((List.range 67).map (recP m ids)) (by simp) (fun i => by simp) (by simp) w h1 h2)
      rw [ends_said, show keyOf ((List.range 67).map (recP m ids)) = recW m ids from rfl] at HD
      have hI := recW_length m ids
      obtain ⟨d, hd⟩ : ∃ d, recW m ids = d := ⟨_, rfl⟩
      rw [hd] at HD hI
      have Hd := Lib.hid hd
      clear hd
      have hnil : Hid (RdN wr (.slice none 0 0) []) := Lib.hid ⟨none, 0, rfl, by simp, by simp⟩
      have hZr := (hbr.block _ (by omega)).trans hZ3
      have hbw2 := hbw.trans (hbr.mono (show w.heap.size ≤ N by omega))
      have hrd := Lib.hid hown.rd
      clear hown hZ3
      go_wp2_with fail
      refine (HD.out _ wr hnil.out hrd.out).mono ?_
      rintro e w6 ⟨rfl, hb6⟩
      have hZ6 := (hb6.block _ (by omega)).trans hZr
      have hbw6 := hbw2.trans (hb6.mono hbw2.size)
      clear hb6 hZr
      dsimp only
      go_wp2_with (refine wpList_store_row rfl 24 (.tmp 4) (.tmp 41) rfl (w.heap.size + 1) 24 zero24 (d.map bv).toArray rfl rfl hZ6 (id_info d hI) (id_size d hI).symm (id_one d) ?_)
      exact bodyPost_ret (results_cell_tmp (d := .array 32 5) rfl _ _ (w.heap.size + 1) 24 _ (0, 0) rfl (setRow_heap _ _ _ _ _ _ hZ6) (by kernel_rfl) rfl (id_info d hI)) rfl ⟨by rw [Hd.out]; rfl, below_setRow' hbw6 (by omega) _⟩
end Go.Proofs.Ytcfkapoppmpehaa
