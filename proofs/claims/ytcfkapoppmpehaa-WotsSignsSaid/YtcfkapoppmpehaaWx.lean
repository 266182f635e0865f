/-
  What calls of the law's own signed and recovered (layer 6) give.
-/
import Derived.Test.YtcfkapoppmpehaaWv
namespace Go.Proofs.Ytcfkapoppmpehaa
open Go.RowKit Go.Shelf

theorem sig_next (x m : List UInt8) (k : Nat) : (List.range (k + 1)).map (sigW x m) = (List.range k).map (sigW x m) ++ [sigW x m k] := by rw [List.range_succ, List.map_append]; rfl

set_option maxRecDepth 100000 in
set_option maxHeartbeats 1000000 in
theorem signed68_any (x m : List UInt8) (hx : x.length = 32) (hm : m.length = 32) (w : World) :
    Calls Try.prog 68 #[bagg x, bagg m] w fun e w' => ∃ v, e = .returned v ∧ OwnI w' w.heap.size v (signW x m) ∧ Below w.heap.size w w' := by
  have HDg := Lib.hid (refdigits_any m hm)
  have hdl := digN_length m hm
  have hd15 := Lib.hid (digN_at m hm)
  go_enter Try.func68, Try.ntmps68
  go_upto_region 2 with fail
  obtain ⟨w2, hw2, hbl, hb2, hs2⟩ := allocs_named w [.cells (x.map bv).toArray 24, .cells (m.map bv).toArray 24]
  change Code.wp _ _ _ _ (List.foldl World.alloc w [.cells (x.map bv).toArray 24, .cells (m.map bv).toArray 24])
  rw [hw2]
  have hX : w2.heap[w.heap.size]? = some (.cells (x.map bv).toArray 24 (0, 0)) := hbl 0
  have hM : w2.heap[w.heap.size + 1]? = some (.cells (m.map bv).toArray 24 (0, 0)) := hbl 1
  have hsz : w.heap.size + 2 ≤ w2.heap.size := by simp at hs2; omega
  clear hbl hw2 hs2
  go_wp2_with (refine wpList_load_row rfl 24 (.tmp 3) rfl (w.heap.size + 1) rfl 24 _ (0, 0) (.array 32 5) hM (by kernel_rfl) rfl (id_info m hm) ?_)
  refine (HDg.out w2).mono ?_
  rintro e w3 ⟨dv, rfl, hod, hb3⟩
  dsimp only
  have hrd := hod.rd
  obtain ⟨da, dc, rfl, hdc, hdr⟩ := hrd
  rw [hdl] at hdc hdr ⊢
  clear hdl
  obtain ⟨db, d0, rfl, hcell⟩ := hdr (by omega)
  have hX3 := (hb3.block _ (by omega)).trans hX
  have hbw := hb2.trans (hb3.mono hb2.size)
  have hsz3 : w.heap.size + 2 ≤ w3.heap.size := Nat.le_trans hsz hb3.size
  replace hcell := Lib.hid hcell
  clear hM hX hb2 hb3 hsz hdr hod HDg
  obtain ⟨N, hN⟩ : ∃ N, N = w3.heap.size := ⟨_, rfl⟩
  rw [← hN] at hsz3
  replace hN := Lib.hid hN
  go_wp2_with fail
  go_loopw [5, 11] (fun v i wr => ∃ k : Nat, k ≤ 67 ∧ i = .int .i64 k ∧ OwnI wr N v ((List.range k).map (sigW x m)) ∧ Below N w3 wr) (fun _ i _ => 67 - (intOf i).toNat)
  case atStart => exact ⟨0, by omega, rfl, OwnI.nil _ _, Below.refl _ _⟩
  case round =>
    obtain ⟨k, hk, rfl, hown, hbr⟩ := hrel
    have hsr : N ≤ wr.heap.size := by rw [hN.out]; exact hbr.size
    by_cases hlt : k < 67
    · have hg : decide ((k : Int) < 67) = true := decide_eq_true (by omega)
      have hXr := (hbr.block _ (by omega)).trans hX3
      have hzl := startW_length x k
      have hdk := hd15.out k
      have hcl : w3.cell? ⟨db, d0 + k, none⟩ = some (.int .i64 ((digN m).getD k 0 : Nat)) := hcell.out k hlt
      have hdb : db < w3.heap.size := block_lt_of_cell hcl
      have HS := Lib.hid (fun w => start64_any x hx k hlt w)
      have HC := Lib.hid (fun W => walk66_any (startW x k) hzl k 0 ((digN m).getD k 0) hlt (by omega) (by omega) W)
      have Hnext := Lib.hid (sig_next x m k)
      have hyl := sigW_length x m k
      have hll : ((List.range k).map (sigW x m)).length ≤ 100000 := by simp; omega
      rw [show walkW (startW x k) k 0 ((digN m).getD k 0 - 0) = sigW x m k from rfl] at HC
      generalize sigW x m k = y at *
      generalize startW x k = z at *
      generalize (digN m).getD k 0 = dd at *
      generalize (List.range k).map (sigW x m) = l at *
      have hcr : wr.cell? ⟨db, d0 + k, none⟩ = some (.int .i64 (dd : Nat)) := (hbr.cell (p := ⟨db, d0 + k, none⟩) (by show db < N; rw [hN.out]; exact hdb)).trans hcl
      clear hcl hdb
      go_wp2_with (refine wpList_load_row rfl 24 (.tmp 2) rfl w.heap.size rfl 24 _ (0, 0) (.array 32 5) hXr (by kernel_rfl) rfl (id_info x hx) ?_)
      refine (HS.out wr).mono ?_
      rintro e w5 ⟨rfl, hb5⟩
      dsimp only
      go_wp2_with fail
      refine (HC.out w5).mono ?_
      rintro e w6 ⟨rfl, hb6⟩
      have ho6 := (hown.below hb5).below hb6
      have hb36 := (hbr.trans (hb5.mono hsr)).trans (hb6.mono (Nat.le_trans hsr hb5.size))
      have hs6 : N ≤ w6.heap.size := Nat.le_trans hsr (Nat.le_trans hb5.size hb6.size)
      have ho7 := ho6.alloc (Obj.cells (y.map bv).toArray 24)
      have hnew : (w6.alloc (Obj.cells (y.map bv).toArray 24)).heap[w6.heap.size]? = some (.cells (y.map bv).toArray 24 (0, 0)) := heap_alloc_new w6 _
      have hb7 := hb36.alloc hs6 (Obj.cells (y.map bv).toArray 24)
      have hs7 : N ≤ (w6.alloc (Obj.cells (y.map bv).toArray 24)).heap.size := by simp; omega
      clear hb5 hb6 ho6 hb36 hown hbr hXr hcr HS HC
      dsimp only
      go_wp2_with (rw [laid_row (y.map bv) _ (by rw [List.length_map, hyl]; rfl)]; refine wpList_append_id_own rfl (.tmp 16) (.tmp 23) rfl N _ l rfl ho7 w6.heap.size y rfl hyl hnew hll w3 hb7 hs7 ?_)
      intro v8 w8 ho8 hb8
      have ho9 := ho8
      rw [← Hnext.out] at ho9
      clear ho8 hnew ho7 hb7 Hnext
      go_wp2_with fail
      go_roundw
      case rel => exact ⟨k + 1, by omega, by go_num, ho9, hb8⟩
      case measure => simp [intOf]; omega
    · obtain rfl : k = 67 := by omega
      have hg : decide (((67 : Nat) : Int) < 67) = false := decide_eq_false (by omega)
      rw [show (List.range 67).map (sigW x m) = signW x m from rfl] at hown
      have hbw2 := hbw.trans (hbr.mono (show w.heap.size ≤ N by omega))
      go_wp2_with fail
      go_ret
      refine ⟨u5, rfl, ⟨hown.1, ?_⟩, hbw2⟩
      rcases hown.2 with ⟨h1, h2 | ⟨g, cap, cur, hv, hbg, hrest⟩⟩
      · exact ⟨h1, .inl h2⟩
      · exact ⟨h1, .inr ⟨g, cap, cur, hv, by omega, hrest⟩⟩

set_option maxRecDepth 100000 in
set_option maxHeartbeats 1000000 in
theorem recovered72_any (m : List UInt8) (hm : m.length = 32) (sv : Value) (ids : List (List UInt8)) (hids : ids.length = 67) (w : World) (hv : RdI w sv ids) :
    Calls Try.prog 72 #[bagg m, sv] w fun e w' => e = .returned (bagg (recW m ids)) ∧ Below w.heap.size w w' := by
  obtain ⟨sa, sc, rfl, hsc, hl, hr⟩ := hv
  obtain ⟨sb, so, rfl, hrange⟩ := hr (by omega)
  rw [hids] at hsc ⊢
  have HDg := Lib.hid (refdigits_any m hm)
  have hdl := digN_length m hm
  have hd15 := Lib.hid (digN_at m hm)
  replace hl := Lib.hid hl
  replace hrange := Lib.hid hrange
  clear hr
  go_enter Try.func72, Try.ntmps72
  go_upto_region 2 with fail
  obtain ⟨w2, hw2, hbl, hb2, hs2⟩ := allocs_named w [.cells (m.map bv).toArray 24, .cells zero24 24]
  change Code.wp _ _ _ _ (List.foldl World.alloc w [.cells (m.map bv).toArray 24, .cells zero24 24])
  rw [hw2]
  have hM : w2.heap[w.heap.size]? = some (.cells (m.map bv).toArray 24 (0, 0)) := hbl 0
  have hZ : w2.heap[w.heap.size + 1]? = some (.cells zero24 24 (0, 0)) := hbl 1
  have hsz : w.heap.size + 2 ≤ w2.heap.size := by simp at hs2; omega
  clear hbl hw2 hs2
  go_wp2_with (refine wpList_load_row rfl 24 (.tmp 2) rfl w.heap.size rfl 24 _ (0, 0) (.array 32 5) hM (by kernel_rfl) rfl (id_info m hm) ?_)
  refine (HDg.out w2).mono ?_
  rintro e w3 ⟨dv, rfl, hod, hb3⟩
  dsimp only
  have hrd := hod.rd
  obtain ⟨da, dc, rfl, hdc, hdr⟩ := hrd
  rw [hdl] at hdc hdr ⊢
  clear hdl
  obtain ⟨db, d0, rfl, hcell⟩ := hdr (by omega)
  have hZ3 := (hb3.block _ (by omega)).trans hZ
  have hbw := hb2.trans (hb3.mono hb2.size)
  have hsz3 : w.heap.size + 2 ≤ w3.heap.size := Nat.le_trans hsz hb3.size
  replace hcell := Lib.hid hcell
  clear hM hZ hb2 hb3 hsz hdr hod HDg
  obtain ⟨N, hN⟩ : ∃ N, N = w3.heap.size := ⟨_, rfl⟩
  rw [← hN] at hsz3
  replace hN := Lib.hid hN
  go_wp2_with fail
  go_loopw [5, 11] (fun v i wr => ∃ k : Nat, k ≤ 67 ∧ i = .int .i64 k ∧ OwnI wr N v ((List.range k).map (recP m ids)) ∧ Below N w3 wr) (fun _ i _ => 67 - (intOf i).toNat)
  case atStart => exact ⟨0, by omega, rfl, OwnI.nil _ _, Below.refl _ _⟩
  case round =>
    obtain ⟨k, hk, rfl, hown, hbr⟩ := hrel
    have hsr : N ≤ wr.heap.size := by rw [hN.out]; exact hbr.size
    by_cases hlt : k < 67
    · have hg : decide ((k : Int) < 67) = true := decide_eq_true (by omega)
      have hrg : wr.rangeAt sb (so + k * 32) ((ids.getD k []).map bv) := RdI.at hrange.out hl.out w.heap.size wr (hbw.trans (hbr.mono (by omega))) (Nat.le_refl _) k (by omega)
      have hzl := hl.out k (by omega)
      have hdk := hd15.out k
      have hcl : w3.cell? ⟨db, d0 + k, none⟩ = some (.int .i64 ((digN m).getD k 0 : Nat)) := hcell.out k hlt
      have hdb : db < w3.heap.size := block_lt_of_cell hcl
      have HC := Lib.hid (fun W => walk66_any (ids.getD k []) hzl k ((digN m).getD k 0) 15 hlt (by omega) (by omega) W)
      have Hnext := Lib.hid (rec_next m ids k)
      have hyl : (recP m ids k).length = 32 := walkW_length _ _ _ _ hzl
      have hll : ((List.range k).map (recP m ids)).length ≤ 100000 := by simp; omega
      rw [show walkW (ids.getD k []) k ((digN m).getD k 0) (15 - (digN m).getD k 0) = recP m ids k from rfl] at HC
      generalize recP m ids k = y at *
      generalize ids.getD k [] = z at *
      generalize (digN m).getD k 0 = dd at *
      generalize (List.range k).map (recP m ids) = l at *
      have hcr : wr.cell? ⟨db, d0 + k, none⟩ = some (.int .i64 (dd : Nat)) := (hbr.cell (p := ⟨db, d0 + k, none⟩) (by show db < N; rw [hN.out]; exact hdb)).trans hcl
      clear hcl hdb
      go_wp2_with (refine wpList_load_mid rfl 24 (.tmp 19) rfl sb (so + k * 32) rfl (z.map bv) (.array 32 5) hrg (by kernel_rfl) rfl (by rw [List.length_map, hzl]; kernel_rfl) ?_)
      refine (HC.out wr).mono ?_
      rintro e w6 ⟨rfl, hb6⟩
      have ho6 := hown.below hb6
      have hb36 := hbr.trans (hb6.mono hsr)
      have hs6 : N ≤ w6.heap.size := Nat.le_trans hsr hb6.size
      have ho7 := ho6.alloc (Obj.cells (y.map bv).toArray 24)
      have hnew : (w6.alloc (Obj.cells (y.map bv).toArray 24)).heap[w6.heap.size]? = some (.cells (y.map bv).toArray 24 (0, 0)) := heap_alloc_new w6 _
      have hb7 := hb36.alloc hs6 (Obj.cells (y.map bv).toArray 24)
      have hs7 : N ≤ (w6.alloc (Obj.cells (y.map bv).toArray 24)).heap.size := by simp; omega
      clear hb6 ho6 hb36 hown hbr hrg hcr HC
      dsimp only
      go_wp2_with (rw [laid_row (y.map bv) _ (by rw [List.length_map, hyl]; rfl)]; refine wpList_append_id_own rfl (.tmp 16) (.tmp 24) rfl N _ l rfl ho7 w6.heap.size y rfl hyl hnew hll w3 hb7 hs7 ?_)
      intro v8 w8 ho8 hb8
      have ho9 := ho8
      rw [← Hnext.out] at ho9
      clear ho8 hnew ho7 hb7 Hnext
      go_wp2_with fail
      go_roundw
      case rel => exact ⟨k + 1, by omega, by go_num, ho9, hb8⟩
      case measure => simp [intOf]; omega
    · obtain rfl : k = 67 := by omega
      have hg : decide (((67 : Nat) : Int) < 67) = false := decide_eq_false (by omega)
      have HD := Lib.hid (fun u w h => ends102_any u ((List.range 67).map (recP m ids)) (by simp) w h)
      rw [show keyOf ((List.range 67).map (recP m ids)) = recW m ids from rfl] at HD
      have hI := recW_length m ids
      obtain ⟨d, hd⟩ : ∃ d, recW m ids = d := ⟨_, rfl⟩
      rw [hd] at HD hI
      have Hd := Lib.hid hd
      clear hd
      have hZr := (hbr.block _ (by omega)).trans hZ3
      have hbw2 := hbw.trans (hbr.mono (show w.heap.size ≤ N by omega))
      have hrd := Lib.hid hown.rd
      clear hown hZ3
      go_wp2_with fail
      refine (HD.out _ wr hrd.out).mono ?_
      rintro e w6 ⟨rfl, hb6⟩
      have hZ6 := (hb6.block _ (by omega)).trans hZr
      have hbw6 := hbw2.trans (hb6.mono hbw2.size)
      clear hb6 hZr
      dsimp only
      go_wp2_with (refine wpList_store_row rfl 24 (.tmp 4) (.tmp 28) rfl (w.heap.size + 1) 24 zero24 (d.map bv).toArray rfl rfl hZ6 (id_info d hI) (id_size d hI).symm (id_one d) ?_)
      exact bodyPost_ret (results_cell_row (d := .array 32 5) rfl _ _ (w.heap.size + 1) 24 _ (0, 0) rfl (setRow_heap _ _ _ _ _ _ hZ6) (by kernel_rfl) rfl (id_info d hI)) rfl ⟨by rw [Hd.out], below_setRow' hbw6 (by omega) _⟩
end Go.Proofs.Ytcfkapoppmpehaa
