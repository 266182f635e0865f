/-
  A digest is appended to a row of digests; what a call of the law's own key gives.
-/
import Derived.Test.YtcfkapoppmpehaaWe
import Derived.Test.YtcfkapoppmpehaaFrs
namespace Go.Proofs.Ytcfkapoppmpehaa
open Go.RowKit

theorem flat_one (ids : List (List UInt8)) (y : List UInt8) : flat (ids ++ [y]) = flat ids ++ y.map bv := by simp [flat]
/-- append of one digest onto a row of digests of the call's own. -/
theorem wpList_append_id_own {ops : Array Oper} {rest : List Oper} {o : Oper} {a : Act} {w : World} {Q : Exit → Act → World → Prop} (hgd : o.guard = none) (s x : Operand)
    (ho : o.op = .call { callee := .builtin .append, args := #[s, x], argTypes := #[27, 27] }) (base : Nat) (v : Value) (ids : List (List UInt8)) (hs : a.eval s = v) (hown : OwnI w base v ids)
    (g : Nat) (y : List UInt8) (hx : a.eval x = .slice (some ⟨g, 0, none⟩) 1 1) (hy : y.length = 32) (hg : w.heap[g]? = some (.cells (y.map bv).toArray 24 (0, 0))) (hsmall : ids.length ≤ 100000)
    (w0 : World) (hb : Below base w0 w) (hbase : base ≤ w.heap.size)
    (h : ∀ v' w', OwnI w' base v' (ids ++ [y]) → Below base w0 w' → wpList Try.prog ops Q rest (a.put o.dst v') w') : wpList Try.prog ops Q (o :: rest) a w := by
  obtain ⟨i0, hi, hz0, hz1, hz2⟩ := info24
  refine wpList_append_own (P := Try.prog) w hgd s x 27 ho base 24 i0 (.agg zero24) 32 32 (by kernel_rfl) hi hz0 hz1 hz2 rfl (by decide) v ids.length _ hs hown.2 ⟨g, 0, none⟩ 1 1 (y.map bv) hx (by simp [hy]) (fun j u hu => ?_) (fun u hu => ?_) (by unfold maxLen; omega) (by omega) hbase (fun v' w' ho' hg' _ => ?_)
  · have hj := (List.getElem?_eq_some_iff.1 hu).1
    rw [List.length_map] at hj
    rw [cells_row _ hg j hj, ← hu]
    simp [hj]
  · obtain ⟨z, _, rfl⟩ := List.mem_map.1 hu; rfl
  · refine h v' w' ⟨fun i hi => ?_, ?_⟩ (hb.grown hg' hbase (fun k hk => (hown.2.lt k hk).1))
    · by_cases hlt : i < ids.length
      · have := hown.1 i hlt
        rwa [List.getD_eq_getElem?_getD, List.getElem?_append_left hlt, ← List.getD_eq_getElem?_getD]
      · obtain rfl : i = ids.length := by simp at hi; omega
        simp [hy]
    · rw [flat_one, List.length_append, List.length_singleton]; exact ho'

theorem ends_next (x : List UInt8) (k : Nat) : (List.range (k + 1)).map (endW x) = (List.range k).map (endW x) ++ [walkW (startW x k) k 0 (15 - 0)] := by rw [List.range_succ, List.map_append]; rfl
set_option maxRecDepth 100000 in
set_option maxHeartbeats 1000000 in
theorem key69_any (x : List UInt8) (hx : x.length = 32) (w : World) :
    Calls Try.prog 69 #[bagg x] w fun e w' => e = .returned (bagg (keyW x)) ∧ Below w.heap.size w w' := by
  go_enter Try.func69, Try.ntmps69
  go_upto_region 1 with fail
  obtain ⟨w2, hw2, hbl, hb2, hs2⟩ := allocs_named w [.cells (x.map bv).toArray 24, .cells zero24 24]
  change Code.wp _ _ _ _ (List.foldl World.alloc w [.cells (x.map bv).toArray 24, .cells zero24 24])
  rw [hw2]
  have hX : w2.heap[w.heap.size]? = _ := hbl 0
  have hZ : w2.heap[w.heap.size + 1]? = _ := hbl 1
  have hsz : w2.heap.size = w.heap.size + 2 := by simpa using hs2
  clear hbl hw2 hs2
  go_wp2_with fail
  go_loopw [3, 5] (fun v i wr => ∃ k : Nat, k ≤ 67 ∧ i = .int .i64 k ∧ OwnI wr (w.heap.size + 2) v ((List.range k).map (endW x)) ∧ Below (w.heap.size + 2) w2 wr) (fun _ i _ => 67 - (intOf i).toNat)
  case atStart => exact ⟨0, by omega, rfl, OwnI.nil _ _, Below.refl _ _⟩
  case round =>
    obtain ⟨k, hk, rfl, hown, hbr⟩ := hrel
    have hsr := hbr.size
    have hXr := (hbr.block _ (by omega)).trans hX
    have hZr := (hbr.block _ (by omega)).trans hZ
    by_cases hlt : k < 67
    · have hg : decide ((k : Int) < 67) = true := decide_eq_true (by omega)
      have Hnext := Lib.hid (ends_next x k)
      have HS := Lib.hid (start64_any x hx k hlt wr)
      have HW := Lib.hid (fun w => walk66_any (startW x k) (startW_length x k) k 0 15 hlt (by omega) (by omega) w)
      have hyl := walkW_length (startW x k) k 0 (15 - 0) (startW_length x k)
      have hll : ((List.range k).map (endW x)).length ≤ 100000 := by simp; omega
      generalize walkW (startW x k) k 0 (15 - 0) = y at *
      generalize startW x k = z at *
      generalize (List.range k).map (endW x) = l at *
      have hsz' := Lib.hid hsz
      clear hsz
      go_wp2_with (refine wpList_load_row rfl 24 (.tmp 1) rfl w.heap.size rfl 24 _ (0, 0) (.array 32 5) hXr (by kernel_rfl) rfl (id_info x hx) ?_)
      refine HS.out.mono ?_
      rintro e w5 ⟨rfl, hb5⟩
      go_wp2_with fail
      refine (HW.out w5).mono ?_
      rintro e w6 ⟨rfl, hb6⟩
      have hown5 := (hown.below hb5).below hb6
      have hbr6 := (hbr.trans (hb5.mono (by rw [← hsz'.out]; exact hsr))).trans (hb6.mono (by rw [← hsz'.out]; exact Nat.le_trans hsr hb5.size))
      have h6 := hbr6.size
      have hown6 := hown5.alloc (Obj.cells (y.map bv).toArray 24)
      have hnew : (w6.alloc (Obj.cells (y.map bv).toArray 24)).heap[w6.heap.size]? = some (.cells (y.map bv).toArray 24 (0, 0)) := heap_alloc_new w6 _
      have hb7 := hbr6.alloc (by rw [← hsz'.out]; exact h6) (Obj.cells (y.map bv).toArray 24)
      clear hown hown5 hb5 hb6 hbr6 hXr hZr
      dsimp only
      go_upto_region 6 with (first
        | (rw [laid_row (y.map bv) _ (by rw [List.length_map, hyl]; rfl)]; refine wpList_append_id_own rfl (.tmp 8) (.tmp 14) rfl (w.heap.size + 2) _ l rfl hown6 w6.heap.size y rfl hyl hnew hll w2 hb7 (by rw [← hsz'.out]; exact hb7.size) ?_))
      intro v8 w8 hown8 hb8
      have hown9 := hown8
      rw [← Hnext.out] at hown9
      clear hown8 hnew hown6 hb7 Hnext
      go_wp2_with fail
      go_roundw
      case rel => exact ⟨k + 1, by omega, by go_num, hown9, hb8⟩
      case measure => simp [intOf]; omega
    · obtain rfl : k = 67 := by omega
      have HE := Lib.hid (ends102_any u3 ((List.range 67).map (endW x)) (by simp) wr hown.rd)
      rw [show keyOf ((List.range 67).map (endW x)) = keyW x from rfl] at HE
      have hI : (keyW x).length = 32 := keyOf_length _
      obtain ⟨d, hd⟩ : ∃ d, keyW x = d := ⟨_, rfl⟩
      rw [hd] at HE hI
      have Hd := Lib.hid hd
      have hbw := hb2.trans (hbr.mono (by omega))
      clear hd hown
      go_wp2_with fail
      refine HE.out.mono ?_
      rintro e w6 ⟨rfl, hb6⟩
      have hZ6 := (hb6.block _ (Array.getElem?_eq_some_iff.1 hZr).1).trans hZr
      have hbw6 := hbw.trans (hb6.mono hbw.size)
      dsimp only
      go_wp2_with (refine wpList_store_row rfl 24 (.tmp 2) (.tmp 18) rfl (w.heap.size + 1) 24 zero24 (d.map bv).toArray rfl rfl hZ6 (id_info d hI) (id_size d hI).symm (id_one d) ?_)
      exact bodyPost_ret (results_cell_row (d := .array 32 5) rfl _ _ (w.heap.size + 1) 24 _ (0, 0) rfl (setRow_heap _ _ _ _ _ _ hZ6) (by kernel_rfl) rfl (id_info d hI)) rfl ⟨by rw [Hd.out], below_setRow' hbw6 (by omega) _⟩
end Go.Proofs.Ytcfkapoppmpehaa
