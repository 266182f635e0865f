/-
  What a call of the definition's Digits (layer 6) gives.
-/
import Derived.Test.YtcfkapoppmpehaaWg
namespace Go.Proofs.Ytcfkapoppmpehaa
open Go.RowKit

theorem OwnN.weaken {w : World} {base base' : Nat} {v : Value} {ns : List Nat} (h : OwnN w base v ns) (hb : base' ≤ base) : OwnN w base' v ns := by
  rcases h with ⟨h1, h2 | ⟨g, cap, cur, hv, hbg, hrest⟩⟩
  · exact ⟨h1, .inl h2⟩
  · exact ⟨h1, .inr ⟨g, cap, cur, hv, Nat.le_trans hb hbg, hrest⟩⟩
theorem sumN_le (l : List Nat) : sumN l ≤ 15 * l.length := by
  induction l with
  | nil => exact Nat.le_refl _
  | cons a l ih => rw [sumN, List.map_cons, List.sum_cons, ← sumN, List.length_cons]; omega
theorem hexN_take (m : List UInt8) (k : Nat) (h : k < m.length) : hexN (m.take (k + 1)) = hexN (m.take k) ++ [(m.getD k 0).toNat / 16, (m.getD k 0).toNat % 16] := by
  rw [List.take_add_one, hexN, List.flatMap_append]
  simp [hexN, h]
theorem hexN_length (m : List UInt8) : (hexN m).length = 2 * m.length := by
  induction m with
  | nil => rfl
  | cons b m ih => rw [hexN, List.flatMap_cons, List.length_append, ← hexN, ih]; simp; omega

set_option maxRecDepth 100000 in
set_option maxHeartbeats 1000000 in
theorem refdigits_any (m : List UInt8) (hm : m.length = 32) (w : World) :
    Calls Try.prog 60 #[bagg m] w fun e w' => ∃ v, e = .returned v ∧ OwnN w' w.heap.size v (digN m) ∧ Below w.heap.size w w' := by
  go_enter Try.func60, Try.ntmps60
  go_upto_region 2 with fail
  obtain ⟨w2, hw2, hbl, hb2, hs2⟩ := allocs_named w [.cells (m.map bv).toArray 24]
  change Code.wp _ _ _ _ (List.foldl World.alloc w [.cells (m.map bv).toArray 24])
  rw [hw2]
  have hX : w2.heap[w.heap.size]? = _ := hbl 0
  have hsz : w2.heap.size = w.heap.size + 1 := by simpa using hs2
  clear hbl hw2 hs2
  go_wp2_with (refine wpList_load_row rfl 24 (.tmp 1) rfl w.heap.size rfl 24 _ (0, 0) (.array 32 5) hX (by kernel_rfl) rfl (id_info m hm) ?_)
  go_loopw [3, 10] (fun v i wr => ∃ k : Nat, k ≤ 32 ∧ i = .int .i64 k ∧ OwnN wr (w.heap.size + 1) v (hexN (m.take k)) ∧ Below (w.heap.size + 1) w2 wr) (fun _ i _ => 32 - (intOf i).toNat)
  case atStart => exact ⟨0, by omega, rfl, OwnN.nil _ _, Below.refl _ _⟩
  case round =>
    obtain ⟨k, hk, rfl, hown, hbr⟩ := hrel
    have hsr := hbr.size
    by_cases hlt : k < 32
    · have hg : decide ((k : Int) < 32) = true := decide_eq_true (by omega)
      have g1 := fun w => run_index24 w m hm k hlt
      have Hnext := Lib.hid (hexN_take m k (by omega))
      have hll : (hexN (m.take k)).length ≤ 100 := by rw [hexN_length]; simp; omega
      generalize m.getD k 0 = c at *
      generalize hexN (m.take k) = l at *
      have hc := c.toNat_lt
      have hown6 := hown.alloc (Obj.cells #[nv (c.toNat / 16), nv (c.toNat % 16)] 3)
      have hnew : (wr.alloc (Obj.cells #[nv (c.toNat / 16), nv (c.toNat % 16)] 3)).heap[wr.heap.size]? = some (.cells (([c.toNat / 16, c.toNat % 16] : List Nat).map nv).toArray 3 (0, 0)) := heap_alloc_new wr _
      have hb7 := hbr.alloc (by rw [← hsz]; exact hsr) (Obj.cells #[nv (c.toNat / 16), nv (c.toNat % 16)] 3)
      have hsz' := Lib.hid hsz
      clear hsz hown
      go_upto_region 7 with (refine wpList_append_nums rfl (.tmp 13) (.tmp 20) rfl (w.heap.size + 1) _ l rfl hown6 wr.heap.size 2 [c.toNat / 16, c.toNat % 16] rfl rfl 3 hnew (by omega) w2 hb7 (by rw [← hsz'.out]; exact hb7.size) ?_)
      intro v8 w8 hown8 hb8
      have hown9 := hown8
      rw [← Hnext.out] at hown9
      clear hown8 hnew hown6 hb7 Hnext
      go_wp2_with fail
      go_roundw
      case rel => exact ⟨k + 1, by omega, by go_num, hown9, hb8⟩
      case measure => simp [intOf]; omega
    · obtain rfl : k = 32 := by omega
      rw [List.take_of_length_le (by omega)] at hown
      have hll : (hexN m).length = 64 := by rw [hexN_length, hm]
      have hd15 : ∀ d ∈ hexN m, d ≤ 15 := fun d hd => by
        obtain ⟨b, _, hb⟩ := List.mem_flatMap.1 hd
        have := b.toNat_lt
        simp at hb
        omega
      have hown2 := hown
      obtain ⟨a3, c3, rfl, hc3, hr3⟩ := hown.rd
      obtain ⟨b3, o3, rfl, hcell⟩ := hr3 (by omega)
      clear hr3 hX
      obtain ⟨ds, hds⟩ : ∃ ds, hexN m = ds := ⟨_, rfl⟩
      rw [hds] at hown2 hd15 hll hcell hc3 ⊢
      rw [hll] at hc3 hown2 ⊢
      have Hds := Lib.hid hds
      replace hcell := Lib.hid hcell
      clear hds hown
      go_wp2_with fail
      go_loopw [4, 25] (fun z i wx => ∃ k : Nat, k ≤ 64 ∧ i = .int .i64 k ∧ z = .int .i64 (sumN (ds.take k) : Nat) ∧ wx = wr) (fun _ i _ => 64 - (intOf i).toNat)
      case atStart => exact ⟨0, by omega, rfl, rfl, rfl⟩
      case round =>
        obtain ⟨k, hk, rfl, rfl, rfl⟩ := hrel
        by_cases hlt : k < 64
        · have hg : decide ((k : Int) < 64) = true := decide_eq_true (by omega)
          have e1 := hcell.out k (by omega)
          have hd := hd15 (ds.getD k 0) (by rw [List.getD_eq_getElem?_getD, List.getElem?_eq_getElem (by omega), Option.getD_some]; exact List.getElem_mem _)
          have Hnext := Lib.hid (show sumN (ds.take (k + 1)) = sumN (ds.take k) + (15 - ds.getD k 0) by rw [sumN, List.take_add_one, List.map_append, List.sum_append]; simp [sumN, show k < ds.length by omega])
          have hsm : sumN (ds.take k) ≤ 15 * k := by
            have := sumN_le (ds.take k)
            rw [List.length_take] at this
            omega
          obtain ⟨d, hdd⟩ : ∃ d, ds.getD k 0 = d := ⟨_, rfl⟩
          rw [hdd] at e1 hd Hnext
          replace hdd := Lib.hid hdd
          generalize sumN (ds.take k) = S at *
          go_wp2_with fail
          go_roundw
          case rel => exact ⟨k + 1, by omega, by go_num, by rw [Hnext.out]; congr 1; omega, trivial⟩
          case measure => simp [intOf]; omega
        · obtain rfl : k = 64 := by omega
          have hg : decide (((64 : Nat) : Int) < 64) = false := decide_eq_false (by omega)
          rw [List.take_of_length_le (by omega)]
          have Hdig : Hid (digN m = ds ++ [sumN ds / 256, sumN ds / 16 % 16, sumN ds % 16]) := Lib.hid (by rw [← Hds.out]; rfl)
          have hown6 := hown2.alloc (Obj.cells #[nv (sumN ds / 256), nv (sumN ds / 16 % 16), nv (sumN ds % 16)] 3)
          have hnew : (wr.alloc (Obj.cells #[nv (sumN ds / 256), nv (sumN ds / 16 % 16), nv (sumN ds % 16)] 3)).heap[wr.heap.size]? = some (.cells (([sumN ds / 256, sumN ds / 16 % 16, sumN ds % 16] : List Nat).map nv).toArray 3 (0, 0)) := heap_alloc_new wr _
          have hb7 := hbr.alloc (by rw [← hsz]; exact hsr) (Obj.cells #[nv (sumN ds / 256), nv (sumN ds / 16 % 16), nv (sumN ds % 16)] 3)
          have hbw := hb2.trans ((show Below w2.heap.size w2 wr from by rw [hsz]; exact hbr).mono hb2.size)
          have hsz' := Lib.hid hsz
          clear hsz hown2
          have hS := sumN_le ds
          rw [hll] at hS
          generalize sumN ds = S at *
          have q1 : wrap64 ((S : Int) / 256) = (S : Int) / 256 := by unfold wrap64; omega
          have q2 : wrap64 ((S : Int) / 16) = (S : Int) / 16 := by unfold wrap64; omega
          have q3 : ((S : Int) / 16).tmod 16 = (S : Int) / 16 % 16 := rfl
          rw [show (#[nv (S / 256), nv (S / 16 % 16), nv (S % 16)] : Array Value) = #[.int .i64 ((S : Int) / 256), .int .i64 ((S : Int) / 16 % 16), .int .i64 ((S : Int) % 16)] from rfl] at hown6 hnew hb7
          go_wp2_with (refine wpList_append_nums rfl (.tmp 34) (.tmp 42) rfl (w.heap.size + 1) _ ds rfl hown6 wr.heap.size 3 [S / 256, S / 16 % 16, S % 16] rfl rfl 3 hnew (by omega) w2 hb7 (by rw [← hsz'.out]; exact hb7.size) ?_)
          intro v9 w9 hown9 hb9
          go_wp2_with fail
          go_ret
          refine ⟨v9, ret_val rfl, ?_, ?_⟩
          · rw [Hdig.out]; exact hown9.weaken (by omega)
          · exact hb2.trans ((show Below w2.heap.size w2 w9 from by rw [hsz'.out]; exact hb9).mono hb2.size)
end Go.Proofs.Ytcfkapoppmpehaa
