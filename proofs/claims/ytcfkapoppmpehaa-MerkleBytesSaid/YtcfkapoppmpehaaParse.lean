/-
  What a call of Parse gives.
-/
import Derived.Test.YtcfkapoppmpehaaWake
import Derived.Lib.OthersKept
namespace Go.Proofs.Ytcfkapoppmpehaa
open Go.RowKit

/-- The value of a sign; 16: it is no digit. -/
def hv (c : Nat) : Nat := if 48 ≤ c ∧ c ≤ 57 then c - 48 else if 97 ≤ c ∧ c ≤ 102 then c - 87 else 16
theorem hv_le (c : Nat) : hv c ≤ 16 := by unfold hv; repeat' split
                                          all_goals omega
/-- The digest behind the first k signs. -/
def acc (l : List UInt8) (k : Nat) : List UInt8 := (List.range 32).map fun j =>
  if 2 * j + 1 < k then UInt8.ofNat (16 * hv (l.getD (2 * j) 0).toNat + hv (l.getD (2 * j + 1) 0).toNat) else if 2 * j < k then UInt8.ofNat (hv (l.getD (2 * j) 0).toNat) else 0
theorem acc_length (l : List UInt8) (k : Nat) : (acc l k).length = 32 := by simp [acc]
theorem acc_zero (l : List UInt8) : zero24 = ((acc l 0).map bv).toArray := by
  have : acc l 0 = List.replicate 32 0 := by
    unfold acc
    rw [show (fun j : Nat => if 2 * j + 1 < 0 then UInt8.ofNat (16 * hv (l.getD (2 * j) 0).toNat + hv (l.getD (2 * j + 1) 0).toNat) else if 2 * j < 0 then UInt8.ofNat (hv (l.getD (2 * j) 0).toNat) else 0) = fun _ => 0 from by funext j; simp]
    rfl
  rw [this]; rfl
theorem acc_at (l : List UInt8) (k j : Nat) (hj : j < 32) : (acc l k).getD j 0 = if 2 * j + 1 < k then UInt8.ofNat (16 * hv (l.getD (2 * j) 0).toNat + hv (l.getD (2 * j + 1) 0).toNat) else if 2 * j < k then UInt8.ofNat (hv (l.getD (2 * j) 0).toNat) else 0 := by
  simp [acc, hj]
theorem ext_getD {l m : List UInt8} (hl : l.length = m.length) (h : ∀ i, i < l.length → l.getD i 0 = m.getD i 0) : l = m :=
  List.ext_getElem hl fun i h1 h2 => by
    have := h i h1
    simpa [List.getElem?_eq_getElem h1, List.getElem?_eq_getElem h2] using this
theorem getD_set (l : List UInt8) (k i : Nat) (x : UInt8) (hk : k < l.length) : (l.set k x).getD i 0 = if k = i then x else l.getD i 0 := by
  rw [List.getD_eq_getElem?_getD, List.getElem?_set]
  by_cases e : k = i
  · rw [if_pos e, if_pos e, if_pos hk]; rfl
  · rw [if_neg e, if_neg e]; rfl
theorem acc_step (l : List UInt8) (k : Nat) (hk : k < 64) : (acc l k).set (k / 2) (UInt8.ofNat (16 * ((acc l k).getD (k / 2) 0).toNat + hv (l.getD k 0).toNat)) = acc l (k + 1) := by
  refine ext_getD (by simp [acc_length]) fun i h1 => ?_
  have h3 : i < 32 := by rw [List.length_set, acc_length] at h1; exact h1
  rw [acc_at _ _ _ h3, getD_set _ _ _ _ (by rw [acc_length]; omega)]
  have h1 := hv_le (l.getD (2 * i) 0).toNat
  by_cases e : k / 2 = i
  · rw [if_pos e, e, acc_at _ _ _ h3]
    by_cases hp : k % 2 = 0
    · obtain rfl : k = 2 * i := by omega
      rw [if_neg (by omega), if_neg (by omega), if_neg (by omega), if_pos (by omega)]
      simp
    · obtain rfl : k = 2 * i + 1 := by omega
      rw [if_neg (by omega), if_pos (by omega), if_pos (by omega), UInt8.toNat_ofNat', Nat.mod_eq_of_lt (by omega)]
  · rw [if_neg e, acc_at _ _ _ h3]
    by_cases h : k / 2 < i
    · rw [if_neg (by omega), if_neg (by omega), if_neg (by omega), if_neg (by omega)]
    · rw [if_pos (by omega), if_pos (by omega)]
theorem acc_small (l : List UInt8) (k : Nat) (hk : k < 64) : ((acc l k).getD (k / 2) 0).toNat ≤ 16 := by
  rw [acc_at _ _ _ (by omega)]
  have h1 := hv_le (l.getD (2 * (k / 2)) 0).toNat
  rw [if_neg (by omega)]
  split
  · rw [UInt8.toNat_ofNat', Nat.mod_eq_of_lt (by omega)]; exact h1
  · simp
theorem acc_small' (l : List UInt8) (k : Nat) (hk : k < 64) (hq : ∀ j, j < k → hv (l.getD j 0).toNat < 16) : ((acc l k).getD (k / 2) 0).toNat < 16 := by
  rw [acc_at _ _ _ (by omega)]
  rw [if_neg (by omega)]
  split
  · have h1 := hq (2 * (k / 2)) (by omega)
    rw [UInt8.toNat_ofNat', Nat.mod_eq_of_lt (by omega)]; exact h1
  · simp

/-- Do these signs say a digest? -/
def says (l : List UInt8) : Bool := decide (l.length = 64) && (List.range 64).all fun j => decide (hv (l.getD j 0).toNat < 16)
theorem says_iff (l : List UInt8) : says l = true ↔ l.length = 64 ∧ ∀ j, j < 64 → hv (l.getD j 0).toNat < 16 := by
  unfold says
  rw [Bool.and_eq_true, decide_eq_true_eq, List.all_eq_true]
  simp only [decide_eq_true_eq, List.mem_range]
theorem says_no (l : List UInt8) (j : Nat) (hj : j < 64) (h : 16 ≤ hv (l.getD j 0).toNat) : says l = false := by
  rw [← Bool.not_eq_true, says_iff]
  rintro ⟨_, h2⟩
  have := h2 j hj
  omega
def parseV (l : List UInt8) : Value := .tuple #[bagg (if says l then acc l 64 else List.replicate 32 0), .int .i64 (if says l then 0 else 130)]
theorem parseV_no (l : List UInt8) (h : says l = false) : parseV l = .tuple #[.agg zero24, .int .i64 130] := by unfold parseV; rw [h]; rfl
theorem parseV_yes (l : List UInt8) (h : says l = true) : parseV l = .tuple #[bagg (acc l 64), .int .i64 0] := by unfold parseV; rw [h]; rfl

theorem byte_at (s : ByteArray) (k : Nat) (h : k < s.size) : s.data.toList.getD k 0 = s[k]'h := by
  have h' : k < s.data.size := h
  rw [List.getD_eq_getElem?_getD, Array.getElem?_toList, Array.getElem?_eq_getElem h']
  rfl
theorem says_size (s : ByteArray) (h : s.size ≠ 64) : says s.data.toList = false := by
  rw [← Bool.not_eq_true, says_iff]
  rintro ⟨h1, _⟩
  exact h (by simpa using h1)

set_option maxRecDepth 100000 in
set_option maxHeartbeats 1000000 in
theorem parse_long (s : ByteArray) (h64 : s.size ≠ 64) (w : World) :
    Calls Try.prog 30 #[.string s] w fun e w' => e = .returned (.tuple #[.agg zero24, .int .i64 130]) ∧ Below w.heap.size w w' := by
  have hg : ((s.size : Int) == 64) = false := by simp; omega
  go_enter Try.func30, Try.ntmps30
  go_upto_region 3 with fail
  obtain ⟨w2, hw2, hbl, hb, hs⟩ := allocs_named w [.cells zero24 24]
  change Code.wp _ _ _ _ (List.foldl World.alloc w [.cells zero24 24])
  rw [hw2]
  have hZ : w2.heap[w.heap.size]? = some (.cells zero24 24 (0, 0)) := hbl 0
  have hs2 : w.heap.size < w2.heap.size := (Array.getElem?_eq_some_iff.1 hZ).1
  clear hw2 hbl hs
  go_step3
  go_wp2_with fail
  go_step3
  go_wp2_with fail
  obtain ⟨w3, hw3, hb3, hs3⟩ : ∃ w3 : World, (w2.alloc (Obj.cells zero24 24)) = w3 ∧ Below w2.heap.size w2 w3 ∧ w3.heap.size = w2.heap.size + 1 := ⟨_, rfl, (Below.refl _ _).alloc (Nat.le_refl _) _, by simp⟩
  change Code.wp _ _ _ _ (World.iter (w2.alloc (Obj.cells zero24 24)) _ 0)
  rw [hw3]
  have hZ3 := (hb3.block _ hs2).trans hZ
  have hb3' := hb.trans (hb3.mono hb.size)
  have hw23 : w.heap.size < w3.heap.size := by omega
  clear hw3 hb3 hZ hb hs2
  rw [← hs3]
  clear hs3
  by_cases h0 : 0 < s.size
  · have hnx := fun ty => run_next_any (P := Try.prog) w3 s 0 ty h0
    have hZ4 : ∀ n, (w3.iter s n).heap[w.heap.size]? = some (.cells zero24 24 (0, 0)) := fun n => (Below.heap_alloc w3 _ _ hw23).trans hZ3
    have hb4 : ∀ n, Below w.heap.size w (w3.iter s n) := fun n => hb3'.alloc (by omega) _
    clear hZ3 hb3'
    generalize (Utf8.decode s 0).2 = n0 at *
    generalize ((Utf8.decode s 0).1 : Int) = c0 at *
    have hZ5 := hZ4 n0
    have hb5 := hb4 n0
    clear hZ4 hb4
    go_loopw [5] (fun g wr => g = .bool false ∧ wr = w3.iter s 0) (fun _ _ => 0)
    case atStart => exact ⟨rfl, rfl⟩
    case round =>
      obtain ⟨rfl, rfl⟩ := hrel
      go_wp2_with (first
        | (refine wpList_build rfl 24 _ rfl (by kernel_rfl) ?_; rw [show (Option.getD (Try.prog.built 24 _) #[]) = zero24 from by kernel_rfl])
        | (refine wpList_store_row rfl 24 (.tmp 2) (.tmp 55) rfl w.heap.size 24 zero24 zero24 rfl rfl hZ5 zero24_info rfl zero24_one ?_))
      rw [Exit.noGoto_ret]
      refine bodyPost_ret (results_cell_tmp (d := .array 32 5) rfl _ _ w.heap.size 24 _ (0, 0) rfl (setRow_heap _ _ _ _ _ _ hZ5) (by kernel_rfl) rfl zero24_info) rfl ⟨rfl, below_setRow' hb5 (by omega) _⟩
  · have hnx := fun ty => run_next_end (P := Try.prog) w3 s 0 ty (by omega)
    have hZ5 : (w3.iter s 0).heap[w.heap.size]? = some (.cells zero24 24 (0, 0)) := (Below.heap_alloc w3 _ _ hw23).trans hZ3
    have hb5 : Below w.heap.size w (w3.iter s 0) := hb3'.alloc (by omega) _
    clear hZ3 hb3'
    go_loopw [5] (fun g wr => g = .bool false ∧ wr = w3.iter s 0) (fun _ _ => 0)
    case atStart => exact ⟨rfl, rfl⟩
    case round =>
      obtain ⟨rfl, rfl⟩ := hrel
      go_wp2_with (first
        | (refine wpList_build rfl 24 _ rfl (by kernel_rfl) ?_; rw [show (Option.getD (Try.prog.built 24 _) #[]) = zero24 from by kernel_rfl])
        | (refine wpList_store_row rfl 24 (.tmp 2) (.tmp 55) rfl w.heap.size 24 zero24 zero24 rfl rfl hZ5 zero24_info rfl zero24_one ?_))
      rw [Exit.noGoto_ret]
      refine bodyPost_ret (results_cell_tmp (d := .array 32 5) rfl _ _ w.heap.size 24 _ (0, 0) rfl (setRow_heap _ _ _ _ _ _ hZ5) (by kernel_rfl) rfl zero24_info) rfl ⟨rfl, below_setRow' hb5 (by omega) _⟩

theorem shl_or (x n : Nat) (hx : x < 16) (hn : n < 16) : bits BinOp.or IntKind.u8 ((x : Int) * 16) (n : Int) = ((UInt8.ofNat (16 * x + n)).toNat : Int) := by
  have : x = 0 ∨ x = 1 ∨ x = 2 ∨ x = 3 ∨ x = 4 ∨ x = 5 ∨ x = 6 ∨ x = 7 ∨ x = 8 ∨ x = 9 ∨ x = 10 ∨ x = 11 ∨ x = 12 ∨ x = 13 ∨ x = 14 ∨ x = 15 := by omega
  have : n = 0 ∨ n = 1 ∨ n = 2 ∨ n = 3 ∨ n = 4 ∨ n = 5 ∨ n = 6 ∨ n = 7 ∨ n = 8 ∨ n = 9 ∨ n = 10 ∨ n = 11 ∨ n = 12 ∨ n = 13 ∨ n = 14 ∨ n = 15 := by omega
  have key : ∀ a : Fin 16, ∀ b : Fin 16, bits BinOp.or IntKind.u8 ((a.val : Int) * 16) (b.val : Int) = ((UInt8.ofNat (16 * a.val + b.val)).toNat : Int) := by decide +kernel
  exact key ⟨x, hx⟩ ⟨n, hn⟩

theorem parse_rel {w w5 : World} {C k : Nat} {s : ByteArray} {c y : UInt8} (n : Int) (hw : w.heap.size < C) (hn : n = (hv c.toNat : Nat)) (hc : hv c.toNat < 16) (hlt : k < 64)
    (Hst : Hid ((acc s.data.toList k).set (k / 2) (UInt8.ofNat (16 * y.toNat + hv c.toNat)) = acc s.data.toList (k + 1))) (hsm : y.toNat < 16) (Hc : Hid (s.data.toList.getD k 0 = c)) (Hq : Hid (∀ j, j < k → hv (s.data.toList.getD j 0).toNat < 16))
    (hC2 : w5.heap[C]? = some (.cells ((acc s.data.toList k).map bv).toArray 24 (0, 0))) (hZ2 : w5.heap[w.heap.size]? = some (.cells zero24 24 (0, 0))) (hI2 : w5.heap[C + 1]? = some (.stringIter s (k + 1))) (hb2 : Below w.heap.size w w5) :
    ∃ k', k' ≤ 64 ∧ (∀ j, j < k' → hv (s.data.toList.getD j 0).toNat < 16) ∧ Below w.heap.size w (w5.setCell ⟨C, k / 2, none⟩ (.int .u8 (bits .or .u8 (y.toNat * 16) n))) ∧
      (w5.setCell ⟨C, k / 2, none⟩ (.int .u8 (bits .or .u8 (y.toNat * 16) n))).heap[w.heap.size]? = some (.cells zero24 24 (0, 0)) ∧
      (w5.setCell ⟨C, k / 2, none⟩ (.int .u8 (bits .or .u8 (y.toNat * 16) n))).heap[C]? = some (.cells ((acc s.data.toList k').map bv).toArray 24 (0, 0)) ∧
      (w5.setCell ⟨C, k / 2, none⟩ (.int .u8 (bits .or .u8 (y.toNat * 16) n))).heap[C + 1]? = some (.stringIter s k') := by
  subst hn
  rw [shl_or _ _ hsm hc]
  refine ⟨k + 1, by omega, fun j hj => ?_, hb2.setCell (by show _ ≤ C; omega) _, by rw [heap_setCell_other _ _ _ _ (by show w.heap.size ≠ C; omega)]; exact hZ2, ?_, by rw [heap_setCell_other _ _ _ _ (by show C + 1 ≠ C; omega)]; exact hI2⟩
  · rcases Nat.lt_succ_iff_lt_or_eq.1 hj with h1 | rfl
    · exact Hq.out j h1
    · rw [Hc.out]; exact hc
  · rw [← Hst.out, ← setLb]
    exact heap_setCell_same w5 C (k / 2) _ _ _ hC2
theorem parse_meas {wr w5 : World} {C k : Nat} {s : ByteArray} {v : Value} (hlt : k < 64) (hI : wr.iterPos (C + 1) = k) (hI2 : w5.heap[C + 1]? = some (.stringIter s (k + 1))) :
    64 - (w5.setCell ⟨C, k / 2, none⟩ v).iterPos (C + 1) < 64 - wr.iterPos (C + 1) := by
  have h : (w5.setCell ⟨C, k / 2, none⟩ v).iterPos (C + 1) = k + 1 := by
    unfold World.iterPos
    rw [heap_setCell_other _ _ _ _ (by show C + 1 ≠ C; omega), hI2]
  omega

set_option maxRecDepth 100000 in
set_option maxHeartbeats 1000000 in
theorem parse_full (s : ByteArray) (h64 : s.size = 64) (w : World) :
    Calls Try.prog 30 #[.string s] w fun e w' => e = .returned (parseV s.data.toList) ∧ Below w.heap.size w w' := by
  have hg : ((s.size : Int) == 64) = true := by simp; omega
  have H64 := Lib.hid h64
  go_enter Try.func30, Try.ntmps30
  go_upto_region 3 with fail
  obtain ⟨w2, hw2, hbl, hb, hs⟩ := allocs_named w [.cells zero24 24]
  change Code.wp _ _ _ _ (List.foldl World.alloc w [.cells zero24 24])
  rw [hw2]
  have hZ : w2.heap[w.heap.size]? = some (.cells zero24 24 (0, 0)) := hbl 0
  have hs2 : w.heap.size < w2.heap.size := (Array.getElem?_eq_some_iff.1 hZ).1
  clear hw2 hbl hs
  go_step3
  go_wp2_with fail
  go_step3
  go_wp2_with fail
  obtain ⟨w3, hw3, hb3, hs3, hC⟩ : ∃ w3 : World, (w2.alloc (Obj.cells zero24 24)) = w3 ∧ Below w2.heap.size w2 w3 ∧ w3.heap.size = w2.heap.size + 1 ∧ w3.heap[w2.heap.size]? = some (.cells zero24 24 (0, 0)) := ⟨_, rfl, (Below.refl _ _).alloc (Nat.le_refl _) _, by simp, heap_alloc_new w2 _⟩
  change Code.wp _ _ _ _ (World.iter (w2.alloc (Obj.cells zero24 24)) _ 0)
  rw [hw3]
  have hZ3 := (hb3.block _ hs2).trans hZ
  have hb3' := hb.trans (hb3.mono hb.size)
  have hI := World.iter_heap w3 s 0
  have hZ4 : (w3.iter s 0).heap[w.heap.size]? = some (.cells zero24 24 (0, 0)) := (Below.heap_alloc w3 _ _ (by omega)).trans hZ3
  have hC4 : (w3.iter s 0).heap[w2.heap.size]? = some (.cells zero24 24 (0, 0)) := (Below.heap_alloc w3 _ _ (by omega)).trans hC
  have hb4 : Below w.heap.size w (w3.iter s 0) := hb3'.alloc (by omega) _
  rw [hs3] at hI
  clear hw3 hb3 hZ hb hZ3 hb3' hC hs3
  generalize w3.iter s 0 = w4 at *
  clear w3
  obtain ⟨C, hCe⟩ : ∃ C, C = w2.heap.size := ⟨_, rfl⟩
  rw [← hCe] at hI hC4 hs2 ⊢
  clear hCe w2
  rw [acc_zero s.data.toList] at hC4
  go_loopw [5] (fun g wr => g = .bool true ∧ ∃ k, k ≤ 64 ∧ (∀ j, j < k → hv (s.data.toList.getD j 0).toNat < 16) ∧ Below w.heap.size w wr ∧ wr.heap[w.heap.size]? = some (.cells zero24 24 (0, 0)) ∧
    wr.heap[C]? = some (.cells ((acc s.data.toList k).map bv).toArray 24 (0, 0)) ∧ wr.heap[C + 1]? = some (.stringIter s k)) (fun _ wr => 64 - wr.iterPos (C + 1))
  case atStart => exact ⟨rfl, 0, by omega, fun j hj => by omega, hb4, hZ4, hC4, hI⟩
  case round =>
    clear hb4 hZ4 hC4 hI
    obtain ⟨rfl, k, hk, hq, hb, hZ, hC, hI⟩ := hrel
    by_cases hlt : k < 64
    · have hks : k < s.size := by omega
      have hby := byte_at s k hks
      have hsm := acc_small' s.data.toList k hlt hq
      have Hst := Lib.hid (acc_step s.data.toList k hlt)
      have Hq := Lib.hid hq
      clear hq
      by_cases ha : (s[k]'hks).toNat < 128
      · have hnx := fun ty => Lib.run_next_ascii_at (P := Try.prog) wr (C + 1) s k ty hI hks ha
        have hI2 := Lib.iterAt_heap wr (C + 1) s k (k + 1) hI
        have hC2 : (wr.iterAt (C + 1) s (k + 1)).heap[C]? = some (.cells ((acc s.data.toList k).map bv).toArray 24 (0, 0)) := by
          simp only [World.iterAt]; rw [Array.getElem?_setIfInBounds_ne (by omega)]; exact hC
        have hZ2 : (wr.iterAt (C + 1) s (k + 1)).heap[w.heap.size]? = some (.cells zero24 24 (0, 0)) := by
          simp only [World.iterAt]; rw [Array.getElem?_setIfInBounds_ne (by omega)]; exact hZ
        have hb2 : Below w.heap.size w (wr.iterAt (C + 1) s (k + 1)) := hb.trans ⟨rfl, rfl, rfl, by simp [World.iterAt], fun j hj => by simp only [World.iterAt]; rw [Array.getElem?_setIfInBounds_ne (by omega)]⟩
        have Hp := Lib.hid (show wr.iterPos (C + 1) = k from by unfold World.iterPos; rw [hI])
        clear hb hZ hC hI
        have e0 : (wr.iterAt (C + 1) s (k + 1)).cell? ⟨C, k / 2, none⟩ = some (bv ((acc s.data.toList k).getD (k / 2) 0)) := by
          rw [cell_of_row _ _ _ _ _ _ hC2, getb _ _ (by rw [acc_length]; omega)]
        have f0 : (wr.iterAt (C + 1) s (k + 1)).frozen? ⟨C, k / 2, none⟩ = false := frozen_of_row _ _ _ _ _ hC2
        generalize wr.iterAt (C + 1) s (k + 1) = w5 at *
        rw [hby] at Hst
        generalize (acc s.data.toList k).getD (k / 2) 0 = y at *
        have Hc := Lib.hid hby
        clear hby
        generalize s[k]'hks = c at *
        by_cases hd : 48 ≤ c.toNat ∧ c.toNat ≤ 57
        · have hcv := Lib.hid (show hv c.toNat = c.toNat - 48 from by unfold hv; rw [if_pos hd])
          obtain ⟨d1, d2⟩ := hd
          have e1 : decide ((48 : Int) ≤ (c.toNat : Int)) = true := by simp; omega
          have e2 : decide ((c.toNat : Int) ≤ 57) = true := by simp; omega
          go_wp2_with fail
          go_roundw
          case rel => exact ⟨rfl, parse_rel _ hs2 (by rw [hcv.out]; omega) (by rw [hcv.out]; omega) hlt Hst hsm Hc Hq hC2 hZ2 hI2 hb2⟩
          case measure => exact parse_meas hlt Hp.out hI2
        · by_cases hl : 97 ≤ c.toNat ∧ c.toNat ≤ 102
          · have hcv := Lib.hid (show hv c.toNat = c.toNat - 87 from by unfold hv; rw [if_neg hd, if_pos hl])
            obtain ⟨d1, d2⟩ := hl
            have e1 : decide ((48 : Int) ≤ (c.toNat : Int)) = true := by simp; omega
            have e2 : decide ((c.toNat : Int) ≤ 57) = false := by simp; omega
            have e3 : decide ((97 : Int) ≤ (c.toNat : Int)) = true := by simp; omega
            have e4 : decide ((c.toNat : Int) ≤ 102) = true := by simp; omega
            clear hd
            go_wp2_with fail
            go_roundw
            case rel => exact ⟨rfl, parse_rel _ hs2 (by rw [hcv.out]; omega) (by rw [hcv.out]; omega) hlt Hst hsm Hc Hq hC2 hZ2 hI2 hb2⟩
            case measure => exact parse_meas hlt Hp.out hI2
          · have hno : says s.data.toList = false := says_no _ k hlt (by rw [Hc.out]; unfold hv; rw [if_neg hd, if_neg hl]; omega)
            have Hno := Lib.hid hno
            clear hno
            obtain ⟨b1, e1, e1'⟩ : ∃ b1 : Bool, decide ((48 : Int) ≤ (c.toNat : Int)) = b1 ∧ (b1 = true → decide ((c.toNat : Int) ≤ 57) = false) := ⟨_, rfl, fun h => by simp at h ⊢; omega⟩
            obtain ⟨b2, e2, e2'⟩ : ∃ b1 : Bool, decide ((97 : Int) ≤ (c.toNat : Int)) = b1 ∧ (b1 = true → decide ((c.toNat : Int) ≤ 102) = false) := ⟨_, rfl, fun h => by simp at h ⊢; omega⟩
            clear hd hl
            cases b1
            all_goals cases b2
            all_goals simp only [forall_const, reduceCtorEq, false_implies] at e1' e2'
            all_goals go_wp2_with (first
              | (refine wpList_build rfl 24 _ rfl (by kernel_rfl) ?_; rw [show (Option.getD (Try.prog.built 24 _) #[]) = zero24 from by kernel_rfl])
              | (refine wpList_store_row rfl 24 (.tmp 2) (.tmp 55) rfl w.heap.size 24 zero24 zero24 rfl rfl hZ2 zero24_info rfl zero24_one ?_))
            all_goals rw [Exit.noGoto_ret]
            all_goals refine bodyPost_ret (results_cell_tmp (d := .array 32 5) rfl _ _ w.heap.size 24 _ (0, 0) rfl (setRow_heap _ _ _ _ _ _ hZ2) (by kernel_rfl) rfl zero24_info) rfl ⟨by rw [parseV_no _ Hno.out]; rfl, below_setRow' hb2 (by omega) _⟩
      · have hh := decode_high s k hks (by omega)
        have hnx := fun ty => Lib.run_next_any_at (P := Try.prog) wr (C + 1) s k ty hI hks
        have Hno : Hid (says s.data.toList = false) := Lib.hid (says_no _ k hlt (by rw [hby]; unfold hv; rw [if_neg (by omega), if_neg (by omega)]; omega))
        have hZ2 : (wr.iterAt (C + 1) s (k + (Utf8.decode s k).2)).heap[w.heap.size]? = some (.cells zero24 24 (0, 0)) := by
          simp only [World.iterAt]; rw [Array.getElem?_setIfInBounds_ne (by omega)]; exact hZ
        have hb2 : Below w.heap.size w (wr.iterAt (C + 1) s (k + (Utf8.decode s k).2)) := hb.trans ⟨rfl, rfl, rfl, by simp [World.iterAt], fun j hj => by simp only [World.iterAt]; rw [Array.getElem?_setIfInBounds_ne (by omega)]⟩
        generalize wr.iterAt (C + 1) s (k + (Utf8.decode s k).2) = w5 at *
        have e1 : decide ((48 : Int) ≤ ((Utf8.decode s k).1 : Int)) = true := by simp; omega
        have e2 : decide (((Utf8.decode s k).1 : Int) ≤ 57) = false := by simp; omega
        have e3 : decide ((97 : Int) ≤ ((Utf8.decode s k).1 : Int)) = true := by simp; omega
        have e4 : decide (((Utf8.decode s k).1 : Int) ≤ 102) = false := by simp; omega
        clear hb hZ hC hI hby hsm Hst Hq ha hh
        generalize (Utf8.decode s k).1 = c0 at *
        go_wp2_with (first
          | (refine wpList_build rfl 24 _ rfl (by kernel_rfl) ?_; rw [show (Option.getD (Try.prog.built 24 _) #[]) = zero24 from by kernel_rfl])
          | (refine wpList_store_row rfl 24 (.tmp 2) (.tmp 55) rfl w.heap.size 24 zero24 zero24 rfl rfl hZ2 zero24_info rfl zero24_one ?_))
        rw [Exit.noGoto_ret]
        refine bodyPost_ret (results_cell_tmp (d := .array 32 5) rfl _ _ w.heap.size 24 _ (0, 0) rfl (setRow_heap _ _ _ _ _ _ hZ2) (by kernel_rfl) rfl zero24_info) rfl ⟨by rw [parseV_no _ Hno.out]; rfl, below_setRow' hb2 (by omega) _⟩
    · obtain rfl : k = 64 := by omega
      have hy : says s.data.toList = true := (says_iff _).2 ⟨by simpa using h64, hq⟩
      have Hy := Lib.hid hy
      have hnx := fun ty => Lib.run_next_end_at (P := Try.prog) wr (C + 1) s 64 ty hI (by omega)
      clear hq hy
      have hI := acc_length s.data.toList 64
      have HA := Lib.hid (show parseV s.data.toList = .tuple #[bagg (acc s.data.toList 64), .int .i64 0] from parseV_yes _ Hy.out)
      generalize acc s.data.toList 64 = id at *
      go_wp2_with (first
        | (refine wpList_load_row rfl 24 (.tmp 4) rfl C rfl 24 _ (0, 0) (.array 32 5) hC (by kernel_rfl) rfl (id_info id hI) ?_)
        | (refine wpList_store_row rfl 24 (.tmp 2) (.tmp 56) rfl w.heap.size 24 zero24 (id.map bv).toArray rfl rfl hZ (id_info id hI) (id_size id hI).symm (id_one id) ?_))
      rw [Exit.noGoto_ret]
      refine bodyPost_ret (results_cell_tmp (d := .array 32 5) rfl _ _ w.heap.size 24 _ (0, 0) rfl (setRow_heap _ _ _ _ _ _ hZ) (by kernel_rfl) rfl (id_info id hI)) rfl ⟨by rw [HA.out]; rfl, below_setRow' hb (by omega) _⟩

theorem parse_any (s : ByteArray) (w : World) :
    Calls Try.prog 30 #[.string s] w fun e w' => e = .returned (parseV s.data.toList) ∧ Below w.heap.size w w' := by
  by_cases h : s.size = 64
  · exact parse_full s h w
  · rw [parseV_no _ (says_size s h)]; exact parse_long s h w
end Go.Proofs.Ytcfkapoppmpehaa
