/-
  What calls of the definition's Sign, Text, Less and Parse give.
-/
import Derived.Test.YtcfkapoppmpehaaParse
namespace Go.Proofs.Ytcfkapoppmpehaa
open Go.RowKit

/-- The slice value v is a row of these bytes of the call's own. -/
def OwnB (w : World) (base : Nat) (v : Value) (bs : List UInt8) : Prop := w.ownsRow base 5 1 v bs.length (bs.map bv)
theorem OwnB.rd {w : World} {base : Nat} {v : Value} {bs : List UInt8} (h : OwnB w base v bs) : RdB w v bs := ownsRow_rd h
theorem OwnB.nil (w : World) (base : Nat) : OwnB w base (.slice none 0 0) [] := ⟨rfl, .inl ⟨rfl, rfl⟩⟩
theorem OwnB.alloc {w : World} {base : Nat} {v : Value} {bs : List UInt8} (h : OwnB w base v bs) (o : Obj) : OwnB (w.alloc o) base v bs := World.ownsRow.alloc (w := w) h o
theorem OwnB.below {w w' : World} {base : Nat} {v : Value} {bs : List UInt8} (h : OwnB w base v bs) (hb : Below w.heap.size w w') : OwnB w' base v bs := by
  rcases h with ⟨h1, h2 | ⟨g, cap, cur, hv, hbg, hg, hrest⟩⟩
  · exact ⟨h1, .inl h2⟩
  · exact ⟨h1, .inr ⟨g, cap, cur, hv, hbg, (hb.block _ (Array.getElem?_eq_some_iff.1 hg).1).trans hg, hrest⟩⟩
/-- append onto a row of bytes of the call's own. -/
theorem wpList_append_own' {ops : Array Oper} {rest : List Oper} {o : Oper} {a : Act} {w : World} {Q : Exit → Act → World → Prop} (hgd : o.guard = none) (s x : Operand)
    (ho : o.op = .call { callee := .builtin .append, args := #[s, x], argTypes := #[42, 42] }) (base : Nat) (v : Value) (bs : List UInt8) (hs : a.eval s = v) (hown : OwnB w base v bs)
    (ad : Addr) (m c : Nat) (ns : List UInt8) (hx : a.eval x = .slice (some ad) m c) (hm : ns.length = m) (hnews : ∀ j, j < ns.length → w.cell? (ad.add j) = some (bv (ns.getD j 0))) (hsmall : bs.length + m ≤ 100000)
    (w0 : World) (hb : Below base w0 w) (hbase : base ≤ w.heap.size)
    (h : ∀ v' w', OwnB w' base v' (bs ++ ns) → Below base w0 w' → wpList Try.prog ops Q rest (a.put o.dst v') w') : wpList Try.prog ops Q (o :: rest) a w :=
  wpList_append_bytes hgd s x ho base v bs hs hown ad m c ns hx hm hnews hsmall w0 hb hbase fun v' w' h1 h2 => h v' w' h1 h2

theorem sign_same (z : Int) (n : Nat) (hz : z = n) (hn : n < 16) (w : World) :
    Calls Try.prog 86 #[.int .u8 z] w fun e w' => e = .returned (bv (sg n)) ∧ w = w' := by
  subst hz
  by_cases h : n < 10
  · have h1 : decide ((n : Int) < 10) = true := by simp; omega
    have hs : bv (sg n) = .int .u8 (48 + n) := by
      unfold sg; rw [if_pos h]; show Value.int .u8 _ = _
      rw [UInt8.toNat_ofNat', Nat.mod_eq_of_lt (by omega)]; congr 1
    rw [hs]
    clear hs
    go_enter Try.func86, Try.ntmps86
    go_wp2
    go_ret
    exact ⟨rfl, rfl⟩
  · have h1 : decide ((n : Int) < 10) = false := by simp; omega
    have hs : bv (sg n) = .int .u8 (97 + n - 10) := by
      unfold sg; rw [if_neg h]; show Value.int .u8 _ = _
      rw [UInt8.toNat_ofNat', Nat.mod_eq_of_lt (by omega)]; congr 1; omega
    rw [hs]
    clear hs
    go_enter Try.func86, Try.ntmps86
    go_wp2
    go_ret
    exact ⟨rfl, rfl⟩
theorem sign_any (z : Int) (n : Nat) (hz : z = n) (hn : n < 16) (w : World) :
    Calls Try.prog 86 #[.int .u8 z] w fun e w' => e = .returned (bv (sg n)) ∧ Below w.heap.size w w' :=
  (sign_same z n hz hn w).mono fun _ _ ⟨h, h'⟩ => ⟨h, h' ▸ Below.refl _ _⟩

set_option maxRecDepth 100000 in
set_option maxHeartbeats 400000 in
theorem reftext_any (x : List UInt8) (hx : x.length = 32) (w : World) :
    Calls Try.prog 33 #[bagg x] w fun e w' => e = .returned (.string ⟨(hexS x).toArray⟩) ∧ Below w.heap.size w w' := by
  go_enter Try.func33, Try.ntmps33
  go_upto_region 2 with fail
  obtain ⟨w2, hw2, hbl, hb, hs⟩ := allocs_named w [.cells (x.map bv).toArray 24]
  change Code.wp _ _ _ _ (List.foldl World.alloc w [.cells (x.map bv).toArray 24])
  rw [hw2]
  have hX : w2.heap[w.heap.size]? = _ := hbl 0
  have hown := OwnB.nil w2 (w.heap.size + 1)
  have hs2 : w.heap.size + 1 ≤ w2.heap.size := by simp at hs; omega
  clear hw2 hbl hs
  go_wp2_with (refine wpList_load_row rfl 24 (.tmp 1) rfl w.heap.size rfl 24 _ (0, 0) (.array 32 5) hX (by kernel_rfl) rfl (id_info x hx) ?_)
  go_loopw [3, 7] (fun v i wr => ∃ k : Nat, k ≤ 32 ∧ i = .int .i64 k ∧ OwnB wr (w.heap.size + 1) v (hexS (x.take k)) ∧ Below w.heap.size w wr ∧ w.heap.size + 1 ≤ wr.heap.size) (fun _ i _ => 32 - (intOf i).toNat)
  case atStart => exact ⟨0, by omega, rfl, hown, hb, hs2⟩
  case round =>
    clear hown hb hs2 hX
    obtain ⟨k, hk, rfl, hown, hbr, hsB⟩ := hrel
    by_cases hlt : k < 32
    · have g1 := fun w => run_index24 w x hx k hlt
      have Hnext := Lib.hid (hexS_take x k (by omega))
      have hhl : (hexS (x.take k)).length = 2 * k := by rw [hexS_length]; simp; omega
      generalize x.getD k 0 = c at *
      generalize hexS (x.take k) = hx1 at *
      have hc := c.toNat_lt
      go_wp2_with fail
      refine (sign_same _ (c.toNat / 16) (by omega) (by omega) _).mono ?_
      rintro e w' ⟨rfl, rfl⟩
      go_wp2_with fail
      refine (sign_same _ (c.toNat % 16) (by omega) (by omega) _).mono ?_
      rintro e w' ⟨rfl, rfl⟩
      have hnew : (wr.alloc (Obj.cells #[bv (sg (c.toNat / 16)), bv (sg (c.toNat % 16))] 5)).heap[wr.heap.size]? = some (.cells (([sg (c.toNat / 16), sg (c.toNat % 16)] : List UInt8).map bv).toArray 5 (0, 0)) := heap_alloc_new wr _
      have hown0 := OwnB.alloc (w := wr) hown (Obj.cells #[bv (sg (c.toNat / 16)), bv (sg (c.toNat % 16))] 5)
      have hb0 : Below (w.heap.size + 1) wr (wr.alloc (Obj.cells #[bv (sg (c.toNat / 16)), bv (sg (c.toNat % 16))] 5)) := (Below.refl _ wr).alloc hsB _
      go_wp2_with (refine wpList_append_own' rfl (.tmp 10) (.tmp 17) rfl (w.heap.size + 1) _ hx1 rfl hown0 ⟨wr.heap.size, 0, none⟩ 2 2 [sg (c.toNat / 16), sg (c.toNat % 16)] rfl rfl (fun j hj => cells_row _ hnew j hj) (by omega) wr hb0 (by simp; omega) ?_)
      intro v1 w4 hown1 hb1
      have hown2 := hown1
      rw [← Hnext.out] at hown2
      clear hown1 hnew hown0 hb0 Hnext hown
      go_wp2_with fail
      go_roundw
      case rel => exact ⟨k + 1, by omega, by go_num, hown2, hbr.trans (hb1.mono (by omega)), by have := hb1.size; omega⟩
      case measure => simp [intOf]; omega
    · obtain rfl : k = 32 := by omega
      have hxt : x.take 32 = x := List.take_of_length_le (by omega)
      rw [hxt] at hown
      have hrd := hown.rd
      have hcv : (convert 42 9 u3).run Try.prog wr = .ok (.string ⟨(hexS x).toArray⟩) wr := by
        obtain ⟨a0, cap, rfl, hc, hr⟩ := hrd
        have hl : (hexS x).length = 64 := by rw [hexS_length, hx]
        obtain ⟨b, o, rfl, hj⟩ := hr (by omega)
        exact run_convert_bytes_back wr 42 9 5 ⟨b, o, none⟩ cap (hexS x) (by kernel_rfl) (by kernel_rfl) (by kernel_rfl) (fun j h => by rw [Addr.add_mid, hj j h]; simp [h])
      clear hown hrd hxt
      generalize hh : hexS x = hs at *
      have Hh := Lib.hid hh
      clear hh
      go_wp2_with fail
      go_ret
      exact ⟨ret_val (by rw [Hh.out]; rfl), hbr⟩

set_option maxRecDepth 100000 in
set_option maxHeartbeats 400000 in
theorem refless_any (x y : List UInt8) (hx : x.length = 32) (hy : y.length = 32) (w : World) :
    Calls Try.prog 35 #[bagg x, bagg y] w fun e w' => e = .returned (.bool (lessB x y)) ∧ Below w.heap.size w w' := by
  go_enter Try.func35, Try.ntmps35
  obtain ⟨w2, hw2, hbl, hb, hs⟩ := allocs_named w [.cells (x.map bv).toArray 24, .cells (y.map bv).toArray 24]
  go_upto_region 1 with fail
  change Code.wp _ _ _ _ (List.foldl World.alloc w [.cells (x.map bv).toArray 24, .cells (y.map bv).toArray 24])
  rw [hw2]
  have hX : w2.heap[w.heap.size]? = some (.cells (x.map bv).toArray 24 (0, 0)) := hbl 0
  have hY : w2.heap[w.heap.size + 1]? = some (.cells (y.map bv).toArray 24 (0, 0)) := hbl 1
  clear hw2 hbl hs
  go_wp2_with fail
  go_loopw [5] (fun i wr => ∃ k : Nat, k ≤ 31 ∧ i = .int .i64 k ∧ Below w.heap.size w wr ∧ wr.heap[w.heap.size]? = some (.cells (x.map bv).toArray 24 (0, 0)) ∧ wr.heap[w.heap.size + 1]? = some (.cells (y.map bv).toArray 24 (0, 0)) ∧ ∀ j, j < k → x.getD j 0 = y.getD j 0) (fun i _ => 31 - (intOf i).toNat)
  case atStart => exact ⟨0, by omega, rfl, hb, hX, hY, fun j hj => by omega⟩
  case round =>
    clear hb hX hY w2
    obtain ⟨k, hk, rfl, hb, hX, hY, hq⟩ := hrel
    have Hnext : x.getD k 0 = y.getD k 0 → ∀ j, j < k + 1 → x.getD j 0 = y.getD j 0 := fun h j hj => by
      rcases Nat.lt_succ_iff_lt_or_eq.1 hj with h1 | rfl
      · exact hq j h1
      · exact h
    have Hbad := Lib.hid (lessB_same x y k (by omega) (by omega) hq)
    have Hend : k = 31 → x.getD k 0 = y.getD k 0 → lessB x y = false := fun e h => by
      subst e
      have : x = y := ext_getD (by omega) fun i hi => Hnext h i (by omega)
      rw [this, lessB_eq]
    have Hend := Lib.hid Hend
    have Hnext := Lib.hid Hnext
    have c1 := gro_cell (show wr.cell? ⟨w.heap.size, k, none⟩ = some (bv (x.getD k 0)) from by rw [cell_of_row _ _ _ _ _ _ hX, getb _ _ (by omega)])
    have c2 := gro_cell (show wr.cell? ⟨w.heap.size + 1, k, none⟩ = some (bv (y.getD k 0)) from by rw [cell_of_row _ _ _ _ _ _ hY, getb _ _ (by omega)])
    have hbd : ∀ p, Below w.heap.size w (gro wr p) := fun p => hb.trans ((below_gro wr p).mono hb.size)
    clear hq
    generalize x.getD k 0 = a at *
    generalize y.getD k 0 = b at *
    by_cases hlt : k < 31
    · have hlt' : decide ((k : Int) < 31) = true := by simp; omega
      by_cases hab : a = b
      · have hne : ((a.toNat : Int) == (b.toNat : Int)) = true := by rw [hab]; simp
        have Hab := Lib.hid hab
        clear hab
        go_wp2_with fail
        refine wp_region_qgro rfl (by kernel_rfl) ?_
        repeat go_big_quiet_step (fail)
        refine wpQuiet_nil ?_
        rintro _ ⟨p, rfl⟩
        go_wp2_with fail
        go_roundw
        case rel => exact ⟨k + 1, by omega, by go_num, hbd p, gro_heap hX p, gro_heap hY p, Hnext.out Hab.out⟩
        case measure => simp [intOf]; omega
      · have hne : ((a.toNat : Int) == (b.toNat : Int)) = false := by
          rw [beq_eq_false_iff_ne]
          intro h
          exact hab (UInt8.toNat_inj.1 (by omega))
        go_wp2_with fail
        refine wp_region_qgro rfl (by kernel_rfl) ?_
        repeat go_big_quiet_step (fail)
        refine wpQuiet_nil ?_
        rintro _ ⟨p, rfl⟩
        go_wp2_with fail
        refine wp_region_qgro rfl (by kernel_rfl) ?_
        repeat go_big_quiet_step (fail)
        refine wpQuiet_nil ?_
        rintro _ ⟨p, rfl⟩
        go_wp2_with fail
        go_ret
        exact ⟨ret_val (by rw [Hbad.out hab]; simp), (hbd _).trans ((below_gro _ p).mono (hbd _).size)⟩
    · have hlt' : decide ((k : Int) < 31) = false := by simp; omega
      have Hfin : lessB x y = decide (a.toNat < b.toNat) := by
        by_cases hab : a = b
        · rw [Hend.out (by omega) hab, hab]; simp
        · exact Hbad.out hab
      have Hfin := Lib.hid Hfin
      go_wp2_with fail
      refine wp_region_qgro rfl (by kernel_rfl) ?_
      repeat go_big_quiet_step (fail)
      refine wpQuiet_nil ?_
      rintro _ ⟨p, rfl⟩
      go_wp2_with fail
      refine wp_region_qgro rfl (by kernel_rfl) ?_
      repeat go_big_quiet_step (fail)
      refine wpQuiet_nil ?_
      rintro _ ⟨p, rfl⟩
      go_wp2_with fail
      go_ret
      exact ⟨ret_val (by rw [Hfin.out]; simp), (hbd _).trans ((below_gro _ p).mono (hbd _).size)⟩

/-- The byte that two signs say; 256: they say none. -/
def two (a b : UInt8) : Nat := if hv a.toNat < 16 ∧ hv b.toNat < 16 then 16 * hv a.toNat + hv b.toNat else 256
theorem sg_hv (a : UInt8) (n : Nat) (hn : n < 16) : a = sg n ↔ hv a.toNat = n := by
  have key : ∀ n : Fin 16, ∀ b : Fin 256, decide (UInt8.ofNat b.val = sg n.val) = decide (hv b.val = n.val) := by decide +kernel
  have h := key ⟨n, hn⟩ ⟨a.toNat, a.toNat_lt⟩
  simp only [UInt8.ofNat_toNat] at h
  exact decide_eq_decide.1 h
theorem b_eq (a b : UInt8) (h : a = b) : ((a.toNat : Int) == (b.toNat : Int)) = true := by subst h; simp
theorem b_ne (a b : UInt8) (h : a ≠ b) : ((a.toNat : Int) == (b.toNat : Int)) = false := by
  rw [beq_eq_false_iff_ne]
  intro h'
  exact h (UInt8.toNat_inj.1 (by omega))
theorem ite_next (T n a b : Nat) (h : T ≠ n) : (if T < n then a else b) = (if T < n + 1 then a else b) := by
  by_cases h1 : T < n
  · rw [if_pos h1, if_pos (by omega)]
  · rw [if_neg h1, if_neg (by omega)]
theorem two_eq (a b : UInt8) (c : Nat) (hc : c < 256) : two a b = c ↔ a = sg (c / 16) ∧ b = sg (c % 16) := by
  rw [sg_hv a _ (by omega), sg_hv b _ (by omega)]
  unfold two
  split <;> omega
theorem acc_two (l : List UInt8) (i : Nat) (hi : i < 32) : (acc l (2 * i)).set i (UInt8.ofNat (16 * hv (l.getD (2 * i) 0).toNat + hv (l.getD (2 * i + 1) 0).toNat)) = acc l (2 * i + 2) := by
  have h1 := acc_step l (2 * i) (by omega)
  have h2 := acc_step l (2 * i + 1) (by omega)
  rw [show (2 * i) / 2 = i by omega] at h1
  rw [show (2 * i + 1) / 2 = i by omega] at h2
  rw [acc_at _ _ _ hi, if_neg (by omega), if_pos (by omega), UInt8.toNat_ofNat', Nat.mod_eq_of_lt (by have := hv_le (l.getD (2 * i) 0).toNat; omega), ← h1, List.set_set] at h2
  exact h2

/-- What the definition answers. -/
def refV (l : List UInt8) : Value := .tuple #[bagg (if says l then acc l 64 else List.replicate 32 0), .bool (says l)]
theorem refV_no (l : List UInt8) (h : says l = false) : refV l = .tuple #[.agg zero24, .bool false] := by unfold refV; rw [h]; rfl
theorem refV_yes (l : List UInt8) (h : says l = true) : refV l = .tuple #[bagg (acc l 64), .bool true] := by unfold refV; rw [h]; rfl

set_option maxRecDepth 100000 in
set_option maxHeartbeats 400000 in
theorem refparse_long (s : ByteArray) (h64 : s.size ≠ 64) (w : World) :
    Calls Try.prog 31 #[.string s] w fun e w' => e = .returned (.tuple #[.agg zero24, .bool false]) ∧ Below w.heap.size w w' := by
  have hg : ((s.size : Int) != 64) = true := by simp; omega
  go_enter Try.func31, Try.ntmps31
  go_upto_region 2 with fail
  obtain ⟨w2, hw2, hbl, hb, hs⟩ := allocs_named w [.cells zero24 24, .cells zero24 24]
  change Code.wp _ _ _ _ (List.foldl World.alloc w [.cells zero24 24, .cells zero24 24])
  rw [hw2]
  have hZ : w2.heap[w.heap.size]? = some (.cells zero24 24 (0, 0)) := hbl 0
  have hC : w2.heap[w.heap.size + 1]? = some (.cells zero24 24 (0, 0)) := hbl 1
  clear hw2 hbl hs
  go_wp2_with (first
    | (refine wpList_load_row rfl 24 (.tmp 4) rfl (w.heap.size + 1) rfl 24 _ (0, 0) (.array 32 5) hC (by kernel_rfl) rfl zero24_info ?_)
    | (refine wpList_store_row rfl 24 (.tmp 2) (.tmp 11) rfl w.heap.size 24 zero24 zero24 rfl rfl hZ zero24_info rfl zero24_one ?_))
  refine bodyPost_ret (results_cell_tmp (d := .array 32 5) rfl _ _ w.heap.size 24 _ (0, 0) rfl (setRow_heap _ _ _ _ _ _ hZ) (by kernel_rfl) rfl zero24_info) rfl ⟨rfl, below_setRow' hb (by omega) _⟩

theorem run_index_str (s : ByteArray) (k : Nat) (z : Int) (hz : z = k) (h : k < s.size) (w : World) : (Instr.index 9 (.string s) (.int .i64 z)).run Try.prog w = .ok (bv (s.data.toList.getD k 0)) w := by
  subst hz
  have hu : Try.prog.underlying 9 = some .string := by kernel_rfl
  rw [run_index_string w 9 _ .i64 k hu, dif_pos ⟨by omega, by omega⟩, byte_at s k h]
  rfl
set_option maxRecDepth 100000 in
set_option maxHeartbeats 1000000 in
theorem refparse_full (s : ByteArray) (h64 : s.size = 64) (w : World) :
    Calls Try.prog 31 #[.string s] w fun e w' => e = .returned (refV s.data.toList) ∧ Below w.heap.size w w' := by
  have hg : ((s.size : Int) != 64) = false := by simp; omega
  have hix : ∀ (k : Nat) (z : Int), z = k → k < 64 → ∀ w, _ := fun k z hz hk w => run_index_str s k z hz (show k < s.size by omega) w
  have hix := Lib.hid hix
  have hsz := Lib.hid (show s.data.toList.length = 64 from by simpa using h64)
  have H64 := Lib.hid h64
  clear h64
  go_enter Try.func31, Try.ntmps31
  go_upto_region 2 with fail
  obtain ⟨w2, hw2, hbl, hb, hs⟩ := allocs_named w [.cells zero24 24, .cells zero24 24]
  change Code.wp _ _ _ _ (List.foldl World.alloc w [.cells zero24 24, .cells zero24 24])
  rw [hw2]
  have hZ : w2.heap[w.heap.size]? = some (.cells zero24 24 (0, 0)) := hbl 0
  have hC : w2.heap[w.heap.size + 1]? = some (.cells zero24 24 (0, 0)) := hbl 1
  rw [acc_zero s.data.toList] at hC
  clear hw2 hbl hs
  obtain ⟨C, hCe⟩ : ∃ C, C = w.heap.size + 1 := ⟨_, rfl⟩
  rw [← hCe] at hC ⊢
  have hs2 : w.heap.size < C := by omega
  clear hCe
  go_wp2_with fail
  generalize hl : s.data.toList = l at *
  have Hl := Lib.hid hl
  clear hl
  go_loopw [12] (fun i wr => ∃ k : Nat, k ≤ 32 ∧ i = .int .i64 k ∧ (∀ j, j < 2 * k → hv (l.getD j 0).toNat < 16) ∧ Below w.heap.size w wr ∧ wr.heap[w.heap.size]? = some (.cells zero24 24 (0, 0)) ∧
    wr.heap[C]? = some (.cells ((acc l (2 * k)).map bv).toArray 24 (0, 0))) (fun i _ => 32 - (intOf i).toNat)
  case atStart => exact ⟨0, by omega, rfl, fun j hj => by omega, hb, hZ, hC⟩
  case round =>
    clear hb hZ hC w2
    obtain ⟨k, hk, rfl, hq, hb, hZ, hC⟩ := hrel
    by_cases hlt : k < 32
    · have HA := Lib.hid (acc_two l k hlt)
      have Hq := Lib.hid hq
      have i1 := hix.out (2 * k) (2 * k) (by omega) (by omega)
      have i2 := hix.out (2 * k + 1) (2 * k + 1) (by omega) (by omega)
      have Hno : ∀ T, two (l.getD (2 * k) 0) (l.getD (2 * k + 1) 0) = T → 256 ≤ T → says l = false := fun T hT h => by
        unfold two at hT
        split at hT
        · omega
        · by_cases h1 : hv (l.getD (2 * k) 0).toNat < 16
          · exact says_no l (2 * k + 1) (by omega) (by rename_i h2; have := Nat.not_lt.1 (fun h3 => h2 ⟨h1, h3⟩); exact this)
          · exact says_no l (2 * k) (by omega) (Nat.not_lt.1 h1)
      have Hyes : ∀ T, two (l.getD (2 * k) 0) (l.getD (2 * k + 1) 0) = T → T < 256 → (∀ j, j < 2 * (k + 1) → hv (l.getD j 0).toNat < 16) ∧ T = 16 * hv (l.getD (2 * k) 0).toNat + hv (l.getD (2 * k + 1) 0).toNat := fun T hT h => by
        unfold two at hT
        split at hT
        · refine ⟨fun j hj => ?_, hT.symm⟩
          by_cases h1 : j < 2 * k
          · exact hq j h1
          · by_cases h2 : j = 2 * k
            · subst h2; omega
            · obtain rfl : j = 2 * k + 1 := by omega
              omega
        · omega
      have hT := fun c hc => two_eq (l.getD (2 * k) 0) (l.getD (2 * k + 1) 0) c hc
      clear hq
      generalize hTe : two (l.getD (2 * k) 0) (l.getD (2 * k + 1) 0) = T at *
      have Hno := Lib.hid (Hno T rfl)
      have Hyes := Lib.hid (Hyes T rfl)
      generalize l.getD (2 * k) 0 = a at *
      generalize l.getD (2 * k + 1) 0 = b at *
      have HT := Lib.hid hT
      clear hT hTe
      go_wp2_with fail
      obtain ⟨wo, rfl⟩ : ∃ wo : World, wo = wr := ⟨_, rfl⟩
      go_loopw [6, 15] (fun m c w1 => ∃ n : Nat, n ≤ 256 ∧ c = .int .i64 n ∧ m = .bool (decide (T < n)) ∧ Below w.heap.size w w1 ∧ w1.heap[w.heap.size]? = some (.cells zero24 24 (0, 0)) ∧
        w1.heap[C]? = some (.cells ((acc l (if T < n then 2 * k + 2 else 2 * k)).map bv).toArray 24 (0, 0))) (fun _ c _ => 256 - (intOf c).toNat)
      case atStart => exact ⟨0, by omega, rfl, rfl, hb, hZ, hC⟩
      case round =>
        clear hb hZ hC
        obtain ⟨n, hn, rfl, rfl, hb, hZ, hC⟩ := hrel
        by_cases hn2 : n < 256
        · have e0 := gro_cell (show wr.cell? ⟨C, k, none⟩ = some (bv ((acc l (if T < n then 2 * k + 2 else 2 * k)).getD k 0)) from by rw [cell_of_row _ _ _ _ _ _ hC, getb _ _ (by rw [acc_length]; omega)])
          have f0 := gro_free (show wr.cell? ⟨C, k, none⟩ = some (bv ((acc l (if T < n then 2 * k + 2 else 2 * k)).getD k 0)) from by rw [cell_of_row _ _ _ _ _ _ hC, getb _ _ (by rw [acc_length]; omega)]) (frozen_of_row wr C k _ _ hC)
          generalize (acc l (if T < n then 2 * k + 2 else 2 * k)).getD k 0 = y at *
          by_cases hTn : T = n
          · obtain ⟨ha, hb2⟩ := (HT.out n hn2).1 hTn
            have h1 := b_eq _ _ ha
            have h2 := b_eq _ _ hb2
            have HTn := Lib.hid hTn
            have HC := Lib.hid hC
            clear ha hb2 hTn hC
            go_wp2_with fail
            refine wp_region_qgro rfl (by kernel_rfl) ?_
            repeat go_big_quiet_step (first | (go_at_call 86; exact gro_call (sign_any _ (n / 16) (by omega) (by omega) _)) | (go_at_call 86; exact gro_call (sign_any _ (n % 16) (by omega) (by omega) _)))
            refine wpQuiet_nil ?_
            rintro _ ⟨p, rfl⟩
            go_wp2_with fail
            go_roundw
            case rel =>
              have ht := HTn.out
              refine ⟨n + 1, by omega, by go_num, by rw [decide_eq_true (show T < n + 1 by omega)], (hb.trans ((below_gro wr p).mono hb.size)).setCell (by show _ ≤ C; omega) _, by rw [heap_setCell_other _ _ _ _ (by show w.heap.size ≠ C; omega)]; exact gro_heap hZ p, ?_⟩
              have hC := HC.out
              rw [if_neg (by omega)] at hC
              have h := heap_setCell_same (gro wr p) C k _ _ (bv (UInt8.ofNat n)) (gro_heap hC p)
              rw [setLb, ← ht, (Hyes.out (by omega)).2, HA.out] at h
              rw [if_pos (show T < n + 1 by omega)]
              rw [show Value.int IntKind.u8 (n : Int) = bv (UInt8.ofNat (16 * hv a.toNat + hv b.toNat)) from by
                rw [← (Hyes.out (by omega)).2, ht]; show _ = Value.int _ _; rw [UInt8.toNat_ofNat', Nat.mod_eq_of_lt (by omega)]]
              exact h
            case measure => simp [intOf]; omega
          · have HD := Lib.hid (show decide (T < n) = decide (T < n + 1) from decide_eq_decide.2 (by omega))
            have HI := Lib.hid (show (if T < n then 2 * k + 2 else 2 * k) = (if T < n + 1 then 2 * k + 2 else 2 * k) from ite_next T n _ _ hTn)
            have HC := Lib.hid hC
            have hx : a ≠ sg (n / 16) ∨ (a = sg (n / 16) ∧ b ≠ sg (n % 16)) := by
              by_cases h : a = sg (n / 16)
              · exact .inr ⟨h, fun h2 => hTn ((HT.out n hn2).2 ⟨h, h2⟩)⟩
              · exact .inl h
            clear hC hTn
            rcases hx with ha | ⟨ha, hb2⟩
            · have h1 := b_ne _ _ ha
              clear ha
              go_wp2_with fail
              refine wp_region_qgro rfl (by kernel_rfl) ?_
              repeat go_big_quiet_step (first | (go_at_call 86; exact gro_call (sign_any _ (n / 16) (by omega) (by omega) _)) | (go_at_call 86; exact gro_call (sign_any _ (n % 16) (by omega) (by omega) _)))
              refine wpQuiet_nil ?_
              rintro _ ⟨p, rfl⟩
              go_wp2_with fail
              go_roundw
              case rel => exact ⟨n + 1, by omega, by go_num, by rw [HD.out], hb.trans ((below_gro wr p).mono hb.size), gro_heap hZ p, by rw [← HI.out]; exact gro_heap HC.out p⟩
              case measure => simp [intOf]; omega
            · have h1 := b_eq _ _ ha
              have h2 := b_ne _ _ hb2
              clear ha hb2
              go_wp2_with fail
              refine wp_region_qgro rfl (by kernel_rfl) ?_
              repeat go_big_quiet_step (first | (go_at_call 86; exact gro_call (sign_any _ (n / 16) (by omega) (by omega) _)) | (go_at_call 86; exact gro_call (sign_any _ (n % 16) (by omega) (by omega) _)))
              refine wpQuiet_nil ?_
              rintro _ ⟨p, rfl⟩
              go_wp2_with fail
              go_roundw
              case rel => exact ⟨n + 1, by omega, by go_num, by rw [HD.out], hb.trans ((below_gro wr p).mono hb.size), gro_heap hZ p, by rw [← HI.out]; exact gro_heap HC.out p⟩
              case measure => simp [intOf]; omega
        · obtain rfl : n = 256 := by omega
          by_cases hT2 : T < 256
          · have hd : decide (T < 256) = true := by simp; omega
            rw [hd]
            rw [if_pos hT2] at hC
            clear hd
            go_wp2_with fail
            go_roundw
            case rel => exact ⟨k + 1, by omega, by go_num, (Hyes.out hT2).1, hb, hZ, by rw [show 2 * (k + 1) = 2 * k + 2 by omega]; exact hC⟩
            case measure => simp [intOf]; omega
          · have hd : decide (T < 256) = false := by simp; omega
            rw [hd]
            have hno := Hno.out (by omega)
            clear hd hC
            have Hno2 : Hid (says s.data.toList = false) := Lib.hid (by rw [Hl.out]; exact hno)
            clear hno
            go_wp2_with (first
              | (refine wpList_build rfl 24 _ rfl (by kernel_rfl) ?_; rw [show (Option.getD (Try.prog.built 24 _) #[]) = zero24 from by kernel_rfl])
              | (refine wpList_store_row rfl 24 (.tmp 2) (.tmp 46) rfl w.heap.size 24 zero24 zero24 rfl rfl hZ zero24_info rfl zero24_one ?_))
            refine bodyPost_ret (results_cell_tmp (d := .array 32 5) rfl _ _ w.heap.size 24 _ (0, 0) rfl (setRow_heap _ _ _ _ _ _ hZ) (by kernel_rfl) rfl zero24_info) rfl ⟨by rw [refV_no _ Hno2.out]; rfl, below_setRow' hb (by omega) _⟩
    · obtain rfl : k = 32 := by omega
      have hy : says l = true := (says_iff _).2 ⟨hsz.out, hq⟩
      have Hy : Hid (says s.data.toList = true) := Lib.hid (by rw [Hl.out]; exact hy)
      have hI := acc_length l 64
      have hC : wr.heap[C]? = some (.cells ((acc l 64).map bv).toArray 24 (0, 0)) := hC
      have HA : Hid (acc s.data.toList 64 = acc l 64) := Lib.hid (by rw [Hl.out])
      clear hq hy
      generalize acc l 64 = id at *
      go_wp2_with (first
        | (refine wpList_load_row rfl 24 (.tmp 4) rfl C rfl 24 _ (0, 0) (.array 32 5) hC (by kernel_rfl) rfl (id_info id hI) ?_)
        | (refine wpList_store_row rfl 24 (.tmp 2) (.tmp 48) rfl w.heap.size 24 zero24 (id.map bv).toArray rfl rfl hZ (id_info id hI) (id_size id hI).symm (id_one id) ?_))
      refine bodyPost_ret (results_cell_tmp (d := .array 32 5) rfl _ _ w.heap.size 24 _ (0, 0) rfl (setRow_heap _ _ _ _ _ _ hZ) (by kernel_rfl) rfl (id_info id hI)) rfl ⟨by rw [refV_yes _ Hy.out, HA.out]; rfl, below_setRow' hb (by omega) _⟩
theorem refparse_any (s : ByteArray) (w : World) :
    Calls Try.prog 31 #[.string s] w fun e w' => e = .returned (refV s.data.toList) ∧ Below w.heap.size w w' := by
  by_cases h : s.size = 64
  · exact refparse_full s h w
  · rw [refV_no _ (says_size s h)]; exact refparse_long s h w
end Go.Proofs.Ytcfkapoppmpehaa
