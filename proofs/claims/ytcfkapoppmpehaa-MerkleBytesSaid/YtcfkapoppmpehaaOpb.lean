/-
  What the readings of more arguments give: rows of structures.
-/
import Derived.Test.YtcfkapoppmpehaaOpen
namespace Go.Proofs.Ytcfkapoppmpehaa
open Go.ChangeShapes Go.WideShapes Go.ChangeAt Go.RowKit Go.Deep

/-- The slice value v reads, in the world w, as these things of c cells each. -/
def RdRows {T : Type} [Inhabited T] (c : Nat) (row : T → List Value) (good : World → T → Prop) (w : World) (v : Value) (ts : List T) : Prop :=
  ∃ a cap, v = .slice a ts.length cap ∧ ts.length ≤ cap ∧ ts.length ≤ maxLen ∧ (∀ i, i < ts.length → good w (ts.getD i default)) ∧
    (0 < ts.length → ∃ b o, a = some ⟨b, o, none⟩ ∧ ∀ i, i < ts.length → w.rangeAt b (o + i * c) (row (ts.getD i default)))

section
variable {H : Type} {enc : TypeId × Value → H} {w : World} {spare : Nat → Bool} {held : Bool}
theorem read_rows {T : Type} [Inhabited T] {t e : TypeId} {c : Nat} (ht : Try.prog.underlying t = some (.slice e)) (hc : Try.prog.cellsOf e = c) (hc0 : 0 < c) (row : T → List Value) (good : World → T → Prop)
    (hread : ∀ n cs y, DataW.trod enc Try.prog w 0 spare held n e cs = some y → ∃ x : T, good w x ∧ cs = row x) {fuel : Nat} {cs : List Value} {x : DataW H × List MemPlace} (h : DataW.trod enc Try.prog w 0 spare held fuel t cs = some x) :
    ∃ v ts, cs = [v] ∧ RdRows c row good w v ts := by
  rcases open_rows (c := c) ht hc hc0 h with h0 | ⟨a, len, cap, m, n, h0, hl, hm, hlm, hs, hi⟩
  · exact ⟨_, [], h0, none, 0, rfl, by simp, by simp, by simp, by simp⟩
  · obtain ⟨f, hf⟩ := choose_lt (α := T) (n := m) (p := fun i x => good w x ∧ w.rangeAt a.block (a.off + i * c) (row x)) (fun i h => by
      obtain ⟨cs, y, hcl, hr, ht⟩ := hi i h
      obtain ⟨x, hg, rfl⟩ := hread _ _ _ ht
      exact ⟨x, hg, hr⟩)
    have hg : ∀ i, i < len → ((List.range len).map f).getD i default = f i := fun i h => by simp [h]
    refine ⟨_, (List.range len).map f, h0, some a, cap, by simp, by simpa using hl, by simp; omega, fun i h => ?_, fun h => ?_⟩
    · simp only [List.length_map, List.length_range] at h
      rw [hg i h]; exact (hf i (by omega)).1
    · simp only [List.length_map, List.length_range] at h
      obtain ⟨b, o, s⟩ := a
      obtain rfl : s = none := hs (by omega)
      refine ⟨b, o, rfl, fun i h => ?_⟩
      simp only [List.length_map, List.length_range] at h
      rw [hg i h]; exact (hf i (by omega)).2
set_option maxRecDepth 100000 in
theorem arg_rows {T : Type} [Inhabited T] {b0 : Nat} {r : Reach} {v : Value} {d : DataW H} {ps : List MemPlace} {t e : TypeId} {c : Nat} (ht : Try.prog.underlying t = some (.slice e)) (hc : Try.prog.cellsOf e = c) (hc0 : 0 < c) (row : T → List Value) (good : World → T → Prop)
    (hread : ∀ n cs y, DataW.trod enc Try.prog w 0 spare held n e cs = some y → ∃ x : T, good w x ∧ cs = row x) (hval : Value.okWide Try.prog w r b0 t v) (h : DataW.Trod enc Try.prog w 0 spare held t v d ps) : ∃ ts, RdRows c row good w v ts := by
  obtain ⟨fuel, h⟩ := h
  obtain ⟨u, ts, h1, h2⟩ := read_rows ht hc hc0 row good hread h
  rw [slice_cells ht hval] at h1
  obtain rfl := (List.cons.inj h1).1
  exact ⟨ts, h2⟩

/-- The fields of a structure, one by one. -/
theorem read_field {t : TypeId} {k : Nat} (hu : Try.prog.underlying t = some (.struct (Try.prog.fieldsOf t))) (hc : Try.prog.cellsOf t = k) {fuel : Nat} {cs : List Value} {x : DataW H × List MemPlace} (h : DataW.trod enc Try.prog w 0 spare held fuel t cs = some x) :
    ∃ n, cs.length = k ∧ ∀ (i ft o j : Nat), ((Try.prog.fieldsOf t)[i]?).map (fun f => (f.type, f.offset)) = some (ft, o) → Try.prog.cellsOf ft = j → ∃ y, DataW.trod enc Try.prog w 0 spare held n ft ((cs.drop o).take j) = some y := by
  obtain ⟨xs, n, _, _, hl, hxl, hi⟩ := DataW.trod_struct hu h
  rw [hc] at hl
  refine ⟨n, hl, fun i ft o j hf hk => ?_⟩
  obtain ⟨f, h1, h2⟩ := Option.map_eq_some_iff.1 hf
  simp only [Prod.mk.injEq] at h2
  have h3 := hi i f h1
  rw [h2.1, h2.2, hk] at h3
  have hlt : i < xs.length := by rw [hxl]; exact (Array.getElem?_eq_some_iff.1 h1).1
  exact ⟨_, h3.trans (List.getElem?_eq_getElem hlt)⟩
theorem read_int {fuel : Nat} {cs : List Value} {x : DataW H × List MemPlace} (h : DataW.trod enc Try.prog w 0 spare held fuel 3 cs = some x) : ∃ n : Int, cs = [.int .i64 n] := by
  obtain ⟨n, hn, _, _⟩ := DataW.trod_int (show Try.prog.underlying 3 = some (.int .i64) from by kernel_rfl) h
  exact ⟨n, hn⟩
theorem read_id {fuel : Nat} {cs : List Value} {x : DataW H × List MemPlace} (h : DataW.trod enc Try.prog w 0 spare held fuel 24 cs = some x) : ∃ l : List UInt8, l.length = 32 ∧ cs = l.map bv :=
  trod_bytes (show Try.prog.underlying 24 = some (.array 32 5) from by kernel_rfl) (by kernel_rfl) h
end

/-- What is asked of a chain. -/
structure Wk6 where
  x : List UInt8
  ch : Int
  fr : Int
  tt : Int
  deriving Inhabited
def Wk6.row (c : Wk6) : List Value := c.x.map bv ++ [.int .i64 c.ch, .int .i64 c.fr, .int .i64 c.tt]
def Wk6.good (_ : World) (c : Wk6) : Prop := c.x.length = 32
/-- A digest of a signature that is another one. -/
structure Tn6 where
  at_ : Int
  byI : List UInt8
  deriving Inhabited
def Tn6.row (c : Tn6) : List Value := .int .i64 c.at_ :: c.byI.map bv
def Tn6.good (_ : World) (c : Tn6) : Prop := c.byI.length = 32
theorem drop_one {cs : List Value} {o n : Nat} {v : Value} (h : (cs.drop o).take 1 = [v]) (ho : o < n) (hn : cs.length = n) : cs.drop o = v :: cs.drop (o + 1) := by
  rw [List.drop_eq_getElem_cons (show o < cs.length by omega)] at h ⊢
  rw [(List.cons.inj h).1]

section
variable {H : Type} {enc : TypeId × Value → H} {w : World} {spare : Nat → Bool} {held : Bool} {b0 : Nat} {r : Reach} {v : Value} {d : DataW H} {ps : List MemPlace}
theorem read_walk (n : Nat) (cs : List Value) (y : DataW H × List MemPlace) (h : DataW.trod enc Try.prog w 0 spare held n 82 cs = some y) : ∃ c : Wk6, c.good w ∧ cs = c.row := by
  obtain ⟨m, hl, F⟩ := read_field (t := 82) (k := 35) (by kernel_rfl) (by kernel_rfl) h
  obtain ⟨y0, h0⟩ := F 0 24 0 32 (by kernel_rfl) (by kernel_rfl)
  obtain ⟨y1, h1⟩ := F 1 3 32 1 (by kernel_rfl) (by kernel_rfl)
  obtain ⟨y2, h2⟩ := F 2 3 33 1 (by kernel_rfl) (by kernel_rfl)
  obtain ⟨y3, h3⟩ := F 3 3 34 1 (by kernel_rfl) (by kernel_rfl)
  obtain ⟨x, hx, e0⟩ := read_id h0
  obtain ⟨a, e1⟩ := read_int h1
  obtain ⟨b, e2⟩ := read_int h2
  obtain ⟨c, e3⟩ := read_int h3
  refine ⟨⟨x, a, b, c⟩, hx, ?_⟩
  rw [Wk6.row, ← e0]
  refine (List.take_append_drop 32 cs).symm.trans ?_
  rw [drop_one e1 (by omega) hl, drop_one e2 (by omega) hl, drop_one e3 (by omega) hl, List.drop_of_length_le (by omega)]
  rfl
theorem read_turn6 (n : Nat) (cs : List Value) (y : DataW H × List MemPlace) (h : DataW.trod enc Try.prog w 0 spare held n 94 cs = some y) : ∃ c : Tn6, c.good w ∧ cs = c.row := by
  obtain ⟨m, hl, F⟩ := read_field (t := 94) (k := 33) (by kernel_rfl) (by kernel_rfl) h
  obtain ⟨y0, h0⟩ := F 0 3 0 1 (by kernel_rfl) (by kernel_rfl)
  obtain ⟨y1, h1⟩ := F 1 24 1 32 (by kernel_rfl) (by kernel_rfl)
  obtain ⟨a, e0⟩ := read_int h0
  obtain ⟨x, hx, e1⟩ := read_id h1
  refine ⟨⟨a, x⟩, hx, ?_⟩
  rw [Tn6.row, ← e1, List.take_of_length_le (by simp; omega)]
  have := drop_one e0 (by omega) hl
  rwa [List.drop_zero] at this
set_option maxRecDepth 100000 in
theorem arg_walks (hval : Value.okWide Try.prog w r b0 80 v) (h : DataW.Trod enc Try.prog w 0 spare held 80 v d ps) : ∃ ts, RdRows 35 Wk6.row Wk6.good w v ts :=
  arg_rows (show Try.prog.underlying 80 = some (.slice 82) from by kernel_rfl) (by kernel_rfl) (by omega) _ _ read_walk hval h
set_option maxRecDepth 100000 in
theorem arg_turns6 (hval : Value.okWide Try.prog w r b0 90 v) (h : DataW.Trod enc Try.prog w 0 spare held 90 v d ps) : ∃ ts, RdRows 33 Tn6.row Tn6.good w v ts :=
  arg_rows (show Try.prog.underlying 90 = some (.slice 94) from by kernel_rfl) (by kernel_rfl) (by omega) _ _ read_turn6 hval h
set_option maxRecDepth 100000 in
theorem arg_places (h : DataW.Trod enc Try.prog w 0 spare held 99 v d ps) : ∃ a b c : Int, v = .agg #[.int .i64 a, .int .i64 b, .int .i64 c] := by
  obtain ⟨fuel, h⟩ := h
  obtain ⟨xs, m, _, _, hl, hxl, hi⟩ := DataW.trod_array (show Try.prog.underlying 99 = some (.array 3 3) from by kernel_rfl) h
  have hx : Try.prog.cellsOf 3 = 1 := by kernel_rfl
  have hc : Try.prog.cellsOf 99 = 3 := by kernel_rfl
  rw [hc] at hl
  rw [hx] at hi
  have F : ∀ i, i < 3 → ∃ n : Int, (v.cells.toList.drop (i * 1)).take 1 = [.int .i64 n] := fun i h3 => by
    have h1 := hi i h3
    rw [List.getElem?_eq_getElem (by omega)] at h1
    exact read_int h1
  obtain ⟨a, e0⟩ := F 0 (by omega)
  obtain ⟨b, e1⟩ := F 1 (by omega)
  obtain ⟨c, e2⟩ := F 2 (by omega)
  refine ⟨a, b, c, ?_⟩
  have h0 : v.cells.toList = [.int .i64 a, .int .i64 b, .int .i64 c] := by
    have := drop_one (o := 0) (n := 3) e0 (by omega) hl
    rw [List.drop_zero] at this
    rw [this, drop_one (n := 3) e1 (by omega) hl, drop_one (n := 3) e2 (by omega) hl, List.drop_of_length_le (by omega)]
  exact cells_agg h0 (by simp)
end
end Go.Proofs.Ytcfkapoppmpehaa
