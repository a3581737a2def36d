/- The walks of layer 26's parts: how each is written. -/
import Derived.Test.YtffigmciclopdaaDoorScrB
import Derived.Lib.AppendStr
import Derived.LoopN
import Derived.Laws.OwnMore
import Derived.Deep.DeepCutAuto
import Derived.Deep.RegionHeld3
namespace Go.Proofs.YtffigmciclopdaaDoor
open Go Go.RowKit

theorem mk2_run (w : World) : (Instr.makeSlice 22 (.int .i64 2) (.int .i64 2)).run Tryd.prog w = .ok (.slice (some ⟨w.heap.size, 0, none⟩) 2 2) (w.alloc (.cells #[.int .u8 0, .int .u8 0] 5)) := by kernel_rfl
theorem mk3_run (w : World) : (Instr.makeSlice 22 (.int .i64 3) (.int .i64 3)).run Tryd.prog w = .ok (.slice (some ⟨w.heap.size, 0, none⟩) 3 3) (w.alloc (.cells #[.int .u8 0, .int .u8 0, .int .u8 0] 5)) := by kernel_rfl

/-- A new row of bytes is handed back. -/
theorem OwnRet.of_blk {w w' : World} {k cap : Nat} {bs : List UInt8} (hb : Blk w' k 5 (bcells bs).toArray) (hk : w.heap.size ≤ k) (hl : bs.length ≤ 1000000) (hbe : Below w.heap.size w w') (hc : cap = bs.length) :
    OwnRet bs w (.returned (.slice (some ⟨k, 0, none⟩) bs.length cap)) w' := by
  subst hc
  exact ⟨_, rfl, ⟨by rw [bcells_length, Nat.mul_one], .inr ⟨_, _, _, rfl, hk, hb, Nat.le_refl _, by unfold maxLen; omega, by simp [bcells], by rw [Nat.mul_one]; exact List.take_of_length_le (by simp [bcells])⟩⟩, hbe⟩


set_option maxHeartbeats 1000000 in
theorem big2_any (x : Int) (w : World) : Calls Tryd.prog 60 #[.int .i64 x, .int .i64 2] w (OwnRet (big2 x) w) := by
  have hm := mk2_run w
  obtain ⟨w1, hw1⟩ : ∃ w1, w.alloc (.cells #[.int .u8 0, .int .u8 0] 5) = w1 := ⟨_, rfl⟩
  have hb : Blk w1 w.heap.size 5 #[.int .u8 0, .int .u8 0] := hw1 ▸ Blk.new _ _ _
  have hbe : Below w.heap.size w w1 := hw1 ▸ (Below.refl _ _).alloc (Nat.le_refl _) _
  rw [hw1] at hm
  have f := hb.frozen
  have HB := Lib.hid hb
  have HE := Lib.hid hbe
  have c0 : w1.cell? ⟨w.heap.size, 0, none⟩ = some (.int .u8 0) := hb.cell 0 _ rfl
  have c1 : w1.cell? ⟨w.heap.size, 1, none⟩ = some (.int .u8 0) := hb.cell 1 _ rfl
  clear hb hbe hw1
  go_enter Tryd.func60, Tryd.ntmps60
  go_wp2
  refine wp_loop_rounds 3 ?_
  rw [rounds_succ]; go_wp2
  rw [rounds_succ]; go_wp2
  rw [rounds_succ]; go_wp2
  go_ret
  refine OwnRet.of_blk (bs := big2 x) (k := w.heap.size) ?_ (Nat.le_refl _) (by simp [big2]) ?_ rfl
  · have h := (HB.out.set_ 1 (.int .u8 (x % 256))).set_ 0 (.int .u8 (x / 256 % 256))
    have e : (bcells (big2 x)).toArray = (#[Value.int .u8 0, .int .u8 0].setIfInBounds 1 (.int .u8 (x % 256))).setIfInBounds 0 (.int .u8 (x / 256 % 256)) := by
      simp [big2, bcells, byteI_toNat]
    rw [e]; exact h
  · exact (HE.out.setCell (p := ⟨w.heap.size, 1, none⟩) (Nat.le_refl _) _).setCell (p := ⟨w.heap.size, 0, none⟩) (Nat.le_refl _) _

set_option maxHeartbeats 1000000 in
theorem big3_any (x : Int) (w : World) : Calls Tryd.prog 60 #[.int .i64 x, .int .i64 3] w (OwnRet (big3 x) w) := by
  have hm := mk3_run w
  obtain ⟨w1, hw1⟩ : ∃ w1, w.alloc (.cells #[.int .u8 0, .int .u8 0, .int .u8 0] 5) = w1 := ⟨_, rfl⟩
  have hb : Blk w1 w.heap.size 5 #[.int .u8 0, .int .u8 0, .int .u8 0] := hw1 ▸ Blk.new _ _ _
  have hbe : Below w.heap.size w w1 := hw1 ▸ (Below.refl _ _).alloc (Nat.le_refl _) _
  rw [hw1] at hm
  have f := hb.frozen
  have HB := Lib.hid hb
  have HE := Lib.hid hbe
  have c0 : w1.cell? ⟨w.heap.size, 0, none⟩ = some (.int .u8 0) := hb.cell 0 _ rfl
  have c1 : w1.cell? ⟨w.heap.size, 1, none⟩ = some (.int .u8 0) := hb.cell 1 _ rfl
  have c2 : w1.cell? ⟨w.heap.size, 2, none⟩ = some (.int .u8 0) := hb.cell 2 _ rfl
  clear hb hbe hw1
  go_enter Tryd.func60, Tryd.ntmps60
  go_wp2
  refine wp_loop_rounds 4 ?_
  rw [rounds_succ]; go_wp2
  rw [rounds_succ]; go_wp2
  rw [rounds_succ]; go_wp2
  rw [rounds_succ]; go_wp2
  go_ret
  refine OwnRet.of_blk (bs := big3 x) (k := w.heap.size) ?_ (Nat.le_refl _) (by simp [big3]) ?_ rfl
  · have h := ((HB.out.set_ 2 (.int .u8 (x % 256))).set_ 1 (.int .u8 (x / 256 % 256))).set_ 0 (.int .u8 (x / 65536 % 256))
    have e : (bcells (big3 x)).toArray = ((#[Value.int .u8 0, .int .u8 0, .int .u8 0].setIfInBounds 2 (.int .u8 (x % 256))).setIfInBounds 1 (.int .u8 (x / 256 % 256))).setIfInBounds 0 (.int .u8 (x / 65536 % 256)) := by
      simp [big3, bcells, byteI_toNat]
    rw [e]; exact h
  · exact ((HE.out.setCell (p := ⟨w.heap.size, 2, none⟩) (Nat.le_refl _) _).setCell (p := ⟨w.heap.size, 1, none⟩) (Nat.le_refl _) _).setCell (p := ⟨w.heap.size, 0, none⟩) (Nat.le_refl _) _

/-- A part is written from a copy of the operation in a box of its own. -/
theorem OwnRet.boxed {bs : List UInt8} {w : World} {o : Obj} {e : Ending} {w' : World} (h : OwnRet bs (w.alloc o) e w') : OwnRet bs w e w' := by
  obtain ⟨v, rfl, h1, h2⟩ := h
  exact ⟨v, rfl, ownsRow_base h1 (by simp), below_own h2⟩


def wrF : Part → Nat
  | .key => 55
  | .value => 57
  | .ttl => 59
  | .budgets => 62
  | .aim => 64
  | .birth => 66

set_option maxHeartbeats 1000000 in
theorem wr_ttl (o : OpV) (V : Value) (w : World) : Calls Tryd.prog 59 #[opv o V] w (OwnRet (wrPart .ttl o) w) := by
  unfold opv opc
  go_enter Tryd.func59, Tryd.ntmps59
  go_wp2_with fail
  refine (big2_any _ _).mono ?_
  rintro e w1 ⟨v, rfl, h1, h2⟩
  go_wp2_with fail
  go_ret
  exact OwnRet.boxed ⟨_, rfl, h1, h2⟩

set_option maxHeartbeats 1000000 in
theorem wr_birth (o : OpV) (V : Value) (w : World) : Calls Tryd.prog 66 #[opv o V] w (OwnRet (wrPart .birth o) w) := by
  unfold opv opc
  go_enter Tryd.func66, Tryd.ntmps66
  go_wp2_with fail
  refine (big2_any _ _).mono ?_
  rintro e w1 ⟨v, rfl, h1, h2⟩
  go_wp2_with fail
  go_ret
  exact OwnRet.boxed ⟨_, rfl, h1, h2⟩

set_option maxHeartbeats 1000000 in
theorem wr_aim (o : OpV) (V : Value) (w : World) : Calls Tryd.prog 64 #[opv o V] w (OwnRet (wrPart .aim o) w) := by
  unfold opv opc
  go_enter Tryd.func64, Tryd.ntmps64
  go_wp2_with fail
  go_ret
  refine OwnRet.boxed (OwnRet.of_blk (bs := [byteI o.cursor]) ?_ (by simp) (by simp) ((Below.refl _ _).alloc (Nat.le_refl _) _) rfl)
  have := Blk.new (w.alloc (.cells #[.int .i64 o.kind, .int .u64 o.ticks, .string o.key, V, .int .u64 o.ttl, .int .i64 o.count, .int .i64 o.bytes, .int .i64 o.cursor, .int .u64 o.birth] 43)) 5 #[.int .u8 (o.cursor % 256)]
  simpa [bcells, byteI_toNat] using this

theorem own_one (w : World) (e : TypeId) (u : Value) : (w.alloc (.cells #[u] e)).ownsRow w.heap.size e 1 (.slice (some ⟨w.heap.size, 0, none⟩) 1 1) 1 [u] :=
  World.ownsRow_lit w #[u] 1 (Nat.le_refl _) (by unfold maxLen; omega) (by simp)


/-- What was appended to a new row is handed back. -/
theorem OwnRet.of_append {w w0 w1 : World} {bs : List UInt8} {v : Value} {n : Nat} {u : Obj} (h0 : Below w.heap.size w w0) (hs : w.heap.size ≤ w0.heap.size) (hg : (w0.alloc u).grownBy w1 (some w0.heap.size)) (ho : w1.ownsRow w0.heap.size 5 1 v n (bcells bs)) (hn : n = bs.length) :
    OwnRet bs w (.returned v) w1 := by
  subst hn
  exact ⟨v, rfl, ownsRow_base ho hs, (h0.alloc hs _).grown hg (by simp; omega) (by intro k hk; cases hk; exact hs)⟩

theorem cell_drewT {W : World} {a : Addr} {v : Value} (h : W.cell? a = some v) : W.drew.cell? a = some v := h
theorem len23 (o : OpV) : (big2 o.count).length + (big3 o.bytes).length ≤ maxLen := by simp [big2, big3, maxLen]
theorem len23' (o : OpV) : ((big2 o.count).length + (big3 o.bytes).length) * 1 ≤ 140737488355328 := by simp [big2, big3]
theorem Blk.grown {w w' : World} {g : Nat} {t : TypeId} {cs : Array Value} {row : Option Nat} (h : Blk w g t cs) (hb : w.grownBy w' row) (hg : some g ≠ row) : Blk w' g t cs := (hb.block g h.lt hg).trans h
theorem own_later {w w' : World} {base : Nat} {e : TypeId} {size : Nat} {v : Value} {n : Nat} {xs : List Value} (h : w.ownsRow base e size v n xs) (hb : Below w.heap.size w w') : w'.ownsRow base e size v n xs :=
  ownsRow_only h (S := fun _ => False) (Only.of_below hb) (fun _ _ h => h)
theorem own_block_ne {w : World} {base : Nat} {e : TypeId} {size : Nat} {v : Value} {n : Nat} {xs : List Value} (h : w.ownsRow base e size v n xs) {k : Nat} (hk : k < base) : some k ≠ v.ownBlock := fun e => by
  have := (h.lt k e.symm).1
  omega
theorem strCells_b (s : ByteArray) : Lib.strCells s = bcells s.data.toList := rfl
theorem byteI_cell (x : Int) : Value.int .u8 (x % 256) = .int .u8 ((byteI x).toNat : Int) := by rw [byteI_toNat]

set_option maxHeartbeats 1000000 in
theorem wr_key (o : OpV) (V : Value) (w : World) (hk : o.key.size ≤ 1000000) : Calls Tryd.prog 55 #[opv o V] w (OwnRet (wrPart .key o) w) := by
  obtain ⟨i0, hi0, hz0, hz1, hz2⟩ := info_parts u8_info
  have HK := Lib.hid hk
  clear hk
  unfold opv opc
  obtain ⟨w0, hw0⟩ : ∃ w0, w.alloc (.cells #[.int .i64 o.kind, .int .u64 o.ticks, .string o.key, V, .int .u64 o.ttl, .int .i64 o.count, .int .i64 o.bytes, .int .i64 o.cursor, .int .u64 o.birth] 43) = w0 := ⟨_, rfl⟩
  have hsz : w0.heap.size = w.heap.size + 1 := by rw [← hw0]; simp
  have hbe : Below w.heap.size w w0 := hw0 ▸ (Below.refl _ _).alloc (Nat.le_refl _) _
  have hbx : Blk w0 w.heap.size 43 (opc o V) := hw0 ▸ Blk.new _ _ _
  have HS := Lib.hid hsz
  have HE := Lib.hid hbe
  have c2 : w0.cell? ⟨w.heap.size, 2, none⟩ = some (.string o.key) := hbx.cell 2 _ rfl
  have c2' : ∀ ob, (w0.alloc ob).cell? ⟨w.heap.size, 2, none⟩ = some (.string o.key) := fun ob => (hbx.alloc ob).cell 2 _ rfl
  clear hsz hbe hbx
  go_enter Tryd.func55, Tryd.ntmps55
  go_upto_region 1 with fail
  try rw [hw0]
  clear hw0
  go_wp2_with (at_builtin; refine Lib.wpList_append_own_string _ rfl _ _ _ _ rfl w0.heap.size 5 i0 Tryd.underlying22 Tryd.underlying9 hi0 hz0 hz1 hz2 _ 1 [.int .u8 ((o.key.size : Int) % 256)] rfl (own_one w0 _ _) o.key rfl (by have := HK.out; unfold maxLen; omega) (by have := HK.out; omega) (by simp) ?_; intro v1 w1 hown hg hat)
  go_ret
  refine OwnRet.of_append (bs := wrPart .key o) HE.out (by rw [HS.out]; omega) hg (n := 1 + o.key.size) ?_ ?_
  · rw [byteI_cell, strCells_b] at hown
    exact hown
  · simp [wrPart]; exact Nat.add_comm _ _

set_option maxHeartbeats 1000000 in
theorem wr_value (B : Nat) (o : OpV) (V : Value) (w : World) (hv : Bts w B 5 V o.val) (hk : o.val.length ≤ 1000000) : Calls Tryd.prog 57 #[opv o V] w (OwnRet (wrPart .value o) w) := by
  obtain ⟨i0, hi0, hz0, hz1, hz2⟩ := info_parts u8_info
  obtain ⟨A, cap, rfl⟩ := hv.form
  have HK := Lib.hid hk
  have HV := Lib.hid hv
  clear hk hv
  unfold opv opc
  obtain ⟨w0, hw0⟩ : ∃ w0, w.alloc (.cells #[.int .i64 o.kind, .int .u64 o.ticks, .string o.key, (Value.slice A o.val.length cap), .int .u64 o.ttl, .int .i64 o.count, .int .i64 o.bytes, .int .i64 o.cursor, .int .u64 o.birth] 43) = w0 := ⟨_, rfl⟩
  have hsz : w0.heap.size = w.heap.size + 1 := by rw [← hw0]; simp
  have hbe : Below w.heap.size w w0 := hw0 ▸ (Below.refl _ _).alloc (Nat.le_refl _) _
  have hbx : Blk w0 w.heap.size 43 (opc o (Value.slice A o.val.length cap)) := hw0 ▸ Blk.new _ _ _
  have HS := Lib.hid hsz
  have HE := Lib.hid hbe
  have hv0 : Bts w0 B 5 (.slice A o.val.length cap) o.val := HV.out.below hbe
  have HV0 := Lib.hid hv0
  have c3 : w0.cell? ⟨w.heap.size, 3, none⟩ = some (.slice A o.val.length cap) := hbx.cell 3 _ rfl
  have c3' : ∀ ob, (w0.alloc ob).cell? ⟨w.heap.size, 3, none⟩ = some (.slice A o.val.length cap) := fun ob => (hbx.alloc ob).cell 3 _ rfl
  clear hsz hbe hbx hv0
  go_enter Tryd.func57, Tryd.ntmps57
  go_upto_region 1 with fail
  try rw [hw0]
  clear hw0
  go_wp2_with (at_builtin; refine wpList_append_src _ rfl _ _ _ rfl w0.heap.size 5 i0 _ 1 1 Tryd.underlying22 hi0 hz0 hz1 hz2 rfl (by decide) _ 1 [.int .u8 ((o.val.length : Int) % 256)] rfl (own_one w0 _ _) A o.val.length cap (bcells o.val) rfl (HV0.out.alloc _).src_at.2 (bcells_one _) (by have := HK.out; unfold maxLen; omega) (by have := HK.out; omega) (by simp) ?_; intro v1 w1 hown hg hat)
  go_ret
  refine OwnRet.of_append (bs := wrPart .value o) HE.out (by rw [HS.out]; omega) hg (n := 1 + o.val.length) ?_ ?_
  · rw [byteI_cell] at hown
    exact hown
  · simp [wrPart]; omega

set_option maxHeartbeats 1000000 in
theorem wr_budgets (o : OpV) (V : Value) (w : World) : Calls Tryd.prog 62 #[opv o V] w (OwnRet (wrPart .budgets o) w) := by
  obtain ⟨i0, hi0, hz0, hz1, hz2⟩ := info_parts u8_info
  unfold opv opc
  obtain ⟨w0, hw0⟩ : ∃ w0, w.alloc (.cells #[.int .i64 o.kind, .int .u64 o.ticks, .string o.key, V, .int .u64 o.ttl, .int .i64 o.count, .int .i64 o.bytes, .int .i64 o.cursor, .int .u64 o.birth] 43) = w0 := ⟨_, rfl⟩
  have hsz : w0.heap.size = w.heap.size + 1 := by rw [← hw0]; simp
  have hbe : Below w.heap.size w w0 := hw0 ▸ (Below.refl _ _).alloc (Nat.le_refl _) _
  have hbx : Blk w0 w.heap.size 43 (opc o V) := hw0 ▸ Blk.new _ _ _
  have HS := Lib.hid hsz
  have HE := Lib.hid hbe
  have c5 : w0.cell? ⟨w.heap.size, 5, none⟩ = some (.int .i64 o.count) := hbx.cell 5 _ rfl
  have c6 : w0.cell? ⟨w.heap.size, 6, none⟩ = some (.int .i64 o.bytes) := hbx.cell 6 _ rfl
  have HX := Lib.hid hbx
  clear hsz hbe hbx
  go_enter Tryd.func62, Tryd.ntmps62
  go_upto_region 1 with fail
  try rw [hw0]
  clear hw0
  go_region_held3 (fun w' => w'.cell? ⟨w.heap.size, 5, none⟩ = some (.int .i64 o.count) ∧ w'.cell? ⟨w.heap.size, 6, none⟩ = some (.int .i64 o.bytes)) (first | with_reducible exact ⟨cell_drewT c5, cell_drewT c6⟩ | with_reducible exact ⟨d5, d6⟩ | with_reducible exact ⟨e5, e6⟩ | with_reducible exact ⟨g5, g6⟩ | fail)
    ((first
      | (have hq := HB1.out; clear hq; go_at_call 60; refine (big3_any o.bytes _).mono ?_; rintro e w2 ⟨v2, rfl, ho2, hb2⟩; obtain ⟨A2, k2, rfl, _, _⟩ := own_form ho2; have hx2 := HX1.out.below hb2; have e5 : w2.cell? ⟨w.heap.size, 5, none⟩ = some (.int .i64 o.count) := hx2.cell 5 _ rfl; have e6 : w2.cell? ⟨w.heap.size, 6, none⟩ = some (.int .i64 o.bytes) := hx2.cell 6 _ rfl; have HO2 := Lib.hid ho2; have HB2 := Lib.hid hb2; have HX2 := Lib.hid hx2; clear ho2 hb2 hx2)
      | (go_at_call 60; refine (big2_any o.count _).mono ?_; rintro e w1 ⟨v1, rfl, ho1, hb1⟩; obtain ⟨A1, k1, rfl, _, _⟩ := own_form ho1; have hx1 := HX.out.drew.below hb1; have d5 : w1.cell? ⟨w.heap.size, 5, none⟩ = some (.int .i64 o.count) := hx1.cell 5 _ rfl; have d6 : w1.cell? ⟨w.heap.size, 6, none⟩ = some (.int .i64 o.bytes) := hx1.cell 6 _ rfl; have HO1 := Lib.hid ho1; have HB1 := Lib.hid (below_drew hb1); have HX1 := Lib.hid hx1; clear ho1 hb1 hx1)
      | (have hq := HB2.out; clear hq; refine step_append_src _ rfl (.tmp 5) (.tmp 8) 22 rfl w0.heap.size 5 i0 _ 1 1 Tryd.underlying22 hi0 hz0 hz1 hz2 rfl (by decide) _ (big2 o.count).length (bcells (big2 o.count)) rfl (own_later HO1.out HB2.out) A2 (big3 o.bytes).length k2 (bcells (big3 o.bytes)) rfl (Bts.of_own HO2.out w0.heap.size).src_at.2 (bcells_one _) (len23 o) (len23' o) (Nat.le_trans HB1.out.size HB2.out.size) ?_; intro v3 w3 hown hg hat; have hx3 := HX2.out.grown hg (own_block_ne HO1.out HX.out.drew.lt); have g5 : w3.cell? ⟨w.heap.size, 5, none⟩ = some (.int .i64 o.count) := hx3.cell 5 _ rfl; have g6 : w3.cell? ⟨w.heap.size, 6, none⟩ = some (.int .i64 o.bytes) := hx3.cell 6 _ rfl)))
  all_goals
    go_wp2
    go_ret
    have hs2 : w0.heap.size ≤ w2.heap.size := Nat.le_trans HB1.out.size HB2.out.size
    have hb : Below w.heap.size w w2 := HE.out.trans ((HB1.out.trans (HB2.out.mono HB1.out.size)).mono (by show w.heap.size ≤ w0.heap.size; rw [HS.out]; omega))
    refine ⟨_, rfl, ?_, ?_⟩
    · have h := ownsRow_base hown (show w.heap.size ≤ w0.heap.size by rw [HS.out]; omega)
      have e : bcells (big2 o.count) ++ bcells (big3 o.bytes) = bcells (wrPart .budgets o) := by simp [wrPart, bcells]
      rw [e] at h
      exact h
    · exact hb.grown hg hb.size (by intro k hk; have := (HO1.out.lt k hk).1; rw [show w0.drew.heap.size = w0.heap.size from rfl, HS.out] at this; omega)

/-- An operation's value is a slice of bytes; its lengths are small. -/
structure OpOk (w : World) (B : Nat) (o : OpV) (V : Value) : Prop where
  val : Bts w B 5 V o.val
  klen : o.key.size ≤ 1000000
  vlen : o.val.length ≤ 1000000

/-- Every part is written so. -/
theorem wr_any (p : Part) (B : Nat) (o : OpV) (V : Value) (w : World) (h : OpOk w B o V) : Calls Tryd.prog (wrF p) #[opv o V] w (OwnRet (wrPart p o) w) := by
  cases p with
  | key => exact wr_key o V w h.klen
  | value => exact wr_value B o V w h.val h.vlen
  | ttl => exact wr_ttl o V w
  | budgets => exact wr_budgets o V w
  | aim => exact wr_aim o V w
  | birth => exact wr_birth o V w

end Go.Proofs.YtffigmciclopdaaDoor
