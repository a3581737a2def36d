/- A log's methods at a nil and at a zero log (layer 9). -/
import Derived.Test.YtjjhndhigkhkpaaLogK
namespace Go.Proofs.Ytjjhndhigkhkpaa
open Go Go.RowKit

/-- A nil log or a zero one. -/
def ZeroLog (w : World) (p : Option Addr) : Prop := p = none ∨ ∃ b lv n, p = some ⟨b, 0, none⟩ ∧ Blk w b 62 #[.bool false, lv, .int .i64 n]

theorem ZeroLog.below {w w' : World} {p : Option Addr} (h : ZeroLog w p) (hb : Below w.heap.size w w') : ZeroLog w' p := by
  rcases h with h | ⟨b, lv, n, h, k⟩
  · exact .inl h
  · exact .inr ⟨b, lv, n, h, k.below hb⟩
theorem ZeroLog.alloc {w : World} {p : Option Addr} (h : ZeroLog w p) (o : Obj) : ZeroLog (w.alloc o) p := h.below ((Below.refl _ _).alloc (Nat.le_refl _) o)

theorem zeroZ (p : Option Addr) (w : World) (h : ZeroLog w p) :
    Calls Try.prog 29 #[.pointer p] w fun e w' => e = .returned (.bool true) ∧ w = w' := by
  rcases h with rfl | ⟨b, lv, n, rfl, k⟩
  · exact logZero_nil w
  · exact logZero_zero b lv n w k


set_option maxHeartbeats 400000 in
theorem appendZ (p : Option Addr) (k : ByteArray) (v : Value) (bs : List UInt8) (d n : Int) (B : Nat) (w : World) (h : ZeroLog w p) (hb : Bts w B 5 v bs) :
    Calls Try.prog 11 #[.pointer p, .agg #[.string k, v, .int .u64 d, .int .u64 n]] w fun e w' => e = .returned (.tuple #[.int .u32 0, .int .i64 1]) ∧ Below w.heap.size w w' := by
  obtain ⟨A, cap, rfl⟩ := hb.form
  have HZ := Lib.hid h
  clear h hb
  go_enter Try.func11, Try.ntmps11
  go_wp2_with (go_at_call 29; refine (zeroZ _ _ (HZ.out.alloc _)).mono ?_; rintro e w' ⟨rfl, rfl⟩)
  go_ret2
  exact ⟨rfl, (Below.refl _ _).alloc (Nat.le_refl _) _⟩

set_option maxHeartbeats 400000 in
theorem atZ (p : Option Addr) (i : Int) (w : World) (h : ZeroLog w p) :
    Calls Try.prog 31 #[.pointer p, .int .u32 i] w fun e w' => e = .returned (.tuple #[.pointer none, .int .i64 1]) ∧ w = w' := by
  have HZ := Lib.hid h
  clear h
  go_enter Try.func31, Try.ntmps31
  go_wp2_with (go_at_call 29; refine (zeroZ _ _ HZ.out).mono ?_; rintro e w' ⟨rfl, rfl⟩)
  go_ret2
  exact ⟨rfl, rfl⟩

set_option maxHeartbeats 400000 in
theorem getZ (p : Option Addr) (i : Int) (w : World) (h : ZeroLog w p) :
    Calls Try.prog 16 #[.pointer p, .int .u32 i] w fun e w' => e = noEnt 1 ∧ Below w.heap.size w w' := by
  have HA := Lib.hid (atZ p i _ (h.alloc ZE))
  clear h
  go_enter Try.func16, Try.ntmps16
  go_wp2_with fail
  refine HA.out.mono ?_
  rintro e w' ⟨rfl, rfl⟩
  unfold ZE
  go_wp2_with fail
  exact bodyPost_ret (v := .tuple #[.agg #[.string ⟨#[]⟩, .slice none 0 0, .int .u64 0, .int .u64 0], .int .i64 1]) (by simp [results, Try.results16, go_sem]) rfl ⟨rfl, (Below.refl _ _).alloc (Nat.le_refl _) _⟩

set_option maxHeartbeats 400000 in
theorem removeZ (p : Option Addr) (i : Int) (w : World) (h : ZeroLog w p) :
    Calls Try.prog 15 #[.pointer p, .int .u32 i] w fun e w' => e = noEnt 1 ∧ Below w.heap.size w w' := by
  have HA := Lib.hid (atZ p i _ (h.alloc ZE))
  clear h
  go_enter Try.func15, Try.ntmps15
  go_wp2_with fail
  refine HA.out.mono ?_
  rintro e w' ⟨rfl, rfl⟩
  unfold ZE
  go_wp2_with fail
  exact bodyPost_ret (v := .tuple #[.agg #[.string ⟨#[]⟩, .slice none 0 0, .int .u64 0, .int .u64 0], .int .i64 1]) (by simp [results, Try.results15, go_sem]) rfl ⟨rfl, (Below.refl _ _).alloc (Nat.le_refl _) _⟩

set_option maxHeartbeats 400000 in
theorem keyZ (p : Option Addr) (i : Int) (w : World) (h : ZeroLog w p) :
    Calls Try.prog 24 #[.pointer p, .int .u32 i] w fun e w' => e = .returned (.tuple #[.string ⟨#[]⟩, .int .i64 1]) ∧ w = w' := by
  have HA := Lib.hid (atZ p i _ h)
  clear h
  go_enter Try.func24, Try.ntmps24
  go_wp2_with fail
  refine HA.out.mono ?_
  rintro e w' ⟨rfl, rfl⟩
  go_wp2_with fail
  go_ret2
  exact ⟨rfl, rfl⟩

set_option maxHeartbeats 400000 in
theorem setZ (p : Option Addr) (i : Int) (v : Value) (d : Int) (w : World) (h : ZeroLog w p) :
    Calls Try.prog 12 #[.pointer p, .int .u32 i, v, .int .u64 d] w fun e w' => e = .returned (.int .i64 1) ∧ w = w' := by
  have HA := Lib.hid (atZ p i _ h)
  clear h
  go_enter Try.func12, Try.ntmps12
  go_wp2_with fail
  refine HA.out.mono ?_
  rintro e w' ⟨rfl, rfl⟩
  go_wp2_with fail
  go_ret
  exact ⟨rfl, rfl⟩

set_option maxHeartbeats 400000 in
theorem lenZ (p : Option Addr) (w : World) (h : ZeroLog w p) :
    Calls Try.prog 13 #[.pointer p] w fun e w' => e = .returned (.int .i64 0) ∧ w = w' := by
  have HZ := Lib.hid h
  clear h
  go_enter Try.func13, Try.ntmps13
  go_wp2_with (go_at_call 29; refine (zeroZ _ _ HZ.out).mono ?_; rintro e w' ⟨rfl, rfl⟩)
  go_ret
  exact ⟨rfl, rfl⟩

set_option maxHeartbeats 400000 in
theorem liveZ (p : Option Addr) (w : World) (h : ZeroLog w p) :
    Calls Try.prog 17 #[.pointer p] w fun e w' => e = .returned (.int .i64 0) ∧ w = w' := by
  have HZ := Lib.hid h
  clear h
  go_enter Try.func17, Try.ntmps17
  go_wp2_with (go_at_call 29; refine (zeroZ _ _ HZ.out).mono ?_; rintro e w' ⟨rfl, rfl⟩)
  go_ret
  exact ⟨rfl, rfl⟩

set_option maxHeartbeats 400000 in
theorem copyZ (p : Option Addr) (w : World) (h : ZeroLog w p) :
    Calls Try.prog 26 #[.pointer p] w fun e w' => e = .returned (.pointer none) ∧ w = w' := by
  have HZ := Lib.hid h
  clear h
  go_enter Try.func26, Try.ntmps26
  go_wp2_with (go_at_call 29; refine (zeroZ _ _ HZ.out).mono ?_; rintro e w' ⟨rfl, rfl⟩)
  go_ret
  exact ⟨rfl, rfl⟩

set_option maxHeartbeats 400000 in
theorem nextZ (p : Option Addr) (i : Int) (w : World) (h : ZeroLog w p) :
    Calls Try.prog 25 #[.pointer p, .int .u32 i, .int .u32 0, .int .i64 1] w fun e w' => e = .returned (.bool true) ∧ w = w' := by
  have HC : Calls Try.prog 43 #[.pointer p, .int .u32 i] w fun e w' => e = .returned (.tuple #[.int .u32 0, .int .i64 1]) ∧ w = w' := by
    have HZ := Lib.hid h
    clear h
    go_enter Try.func43, Try.ntmps43
    go_wp2_with (go_at_call 29; refine (zeroZ _ _ HZ.out).mono ?_; rintro e w' ⟨rfl, rfl⟩)
    go_ret2
    exact ⟨rfl, rfl⟩
  have HC := Lib.hid HC
  clear h
  go_enter Try.func25, Try.ntmps25
  go_wp2_with fail
  refine HC.out.mono ?_
  rintro e w1 ⟨rfl, rfl⟩
  go_wp2_with fail
  go_ret
  exact ⟨rfl, rfl⟩

set_option maxHeartbeats 400000 in
theorem allZ (p : Option Addr) (w : World) (h : ZeroLog w p) :
    Calls Try.prog 21 #[.pointer p] w fun e w' =>
      e = .returned (.func (.func 42) #[] #[.pointer (some ⟨w.heap.size, 0, none⟩)]) ∧ (∃ lv', Blk w' w.heap.size 47 #[lv'] ∧ w'.ownsRow w.heap.size 31 4 lv' 0 (ecs [])) ∧ Below w.heap.size w w' := by
  have HZ := Lib.hid h
  clear h
  go_enter Try.func21, Try.ntmps21
  go_wp2_with (go_at_call 29; refine (zeroZ _ _ (HZ.out.alloc _)).mono ?_; rintro e w' ⟨rfl, rfl⟩)
  go_ret
  exact ⟨rfl, ⟨_, Blk.new _ _ _, World.ownsRow_nil _ _ _ _⟩, (Below.refl _ _).alloc (Nat.le_refl _) _⟩

theorem slotsZ (p : Option Addr) (w : World) (h : ZeroLog w p) :
    Calls Try.prog 27 #[.pointer p, .slice none 0 0] w fun e w' => e = .returned (.bool true) ∧ Below w.heap.size w w' :=
  slots_gen 0 p (.slice none 0 0) [] [] w (fun o1 o2 => allZ p _ ((h.alloc o1).alloc o2)) (by simp) (by simp) (World.ownsRow_nil _ _ _ _) rfl (by simp)

end Go.Proofs.Ytjjhndhigkhkpaa
