/- The walks of layer 13's functions: size classes, New, zero, Used. -/
import Derived.Test.YtookfhmghchkjaaSlabK
import Derived.Test.YtookfhmghchkjaaShelf
import Derived.Test.YtookfhmghchkjaaRows
import Derived.WalkKit
import Derived.WalkSpells
import Derived.WalkLawsBesides
import Derived.BigQuiet
import Derived.Deep.QuietTactic
import Derived.Deep.RegionLaw
import Derived.RegionTactic
import Derived.Lib.Hide
import Derived.Deep.RegionHeldLaw
import Derived.Deep.AppendLies
import Derived.Deep.DrawnRows
import Derived.Deep.DeepCutAuto
import Derived.OwnWalk
namespace Go.Proofs.Ytookfhmghchkjaa
open Go Go.RowKit
attribute [local go_sem ↓] Go.wp_at_zero Go.wp_at_succ

set_option maxHeartbeats 1000000 in
theorem slabsize_any (k : Nat) (hk : k < 13) (w : World) :
    Calls Try.prog 28 #[.int .i64 k] w fun e w' => e = .returned (.int .i64 (csize k)) ∧ w' = w := by
  rcases thirteen hk with rfl | rfl | rfl | rfl | rfl | rfl | rfl | rfl | rfl | rfl | rfl | rfl | rfl <;>
    (go_enter Try.func28, Try.ntmps28
     go_wp2
     go_ret
     exact ⟨rfl, rfl⟩)

set_option maxHeartbeats 1000000 in
theorem slabClass_ok (n : Nat) (h : n ≤ 65536) (w : World) :
    Calls Try.prog 27 #[.int .i64 n] w fun e w' => e = .returned (.tuple #[.int .i64 (classN n), .int .i64 0]) ∧ w' = w := by
  go_enter Try.func27, Try.ntmps27
  have hnI : (n : Int) ≤ 65536 := by omega
  have hn0 : ¬ (n : Int) < 0 := by omega
  have hc : (csize 12 : Int) = 65536 := rfl
  have hq : (max 0 ((n : Int) - 1) / 16).toNat = (n - 1) / 16 := by omega
  go_wp2_with (first
    | (go_at_call 28; refine (slabsize_any 12 (by decide) _).mono ?_; rintro e w' ⟨rfl, rfl⟩; rw [hc])
    | (go_at_call 44; refine (Try.bits_Len _ _ (by omega) (by omega)).mono ?_; rw [hq]; rintro e w' ⟨rfl, rfl⟩))
  go_ret2
  exact ⟨rfl, rfl⟩

theorem slabClass_bad (n : Int) (h : n < 0 ∨ 65536 < n) (w : World) :
    Calls Try.prog 27 #[.int .i64 n] w fun e w' => e = .returned (.tuple #[.int .i64 0, .int .i64 3]) ∧ w' = w := by
  go_enter Try.func27, Try.ntmps27
  have hc : (csize 12 : Int) = 65536 := rfl
  by_cases h0 : n < 0
  · go_wp2_with (go_at_call 28; refine (slabsize_any 12 (by decide) _).mono ?_; rintro e w' ⟨rfl, rfl⟩; rw [hc])
    go_ret2
    exact ⟨rfl, rfl⟩
  · have h1 : 65536 < n := by omega
    go_wp2_with (go_at_call 28; refine (slabsize_any 12 (by decide) _).mono ?_; rintro e w' ⟨rfl, rfl⟩; rw [hc])
    go_ret2
    exact ⟨rfl, rfl⟩

theorem slabSize_ok (k : Nat) (hk : k < 13) (w : World) :
    Calls Try.prog 10 #[.int .i64 k] w fun e w' => e = .returned (.tuple #[.int .i64 (csize k), .int .i64 0]) ∧ w' = w := by
  go_enter Try.func10, Try.ntmps10
  have hkI : (k : Int) < 13 := by omega
  have hk0 : ¬ (k : Int) < 0 := by omega
  go_wp2_with (go_at_call 28; refine (slabsize_any k hk _).mono ?_; rintro e w' ⟨rfl, rfl⟩)
  go_ret2
  exact ⟨rfl, rfl⟩

theorem slabSize_bad (n : Int) (h : n < 0 ∨ 12 < n) (w : World) :
    Calls Try.prog 10 #[.int .i64 n] w fun e w' => e = .returned (.tuple #[.int .i64 0, .int .i64 3]) ∧ w' = w := by
  go_enter Try.func10, Try.ntmps10
  by_cases h0 : n < 0
  · go_wp2
    go_ret2
    exact ⟨rfl, rfl⟩
  · have h1 : 13 ≤ n := by omega
    go_wp2
    go_ret2
    exact ⟨rfl, rfl⟩

/-- The shelves of a new arena. -/
def sh0 : Nat → ShV := fun _ => ⟨.slice none 0 0, .slice none 0 0, [], []⟩

theorem slabNew_ok (most : Int) (h0 : 0 ≤ most) (h1 : most ≤ 1099511627776) (w : World) :
    Calls Try.prog 14 #[.int .i64 most] w fun e w' => e = .returned (.tuple #[.pointer (some ⟨w.heap.size, 0, none⟩), .int .i64 0]) ∧ w' = w.alloc (.cells (acells most sh0).toArray 65) := by
  go_enter Try.func14, Try.ntmps14
  have h2 : ¬ most < 0 := by omega
  go_wp2
  go_ret2
  exact ⟨rfl, rfl⟩

theorem slabNew_bad (most : Int) (h : most < 0 ∨ 1099511627776 < most) (w : World) :
    Calls Try.prog 14 #[.int .i64 most] w fun e w' => e = .returned (.tuple #[.pointer none, .int .i64 2]) ∧ w' = w := by
  go_enter Try.func14, Try.ntmps14
  by_cases h0 : most < 0
  · go_wp2
    go_ret2
    exact ⟨rfl, rfl⟩
  · have h1 : 1099511627776 < most := by omega
    go_wp2
    go_ret2
    exact ⟨rfl, rfl⟩

theorem slabNew_rep (w : World) (B : Nat) (hB : B ≤ w.heap.size) (most : Int) : SRep (w.alloc (.cells (acells most sh0).toArray 65)) B w.heap.size most sh0 :=
  ⟨Blk.new _ _ _, fun _ _ => World.ownsRow_nil _ _ _ _, fun _ _ => World.ownsRow_nil _ _ _ _, (fun _ _ c hc => by cases hc), (fun _ _ _ _ _ g e => by cases e), (fun _ _ _ _ _ g e => by cases e), hB⟩

theorem slabzero_some (b : Nat) (v : Array Value) (w : World) (h : Blk w b 65 v) (h0 : v[0]? = some (.bool true)) :
    Calls Try.prog 31 #[.pointer (some ⟨b, 0, none⟩)] w fun e w' => e = .returned (.bool false) ∧ w' = w := by
  have x0 := h.cell 0 _ h0
  go_enter Try.func31, Try.ntmps31
  go_wp2
  go_ret
  exact ⟨rfl, rfl⟩
theorem slabzero_blank (b : Nat) (v : Array Value) (w : World) (h : Blk w b 65 v) (h0 : v[0]? = some (.bool false)) :
    Calls Try.prog 31 #[.pointer (some ⟨b, 0, none⟩)] w fun e w' => e = .returned (.bool true) ∧ w' = w := by
  have x0 := h.cell 0 _ h0
  go_enter Try.func31, Try.ntmps31
  go_wp2
  go_ret
  exact ⟨rfl, rfl⟩
theorem slabzero_nil (w : World) :
    Calls Try.prog 31 #[.pointer none] w fun e w' => e = .returned (.bool true) ∧ w' = w := by
  go_enter Try.func31, Try.ntmps31
  go_wp2
  go_ret
  exact ⟨rfl, rfl⟩

theorem SRep.zero {w : World} {B b : Nat} {most : Int} {sh : Nat → ShV} (h : SRep w B b most sh) : Calls Try.prog 31 #[.pointer (some ⟨b, 0, none⟩)] w fun e w' => e = .returned (.bool false) ∧ w' = w := slabzero_some b _ w h.blk rfl

end Go.Proofs.Ytookfhmghchkjaa
