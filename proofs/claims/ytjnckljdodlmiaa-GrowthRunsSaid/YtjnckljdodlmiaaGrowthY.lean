/- The walks of layer 8's Insert and Remove, and of the references. -/
import Derived.Test.YtjnckljdodlmiaaGrowthX
namespace Go.Proofs.Ytjnckljdodlmiaa
open Go.RowKit

def insS (g l t : Int) : Int × Bool × Int :=
  if chkS g l t ≠ 0 then (0, false, chkS g l t)
  else if l + t < 7 * g then (g, false, 0)
  else if 2 * l ≤ 7 * g then (g, true, 0)
  else if g < 1048576 then (2 * g, true, 0)
  else if l < 7 * g then (g, true, 0)
  else (0, false, 7)

theorem chkS_ok {g l t : Int} (h : chkS g l t = 0) : validB g = true ∧ 1 ≤ g ∧ g ≤ 1048576 ∧ 0 ≤ l ∧ 0 ≤ t ∧ l + t ≤ 8 * g := by
  unfold chkS at h
  cases hv : validB g with
  | false => rw [hv] at h; simp at h
  | true =>
    rw [hv, if_pos rfl] at h
    have := validB_range hv
    by_cases h2 : 0 ≤ l ∧ 0 ≤ t ∧ l + t ≤ g * 8
    · exact ⟨rfl, by omega⟩
    · rw [if_neg h2] at h; simp at h

def PlanRet (r : Int × Bool × Int) (w : World) (e : Ending) (w' : World) : Prop :=
  e = .returned (.tuple #[.agg #[.int .i64 r.1, .bool r.2.1], .int .i64 r.2.2]) ∧ Below w.heap.size w w'

theorem planRet {r : Int × Bool × Int} {w : World} (g : Int) (b : Bool) (c : Int) (h : r = (g, b, c)) {w' : World} (hb : Below w.heap.size w w') :
    PlanRet r w (.returned (.tuple #[.agg #[.int .i64 g, .bool b], .int .i64 c])) w' := by
  subst h; exact ⟨rfl, hb⟩

theorem own_block {w w1 : World} {o : Obj} (hb : Below (w.alloc o).heap.size (w.alloc o) w1) : w1.heap[w.heap.size]? = some o ∧ w.heap.size < w1.heap.size := by
  have h1 : w.heap.size < (w.alloc o).heap.size := by simp
  refine ⟨(hb.block _ h1).trans ?_, Nat.lt_of_lt_of_le h1 hb.size⟩
  show (w.heap.push o)[w.heap.size]? = some o
  simp

theorem cell_of {w : World} {n : Nat} {c : Array Value} {T : TypeId} {m : Nat × Nat} (h : w.heap[n]? = some (.cells c T m)) (i : Nat) (v : Value) (hv : c[i]? = some v) : w.cell? ⟨n, i, none⟩ = some v := by
  simp [World.cell?, h, hv]

theorem frozen_of {w : World} {n : Nat} {c : Array Value} {T : TypeId} (h : w.heap[n]? = some (.cells c T)) (i : Nat) : w.frozen? ⟨n, i, none⟩ = false := by
  simp [World.frozen?, h]

theorem below_own {w w1 : World} {o : Obj} (hb : Below (w.alloc o).heap.size (w.alloc o) w1) : Below w.heap.size w w1 :=
  ((Below.refl _ _).alloc (Nat.le_refl _) _).trans (hb.mono (by simp))

set_option maxHeartbeats 800000 in
theorem Insert_any (g l t : Int) (w : World) (hl : -9223372036854775808 ≤ l ∧ l ≤ 9223372036854775807) (ht : -9223372036854775808 ≤ t ∧ t ≤ 9223372036854775807) :
    Calls Try.prog 16 #[.int .i64 g, .int .i64 l, .int .i64 t] w (PlanRet (insS g l t) w) := by
  by_cases hc : chkS g l t = 0
  · obtain ⟨_, hg1, hg2, hl0, ht0, hlt⟩ := chkS_ok hc
    by_cases h1 : l + t < 7 * g
    · have hs : insS g l t = (g, false, 0) := by unfold insS; rw [if_neg (by simp [hc]), if_pos h1]
      have HS := Lib.hid hs
      have HC := Lib.hid hc
      clear hs hc
      go_enter Try.func16, Try.ntmps16
      go_wp2_with fail
      refine (check_any _ _ _ _ (by omega) (by omega)).mono ?_
      rw [HC.out]
      rintro e w1 ⟨rfl, hb⟩
      obtain ⟨hblk, hz⟩ := own_block hb
      have hc0 := cell_of hblk 0 _ rfl
      have hc1 := cell_of hblk 1 _ rfl
      have hf := frozen_of hblk
      have HB := Lib.hid (below_own hb)
      have HK := Lib.hid hblk
      clear hb hblk
      go_wp2_with fail
      refine (limit_any _ _ (by omega) (by omega)).mono ?_
      rintro e w' ⟨rfl, rfl⟩
      go_wp2_with fail
      exact bodyPost_ret (v := .tuple #[.agg #[.int .i64 g, .bool false], .int .i64 0]) (by simp [results, Try.results16, go_sem, hc0, hc1, hz]) rfl (planRet _ _ _ HS.out ((((HB.out).setCell (Nat.le_refl _) _).setCell (Nat.le_refl _) _).alloc (by simpa using (HB.out).size) _))
    · by_cases h2 : 2 * l ≤ 7 * g
      · have hs : insS g l t = (g, true, 0) := by unfold insS; rw [if_neg (by simp [hc]), if_neg h1, if_pos h2]
        have HS := Lib.hid hs
        have HC := Lib.hid hc
        clear hs hc
        go_enter Try.func16, Try.ntmps16
        go_wp2_with fail
        refine (check_any _ _ _ _ (by omega) (by omega)).mono ?_
        rw [HC.out]
        rintro e w1 ⟨rfl, hb⟩
        obtain ⟨hblk, hz⟩ := own_block hb
        have hc0 := cell_of hblk 0 _ rfl
        have hc1 := cell_of hblk 1 _ rfl
        have hf := frozen_of hblk
        have HB := Lib.hid (below_own hb)
        have HK := Lib.hid hblk
        clear hb hblk
        go_wp2_with fail
        refine (limit_any _ _ (by omega) (by omega)).mono ?_
        rintro e w' ⟨rfl, rfl⟩
        go_wp2_with fail
        exact bodyPost_ret (v := .tuple #[.agg #[.int .i64 g, .bool true], .int .i64 0]) (by simp [results, Try.results16, go_sem, hc0, hc1, hz]) rfl (planRet _ _ _ HS.out ((((HB.out).setCell (Nat.le_refl _) _).setCell (Nat.le_refl _) _).alloc (by simpa using (HB.out).size) _))
      · by_cases h3 : g < 1048576
        · have hs : insS g l t = (2 * g, true, 0) := by unfold insS; rw [if_neg (by simp [hc]), if_neg h1, if_neg h2, if_pos h3]
          have HS := Lib.hid hs
          have HC := Lib.hid hc
          clear hs hc
          go_enter Try.func16, Try.ntmps16
          go_wp2_with fail
          refine (check_any _ _ _ _ (by omega) (by omega)).mono ?_
          rw [HC.out]
          rintro e w1 ⟨rfl, hb⟩
          obtain ⟨hblk, hz⟩ := own_block hb
          have hc0 := cell_of hblk 0 _ rfl
          have hc1 := cell_of hblk 1 _ rfl
          have hf := frozen_of hblk
          have HB := Lib.hid (below_own hb)
          have HK := Lib.hid hblk
          clear hb hblk
          go_wp2_with fail
          refine (limit_any _ _ (by omega) (by omega)).mono ?_
          rintro e w' ⟨rfl, rfl⟩
          go_wp2_with fail
          exact bodyPost_ret (v := .tuple #[.agg #[.int .i64 (2 * g), .bool true], .int .i64 0]) (by simp [results, Try.results16, go_sem, hc0, hc1, hz]) rfl (planRet _ _ _ HS.out ((((HB.out).setCell (Nat.le_refl _) _).setCell (Nat.le_refl _) _).alloc (by simpa using (HB.out).size) _))
        · by_cases h4 : l < 7 * g
          · have hs : insS g l t = (g, true, 0) := by unfold insS; rw [if_neg (by simp [hc]), if_neg h1, if_neg h2, if_neg h3, if_pos h4]
            have HS := Lib.hid hs
            have HC := Lib.hid hc
            clear hs hc
            go_enter Try.func16, Try.ntmps16
            go_wp2_with fail
            refine (check_any _ _ _ _ (by omega) (by omega)).mono ?_
            rw [HC.out]
            rintro e w1 ⟨rfl, hb⟩
            obtain ⟨hblk, hz⟩ := own_block hb
            have hc0 := cell_of hblk 0 _ rfl
            have hc1 := cell_of hblk 1 _ rfl
            have hf := frozen_of hblk
            have HB := Lib.hid (below_own hb)
            have HK := Lib.hid hblk
            clear hb hblk
            go_wp2_with fail
            refine (limit_any _ _ (by omega) (by omega)).mono ?_
            rintro e w' ⟨rfl, rfl⟩
            go_wp2_with fail
            exact bodyPost_ret (v := .tuple #[.agg #[.int .i64 g, .bool true], .int .i64 0]) (by simp [results, Try.results16, go_sem, hc0, hc1, hz]) rfl (planRet _ _ _ HS.out ((((HB.out).setCell (Nat.le_refl _) _).setCell (Nat.le_refl _) _).alloc (by simpa using (HB.out).size) _))
          · have hs : insS g l t = (0, false, 7) := by unfold insS; rw [if_neg (by simp [hc]), if_neg h1, if_neg h2, if_neg h3, if_neg h4]
            have HS := Lib.hid hs
            have HC := Lib.hid hc
            clear hs hc
            go_enter Try.func16, Try.ntmps16
            go_wp2_with fail
            refine (check_any _ _ _ _ (by omega) (by omega)).mono ?_
            rw [HC.out]
            rintro e w1 ⟨rfl, hb⟩
            obtain ⟨hblk, hz⟩ := own_block hb
            have hc0 := cell_of hblk 0 _ rfl
            have hc1 := cell_of hblk 1 _ rfl
            have hf := frozen_of hblk
            have HB := Lib.hid (below_own hb)
            have HK := Lib.hid hblk
            clear hb hblk
            go_wp2_with fail
            refine (limit_any _ _ (by omega) (by omega)).mono ?_
            rintro e w' ⟨rfl, rfl⟩
            go_wp2_with fail
            exact bodyPost_ret (v := .tuple #[.agg #[.int .i64 0, .bool false], .int .i64 7]) (by simp [results, Try.results16, go_sem, hc0, hc1, hz]) rfl (planRet _ _ _ HS.out ((((HB.out).setCell (Nat.le_refl _) _).setCell (Nat.le_refl _) _).alloc (by simpa using (HB.out).size) _))
  · have hcv : (chkS g l t == 0) = false := by simpa using hc
    have hs : insS g l t = (0, false, chkS g l t) := by unfold insS; rw [if_pos hc]
    have HS := Lib.hid hs
    clear hs hc
    go_enter Try.func16, Try.ntmps16
    go_wp2_with fail
    refine (check_any _ _ _ _ hl ht).mono ?_
    rintro e w1 ⟨rfl, hb⟩
    obtain ⟨hblk, hz⟩ := own_block hb
    have hc0 := cell_of hblk 0 _ rfl
    have hc1 := cell_of hblk 1 _ rfl
    have hf := frozen_of hblk
    have HB := Lib.hid (below_own hb)
    have HK := Lib.hid hblk
    clear hb hblk
    go_wp2_with fail
    exact bodyPost_ret (v := .tuple #[.agg #[.int .i64 0, .bool false], .int .i64 (chkS g l t)]) (by simp [results, Try.results16, go_sem, hc0, hc1]) rfl (planRet _ _ _ HS.out (((HB.out).setCell (Nat.le_refl _) _).setCell (Nat.le_refl _) _))

end Go.Proofs.Ytjnckljdodlmiaa
