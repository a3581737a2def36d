/- The walk of layer 8's law's examples. -/
import Derived.Test.YtjnckljdodlmiaaGrowthK
namespace Go.Proofs.Ytjnckljdodlmiaa
open Go.RowKit

theorem own_at {w w1 : World} {o : Obj} {B : Nat} (hB : w.heap.size < B) (hb : Below B (w.alloc o) w1) : w1.heap[w.heap.size]? = some o ∧ w.heap.size < w1.heap.size := by
  have h1 : w.heap.size < (w.alloc o).heap.size := by simp
  refine ⟨(hb.block _ hB).trans ?_, Nat.lt_of_lt_of_le h1 hb.size⟩
  show (w.heap.push o)[w.heap.size]? = some o
  simp

theorem advB {w w2 : World} {n : Nat} {o : Obj} (h : w.heap[n]? = some o) (hb : Below w.heap.size w w2) : w2.heap[n]? = some o := by
  have : n < w.heap.size := by
    rcases Nat.lt_or_ge n w.heap.size with h2 | h2
    · exact h2
    · rw [Array.getElem?_eq_none h2] at h; cases h
  exact (hb.block n this).trans h

theorem adv {w w2 : World} {n : Nat} {o x : Obj} (h : w.heap[n]? = some o) (hb : Below (w.alloc x).heap.size (w.alloc x) w2) : w2.heap[n]? = some o :=
  advB h (below_own hb)

theorem set2 {w : World} {n : Nat} {T : TypeId} {u0 u1 : Value} (v0 v1 : Value) (h : w.heap[n]? = some (.cells #[u0, u1] T)) :
    ((w.setCell ⟨n, 0, none⟩ v0).setCell ⟨n, 1, none⟩ v1).heap[n]? = some (.cells #[v0, v1] T) := by
  simp [World.setCell, Array.getElem?_modify, h]

theorem set2o {w : World} {n m : Nat} {o : Obj} (v0 v1 : Value) (h : w.heap[m]? = some o) (hne : n ≠ m) :
    ((w.setCell ⟨n, 0, none⟩ v0).setCell ⟨n, 1, none⟩ v1).heap[m]? = some o := by
  simp [World.setCell, Array.getElem?_modify, h, hne]

/-- After the world 'w' with a block, and more behind it. -/
structure After (w : World) (o : Obj) (w1 : World) : Prop where
  below : Below w.heap.size w w1
  block : w1.heap[w.heap.size]? = some o
  size : w.heap.size < w1.heap.size

theorem After.start (w : World) (o : Obj) : After w o (w.alloc o) :=
  ⟨(Below.refl _ _).alloc (Nat.le_refl _) _, by show (w.heap.push o)[w.heap.size]? = some o; simp, by simp⟩

theorem After.step {w w1 w2 : World} {o : Obj} (h : After w o w1) (hb : Below w1.heap.size w1 w2) : After w o w2 :=
  ⟨h.below.trans (hb.mono (Nat.le_of_lt h.size)), (hb.block _ h.size).trans h.block, Nat.lt_of_lt_of_le h.size hb.size⟩

theorem plan_at (g g' c c' : Int) (r r' : Bool) (w : World) (hg : g = g') (hr : r = r') (hc : c = c') :
    Calls Try.prog 26 #[.agg #[.int .i64 g, .bool r], .int .i64 c, .int .i64 g', .bool r', .int .i64 c'] w fun e w' => e = .returned (.bool true) ∧ Below w.heap.size w w' := by
  subst hg hr hc
  exact plan_same g c r w


set_option maxRecDepth 100000 in
set_option maxHeartbeats 4000000 in
theorem known_any (w : World) :
    Calls Try.prog 15 #[] w fun e w' => e = .returned (.bool true) ∧ Below w.heap.size w w' := by
  go_enter Try.func15, Try.ntmps15
  go_wp2_with fail
  go_loopw [26] (fun i wr => ∃ k : Nat, k ≤ 3 ∧ i = .int .i64 k ∧ After w (.cells #[.int .i64 1, .int .i64 7, .int .i64 0, .int .i64 4, .int .i64 28, .int .i64 0, .int .i64 3, .int .i64 0, .int .i64 2] 43) wr) (fun i _ => 3 - (intOf i).toNat)
  case atStart => exact ⟨0, by omega, rfl, After.start _ _⟩
  case round =>
    obtain ⟨k, hk, rfl, hh⟩ := hrel
    have H := Lib.hid hh
    have hblk := hh.block
    have hz := hh.size
    clear hh
    rcases (by omega : k = 0 ∨ k = 1 ∨ k = 2 ∨ k = 3) with rfl | rfl | rfl | rfl
    · have h0 := cell_of hblk 0 _ rfl
      have h1 := cell_of hblk 1 _ rfl
      have h2 := cell_of hblk 2 _ rfl
      go_wp2_with fail
      refine (Limit_any _ _).mono ?_
      rw [show limS 1 = (7, 0) from by decide +kernel]
      rintro e w1 ⟨rfl, hb1⟩
      obtain ⟨hblk1, hz1⟩ := own_block hb1
      have H1 := Lib.hid (below_own hb1)
      have k0 := cell_of hblk1 0 _ rfl
      have k1 := cell_of hblk1 1 _ rfl
      have k2 := cell_of hblk1 2 _ rfl
      clear hb1 hblk
      go_wp2_with fail
      refine (is_same _ _ _).mono ?_
      rintro e w' ⟨rfl, rfl⟩
      go_wp2_with fail
      go_roundw
      case rel => first | exact ⟨1, by omega, by go_num, H.out.step H1.out⟩ | ((repeat apply Exists.intro); exact ⟨⟨1, by omega, by go_num, H.out.step H1.out⟩, rfl⟩)
      case measure => simp [intOf]
    · have h0 := cell_of hblk 3 _ rfl
      have h1 := cell_of hblk 4 _ rfl
      have h2 := cell_of hblk 5 _ rfl
      go_wp2_with fail
      refine (Limit_any _ _).mono ?_
      rw [show limS 4 = (28, 0) from by decide +kernel]
      rintro e w1 ⟨rfl, hb1⟩
      obtain ⟨hblk1, hz1⟩ := own_block hb1
      have H1 := Lib.hid (below_own hb1)
      have k0 := cell_of hblk1 0 _ rfl
      have k1 := cell_of hblk1 1 _ rfl
      have k2 := cell_of hblk1 2 _ rfl
      clear hb1 hblk
      go_wp2_with fail
      refine (is_same _ _ _).mono ?_
      rintro e w' ⟨rfl, rfl⟩
      go_wp2_with fail
      go_roundw
      case rel => first | exact ⟨2, by omega, by go_num, H.out.step H1.out⟩ | ((repeat apply Exists.intro); exact ⟨⟨2, by omega, by go_num, H.out.step H1.out⟩, rfl⟩)
      case measure => simp [intOf]
    · have h0 := cell_of hblk 6 _ rfl
      have h1 := cell_of hblk 7 _ rfl
      have h2 := cell_of hblk 8 _ rfl
      go_wp2_with fail
      refine (Limit_any _ _).mono ?_
      rw [show limS 3 = (0, 2) from by decide +kernel]
      rintro e w1 ⟨rfl, hb1⟩
      obtain ⟨hblk1, hz1⟩ := own_block hb1
      have H1 := Lib.hid (below_own hb1)
      have k0 := cell_of hblk1 0 _ rfl
      have k1 := cell_of hblk1 1 _ rfl
      have k2 := cell_of hblk1 2 _ rfl
      clear hb1 hblk
      go_wp2_with fail
      refine (is_same _ _ _).mono ?_
      rintro e w' ⟨rfl, rfl⟩
      go_wp2_with fail
      go_roundw
      case rel => first | exact ⟨3, by omega, by go_num, H.out.step H1.out⟩ | ((repeat apply Exists.intro); exact ⟨⟨3, by omega, by go_num, H.out.step H1.out⟩, rfl⟩)
      case measure => simp [intOf]
    · clear hblk
      have HB1 := Lib.hid H.out.below
      clear H
      go_wp2_with fail
      obtain ⟨wo, hwo⟩ : ∃ wo : World, wo = wr := ⟨_, rfl⟩
      subst hwo
      go_loopw [51] (fun i wr => ∃ k : Nat, k ≤ 4 ∧ i = .int .i64 k ∧ After wo (.cells #[.int .i64 0, .int .i64 16, .int .i64 1, .int .i64 32, .int .i64 12, .int .i64 64, .int .i64 13, .int .i64 128] 45) wr) (fun i _ => 4 - (intOf i).toNat)
      case atStart => exact ⟨0, by omega, rfl, After.start _ _⟩
      case round =>
        obtain ⟨k, hk, rfl, hh⟩ := hrel
        have H := Lib.hid hh
        have hblk := hh.block
        have hz := hh.size
        clear hh
        rcases (by omega : k = 0 ∨ k = 1 ∨ k = 2 ∨ k = 3 ∨ k = 4) with rfl | rfl | rfl | rfl | rfl
        · have h0 := cell_of hblk 0 _ rfl
          have h1 := cell_of hblk 1 _ rfl
          skip
          go_wp2_with fail
          refine (Bound_any _ _).mono ?_
          rw [show bndS 0 = (16, 0) from by decide +kernel]
          rintro e w1 ⟨rfl, hb1⟩
          obtain ⟨hblk1, hz1⟩ := own_block hb1
          have H1 := Lib.hid (below_own hb1)
          have k0 := cell_of hblk1 0 _ rfl
          have k1 := cell_of hblk1 1 _ rfl
          skip
          clear hb1 hblk
          go_wp2_with fail
          refine (is_same _ _ _).mono ?_
          rintro e w' ⟨rfl, rfl⟩
          go_wp2_with fail
          go_roundw
          case rel => first | exact ⟨1, by omega, by go_num, H.out.step H1.out⟩ | ((repeat apply Exists.intro); exact ⟨⟨1, by omega, by go_num, H.out.step H1.out⟩, rfl⟩)
          case measure => simp [intOf]
        · have h0 := cell_of hblk 2 _ rfl
          have h1 := cell_of hblk 3 _ rfl
          skip
          go_wp2_with fail
          refine (Bound_any _ _).mono ?_
          rw [show bndS 1 = (32, 0) from by decide +kernel]
          rintro e w1 ⟨rfl, hb1⟩
          obtain ⟨hblk1, hz1⟩ := own_block hb1
          have H1 := Lib.hid (below_own hb1)
          have k0 := cell_of hblk1 0 _ rfl
          have k1 := cell_of hblk1 1 _ rfl
          skip
          clear hb1 hblk
          go_wp2_with fail
          refine (is_same _ _ _).mono ?_
          rintro e w' ⟨rfl, rfl⟩
          go_wp2_with fail
          go_roundw
          case rel => first | exact ⟨2, by omega, by go_num, H.out.step H1.out⟩ | ((repeat apply Exists.intro); exact ⟨⟨2, by omega, by go_num, H.out.step H1.out⟩, rfl⟩)
          case measure => simp [intOf]
        · have h0 := cell_of hblk 4 _ rfl
          have h1 := cell_of hblk 5 _ rfl
          skip
          go_wp2_with fail
          refine (Bound_any _ _).mono ?_
          rw [show bndS 12 = (64, 0) from by decide +kernel]
          rintro e w1 ⟨rfl, hb1⟩
          obtain ⟨hblk1, hz1⟩ := own_block hb1
          have H1 := Lib.hid (below_own hb1)
          have k0 := cell_of hblk1 0 _ rfl
          have k1 := cell_of hblk1 1 _ rfl
          skip
          clear hb1 hblk
          go_wp2_with fail
          refine (is_same _ _ _).mono ?_
          rintro e w' ⟨rfl, rfl⟩
          go_wp2_with fail
          go_roundw
          case rel => first | exact ⟨3, by omega, by go_num, H.out.step H1.out⟩ | ((repeat apply Exists.intro); exact ⟨⟨3, by omega, by go_num, H.out.step H1.out⟩, rfl⟩)
          case measure => simp [intOf]
        · have h0 := cell_of hblk 6 _ rfl
          have h1 := cell_of hblk 7 _ rfl
          skip
          go_wp2_with fail
          refine (Bound_any _ _).mono ?_
          rw [show bndS 13 = (128, 0) from by decide +kernel]
          rintro e w1 ⟨rfl, hb1⟩
          obtain ⟨hblk1, hz1⟩ := own_block hb1
          have H1 := Lib.hid (below_own hb1)
          have k0 := cell_of hblk1 0 _ rfl
          have k1 := cell_of hblk1 1 _ rfl
          skip
          clear hb1 hblk
          go_wp2_with fail
          refine (is_same _ _ _).mono ?_
          rintro e w' ⟨rfl, rfl⟩
          go_wp2_with fail
          go_roundw
          case rel => first | exact ⟨4, by omega, by go_num, H.out.step H1.out⟩ | ((repeat apply Exists.intro); exact ⟨⟨4, by omega, by go_num, H.out.step H1.out⟩, rfl⟩)
          case measure => simp [intOf]
        · clear hblk
          have HB2 := Lib.hid (HB1.out.trans (H.out.below.mono HB1.out.size))
          clear H HB1
          go_wp2_with fail
          obtain ⟨wo2, hwo2⟩ : ∃ wo2 : World, wo2 = wr := ⟨_, rfl⟩
          subst hwo2
          go_loopw [75] (fun i wr => ∃ k : Nat, k ≤ 5 ∧ i = .int .i64 k ∧ After wo2 (.cells #[.int .i64 0, .int .i64 1, .int .i64 0, .int .i64 7, .int .i64 1, .int .i64 0, .int .i64 8, .int .i64 2, .int .i64 0, .int .i64 57, .int .i64 16, .int .i64 0, .int .i64 (-1), .int .i64 0, .int .i64 3] 43) wr) (fun i _ => 5 - (intOf i).toNat)
          case atStart => exact ⟨0, by omega, rfl, After.start _ _⟩
          case round =>
            obtain ⟨k, hk, rfl, hh⟩ := hrel
            have H := Lib.hid hh
            have hblk := hh.block
            have hz := hh.size
            clear hh
            rcases (by omega : k = 0 ∨ k = 1 ∨ k = 2 ∨ k = 3 ∨ k = 4 ∨ k = 5) with rfl | rfl | rfl | rfl | rfl | rfl
            · have h0 := cell_of hblk 0 _ rfl
              have h1 := cell_of hblk 1 _ rfl
              have h2 := cell_of hblk 2 _ rfl
              go_wp2_with fail
              refine (Groups_any _ _).mono ?_
              rw [show grpS 0 = (1, 0) from by decide +kernel]
              rintro e w1 ⟨rfl, hb1⟩
              obtain ⟨hblk1, hz1⟩ := own_block hb1
              have H1 := Lib.hid (below_own hb1)
              have k0 := cell_of hblk1 0 _ rfl
              have k1 := cell_of hblk1 1 _ rfl
              have k2 := cell_of hblk1 2 _ rfl
              clear hb1 hblk
              go_wp2_with fail
              refine (is_same _ _ _).mono ?_
              rintro e w' ⟨rfl, rfl⟩
              go_wp2_with fail
              go_roundw
              case rel => first | exact ⟨1, by omega, by go_num, H.out.step H1.out⟩ | ((repeat apply Exists.intro); exact ⟨⟨1, by omega, by go_num, H.out.step H1.out⟩, rfl⟩)
              case measure => simp [intOf]
            · have h0 := cell_of hblk 3 _ rfl
              have h1 := cell_of hblk 4 _ rfl
              have h2 := cell_of hblk 5 _ rfl
              go_wp2_with fail
              refine (Groups_any _ _).mono ?_
              rw [show grpS 7 = (1, 0) from by decide +kernel]
              rintro e w1 ⟨rfl, hb1⟩
              obtain ⟨hblk1, hz1⟩ := own_block hb1
              have H1 := Lib.hid (below_own hb1)
              have k0 := cell_of hblk1 0 _ rfl
              have k1 := cell_of hblk1 1 _ rfl
              have k2 := cell_of hblk1 2 _ rfl
              clear hb1 hblk
              go_wp2_with fail
              refine (is_same _ _ _).mono ?_
              rintro e w' ⟨rfl, rfl⟩
              go_wp2_with fail
              go_roundw
              case rel => first | exact ⟨2, by omega, by go_num, H.out.step H1.out⟩ | ((repeat apply Exists.intro); exact ⟨⟨2, by omega, by go_num, H.out.step H1.out⟩, rfl⟩)
              case measure => simp [intOf]
            · have h0 := cell_of hblk 6 _ rfl
              have h1 := cell_of hblk 7 _ rfl
              have h2 := cell_of hblk 8 _ rfl
              go_wp2_with fail
              refine (Groups_any _ _).mono ?_
              rw [show grpS 8 = (2, 0) from by decide +kernel]
              rintro e w1 ⟨rfl, hb1⟩
              obtain ⟨hblk1, hz1⟩ := own_block hb1
              have H1 := Lib.hid (below_own hb1)
              have k0 := cell_of hblk1 0 _ rfl
              have k1 := cell_of hblk1 1 _ rfl
              have k2 := cell_of hblk1 2 _ rfl
              clear hb1 hblk
              go_wp2_with fail
              refine (is_same _ _ _).mono ?_
              rintro e w' ⟨rfl, rfl⟩
              go_wp2_with fail
              go_roundw
              case rel => first | exact ⟨3, by omega, by go_num, H.out.step H1.out⟩ | ((repeat apply Exists.intro); exact ⟨⟨3, by omega, by go_num, H.out.step H1.out⟩, rfl⟩)
              case measure => simp [intOf]
            · have h0 := cell_of hblk 9 _ rfl
              have h1 := cell_of hblk 10 _ rfl
              have h2 := cell_of hblk 11 _ rfl
              go_wp2_with fail
              refine (Groups_any _ _).mono ?_
              rw [show grpS 57 = (16, 0) from by decide +kernel]
              rintro e w1 ⟨rfl, hb1⟩
              obtain ⟨hblk1, hz1⟩ := own_block hb1
              have H1 := Lib.hid (below_own hb1)
              have k0 := cell_of hblk1 0 _ rfl
              have k1 := cell_of hblk1 1 _ rfl
              have k2 := cell_of hblk1 2 _ rfl
              clear hb1 hblk
              go_wp2_with fail
              refine (is_same _ _ _).mono ?_
              rintro e w' ⟨rfl, rfl⟩
              go_wp2_with fail
              go_roundw
              case rel => first | exact ⟨4, by omega, by go_num, H.out.step H1.out⟩ | ((repeat apply Exists.intro); exact ⟨⟨4, by omega, by go_num, H.out.step H1.out⟩, rfl⟩)
              case measure => simp [intOf]
            · have h0 := cell_of hblk 12 _ rfl
              have h1 := cell_of hblk 13 _ rfl
              have h2 := cell_of hblk 14 _ rfl
              go_wp2_with fail
              refine (Groups_any _ _).mono ?_
              rw [show grpS (-1) = (0, 3) from by decide +kernel]
              rintro e w1 ⟨rfl, hb1⟩
              obtain ⟨hblk1, hz1⟩ := own_block hb1
              have H1 := Lib.hid (below_own hb1)
              have k0 := cell_of hblk1 0 _ rfl
              have k1 := cell_of hblk1 1 _ rfl
              have k2 := cell_of hblk1 2 _ rfl
              clear hb1 hblk
              go_wp2_with fail
              refine (is_same _ _ _).mono ?_
              rintro e w' ⟨rfl, rfl⟩
              go_wp2_with fail
              go_roundw
              case rel => first | exact ⟨5, by omega, by go_num, H.out.step H1.out⟩ | ((repeat apply Exists.intro); exact ⟨⟨5, by omega, by go_num, H.out.step H1.out⟩, rfl⟩)
              case measure => simp [intOf]
            · clear hblk
              have HB3 := Lib.hid (HB2.out.trans (H.out.below.mono HB2.out.size))
              clear H HB2
              go_wp2_with fail
              refine (Insert_any _ _ _ _ (by omega) (by omega)).mono ?_
              rw [show insS 1 6 0 = (1, false, 0) from by decide +kernel]
              rintro e w1 ⟨rfl, hb⟩
              have HG := Lib.hid (HB3.out.trans (hb.mono HB3.out.size))
              clear HB3 hb
              have zz := HG.out.size
              go_wp2_with fail
              refine (Insert_any _ _ _ _ (by omega) (by omega)).mono ?_
              rw [show insS 1 3 4 = (1, true, 0) from by decide +kernel]
              rintro e w2 ⟨rfl, hb⟩
              have HA := Lib.hid (own_block hb).1
              have s_A := (own_block hb).2
              have HG := Lib.hid (HG.out.trans ((below_own hb).mono HG.out.size))
              clear hb
              go_wp2_with fail
              refine (Insert_any _ _ _ _ (by omega) (by omega)).mono ?_
              rw [show insS 1 4 3 = (2, true, 0) from by decide +kernel]
              rintro e w3 ⟨rfl, hb⟩
              have HA := Lib.hid (adv HA.out hb)
              have HB := Lib.hid (own_block hb).1
              have s_B := (own_block hb).2
              have HG := Lib.hid (HG.out.trans ((below_own hb).mono HG.out.size))
              clear hb
              go_wp2_with fail
              refine (Insert_any _ _ _ _ (by omega) (by omega)).mono ?_
              rw [show insS 1 7 0 = (2, true, 0) from by decide +kernel]
              rintro e w4 ⟨rfl, hb⟩
              have HA := Lib.hid (adv HA.out hb)
              have HB := Lib.hid (adv HB.out hb)
              have HC := Lib.hid (own_block hb).1
              have s_C := (own_block hb).2
              have HG := Lib.hid (HG.out.trans ((below_own hb).mono HG.out.size))
              clear hb
              have s13 : w1.heap.size < w3.heap.size := by omega
              have s14 : w1.heap.size < w4.heap.size := by omega
              have s24 : w2.heap.size < w4.heap.size := by omega
              have cA0 := cell_of HA.out 0 _ rfl
              have cA1 := cell_of HA.out 1 _ rfl
              go_wp2_with fail
              clear cA0 cA1
              refine (plan_at _ _ _ _ _ _ _ rfl rfl rfl).mono ?_
              rintro e w5 ⟨rfl, hb⟩
              have HA := Lib.hid (adv HA.out hb)
              have HB := Lib.hid (adv HB.out hb)
              have HC := Lib.hid (adv HC.out hb)
              have HD := Lib.hid (own_block hb).1
              have s_D := (own_block hb).2
              have HG := Lib.hid (HG.out.trans ((below_own hb).mono HG.out.size))
              clear hb
              have cB0 := cell_of HB.out 0 _ rfl
              have cB1 := cell_of HB.out 1 _ rfl
              go_wp2_with fail
              clear cB0 cB1
              refine (plan_at _ _ _ _ _ _ _ rfl rfl rfl).mono ?_
              rintro e w6 ⟨rfl, hb⟩
              have HA := Lib.hid (advB HA.out hb)
              have HB := Lib.hid (advB HB.out hb)
              have HC := Lib.hid (advB HC.out hb)
              have HD := Lib.hid (advB HD.out hb)
              have HG := Lib.hid (HG.out.trans (hb.mono HG.out.size))
              clear hb
              have cC0 := cell_of HC.out 0 _ rfl
              have cC1 := cell_of HC.out 1 _ rfl
              go_wp2_with fail
              clear cC0 cC1
              refine (plan_at _ _ _ _ _ _ _ rfl rfl rfl).mono ?_
              rintro e w7 ⟨rfl, hb⟩
              have HA := Lib.hid (advB HA.out hb)
              have HB := Lib.hid (advB HB.out hb)
              have HC := Lib.hid (advB HC.out hb)
              have HD := Lib.hid (advB HD.out hb)
              have HG := Lib.hid (HG.out.trans (hb.mono HG.out.size))
              clear hb
              have cD0 := cell_of HD.out 0 _ rfl
              have cD1 := cell_of HD.out 1 _ rfl
              go_wp2_with fail
              clear cD0 cD1
              refine (plan_at _ _ _ _ _ _ _ rfl rfl rfl).mono ?_
              rintro e w8 ⟨rfl, hb⟩
              have HA := Lib.hid (advB HA.out hb)
              have HB := Lib.hid (advB HB.out hb)
              have HC := Lib.hid (advB HC.out hb)
              have HD := Lib.hid (advB HD.out hb)
              have HG := Lib.hid (HG.out.trans (hb.mono HG.out.size))
              clear hb
              go_wp2_with fail
              refine (Remove_any _ _ _ _ (by omega) (by omega)).mono ?_
              rw [show remS 4 4 0 = (4, false, 0) from by decide +kernel]
              rintro e w9 ⟨rfl, hb⟩
              have HA := Lib.hid (advB HA.out hb)
              have HB := Lib.hid (advB HB.out hb)
              have HC := Lib.hid (advB HC.out hb)
              have HD := Lib.hid (advB HD.out hb)
              have HG := Lib.hid (HG.out.trans (hb.mono HG.out.size))
              clear hb
              have cA0 := cell_of HA.out 0 _ rfl
              have cA1 := cell_of HA.out 1 _ rfl
              have fA := frozen_of HA.out
              go_wp2_with fail
              clear cA0 cA1 fA
              refine (Remove_any _ _ _ _ (by omega) (by omega)).mono ?_
              rw [show remS 4 3 0 = (4, false, 0) from by decide +kernel]
              rintro e w10 ⟨rfl, hb⟩
              have HA := Lib.hid (advB (set2 (.int .i64 4) (.bool false) HA.out) hb)
              have HB := Lib.hid (advB (set2o (n := w1.heap.size) (.int .i64 4) (.bool false) HB.out (by omega)) hb)
              have HC := Lib.hid (advB (set2o (n := w1.heap.size) (.int .i64 4) (.bool false) HC.out (by omega)) hb)
              have HD := Lib.hid (advB (set2o (n := w1.heap.size) (.int .i64 4) (.bool false) HD.out (by omega)) hb)
              have HG := Lib.hid (((HG.out.setCell (by show w.heap.size ≤ w1.heap.size; omega) _).setCell (by show w.heap.size ≤ w1.heap.size; omega) _).trans (hb.mono (by simpa [World.setCell] using HG.out.size)))
              clear hb
              have cB0 := cell_of HB.out 0 _ rfl
              have cB1 := cell_of HB.out 1 _ rfl
              have fB := frozen_of HB.out
              go_wp2_with fail
              clear cB0 cB1 fB
              refine (Remove_any _ _ _ _ (by omega) (by omega)).mono ?_
              rw [show remS 8 4 0 = (4, true, 0) from by decide +kernel]
              rintro e w11 ⟨rfl, hb⟩
              have HA := Lib.hid (advB (set2o (n := w2.heap.size) (.int .i64 4) (.bool false) HA.out (by omega)) hb)
              have HB := Lib.hid (advB (set2 (.int .i64 4) (.bool false) HB.out) hb)
              have HC := Lib.hid (advB (set2o (n := w2.heap.size) (.int .i64 4) (.bool false) HC.out (by omega)) hb)
              have HD := Lib.hid (advB (set2o (n := w2.heap.size) (.int .i64 4) (.bool false) HD.out (by omega)) hb)
              have HG := Lib.hid (((HG.out.setCell (by show w.heap.size ≤ w2.heap.size; omega) _).setCell (by show w.heap.size ≤ w2.heap.size; omega) _).trans (hb.mono (by simpa [World.setCell] using HG.out.size)))
              clear hb
              have cC0 := cell_of HC.out 0 _ rfl
              have cC1 := cell_of HC.out 1 _ rfl
              have fC := frozen_of HC.out
              go_wp2_with fail
              clear cC0 cC1 fC
              refine (Remove_any _ _ _ _ (by omega) (by omega)).mono ?_
              rw [show remS 1 0 0 = (1, false, 0) from by decide +kernel]
              rintro e w12 ⟨rfl, hb⟩
              have HA := Lib.hid (advB (set2o (n := w3.heap.size) (.int .i64 4) (.bool true) HA.out (by omega)) hb)
              have HB := Lib.hid (advB (set2o (n := w3.heap.size) (.int .i64 4) (.bool true) HB.out (by omega)) hb)
              have HC := Lib.hid (advB (set2 (.int .i64 4) (.bool true) HC.out) hb)
              have HD := Lib.hid (advB (set2o (n := w3.heap.size) (.int .i64 4) (.bool true) HD.out (by omega)) hb)
              have HG := Lib.hid (((HG.out.setCell (by show w.heap.size ≤ w3.heap.size; omega) _).setCell (by show w.heap.size ≤ w3.heap.size; omega) _).trans (hb.mono (by simpa [World.setCell] using HG.out.size)))
              clear hb
              have cD0 := cell_of HD.out 0 _ rfl
              have cD1 := cell_of HD.out 1 _ rfl
              have fD := frozen_of HD.out
              have cA0 := cell_of HA.out 0 _ rfl
              have cA1 := cell_of HA.out 1 _ rfl
              go_wp2_with fail
              clear cA0 cA1
              refine (plan_at _ _ _ _ _ _ _ rfl rfl rfl).mono ?_
              rintro e w13 ⟨rfl, hb⟩
              have HA := Lib.hid (advB (set2o (n := w4.heap.size) (.int .i64 1) (.bool false) HA.out (by omega)) hb)
              have HB := Lib.hid (advB (set2o (n := w4.heap.size) (.int .i64 1) (.bool false) HB.out (by omega)) hb)
              have HC := Lib.hid (advB (set2o (n := w4.heap.size) (.int .i64 1) (.bool false) HC.out (by omega)) hb)
              have HD := Lib.hid (advB (set2 (.int .i64 1) (.bool false) HD.out) hb)
              have HG := Lib.hid (((HG.out.setCell (by show w.heap.size ≤ w4.heap.size; omega) _).setCell (by show w.heap.size ≤ w4.heap.size; omega) _).trans (hb.mono (by simpa [World.setCell] using HG.out.size)))
              clear hb
              have cB0 := cell_of HB.out 0 _ rfl
              have cB1 := cell_of HB.out 1 _ rfl
              go_wp2_with fail
              clear cB0 cB1
              refine (plan_at _ _ _ _ _ _ _ rfl rfl rfl).mono ?_
              rintro e w14 ⟨rfl, hb⟩
              have HA := Lib.hid (advB HA.out hb)
              have HB := Lib.hid (advB HB.out hb)
              have HC := Lib.hid (advB HC.out hb)
              have HD := Lib.hid (advB HD.out hb)
              have HG := Lib.hid (HG.out.trans (hb.mono HG.out.size))
              clear hb
              have cC0 := cell_of HC.out 0 _ rfl
              have cC1 := cell_of HC.out 1 _ rfl
              go_wp2_with fail
              clear cC0 cC1
              refine (plan_at _ _ _ _ _ _ _ rfl rfl rfl).mono ?_
              rintro e w15 ⟨rfl, hb⟩
              have HA := Lib.hid (advB HA.out hb)
              have HB := Lib.hid (advB HB.out hb)
              have HC := Lib.hid (advB HC.out hb)
              have HD := Lib.hid (advB HD.out hb)
              have HG := Lib.hid (HG.out.trans (hb.mono HG.out.size))
              clear hb
              have cD0 := cell_of HD.out 0 _ rfl
              have cD1 := cell_of HD.out 1 _ rfl
              go_wp2_with fail
              clear cD0 cD1
              refine (plan_at _ _ _ _ _ _ _ rfl rfl rfl).mono ?_
              rintro e w16 ⟨rfl, hb⟩
              have HA := Lib.hid (advB HA.out hb)
              have HB := Lib.hid (advB HB.out hb)
              have HC := Lib.hid (advB HC.out hb)
              have HD := Lib.hid (advB HD.out hb)
              have HG := Lib.hid (HG.out.trans (hb.mono HG.out.size))
              clear hb
              go_wp2_with fail
              refine (Insert_any _ _ _ _ (by omega) (by omega)).mono ?_
              rw [show insS 1048576 7340032 0 = (0, false, 7) from by decide +kernel]
              rintro e w17 ⟨rfl, hb⟩
              have HA := Lib.hid (advB HA.out hb)
              have HB := Lib.hid (advB HB.out hb)
              have HC := Lib.hid (advB HC.out hb)
              have HD := Lib.hid (advB HD.out hb)
              have HG := Lib.hid (HG.out.trans (hb.mono HG.out.size))
              clear hb
              have cA0 := cell_of HA.out 0 _ rfl
              have cA1 := cell_of HA.out 1 _ rfl
              have fA := frozen_of HA.out
              go_wp2_with fail
              clear cA0 cA1 fA
              refine (Insert_any _ _ _ _ (by omega) (by omega)).mono ?_
              rw [show insS 1048576 7340031 1 = (1048576, true, 0) from by decide +kernel]
              rintro e w18 ⟨rfl, hb⟩
              have HA := Lib.hid (advB (set2 (.int .i64 0) (.bool false) HA.out) hb)
              have HB := Lib.hid (advB (set2o (n := w1.heap.size) (.int .i64 0) (.bool false) HB.out (by omega)) hb)
              have HC := Lib.hid (advB (set2o (n := w1.heap.size) (.int .i64 0) (.bool false) HC.out (by omega)) hb)
              have HD := Lib.hid (advB (set2o (n := w1.heap.size) (.int .i64 0) (.bool false) HD.out (by omega)) hb)
              have HG := Lib.hid (((HG.out.setCell (by show w.heap.size ≤ w1.heap.size; omega) _).setCell (by show w.heap.size ≤ w1.heap.size; omega) _).trans (hb.mono (by simpa [World.setCell] using HG.out.size)))
              clear hb
              have cB0 := cell_of HB.out 0 _ rfl
              have cB1 := cell_of HB.out 1 _ rfl
              have fB := frozen_of HB.out
              go_wp2_with fail
              clear cB0 cB1 fB
              refine (Insert_any _ _ _ _ (by omega) (by omega)).mono ?_
              rw [show insS 1 5 4 = (0, false, 3) from by decide +kernel]
              rintro e w19 ⟨rfl, hb⟩
              have HA := Lib.hid (advB (set2o (n := w2.heap.size) (.int .i64 1048576) (.bool true) HA.out (by omega)) hb)
              have HB := Lib.hid (advB (set2 (.int .i64 1048576) (.bool true) HB.out) hb)
              have HC := Lib.hid (advB (set2o (n := w2.heap.size) (.int .i64 1048576) (.bool true) HC.out (by omega)) hb)
              have HD := Lib.hid (advB (set2o (n := w2.heap.size) (.int .i64 1048576) (.bool true) HD.out (by omega)) hb)
              have HG := Lib.hid (((HG.out.setCell (by show w.heap.size ≤ w2.heap.size; omega) _).setCell (by show w.heap.size ≤ w2.heap.size; omega) _).trans (hb.mono (by simpa [World.setCell] using HG.out.size)))
              clear hb
              have cC0 := cell_of HC.out 0 _ rfl
              have cC1 := cell_of HC.out 1 _ rfl
              have fC := frozen_of HC.out
              have cA0 := cell_of HA.out 0 _ rfl
              have cA1 := cell_of HA.out 1 _ rfl
              go_wp2_with fail
              clear cA0 cA1
              refine (plan_at _ _ _ _ _ _ _ rfl rfl rfl).mono ?_
              rintro e w20 ⟨rfl, hb⟩
              have HA := Lib.hid (advB (set2o (n := w3.heap.size) (.int .i64 0) (.bool false) HA.out (by omega)) hb)
              have HB := Lib.hid (advB (set2o (n := w3.heap.size) (.int .i64 0) (.bool false) HB.out (by omega)) hb)
              have HC := Lib.hid (advB (set2 (.int .i64 0) (.bool false) HC.out) hb)
              have HD := Lib.hid (advB (set2o (n := w3.heap.size) (.int .i64 0) (.bool false) HD.out (by omega)) hb)
              have HG := Lib.hid (((HG.out.setCell (by show w.heap.size ≤ w3.heap.size; omega) _).setCell (by show w.heap.size ≤ w3.heap.size; omega) _).trans (hb.mono (by simpa [World.setCell] using HG.out.size)))
              clear hb
              have cB0 := cell_of HB.out 0 _ rfl
              have cB1 := cell_of HB.out 1 _ rfl
              go_wp2_with fail
              clear cB0 cB1
              refine (plan_at _ _ _ _ _ _ _ rfl rfl rfl).mono ?_
              rintro e w21 ⟨rfl, hb⟩
              have HA := Lib.hid (advB HA.out hb)
              have HB := Lib.hid (advB HB.out hb)
              have HC := Lib.hid (advB HC.out hb)
              have HD := Lib.hid (advB HD.out hb)
              have HG := Lib.hid (HG.out.trans (hb.mono HG.out.size))
              clear hb
              have cC0 := cell_of HC.out 0 _ rfl
              have cC1 := cell_of HC.out 1 _ rfl
              go_wp2_with fail
              clear cC0 cC1
              refine (plan_at _ _ _ _ _ _ _ rfl rfl rfl).mono ?_
              rintro e w22 ⟨rfl, hb⟩
              have HA := Lib.hid (advB HA.out hb)
              have HB := Lib.hid (advB HB.out hb)
              have HC := Lib.hid (advB HC.out hb)
              have HD := Lib.hid (advB HD.out hb)
              have HG := Lib.hid (HG.out.trans (hb.mono HG.out.size))
              clear hb
              go_wp2_with fail
              go_ret
              exact ⟨rfl, HG.out⟩

end Go.Proofs.Ytjnckljdodlmiaa
