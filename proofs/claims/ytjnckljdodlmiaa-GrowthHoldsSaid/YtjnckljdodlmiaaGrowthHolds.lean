/- The law GrowthHolds: for every input the Go function returns true and leaves what was there as it was. No condition. -/
import Derived.Test.YtjnckljdodlmiaaGrowthP
import Derived.ProofKit
import Derived.OpenShut
import Derived.ShutString
import Derived.ChangeOld
import Derived.Below
namespace Go.Proofs.Ytjnckljdodlmiaa.growthHolds
open Go.ChangeShapes Go.WideShapes Go.ChangeAt Go.RowKit
open Go.ChangeMaps (open_string shut_string)
set_option linter.unusedVariables false


set_option maxRecDepth 100000 in
set_option maxHeartbeats 4000000 in
theorem full (g l t pg rg n : Int) (err : Int) (r rr : Bool) (most next : Int) (w : World)
    (hv : validB g = true) (hg1 : 1 ≤ g) (hg2 : g ≤ 1048576) (hl : 0 ≤ l) (ht : 0 ≤ t) (hl8 : l ≤ 8 * g) (ht8 : t ≤ 8 * g) (hlt : l + t ≤ 8 * g)
    (hL : limS g = (7 * g, 0)) (hM : bndS (min l 7340032) = (most, 0)) (hM0 : 0 ≤ most) (hM1 : most ≤ 1000000000) (hI : insS g l t = (pg, r, err))
    (hI0 : err = 0 → 1 ≤ pg ∧ pg ≤ 1048576 ∧ limS pg = (7 * pg, 0) ∧ l + (if r then 0 else t) < 7 * pg ∧ (8 * g ≤ most → 8 * pg ≤ next))
    (hI7 : err ≠ 0 → err = 7 ∧ 7 * g ≤ l)
    (hX : bndS (min (l + 1) 7340032) = (next, 0)) (hX0 : 0 ≤ next) (hX1 : next ≤ 1000000000)
    (hR : remS g l t = (rg, rr, 0)) (hrg1 : 1 ≤ rg) (hrg2 : rg ≤ 1048576) (hr1 : l ≤ 8 * rg) (hr2 : l ≤ 7340032 → 8 * rg ≤ most)
    (hN : grpS (min l 7340032) = (n, 0)) (hNL : limS n = (7 * n, 0)) (hn1 : 1 ≤ n) (hn2 : n ≤ 1048576) (hn3 : min l 7340032 ≤ 7 * n) :
    Calls Try.prog 7 #[.int .i64 g, .int .i64 l, .int .i64 t] w fun e w' => e = .returned (.bool true) ∧ Below w.heap.size w w' := by
  have HL := Lib.hid hL
  have HM := Lib.hid hM
  have HI := Lib.hid hI
  have HX := Lib.hid hX
  have HR := Lib.hid hR
  have HN := Lib.hid hN
  have HNL := Lib.hid hNL
  clear hL hM hI hX hR hN hNL hv
  by_cases he : err = 0
  · obtain ⟨hp1, hp2, hP, hroom, hbound⟩ := hI0 he
    have HP := Lib.hid hP
    have HB := Lib.hid hbound
    subst he
    clear hP hbound hI0 hI7
    by_cases h8 : 8 * g ≤ most
    · have hb8 := HB.out h8
      cases r with
      | true =>
        have hroom' : l + 0 < 7 * pg := by simpa using hroom
        have HRoom := Lib.hid hroom
        clear hroom
        have hm : l ≤ 7340032 := by omega
        have hr2' := hr2 hm
        clear hr2
        go_enter Try.func7, Try.ntmps7
        go_wp2_with fail
        refine (Limit_any _ _).mono ?_
        rw [HL.out]
        rintro e w1 ⟨rfl, h1⟩
        go_wp2_with fail
        refine (Bound_any _ _).mono ?_
        rw [HM.out]
        rintro e w2 ⟨rfl, h2⟩
        have HG := Lib.hid (h1.trans (h2.mono h1.size))
        clear h1 h2
        go_wp2_with fail
        refine (Insert_any _ _ _ _ (by omega) (by omega)).mono ?_
        rw [HI.out]
        rintro e w3 ⟨rfl, h3⟩
        have HG := Lib.hid (HG.out.trans (h3.mono HG.out.size))
        clear h3
        go_wp2_with fail
        refine (Limit_any _ _).mono ?_
        rw [HP.out]
        rintro e w4 ⟨rfl, h4⟩
        have HK := Lib.hid (own_block h4).1
        have s3 := (own_block h4).2
        have HG := Lib.hid (HG.out.trans ((below_own h4).mono HG.out.size))
        clear h4
        go_wp2_with fail
        refine (Bound_any _ _).mono ?_
        rw [HX.out]
        rintro e w5 ⟨rfl, h5⟩
        have HK := Lib.hid (advB HK.out h5)
        have HG := Lib.hid (HG.out.trans (h5.mono HG.out.size))
        have c0 := cell_of HK.out 0 _ rfl
        clear h5
        go_wp2_with fail
        clear c0
        refine (Remove_any _ _ _ _ (by omega) (by omega)).mono ?_
        rw [HR.out]
        rintro e w7 ⟨rfl, h7⟩
        have HG := Lib.hid (HG.out.trans (h7.mono HG.out.size))
        clear h7
        go_wp2_with fail
        refine (Groups_any _ _).mono ?_
        rw [HN.out]
        rintro e w8 ⟨rfl, h8⟩
        have c0 := cell_of (own_block h8).1 0 _ rfl
        have c1 := cell_of (own_block h8).1 1 _ rfl
        have HG := Lib.hid (HG.out.trans ((below_own h8).mono HG.out.size))
        clear h8
        go_wp2_with fail
        refine (Limit_any _ _).mono ?_
        rw [HNL.out]
        rintro e w9 ⟨rfl, h9⟩
        have HG := Lib.hid (HG.out.trans (h9.mono HG.out.size))
        clear h9
        go_wp2_with fail
        refine (known_any _).mono ?_
        rintro e w10 ⟨rfl, h10⟩
        have HG := Lib.hid (HG.out.trans (h10.mono HG.out.size))
        clear h10
        go_wp2_with fail
        go_ret
        exact ⟨rfl, HG.out⟩
      | false =>
        have hroom' : l + t < 7 * pg := by simpa using hroom
        clear hroom
        have hm : l ≤ 7340032 := by omega
        have hr2' := hr2 hm
        clear hr2
        go_enter Try.func7, Try.ntmps7
        go_wp2_with fail
        refine (Limit_any _ _).mono ?_
        rw [HL.out]
        rintro e w1 ⟨rfl, h1⟩
        go_wp2_with fail
        refine (Bound_any _ _).mono ?_
        rw [HM.out]
        rintro e w2 ⟨rfl, h2⟩
        have HG := Lib.hid (h1.trans (h2.mono h1.size))
        clear h1 h2
        go_wp2_with fail
        refine (Insert_any _ _ _ _ (by omega) (by omega)).mono ?_
        rw [HI.out]
        rintro e w3 ⟨rfl, h3⟩
        have HG := Lib.hid (HG.out.trans (h3.mono HG.out.size))
        clear h3
        go_wp2_with fail
        refine (Limit_any _ _).mono ?_
        rw [HP.out]
        rintro e w4 ⟨rfl, h4⟩
        have HK := Lib.hid (own_block h4).1
        have s3 := (own_block h4).2
        have HG := Lib.hid (HG.out.trans ((below_own h4).mono HG.out.size))
        clear h4
        go_wp2_with fail
        refine (Bound_any _ _).mono ?_
        rw [HX.out]
        rintro e w5 ⟨rfl, h5⟩
        have HK := Lib.hid (advB HK.out h5)
        have HG := Lib.hid (HG.out.trans (h5.mono HG.out.size))
        have c0 := cell_of HK.out 0 _ rfl
        clear h5
        go_wp2_with fail
        clear c0
        refine (Remove_any _ _ _ _ (by omega) (by omega)).mono ?_
        rw [HR.out]
        rintro e w7 ⟨rfl, h7⟩
        have HG := Lib.hid (HG.out.trans (h7.mono HG.out.size))
        clear h7
        go_wp2_with fail
        refine (Groups_any _ _).mono ?_
        rw [HN.out]
        rintro e w8 ⟨rfl, h8⟩
        have c0 := cell_of (own_block h8).1 0 _ rfl
        have c1 := cell_of (own_block h8).1 1 _ rfl
        have HG := Lib.hid (HG.out.trans ((below_own h8).mono HG.out.size))
        clear h8
        go_wp2_with fail
        refine (Limit_any _ _).mono ?_
        rw [HNL.out]
        rintro e w9 ⟨rfl, h9⟩
        have HG := Lib.hid (HG.out.trans (h9.mono HG.out.size))
        clear h9
        go_wp2_with fail
        refine (known_any _).mono ?_
        rintro e w10 ⟨rfl, h10⟩
        have HG := Lib.hid (HG.out.trans (h10.mono HG.out.size))
        clear h10
        go_wp2_with fail
        go_ret
        exact ⟨rfl, HG.out⟩
    · cases r with
      | true =>
        have hroom' : l + 0 < 7 * pg := by simpa using hroom
        clear hroom
        have hm : l ≤ 7340032 := by omega
        have hr2' := hr2 hm
        clear hr2
        go_enter Try.func7, Try.ntmps7
        go_wp2_with fail
        refine (Limit_any _ _).mono ?_
        rw [HL.out]
        rintro e w1 ⟨rfl, h1⟩
        go_wp2_with fail
        refine (Bound_any _ _).mono ?_
        rw [HM.out]
        rintro e w2 ⟨rfl, h2⟩
        have HG := Lib.hid (h1.trans (h2.mono h1.size))
        clear h1 h2
        go_wp2_with fail
        refine (Insert_any _ _ _ _ (by omega) (by omega)).mono ?_
        rw [HI.out]
        rintro e w3 ⟨rfl, h3⟩
        have HG := Lib.hid (HG.out.trans (h3.mono HG.out.size))
        clear h3
        go_wp2_with fail
        refine (Limit_any _ _).mono ?_
        rw [HP.out]
        rintro e w4 ⟨rfl, h4⟩
        have HK := Lib.hid (own_block h4).1
        have s3 := (own_block h4).2
        have HG := Lib.hid (HG.out.trans ((below_own h4).mono HG.out.size))
        clear h4
        go_wp2_with fail
        refine (Bound_any _ _).mono ?_
        rw [HX.out]
        rintro e w5 ⟨rfl, h5⟩
        have HK := Lib.hid (advB HK.out h5)
        have HG := Lib.hid (HG.out.trans (h5.mono HG.out.size))
        have c0 := cell_of HK.out 0 _ rfl
        clear h5
        go_wp2_with fail
        clear c0
        refine (Remove_any _ _ _ _ (by omega) (by omega)).mono ?_
        rw [HR.out]
        rintro e w7 ⟨rfl, h7⟩
        have HG := Lib.hid (HG.out.trans (h7.mono HG.out.size))
        clear h7
        go_wp2_with fail
        refine (Groups_any _ _).mono ?_
        rw [HN.out]
        rintro e w8 ⟨rfl, h8⟩
        have c0 := cell_of (own_block h8).1 0 _ rfl
        have c1 := cell_of (own_block h8).1 1 _ rfl
        have HG := Lib.hid (HG.out.trans ((below_own h8).mono HG.out.size))
        clear h8
        go_wp2_with fail
        refine (Limit_any _ _).mono ?_
        rw [HNL.out]
        rintro e w9 ⟨rfl, h9⟩
        have HG := Lib.hid (HG.out.trans (h9.mono HG.out.size))
        clear h9
        go_wp2_with fail
        refine (known_any _).mono ?_
        rintro e w10 ⟨rfl, h10⟩
        have HG := Lib.hid (HG.out.trans (h10.mono HG.out.size))
        clear h10
        go_wp2_with fail
        go_ret
        exact ⟨rfl, HG.out⟩
      | false =>
        have hroom' : l + t < 7 * pg := by simpa using hroom
        clear hroom
        have hm : l ≤ 7340032 := by omega
        have hr2' := hr2 hm
        clear hr2
        go_enter Try.func7, Try.ntmps7
        go_wp2_with fail
        refine (Limit_any _ _).mono ?_
        rw [HL.out]
        rintro e w1 ⟨rfl, h1⟩
        go_wp2_with fail
        refine (Bound_any _ _).mono ?_
        rw [HM.out]
        rintro e w2 ⟨rfl, h2⟩
        have HG := Lib.hid (h1.trans (h2.mono h1.size))
        clear h1 h2
        go_wp2_with fail
        refine (Insert_any _ _ _ _ (by omega) (by omega)).mono ?_
        rw [HI.out]
        rintro e w3 ⟨rfl, h3⟩
        have HG := Lib.hid (HG.out.trans (h3.mono HG.out.size))
        clear h3
        go_wp2_with fail
        refine (Limit_any _ _).mono ?_
        rw [HP.out]
        rintro e w4 ⟨rfl, h4⟩
        have HK := Lib.hid (own_block h4).1
        have s3 := (own_block h4).2
        have HG := Lib.hid (HG.out.trans ((below_own h4).mono HG.out.size))
        clear h4
        go_wp2_with fail
        refine (Bound_any _ _).mono ?_
        rw [HX.out]
        rintro e w5 ⟨rfl, h5⟩
        have HK := Lib.hid (advB HK.out h5)
        have HG := Lib.hid (HG.out.trans (h5.mono HG.out.size))
        have c0 := cell_of HK.out 0 _ rfl
        clear h5
        go_wp2_with fail
        clear c0
        refine (Remove_any _ _ _ _ (by omega) (by omega)).mono ?_
        rw [HR.out]
        rintro e w7 ⟨rfl, h7⟩
        have HG := Lib.hid (HG.out.trans (h7.mono HG.out.size))
        clear h7
        go_wp2_with fail
        refine (Groups_any _ _).mono ?_
        rw [HN.out]
        rintro e w8 ⟨rfl, h8⟩
        have c0 := cell_of (own_block h8).1 0 _ rfl
        have c1 := cell_of (own_block h8).1 1 _ rfl
        have HG := Lib.hid (HG.out.trans ((below_own h8).mono HG.out.size))
        clear h8
        go_wp2_with fail
        refine (Limit_any _ _).mono ?_
        rw [HNL.out]
        rintro e w9 ⟨rfl, h9⟩
        have HG := Lib.hid (HG.out.trans (h9.mono HG.out.size))
        clear h9
        go_wp2_with fail
        refine (known_any _).mono ?_
        rintro e w10 ⟨rfl, h10⟩
        have HG := Lib.hid (HG.out.trans (h10.mono HG.out.size))
        clear h10
        go_wp2_with fail
        go_ret
        exact ⟨rfl, HG.out⟩
  · obtain ⟨h7, h7g⟩ := hI7 he
    subst h7
    clear hI0 hI7 he
    by_cases hm : l ≤ 7340032
    · have hr2' := hr2 hm
      clear hr2
      go_enter Try.func7, Try.ntmps7
      go_wp2_with fail
      refine (Limit_any _ _).mono ?_
      rw [HL.out]
      rintro e w1 ⟨rfl, h1⟩
      go_wp2_with fail
      refine (Bound_any _ _).mono ?_
      rw [HM.out]
      rintro e w2 ⟨rfl, h2⟩
      have HG := Lib.hid (h1.trans (h2.mono h1.size))
      clear h1 h2
      go_wp2_with fail
      refine (Insert_any _ _ _ _ (by omega) (by omega)).mono ?_
      rw [HI.out]
      rintro e w3 ⟨rfl, h3⟩
      have HG := Lib.hid (HG.out.trans (h3.mono HG.out.size))
      clear h3
      go_wp2_with fail
      refine (Remove_any _ _ _ _ (by omega) (by omega)).mono ?_
      rw [HR.out]
      rintro e w7 ⟨rfl, h7⟩
      have HG := Lib.hid (HG.out.trans ((below_own h7).mono HG.out.size))
      clear h7
      go_wp2_with fail
      refine (Groups_any _ _).mono ?_
      rw [HN.out]
      rintro e w8 ⟨rfl, h8⟩
      have c0 := cell_of (own_block h8).1 0 _ rfl
      have c1 := cell_of (own_block h8).1 1 _ rfl
      have HG := Lib.hid (HG.out.trans ((below_own h8).mono HG.out.size))
      clear h8
      go_wp2_with fail
      refine (Limit_any _ _).mono ?_
      rw [HNL.out]
      rintro e w9 ⟨rfl, h9⟩
      have HG := Lib.hid (HG.out.trans (h9.mono HG.out.size))
      clear h9
      go_wp2_with fail
      refine (known_any _).mono ?_
      rintro e w10 ⟨rfl, h10⟩
      have HG := Lib.hid (HG.out.trans (h10.mono HG.out.size))
      clear h10
      go_wp2_with fail
      go_ret
      exact ⟨rfl, HG.out⟩
    · clear hr2
      go_enter Try.func7, Try.ntmps7
      go_wp2_with fail
      refine (Limit_any _ _).mono ?_
      rw [HL.out]
      rintro e w1 ⟨rfl, h1⟩
      go_wp2_with fail
      refine (Bound_any _ _).mono ?_
      rw [HM.out]
      rintro e w2 ⟨rfl, h2⟩
      have HG := Lib.hid (h1.trans (h2.mono h1.size))
      clear h1 h2
      go_wp2_with fail
      refine (Insert_any _ _ _ _ (by omega) (by omega)).mono ?_
      rw [HI.out]
      rintro e w3 ⟨rfl, h3⟩
      have HG := Lib.hid (HG.out.trans (h3.mono HG.out.size))
      clear h3
      go_wp2_with fail
      refine (Remove_any _ _ _ _ (by omega) (by omega)).mono ?_
      rw [HR.out]
      rintro e w7 ⟨rfl, h7⟩
      have HG := Lib.hid (HG.out.trans ((below_own h7).mono HG.out.size))
      clear h7
      go_wp2_with fail
      refine (Groups_any _ _).mono ?_
      rw [HN.out]
      rintro e w8 ⟨rfl, h8⟩
      have c0 := cell_of (own_block h8).1 0 _ rfl
      have c1 := cell_of (own_block h8).1 1 _ rfl
      have HG := Lib.hid (HG.out.trans ((below_own h8).mono HG.out.size))
      clear h8
      go_wp2_with fail
      refine (Limit_any _ _).mono ?_
      rw [HNL.out]
      rintro e w9 ⟨rfl, h9⟩
      have HG := Lib.hid (HG.out.trans (h9.mono HG.out.size))
      clear h9
      go_wp2_with fail
      refine (known_any _).mono ?_
      rintro e w10 ⟨rfl, h10⟩
      have HG := Lib.hid (HG.out.trans (h10.mono HG.out.size))
      clear h10
      go_wp2_with fail
      go_ret
      exact ⟨rfl, HG.out⟩

set_option maxRecDepth 100000 in
set_option maxHeartbeats 1000000 in
theorem walk (a0 : Int) (a1 : Int) (a2 : Int) (w : World) (_ : (Lit.int .i64 a0).wf = true) (h1 : (Lit.int .i64 a1).wf = true) (h2 : (Lit.int .i64 a2).wf = true) :
    Calls Try.prog 7 #[.int .i64 a0, .int .i64 a1, .int .i64 a2] w fun e w' => e = .returned (.bool true) ∧ Below w.heap.size w w' := by
  have b1 := bounds_i64 h1
  have b2 := bounds_i64 h2
  clear h1 h2
  cases hv : validB a0 with
  | false =>
    have hL : limS a0 = (0, 2) := by unfold limS; rw [hv]; rfl
    have HL := Lib.hid hL
    clear hL hv
    go_enter Try.func7, Try.ntmps7
    go_wp2_with fail
    refine (Limit_any _ _).mono ?_
    rw [HL.out]
    rintro e w1 ⟨rfl, h1⟩
    go_wp2_with fail
    refine (known_any _).mono ?_
    rintro e w4 ⟨rfl, h4⟩
    go_wp2_with fail
    go_ret
    exact ⟨rfl, h1.trans (h4.mono h1.size)⟩
  | true =>
    have hL : limS a0 = (7 * a0, 0) := by unfold limS; rw [hv]; rfl
    have HL := Lib.hid hL
    obtain ⟨hg1, hg2⟩ := validB_range hv
    clear hL
    by_cases k1 : a1 < 0
    · clear hv
      go_enter Try.func7, Try.ntmps7
      go_wp2_with fail
      refine (Limit_any _ _).mono ?_
      rw [HL.out]
      rintro e w1 ⟨rfl, h1⟩
      go_wp2_with fail
      refine (known_any _).mono ?_
      rintro e w4 ⟨rfl, h4⟩
      go_wp2_with fail
      go_ret
      exact ⟨rfl, h1.trans (h4.mono h1.size)⟩
    · by_cases k2 : a2 < 0
      · clear hv
        go_enter Try.func7, Try.ntmps7
        go_wp2_with fail
        refine (Limit_any _ _).mono ?_
        rw [HL.out]
        rintro e w1 ⟨rfl, h1⟩
        go_wp2_with fail
        refine (known_any _).mono ?_
        rintro e w4 ⟨rfl, h4⟩
        go_wp2_with fail
        go_ret
        exact ⟨rfl, h1.trans (h4.mono h1.size)⟩
      · by_cases k3 : 8 * a0 < a1
        · clear hv
          go_enter Try.func7, Try.ntmps7
          go_wp2_with fail
          refine (Limit_any _ _).mono ?_
          rw [HL.out]
          rintro e w1 ⟨rfl, h1⟩
          go_wp2_with fail
          refine (known_any _).mono ?_
          rintro e w4 ⟨rfl, h4⟩
          go_wp2_with fail
          go_ret
          exact ⟨rfl, h1.trans (h4.mono h1.size)⟩
        · by_cases k4 : 8 * a0 < a2
          · clear hv
            go_enter Try.func7, Try.ntmps7
            go_wp2_with fail
            refine (Limit_any _ _).mono ?_
            rw [HL.out]
            rintro e w1 ⟨rfl, h1⟩
            go_wp2_with fail
            refine (known_any _).mono ?_
            rintro e w4 ⟨rfl, h4⟩
            go_wp2_with fail
            go_ret
            exact ⟨rfl, h1.trans (h4.mono h1.size)⟩
          · by_cases k5 : 8 * a0 < a1 + a2
            · clear hv
              go_enter Try.func7, Try.ntmps7
              go_wp2_with fail
              refine (Limit_any _ _).mono ?_
              rw [HL.out]
              rintro e w1 ⟨rfl, h1⟩
              go_wp2_with fail
              refine (known_any _).mono ?_
              rintro e w4 ⟨rfl, h4⟩
              go_wp2_with fail
              go_ret
              exact ⟨rfl, h1.trans (h4.mono h1.size)⟩
            · have hl : 0 ≤ a1 := by omega
              have ht : 0 ≤ a2 := by omega
              have hlt : a1 + a2 ≤ 8 * a0 := by omega
              obtain ⟨rg, rr, hR, hRo⟩ := rem_cases hv hl ht hlt
              obtain ⟨n, hN, hNL, hn3, hn1, hn2⟩ := groups_ok (m := min a1 7340032) (by omega) (by omega)
              have hrv := validB_range hRo.valid
              have m1 := lpowI_range (4 * min a1 7340032 + 16) (by omega) (by omega)
              have m2 := lpowI_range (4 * min (a1 + 1) 7340032 + 16) (by omega) (by omega)
              have hM : bndS (min a1 7340032) = (lpowI (4 * min a1 7340032 + 16), 0) := by unfold bndS; rw [if_pos (by omega)]
              have hX : bndS (min (a1 + 1) 7340032) = (lpowI (4 * min (a1 + 1) 7340032 + 16), 0) := by unfold bndS; rw [if_pos (by omega)]
              rcases ins_cases hv hl ht hlt with ⟨pg, r, hI, hIo⟩ | ⟨hI, h7⟩
              · have hpv := validB_range hIo.valid
                have hP : limS pg = (7 * pg, 0) := by unfold limS; rw [hIo.valid]; rfl
                exact full a0 a1 a2 pg rg n 0 r rr _ _ w hv hg1 hg2 hl ht (by omega) (by omega) hlt HL.out hM (by omega) (by omega) hI
                  (fun _ => ⟨hpv.1, hpv.2, hP, hIo.room, hIo.bound⟩) (fun h => absurd rfl h) hX (by omega) (by omega) hR hrv.1 hrv.2 hRo.enough hRo.bound hN hNL hn1 hn2 hn3
              · exact full a0 a1 a2 0 rg n 7 false rr _ _ w hv hg1 hg2 hl ht (by omega) (by omega) hlt HL.out hM (by omega) (by omega) hI
                  (fun h => by omega) (fun _ => ⟨rfl, h7⟩) hX (by omega) (by omega) hR hrv.1 hrv.2 hRo.enough hRo.bound hN hNL hn1 hn2 hn3

theorem own : ownKnob Try.prog.godebug = none := by kernel_rfl
theorem laidOut : laidOutB Try.prog = true := by kernel_rfl

set_option maxRecDepth 100000 in
theorem lifted (os : Os) (started : os.Started) (H : Type) (enc : TypeId × Value → H) :
    ReturnsInHanded {} Try.checked os 7 .any (Rows.growthHoldsSpec.pre6 enc Try.prog Try.f7 Rows.growthHoldsRow.domain false) (Rows.growthHoldsSpec.post enc Try.prog Try.f7 false true false false) := by
  refine returnsInHanded_of_change (C := Try.checked) own started (by kernel_rfl) Try.func7
    (ChangeSpec.witness6 (enc := enc) (C := Try.checked) false ⟨#[], #[.int .i64 0, .int .i64 0, .int .i64 0], []⟩ 8 (by kernel_rfl) (by kernel_rfl) (by kernel_rfl) (by kernel_rfl)) ?_
  intro W base args ds gs before hval0 hW hcnd _
  have hval : ∀ (j : Nat) t v, Try.f7.params[j]? = some t → args[j]? = some v → Value.okWide Try.prog W .any base t v := hval0
  have hW' := hW
  obtain ⟨p, q, hA0, hV, rfl, hfz, hnd⟩ := hW
  have hA : DataW.TrodAll enc Try.prog W 0 (fun _ => true) true Try.f7.params.toList args.toList ds p := hA0
  rw [Try.params7] at hA hval
  obtain ⟨v0, vs0, d0, ds0, p0, q0, hargs, rfl, rfl, h0, r0⟩ := trodAll_cons hA
  obtain ⟨v1, vs1, d1, ds1, p1, q1, rfl, rfl, rfl, h1, r1⟩ := trodAll_cons r0
  obtain ⟨v2, vs2, d2, ds2, p2, q2, rfl, rfl, rfl, h2, r2⟩ := trodAll_cons r1
  obtain ⟨rfl, rfl, rfl⟩ := trodAll_nil r2
  obtain rfl : args = #[v0, v1, v2] := by cases args; simp_all
  obtain ⟨rfl, rfl⟩ := trodVars_none hV
  obtain ⟨a0, rfl, rfl, rfl, w0⟩ := open_int Try.underlying3 (hval 0 3 v0 rfl rfl) h0
  obtain ⟨a1, rfl, rfl, rfl, w1⟩ := open_int Try.underlying3 (hval 1 3 v1 rfl rfl) h1
  obtain ⟨a2, rfl, rfl, rfl, w2⟩ := open_int Try.underlying3 (hval 2 3 v2 rfl rfl) h2
  clear hA0 hval0
  refine (walk a0 a1 a2 W w0 w1 w2).mono fun e W' ⟨he, bel⟩ => ?_
  subst he
  exact ⟨_, rfl, _, _, _, [], _, [], hW', trodAll_mk1 (shut_bool Try.underlying4 _), (trodAll_cons_mk (shut_int Try.underlying3 w0) (trodAll_cons_mk (shut_int Try.underlying3 w1) (trodAll_cons_mk (shut_int Try.underlying3 w2) trodAll_mk0))), rfl, bel.frame _, fun h => by cases h⟩

theorem over : Rows.growthHoldsRow.holds Try.pinned (OpenSpec.ofChange Rows.growthHoldsSpec) :=
  OpenClaim.holds_of_wide 7 Try.f7 rfl rfl rfl rfl rfl rfl rfl ⟨rfl, rfl, rfl, rfl, rfl⟩ rfl rfl rfl rfl rfl (by kernel_rfl) Try.func7 (by kernel_rfl)
    (of_decide_eq_true (by kernel_rfl)) (by unfold Func.isWrapper; first | (rw [if_pos (by decide +kernel)]; kernel_rfl) | (rw [if_neg (by decide +kernel)]; exact ⟨rfl, rfl⟩))
    (fun os started H enc _ => lifted os started H enc)

theorem proved : Rows.GrowthHoldsSaid := over
#print axioms proved

end Go.Proofs.Ytjnckljdodlmiaa.growthHolds
