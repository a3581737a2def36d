/- The walk of SlabLongs. -/
import Derived.Test.YtookfhmghchkjaaSLongsM
import Derived.Test.YtookfhmghchkjaaSLooks
import Derived.Laws.OwnMore
namespace Go.Proofs.Ytookfhmghchkjaa
open Go Go.RowKit
attribute [local go_sem ↓] Go.wp_at_zero Go.wp_at_succ

theorem made_bytes (n : Nat) : (madeCells (Value.int .u8 0).cells (n * 1)).toList = bcells (List.replicate n 0) := by
  simp only [madeCells, bcells, Value.cells, Nat.mul_one]
  apply List.ext_getElem
  · simp
  · intro i h1 h2
    simp [Nat.mod_one]


set_option maxRecDepth 100000 in
set_option maxHeartbeats 4000000 in
theorem slongs_walk (n0 most : Int) (w : World) :
    Calls Try.prog 6 #[.int .i64 n0, .int .i64 most] w fun e w' => e = .returned (.bool true) ∧ Below w.heap.size w w' := by
  by_cases a1 : n0 < 65530
  · go_enter Try.func6, Try.ntmps6
    go_wp2_with fail
    refine (known_true _).mono ?_
    rintro e w9 ⟨rfl, hb9⟩
    have HG := Lib.hid hb9
    clear hb9
    go_wp2_with fail
    go_ret
    exact ⟨rfl, HG.out⟩
  by_cases a2 : 65540 < n0
  · go_enter Try.func6, Try.ntmps6
    go_wp2_with fail
    refine (known_true _).mono ?_
    rintro e w9 ⟨rfl, hb9⟩
    have HG := Lib.hid hb9
    clear hb9
    go_wp2_with fail
    go_ret
    exact ⟨rfl, HG.out⟩
  by_cases a3 : most < 65530
  · go_enter Try.func6, Try.ntmps6
    go_wp2_with fail
    refine (known_true _).mono ?_
    rintro e w9 ⟨rfl, hb9⟩
    have HG := Lib.hid hb9
    clear hb9
    go_wp2_with fail
    go_ret
    exact ⟨rfl, HG.out⟩
  by_cases a4 : 200000 < most
  · go_enter Try.func6, Try.ntmps6
    go_wp2_with fail
    refine (known_true _).mono ?_
    rintro e w9 ⟨rfl, hb9⟩
    have HG := Lib.hid hb9
    clear hb9
    go_wp2_with fail
    go_ret
    exact ⟨rfl, HG.out⟩
  obtain ⟨n, rfl⟩ : ∃ n : Nat, n0 = n := ⟨n0.toNat, by omega⟩
  have HN := Lib.hid (show 65530 ≤ n ∧ n ≤ 65540 by omega)
  have HMo := Lib.hid (show 0 ≤ most ∧ most ≤ 1099511627776 by omega)
  go_enter Try.func6, Try.ntmps6
  go_wp2_with fail
  refine (slabNew_ok most HMo.out.1 HMo.out.2 _).mono ?_
  rintro e w1 ⟨rfl, hw1⟩
  have hb1 : Below w.heap.size w w1 := hw1 ▸ (Below.refl w.heap.size w).alloc (Nat.le_refl _) _
  have hr1 : ARep w1 w.heap.size w.heap.size most p0 := ⟨sh0, hw1 ▸ slabNew_rep w w.heap.size (Nat.le_refl _) most, sh0_is⟩
  have HB1 := Lib.hid hb1
  have HR1 := Lib.hid hr1
  clear hw1 hb1 hr1
  go_upto_region 7 with fail
  obtain ⟨w2, hw2⟩ : ∃ w2, w1.alloc (.cells #[.int .i64 most, .slice none 0 0, .slice none 0 0, .slice none 0 0, .slice none 0 0] 55) = w2 := ⟨_, rfl⟩
  have hb2 : Below w1.heap.size w1 w2 := hw2 ▸ (Below.refl _ _).alloc (Nat.le_refl _) _
  have HI1 : Hid (PInvS w w2 w.heap.size w1.heap.size w.heap.size 0 most p0 (.slice none 0 0) (.slice none 0 0) (.slice none 0 0) (.slice none 0 0) [] [] [] []) := Lib.hid
    ⟨HR1.out.below hb2, RRep.nil _ _, RSync.nil, p0_wf, HB1.out.trans (hb2.mono HB1.out.size), hw2 ▸ Blk.new _ _ _, HB1.out.size, Nat.le_refl _⟩
  rw [hw2]
  obtain ⟨g, hg⟩ : ∃ g, w1.heap.size = g := ⟨_, rfl⟩
  rw [hg] at HI1 ⊢
  clear hw2 hb2 hg HR1 HB1
  obtain ⟨i0, hi0, hz0, hz1, hz2⟩ := info_parts u8_info
  obtain ⟨w3, hmk, hown3, hgr3⟩ := run_make_full (P := Try.prog) w2 w2.heap.size 39 5 i0 _ 1 Try.underlying39 hi0 hz0 hz1 .i64 .i64 n (by rw [hz2]; have := HN.out; omega) (by unfold maxLen; have := HN.out; omega) (Nat.le_refl _)
  rw [made_bytes] at hown3
  have hb3 : Below w2.heap.size w2 w3 := (Below.refl _ _).grown hgr3 (Nat.le_refl _) (by intro k hk; cases hk)
  have HI3 := Lib.hid (HI1.out.adv hb3)
  have hs2 := HI1.out.size
  obtain ⟨s, hs⟩ : ∃ s, w2.heap.size = s := ⟨_, rfl⟩
  rw [hs] at hmk hown3 hs2
  obtain ⟨hst, hgr4⟩ := hown3.stored (n - 1) (.int .u8 7)
  have x0 : w3.cell? ⟨s, n - 1, none⟩ = some (.int .u8 0) := by
    rw [hown3.cellAt (n - 1) (by have := HN.out; simp [bcells]; omega)]
    have h2 : n - 1 < n := by have := HN.out; omega
    simp [bcells, h2]
  have hfz : w3.frozen? ⟨s, n - 1, none⟩ = false := hown3.frozenAt (n - 1)
  have HO3 := Lib.hid hown3
  have HST := Lib.hid hst
  have HGR := Lib.hid hgr4
  clear hst hgr4 hown3 hi0 hz0 hz1 hz2 hgr3 hb3 HI1 hs
  have hn1 : (1 : Int) ≤ (n : Int) := by omega
  go_upto_region 9 with fail
  generalize hw4 : World.setCell _ _ _ = w4
  have HI4 : Hid (PInvS w w4 w.heap.size g w.heap.size 0 most p0 (.slice none 0 0) (.slice none 0 0) (.slice none 0 0) (.slice none 0 0) [] [] [] []) := Lib.hid (hw4 ▸ HI3.out.spoilt0 HO3.out hs2 (Only.of_grown HGR.out))
  obtain ⟨bs, hbs⟩ : ∃ bs, (List.replicate n (0 : UInt8)).set (n - 1) 7 = bs := ⟨_, rfl⟩
  have hl : bs.length = n := by rw [← hbs]; simp
  have hbb : bcells bs = (bcells (List.replicate n 0)).set (n - 1) (.int .u8 7) := by rw [← hbs]; unfold bcells; rw [List.map_set]; rfl
  have HV4 : Hid (Bts w4 w.heap.size 5 (.slice (some ⟨s, 0, none⟩) n n) bs) := Lib.hid (Bts.of_own (base := s) (by rw [hl, hbb, ← hw4]; exact HST.out) _)
  have HL := Lib.hid hl
  clear hw4 hbs hl hbb HST HGR HO3 HI3 x0 hfz hmk
  have kc := fun (w : World) (C : Array Value) (n c : Nat) => Lib.run_convert_bytes_const (P := Try.prog) w 39 5 C n c Try.underlying39 Try.underlying5
  have kc2 := kc (w4.alloc (.cells #[.int .u8 120] 5 (1, 2))) #[.int .u8 121] 1 1
  have esz : (w4.alloc (.cells #[.int .u8 120] 5 (1, 2))).heap.size = w4.heap.size + 1 := by simp
  rw [esz] at kc2
  clear esz
  go_wp2_with fail
  clear kc kc2
  obtain ⟨w5, hw5⟩ : ∃ w5, ((w4.alloc (.cells #[.int .u8 120] 5 (1, 2))).alloc (.cells #[.int .u8 121] 5 (1, 2))).alloc (.cells #[.int .i64 0, .int .i64 0, .int .i64 0, .slice (some ⟨s, 0, none⟩) n n, .int .i64 0, .int .i64 0, .int .i64 0, .slice (some ⟨w4.heap.size, 0, none⟩) 1 1, .int .i64 3, .int .i64 0, .int .i64 0, .slice (some ⟨s, 0, none⟩) n n, .int .i64 3, .int .i64 12, .int .i64 0, .slice (some ⟨w4.heap.size + 1, 0, none⟩) 1 1, .int .i64 0, .int .i64 0, .int .i64 0, .slice (some ⟨s, 0, none⟩) n n] 41) = w5 := ⟨_, rfl⟩
  have hb5 : Below w4.heap.size w4 w5 := hw5 ▸ (((Below.refl _ _).alloc (Nat.le_refl _) _).alloc (by simp) _).alloc (by simp; omega) _
  have HI5 := Lib.hid (HI4.out.adv hb5)
  have HF5 : Hid (Five w5 w.heap.size (w4.heap.size + 1 + 1) (.slice (some ⟨s, 0, none⟩) n n) (.slice (some ⟨w4.heap.size, 0, none⟩) 1 1) (.slice (some ⟨w4.heap.size + 1, 0, none⟩) 1 1) bs [120] [121]) := Lib.hid ⟨hw5 ▸ Blk.new3 _ _ _ _ _, HV4.out.below hb5,
    hw5 ▸ ((Bts.marked w4 5 [120] _ rfl 1 rfl (1, 2) w.heap.size (by decide)).alloc _).alloc _,
    hw5 ▸ Bts.alloc (by have := Bts.marked (w4.alloc (.cells #[.int .u8 120] 5 (1, 2))) 5 [121] #[.int .u8 121] rfl 1 rfl (1, 2) w.heap.size (by decide); simpa using this) _⟩
  rw [hw5]
  obtain ⟨q, hq⟩ : ∃ q, w4.heap.size + 1 + 1 = q := ⟨_, rfl⟩
  rw [hq] at HF5 ⊢
  clear hw5 hb5 hq HI4 HV4
  go_loopw [5, 61] (fun x i wr => ∃ (k b : Nat) (st : PSt) (cv bv uv fv : Value) (ks : List (Int × Int)) (vs : List (List UInt8 × Value)) (us : List Bool) (fr : List (Int × Int)), k ≤ 5 ∧ i = .int .i64 k ∧ x = .pointer (some ⟨b, 0, none⟩) ∧ PInvS w wr w.heap.size g b (4 * k) most st cv bv uv fv ks vs us fr ∧ Five wr w.heap.size q (.slice (some ⟨s, 0, none⟩) n n) (.slice (some ⟨w4.heap.size, 0, none⟩) 1 1) (.slice (some ⟨w4.heap.size + 1, 0, none⟩) 1 1) bs [120] [121]) (fun _ i _ => 5 - (intOf i).toNat)
  case atStart => exact ⟨0, w.heap.size, p0, _, _, _, _, [], [], [], [], by omega, rfl, rfl, HI5.out, HF5.out⟩
  case round =>
    obtain ⟨k, b, st, cv, bv, uv, fv, ks, vs, us, fr, hk, rfl, rfl, hinv, hacts⟩ := hrel
    obtain ⟨CA, cc, rfl, _, _⟩ := own_form hinv.ref.cells
    obtain ⟨BA, bc, rfl, _, _⟩ := own_form hinv.ref.bytes
    obtain ⟨UA, uc, rfl, _, _⟩ := own_form hinv.ref.used
    obtain ⟨FA, fc, rfl, _, _⟩ := own_form hinv.ref.free
    have HI := Lib.hid hinv
    have HF := Lib.hid hacts
    clear hinv hacts HI5 HF5
    by_cases hkl : k < 5
    · obtain ⟨what, K, N, v, zs, c0, c1, c2, c3, hv, hlz⟩ := HF.out.at_ (by rw [HL.out]; exact HN.out.2) (by decide) (by decide) k hkl
      obtain ⟨A', vc, hv'⟩ := hv.form
      subst hv'
      have hkI : (k : Int) < 5 := by omega
      have HV := Lib.hid hv
      have HZ := Lib.hid hlz
      clear hv hlz
      go_upto_region 13 with fail
      obtain ⟨w0, hw0⟩ : ∃ w0, wr.alloc (.cells #[.int .i64 what, .int .i64 K, .int .i64 N, .slice A' zs.length vc] 41) = w0 := ⟨_, rfl⟩
      have hb0 : Below wr.heap.size wr w0 := hw0 ▸ (Below.refl _ _).alloc (Nat.le_refl _) _
      have hbx : Blk w0 wr.heap.size 41 #[.int .i64 what, .int .i64 K, .int .i64 N, .slice A' zs.length vc] := hw0 ▸ Blk.new _ _ _
      have HI0 := Lib.hid (HI.out.adv hb0)
      have HF0 := Lib.hid (HF.out.below hb0)
      have HV0 := Lib.hid (HV.out.below hb0)
      rw [hw0]
      clear hw0 hb0 HI HF HV c0 c1 c2 c3
      have c0 := hbx.cell 0 _ rfl
      have c1 := hbx.cell 1 _ rfl
      have c2 := hbx.cell 2 _ rfl
      have c3 := hbx.cell 3 _ rfl
      clear hbx
      have x0 := HI0.out.box.cell 0 _ rfl
      have x1 := HI0.out.box.cell 1 _ rfl
      have x2 := HI0.out.box.cell 2 _ rfl
      have x3 := HI0.out.box.cell 3 _ rfl
      have x4 := HI0.out.box.cell 4 _ rfl
      go_wp2_with fail
      obtain ⟨sh, hsr, hsi⟩ := HI0.out.rep
      refine (do_any w.heap.size b (4 * k) what most K N st sh _ _ _ _ (.slice A' zs.length vc) zs ks vs us fr w0 ⟨hsr, hsi, HI0.out.size, HI0.out.ref, HI0.out.sync, HI0.out.wf, by omega, HMo.out, HV0.out, HZ.out⟩).mono ?_
      clear hsr hsi sh
      rintro e w2 ⟨b', st', av', rfl, hr2, ⟨cv', bv', uv', fv', ks', vs', us', fr', rfl, hR2, hs2⟩, hw2, hk2, hb2⟩
      obtain ⟨C2, cc2, rfl, _, _⟩ := own_form hR2.cells
      obtain ⟨B2, bc2, rfl, _, _⟩ := own_form hR2.bytes
      obtain ⟨U2, uc2, rfl, _, _⟩ := own_form hR2.used
      obtain ⟨F2, fc2, rfl, _, _⟩ := own_form hR2.free
      have hx := hk2.blk HI0.out.box (by decide) (by decide) (by decide)
      have f1 := hx.frozen
      have hz := hx.lt
      have hD := HI0.out.done hr2 hR2 hs2 hw2 hk2 hb2
      have HF2 := Lib.hid (HF0.out.done hD.2.2.1 hD.2.2.2)
      have HI2 := Lib.hid hD.1
      clear hr2 hR2 hs2 hw2 hk2 hb2 hD c0 c1 c2 c3 x0 x1 x2 x3 x4 HI0 HF0 HV0
      have y0 := hx.cell 0 _ rfl
      have y1 := hx.cell 1 _ rfl
      have y2 := hx.cell 2 _ rfl
      have y3 := hx.cell 3 _ rfl
      have y4 := hx.cell 4 _ rfl
      clear hx
      go_upto_region 14 with fail
      generalize hw3 : World.setCell _ _ _ = w3
      rw [hw3] at HI2 HF2
      clear hw3 hz f1 y0 y1 y2 y3 y4
      have x0 := HI2.out.box.cell 0 _ rfl
      have x1 := HI2.out.box.cell 1 _ rfl
      have x2 := HI2.out.box.cell 2 _ rfl
      have x3 := HI2.out.box.cell 3 _ rfl
      have x4 := HI2.out.box.cell 4 _ rfl
      go_wp2_with fail
      refine (slooks_any (4 * k + 4) (4 * k + 4) w.heap.size b' most st' _ _ _ _ ks' vs' us' fr' _ HI2.out.rep HI2.out.ref HI2.out.sync HI2.out.wf (by omega) (by omega)).mono ?_
      rintro e w4 ⟨rfl, hb4⟩
      have HI4 := Lib.hid (HI2.out.adv hb4)
      have HF4 := Lib.hid (HF2.out.below hb4)
      clear hb4 x0 x1 x2 x3 x4 HI2 HF2
      go_wp2_with fail
      go_roundw
      case rel => exact ⟨k + 1, b', st', _, _, _, _, ks', vs', us', fr', by omega, by go_num, rfl, HI4.out, HF4.out⟩
      case measure => simp [intOf]; omega
    · obtain rfl : k = 5 := by omega
      go_wp2_with fail
      refine (known_true _).mono ?_
      rintro e w9 ⟨rfl, hb9⟩
      have HG := Lib.hid (HI.out.below.trans (hb9.mono HI.out.below.size))
      clear hb9
      go_wp2_with fail
      go_ret
      exact ⟨rfl, HG.out⟩

end Go.Proofs.Ytookfhmghchkjaa
