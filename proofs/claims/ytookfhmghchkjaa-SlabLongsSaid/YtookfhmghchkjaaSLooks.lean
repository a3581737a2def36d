/- The walk of looks (layer 13). -/
import Derived.Test.YtookfhmghchkjaaSDoD
import Derived.Deep.RegionHeld3
namespace Go.Proofs.Ytookfhmghchkjaa
open Go Go.RowKit
attribute [local go_sem ↓] Go.wp_at_zero Go.wp_at_succ

theorem drew6 {W : World} {a1 a2 a3 a4 a5 a6 : Addr} {v1 v2 v3 v4 v5 v6 : Value} (hS : W.cell? a1 = some v1 ∧ W.cell? a2 = some v2 ∧ W.cell? a3 = some v3 ∧ W.cell? a4 = some v4 ∧ W.cell? a5 = some v5 ∧ W.cell? a6 = some v6) :
    W.drew.cell? a1 = some v1 ∧ W.drew.cell? a2 = some v2 ∧ W.drew.cell? a3 = some v3 ∧ W.drew.cell? a4 = some v4 ∧ W.drew.cell? a5 = some v5 ∧ W.drew.cell? a6 = some v6 := hS
theorem iis_ics (ns : List Nat) : iis (ns.map fun n : Nat => (n : Int)) = ics ns := by
  unfold iis ics
  rw [List.map_map]; rfl

/-- What looks reads. -/
structure LkI (w W : World) (B b : Nat) (most : Int) (st : PSt) (cv bv uv fv : Value) (ks : List (Int × Int)) (vs : List (List UInt8 × Value)) (us : List Bool) (fr : List (Int × Int)) : Prop where
  rep : ARep W B b most st
  ref : RRep W B cv bv uv fv ks vs us fr
  box : Blk W w.heap.size 55 #[.int .i64 most, cv, bv, uv, fv]
  below : Below w.heap.size w W
section
variable {w W W' : World} {B b : Nat} {most : Int} {st : PSt} {cv bv uv fv : Value} {ks : List (Int × Int)} {vs : List (List UInt8 × Value)} {us : List Bool} {fr : List (Int × Int)}
theorem LkI.adv (h : LkI w W B b most st cv bv uv fv ks vs us fr) (hb : Below W.heap.size W W') : LkI w W' B b most st cv bv uv fv ks vs us fr :=
  ⟨h.rep.below hb, h.ref.below hb, h.box.below hb, h.below.trans (hb.mono h.below.size)⟩
theorem LkI.alloc (h : LkI w W B b most st cv bv uv fv ks vs us fr) (o : Obj) : LkI w (W.alloc o) B b most st cv bv uv fv ks vs us fr := h.adv ((Below.refl _ _).alloc (Nat.le_refl _) o)
theorem LkI.drew (h : LkI w W B b most st cv bv uv fv ks vs us fr) : LkI w W.drew B b most st cv bv uv fv ks vs us fr := h.adv (Below.refl _ _).drew
end

theorem lk_six {w W : World} {B b : Nat} {most : Int} {st : PSt} {cv fv : Value} {gu uc gb bc p : Nat} {ks : List (Int × Int)} {vs : List (List UInt8 × Value)} {us : List Bool} {fr : List (Int × Int)} {j : Nat} {u : Bool} {xb : List UInt8} {xv : Value} {K N : Int}
    (h : LkI w W B b most st cv (.slice (some ⟨gb, 0, none⟩) vs.length bc) (.slice (some ⟨gu, 0, none⟩) us.length uc) fv ks vs us fr) (hu : us[j]? = some u) (hv : vs[j]? = some (xb, xv)) (hp : Blk W p 38 #[.int .i64 K, .int .i64 N]) :
    W.cell? ⟨w.heap.size, 3, none⟩ = some (.slice (some ⟨gu, 0, none⟩) us.length uc) ∧ W.cell? ⟨w.heap.size, 2, none⟩ = some (.slice (some ⟨gb, 0, none⟩) vs.length bc) ∧ W.cell? ⟨gu, j, none⟩ = some (.bool u) ∧ W.cell? ⟨gb, j, none⟩ = some xv ∧ W.cell? ⟨p, 0, none⟩ = some (.int .i64 K) ∧ W.cell? ⟨p, 1, none⟩ = some (.int .i64 N) :=
  ⟨h.box.cell 3 _ rfl, h.box.cell 2 _ rfl, ucell h.ref.used hu, vcell h.ref.bytes hv, hp.cell 0 _ rfl, hp.cell 1 _ rfl⟩


set_option maxRecDepth 100000 in
set_option maxHeartbeats 4000000 in
theorem slooks_any (m m' B b : Nat) (most : Int) (st : PSt) (cv bv uv fv : Value) (ks : List (Int × Int)) (vs : List (List UInt8 × Value)) (us : List Bool) (fr : List (Int × Int)) (w : World) (h : ARep w B b most st) (hR : RRep w B cv bv uv fv ks vs us fr) (hs : RSync m' st ks (vs.map Prod.fst) us fr) (hw : PWf m st) (hm : m ≤ 1000) (hm' : m' ≤ 1000) :
    Calls Try.prog 21 #[.pointer (some ⟨b, 0, none⟩), .agg #[.int .i64 most, cv, bv, uv, fv]] w fun e w' => e = .returned (.bool true) ∧ Below w.heap.size w w' := by
  obtain ⟨CA, cc, rfl, hc1, _⟩ := own_form hR.cells
  obtain ⟨BA, bc, rfl, hb1, _⟩ := own_form hR.bytes
  obtain ⟨UA, uc, rfl, hu1, _⟩ := own_form hR.used
  obtain ⟨FA, fc, rfl, hf1, _⟩ := own_form hR.free
  have HA := Lib.hid h
  have HR := Lib.hid hR
  have HS := Lib.hid hs
  have HW := Lib.hid hw
  have HM := Lib.hid hm
  have HM' := Lib.hid hm'
  have HN := Lib.hid (hs.lens hm')
  clear h hR hs hw hm hm'
  go_enter Try.func21, Try.ntmps21
  go_upto_region 1 with fail
  obtain ⟨w1, hw1⟩ : ∃ w1, w.alloc (.cells #[.int .i64 most, .slice CA ks.length cc, .slice BA vs.length bc, .slice UA us.length uc, .slice FA fr.length fc] 55) = w1 := ⟨_, rfl⟩
  have HI1 : Hid (LkI w w1 B b most st (.slice CA ks.length cc) (.slice BA vs.length bc) (.slice UA us.length uc) (.slice FA fr.length fc) ks vs us fr) := Lib.hid (hw1 ▸ ⟨HA.out.alloc _, HR.out.alloc _, Blk.new _ _ _, (Below.refl _ _).alloc (Nat.le_refl _) _⟩)
  rw [hw1]
  clear hw1
  have x0 : World.cell? w1 ⟨w.heap.size, 0, none⟩ = some (.int .i64 most) := (HI1.out.box).cell 0 _ rfl
  have x1 : World.cell? w1 ⟨w.heap.size, 1, none⟩ = some (.slice CA ks.length cc) := (HI1.out.box).cell 1 _ rfl
  have x2 : World.cell? w1 ⟨w.heap.size, 2, none⟩ = some (.slice BA vs.length bc) := (HI1.out.box).cell 2 _ rfl
  have x3 : World.cell? w1 ⟨w.heap.size, 3, none⟩ = some (.slice UA us.length uc) := (HI1.out.box).cell 3 _ rfl
  have x4 : World.cell? w1 ⟨w.heap.size, 4, none⟩ = some (.slice FA fr.length fc) := (HI1.out.box).cell 4 _ rfl
  go_wp2_with fail
  refine (refSums_any B most _ _ _ _ ks vs us fr _ HI1.out.ref HN.out.2.1 HN.out.2.2.1 HN.out.1 HS.out.classes (HS.out.vbytes HW.out)).mono ?_
  rintro e w2 ⟨rfl, hb2⟩
  have HI2 := Lib.hid (HI1.out.adv hb2)
  clear hb2 x0 x1 x2 x3 x4 HI1
  go_wp2_with fail
  refine (uses_true m B b most st _ HI2.out.rep HW.out HM.out _ _ _ (by rw [HS.out.used]) (by rw [HS.out.all]) (by rw [fHeld_b, HS.out.held])).mono ?_
  rintro e w3 ⟨rfl, hb3⟩
  have HI3 := Lib.hid (HI2.out.adv hb3)
  clear hb3 HI2
  have x1 : w3.cell? ⟨w.heap.size, 1, none⟩ = some (.slice CA ks.length cc) := HI3.out.box.cell 1 _ rfl
  go_wp2_with fail
  go_loopw [26] (fun i wr => ∃ (j : Nat), j ≤ ks.length ∧ i = .int .i64 j ∧ LkI w wr B b most st (.slice CA ks.length cc) (.slice BA vs.length bc) (.slice UA us.length uc) (.slice FA fr.length fc) ks vs us fr) (fun i _ => ks.length - (intOf i).toNat)
  case atStart => exact ⟨0, by omega, rfl, HI3.out⟩
  case round =>
    obtain ⟨j, hj, rfl, hI⟩ := hrel
    have HI := Lib.hid hI
    clear hI HI3
    by_cases hjl : j < ks.length
    · obtain ⟨⟨K, N⟩, hkk⟩ : ∃ x, ks[j]? = some x := ⟨_, List.getElem?_eq_getElem hjl⟩
      obtain ⟨u, huk⟩ : ∃ x, us[j]? = some x := ⟨_, List.getElem?_eq_getElem (by have := HN.out.2.1; omega)⟩
      obtain ⟨⟨xb, xv⟩, hvk⟩ : ∃ x, vs[j]? = some x := ⟨_, List.getElem?_eq_getElem (by have := HN.out.2.2.1; omega)⟩
      obtain ⟨gc, cap, e1, _, hcc, _, c0, c1⟩ := kread HI.out.ref.cells hkk
      injection e1 with e1 el e3
      clear el
      subst e1 e3
      obtain ⟨gu, ucap, e2, _, huc, _, _⟩ := uread HI.out.ref.used huk
      injection e2 with e2 el e4
      clear el
      subst e2 e4
      obtain ⟨gb, bcap, e2, _, hbc, _, _⟩ := vread HI.out.ref.bytes hvk
      injection e2 with e2 el e4
      clear el
      subst e2 e4
      have hph : phas st K N = if u then some xb else none := by
        obtain ⟨a, n, e, ha, bs', u', hb', hu', hc'⟩ := HS.out.at_ j _ hkk
        injection e with e1 e2
        subst e1 e2
        rw [List.getElem?_map, hvk] at hb'
        rw [huk] at hu'
        injection hb' with hb'
        injection hu' with hu'
        subst hb' hu'
        exact phas_of ha hc'
      have HPh := Lib.hid hph
      have hjI : (j : Int) < (ks.length : Int) := by omega
      have hjU : (j : Int) < (us.length : Int) := by have := HN.out.2.1; omega
      have hjV : (j : Int) < (vs.length : Int) := by have := HN.out.2.2.1; omega
      have hcI : (ks.length : Int) ≤ (cc : Int) := by omega
      have huI : (us.length : Int) ≤ (uc : Int) := by omega
      have hbI : (vs.length : Int) ≤ (bc : Int) := by omega
      have hj1 : (j : Int) ≤ 1000 := by have := HN.out.1; omega
      have HK := Lib.hid hkk
      have HU := Lib.hid huk
      have HV := Lib.hid hvk
      clear hkk huk hvk hph
      go_upto_region 7 with fail
      obtain ⟨w4, hw4⟩ : ∃ w4, wr.alloc (.cells #[.int .i64 K, .int .i64 N] 38) = w4 := ⟨_, rfl⟩
      have HI4 := Lib.hid (hw4 ▸ HI.out.alloc (.cells #[.int .i64 K, .int .i64 N] 38))
      have HP4 : Hid (Blk w4 wr.heap.size 38 #[.int .i64 K, .int .i64 N]) := Lib.hid (hw4 ▸ Blk.new _ _ _)
      rw [hw4]
      clear hw4 c0 c1
      obtain ⟨p, hp⟩ : ∃ p, wr.heap.size = p := ⟨_, rfl⟩
      rw [hp] at HP4 ⊢
      clear hp HI
      obtain ⟨XA, xc, hxv⟩ := (HI4.out.ref.vals (xb, xv) (List.mem_of_getElem? HV.out)).form
      dsimp only at hxv
      subst hxv
      cases u with
      | true =>
        rw [if_pos rfl] at HPh
        refine wp_region_noPanic ?_
        refine wp_region_held_drew (S := fun W => LkI w W B b most st (.slice (some ⟨gc, 0, none⟩) ks.length cc) (.slice (some ⟨gb, 0, none⟩) vs.length bc) (.slice (some ⟨gu, 0, none⟩) us.length uc) (.slice FA fr.length fc) ks vs us fr ∧ Blk W p 38 #[.int .i64 K, .int .i64 N]) (by kernel_rfl) ⟨HI4.out.drew, HP4.out⟩ (fun hHeld => ?_)
        refine wpAnyH_take (i := 0) (oi := ⟨_, _, _, _, _, _⟩) (v := ?_) rfl (by kernel_rfl) (by kernel_rfl) (by kernel_rfl) (fun _ _ _ h => h) (Or.inl ⟨by rfl, ?_⟩) (by assumption) ?_
        rotate_left 1
        · intro W hSw
          obtain ⟨z1, z2, z3, z4, z5, z6⟩ := lk_six hSw.1 HU.out HV.out hSw.2
          have cvt := (hSw.1.ref.vals _ (List.mem_of_getElem? HV.out)).string (P := Try.prog) 39 9 Try.underlying39 Try.underlying5 Try.underlying9
          dsimp only at cvt
          clear hSw
          go_simp
          try with_reducible rfl
        try simp only [Act.put, List.setIfInBounds_toArray, List.set_cons_zero, List.set_cons_succ]
        refine wpAnyH_take (i := 1) (oi := ⟨_, _, _, _, _, _⟩) (v := ?_) rfl (by kernel_rfl) (by kernel_rfl) (by kernel_rfl) (fun _ _ _ h => h) (Or.inl ⟨by rfl, ?_⟩) (by assumption) ?_
        rotate_left 1
        · intro W hSw
          obtain ⟨z1, z2, z3, z4, z5, z6⟩ := lk_six hSw.1 HU.out HV.out hSw.2
          have cvt := (hSw.1.ref.vals _ (List.mem_of_getElem? HV.out)).string (P := Try.prog) 39 9 Try.underlying39 Try.underlying5 Try.underlying9
          dsimp only at cvt
          clear hSw
          go_simp
          try with_reducible rfl
        try simp only [Act.put, List.setIfInBounds_toArray, List.set_cons_zero, List.set_cons_succ]
        refine wpAnyH_take (i := 2) (oi := ⟨_, _, _, _, _, _⟩) (v := ?_) rfl (by kernel_rfl) (by kernel_rfl) (by kernel_rfl) (fun _ _ _ h => h) (Or.inl ⟨by rfl, ?_⟩) (by assumption) ?_
        rotate_left 1
        · intro W hSw
          obtain ⟨z1, z2, z3, z4, z5, z6⟩ := lk_six hSw.1 HU.out HV.out hSw.2
          have cvt := (hSw.1.ref.vals _ (List.mem_of_getElem? HV.out)).string (P := Try.prog) 39 9 Try.underlying39 Try.underlying5 Try.underlying9
          dsimp only at cvt
          clear hSw
          go_simp
          try with_reducible rfl
        try simp only [Act.put, List.setIfInBounds_toArray, List.set_cons_zero, List.set_cons_succ]
        refine wpAnyH_take (i := 3) (oi := ⟨_, _, _, _, _, _⟩) (v := ?_) rfl (by kernel_rfl) (by kernel_rfl) (by kernel_rfl) (fun _ _ _ h => h) (Or.inl ⟨by rfl, ?_⟩) (by assumption) ?_
        rotate_left 1
        · intro W hSw
          obtain ⟨z1, z2, z3, z4, z5, z6⟩ := lk_six hSw.1 HU.out HV.out hSw.2
          have cvt := (hSw.1.ref.vals _ (List.mem_of_getElem? HV.out)).string (P := Try.prog) 39 9 Try.underlying39 Try.underlying5 Try.underlying9
          dsimp only at cvt
          clear hSw
          go_simp
          try with_reducible rfl
        try simp only [Act.put, List.setIfInBounds_toArray, List.set_cons_zero, List.set_cons_succ]
        refine wpAnyH_take (i := 4) (oi := ⟨_, _, _, _, _, _⟩) (v := ?_) rfl (by kernel_rfl) (by kernel_rfl) (by kernel_rfl) (fun _ _ _ h => h) (Or.inl ⟨by rfl, ?_⟩) (by assumption) ?_
        rotate_left 1
        · intro W hSw
          obtain ⟨z1, z2, z3, z4, z5, z6⟩ := lk_six hSw.1 HU.out HV.out hSw.2
          have cvt := (hSw.1.ref.vals _ (List.mem_of_getElem? HV.out)).string (P := Try.prog) 39 9 Try.underlying39 Try.underlying5 Try.underlying9
          dsimp only at cvt
          clear hSw
          go_simp
          try with_reducible rfl
        try simp only [Act.put, List.setIfInBounds_toArray, List.set_cons_zero, List.set_cons_succ]
        refine wpAnyH_take (i := 5) (oi := ⟨_, _, _, _, _, _⟩) (v := ?_) rfl (by kernel_rfl) (by kernel_rfl) (by kernel_rfl) (fun _ _ _ h => h) (Or.inl ⟨by rfl, ?_⟩) (by assumption) ?_
        rotate_left 1
        · intro W hSw
          obtain ⟨z1, z2, z3, z4, z5, z6⟩ := lk_six hSw.1 HU.out HV.out hSw.2
          have cvt := (hSw.1.ref.vals _ (List.mem_of_getElem? HV.out)).string (P := Try.prog) 39 9 Try.underlying39 Try.underlying5 Try.underlying9
          dsimp only at cvt
          clear hSw
          go_simp
          try with_reducible rfl
        try simp only [Act.put, List.setIfInBounds_toArray, List.set_cons_zero, List.set_cons_succ]
        refine wpAnyH_take (i := 6) (oi := ⟨_, _, _, _, _, _⟩) (v := ?_) rfl (by kernel_rfl) (by kernel_rfl) (by kernel_rfl) (fun _ _ _ h => h) (Or.inl ⟨by rfl, ?_⟩) (by assumption) ?_
        rotate_left 1
        · intro W hSw
          obtain ⟨z1, z2, z3, z4, z5, z6⟩ := lk_six hSw.1 HU.out HV.out hSw.2
          have cvt := (hSw.1.ref.vals _ (List.mem_of_getElem? HV.out)).string (P := Try.prog) 39 9 Try.underlying39 Try.underlying5 Try.underlying9
          dsimp only at cvt
          clear hSw
          go_simp
          try with_reducible rfl
        try simp only [Act.put, List.setIfInBounds_toArray, List.set_cons_zero, List.set_cons_succ]
        refine wpAnyH_take (i := 7) (oi := ⟨_, _, _, _, _, _⟩) (v := ?_) rfl (by kernel_rfl) (by kernel_rfl) (by kernel_rfl) (fun _ _ _ h => h) (Or.inl ⟨by rfl, ?_⟩) (by assumption) ?_
        rotate_left 1
        · intro W hSw
          obtain ⟨z1, z2, z3, z4, z5, z6⟩ := lk_six hSw.1 HU.out HV.out hSw.2
          have cvt := (hSw.1.ref.vals _ (List.mem_of_getElem? HV.out)).string (P := Try.prog) 39 9 Try.underlying39 Try.underlying5 Try.underlying9
          dsimp only at cvt
          clear hSw
          go_simp
          try with_reducible rfl
        try simp only [Act.put, List.setIfInBounds_toArray, List.set_cons_zero, List.set_cons_succ]
        refine wpAnyH_take (i := 8) (oi := ⟨_, _, _, _, _, _⟩) (v := ?_) rfl (by kernel_rfl) (by kernel_rfl) (by kernel_rfl) (fun _ _ _ h => h) (Or.inl ⟨by rfl, ?_⟩) (by assumption) ?_
        rotate_left 1
        · intro W hSw
          obtain ⟨z1, z2, z3, z4, z5, z6⟩ := lk_six hSw.1 HU.out HV.out hSw.2
          have cvt := (hSw.1.ref.vals _ (List.mem_of_getElem? HV.out)).string (P := Try.prog) 39 9 Try.underlying39 Try.underlying5 Try.underlying9
          dsimp only at cvt
          clear hSw
          go_simp
          try with_reducible rfl
        try simp only [Act.put, List.setIfInBounds_toArray, List.set_cons_zero, List.set_cons_succ]
        refine wpAnyH_take (i := 9) (oi := ⟨_, _, _, _, _, _⟩) (v := ?_) rfl (by kernel_rfl) (by kernel_rfl) (by kernel_rfl) (fun _ _ _ h => h) (Or.inl ⟨by rfl, ?_⟩) (by assumption) ?_
        rotate_left 1
        · intro W hSw
          obtain ⟨z1, z2, z3, z4, z5, z6⟩ := lk_six hSw.1 HU.out HV.out hSw.2
          have cvt := (hSw.1.ref.vals _ (List.mem_of_getElem? HV.out)).string (P := Try.prog) 39 9 Try.underlying39 Try.underlying5 Try.underlying9
          dsimp only at cvt
          clear hSw
          go_simp
          try with_reducible rfl
        try simp only [Act.put, List.setIfInBounds_toArray, List.set_cons_zero, List.set_cons_succ]
        refine wpAnyH_take (i := 10) (oi := ⟨_, _, _, _, _, _⟩) (v := ?_) rfl (by kernel_rfl) (by kernel_rfl) (by kernel_rfl) (fun _ _ _ h => h) (Or.inl ⟨by rfl, ?_⟩) (by assumption) ?_
        rotate_left 1
        · intro W hSw
          obtain ⟨z1, z2, z3, z4, z5, z6⟩ := lk_six hSw.1 HU.out HV.out hSw.2
          have cvt := (hSw.1.ref.vals _ (List.mem_of_getElem? HV.out)).string (P := Try.prog) 39 9 Try.underlying39 Try.underlying5 Try.underlying9
          dsimp only at cvt
          clear hSw
          go_simp
          try with_reducible rfl
        try simp only [Act.put, List.setIfInBounds_toArray, List.set_cons_zero, List.set_cons_succ]
        refine wpAnyH_take (i := 11) (oi := ⟨_, _, _, _, _, _⟩) (v := ?_) rfl (by kernel_rfl) (by kernel_rfl) (by kernel_rfl) (fun _ _ _ h => h) (Or.inl ⟨by rfl, ?_⟩) (by assumption) ?_
        rotate_left 1
        · intro W hSw
          obtain ⟨z1, z2, z3, z4, z5, z6⟩ := lk_six hSw.1 HU.out HV.out hSw.2
          have cvt := (hSw.1.ref.vals _ (List.mem_of_getElem? HV.out)).string (P := Try.prog) 39 9 Try.underlying39 Try.underlying5 Try.underlying9
          dsimp only at cvt
          clear hSw
          go_simp
          try with_reducible rfl
        try simp only [Act.put, List.setIfInBounds_toArray, List.set_cons_zero, List.set_cons_succ]
        refine wpAnyH_take (i := 12) (oi := ⟨_, _, _, _, _, _⟩) (v := ?_) rfl (by kernel_rfl) (by kernel_rfl) (by kernel_rfl) (fun _ _ _ h => h) (Or.inl ⟨by rfl, ?_⟩) (by assumption) ?_
        rotate_left 1
        · intro W hSw
          obtain ⟨z1, z2, z3, z4, z5, z6⟩ := lk_six hSw.1 HU.out HV.out hSw.2
          have cvt := (hSw.1.ref.vals _ (List.mem_of_getElem? HV.out)).string (P := Try.prog) 39 9 Try.underlying39 Try.underlying5 Try.underlying9
          dsimp only at cvt
          clear hSw
          go_simp
          try with_reducible rfl
        try simp only [Act.put, List.setIfInBounds_toArray, List.set_cons_zero, List.set_cons_succ]
        refine wpAnyH_take (i := 13) (oi := ⟨_, _, _, _, _, _⟩) (v := ?_) rfl (by kernel_rfl) (by kernel_rfl) (by kernel_rfl) (fun _ _ _ h => h) (Or.inl ⟨by rfl, ?_⟩) (by assumption) ?_
        rotate_left 1
        · intro W hSw
          obtain ⟨z1, z2, z3, z4, z5, z6⟩ := lk_six hSw.1 HU.out HV.out hSw.2
          have cvt := (hSw.1.ref.vals _ (List.mem_of_getElem? HV.out)).string (P := Try.prog) 39 9 Try.underlying39 Try.underlying5 Try.underlying9
          dsimp only at cvt
          clear hSw
          go_simp
          try with_reducible rfl
        try simp only [Act.put, List.setIfInBounds_toArray, List.set_cons_zero, List.set_cons_succ]
        refine wpAnyH_ready (rs := [14]) (by kernel_rfl) (by simp) ?_
        refine AllReadyH.cons (o := ⟨_, _, _, _, _, _⟩) rfl (fun F hF => ?_) AllReadyH.nil
        go_simp
        refine (gets_some m B b most st K N xb _ hHeld.1.rep HW.out HPh.out).mono ?_
        rintro e w5 ⟨rfl, hb5⟩
        have HI5 := Lib.hid (hHeld.1.adv hb5)
        have HP5 := Lib.hid (hHeld.2.below hb5)
        clear hb5 hHeld
        go_wp2_with fail
        refine hF.out _ _ ⟨HI5.out, HP5.out⟩ (fun hHeld => ?_)
        clear hF F
        try simp only [Act.put, List.setIfInBounds_toArray, List.set_cons_zero, List.set_cons_succ]
        refine wpAnyH_take (i := 15) (oi := ⟨_, _, _, _, _, _⟩) (v := ?_) rfl (by kernel_rfl) (by kernel_rfl) (by kernel_rfl) (fun _ _ _ h => h) (Or.inl ⟨by rfl, ?_⟩) (by assumption) ?_
        rotate_left 1
        · intro W hSw
          obtain ⟨z1, z2, z3, z4, z5, z6⟩ := lk_six hSw.1 HU.out HV.out hSw.2
          have cvt := (hSw.1.ref.vals _ (List.mem_of_getElem? HV.out)).string (P := Try.prog) 39 9 Try.underlying39 Try.underlying5 Try.underlying9
          dsimp only at cvt
          clear hSw
          go_simp
          try with_reducible rfl
        try simp only [Act.put, List.setIfInBounds_toArray, List.set_cons_zero, List.set_cons_succ]
        refine wpAnyH_take (i := 16) (oi := ⟨_, _, _, _, _, _⟩) (v := ?_) rfl (by kernel_rfl) (by kernel_rfl) (by kernel_rfl) (fun _ _ _ h => h) (Or.inl ⟨by rfl, ?_⟩) (by assumption) ?_
        rotate_left 1
        · intro W hSw
          obtain ⟨z1, z2, z3, z4, z5, z6⟩ := lk_six hSw.1 HU.out HV.out hSw.2
          have cvt := (hSw.1.ref.vals _ (List.mem_of_getElem? HV.out)).string (P := Try.prog) 39 9 Try.underlying39 Try.underlying5 Try.underlying9
          dsimp only at cvt
          clear hSw
          go_simp
          try with_reducible rfl
        try simp only [Act.put, List.setIfInBounds_toArray, List.set_cons_zero, List.set_cons_succ]
        refine wpAnyH_take (i := 17) (oi := ⟨_, _, _, _, _, _⟩) (v := ?_) rfl (by kernel_rfl) (by kernel_rfl) (by kernel_rfl) (fun _ _ _ h => h) (Or.inl ⟨by rfl, ?_⟩) (by assumption) ?_
        rotate_left 1
        · intro W hSw
          obtain ⟨z1, z2, z3, z4, z5, z6⟩ := lk_six hSw.1 HU.out HV.out hSw.2
          have cvt := (hSw.1.ref.vals _ (List.mem_of_getElem? HV.out)).string (P := Try.prog) 39 9 Try.underlying39 Try.underlying5 Try.underlying9
          dsimp only at cvt
          clear hSw
          go_simp
          try with_reducible rfl
        try simp only [Act.put, List.setIfInBounds_toArray, List.set_cons_zero, List.set_cons_succ]
        refine wpAnyH_take (i := 18) (oi := ⟨_, _, _, _, _, _⟩) (v := ?_) rfl (by kernel_rfl) (by kernel_rfl) (by kernel_rfl) (fun _ _ _ h => h) (Or.inl ⟨by rfl, ?_⟩) (by assumption) ?_
        rotate_left 1
        · intro W hSw
          obtain ⟨z1, z2, z3, z4, z5, z6⟩ := lk_six hSw.1 HU.out HV.out hSw.2
          have cvt := (hSw.1.ref.vals _ (List.mem_of_getElem? HV.out)).string (P := Try.prog) 39 9 Try.underlying39 Try.underlying5 Try.underlying9
          dsimp only at cvt
          clear hSw
          go_simp
          try with_reducible rfl
        try simp only [Act.put, List.setIfInBounds_toArray, List.set_cons_zero, List.set_cons_succ]
        refine wpAnyH_take (i := 19) (oi := ⟨_, _, _, _, _, _⟩) (v := ?_) rfl (by kernel_rfl) (by kernel_rfl) (by kernel_rfl) (fun _ _ _ h => h) (Or.inl ⟨by rfl, ?_⟩) (by assumption) ?_
        rotate_left 1
        · intro W hSw
          obtain ⟨z1, z2, z3, z4, z5, z6⟩ := lk_six hSw.1 HU.out HV.out hSw.2
          have cvt := (hSw.1.ref.vals _ (List.mem_of_getElem? HV.out)).string (P := Try.prog) 39 9 Try.underlying39 Try.underlying5 Try.underlying9
          dsimp only at cvt
          clear hSw
          go_simp
          try with_reducible rfl
        try simp only [Act.put, List.setIfInBounds_toArray, List.set_cons_zero, List.set_cons_succ]
        refine wpAnyH_take (i := 20) (oi := ⟨_, _, _, _, _, _⟩) (v := ?_) rfl (by kernel_rfl) (by kernel_rfl) (by kernel_rfl) (fun _ _ _ h => h) (Or.inl ⟨by rfl, ?_⟩) (by assumption) ?_
        rotate_left 1
        · intro W hSw
          obtain ⟨z1, z2, z3, z4, z5, z6⟩ := lk_six hSw.1 HU.out HV.out hSw.2
          have cvt := (hSw.1.ref.vals _ (List.mem_of_getElem? HV.out)).string (P := Try.prog) 39 9 Try.underlying39 Try.underlying5 Try.underlying9
          dsimp only at cvt
          clear hSw
          go_simp
          try with_reducible rfl
        try simp only [Act.put, List.setIfInBounds_toArray, List.set_cons_zero, List.set_cons_succ]
        refine wpAnyH_take (i := 21) (oi := ⟨_, _, _, _, _, _⟩) (v := ?_) rfl (by kernel_rfl) (by kernel_rfl) (by kernel_rfl) (fun _ _ _ h => h) (Or.inl ⟨by rfl, ?_⟩) (by assumption) ?_
        rotate_left 1
        · intro W hSw
          obtain ⟨z1, z2, z3, z4, z5, z6⟩ := lk_six hSw.1 HU.out HV.out hSw.2
          have cvt := (hSw.1.ref.vals _ (List.mem_of_getElem? HV.out)).string (P := Try.prog) 39 9 Try.underlying39 Try.underlying5 Try.underlying9
          dsimp only at cvt
          clear hSw
          go_simp
          try with_reducible rfl
        try simp only [Act.put, List.setIfInBounds_toArray, List.set_cons_zero, List.set_cons_succ]
        refine wpAnyH_take (i := 22) (oi := ⟨_, _, _, _, _, _⟩) (v := ?_) rfl (by kernel_rfl) (by kernel_rfl) (by kernel_rfl) (fun _ _ _ h => h) (Or.inl ⟨by rfl, ?_⟩) (by assumption) ?_
        rotate_left 1
        · intro W hSw
          obtain ⟨z1, z2, z3, z4, z5, z6⟩ := lk_six hSw.1 HU.out HV.out hSw.2
          have cvt := (hSw.1.ref.vals _ (List.mem_of_getElem? HV.out)).string (P := Try.prog) 39 9 Try.underlying39 Try.underlying5 Try.underlying9
          dsimp only at cvt
          clear hSw
          go_simp
          try with_reducible rfl
        try simp only [Act.put, List.setIfInBounds_toArray, List.set_cons_zero, List.set_cons_succ]
        refine wpAnyH_take (i := 23) (oi := ⟨_, _, _, _, _, _⟩) (v := ?_) rfl (by kernel_rfl) (by kernel_rfl) (by kernel_rfl) (fun _ _ _ h => h) (Or.inl ⟨by rfl, ?_⟩) (by assumption) ?_
        rotate_left 1
        · intro W hSw
          obtain ⟨z1, z2, z3, z4, z5, z6⟩ := lk_six hSw.1 HU.out HV.out hSw.2
          have cvt := (hSw.1.ref.vals _ (List.mem_of_getElem? HV.out)).string (P := Try.prog) 39 9 Try.underlying39 Try.underlying5 Try.underlying9
          dsimp only at cvt
          clear hSw
          go_simp
          try with_reducible rfl
        try simp only [Act.put, List.setIfInBounds_toArray, List.set_cons_zero, List.set_cons_succ]
        refine wpAnyH_take (i := 24) (oi := ⟨_, _, _, _, _, _⟩) (v := ?_) rfl (by kernel_rfl) (by kernel_rfl) (by kernel_rfl) (fun _ _ _ h => h) (Or.inl ⟨by rfl, ?_⟩) (by assumption) ?_
        rotate_left 1
        · intro W hSw
          obtain ⟨z1, z2, z3, z4, z5, z6⟩ := lk_six hSw.1 HU.out HV.out hSw.2
          have cvt := (hSw.1.ref.vals _ (List.mem_of_getElem? HV.out)).string (P := Try.prog) 39 9 Try.underlying39 Try.underlying5 Try.underlying9
          dsimp only at cvt
          clear hSw
          go_simp
          try with_reducible rfl
        try simp only [Act.put, List.setIfInBounds_toArray, List.set_cons_zero, List.set_cons_succ]
        refine wpAnyH_take (i := 25) (oi := ⟨_, _, _, _, _, _⟩) rfl (by kernel_rfl) (by kernel_rfl) (by kernel_rfl) (fun _ _ _ h => h) (Or.inr ⟨by rfl, rfl⟩) (by assumption) ?_
        try simp only [Act.put, List.setIfInBounds_toArray, List.set_cons_zero, List.set_cons_succ]
        refine wpAnyH_take (i := 26) (oi := ⟨_, _, _, _, _, _⟩) rfl (by kernel_rfl) (by kernel_rfl) (by kernel_rfl) (fun _ _ _ h => h) (Or.inr ⟨by rfl, rfl⟩) (by assumption) ?_
        try simp only [Act.put, List.setIfInBounds_toArray, List.set_cons_zero, List.set_cons_succ]
        refine wpAnyH_take (i := 27) (oi := ⟨_, _, _, _, _, _⟩) rfl (by kernel_rfl) (by kernel_rfl) (by kernel_rfl) (fun _ _ _ h => h) (Or.inr ⟨by rfl, rfl⟩) (by assumption) ?_
        try simp only [Act.put, List.setIfInBounds_toArray, List.set_cons_zero, List.set_cons_succ]
        refine wpAnyH_take (i := 28) (oi := ⟨_, _, _, _, _, _⟩) rfl (by kernel_rfl) (by kernel_rfl) (by kernel_rfl) (fun _ _ _ h => h) (Or.inr ⟨by rfl, rfl⟩) (by assumption) ?_
        try simp only [Act.put, List.setIfInBounds_toArray, List.set_cons_zero, List.set_cons_succ]
        refine wpAnyH_take (i := 29) (oi := ⟨_, _, _, _, _, _⟩) (v := ?_) rfl (by kernel_rfl) (by kernel_rfl) (by kernel_rfl) (fun _ _ _ h => h) (Or.inl ⟨by rfl, ?_⟩) (by assumption) ?_
        rotate_left 1
        · intro W hSw
          obtain ⟨z1, z2, z3, z4, z5, z6⟩ := lk_six hSw.1 HU.out HV.out hSw.2
          have cvt := (hSw.1.ref.vals _ (List.mem_of_getElem? HV.out)).string (P := Try.prog) 39 9 Try.underlying39 Try.underlying5 Try.underlying9
          dsimp only at cvt
          clear hSw
          go_simp
          try with_reducible rfl
        try simp only [Act.put, List.setIfInBounds_toArray, List.set_cons_zero, List.set_cons_succ]
        refine wpAnyH_take (i := 30) (oi := ⟨_, _, _, _, _, _⟩) (v := ?_) rfl (by kernel_rfl) (by kernel_rfl) (by kernel_rfl) (fun _ _ _ h => h) (Or.inl ⟨by rfl, ?_⟩) (by assumption) ?_
        rotate_left 1
        · intro W hSw
          obtain ⟨z1, z2, z3, z4, z5, z6⟩ := lk_six hSw.1 HU.out HV.out hSw.2
          have cvt := (hSw.1.ref.vals _ (List.mem_of_getElem? HV.out)).string (P := Try.prog) 39 9 Try.underlying39 Try.underlying5 Try.underlying9
          dsimp only at cvt
          clear hSw
          go_simp
          try with_reducible rfl
        try simp only [Act.put, List.setIfInBounds_toArray, List.set_cons_zero, List.set_cons_succ]
        refine wpAnyH_done (by kernel_rfl) ?_ _
        refine NoPanic.normal ?_
        have HI := Lib.hid hHeld.1
        clear hHeld HI4 HP4 HI5 HP5
        go_wp2_with fail
        go_roundw
        case rel => exact ⟨j + 1, by omega, by go_num, HI.out⟩
        case measure => simp [intOf]; omega
      | false =>
        rw [if_neg (by decide)] at HPh
        refine wp_region_noPanic ?_
        refine wp_region_held_drew (S := fun W => LkI w W B b most st (.slice (some ⟨gc, 0, none⟩) ks.length cc) (.slice (some ⟨gb, 0, none⟩) vs.length bc) (.slice (some ⟨gu, 0, none⟩) us.length uc) (.slice FA fr.length fc) ks vs us fr ∧ Blk W p 38 #[.int .i64 K, .int .i64 N]) (by kernel_rfl) ⟨HI4.out.drew, HP4.out⟩ (fun hHeld => ?_)
        refine wpAnyH_take (i := 0) (oi := ⟨_, _, _, _, _, _⟩) (v := ?_) rfl (by kernel_rfl) (by kernel_rfl) (by kernel_rfl) (fun _ _ _ h => h) (Or.inl ⟨by rfl, ?_⟩) (by assumption) ?_
        rotate_left 1
        · intro W hSw
          obtain ⟨z1, z2, z3, z4, z5, z6⟩ := lk_six hSw.1 HU.out HV.out hSw.2
          have cvt := (hSw.1.ref.vals _ (List.mem_of_getElem? HV.out)).string (P := Try.prog) 39 9 Try.underlying39 Try.underlying5 Try.underlying9
          dsimp only at cvt
          clear hSw
          go_simp
          try with_reducible rfl
        try simp only [Act.put, List.setIfInBounds_toArray, List.set_cons_zero, List.set_cons_succ]
        refine wpAnyH_take (i := 1) (oi := ⟨_, _, _, _, _, _⟩) (v := ?_) rfl (by kernel_rfl) (by kernel_rfl) (by kernel_rfl) (fun _ _ _ h => h) (Or.inl ⟨by rfl, ?_⟩) (by assumption) ?_
        rotate_left 1
        · intro W hSw
          obtain ⟨z1, z2, z3, z4, z5, z6⟩ := lk_six hSw.1 HU.out HV.out hSw.2
          have cvt := (hSw.1.ref.vals _ (List.mem_of_getElem? HV.out)).string (P := Try.prog) 39 9 Try.underlying39 Try.underlying5 Try.underlying9
          dsimp only at cvt
          clear hSw
          go_simp
          try with_reducible rfl
        try simp only [Act.put, List.setIfInBounds_toArray, List.set_cons_zero, List.set_cons_succ]
        refine wpAnyH_take (i := 2) (oi := ⟨_, _, _, _, _, _⟩) (v := ?_) rfl (by kernel_rfl) (by kernel_rfl) (by kernel_rfl) (fun _ _ _ h => h) (Or.inl ⟨by rfl, ?_⟩) (by assumption) ?_
        rotate_left 1
        · intro W hSw
          obtain ⟨z1, z2, z3, z4, z5, z6⟩ := lk_six hSw.1 HU.out HV.out hSw.2
          have cvt := (hSw.1.ref.vals _ (List.mem_of_getElem? HV.out)).string (P := Try.prog) 39 9 Try.underlying39 Try.underlying5 Try.underlying9
          dsimp only at cvt
          clear hSw
          go_simp
          try with_reducible rfl
        try simp only [Act.put, List.setIfInBounds_toArray, List.set_cons_zero, List.set_cons_succ]
        refine wpAnyH_take (i := 3) (oi := ⟨_, _, _, _, _, _⟩) (v := ?_) rfl (by kernel_rfl) (by kernel_rfl) (by kernel_rfl) (fun _ _ _ h => h) (Or.inl ⟨by rfl, ?_⟩) (by assumption) ?_
        rotate_left 1
        · intro W hSw
          obtain ⟨z1, z2, z3, z4, z5, z6⟩ := lk_six hSw.1 HU.out HV.out hSw.2
          have cvt := (hSw.1.ref.vals _ (List.mem_of_getElem? HV.out)).string (P := Try.prog) 39 9 Try.underlying39 Try.underlying5 Try.underlying9
          dsimp only at cvt
          clear hSw
          go_simp
          try with_reducible rfl
        try simp only [Act.put, List.setIfInBounds_toArray, List.set_cons_zero, List.set_cons_succ]
        refine wpAnyH_take (i := 4) (oi := ⟨_, _, _, _, _, _⟩) (v := ?_) rfl (by kernel_rfl) (by kernel_rfl) (by kernel_rfl) (fun _ _ _ h => h) (Or.inl ⟨by rfl, ?_⟩) (by assumption) ?_
        rotate_left 1
        · intro W hSw
          obtain ⟨z1, z2, z3, z4, z5, z6⟩ := lk_six hSw.1 HU.out HV.out hSw.2
          have cvt := (hSw.1.ref.vals _ (List.mem_of_getElem? HV.out)).string (P := Try.prog) 39 9 Try.underlying39 Try.underlying5 Try.underlying9
          dsimp only at cvt
          clear hSw
          go_simp
          try with_reducible rfl
        try simp only [Act.put, List.setIfInBounds_toArray, List.set_cons_zero, List.set_cons_succ]
        refine wpAnyH_take (i := 5) (oi := ⟨_, _, _, _, _, _⟩) (v := ?_) rfl (by kernel_rfl) (by kernel_rfl) (by kernel_rfl) (fun _ _ _ h => h) (Or.inl ⟨by rfl, ?_⟩) (by assumption) ?_
        rotate_left 1
        · intro W hSw
          obtain ⟨z1, z2, z3, z4, z5, z6⟩ := lk_six hSw.1 HU.out HV.out hSw.2
          have cvt := (hSw.1.ref.vals _ (List.mem_of_getElem? HV.out)).string (P := Try.prog) 39 9 Try.underlying39 Try.underlying5 Try.underlying9
          dsimp only at cvt
          clear hSw
          go_simp
          try with_reducible rfl
        try simp only [Act.put, List.setIfInBounds_toArray, List.set_cons_zero, List.set_cons_succ]
        refine wpAnyH_take (i := 6) (oi := ⟨_, _, _, _, _, _⟩) rfl (by kernel_rfl) (by kernel_rfl) (by kernel_rfl) (fun _ _ _ h => h) (Or.inr ⟨by rfl, rfl⟩) (by assumption) ?_
        try simp only [Act.put, List.setIfInBounds_toArray, List.set_cons_zero, List.set_cons_succ]
        refine wpAnyH_take (i := 7) (oi := ⟨_, _, _, _, _, _⟩) rfl (by kernel_rfl) (by kernel_rfl) (by kernel_rfl) (fun _ _ _ h => h) (Or.inr ⟨by rfl, rfl⟩) (by assumption) ?_
        try simp only [Act.put, List.setIfInBounds_toArray, List.set_cons_zero, List.set_cons_succ]
        refine wpAnyH_take (i := 8) (oi := ⟨_, _, _, _, _, _⟩) rfl (by kernel_rfl) (by kernel_rfl) (by kernel_rfl) (fun _ _ _ h => h) (Or.inr ⟨by rfl, rfl⟩) (by assumption) ?_
        try simp only [Act.put, List.setIfInBounds_toArray, List.set_cons_zero, List.set_cons_succ]
        refine wpAnyH_take (i := 9) (oi := ⟨_, _, _, _, _, _⟩) rfl (by kernel_rfl) (by kernel_rfl) (by kernel_rfl) (fun _ _ _ h => h) (Or.inr ⟨by rfl, rfl⟩) (by assumption) ?_
        try simp only [Act.put, List.setIfInBounds_toArray, List.set_cons_zero, List.set_cons_succ]
        refine wpAnyH_take (i := 10) (oi := ⟨_, _, _, _, _, _⟩) rfl (by kernel_rfl) (by kernel_rfl) (by kernel_rfl) (fun _ _ _ h => h) (Or.inr ⟨by rfl, rfl⟩) (by assumption) ?_
        try simp only [Act.put, List.setIfInBounds_toArray, List.set_cons_zero, List.set_cons_succ]
        refine wpAnyH_take (i := 11) (oi := ⟨_, _, _, _, _, _⟩) rfl (by kernel_rfl) (by kernel_rfl) (by kernel_rfl) (fun _ _ _ h => h) (Or.inr ⟨by rfl, rfl⟩) (by assumption) ?_
        try simp only [Act.put, List.setIfInBounds_toArray, List.set_cons_zero, List.set_cons_succ]
        refine wpAnyH_take (i := 12) (oi := ⟨_, _, _, _, _, _⟩) rfl (by kernel_rfl) (by kernel_rfl) (by kernel_rfl) (fun _ _ _ h => h) (Or.inr ⟨by rfl, rfl⟩) (by assumption) ?_
        try simp only [Act.put, List.setIfInBounds_toArray, List.set_cons_zero, List.set_cons_succ]
        refine wpAnyH_take (i := 13) (oi := ⟨_, _, _, _, _, _⟩) rfl (by kernel_rfl) (by kernel_rfl) (by kernel_rfl) (fun _ _ _ h => h) (Or.inr ⟨by rfl, rfl⟩) (by assumption) ?_
        try simp only [Act.put, List.setIfInBounds_toArray, List.set_cons_zero, List.set_cons_succ]
        refine wpAnyH_take (i := 14) (oi := ⟨_, _, _, _, _, _⟩) rfl (by kernel_rfl) (by kernel_rfl) (by kernel_rfl) (fun _ _ _ h => h) (Or.inr ⟨by rfl, rfl⟩) (by assumption) ?_
        try simp only [Act.put, List.setIfInBounds_toArray, List.set_cons_zero, List.set_cons_succ]
        refine wpAnyH_take (i := 15) (oi := ⟨_, _, _, _, _, _⟩) rfl (by kernel_rfl) (by kernel_rfl) (by kernel_rfl) (fun _ _ _ h => h) (Or.inr ⟨by rfl, rfl⟩) (by assumption) ?_
        try simp only [Act.put, List.setIfInBounds_toArray, List.set_cons_zero, List.set_cons_succ]
        refine wpAnyH_take (i := 16) (oi := ⟨_, _, _, _, _, _⟩) (v := ?_) rfl (by kernel_rfl) (by kernel_rfl) (by kernel_rfl) (fun _ _ _ h => h) (Or.inl ⟨by rfl, ?_⟩) (by assumption) ?_
        rotate_left 1
        · intro W hSw
          obtain ⟨z1, z2, z3, z4, z5, z6⟩ := lk_six hSw.1 HU.out HV.out hSw.2
          have cvt := (hSw.1.ref.vals _ (List.mem_of_getElem? HV.out)).string (P := Try.prog) 39 9 Try.underlying39 Try.underlying5 Try.underlying9
          dsimp only at cvt
          clear hSw
          go_simp
          try with_reducible rfl
        try simp only [Act.put, List.setIfInBounds_toArray, List.set_cons_zero, List.set_cons_succ]
        refine wpAnyH_take (i := 17) (oi := ⟨_, _, _, _, _, _⟩) (v := ?_) rfl (by kernel_rfl) (by kernel_rfl) (by kernel_rfl) (fun _ _ _ h => h) (Or.inl ⟨by rfl, ?_⟩) (by assumption) ?_
        rotate_left 1
        · intro W hSw
          obtain ⟨z1, z2, z3, z4, z5, z6⟩ := lk_six hSw.1 HU.out HV.out hSw.2
          have cvt := (hSw.1.ref.vals _ (List.mem_of_getElem? HV.out)).string (P := Try.prog) 39 9 Try.underlying39 Try.underlying5 Try.underlying9
          dsimp only at cvt
          clear hSw
          go_simp
          try with_reducible rfl
        try simp only [Act.put, List.setIfInBounds_toArray, List.set_cons_zero, List.set_cons_succ]
        refine wpAnyH_take (i := 18) (oi := ⟨_, _, _, _, _, _⟩) (v := ?_) rfl (by kernel_rfl) (by kernel_rfl) (by kernel_rfl) (fun _ _ _ h => h) (Or.inl ⟨by rfl, ?_⟩) (by assumption) ?_
        rotate_left 1
        · intro W hSw
          obtain ⟨z1, z2, z3, z4, z5, z6⟩ := lk_six hSw.1 HU.out HV.out hSw.2
          have cvt := (hSw.1.ref.vals _ (List.mem_of_getElem? HV.out)).string (P := Try.prog) 39 9 Try.underlying39 Try.underlying5 Try.underlying9
          dsimp only at cvt
          clear hSw
          go_simp
          try with_reducible rfl
        try simp only [Act.put, List.setIfInBounds_toArray, List.set_cons_zero, List.set_cons_succ]
        refine wpAnyH_take (i := 19) (oi := ⟨_, _, _, _, _, _⟩) (v := ?_) rfl (by kernel_rfl) (by kernel_rfl) (by kernel_rfl) (fun _ _ _ h => h) (Or.inl ⟨by rfl, ?_⟩) (by assumption) ?_
        rotate_left 1
        · intro W hSw
          obtain ⟨z1, z2, z3, z4, z5, z6⟩ := lk_six hSw.1 HU.out HV.out hSw.2
          have cvt := (hSw.1.ref.vals _ (List.mem_of_getElem? HV.out)).string (P := Try.prog) 39 9 Try.underlying39 Try.underlying5 Try.underlying9
          dsimp only at cvt
          clear hSw
          go_simp
          try with_reducible rfl
        try simp only [Act.put, List.setIfInBounds_toArray, List.set_cons_zero, List.set_cons_succ]
        refine wpAnyH_take (i := 20) (oi := ⟨_, _, _, _, _, _⟩) (v := ?_) rfl (by kernel_rfl) (by kernel_rfl) (by kernel_rfl) (fun _ _ _ h => h) (Or.inl ⟨by rfl, ?_⟩) (by assumption) ?_
        rotate_left 1
        · intro W hSw
          obtain ⟨z1, z2, z3, z4, z5, z6⟩ := lk_six hSw.1 HU.out HV.out hSw.2
          have cvt := (hSw.1.ref.vals _ (List.mem_of_getElem? HV.out)).string (P := Try.prog) 39 9 Try.underlying39 Try.underlying5 Try.underlying9
          dsimp only at cvt
          clear hSw
          go_simp
          try with_reducible rfl
        try simp only [Act.put, List.setIfInBounds_toArray, List.set_cons_zero, List.set_cons_succ]
        refine wpAnyH_take (i := 21) (oi := ⟨_, _, _, _, _, _⟩) (v := ?_) rfl (by kernel_rfl) (by kernel_rfl) (by kernel_rfl) (fun _ _ _ h => h) (Or.inl ⟨by rfl, ?_⟩) (by assumption) ?_
        rotate_left 1
        · intro W hSw
          obtain ⟨z1, z2, z3, z4, z5, z6⟩ := lk_six hSw.1 HU.out HV.out hSw.2
          have cvt := (hSw.1.ref.vals _ (List.mem_of_getElem? HV.out)).string (P := Try.prog) 39 9 Try.underlying39 Try.underlying5 Try.underlying9
          dsimp only at cvt
          clear hSw
          go_simp
          try with_reducible rfl
        try simp only [Act.put, List.setIfInBounds_toArray, List.set_cons_zero, List.set_cons_succ]
        refine wpAnyH_take (i := 22) (oi := ⟨_, _, _, _, _, _⟩) (v := ?_) rfl (by kernel_rfl) (by kernel_rfl) (by kernel_rfl) (fun _ _ _ h => h) (Or.inl ⟨by rfl, ?_⟩) (by assumption) ?_
        rotate_left 1
        · intro W hSw
          obtain ⟨z1, z2, z3, z4, z5, z6⟩ := lk_six hSw.1 HU.out HV.out hSw.2
          have cvt := (hSw.1.ref.vals _ (List.mem_of_getElem? HV.out)).string (P := Try.prog) 39 9 Try.underlying39 Try.underlying5 Try.underlying9
          dsimp only at cvt
          clear hSw
          go_simp
          try with_reducible rfl
        try simp only [Act.put, List.setIfInBounds_toArray, List.set_cons_zero, List.set_cons_succ]
        refine wpAnyH_take (i := 23) (oi := ⟨_, _, _, _, _, _⟩) (v := ?_) rfl (by kernel_rfl) (by kernel_rfl) (by kernel_rfl) (fun _ _ _ h => h) (Or.inl ⟨by rfl, ?_⟩) (by assumption) ?_
        rotate_left 1
        · intro W hSw
          obtain ⟨z1, z2, z3, z4, z5, z6⟩ := lk_six hSw.1 HU.out HV.out hSw.2
          have cvt := (hSw.1.ref.vals _ (List.mem_of_getElem? HV.out)).string (P := Try.prog) 39 9 Try.underlying39 Try.underlying5 Try.underlying9
          dsimp only at cvt
          clear hSw
          go_simp
          try with_reducible rfl
        try simp only [Act.put, List.setIfInBounds_toArray, List.set_cons_zero, List.set_cons_succ]
        refine wpAnyH_take (i := 24) (oi := ⟨_, _, _, _, _, _⟩) (v := ?_) rfl (by kernel_rfl) (by kernel_rfl) (by kernel_rfl) (fun _ _ _ h => h) (Or.inl ⟨by rfl, ?_⟩) (by assumption) ?_
        rotate_left 1
        · intro W hSw
          obtain ⟨z1, z2, z3, z4, z5, z6⟩ := lk_six hSw.1 HU.out HV.out hSw.2
          have cvt := (hSw.1.ref.vals _ (List.mem_of_getElem? HV.out)).string (P := Try.prog) 39 9 Try.underlying39 Try.underlying5 Try.underlying9
          dsimp only at cvt
          clear hSw
          go_simp
          try with_reducible rfl
        try simp only [Act.put, List.setIfInBounds_toArray, List.set_cons_zero, List.set_cons_succ]
        refine wpAnyH_take (i := 25) (oi := ⟨_, _, _, _, _, _⟩) (v := ?_) rfl (by kernel_rfl) (by kernel_rfl) (by kernel_rfl) (fun _ _ _ h => h) (Or.inl ⟨by rfl, ?_⟩) (by assumption) ?_
        rotate_left 1
        · intro W hSw
          obtain ⟨z1, z2, z3, z4, z5, z6⟩ := lk_six hSw.1 HU.out HV.out hSw.2
          have cvt := (hSw.1.ref.vals _ (List.mem_of_getElem? HV.out)).string (P := Try.prog) 39 9 Try.underlying39 Try.underlying5 Try.underlying9
          dsimp only at cvt
          clear hSw
          go_simp
          try with_reducible rfl
        try simp only [Act.put, List.setIfInBounds_toArray, List.set_cons_zero, List.set_cons_succ]
        refine wpAnyH_take (i := 26) (oi := ⟨_, _, _, _, _, _⟩) (v := ?_) rfl (by kernel_rfl) (by kernel_rfl) (by kernel_rfl) (fun _ _ _ h => h) (Or.inl ⟨by rfl, ?_⟩) (by assumption) ?_
        rotate_left 1
        · intro W hSw
          obtain ⟨z1, z2, z3, z4, z5, z6⟩ := lk_six hSw.1 HU.out HV.out hSw.2
          have cvt := (hSw.1.ref.vals _ (List.mem_of_getElem? HV.out)).string (P := Try.prog) 39 9 Try.underlying39 Try.underlying5 Try.underlying9
          dsimp only at cvt
          clear hSw
          go_simp
          try with_reducible rfl
        try simp only [Act.put, List.setIfInBounds_toArray, List.set_cons_zero, List.set_cons_succ]
        refine wpAnyH_ready (rs := [27]) (by kernel_rfl) (by simp) ?_
        refine AllReadyH.cons (o := ⟨_, _, _, _, _, _⟩) rfl (fun F hF => ?_) AllReadyH.nil
        go_simp
        refine (gets_none B b most st K N _ hHeld.1.rep HPh.out).mono ?_
        rintro e w5 ⟨rfl, hb5⟩
        have HI5 := Lib.hid (hHeld.1.adv hb5)
        have HP5 := Lib.hid (hHeld.2.below hb5)
        clear hb5 hHeld
        go_wp2_with fail
        refine hF.out _ _ ⟨HI5.out, HP5.out⟩ (fun hHeld => ?_)
        clear hF F
        try simp only [Act.put, List.setIfInBounds_toArray, List.set_cons_zero, List.set_cons_succ]
        refine wpAnyH_take (i := 28) (oi := ⟨_, _, _, _, _, _⟩) (v := ?_) rfl (by kernel_rfl) (by kernel_rfl) (by kernel_rfl) (fun _ _ _ h => h) (Or.inl ⟨by rfl, ?_⟩) (by assumption) ?_
        rotate_left 1
        · intro W hSw
          obtain ⟨z1, z2, z3, z4, z5, z6⟩ := lk_six hSw.1 HU.out HV.out hSw.2
          have cvt := (hSw.1.ref.vals _ (List.mem_of_getElem? HV.out)).string (P := Try.prog) 39 9 Try.underlying39 Try.underlying5 Try.underlying9
          dsimp only at cvt
          clear hSw
          go_simp
          try with_reducible rfl
        try simp only [Act.put, List.setIfInBounds_toArray, List.set_cons_zero, List.set_cons_succ]
        refine wpAnyH_take (i := 29) (oi := ⟨_, _, _, _, _, _⟩) (v := ?_) rfl (by kernel_rfl) (by kernel_rfl) (by kernel_rfl) (fun _ _ _ h => h) (Or.inl ⟨by rfl, ?_⟩) (by assumption) ?_
        rotate_left 1
        · intro W hSw
          obtain ⟨z1, z2, z3, z4, z5, z6⟩ := lk_six hSw.1 HU.out HV.out hSw.2
          have cvt := (hSw.1.ref.vals _ (List.mem_of_getElem? HV.out)).string (P := Try.prog) 39 9 Try.underlying39 Try.underlying5 Try.underlying9
          dsimp only at cvt
          clear hSw
          go_simp
          try with_reducible rfl
        try simp only [Act.put, List.setIfInBounds_toArray, List.set_cons_zero, List.set_cons_succ]
        refine wpAnyH_take (i := 30) (oi := ⟨_, _, _, _, _, _⟩) (v := ?_) rfl (by kernel_rfl) (by kernel_rfl) (by kernel_rfl) (fun _ _ _ h => h) (Or.inl ⟨by rfl, ?_⟩) (by assumption) ?_
        rotate_left 1
        · intro W hSw
          obtain ⟨z1, z2, z3, z4, z5, z6⟩ := lk_six hSw.1 HU.out HV.out hSw.2
          have cvt := (hSw.1.ref.vals _ (List.mem_of_getElem? HV.out)).string (P := Try.prog) 39 9 Try.underlying39 Try.underlying5 Try.underlying9
          dsimp only at cvt
          clear hSw
          go_simp
          try with_reducible rfl
        try simp only [Act.put, List.setIfInBounds_toArray, List.set_cons_zero, List.set_cons_succ]
        refine wpAnyH_done (by kernel_rfl) ?_ _
        refine NoPanic.normal ?_
        have HI := Lib.hid hHeld.1
        clear hHeld HI4 HP4 HI5 HP5
        go_wp2_with fail
        go_roundw
        case rel => exact ⟨j + 1, by omega, by go_num, HI.out⟩
        case measure => simp [intOf]; omega
    · obtain rfl : j = ks.length := by omega
      have x1 : wr.cell? ⟨w.heap.size, 1, none⟩ = some (.slice CA ks.length cc) := HI.out.box.cell 1 _ rfl
      clear x1
      go_wp2_with fail
      go_loopw [10] (fun i wr => ∃ (k : Nat), k ≤ 13 ∧ i = .int .i64 k ∧ LkI w wr B b most st (.slice CA ks.length cc) (.slice BA vs.length bc) (.slice UA us.length uc) (.slice FA fr.length fc) ks vs us fr) (fun i _ => 13 - (intOf i).toNat)
      case atStart => exact ⟨0, by omega, rfl, HI.out⟩
      case round =>
        obtain ⟨k, hk, rfl, hI⟩ := hrel
        have HI := Lib.hid hI
        clear hI
        by_cases hkl : k < 13
        · have hkI : (k : Int) < 13 := by omega
          have x0 := HI.out.box.cell 0 _ rfl
          have x1 := HI.out.box.cell 1 _ rfl
          have x2 := HI.out.box.cell 2 _ rfl
          have x3 := HI.out.box.cell 3 _ rfl
          have x4 := HI.out.box.cell 4 _ rfl
          go_wp2_with fail
          refine (refFrees_any B most k _ _ _ _ ks vs us fr _ HI.out.ref HN.out.2.2.2).mono ?_
          rintro e w2 ⟨v, rfl, hv, hb⟩
          have HI2 := Lib.hid (HI.out.adv hb)
          have hfr := HS.out.free k hkl
          rw [hfr, iis_ics, List.length_map] at hv
          have HV := Lib.hid hv
          clear hb hv hfr x0 x1 x2 x3 x4
          go_wp2_with fail
          refine (frees_true m B _ b most st k v _ _ HI2.out.rep HW.out HM.out hkl HV.out rfl).mono ?_
          rintro e w3 ⟨rfl, hb⟩
          have HI3 := Lib.hid (HI2.out.adv hb)
          clear hb HI2 HV
          go_wp2_with fail
          go_roundw
          case rel => exact ⟨k + 1, by omega, by go_num, HI3.out⟩
          case measure => simp [intOf]; omega
        · obtain rfl : k = 13 := by omega
          have hb := HI.out.below
          have HG := Lib.hid hb
          clear hb
          go_wp2_with fail
          go_ret
          exact ⟨rfl, HG.out⟩

end Go.Proofs.Ytookfhmghchkjaa
