/- The walks of the reference's arena (layer 13): Frees, Get. -/
import Derived.Test.YtookfhmghchkjaaRsA
namespace Go.Proofs.Ytookfhmghchkjaa
open Go Go.RowKit
attribute [local go_sem ↓] Go.wp_at_zero Go.wp_at_succ

def iis (l : List Int) : List Value := l.map fun n => .int .i64 n
def fFr (K : Int) (fr : List (Int × Int)) : List Int := ((fr.filter fun x => decide (x.1 = K)).map Prod.snd).reverse
theorem fFr_cons (K : Int) (x : Int × Int) (fr : List (Int × Int)) : fFr K (x :: fr) = if x.1 = K then fFr K fr ++ [x.2] else fFr K fr := by
  unfold fFr
  by_cases h : x.1 = K
  · rw [if_pos h, List.filter_cons_of_pos (by simp [h])]; simp
  · rw [if_neg h, List.filter_cons_of_neg (by simp [h])]
theorem iis_snoc (l : List Int) (n : Int) : iis (l ++ [n]) = iis l ++ [.int .i64 n] := by simp [iis]
theorem fFr_le (K : Int) (fr : List (Int × Int)) : (fFr K fr).length ≤ fr.length := by
  unfold fFr
  rw [List.length_reverse, List.length_map]
  exact List.length_filter_le _ _

set_option maxRecDepth 100000 in
set_option maxHeartbeats 1000000 in
theorem refFrees_any (B : Nat) (most K : Int) (cv bv uv fv : Value) (ks : List (Int × Int)) (vs : List (List UInt8 × Value)) (us : List Bool) (fr : List (Int × Int)) (w : World) (h : RRep w B cv bv uv fv ks vs us fr) (hl : fr.length ≤ 1000) :
    Calls Try.prog 40 #[.agg #[.int .i64 most, cv, bv, uv, fv], .int .i64 K] w fun e w' => ∃ v, e = .returned v ∧ w'.ownsRow w.heap.size 3 1 v (fFr K fr).length (iis (fFr K fr)) ∧ Below w.heap.size w w' := by
  have HR := Lib.hid h
  obtain ⟨CA, cc, rfl, hc1, _⟩ := own_form h.cells
  obtain ⟨BA, bc, rfl, hb1, _⟩ := own_form h.bytes
  obtain ⟨UA, uc, rfl, hu1, _⟩ := own_form h.used
  obtain ⟨FA, fc, rfl, hf1, _⟩ := own_form h.free
  obtain ⟨i0, hi0, hi1, hi2, hi3⟩ := info_parts int_info
  have HI0 := Lib.hid hi0
  have HI1 := Lib.hid hi1
  have HI2 := Lib.hid hi2
  have HI3 := Lib.hid hi3
  clear h hi0 hi1 hi2 hi3
  have hlI : (fr.length : Int) ≤ 1000 := by omega
  go_enter Try.func40, Try.ntmps40
  go_wp2_with fail
  obtain ⟨w1, hw1⟩ : ∃ w1, w.alloc (.cells #[.int .i64 most, .slice CA ks.length cc, .slice BA vs.length bc, .slice UA us.length uc, .slice FA fr.length fc] 55) = w1 := ⟨_, rfl⟩
  have HB1 : Hid (Below w.heap.size w w1) := Lib.hid (hw1 ▸ (Below.refl _ _).alloc (Nat.le_refl _) _)
  have HX : Hid (Blk w1 w.heap.size 55 #[.int .i64 most, .slice CA ks.length cc, .slice BA vs.length bc, .slice UA us.length uc, .slice FA fr.length fc]) := Lib.hid (hw1 ▸ Blk.new _ _ _)
  rw [hw1]
  clear hw1
  go_loopw [5, 6] (fun o i wr => ∃ (m : Nat), m ≤ fr.length ∧ i = .int .i64 ((m : Int) - 1) ∧ wr.ownsRow w1.heap.size 3 1 o (fFr K (fr.drop m)).length (iis (fFr K (fr.drop m))) ∧ Below w1.heap.size w1 wr) (fun _ i _ => (intOf i + 1).toNat)
  case atStart => exact ⟨fr.length, Nat.le_refl _, by go_num, by rw [List.drop_length]; exact World.ownsRow_nil _ _ _ _, Below.refl _ _⟩
  case round =>
    obtain ⟨m, hm, rfl, hown, hb⟩ := hrel
    have HBr := Lib.hid hb
    have HO := Lib.hid hown
    obtain ⟨OA, oc, rfl, ho1, _⟩ := own_form hown
    clear hb hown
    have x4 := (HX.out.below HBr.out).cell 4 _ rfl
    by_cases hm0 : 0 < m
    · obtain ⟨n, rfl⟩ : ∃ n, m = n + 1 := ⟨m - 1, by omega⟩
      obtain ⟨⟨K', N'⟩, hkk⟩ : ∃ x, fr[n]? = some x := ⟨_, List.getElem?_eq_getElem (by omega)⟩
      have HRr := Lib.hid ((HR.out.below HB1.out).below HBr.out)
      obtain ⟨gf, cap, e1, hgl, hcc, _, c0, c1⟩ := kread HRr.out.free hkk
      injection e1 with e1 el e3
      clear el
      subst e1 e3
      have hd : fr.drop n = (K', N') :: fr.drop (n + 1) := by
        obtain ⟨hl, hv⟩ := List.getElem?_eq_some_iff.1 hkk
        rw [List.drop_eq_getElem_cons hl, hv]
      have HD := Lib.hid hd
      have hfl : (fFr K (fr.drop (n + 1))).length ≤ 1000 := by have := fFr_le K (fr.drop (n + 1)); rw [List.length_drop] at this; omega
      have HFl := Lib.hid hfl
      have hnI : ((n : Int) + 1 : Int) ≤ (fr.length : Int) := by omega
      have hcI : (fr.length : Int) ≤ (fc : Int) := by omega
      have hn0 : (0 : Int) ≤ (n : Int) := Int.natCast_nonneg _
      have e1 : (((n + 1 : Nat) : Int) - 1) = (n : Int) := by omega
      rw [e1]
      have hnl : (n : Int) < (fr.length : Int) := by omega
      clear hkk hd hfl e1 hnI hm
      by_cases hK : K' = K
      · subst hK
        have hfd : fFr K' (fr.drop n) = fFr K' (fr.drop (n + 1)) ++ [N'] := by rw [HD.out, fFr_cons]; simp
        have HFd := Lib.hid hfd
        clear hfd
        go_wp2_with (at_builtin; refine wpList_append_src _ rfl _ _ _ rfl w1.heap.size 3 i0 _ 1 8 Try.underlying60 HI0.out HI1.out HI2.out HI3.out rfl (by decide) _ _ _ rfl (ownsRow_only (S := fun _ => False) HO.out (Only.of_below ((Below.refl _ _).alloc (Nat.le_refl _) (.cells #[.int .i64 N'] 3))) (fun _ _ h => h)) (some ⟨wr.heap.size, 0, none⟩) 1 1 [.int .i64 N'] rfl (src_oneS (Blk.new _ _ _)) (by simp [Value.oneCell']) (by have := HFl.out; unfold maxLen; omega) (by have := HFl.out; omega) (by have := HBr.out.size; simp; omega) ?_; intro v4 w4 hown4 hg4 hat4; have HO4 := Lib.hid hown4; have HB4 := Lib.hid (HBr.out.trans (((Below.refl w1.heap.size wr).alloc HBr.out.size (.cells #[.int .i64 N'] 3)).grown hg4 (by have := HBr.out.size; simp; omega) (fun j hj => (row_blockS HO.out hj).1))); obtain ⟨A4, c4, rfl, hx1, hx2⟩ := own_form hown4; clear hx1 hx2 hown4 hg4 hat4)
        go_roundw
        case rel => exact ⟨n, by omega, rfl, by rw [HFd.out, List.length_append, iis_snoc]; exact HO4.out, HB4.out⟩
        case measure => simp [intOf] <;> omega
      · have hd : (K' == K) = false := by simpa using hK
        have hfd : fFr K (fr.drop n) = fFr K (fr.drop (n + 1)) := by rw [HD.out, fFr_cons, if_neg hK]
        have HFd := Lib.hid hfd
        clear hfd
        go_wp2_with fail
        go_roundw
        case rel => exact ⟨n, by omega, rfl, by rw [HFd.out]; exact HO.out, HBr.out⟩
        case measure => simp [intOf] <;> omega
    · obtain rfl : m = 0 := by omega
      go_wp2_with fail
      go_ret
      refine ⟨_, rfl, ?_, HB1.out.trans (HBr.out.mono HB1.out.size)⟩
      exact ownsRow_base HO.out HB1.out.size

set_option maxRecDepth 100000 in
set_option maxHeartbeats 1000000 in
theorem refGet_none (B : Nat) (most K N : Int) (cv bv uv fv : Value) (ks : List (Int × Int)) (vs : List (List UInt8 × Value)) (us : List Bool) (fr : List (Int × Int)) (w : World) (h : RRep w B cv bv uv fv ks vs us fr) (hlu : us.length = ks.length) (hl : ks.length ≤ 1000) (hn : rAt ks us (K, N) = none) :
    Calls Try.prog 36 #[.agg #[.int .i64 most, cv, bv, uv, fv], .agg #[.int .i64 K, .int .i64 N]] w fun e w' => e = .returned (.tuple #[.slice none 0 0, .int .i64 9]) ∧ Below w.heap.size w w' := by
  obtain ⟨w1, hw1⟩ : ∃ w1, (w.alloc (.cells #[.int .i64 most, cv, bv, uv, fv] 55)).alloc (.cells #[.int .i64 K, .int .i64 N] 38) = w1 := ⟨_, rfl⟩
  have HB1 : Hid (Below w.heap.size w w1) := Lib.hid (hw1 ▸ ((Below.refl _ _).alloc (Nat.le_refl _) _).alloc (by simp) _)
  have HX : Hid (Blk w1 w.heap.size 55 #[.int .i64 most, cv, bv, uv, fv]) := Lib.hid (hw1 ▸ (Blk.new _ _ _).alloc _)
  have HY : Hid (Blk w1 (w.heap.size + 1) 38 #[.int .i64 K, .int .i64 N]) := Lib.hid (hw1 ▸ Blk.new2 _ _ _ _)
  have hat := refAt_any B most K N cv bv uv fv ks vs us fr w1 (h.below HB1.out) hlu hl
  have e : rAtI ks us (K, N) = -1 := by rw [rAtI, hn]
  rw [e] at hat
  have HAt := Lib.hid hat
  have HW := Lib.hid hw1
  obtain ⟨CA, cc, rfl, hc1, _⟩ := own_form h.cells
  obtain ⟨BA, bc, rfl, hb1, _⟩ := own_form h.bytes
  obtain ⟨UA, uc, rfl, hu1, _⟩ := own_form h.used
  obtain ⟨FA, fc, rfl, hf1, _⟩ := own_form h.free
  have x0 := HX.out.cell 0 _ rfl
  have x1 := HX.out.cell 1 _ rfl
  have x2 := HX.out.cell 2 _ rfl
  have x3 := HX.out.cell 3 _ rfl
  have x4 := HX.out.cell 4 _ rfl
  have y0 := HY.out.cell 0 _ rfl
  have y1 := HY.out.cell 1 _ rfl
  clear h hlu hn hat e hw1
  go_enter Try.func36, Try.ntmps36
  go_upto_region 1 with fail
  rw [HW.out]
  go_wp2_with fail
  refine HAt.out.mono ?_
  rintro e w2 ⟨rfl, hb2⟩
  have HB2 := Lib.hid (HB1.out.trans (hb2.mono HB1.out.size))
  clear hb2
  go_wp2_with fail
  go_ret2
  exact ⟨rfl, HB2.out⟩

set_option maxRecDepth 100000 in
set_option maxHeartbeats 1000000 in
theorem refGet_some (B : Nat) (most K N : Int) (cv bv uv fv : Value) (ks : List (Int × Int)) (vs : List (List UInt8 × Value)) (us : List Bool) (fr : List (Int × Int)) (w : World) (h : RRep w B cv bv uv fv ks vs us fr) (hlu : us.length = ks.length) (hlv : vs.length = ks.length) (hl : ks.length ≤ 1000) (i : Nat) (x : List UInt8 × Value) (hn : rAt ks us (K, N) = some i) (hx : vs[i]? = some x) :
    Calls Try.prog 36 #[.agg #[.int .i64 most, cv, bv, uv, fv], .agg #[.int .i64 K, .int .i64 N]] w fun e w' => e = .returned (.tuple #[x.2, .int .i64 0]) ∧ Below w.heap.size w w' := by
  obtain ⟨w1, hw1⟩ : ∃ w1, (w.alloc (.cells #[.int .i64 most, cv, bv, uv, fv] 55)).alloc (.cells #[.int .i64 K, .int .i64 N] 38) = w1 := ⟨_, rfl⟩
  have HB1 : Hid (Below w.heap.size w w1) := Lib.hid (hw1 ▸ ((Below.refl _ _).alloc (Nat.le_refl _) _).alloc (by simp) _)
  have HX : Hid (Blk w1 w.heap.size 55 #[.int .i64 most, cv, bv, uv, fv]) := Lib.hid (hw1 ▸ (Blk.new _ _ _).alloc _)
  have HY : Hid (Blk w1 (w.heap.size + 1) 38 #[.int .i64 K, .int .i64 N]) := Lib.hid (hw1 ▸ Blk.new2 _ _ _ _)
  have hat := refAt_any B most K N cv bv uv fv ks vs us fr w1 (h.below HB1.out) hlu hl
  have e : rAtI ks us (K, N) = i := by rw [rAtI, hn]
  rw [e] at hat
  have HAt := Lib.hid hat
  have HW := Lib.hid hw1
  have HR := Lib.hid (h.below HB1.out)
  have HXx := Lib.hid hx
  obtain ⟨CA, cc, rfl, hc1, _⟩ := own_form h.cells
  obtain ⟨BA, bc, rfl, hb1, _⟩ := own_form h.bytes
  obtain ⟨UA, uc, rfl, hu1, _⟩ := own_form h.used
  obtain ⟨FA, fc, rfl, hf1, _⟩ := own_form h.free
  have x0 := HX.out.cell 0 _ rfl
  have x1 := HX.out.cell 1 _ rfl
  have x2 := HX.out.cell 2 _ rfl
  have x3 := HX.out.cell 3 _ rfl
  have x4 := HX.out.cell 4 _ rfl
  have y0 := HY.out.cell 0 _ rfl
  have y1 := HY.out.cell 1 _ rfl
  have hiv : i < vs.length := (List.getElem?_eq_some_iff.1 hx).1
  have hiI : (i : Int) < (vs.length : Int) := by omega
  have hi0 : ¬ (i : Int) < 0 := by omega
  have hbI : (vs.length : Int) ≤ (bc : Int) := by omega
  clear h hlu hlv hn hat e hw1 hx
  go_enter Try.func36, Try.ntmps36
  go_upto_region 1 with fail
  rw [HW.out]
  go_wp2_with fail
  refine HAt.out.mono ?_
  rintro e w2 ⟨rfl, hb2⟩
  have HB2 := Lib.hid (HB1.out.trans (hb2.mono HB1.out.size))
  have HR2 := Lib.hid (HR.out.below hb2)
  have z2 := (HX.out.below hb2).cell 2 _ rfl
  obtain ⟨gb, bcap, e3, _, hbc, _, c3⟩ := vread HR2.out.bytes HXx.out
  injection e3 with e3 el e4
  clear el
  subst e3 e4
  obtain ⟨VA, vc, hve⟩ := (HR2.out.vals x (List.mem_of_getElem? HXx.out)).form
  have HVe := Lib.hid hve
  rw [hve] at c3
  clear hb2 x0 x1 x2 x3 x4 y0 y1 hve
  go_wp2_with fail
  go_ret2
  exact ⟨by rw [HVe.out]; rfl, HB2.out⟩

end Go.Proofs.Ytookfhmghchkjaa
