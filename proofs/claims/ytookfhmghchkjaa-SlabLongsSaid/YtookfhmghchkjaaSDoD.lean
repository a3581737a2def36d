/- The walk of do (layer 13): Copy; and every call. -/
import Derived.Test.YtookfhmghchkjaaSDoC
import Derived.Test.YtookfhmghchkjaaSlabW
namespace Go.Proofs.Ytookfhmghchkjaa
open Go Go.RowKit
attribute [local go_sem ↓] Go.wp_at_zero Go.wp_at_succ

theorem SRep.rebase {w : World} {B B' b : Nat} {most : Int} {sh : Nat → ShV} (h : SRep w B' b most sh) (hB : B ≤ B') (hv : ∀ k, k < 13 → ∀ c ∈ (sh k).cs, Bts w B 5 c.v c.bs) : SRep w B b most sh :=
  ⟨h.blk, fun k hk => ownsRow_base (h.cells k hk) hB, fun k hk => ownsRow_base (h.free k hk) hB, hv, h.apartC, h.apartF, Nat.le_trans hB h.base⟩

/-- A copy stays while the old arena turns. -/
theorem copy_stays {wC wD wE : World} {B b : Nat} {most : Int} {sh sh' shE : Nat → ShV} {st stE : PSt} (hr : SRep wC B b most sh) (hi : SIs sh st) (hb : Below wC.heap.size wC wD) (h : SRep wD wC.heap.size wC.heap.size most sh') (hs : ∀ k, k < 13 → (sh' k).cs = (sh k).cs ∧ (sh' k).fr = (sh k).fr) (hf : FP B b most stE sh shE wD wE) : SRep wE B wC.heap.size most sh' ∧ SIs sh' st := by
  have hrD := hr.below hb
  have h2 : SRep wD B wC.heap.size most sh' := h.rebase (Nat.le_trans hr.base (Nat.le_of_lt hr.blk.lt)) (fun k hk c hc => hrD.vals k hk c (by rw [← (hs k hk).1]; exact hc))
  refine ⟨h2.only hf.only (fun k hk e => ?_) (hrD.keepB hf.only), fun k hk => by rw [(hs k hk).1, (hs k hk).2]; exact hi k hk⟩
  have h3 := (h.fp_lt hk).1
  have h4 := (hr.fp_lt e).2
  omega

def bsOld : List UInt8 := [111, 108, 100]
def bsOlder : List UInt8 := [111, 108, 100, 101, 114]

set_option maxRecDepth 100000 in
set_option maxHeartbeats 4000000 in
theorem do_copy (B b m : Nat) (what most K N : Int) (st : PSt) (sh : Nat → ShV) (cv bv uv fv v : Value) (bs : List UInt8) (ks : List (Int × Int)) (vs : List (List UInt8 × Value)) (us : List Bool) (fr : List (Int × Int)) (w : World) (h : DoH w B b m most st sh cv bv uv fv ks vs us fr v bs) (hw0 : what ≠ 0) (hw1 : what ≠ 1) (hw2 : what ≠ 2) (hw3 : what ≠ 3) :
    Calls Try.prog 20 #[.pointer (some ⟨b, 0, none⟩), .agg #[.int .i64 most, cv, bv, uv, fv], .agg #[.int .i64 what, .int .i64 K, .int .i64 N, v]] w (DoPost w B m most) := by
  have hn0 : (what == 0) = false := by simpa using hw0
  have hn1 : (what == 1) = false := by simpa using hw1
  have hn2 : (what == 2) = false := by simpa using hw2
  have hn3 : (what == 3) = false := by simpa using hw3
  obtain ⟨CA, cc, rfl, hc1, _⟩ := own_form h.ref.cells
  obtain ⟨BA, bc, rfl, hb1, _⟩ := own_form h.ref.bytes
  obtain ⟨UA, uc, rfl, hu1, _⟩ := own_form h.ref.used
  obtain ⟨FA, fc, rfl, hf1, _⟩ := own_form h.ref.free
  obtain ⟨VA, vc, hve⟩ := h.arg.form
  subst hve
  have HH := Lib.hid h
  have hlI : (bs.length : Int) ≤ 65540 := by have := h.len; omega
  have HL : Hid (bs.length ≤ 65540) := Lib.hid h.len
  obtain ⟨i4, hi, hy0, hy1, hy2⟩ := info_parts u8_info
  have HJ4 := Lib.hid hi
  have HY40 := Lib.hid hy0
  have HY41 := Lib.hid hy1
  have HY42 := Lib.hid hy2
  clear hi hy0 hy1 hy2
  clear h
  go_enter Try.func20, Try.ntmps20
  go_upto_region 1 with fail
  have HD1 := Lib.hid (DoB.new w B HH.out.base #[.int .i64 most, .slice CA ks.length cc, .slice BA vs.length bc, .slice UA us.length uc, .slice FA fr.length fc] what K N (.slice VA bs.length vc))
  have HB1 : Hid (Below w.heap.size w (((w.alloc (.cells #[.int .i64 most, .slice CA ks.length cc, .slice BA vs.length bc, .slice UA us.length uc, .slice FA fr.length fc] 55)).alloc (.cells #[.int .i64 what, .int .i64 K, .int .i64 N, .slice VA bs.length vc] 41)).alloc (.cells #[.int .i64 0, .slice none 0 0, .slice none 0 0, .slice none 0 0, .slice none 0 0] 55))) := Lib.hid ((((Below.refl _ _).alloc (Nat.le_refl _) _).alloc (by simp) _).alloc (by simp; omega) _)
  generalize World.alloc (World.alloc (World.alloc w _) _) _ = w1 at HD1 HB1 ⊢
  have c3 : w1.cell? ⟨w.heap.size + 1, 3, none⟩ = some (.slice VA bs.length vc) := HD1.out.s2.cell 3 _ rfl
  go_upto_region 2 with (at_builtin; refine wpList_append_src _ rfl _ _ _ rfl (w.heap.size + 3) 5 i4 _ 1 1 Try.underlying39 HJ4.out HY40.out HY41.out HY42.out rfl (by decide) _ 0 [] rfl (World.ownsRow_nil _ _ _ _) VA bs.length vc (bcells bs) rfl (Bts.src_at (HH.out.arg.below HB1.out)).2 (bcells_one bs) (by have := HL.out; unfold maxLen; omega) (by have := HL.out; omega) HD1.out.size ?_; intro vO wO hown hg hat; have HO : Hid (wO.ownsRow (w.heap.size + 3) 5 1 vO bs.length (bcells bs)) := Lib.hid (by simpa using hown); have HBO := Lib.hid (below_grown hg); obtain ⟨OA, oc, rfl, hy1, hy2⟩ := own_form HO.out; clear hown hg hat hy1 hy2)
  have HD := Lib.hid (HD1.out.below HBO.out)
  have HBw : Hid (Below w.heap.size w wO) := Lib.hid (HB1.out.trans (HBO.out.mono HB1.out.size))
  have HRS := Lib.hid (HH.out.rep.below HBw.out)
  have HRR := Lib.hid (HH.out.ref.below HBw.out)
  have HV := Lib.hid (HH.out.arg.below HBw.out)
  have HNS : Hid (NotS (.slice OA bs.length oc) sh) := Lib.hid (NotS.new HH.out.rep (fun g hg => by have := (row_blockS HO.out hg).1; omega))
  have HNR : Hid (NotR (.slice OA bs.length oc) vs) := Lib.hid (NotR.new HH.out.ref (fun g hg => by have := (row_blockS HO.out hg).1; omega))
  have HBs : Hid (B ≤ wO.heap.size) := Lib.hid (Nat.le_trans HH.out.base HBw.out.size)
  clear c3 HD1 HB1 HBO HBw
  have c0 : wO.cell? ⟨w.heap.size + 1, 0, none⟩ = some (.int .i64 what) := HD.out.s2.cell 0 _ rfl
  have c1 : wO.cell? ⟨w.heap.size + 1, 1, none⟩ = some (.int .i64 K) := HD.out.s2.cell 1 _ rfl
  have c2 : wO.cell? ⟨w.heap.size + 1, 2, none⟩ = some (.int .i64 N) := HD.out.s2.cell 2 _ rfl
  have c3 : wO.cell? ⟨w.heap.size + 1, 3, none⟩ = some (.slice VA bs.length vc) := HD.out.s2.cell 3 _ rfl
  have x0 : wO.cell? ⟨w.heap.size, 0, none⟩ = some (.int .i64 most) := HD.out.s1.cell 0 _ rfl
  have x1 : wO.cell? ⟨w.heap.size, 1, none⟩ = some (.slice CA ks.length cc) := HD.out.s1.cell 1 _ rfl
  have x2 : wO.cell? ⟨w.heap.size, 2, none⟩ = some (.slice BA vs.length bc) := HD.out.s1.cell 2 _ rfl
  have x3 : wO.cell? ⟨w.heap.size, 3, none⟩ = some (.slice UA us.length uc) := HD.out.s1.cell 3 _ rfl
  have x4 : wO.cell? ⟨w.heap.size, 4, none⟩ = some (.slice FA fr.length fc) := HD.out.s1.cell 4 _ rfl
  go_wp2_with fail
  refine (slabCopy_any B b most sh wO HRS.out (HH.out.is.small HH.out.wf (by have := HH.out.small; omega))).mono ?_
  rintro e wD ⟨rfl, hbD, sh', hrD, hcs⟩
  have HFP0 := Lib.hid (FP.refl HRS.out HH.out.is hbD)
  have HRD := Lib.hid (HRS.out.below hbD)
  have HDD := Lib.hid (HD.out.below hbD)
  have HRRD := Lib.hid (HRR.out.below hbD)
  have HCo := Lib.hid hrD
  have HCs := Lib.hid hcs
  have HbD := Lib.hid hbD
  clear x0 x1 x2 x3 x4 c0 c1 c2 c3 hbD hrD hcs HD HO HRR HV HNS HNR
  go_wp2_with fail
  refine (fFree m B b most sh st 0 0 wD HRD.out HH.out.is HH.out.wf (by have := HH.out.small; omega)).mono ?_
  rintro e w2 ⟨rfl, sh2, hf2⟩
  have HF2 := Lib.hid hf2
  clear hf2
  have kc := fun (w : World) (C : Array Value) (n c : Nat) => Lib.run_convert_bytes_const (P := Try.prog) w 39 5 C n c Try.underlying39 Try.underlying5
  go_wp2_with fail
  obtain ⟨w3, hw3x⟩ : ∃ w3, w2.alloc (.cells #[.int .u8 111, .int .u8 108, .int .u8 100] 5 (3, 4)) = w3 := ⟨_, rfl⟩
  have hv3 : Bts w3 B 5 (.slice (some ⟨w2.heap.size, 0, none⟩) 3 3) bsOld := hw3x ▸ Bts.marked w2 5 bsOld _ rfl 3 rfl (3, 4) B (by decide)
  have hb3 : Below w2.heap.size w2 w3 := hw3x ▸ (Below.refl _ _).alloc (Nat.le_refl _) _
  have HF3 := Lib.hid (HF2.out.below hb3)
  have HPw : Hid (PWf m (pfree st 0 0).2) := Lib.hid (HH.out.wf.free 0 0)
  rw [hw3x]
  clear hw3x hb3 HF2
  refine (fPut m B b most sh2 (pfree st 0 0).2 (.slice (some ⟨w2.heap.size, 0, none⟩) 3 3) bsOld w3 HF3.out.rep HF3.out.is HPw.out (by have := HH.out.small; omega) hv3).mono ?_
  rintro e w4 ⟨rfl, sh3, hf3⟩
  obtain ⟨st3, hst3⟩ : ∃ s, (pput most (pfree st 0 0).2 bsOld).2.2.2 = s := ⟨_, rfl⟩
  have HPw3 : Hid (PWf (m + 1) st3) := Lib.hid (hst3 ▸ HPw.out.put most bsOld)
  rw [hst3] at hf3
  have HF4 := Lib.hid (HF3.out.trans hf3)
  clear hst3 hf3 hv3 HF3
  go_wp2_with fail
  obtain ⟨w5, hw5x⟩ : ∃ w5, w4.alloc (.cells #[.int .u8 111, .int .u8 108, .int .u8 100, .int .u8 101, .int .u8 114] 5 (5, 6)) = w5 := ⟨_, rfl⟩
  have hv5 : Bts w5 B 5 (.slice (some ⟨w4.heap.size, 0, none⟩) 5 5) bsOlder := hw5x ▸ Bts.marked w4 5 bsOlder _ rfl 5 rfl (5, 6) B (by decide)
  have hb5 : Below w4.heap.size w4 w5 := hw5x ▸ (Below.refl _ _).alloc (Nat.le_refl _) _
  have HF5 := Lib.hid (HF4.out.below hb5)
  rw [hw5x]
  clear hw5x hb5 HF4
  refine (fSwap (m + 1) B b most sh3 st3 1 0 (.slice (some ⟨w4.heap.size, 0, none⟩) 5 5) bsOlder w5 HF5.out.rep HF5.out.is HPw3.out (by have := HH.out.small; omega) hv5).mono ?_
  rintro e w6 ⟨rfl, sh4, hf6⟩
  have hF := HF5.out.trans hf6
  have hks := HRD.out.keepS hF.only
  have hst := copy_stays HRS.out HH.out.is HbD.out HCo.out HCs.out hF
  have HD6 := Lib.hid (HDD.out.adv hks (HRD.out.belowB hF.only))
  have HRR6 := Lib.hid (HRRD.out.keepS hks)
  have HRS6 := Lib.hid hst.1
  have HIS5 := Lib.hid hst.2
  have HSY5 : Hid (RSync (m + 4) st ks (vs.map Prod.fst) us fr) := Lib.hid (HH.out.sync.mono (by omega))
  have HWF5 : Hid (PWf (m + 4) st) := Lib.hid (HH.out.wf.mono (by omega))
  clear hF hks hst hf6 hv5 HF5 HCo HCs HbD HDD HRRD HRD HFP0
  have hS5 : World.cell? w6 ⟨w.heap.size, 0, none⟩ = some (.int .i64 most) ∧ World.cell? w6 ⟨w.heap.size, 1, none⟩ = some (.slice CA ks.length cc) ∧ World.cell? w6 ⟨w.heap.size, 2, none⟩ = some (.slice BA vs.length bc) ∧ World.cell? w6 ⟨w.heap.size, 3, none⟩ = some (.slice UA us.length uc) ∧ World.cell? w6 ⟨w.heap.size, 4, none⟩ = some (.slice FA fr.length fc) :=
    ⟨HD6.out.s1.cell 0 _ rfl, HD6.out.s1.cell 1 _ rfl, HD6.out.s1.cell 2 _ rfl, HD6.out.s1.cell 3 _ rfl, HD6.out.s1.cell 4 _ rfl⟩
  have HS5 := Lib.hid hS5
  obtain ⟨s0, s1, s2, s3, s4⟩ := hS5
  have r0 := HD6.out.s3.cell 0 _ rfl
  have r1 := HD6.out.s3.cell 1 _ rfl
  have r2 := HD6.out.s3.cell 2 _ rfl
  have r3 := HD6.out.s3.cell 3 _ rfl
  have r4 := HD6.out.s3.cell 4 _ rfl
  have rf := HD6.out.s3.frozen
  have rl := HD6.out.s3.lt
  have hd1 : ¬ w.heap.size = w.heap.size + 1 + 1 := by omega
  go_wp2_with fail
  go_region_held_law (fun W => W.cell? ⟨w.heap.size, 0, none⟩ = some (.int .i64 most) ∧ W.cell? ⟨w.heap.size, 1, none⟩ = some (.slice CA ks.length cc) ∧ W.cell? ⟨w.heap.size, 2, none⟩ = some (.slice BA vs.length bc) ∧ W.cell? ⟨w.heap.size, 3, none⟩ = some (.slice UA us.length uc) ∧ W.cell? ⟨w.heap.size, 4, none⟩ = some (.slice FA fr.length fc))
    (repeat (first | with_reducible exact HS5.out | with_reducible refine drew5 ?_ | with_reducible refine far5 ?_ hd1 _ _)) (fail)
  all_goals
    go_wp2_with fail
    obtain ⟨q0, q1, q2, q3, q4⟩ := box5 HD6.out.s3 (.int .i64 most) (.slice CA ks.length cc) (.slice BA vs.length bc) (.slice UA us.length uc) (.slice FA fr.length fc)
    have ho5 := only5 w6 (w.heap.size + 1 + 1) (.int .i64 most) (.slice CA ks.length cc) (.slice BA vs.length bc) (.slice UA us.length uc) (.slice FA fr.length fc)
    clear s0 s1 s2 s3 s4
    generalize World.setCell _ _ _ = w14 at q0 q1 q2 q3 q4 ho5 ⊢
    refine bodyPost_ret (v := .tuple #[.pointer (some ⟨wO.heap.size, 0, none⟩), .agg #[.int .i64 most, .slice CA ks.length cc, .slice BA vs.length bc, .slice UA us.length uc, .slice FA fr.length fc], .bool true]) (by simp [results, Try.results20, go_sem, q0, q1, q2, q3, q4]) rfl ?_
    exact do_done HD6.out HRS6.out HIS5.out HRR6.out HSY5.out HWF5.out ho5.drew

theorem do_any (B b m : Nat) (what most K N : Int) (st : PSt) (sh : Nat → ShV) (cv bv uv fv v : Value) (bs : List UInt8) (ks : List (Int × Int)) (vs : List (List UInt8 × Value)) (us : List Bool) (fr : List (Int × Int)) (w : World) (h : DoH w B b m most st sh cv bv uv fv ks vs us fr v bs) :
    Calls Try.prog 20 #[.pointer (some ⟨b, 0, none⟩), .agg #[.int .i64 most, cv, bv, uv, fv], .agg #[.int .i64 what, .int .i64 K, .int .i64 N, v]] w (DoPost w B m most) := by
  by_cases h0 : what = 0
  · subst h0; exact do_put B b m most K N st sh cv bv uv fv v bs ks vs us fr w h
  by_cases h1 : what = 1
  · subst h1
    cases hp : phas st K N with
    | none => exact do_get_none B b m most K N st sh cv bv uv fv v bs ks vs us fr w h hp
    | some rb => exact do_get_some B b m most K N st sh cv bv uv fv v bs rb ks vs us fr w h hp
  by_cases h2 : what = 2
  · subst h2; exact do_free B b m most K N st sh cv bv uv fv v bs ks vs us fr w h
  by_cases h3 : what = 3
  · subst h3; exact do_swap B b m most K N st sh cv bv uv fv v bs ks vs us fr w h
  exact do_copy B b m what most K N st sh cv bv uv fv v bs ks vs us fr w h h0 h1 h2 h3

end Go.Proofs.Ytookfhmghchkjaa
