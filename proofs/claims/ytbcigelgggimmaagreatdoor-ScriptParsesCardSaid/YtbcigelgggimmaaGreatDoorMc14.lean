/- Gl0, Gl, ScP, ScPW, ArgsC, ArgsS -/
import Derived.Test.YtbcigelgggimmaaGreatDoorMc7
import Derived.Test.YtbcigelgggimmaaGreatDoorMc12
import Derived.Test.YtbcigelgggimmaaGreatDoorRows
import Derived.ProofKit
import Derived.LaidMore
import Derived.OpenShut
import Derived.Stop.Joined
import Derived.Test.YtbcigelgggimmaaGreatDoorMc13
import Derived.Lib.SmallJoins
import Derived.ChangeSlices
import Derived.Test.YtbcigelgggimmaaGreatDoorMc10
import Derived.Deep.Slices
namespace Go.Proofs.YtbcigelgggimmaaGreatDoor
open Go Go.RowKit Go.ChangeShapes Go.WideShapes Go.ChangeAt Go.WideMaps Go.WideElems Go.Sy
theorem laid_at {P : Program} {w : World} : ∀ {laid : List (String × DataW Unit)} {ps : List MemPlace}, DataW.LaidVars P w laid ps → ∀ {n : String} {d : DataW Unit}, (n, d) ∈ laid →
    ∃ g t cs fuel p, P.globalNamed n = some g ∧ (P.globals[g]?).map (·.type) = some t ∧ w.var? P n = some cs ∧ DataW.trod (fun _ => ()) P w 0 (fun _ => true) false fuel t cs.toList = some (d, p) ∧ ∀ x ∈ MemPlace.row ⟨g, 0, none⟩ cs.size, x ∈ ps
  | [], ps, h, n, d, hm => by cases hm
  | (n', d') :: r, ps, h, n, d, hm => by
    obtain ⟨g, t, cs, fuel, p, q, h1, h2, h3, h4, h5, rfl⟩ := h
    rcases List.mem_cons.1 hm with e | hm
    · injection e with e1 e2
      subst e1 e2
      exact ⟨g, t, cs, fuel, p, h1, h2, h3, h4, fun x hx => by simp [hx]⟩
    · obtain ⟨g', t', cs', f', p', k1, k2, k3, k4, k5⟩ := laid_at h5 hm
      exact ⟨g', t', cs', f', p', k1, k2, k3, k4, fun x hx => by simp [k5 x hx]⟩
theorem take1_at {α : Type} {l : List α} {i : Nat} {c : α} (h : (l.drop i).take 1 = [c]) : l[i]? = some c := by
  have h1 : ((l.drop i).take 1)[0]? = some c := by rw [h]; rfl
  rw [List.getElem?_take_of_lt (by omega), List.getElem?_drop, Nat.add_zero] at h1
  exact h1
/-- A variable that is an array of integers: its block. -/
theorem blk_of_laid {P : Program} {w : World} {laid : List (String × DataW Unit)} (h : laidMet P laid w) {name : String} {d : DataW Unit} (hm : (name, d) ∈ laid) {g n : Nat} {t e : TypeId} {k : IntKind}
    (hg : P.globalNamed name = some g) (hgt : (P.globals[g]?).map (·.type) = some t) (ht : P.underlying t = some (.array n e)) (he : P.underlying e = some (.int k)) (hc : P.cellsOf e = 1) (hct : P.cellsOf t = n)
    (l : List Nat) (hl : l.length = n) (hn : 0 < n) (hd : d = .agg (l.map fun x => .lit (.int k (.ofNat x)))) : ∃ t', w.heap[g]? = some (.cells ⟨l.map fun x => .int k (.ofNat x)⟩ t' (0, 0)) := by
  obtain ⟨ps, hps, _, hfz⟩ := h
  obtain ⟨g', t', cs, fuel, p, h1, h2, h3, h4, h5⟩ := laid_at hps hm
  obtain rfl : g = g' := Option.some.inj (hg.symm.trans h1)
  obtain rfl : t = t' := Option.some.inj (hgt.symm.trans h2)
  obtain ⟨xs, m, _, hx1, hlen, hxn, hel⟩ := DataW.trod_array ht h4
  simp only [Prod.mk.injEq] at hx1
  have hsz : cs.size = n := by rw [← hct, ← hlen]; simp
  have hcs : cs = ⟨l.map fun x => .int k (.ofNat x)⟩ := by
    apply Array.ext_getElem?
    intro i
    by_cases hi : i < n
    · have hc' := hel i hi
      rw [hc, Nat.mul_one, List.getElem?_eq_getElem (by omega)] at hc'
      obtain ⟨q, e1, e2, _⟩ := DataW.trod_int he hc'
      have h6 : (xs.map (·.1))[i]? = some (.lit (.int k (.ofNat (l[i]'(by omega))))) := by
        have := hx1.1
        rw [hd] at this
        injection this with this
        rw [← this, List.getElem?_map, List.getElem?_eq_getElem (by omega)]; rfl
      rw [List.getElem?_map, List.getElem?_eq_getElem (by omega), e2] at h6
      simp only [Option.map_some, Option.some.injEq, DataW.lit.injEq, Lit.int.injEq, true_and] at h6
      have h7 := take1_at e1
      rw [Array.getElem?_toList] at h7
      rw [h7, h6, List.getElem?_toArray, List.getElem?_map, List.getElem?_eq_getElem (by omega)]; rfl
    · rw [Array.getElem?_eq_none (by omega), Array.getElem?_eq_none (by simp; omega)]
  obtain ⟨⟨c, t2, hb⟩, _⟩ := hfz g 0 (h5 _ (by
    simp only [MemPlace.row, List.mem_map, List.mem_range]
    exact ⟨0, by omega, rfl⟩))
  refine ⟨t2, ?_⟩
  simp only [World.var?, hg, Option.bind_some, hb] at h3
  injection h3 with h3
  rw [hb, h3, hcs]
theorem b_conc (b : Bool) (s : Sg) : (AV.b b).conc s = some (.bool b) := by simp only [AV.conc]
theorem follows : Tryz.prog.follows .mixedOrders = true := by kernel_rfl
end Go.Proofs.YtbcigelgggimmaaGreatDoor
namespace Go.Proofs.YtbcigelgggimmaaGreatDoor
open Go Go.RowKit Go.ChangeShapes Go.WideShapes Go.ChangeAt Go.WideMaps Go.WideElems Go.Sy
abbrev laid26 : List (String × DataW Unit) := [("math/bits.deBruijn64tab", Rows.laid_math_bits_deBruijn64tab), ("cubbyhole/script.kinds", Rows.laid_cubbyhole_script_kinds)]
/-- The two variables lie in their blocks. -/
def GL (w : World) : Prop := ∃ t0 t1, w.heap[0]? = some (.cells ⟨kindsN.map fun x => .int .i64 (.ofNat x)⟩ t0 (0, 0)) ∧ w.heap[1]? = some (.cells ⟨bruijnN.map fun x => .int .u8 (.ofNat x)⟩ t1 (0, 0))
theorem gl_of_laid {W : World} (h : laidMetH Tryz.prog laid26 W) : GL W := by
  rw [MakeChecks.laidMetH_plain _ _ _ (by kernel_rfl)] at h
  obtain ⟨t0, h0⟩ := blk_of_laid h (name := "cubbyhole/script.kinds") (d := Rows.laid_cubbyhole_script_kinds) (by simp) (g := 0) (n := 16) (t := 108) (e := 3) (k := .i64) (by kernel_rfl) (by kernel_rfl) (by kernel_rfl) (by kernel_rfl) (by kernel_rfl) (by kernel_rfl) kindsN rfl (by decide) rfl
  obtain ⟨t1, h1⟩ := blk_of_laid h (name := "math/bits.deBruijn64tab") (d := Rows.laid_math_bits_deBruijn64tab) (by simp) (g := 1) (n := 64) (t := 442) (e := 5) (k := .u8) (by kernel_rfl) (by kernel_rfl) (by kernel_rfl) (by kernel_rfl) (by kernel_rfl) (by kernel_rfl) bruijnN rfl (by decide) rfl
  exact ⟨t0, t1, h0, h1⟩
theorem GL.below {w w' : World} {B : Nat} (h : GL w) (hb : Below B w w') (hB : 2 ≤ B) : GL w' := by
  obtain ⟨t0, t1, h0, h1⟩ := h
  exact ⟨t0, t1, (hb.block 0 (by omega)).trans h0, (hb.block 1 (by omega)).trans h1⟩
theorem GL.lt {w : World} (h : GL w) : 2 ≤ w.heap.size := by
  obtain ⟨t0, t1, h0, h1⟩ := h
  exact (Array.getElem?_eq_some_iff.1 h1).1
set_option maxRecDepth 100000 in
theorem known_any (w : World) (h : GL w) : Calls Tryz.prog 8 #[] w fun e w' => e = .returned (.bool true) ∧ Below w.heap.size w w' := by
  obtain ⟨t0, t1, h0, h1⟩ := h
  have hk : runP Tryz.prog orcL 100000 8 [] (.b true) (gs26 t0 t1) 0 := Eq.mpr (known_eval t0 t1) ⟨rfl, rfl, rfl, trivial⟩
  have hr : RowsAt w (gs26 t0 t1) [] := by
    refine rowsAt_globals (fun g hg => ?_) (fun g hg => ?_) <;> simp only [gs26, List.mem_cons, List.not_mem_nil, or_false] at hg
    · rcases hg with rfl | rfl <;> exact gInts_good _ _ _
    · rcases hg with rfl | rfl
      · exact ⟨(by decide : 0 < 64), h0⟩
      · exact ⟨(by decide : 1 < 64), h1⟩
  exact run_args follows orcL_ok hr (concL_nil.2 rfl) (b_conc true) hk
end Go.Proofs.YtbcigelgggimmaaGreatDoor
namespace Go.Proofs.YtbcigelgggimmaaGreatDoor
open Go Go.RowKit Go.Sy
theorem kg_of_gl {w : World} (h : GL w) : KG w := by
  have hl := h.lt
  obtain ⟨t0, t1, h0, h1⟩ := h
  refine ⟨by omega, fun i hi => ?_⟩
  simp only [World.cell?, h0]
  rcases (by omega : i = 0 ∨ i = 1 ∨ i = 2 ∨ i = 3 ∨ i = 4 ∨ i = 5 ∨ i = 6 ∨ i = 7 ∨ i = 8 ∨ i = 9 ∨ i = 10 ∨ i = 11 ∨ i = 12 ∨ i = 13 ∨ i = 14 ∨ i = 15) with rfl | rfl | rfl | rfl | rfl | rfl | rfl | rfl | rfl | rfl | rfl | rfl | rfl | rfl | rfl | rfl <;> rfl
theorem opsAt_nil (w : World) (B : Nat) : OpsAt w B (.slice none 0 0) [] := ⟨⟨none, 0, rfl, Nat.le_refl _, Nat.zero_le _, fun _ => rfl, fun h => by simp at h⟩, fun p hp => by simp at hp, fun p hp => by simp at hp⟩
set_option maxHeartbeats 2000000 in
theorem reads_any (Bv Bw : Nat) (V vw : Value) (rs : List UInt8) (ws : List (OpV × Value)) (e0 : Int) (w : World) (hv : Bts w Bv 5 V rs) (hB0 : 0 < Bv) (hBs : Bv ≤ w.heap.size) (hk : KG w) (hw : OpsAt w Bw vw ws) (hwl : ws.length ≤ 5000)
    (hok : (4096 < rs.length ∧ ws = [] ∧ e0 = 5) ∨ (rs.length ≤ 4096 ∧ ws.map Prod.fst = rdOps rs ∧ e0 = 0)) :
    Calls Tryz.prog 12 #[V, vw, .int .i64 e0] w fun e w' => e = .returned (.bool true) ∧ Below w.heap.size w w' := by
  have HP := Lib.hid (parse_any Bv V rs w hv hB0 hBs hk)
  obtain ⟨A, cap, rfl⟩ := hv.form
  obtain ⟨AW, wc, rfl⟩ := hw.slice
  have HW := Lib.hid hw
  rcases hok with ⟨h1, rfl, rfl⟩ | ⟨h1, h2, rfl⟩
  · have HR : Hid (∀ e w', ParseRet Bv rs w e w' → e = .returned (.tuple #[.slice none 0 0, .int .i64 5]) ∧ Below w.heap.size w w') := Lib.hid fun e w' h => by unfold ParseRet at h; rw [if_pos h1] at h; exact h
    generalize rs.length = n at HP HR ⊢
    clear hv hw hk hB0 hBs h1
    go_enter Tryz.func12, Tryz.ntmps12
    go_wp2_with fail
    refine HP.out.mono ?_
    intro e w1 hret
    obtain ⟨rfl, hb⟩ := HR.out _ _ hret
    have HB := Lib.hid hb
    clear hret hb
    go_wp2_with fail
    refine (ops26_any 0 Bw _ _ [] [] _ (opsAt_nil _ _) (HW.out.below HB.out) (by simp) (by simp)).mono ?_
    rintro e w2 ⟨⟨r, rfl, hr⟩, hb2⟩
    have hr : r = true := hr.2 rfl
    subst hr
    have HB2 := Lib.hid (HB.out.trans (hb2.mono HB.out.size))
    clear hb2
    go_wp2_with fail
    go_ret
    exact ⟨rfl, HB2.out⟩
  · have HR : Hid (∀ e w', ParseRet Bv rs w e w' → ∃ v ps, e = .returned (.tuple #[v, .int .i64 0]) ∧ ps.map Prod.fst = rdOps rs ∧ OpsOwn w' w.heap.size Bv v ps ∧ Below w.heap.size w w') := Lib.hid fun e w' h => by unfold ParseRet at h; rw [if_neg (by omega)] at h; exact h
    have HE := Lib.hid h2
    have hrl := rdOps_len rs.length rs (Nat.le_refl _)
    have HL : Hid ((rdOps rs).length ≤ 5000) := Lib.hid (by omega)
    have HWl := Lib.hid hwl
    obtain ⟨m, hm⟩ : ∃ m, ws.length = m := ⟨_, rfl⟩
    rw [hm] at HW ⊢
    generalize rs.length = n at HP HR ⊢
    clear hv hw hk hB0 hBs h1 h2 hrl hwl
    go_enter Tryz.func12, Tryz.ntmps12
    go_wp2_with fail
    refine HP.out.mono ?_
    intro e w1 hret
    obtain ⟨v, ps, rfl, hps, hown, hb⟩ := HR.out _ _ hret
    obtain ⟨A5, c5, rfl⟩ := hown.at_.slice
    have HB := Lib.hid hb
    have HO := Lib.hid hown
    have HPs := Lib.hid hps
    have hpl : ps.length ≤ 5000 := by have h3 := HL.out; rw [← hps, List.length_map] at h3; exact h3
    have HPl := Lib.hid hpl
    clear hret hb hown hps hpl hm
    go_wp2_with fail
    refine (ops26_any Bv Bw _ _ ps ws _ HO.out.at_ (HW.out.below HB.out) (by have := HPl.out; omega) (by have := HWl.out; omega)).mono ?_
    rintro e w2 ⟨⟨r, rfl, hr⟩, hb2⟩
    have hr : r = true := hr.2 (by rw [HPs.out, HE.out])
    subst hr
    have HB2 := Lib.hid (HB.out.trans (hb2.mono HB.out.size))
    clear hb2
    go_wp2_with fail
    go_ret
    exact ⟨rfl, HB2.out⟩
end Go.Proofs.YtbcigelgggimmaaGreatDoor
namespace Go.Proofs.YtbcigelgggimmaaGreatDoor
open Go Go.RowKit Go.Sy
/-- The long bytes, while nines are put behind. -/
structure LgI (w wr : World) (v : Value) (bs : List UInt8) (j : Nat) : Prop where
  row : wr.ownsRow w.heap.size 5 1 v (bs.length + j) (bcells (bs ++ List.replicate j 9))
  below : Below w.heap.size w wr
theorem LgI.step {w wr W8 : World} {v v8 : Value} {bs : List UInt8} {j : Nat} {ob : Obj} (h : LgI w wr v bs j) (hown : W8.ownsRow w.heap.size 5 1 v8 (bs.length + j + 1) (bcells (bs ++ List.replicate j 9) ++ [.int .u8 9])) (hg : (wr.alloc ob).grownBy W8 v.ownBlock) : LgI w W8 v8 bs (j + 1) := by
  have hb1 : Below w.heap.size w (wr.alloc ob) := h.below.alloc h.below.size ob
  refine ⟨?_, hb1.grown hg hb1.size (by intro k hk; exact (row_heap h.row hk).1)⟩
  have e : bcells (bs ++ List.replicate (j + 1) 9) = bcells (bs ++ List.replicate j 9) ++ [.int .u8 9] := by simp [bcells, List.replicate_succ']
  rw [e]
  exact hown
set_option maxRecDepth 100000 in
set_option maxHeartbeats 4000000 in
theorem parses_walk (V : Value) (bs : List UInt8) (many : Int) (w : World) (hv : Bts w w.heap.size 5 V bs) (_hwf : (Lit.int .i64 many).wf = true) (hg : GL w) :
    Calls Tryz.prog 4 #[V, .int .i64 many] w fun e w' => e = .returned (.bool true) ∧ Below w.heap.size w w' := by
  obtain ⟨i0, hi0, hz0, hz1, hz2⟩ := info_parts u8_info
  have hlm := hv.le
  unfold maxLen at hlm
  have h2 := hg.lt
  have HG := Lib.hid hg
  have HB0 : Hid (Below w.heap.size w w) := Lib.hid (Below.refl _ _)
  have HP := Lib.hid (fun (h : bs.length ≤ 400) => refParse_any w.heap.size V bs w hv (Nat.le_refl _) (by omega))
  have HV := Lib.hid hv
  have hrl := rdOps_len bs.length bs (Nat.le_refl _)
  obtain ⟨A, cap, rfl⟩ := hv.form
  obtain ⟨n, hn⟩ : ∃ n, bs.length = n := ⟨_, rfl⟩
  rw [hn] at HP HV hlm hrl ⊢
  have HN := Lib.hid hn
  have HRl := Lib.hid hrl
  have H2 := Lib.hid h2
  clear hv hn hg hrl h2
  go_enter Tryz.func4, Tryz.ntmps4
  by_cases h4 : 400 < n
  · have h4I : (400 : Int) < (n : Int) := by omega
    go_wp2_with fail
    refine (known_any _ (HG).out).mono ?_
    rintro e w9 ⟨rfl, hb9⟩
    have HB9 := Lib.hid ((HB0).out.trans (hb9.mono (HB0).out.size))
    clear hb9
    go_wp2_with fail
    go_ret
    exact ⟨rfl, HB9.out⟩
  have h4I : ¬ (400 : Int) < (n : Int) := by omega
  have HN4 : Hid (n ≤ 400) := Lib.hid (by omega)
  clear h4
  go_wp2_with fail
  refine (HP.out HN4.out).mono ?_
  rintro e w1 ⟨v, ps, rfl, hps, hown, hb⟩
  obtain ⟨A5, c5, e5⟩ := hown.at_.slice
  subst e5
  have HG1 := Lib.hid (HG.out.below hb HG.out.lt)
  have HR := Lib.hid (reads_any w.heap.size w.heap.size (.slice A n cap) _ bs ps 0 w1 (HV.out.below hb) (by have := H2.out; omega) hb.size (kg_of_gl HG1.out) hown.at_ (by have h3 := HRl.out; have h4 := HN4.out; rw [← hps, List.length_map] at h3; omega) (.inr ⟨by have := HN.out; have := HN4.out; omega, hps, rfl⟩))
  have HB1 := Lib.hid hb
  clear hps hown hb HP
  go_wp2_with fail
  refine HR.out.mono ?_
  rintro e w2 ⟨rfl, hb2⟩
  have HG2 := Lib.hid (HG1.out.below hb2 HG1.out.lt)
  have HB2 := Lib.hid (HB1.out.trans (hb2.mono HB1.out.size))
  clear hb2 HR HG1 HB1
  by_cases m1 : many < 4090
  · go_wp2_with fail
    refine (known_any _ (HG2).out).mono ?_
    rintro e w9 ⟨rfl, hb9⟩
    have HB9 := Lib.hid ((HB2).out.trans (hb9.mono (HB2).out.size))
    clear hb9
    go_wp2_with fail
    go_ret
    exact ⟨rfl, HB9.out⟩
  by_cases m2 : 4100 < many
  · go_wp2_with fail
    refine (known_any _ (HG2).out).mono ?_
    rintro e w9 ⟨rfl, hb9⟩
    have HB9 := Lib.hid ((HB2).out.trans (hb9.mono (HB2).out.size))
    clear hb9
    go_wp2_with fail
    go_ret
    exact ⟨rfl, HB9.out⟩
  obtain ⟨m, rfl⟩ : ∃ m : Nat, many = m := ⟨many.toNat, by omega⟩
  have HM : Hid (4090 ≤ m ∧ m ≤ 4100) := Lib.hid (by omega)
  obtain ⟨w3, hmk, hown3, hg3⟩ := run_make_own (P := Tryz.prog) w2 w.heap.size 39 5 i0 _ 1 Tryz.underlying39 hi0 hz0 hz1 .i64 .i64 m (by rw [hz2]; omega) (by unfold maxLen; omega) HB2.out.size
  have hb3 : Below w.heap.size w w3 := HB2.out.grown hg3 HB2.out.size (by intro k hk; cases hk)
  have hlt3 : w2.heap.size < w3.heap.size := by
    rcases hown3.2 with ⟨h, _⟩ | ⟨g, cp, cur, he, hgg, hh, _⟩
    · cases h
    · cases he; exact lt_of_heap hh
  have HG3 := Lib.hid (HG.out.below hb3 HG.out.lt)
  have HB3 := Lib.hid hb3
  have HO3 := Lib.hid hown3
  have HV3 := Lib.hid (HV.out.below hb3)
  have HLt := Lib.hid hlt3
  clear hown3 hg3 hb3 m1 m2 hlt3
  have HSr : Hid (Src w3 1 A n (bcells bs)) := Lib.hid (by
    have := HV3.out.src_at.2
    rwa [HN.out] at this)
  have mI1 : ¬ (m : Int) < 4090 := by have := HM.out; omega
  have mI2 : ¬ (4100 : Int) < (m : Int) := by have := HM.out; omega
  clear _hwf
  go_wp2_with (at_builtin; refine wpList_append_src _ rfl _ _ _ rfl w.heap.size 5 i0 _ 1 1 Tryz.underlying39 hi0 hz0 hz1 hz2 rfl (by decide) _ 0 [] rfl HO3.out A n cap (bcells bs) rfl HSr.out (bcells_one _) (by have := HN4.out; unfold maxLen; omega) (by have := HN4.out; omega) HB3.out.size ?_; intro v4 w4 hown4 hg4 hat4)
  have hL0 : LgI w w4 v4 bs 0 := by
    refine ⟨?_, HB3.out.grown hg4 HB3.out.size (by intro k hk; exact (row_heap HO3.out hk).1)⟩
    rw [HN.out, Nat.add_zero, List.replicate_zero, List.append_nil]
    rw [Nat.zero_add, List.nil_append] at hown4
    exact hown4
  have HL0 := Lib.hid hL0
  clear hL0 hown4 hg4 hat4 hmk HSr
  go_loopw [5] (fun v wr => ∃ j : Nat, n + j ≤ m ∧ LgI w wr v bs j) (fun v _ => m - slLen v)
  case atStart => exact ⟨0, by have := HM.out; have := HN4.out; omega, HL0.out⟩
  case round =>
    obtain ⟨j, hj, hI⟩ := hrel
    have HI := Lib.hid hI
    have hrow := hI.row
    rw [HN.out] at hrow
    obtain ⟨L, hL⟩ : ∃ L, n + j = L := ⟨_, rfl⟩
    rw [hL] at hrow hj
    obtain ⟨A9, c9, rfl, hc1, hc2⟩ := own_form hrow
    have HL := Lib.hid hL
    have HRow := Lib.hid hrow
    have hLI : (L : Int) ≤ 4100 := by have := HM.out; omega
    clear hI hrow hL hc1 hc2 HL0
    by_cases hlt : L < m
    · have hltI : (L : Int) < (m : Int) := by omega
      go_wp2_with (at_builtin; refine wpList_append_src _ rfl _ _ _ rfl w.heap.size 5 i0 _ 1 1 Tryz.underlying39 hi0 hz0 hz1 hz2 rfl (by decide) _ L (bcells (bs ++ List.replicate j 9)) rfl (own_later HRow.out ((Below.refl _ _).alloc (Nat.le_refl _) _)) (some ⟨wr.heap.size, 0, none⟩) 1 1 [.int .u8 9] rfl (src_oneR _ _ _) (by intro u hu; rw [List.mem_singleton.1 hu]; rfl) (by have := HM.out; unfold maxLen; omega) (by have := HM.out; omega) (by have := HI.out.below.size; simp; omega) ?_; intro v8 w8 hown8 hg8 hat8)
      have hst : LgI w w8 v8 bs (j + 1) := HI.out.step (by rw [HN.out, HL.out]; exact hown8) hg8
      have HSt := Lib.hid hst
      have hsl8 : slLen v8 = L + 1 := by
        obtain ⟨A8, c8, e8, _, _⟩ := own_form hown8
        rw [e8]; rfl
      have HSl := Lib.hid hsl8
      clear hst hown8 hg8 hat8 hsl8
      go_roundw
      case rel => exact ⟨j + 1, by have := HL.out; omega, HSt.out⟩
      case measure => rw [HSl.out]; show _ < m - L; omega
    · obtain rfl : L = m := by omega
      have hbl : (bs ++ List.replicate j (9 : UInt8)).length = L := by rw [List.length_append, List.length_replicate, HN.out]; exact HL.out
      obtain ⟨W0, hW0⟩ : ∃ W0, W0 = wr := ⟨_, rfl⟩
      subst hW0
      obtain ⟨bl, hbl2⟩ : ∃ bl, bs ++ List.replicate j (9 : UInt8) = bl := ⟨_, rfl⟩
      rw [hbl2] at hbl HRow
      have HBl := Lib.hid hbl
      have HVl : Hid (∀ W, Below W0.heap.size W0 W → Bts W w.heap.size 5 (.slice A9 L c9) bl) := Lib.hid fun W hW => by
        have h1 := HRow.out
        rw [← HBl.out] at h1 ⊢
        exact (Bts.of_own h1 _).below hW
      have HGw := Lib.hid (HG.out.below HI.out.below HG.out.lt)
      have HBw := Lib.hid HI.out.below
      have hrl := rdOps_len bl.length bl (Nat.le_refl _)
      rw [hbl] at hrl
      have HRl2 := Lib.hid hrl
      clear hbl hbl2 hrl hj hlt
      by_cases hb : 4096 < L
      · have hbI : (4096 : Int) < (L : Int) := by omega
        have HR := Lib.hid (reads_any w.heap.size 0 (.slice A9 L c9) (.slice none 0 0) bl [] 5 W0 (HVl.out _ (Below.refl _ _)) (by have := H2.out; omega) HBw.out.size (kg_of_gl HGw.out) (opsAt_nil _ _) (by simp) (.inl ⟨by rw [HBl.out]; exact hb, rfl, rfl⟩))
        go_wp2_with fail
        refine HR.out.mono ?_
        rintro e w5 ⟨rfl, hb5⟩
        have HG5 := Lib.hid (HGw.out.below hb5 HGw.out.lt)
        have HB5 := Lib.hid (HBw.out.trans (hb5.mono HBw.out.size))
        clear hb5 HR
        go_wp2_with fail
        refine (known_any _ (HG5).out).mono ?_
        rintro e w9 ⟨rfl, hb9⟩
        have HB9 := Lib.hid ((HB5).out.trans (hb9.mono (HB5).out.size))
        clear hb9
        go_wp2_with fail
        go_ret
        exact ⟨rfl, HB9.out⟩
      · have hbI : ¬ (4096 : Int) < (L : Int) := by omega
        have HP2 := Lib.hid (refParse_any w.heap.size (.slice A9 L c9) bl W0 (HVl.out _ (Below.refl _ _)) HBw.out.size (by rw [HBl.out]; omega))
        have HLe : Hid (L ≤ 4096) := Lib.hid (by omega)
        go_wp2_with fail
        refine HP2.out.mono ?_
        rintro e w5 ⟨v5, ps5, rfl, hps5, hown5, hb5⟩
        obtain ⟨A6, c6, e6⟩ := hown5.at_.slice
        subst e6
        have HG5 := Lib.hid (HGw.out.below hb5 HGw.out.lt)
        have HB5 := Lib.hid (HBw.out.trans (hb5.mono HBw.out.size))
        have HR := Lib.hid (reads_any w.heap.size w.heap.size (.slice A9 L c9) _ bl ps5 0 w5 (HVl.out _ hb5) (by have := H2.out; omega) HB5.out.size (kg_of_gl HG5.out) hown5.at_ (by have h3 := HRl2.out; have h4 := HLe.out; rw [← hps5, List.length_map] at h3; omega) (.inr ⟨by have := HBl.out; have := HLe.out; omega, hps5, rfl⟩))
        clear hps5 hown5 hb5 HP2
        go_wp2_with fail
        refine HR.out.mono ?_
        rintro e w6 ⟨rfl, hb6⟩
        have HG6 := Lib.hid (HG5.out.below hb6 HG5.out.lt)
        have HB6 := Lib.hid (HB5.out.trans (hb6.mono HB5.out.size))
        clear hb6 HR
        go_wp2_with fail
        refine (known_any _ (HG6).out).mono ?_
        rintro e w9 ⟨rfl, hb9⟩
        have HB9 := Lib.hid ((HB6).out.trans (hb9.mono (HB6).out.size))
        clear hb9
        go_wp2_with fail
        go_ret
        exact ⟨rfl, HB9.out⟩
end Go.Proofs.YtbcigelgggimmaaGreatDoor
namespace Go.Proofs.YtbcigelgggimmaaGreatDoor
open Go Go.RowKit Go.Joins Go.ChangeShapes Go.WideShapes
theorem u8_wf {z : Int} (h : (Lit.int .u8 z).wf = true) : 0 ≤ z ∧ z ≤ 255 := by
  have h1 : IntKind.u8.min = 0 := rfl
  have h2 : IntKind.u8.max = 255 := rfl
  simp [Lit.wf, h1, h2] at h
  omega
/-- Bytes that came in read as a slice of bytes. -/
theorem open_bts {H : Type} {enc : TypeId × Value → H} {P : Program} {w : World} {fuel : Nat} {t e : TypeId} {v : Value} {y : DataW H × List MemPlace} (ht : P.underlying t = some (.slice e)) (he : P.underlying e = some (.int .u8)) (hc : P.cellsOf e = 1)
    (h : DataW.trod enc P w 0 (fun _ => true) true fuel t [v] = some y) (U : Nat) : ∃ bs : List UInt8, Bts w w.heap.size U v bs := by
  rcases open_ints ht he hc h with ⟨hcs, _⟩ | ⟨a, len, cap, zs, hcs, _, hl, hm, hz, _, hcell, hwf⟩
  · injection hcs with hcs _
    subst hcs
    exact ⟨[], Bts.nil _ _ _⟩
  · injection hcs with hcs _
    subst hcs
    simp only [if_true] at hz
    refine ⟨(zs.take len).map (fun z => UInt8.ofNat z.toNat), some a, cap, ?_, ?_, hm, (fun h => by cases h), fun h0 => ?_⟩
    · simp; omega
    · simp; omega
    · simp at h0
      have hc0 := hcell 0 (by omega)
      have ha0 : a.add 0 = a := by simp [Addr.add]
      rw [ha0] at hc0
      obtain ⟨b, off, spot⟩ := a
      have hs : spot = none := by
        cases spot with
        | none => rfl
        | some s =>
          unfold World.cell? at hc0
          split at hc0
          · simp at hc0
          · cases hc0
      subst hs
      have hb := block_lt_of_cell hc0
      refine ⟨b, off, rfl, hb, .inl hb, fun i hi => ?_⟩
      simp at hi
      have hci := hcell i (by omega)
      rw [add_plain] at hci
      rw [hci]
      have hiz : i < zs.length := by omega
      have e1 : zs.getD i 0 = zs[i] := by rw [List.getD_eq_getElem?_getD, List.getElem?_eq_getElem hiz]; rfl
      have hwz := u8_wf (hwf (zs.getD i 0) (by rw [e1]; exact List.getElem_mem _))
      rw [e1] at hwz ⊢
      have e2 : (UInt8.ofNat (zs[i]).toNat).toNat = (zs[i]).toNat := by
        rw [UInt8.toNat_ofNat']
        omega
      simp only [List.getElem_map, List.getElem_take]
      rw [e2, Int.toNat_of_nonneg hwz.1]
end Go.Proofs.YtbcigelgggimmaaGreatDoor
namespace Go.Proofs.YtbcigelgggimmaaGreatDoor
open Go Go.RowKit Go.Joins Go.ChangeShapes Go.WideShapes Go.ChangeAt Go.WideMaps Go.WideElems Go.Deep
theorem array9 {α : Type} {cs : Array α} (h : cs.size = 9) : ∃ c0 c1 c2 c3 c4 c5 c6 c7 c8, cs = #[c0, c1, c2, c3, c4, c5, c6, c7, c8] := by
  obtain ⟨l⟩ := cs
  match l, h with
  | [c0, c1, c2, c3, c4, c5, c6, c7, c8], _ => exact ⟨c0, c1, c2, c3, c4, c5, c6, c7, c8, rfl⟩
theorem fld {H : Type} {enc : TypeId × Value → H} {P : Program} {w : World} {n : Nat} {cs : List Value} {x : Option (DataW H × List MemPlace)} {t : TypeId} {off : Nat} (h : DataW.trod enc P w 0 (fun _ => true) true n t ((cs.drop off).take (P.cellsOf t)) = x) (hc : P.cellsOf t = 1) (c : Value) (he : (cs.drop off).take 1 = [c]) (hx : ∃ y, x = some y) :
    ∃ y, DataW.trod enc P w 0 (fun _ => true) true n t [c] = some y := by
  rw [hc, he] at h
  rw [h]; exact hx
theorem u64_wf {z : Int} (h : (Lit.int .u64 z).wf = true) : 0 ≤ z := by
  have h1 : IntKind.u64.min = 0 := rfl
  simp [Lit.wf, h1] at h
  omega
theorem OpsAt.nil (w : World) (B : Nat) : OpsAt w B (.slice none 0 0) [] := ⟨⟨none, 0, rfl, Nat.le_refl _, Nat.zero_le _, fun _ => rfl, fun h => by simp at h⟩, fun p hp => by simp at hp, fun p hp => by simp at hp⟩
set_option maxRecDepth 100000 in
theorem open_op {H : Type} {enc : TypeId × Value → H} {r : Reach} {b0 : Nat} {w : World} {v : Value} {d : DataW H} {p : List MemPlace} (hv : Value.okWide Tryz.prog w r b0 41 v) (h : DataW.Trod enc Tryz.prog w 0 (fun _ => true) true 41 v d p) :
    ∃ (o : OpV) (u : Value), v = opv o u ∧ o.key.size ≤ maxLen ∧ Bts w w.heap.size 5 u o.val ∧ 0 ≤ o.ticks := by
  obtain ⟨cs, rfl, hsz⟩ := okWide_struct Tryz.underlying41 hv
  obtain ⟨c0, c1, c2, c3, c4, c5, c6, c7, c8, rfl⟩ := array9 (hsz.trans (by kernel_rfl))
  obtain ⟨fuel, hf⟩ := h
  obtain ⟨xs, n, _, _, hl, hlen, hf⟩ := DataW.trod_struct Tryz.underlying41 hf
  obtain ⟨y0, g0⟩ : ∃ y, DataW.trod enc Tryz.prog w 0 (fun _ => true) true n 37 [c0] = some y := fld (hf 0 _ rfl) (by kernel_rfl) c0 rfl ⟨_, List.getElem?_eq_getElem (by rw [hlen]; decide)⟩
  obtain ⟨y1, g1⟩ : ∃ y, DataW.trod enc Tryz.prog w 0 (fun _ => true) true n 38 [c1] = some y := fld (hf 1 _ rfl) (by kernel_rfl) c1 rfl ⟨_, List.getElem?_eq_getElem (by rw [hlen]; decide)⟩
  obtain ⟨y2, g2⟩ : ∃ y, DataW.trod enc Tryz.prog w 0 (fun _ => true) true n 9 [c2] = some y := fld (hf 2 _ rfl) (by kernel_rfl) c2 rfl ⟨_, List.getElem?_eq_getElem (by rw [hlen]; decide)⟩
  obtain ⟨y3, g3⟩ : ∃ y, DataW.trod enc Tryz.prog w 0 (fun _ => true) true n 39 [c3] = some y := fld (hf 3 _ rfl) (by kernel_rfl) c3 rfl ⟨_, List.getElem?_eq_getElem (by rw [hlen]; decide)⟩
  obtain ⟨y4, g4⟩ : ∃ y, DataW.trod enc Tryz.prog w 0 (fun _ => true) true n 38 [c4] = some y := fld (hf 4 _ rfl) (by kernel_rfl) c4 rfl ⟨_, List.getElem?_eq_getElem (by rw [hlen]; decide)⟩
  obtain ⟨y5, g5⟩ : ∃ y, DataW.trod enc Tryz.prog w 0 (fun _ => true) true n 3 [c5] = some y := fld (hf 5 _ rfl) (by kernel_rfl) c5 rfl ⟨_, List.getElem?_eq_getElem (by rw [hlen]; decide)⟩
  obtain ⟨y6, g6⟩ : ∃ y, DataW.trod enc Tryz.prog w 0 (fun _ => true) true n 3 [c6] = some y := fld (hf 6 _ rfl) (by kernel_rfl) c6 rfl ⟨_, List.getElem?_eq_getElem (by rw [hlen]; decide)⟩
  obtain ⟨y7, g7⟩ : ∃ y, DataW.trod enc Tryz.prog w 0 (fun _ => true) true n 3 [c7] = some y := fld (hf 7 _ rfl) (by kernel_rfl) c7 rfl ⟨_, List.getElem?_eq_getElem (by rw [hlen]; decide)⟩
  obtain ⟨y8, g8⟩ : ∃ y, DataW.trod enc Tryz.prog w 0 (fun _ => true) true n 27 [c8] = some y := fld (hf 8 _ rfl) (by kernel_rfl) c8 rfl ⟨_, List.getElem?_eq_getElem (by rw [hlen]; decide)⟩
  obtain ⟨k0, e0, _, _⟩ := DataW.trod_int Tryz.underlying37 g0
  obtain ⟨k1, e1, _, h1⟩ := DataW.trod_int Tryz.underlying38 g1
  obtain ⟨k2, e2, _, h2⟩ := DataW.trod_string Tryz.underlying9 g2
  obtain ⟨bs, hb⟩ := open_bts Tryz.underlying39 Tryz.underlying5 (by kernel_rfl) g3 5
  obtain ⟨k4, e4, _, _⟩ := DataW.trod_int Tryz.underlying38 g4
  obtain ⟨k5, e5, _, _⟩ := DataW.trod_int Tryz.underlying3 g5
  obtain ⟨k6, e6, _, _⟩ := DataW.trod_int Tryz.underlying3 g6
  obtain ⟨k7, e7, _, _⟩ := DataW.trod_int Tryz.underlying3 g7
  obtain ⟨k8, e8, _, _⟩ := DataW.trod_int Tryz.underlying27 g8
  injection e0 with e0 _
  injection e1 with e1 _
  injection e2 with e2 _
  injection e4 with e4 _
  injection e5 with e5 _
  injection e6 with e6 _
  injection e7 with e7 _
  injection e8 with e8 _
  subst e0 e1 e2 e4 e5 e6 e7 e8
  exact ⟨⟨k0, k1, k2, bs, k4, k5, k6, k7, k8⟩, c3, rfl, h2, hb, u64_wf h1⟩
theorem open_btsR {H : Type} {enc : TypeId × Value → H} {w : World} {v : Value} {d : DataW H} {p : List MemPlace} (hv : ∃ A l c, v = .slice A l c) (h : DataW.Trod enc Tryz.prog w 0 (fun _ => true) true 39 v d p) : ∃ bs : List UInt8, Bts w w.heap.size 5 v bs := by
  obtain ⟨A, l, c, rfl⟩ := hv
  obtain ⟨m, hm⟩ := h
  exact open_bts Tryz.underlying39 Tryz.underlying5 (by kernel_rfl) (by simpa [Value.cells] using hm) 5
set_option maxRecDepth 100000 in
theorem open_op_cells {H : Type} {enc : TypeId × Value → H} {w : World} {n : Nat} {cs : List Value} {y : DataW H × List MemPlace} (hl : cs.length = 9) (h : DataW.trod enc Tryz.prog w 0 (fun _ => true) true n 41 cs = some y) :
    ∃ (o : OpV) (u : Value), cs = opcs o u ∧ o.key.size ≤ maxLen ∧ Bts w w.heap.size 5 u o.val ∧ 0 ≤ o.ticks := by
  match cs, hl with
  | [c0, c1, c2, c3, c4, c5, c6, c7, c8], _ =>
    obtain ⟨xs, n, _, _, hl, hlen, hf⟩ := DataW.trod_struct Tryz.underlying41 h
    obtain ⟨y0, g0⟩ : ∃ y, DataW.trod enc Tryz.prog w 0 (fun _ => true) true n 37 [c0] = some y := fld (hf 0 _ rfl) (by kernel_rfl) c0 rfl ⟨_, List.getElem?_eq_getElem (by rw [hlen]; decide)⟩
    obtain ⟨y1, g1⟩ : ∃ y, DataW.trod enc Tryz.prog w 0 (fun _ => true) true n 38 [c1] = some y := fld (hf 1 _ rfl) (by kernel_rfl) c1 rfl ⟨_, List.getElem?_eq_getElem (by rw [hlen]; decide)⟩
    obtain ⟨y2, g2⟩ : ∃ y, DataW.trod enc Tryz.prog w 0 (fun _ => true) true n 9 [c2] = some y := fld (hf 2 _ rfl) (by kernel_rfl) c2 rfl ⟨_, List.getElem?_eq_getElem (by rw [hlen]; decide)⟩
    obtain ⟨y3, g3⟩ : ∃ y, DataW.trod enc Tryz.prog w 0 (fun _ => true) true n 39 [c3] = some y := fld (hf 3 _ rfl) (by kernel_rfl) c3 rfl ⟨_, List.getElem?_eq_getElem (by rw [hlen]; decide)⟩
    obtain ⟨y4, g4⟩ : ∃ y, DataW.trod enc Tryz.prog w 0 (fun _ => true) true n 38 [c4] = some y := fld (hf 4 _ rfl) (by kernel_rfl) c4 rfl ⟨_, List.getElem?_eq_getElem (by rw [hlen]; decide)⟩
    obtain ⟨y5, g5⟩ : ∃ y, DataW.trod enc Tryz.prog w 0 (fun _ => true) true n 3 [c5] = some y := fld (hf 5 _ rfl) (by kernel_rfl) c5 rfl ⟨_, List.getElem?_eq_getElem (by rw [hlen]; decide)⟩
    obtain ⟨y6, g6⟩ : ∃ y, DataW.trod enc Tryz.prog w 0 (fun _ => true) true n 3 [c6] = some y := fld (hf 6 _ rfl) (by kernel_rfl) c6 rfl ⟨_, List.getElem?_eq_getElem (by rw [hlen]; decide)⟩
    obtain ⟨y7, g7⟩ : ∃ y, DataW.trod enc Tryz.prog w 0 (fun _ => true) true n 3 [c7] = some y := fld (hf 7 _ rfl) (by kernel_rfl) c7 rfl ⟨_, List.getElem?_eq_getElem (by rw [hlen]; decide)⟩
    obtain ⟨y8, g8⟩ : ∃ y, DataW.trod enc Tryz.prog w 0 (fun _ => true) true n 27 [c8] = some y := fld (hf 8 _ rfl) (by kernel_rfl) c8 rfl ⟨_, List.getElem?_eq_getElem (by rw [hlen]; decide)⟩
    obtain ⟨k0, e0, _, _⟩ := DataW.trod_int Tryz.underlying37 g0
    obtain ⟨k1, e1, _, h1⟩ := DataW.trod_int Tryz.underlying38 g1
    obtain ⟨k2, e2, _, h2⟩ := DataW.trod_string Tryz.underlying9 g2
    obtain ⟨bs, hb⟩ := open_bts Tryz.underlying39 Tryz.underlying5 (by kernel_rfl) g3 5
    obtain ⟨k4, e4, _, _⟩ := DataW.trod_int Tryz.underlying38 g4
    obtain ⟨k5, e5, _, _⟩ := DataW.trod_int Tryz.underlying3 g5
    obtain ⟨k6, e6, _, _⟩ := DataW.trod_int Tryz.underlying3 g6
    obtain ⟨k7, e7, _, _⟩ := DataW.trod_int Tryz.underlying3 g7
    obtain ⟨k8, e8, _, _⟩ := DataW.trod_int Tryz.underlying27 g8
    injection e0 with e0 _
    injection e1 with e1 _
    injection e2 with e2 _
    injection e4 with e4 _
    injection e5 with e5 _
    injection e6 with e6 _
    injection e7 with e7 _
    injection e8 with e8 _
    subst e0 e1 e2 e4 e5 e6 e7 e8
    exact ⟨⟨k0, k1, k2, bs, k4, k5, k6, k7, k8⟩, c3, rfl, h2, hb, u64_wf h1⟩
theorem list_choose {α : Type} {p : Nat → α → Prop} : ∀ n, (∀ i, i < n → ∃ a, p i a) → ∃ l : List α, l.length = n ∧ ∀ i (h : i < l.length), p i l[i]
  | 0, _ => ⟨[], rfl, fun i h => by simp at h⟩
  | n + 1, h => by
    obtain ⟨l, hl, hp⟩ := list_choose n (fun i hi => h i (by omega))
    obtain ⟨a, ha⟩ := h n (by omega)
    refine ⟨l ++ [a], by simp [hl], fun i hi => ?_⟩
    rcases Nat.lt_or_ge i l.length with h1 | h1
    · rw [List.getElem_append_left h1]; exact hp i h1
    · have : i = l.length := by simp at hi; omega
      subst this
      rw [List.getElem_append_right (Nat.le_refl _)]
      simpa [hl] using ha
/-- A slice of operations that came in. -/
theorem open_ops {H : Type} {enc : TypeId × Value → H} {w : World} {v : Value} {d : DataW H} {p : List MemPlace} (hv : ∃ A l c, v = .slice A l c) (h : DataW.Trod enc Tryz.prog w 0 (fun _ => true) true 22 v d p) :
    ∃ ps : List (OpV × Value), OpsAt w w.heap.size v ps ∧ ∀ q ∈ ps, q.1.key.size ≤ maxLen := by
  obtain ⟨A, l, c, rfl⟩ := hv
  obtain ⟨fuel, hf⟩ := h
  have c9 : Tryz.prog.cellsOf 41 = 9 := by kernel_rfl
  rcases open_slice Tryz.underlying22 hf with ⟨hcs, _⟩ | ⟨a, len, cap, m, n, D, Pl, hcs, _, hl, hm, hmm, _, hi⟩
  · simp [Value.cells] at hcs
    obtain ⟨rfl, rfl, rfl⟩ := hcs
    exact ⟨[], OpsAt.nil _ _, by simp⟩
  · simp [Value.cells] at hcs
    obtain ⟨rfl, rfl, rfl⟩ := hcs
    simp only [if_true] at hmm
    rw [c9] at hi
    obtain ⟨ls, hlen, has⟩ := list_choose (p := fun i (x : OpV × Value) => (∀ j, j < 9 → w.cell? ((a.add (i * 9)).add j) = (opcs x.1 x.2)[j]?) ∧ x.1.key.size ≤ maxLen ∧ Bts w w.heap.size 5 x.2 x.1.val ∧ 0 ≤ x.1.ticks) l (fun i hil => by
      obtain ⟨cs', hc, ht⟩ := hi i (by omega)
      obtain ⟨_, hcl, hat⟩ := World.cells?_some hc
      obtain ⟨o, u, rfl, hx⟩ := open_op_cells hcl ht
      exact ⟨(o, u), hat, hx⟩)
    refine ⟨ls, ⟨⟨some a, c, by rw [hlen], by omega, hm, (fun h => by cases h), fun h0 => ?_⟩, fun x hx => ?_, fun x hx => ?_⟩, fun x hx => ?_⟩
    · have h1 := (has 0 h0).1 0 (by omega)
      rw [Nat.zero_mul] at h1
      have ha0 : a.add 0 = a := by simp [Addr.add]
      rw [ha0, ha0] at h1
      obtain ⟨b, off, spot⟩ := a
      have h1' : w.cell? ⟨b, off, spot⟩ = some (.int .i64 ls[0].1.kind) := h1
      have hs : spot = none := by
        cases spot with
        | none => rfl
        | some s =>
          unfold World.cell? at h1'
          split at h1'
          · simp at h1'
          · cases h1'
      subst hs
      refine ⟨b, off, rfl, block_lt_of_cell h1', fun i x hix j u hj => ?_⟩
      obtain ⟨hil, rfl⟩ := List.getElem?_eq_some_iff.1 hix
      have hj9 : j < 9 := by
        have := (List.getElem?_eq_some_iff.1 hj).1
        simpa [opcs] using this
      have := (has i hil).1 j hj9
      rw [add_plain, add_plain, hj] at this
      rw [← Nat.add_assoc]; exact this
    · obtain ⟨i, hi, rfl⟩ := List.getElem_of_mem hx
      exact (has i hi).2.2.1
    · obtain ⟨i, hi, rfl⟩ := List.getElem_of_mem hx
      exact (has i hi).2.2.2
    · obtain ⟨i, hi, rfl⟩ := List.getElem_of_mem hx
      exact (has i hi).2.1
end Go.Proofs.YtbcigelgggimmaaGreatDoor
