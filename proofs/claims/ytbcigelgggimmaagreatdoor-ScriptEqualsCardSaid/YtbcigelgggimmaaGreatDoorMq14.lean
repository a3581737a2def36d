/- Gl0, Gl, EqG, ArgsC, ArgsS, ArgsR -/
import Derived.Test.YtbcigelgggimmaaGreatDoorMq7
import Derived.Test.YtbcigelgggimmaaGreatDoorMq12
import Derived.Test.YtbcigelgggimmaaGreatDoorRows
import Derived.ProofKit
import Derived.LaidMore
import Derived.OpenShut
import Derived.Stop.Joined
import Derived.Test.YtbcigelgggimmaaGreatDoorMq13
import Derived.Lib.SmallJoins
import Derived.ChangeSlices
import Derived.Test.YtbcigelgggimmaaGreatDoorMq9
import Derived.Deep.Slices
namespace Go.Proofs.YtbcigelgggimmaaGreatDoor
open Go Go.RowKit Go.ChangeShapes Go.WideShapes Go.ChangeAt Go.WideMaps Go.WideElems Go.Sy
theorem laid_at {P : Program} {w : World} : ∀ {laid : List (String × DataW Unit)} {ps : List MemPlace}, DataW.LaidVars P w laid ps → ∀ {n : String} {d : DataW Unit}, (n, d) ∈ laid →
    ∃ g t cs fuel p, P.globalNamed n = some g ∧ (P.globals[g]?).map (·.type) = some t ∧ w.var? P n = some cs ∧ DataW.trod (fun _ => ()) P w 0 (fun _ => true) false fuel t cs.toList = some (d, p) ∧ ∀ x ∈ MemPlace.row ⟨g, 0, none⟩ cs.size, x ∈ ps
  | [], ps, h, n, d, hm => by cases hm
  | (n', d') :: r, ps, h, n, d, hm => by
    obtain ⟨g, t, cs, fuel, p, q, h1, h2, h3, h4, h5, rfl⟩ := h
    rcases List.mem_cons.1 hm with e | hm
    · injection e with e1 e2
      subst e1 e2
      exact ⟨g, t, cs, fuel, p, h1, h2, h3, h4, fun x hx => by simp [hx]⟩
    · obtain ⟨g', t', cs', f', p', k1, k2, k3, k4, k5⟩ := laid_at h5 hm
      exact ⟨g', t', cs', f', p', k1, k2, k3, k4, fun x hx => by simp [k5 x hx]⟩
theorem take1_at {α : Type} {l : List α} {i : Nat} {c : α} (h : (l.drop i).take 1 = [c]) : l[i]? = some c := by
  have h1 : ((l.drop i).take 1)[0]? = some c := by rw [h]; rfl
  rw [List.getElem?_take_of_lt (by omega), List.getElem?_drop, Nat.add_zero] at h1
  exact h1
/-- A variable that is an array of integers: its block. -/
theorem blk_of_laid {P : Program} {w : World} {laid : List (String × DataW Unit)} (h : laidMet P laid w) {name : String} {d : DataW Unit} (hm : (name, d) ∈ laid) {g n : Nat} {t e : TypeId} {k : IntKind}
    (hg : P.globalNamed name = some g) (hgt : (P.globals[g]?).map (·.type) = some t) (ht : P.underlying t = some (.array n e)) (he : P.underlying e = some (.int k)) (hc : P.cellsOf e = 1) (hct : P.cellsOf t = n)
    (l : List Nat) (hl : l.length = n) (hn : 0 < n) (hd : d = .agg (l.map fun x => .lit (.int k (.ofNat x)))) : ∃ t', w.heap[g]? = some (.cells ⟨l.map fun x => .int k (.ofNat x)⟩ t' (0, 0)) := by
  obtain ⟨ps, hps, _, hfz⟩ := h
  obtain ⟨g', t', cs, fuel, p, h1, h2, h3, h4, h5⟩ := laid_at hps hm
  obtain rfl : g = g' := Option.some.inj (hg.symm.trans h1)
  obtain rfl : t = t' := Option.some.inj (hgt.symm.trans h2)
  obtain ⟨xs, m, _, hx1, hlen, hxn, hel⟩ := DataW.trod_array ht h4
  simp only [Prod.mk.injEq] at hx1
  have hsz : cs.size = n := by rw [← hct, ← hlen]; simp
  have hcs : cs = ⟨l.map fun x => .int k (.ofNat x)⟩ := by
    apply Array.ext_getElem?
    intro i
    by_cases hi : i < n
    · have hc' := hel i hi
      rw [hc, Nat.mul_one, List.getElem?_eq_getElem (by omega)] at hc'
      obtain ⟨q, e1, e2, _⟩ := DataW.trod_int he hc'
      have h6 : (xs.map (·.1))[i]? = some (.lit (.int k (.ofNat (l[i]'(by omega))))) := by
        have := hx1.1
        rw [hd] at this
        injection this with this
        rw [← this, List.getElem?_map, List.getElem?_eq_getElem (by omega)]; rfl
      rw [List.getElem?_map, List.getElem?_eq_getElem (by omega), e2] at h6
      simp only [Option.map_some, Option.some.injEq, DataW.lit.injEq, Lit.int.injEq, true_and] at h6
      have h7 := take1_at e1
      rw [Array.getElem?_toList] at h7
      rw [h7, h6, List.getElem?_toArray, List.getElem?_map, List.getElem?_eq_getElem (by omega)]; rfl
    · rw [Array.getElem?_eq_none (by omega), Array.getElem?_eq_none (by simp; omega)]
  obtain ⟨⟨c, t2, hb⟩, _⟩ := hfz g 0 (h5 _ (by
    simp only [MemPlace.row, List.mem_map, List.mem_range]
    exact ⟨0, by omega, rfl⟩))
  refine ⟨t2, ?_⟩
  simp only [World.var?, hg, Option.bind_some, hb] at h3
  injection h3 with h3
  rw [hb, h3, hcs]
theorem b_conc (b : Bool) (s : Sg) : (AV.b b).conc s = some (.bool b) := by simp only [AV.conc]
theorem follows : Tryz.prog.follows .mixedOrders = true := by kernel_rfl
end Go.Proofs.YtbcigelgggimmaaGreatDoor
namespace Go.Proofs.YtbcigelgggimmaaGreatDoor
open Go Go.RowKit Go.ChangeShapes Go.WideShapes Go.ChangeAt Go.WideMaps Go.WideElems Go.Sy
abbrev laid26 : List (String × DataW Unit) := [("math/bits.deBruijn64tab", Rows.laid_math_bits_deBruijn64tab), ("cubbyhole/script.kinds", Rows.laid_cubbyhole_script_kinds)]
/-- The two variables lie in their blocks. -/
def GL (w : World) : Prop := ∃ t0 t1, w.heap[0]? = some (.cells ⟨kindsN.map fun x => .int .i64 (.ofNat x)⟩ t0 (0, 0)) ∧ w.heap[1]? = some (.cells ⟨bruijnN.map fun x => .int .u8 (.ofNat x)⟩ t1 (0, 0))
theorem gl_of_laid {W : World} (h : laidMetH Tryz.prog laid26 W) : GL W := by
  rw [MakeChecks.laidMetH_plain _ _ _ (by kernel_rfl)] at h
  obtain ⟨t0, h0⟩ := blk_of_laid h (name := "cubbyhole/script.kinds") (d := Rows.laid_cubbyhole_script_kinds) (by simp) (g := 0) (n := 16) (t := 108) (e := 3) (k := .i64) (by kernel_rfl) (by kernel_rfl) (by kernel_rfl) (by kernel_rfl) (by kernel_rfl) (by kernel_rfl) kindsN rfl (by decide) rfl
  obtain ⟨t1, h1⟩ := blk_of_laid h (name := "math/bits.deBruijn64tab") (d := Rows.laid_math_bits_deBruijn64tab) (by simp) (g := 1) (n := 64) (t := 442) (e := 5) (k := .u8) (by kernel_rfl) (by kernel_rfl) (by kernel_rfl) (by kernel_rfl) (by kernel_rfl) (by kernel_rfl) bruijnN rfl (by decide) rfl
  exact ⟨t0, t1, h0, h1⟩
theorem GL.below {w w' : World} {B : Nat} (h : GL w) (hb : Below B w w') (hB : 2 ≤ B) : GL w' := by
  obtain ⟨t0, t1, h0, h1⟩ := h
  exact ⟨t0, t1, (hb.block 0 (by omega)).trans h0, (hb.block 1 (by omega)).trans h1⟩
theorem GL.lt {w : World} (h : GL w) : 2 ≤ w.heap.size := by
  obtain ⟨t0, t1, h0, h1⟩ := h
  exact (Array.getElem?_eq_some_iff.1 h1).1
set_option maxRecDepth 100000 in
theorem known_any (w : World) (h : GL w) : Calls Tryz.prog 8 #[] w fun e w' => e = .returned (.bool true) ∧ Below w.heap.size w w' := by
  obtain ⟨t0, t1, h0, h1⟩ := h
  have hk : runP Tryz.prog orcL 100000 8 [] (.b true) (gs26 t0 t1) 0 := Eq.mpr (known_eval t0 t1) ⟨rfl, rfl, rfl, trivial⟩
  have hr : RowsAt w (gs26 t0 t1) [] := by
    refine rowsAt_globals (fun g hg => ?_) (fun g hg => ?_) <;> simp only [gs26, List.mem_cons, List.not_mem_nil, or_false] at hg
    · rcases hg with rfl | rfl <;> exact gInts_good _ _ _
    · rcases hg with rfl | rfl
      · exact ⟨(by decide : 0 < 64), h0⟩
      · exact ⟨(by decide : 1 < 64), h1⟩
  exact run_args follows orcL_ok hr (concL_nil.2 rfl) (b_conc true) hk
end Go.Proofs.YtbcigelgggimmaaGreatDoor
namespace Go.Proofs.YtbcigelgggimmaaGreatDoor
open Go Go.RowKit Go.Sy
/-- What a round reads. -/
structure EgI (w W : World) (va vb : Value) (ps qs : List RQ) : Prop where
  d : DfI w W w.heap.size w.heap.size va vb ps qs
  g : GL W
theorem EgI.adv {w W W2 : World} {va vb : Value} {ps qs : List RQ} (h : EgI w W va vb ps qs) (hb : Below W.heap.size W W2) : EgI w W2 va vb ps qs :=
  ⟨h.d.adv hb, h.g.below hb h.g.lt⟩
theorem row_op {W : World} {p : Addr} {r : ResV} {V1 V2 V3 V4 : Value} (h : ∀ j u, (resc r V1 V2 V3 V4).toList[j]? = some u → W.cell? (p.add j) = some u) : ∀ j u, (opc r.op V1).toList[j]? = some u → W.cell? (p.add j) = some u := fun j u hu => by
  refine h j u ?_
  have hj := (List.getElem?_eq_some_iff.1 hu).1
  have hj9 : j < 9 := hj
  rw [← hu]
  rcases (by omega : j = 0 ∨ j = 1 ∨ j = 2 ∨ j = 3 ∨ j = 4 ∨ j = 5 ∨ j = 6 ∨ j = 7 ∨ j = 8) with rfl | rfl | rfl | rfl | rfl | rfl | rfl | rfl | rfl <;> rfl
set_option maxRecDepth 100000 in
set_option maxHeartbeats 8000000 in
theorem equals_walk (va : Value) (ps : List RQ) (vb : Value) (qs : List RQ) (w : World) (ha : RsAt w w.heap.size va ps) (hb : RsAt w w.heap.size vb qs) (hg : GL w) :
    Calls Tryz.prog 6 #[va, vb] w fun e w' => e = .returned (.bool true) ∧ Below w.heap.size w w' := by
  obtain ⟨A, ca, rfl, hca, hma⟩ := ha.cap
  obtain ⟨C, cb, rfl, hcb, hmb⟩ := hb.cap
  unfold maxLen at hma hmb
  have hnI : (ps.length : Int) ≤ 9223372036854775807 := by omega
  have hnc : (ps.length : Int) ≤ (ca : Int) := by omega
  have hmI : (qs.length : Int) ≤ 9223372036854775807 := by omega
  have hmc : (qs.length : Int) ≤ (cb : Int) := by omega
  obtain ⟨n, hn⟩ : ∃ n, ps.length = n := ⟨_, rfl⟩
  obtain ⟨m, hm⟩ : ∃ m, qs.length = m := ⟨_, rfl⟩
  have HI := Lib.hid (⟨⟨ha, hb, Below.refl _ _⟩, hg⟩ : EgI w w (.slice A ps.length ca) (.slice C qs.length cb) ps qs)
  rw [hn] at HI hnI hnc ⊢
  rw [hm] at HI hmI hmc ⊢
  have HN := Lib.hid hn
  have HM := Lib.hid hm
  clear ha hb hca hcb hma hmb hn hm hg
  go_enter Tryz.func6, Tryz.ntmps6
  go_wp2_with fail
  refine (light_any w.heap.size _ ps w HI.out.d.a).mono ?_
  rintro e w1 ⟨b1, rfl, hb1⟩
  have HI1 := Lib.hid (HI.out.adv hb1)
  have HB1 := Lib.hid HI1.out.d.below
  have HG1 := Lib.hid HI1.out.g
  clear hb1 HI
  cases b1 with
  | false =>
    go_wp2_with fail
    refine (known_any _ (HG1).out).mono ?_
    rintro e w9 ⟨rfl, hb9⟩
    have HB9 := Lib.hid ((HB1).out.trans (hb9.mono (HB1).out.size))
    clear hb9
    go_wp2_with fail
    go_ret
    exact ⟨rfl, HB9.out⟩
  | true =>
    go_wp2_with fail
    refine (light_any w.heap.size _ qs w1 HI1.out.d.b).mono ?_
    rintro e w2 ⟨b2, rfl, hb2⟩
    have HI2 := Lib.hid (HI1.out.adv hb2)
    have HB2 := Lib.hid HI2.out.d.below
    have HG2 := Lib.hid HI2.out.g
    clear hb2 HI1 HB1 HG1
    cases b2 with
    | false =>
      go_wp2_with fail
      refine (known_any _ (HG2).out).mono ?_
      rintro e w9 ⟨rfl, hb9⟩
      have HB9 := Lib.hid ((HB2).out.trans (hb9.mono (HB2).out.size))
      clear hb9
      go_wp2_with fail
      go_ret
      exact ⟨rfl, HB9.out⟩
    | true =>
      go_wp2_with fail
      go_loopw [5] (fun i wr => ∃ k : Nat, k ≤ n ∧ k ≤ m ∧ i = .int .i64 k ∧ EgI w wr (.slice A n ca) (.slice C m cb) ps qs) (fun i _ => n + m - (intOf i).toNat)
      case atStart => exact ⟨0, by omega, by omega, rfl, HI2.out⟩
      case round =>
        obtain ⟨k, hkn', hkm', rfl, hI⟩ := hrel
        have HIk := Lib.hid hI
        clear hI HI2 HB2 HG2
        by_cases hkn : k < n ∧ k < m
        · obtain ⟨hkn, hkm⟩ := hkn
          obtain ⟨x, hx⟩ : ∃ p, ps[k]? = some p := ⟨_, List.getElem?_eq_getElem (by rw [HN.out]; exact hkn)⟩
          obtain ⟨y, hy⟩ : ∃ p, qs[k]? = some p := ⟨_, List.getElem?_eq_getElem (by rw [HM.out]; exact hkm)⟩
          obtain ⟨ga, oa, rfl, -⟩ := HIk.out.d.a.at_ hx
          obtain ⟨gb, ob, rfl, -⟩ := HIk.out.d.b.at_ hy
          have HX := Lib.hid hx
          have HY := Lib.hid hy
          have hVa := fun W (hW : EgI w W (.slice (some ⟨ga, oa, none⟩) n ca) (.slice (some ⟨gb, ob, none⟩) m cb) ps qs) => hW.d.a.vals _ (List.mem_of_getElem? HX.out)
          have hVb := fun W (hW : EgI w W (.slice (some ⟨ga, oa, none⟩) n ca) (.slice (some ⟨gb, ob, none⟩) m cb) ps qs) => hW.d.b.vals _ (List.mem_of_getElem? HY.out)
          obtain ⟨q, hq⟩ : ∃ q, eqR x.r y.r = q := ⟨_, rfl⟩
          obtain ⟨q2, hq2⟩ : ∃ q, decide (eqO x.r.op y.r.op) = q := ⟨_, rfl⟩
          have HC1 := Lib.hid (fun W hW => hq ▸ same_any w.heap.size w.heap.size x y W (hVa W hW) (hVb W hW))
          have HC2 := Lib.hid (fun W hW => hq ▸ refSame_any w.heap.size w.heap.size x y W (hVa W hW) (hVb W hW))
          have HC3 := Lib.hid (fun W hW => hq2 ▸ equal_any w.heap.size w.heap.size x.r.op y.r.op x.v1 y.v1 W (hVa W hW).a1 (hVb W hW).a1)
          have HC4 := Lib.hid (fun W hW => hq2 ▸ refEqual_any w.heap.size w.heap.size x.r.op y.r.op x.v1 y.v1 W (hVa W hW).a1 (hVb W hW).a1)
          have HC5 := Lib.hid (fun W hW => eqR_refl x.r ▸ same_any w.heap.size w.heap.size x x W (hVa W hW) (hVa W hW))
          have hkI : (k : Int) < (n : Int) := by omega
          have hkI2 : (k : Int) < (m : Int) := by omega
          have hk0 : (0 : Int) ≤ (k : Int) := by omega
          have g1 : (q != q) = false := by cases q <;> rfl
          have g2 : (q2 != q2) = false := by cases q2 <;> rfl
          clear hx hy hq hq2 hVa hVb
          go_upto_region 6 with fail
          refine wp_region_noPanic ?_
          refine wp_region_held_drew (S := fun W => EgI w W (.slice (some ⟨ga, oa, none⟩) n ca) (.slice (some ⟨gb, ob, none⟩) m cb) ps qs) (by kernel_rfl) (HIk.out.adv (Below.refl _ _).drew) (fun hHeld => ?_)
          refine Pl.go [0, 1, 2] ?_
          iterate 3
            refine tkl (v := ?_) ?_ ?_
            rotate_left 1
            · intro W hSw
              skip
              clear hSw
              go_simp
              try with_reducible rfl
            try dsimp only [zS, zB, zC]
          refine Pl.stop ?_
          refine tk 3 (v := resv x.r x.v1 x.v2 x.v3 x.v4) (fun W hSw => run_load_rows 46 _ rfl ⟨ga, oa + k * 21, none⟩ rfl (resc x.r x.v1 x.v2 x.v3 x.v4) _ (hSw.d.a.row HX.out) Tryz.underlying46 rfl (by kernel_rfl)) ?_
          try dsimp only [zS, zB, zC]
          refine Pl.go [4, 5, 6] ?_
          iterate 3
            refine tkl (v := ?_) ?_ ?_
            rotate_left 1
            · intro W hSw
              skip
              clear hSw
              go_simp
              try with_reducible rfl
            try dsimp only [zS, zB, zC]
          refine Pl.stop ?_
          refine tk 7 (v := resv y.r y.v1 y.v2 y.v3 y.v4) (fun W hSw => run_load_rows 46 _ rfl ⟨gb, ob + k * 21, none⟩ rfl (resc y.r y.v1 y.v2 y.v3 y.v4) _ (hSw.d.b.row HY.out) Tryz.underlying46 rfl (by kernel_rfl)) ?_
          try dsimp only [zS, zB, zC]
          refine Pl.go [9, 10, 11] ?_
          iterate 3
            refine tkl (v := ?_) ?_ ?_
            rotate_left 1
            · intro W hSw
              skip
              clear hSw
              go_simp
              try with_reducible rfl
            try dsimp only [zS, zB, zC]
          refine Pl.stop ?_
          refine tk 12 (v := resv x.r x.v1 x.v2 x.v3 x.v4) (fun W hSw => run_load_rows 46 _ rfl ⟨ga, oa + k * 21, none⟩ rfl (resc x.r x.v1 x.v2 x.v3 x.v4) _ (hSw.d.a.row HX.out) Tryz.underlying46 rfl (by kernel_rfl)) ?_
          try dsimp only [zS, zB, zC]
          refine Pl.go [13, 14, 15] ?_
          iterate 3
            refine tkl (v := ?_) ?_ ?_
            rotate_left 1
            · intro W hSw
              skip
              clear hSw
              go_simp
              try with_reducible rfl
            try dsimp only [zS, zB, zC]
          refine Pl.stop ?_
          refine tk 16 (v := resv y.r y.v1 y.v2 y.v3 y.v4) (fun W hSw => run_load_rows 46 _ rfl ⟨gb, ob + k * 21, none⟩ rfl (resc y.r y.v1 y.v2 y.v3 y.v4) _ (hSw.d.b.row HY.out) Tryz.underlying46 rfl (by kernel_rfl)) ?_
          try dsimp only [zS, zB, zC]
          have HCw := Lib.hid (HC1.out _ hHeld)
          have HH := Lib.hid hHeld
          refine wpAnyH_ready (rs := [8]) (by kernel_rfl) (by simp) ?_
          refine AllReadyH.cons (o := ⟨_, _, _, _, _, _⟩) rfl (fun F hF => ?_) AllReadyH.nil
          go_simp
          refine HCw.out.mono ?_
          rintro e w4 ⟨rfl, hb4⟩
          have HI4 := Lib.hid (HH.out.adv hb4)
          clear hHeld HH HCw hb4
          go_wp2_with fail
          refine hF.out _ _ HI4.out (fun hHeld => ?_)
          clear hF F HI4
          try simp only [Act.put, zA, zB, zC]
          have HCw := Lib.hid (HC2.out _ hHeld)
          have HH := Lib.hid hHeld
          refine wpAnyH_ready (rs := [17]) (by kernel_rfl) (by simp) ?_
          refine AllReadyH.cons (o := ⟨_, _, _, _, _, _⟩) rfl (fun F hF => ?_) AllReadyH.nil
          go_simp
          refine HCw.out.mono ?_
          rintro e w4 ⟨rfl, hb4⟩
          have HI4 := Lib.hid (HH.out.adv hb4)
          clear hHeld HH HCw hb4
          go_wp2_with fail
          refine hF.out _ _ HI4.out (fun hHeld => ?_)
          clear hF F HI4
          try simp only [Act.put, zA, zB, zC]
          refine Pl.go [18, 19, 20, 21, 22, 23] ?_
          iterate 6
            refine tkl (v := ?_) ?_ ?_
            rotate_left 1
            · intro W hSw
              skip
              clear hSw
              go_simp
              try with_reducible rfl
            try dsimp only [zS, zB, zC]
          refine Pl.stop ?_
          refine tk 24 (v := opv x.r.op x.v1) (fun W hSw => run_load_rows 41 _ rfl ⟨ga, oa + k * 21, none⟩ rfl (opc x.r.op x.v1) _ (row_op (hSw.d.a.row HX.out)) Tryz.underlying41 rfl (by kernel_rfl)) ?_
          try dsimp only [zS, zB, zC]
          refine Pl.go [25, 26, 27, 28] ?_
          iterate 4
            refine tkl (v := ?_) ?_ ?_
            rotate_left 1
            · intro W hSw
              skip
              clear hSw
              go_simp
              try with_reducible rfl
            try dsimp only [zS, zB, zC]
          refine Pl.stop ?_
          refine tk 29 (v := opv y.r.op y.v1) (fun W hSw => run_load_rows 41 _ rfl ⟨gb, ob + k * 21, none⟩ rfl (opc y.r.op y.v1) _ (row_op (hSw.d.b.row HY.out)) Tryz.underlying41 rfl (by kernel_rfl)) ?_
          try dsimp only [zS, zB, zC]
          refine Pl.go [31, 32, 33, 34] ?_
          iterate 4
            refine tkl (v := ?_) ?_ ?_
            rotate_left 1
            · intro W hSw
              skip
              clear hSw
              go_simp
              try with_reducible rfl
            try dsimp only [zS, zB, zC]
          refine Pl.stop ?_
          refine tk 35 (v := opv x.r.op x.v1) (fun W hSw => run_load_rows 41 _ rfl ⟨ga, oa + k * 21, none⟩ rfl (opc x.r.op x.v1) _ (row_op (hSw.d.a.row HX.out)) Tryz.underlying41 rfl (by kernel_rfl)) ?_
          try dsimp only [zS, zB, zC]
          refine Pl.go [36, 37, 38, 39] ?_
          iterate 4
            refine tkl (v := ?_) ?_ ?_
            rotate_left 1
            · intro W hSw
              skip
              clear hSw
              go_simp
              try with_reducible rfl
            try dsimp only [zS, zB, zC]
          refine Pl.stop ?_
          refine tk 40 (v := opv y.r.op y.v1) (fun W hSw => run_load_rows 41 _ rfl ⟨gb, ob + k * 21, none⟩ rfl (opc y.r.op y.v1) _ (row_op (hSw.d.b.row HY.out)) Tryz.underlying41 rfl (by kernel_rfl)) ?_
          try dsimp only [zS, zB, zC]
          have HCw := Lib.hid (HC3.out _ hHeld)
          have HH := Lib.hid hHeld
          refine wpAnyH_ready (rs := [30]) (by kernel_rfl) (by simp) ?_
          refine AllReadyH.cons (o := ⟨_, _, _, _, _, _⟩) rfl (fun F hF => ?_) AllReadyH.nil
          go_simp
          refine HCw.out.mono ?_
          rintro e w4 ⟨rfl, hb4⟩
          have HI4 := Lib.hid (HH.out.adv hb4)
          clear hHeld HH HCw hb4
          go_wp2_with fail
          refine hF.out _ _ HI4.out (fun hHeld => ?_)
          clear hF F HI4
          try simp only [Act.put, zA, zB, zC]
          have HCw := Lib.hid (HC4.out _ hHeld)
          have HH := Lib.hid hHeld
          refine wpAnyH_ready (rs := [41]) (by kernel_rfl) (by simp) ?_
          refine AllReadyH.cons (o := ⟨_, _, _, _, _, _⟩) rfl (fun F hF => ?_) AllReadyH.nil
          go_simp
          refine HCw.out.mono ?_
          rintro e w4 ⟨rfl, hb4⟩
          have HI4 := Lib.hid (HH.out.adv hb4)
          clear hHeld HH HCw hb4
          go_wp2_with fail
          refine hF.out _ _ HI4.out (fun hHeld => ?_)
          clear hF F HI4
          try simp only [Act.put, zA, zB, zC]
          refine Pl.go [42, 43, 44, 45, 46, 47] ?_
          iterate 6
            refine tkl (v := ?_) ?_ ?_
            rotate_left 1
            · intro W hSw
              skip
              clear hSw
              go_simp
              try with_reducible rfl
            try dsimp only [zS, zB, zC]
          refine Pl.stop ?_
          refine tk 48 (v := resv x.r x.v1 x.v2 x.v3 x.v4) (fun W hSw => run_load_rows 46 _ rfl ⟨ga, oa + k * 21, none⟩ rfl (resc x.r x.v1 x.v2 x.v3 x.v4) _ (hSw.d.a.row HX.out) Tryz.underlying46 rfl (by kernel_rfl)) ?_
          try dsimp only [zS, zB, zC]
          refine Pl.go [49, 50, 51] ?_
          iterate 3
            refine tkl (v := ?_) ?_ ?_
            rotate_left 1
            · intro W hSw
              skip
              clear hSw
              go_simp
              try with_reducible rfl
            try dsimp only [zS, zB, zC]
          refine Pl.stop ?_
          refine tk 52 (v := resv x.r x.v1 x.v2 x.v3 x.v4) (fun W hSw => run_load_rows 46 _ rfl ⟨ga, oa + k * 21, none⟩ rfl (resc x.r x.v1 x.v2 x.v3 x.v4) _ (hSw.d.a.row HX.out) Tryz.underlying46 rfl (by kernel_rfl)) ?_
          try dsimp only [zS, zB, zC]
          have HCw := Lib.hid (HC5.out _ hHeld)
          have HH := Lib.hid hHeld
          refine wpAnyH_ready (rs := [53]) (by kernel_rfl) (by simp) ?_
          refine AllReadyH.cons (o := ⟨_, _, _, _, _, _⟩) rfl (fun F hF => ?_) AllReadyH.nil
          go_simp
          refine HCw.out.mono ?_
          rintro e w4 ⟨rfl, hb4⟩
          have HI4 := Lib.hid (HH.out.adv hb4)
          clear hHeld HH HCw hb4
          go_wp2_with fail
          refine hF.out _ _ HI4.out (fun hHeld => ?_)
          clear hF F HI4
          try simp only [Act.put, zA, zB, zC]
          refine Pl.go [54, 55] ?_
          iterate 2
            refine tkl (v := ?_) ?_ ?_
            rotate_left 1
            · intro W hSw
              skip
              clear hSw
              go_simp
              try with_reducible rfl
            try dsimp only [zS, zB, zC]
          refine Pl.stop ?_
          refine wpAnyH_done (by kernel_rfl) ?_ _
          refine NoPanic.normal ?_
          have HI5 := Lib.hid hHeld
          clear hHeld HC1 HC2 HC3 HC4 HC5
          go_wp2_with fail
          go_roundw
          case rel => exact ⟨k + 1, by omega, by omega, by go_num, HI5.out⟩
          case measure => simp [intOf]; omega
        · have HIw := HIk.out
          obtain ⟨W0, hW0⟩ : ∃ W0, W0 = wr := ⟨_, rfl⟩
          subst hW0
          have h12 : ¬ (k : Int) < (n : Int) ∨ ((k : Int) < (n : Int) ∧ ¬ (k : Int) < (m : Int)) := by omega
          have HD1 := Lib.hid (fun W (hW : EgI w W (.slice A n ca) (.slice C m cb) ps qs) => differ_any w.heap.size w.heap.size _ _ ps qs W hW.d.a hW.d.b)
          have HD2 := Lib.hid (fun W (hW : EgI w W (.slice A n ca) (.slice C m cb) ps qs) => refDiffer_any w.heap.size w.heap.size _ _ ps qs W hW.d.a hW.d.b)
          have HD3 := Lib.hid (fun W (hW : EgI w W (.slice A n ca) (.slice C m cb) ps qs) => differ_any w.heap.size w.heap.size _ _ qs ps W hW.d.b hW.d.a)
          have HD4 := Lib.hid (fun W (hW : EgI w W (.slice A n ca) (.slice C m cb) ps qs) => differ_any w.heap.size w.heap.size _ _ ps ps W hW.d.a hW.d.a)
          clear HIw hkn
          rcases h12 with h1 | ⟨h1, h2⟩
          · skip
            go_wp2_with fail
            refine (HD1.out _ HIk.out).mono ?_
            rintro e w3 ⟨r1, rfl, hr1, hb3⟩
            have HI3 := Lib.hid (HIk.out.adv hb3)
            have HR1 := Lib.hid hr1
            clear hb3 hr1
            go_wp2_with fail
            refine (HD2.out _ HI3.out).mono ?_
            rintro e w4 ⟨r2, rfl, hr2, hb4⟩
            have HI4 := Lib.hid (HI3.out.adv hb4)
            obtain rfl : r1 = r2 := HR1.out.unique hr2
            clear hb4 hr2
            go_wp2_with fail
            refine (HD3.out _ HI4.out).mono ?_
            rintro e w5 ⟨r3, rfl, hr3, hb5⟩
            have HI5 := Lib.hid (HI4.out.adv hb5)
            obtain rfl : r1 = r3 := HR1.out.unique hr3.symm
            clear hb5 hr3
            go_wp2_with fail
            refine (HD2.out _ HI5.out).mono ?_
            rintro e w6 ⟨r4, rfl, hr4, hb6⟩
            have HI6 := Lib.hid (HI5.out.adv hb6)
            obtain rfl : r1 = r4 := HR1.out.unique hr4
            clear hb6 hr4
            go_wp2_with fail
            refine (HD4.out _ HI6.out).mono ?_
            rintro e w7 ⟨r5, rfl, hr5, hb7⟩
            have HI7 := Lib.hid (HI6.out.adv hb7)
            obtain rfl : r5 = -1 := hr5.unique (DifIs.self ps)
            have HG7 := Lib.hid HI7.out.g
            have HB7 := Lib.hid HI7.out.d.below
            clear hb7 hr5
            go_wp2_with fail
            refine (known_any _ (HG7).out).mono ?_
            rintro e w9 ⟨rfl, hb9⟩
            have HB9 := Lib.hid ((HB7).out.trans (hb9.mono (HB7).out.size))
            clear hb9
            go_wp2_with fail
            go_ret
            exact ⟨rfl, HB9.out⟩
          · skip
            go_wp2_with fail
            refine (HD1.out _ HIk.out).mono ?_
            rintro e w3 ⟨r1, rfl, hr1, hb3⟩
            have HI3 := Lib.hid (HIk.out.adv hb3)
            have HR1 := Lib.hid hr1
            clear hb3 hr1
            go_wp2_with fail
            refine (HD2.out _ HI3.out).mono ?_
            rintro e w4 ⟨r2, rfl, hr2, hb4⟩
            have HI4 := Lib.hid (HI3.out.adv hb4)
            obtain rfl : r1 = r2 := HR1.out.unique hr2
            clear hb4 hr2
            go_wp2_with fail
            refine (HD3.out _ HI4.out).mono ?_
            rintro e w5 ⟨r3, rfl, hr3, hb5⟩
            have HI5 := Lib.hid (HI4.out.adv hb5)
            obtain rfl : r1 = r3 := HR1.out.unique hr3.symm
            clear hb5 hr3
            go_wp2_with fail
            refine (HD2.out _ HI5.out).mono ?_
            rintro e w6 ⟨r4, rfl, hr4, hb6⟩
            have HI6 := Lib.hid (HI5.out.adv hb6)
            obtain rfl : r1 = r4 := HR1.out.unique hr4
            clear hb6 hr4
            go_wp2_with fail
            refine (HD4.out _ HI6.out).mono ?_
            rintro e w7 ⟨r5, rfl, hr5, hb7⟩
            have HI7 := Lib.hid (HI6.out.adv hb7)
            obtain rfl : r5 = -1 := hr5.unique (DifIs.self ps)
            have HG7 := Lib.hid HI7.out.g
            have HB7 := Lib.hid HI7.out.d.below
            clear hb7 hr5
            go_wp2_with fail
            refine (known_any _ (HG7).out).mono ?_
            rintro e w9 ⟨rfl, hb9⟩
            have HB9 := Lib.hid ((HB7).out.trans (hb9.mono (HB7).out.size))
            clear hb9
            go_wp2_with fail
            go_ret
            exact ⟨rfl, HB9.out⟩
end Go.Proofs.YtbcigelgggimmaaGreatDoor
namespace Go.Proofs.YtbcigelgggimmaaGreatDoor
open Go Go.RowKit Go.Joins Go.ChangeShapes Go.WideShapes
theorem u8_wf {z : Int} (h : (Lit.int .u8 z).wf = true) : 0 ≤ z ∧ z ≤ 255 := by
  have h1 : IntKind.u8.min = 0 := rfl
  have h2 : IntKind.u8.max = 255 := rfl
  simp [Lit.wf, h1, h2] at h
  omega
/-- Bytes that came in read as a slice of bytes. -/
theorem open_bts {H : Type} {enc : TypeId × Value → H} {P : Program} {w : World} {fuel : Nat} {t e : TypeId} {v : Value} {y : DataW H × List MemPlace} (ht : P.underlying t = some (.slice e)) (he : P.underlying e = some (.int .u8)) (hc : P.cellsOf e = 1)
    (h : DataW.trod enc P w 0 (fun _ => true) true fuel t [v] = some y) (U : Nat) : ∃ bs : List UInt8, Bts w w.heap.size U v bs := by
  rcases open_ints ht he hc h with ⟨hcs, _⟩ | ⟨a, len, cap, zs, hcs, _, hl, hm, hz, _, hcell, hwf⟩
  · injection hcs with hcs _
    subst hcs
    exact ⟨[], Bts.nil _ _ _⟩
  · injection hcs with hcs _
    subst hcs
    simp only [if_true] at hz
    refine ⟨(zs.take len).map (fun z => UInt8.ofNat z.toNat), some a, cap, ?_, ?_, hm, (fun h => by cases h), fun h0 => ?_⟩
    · simp; omega
    · simp; omega
    · simp at h0
      have hc0 := hcell 0 (by omega)
      have ha0 : a.add 0 = a := by simp [Addr.add]
      rw [ha0] at hc0
      obtain ⟨b, off, spot⟩ := a
      have hs : spot = none := by
        cases spot with
        | none => rfl
        | some s =>
          unfold World.cell? at hc0
          split at hc0
          · simp at hc0
          · cases hc0
      subst hs
      have hb := block_lt_of_cell hc0
      refine ⟨b, off, rfl, hb, .inl hb, fun i hi => ?_⟩
      simp at hi
      have hci := hcell i (by omega)
      rw [add_plain] at hci
      rw [hci]
      have hiz : i < zs.length := by omega
      have e1 : zs.getD i 0 = zs[i] := by rw [List.getD_eq_getElem?_getD, List.getElem?_eq_getElem hiz]; rfl
      have hwz := u8_wf (hwf (zs.getD i 0) (by rw [e1]; exact List.getElem_mem _))
      rw [e1] at hwz ⊢
      have e2 : (UInt8.ofNat (zs[i]).toNat).toNat = (zs[i]).toNat := by
        rw [UInt8.toNat_ofNat']
        omega
      simp only [List.getElem_map, List.getElem_take]
      rw [e2, Int.toNat_of_nonneg hwz.1]
end Go.Proofs.YtbcigelgggimmaaGreatDoor
namespace Go.Proofs.YtbcigelgggimmaaGreatDoor
open Go Go.RowKit Go.Joins Go.ChangeShapes Go.WideShapes Go.ChangeAt Go.WideMaps Go.WideElems Go.Deep
theorem array9 {α : Type} {cs : Array α} (h : cs.size = 9) : ∃ c0 c1 c2 c3 c4 c5 c6 c7 c8, cs = #[c0, c1, c2, c3, c4, c5, c6, c7, c8] := by
  obtain ⟨l⟩ := cs
  match l, h with
  | [c0, c1, c2, c3, c4, c5, c6, c7, c8], _ => exact ⟨c0, c1, c2, c3, c4, c5, c6, c7, c8, rfl⟩
theorem fld {H : Type} {enc : TypeId × Value → H} {P : Program} {w : World} {n : Nat} {cs : List Value} {x : Option (DataW H × List MemPlace)} {t : TypeId} {off : Nat} (h : DataW.trod enc P w 0 (fun _ => true) true n t ((cs.drop off).take (P.cellsOf t)) = x) (hc : P.cellsOf t = 1) (c : Value) (he : (cs.drop off).take 1 = [c]) (hx : ∃ y, x = some y) :
    ∃ y, DataW.trod enc P w 0 (fun _ => true) true n t [c] = some y := by
  rw [hc, he] at h
  rw [h]; exact hx
theorem u64_wf {z : Int} (h : (Lit.int .u64 z).wf = true) : 0 ≤ z := by
  have h1 : IntKind.u64.min = 0 := rfl
  simp [Lit.wf, h1] at h
  omega
theorem OpsAt.nil (w : World) (B : Nat) : OpsAt w B (.slice none 0 0) [] := ⟨⟨none, 0, rfl, Nat.le_refl _, Nat.zero_le _, fun _ => rfl, fun h => by simp at h⟩, fun p hp => by simp at hp, fun p hp => by simp at hp⟩
set_option maxRecDepth 100000 in
theorem open_op {H : Type} {enc : TypeId × Value → H} {r : Reach} {b0 : Nat} {w : World} {v : Value} {d : DataW H} {p : List MemPlace} (hv : Value.okWide Tryz.prog w r b0 41 v) (h : DataW.Trod enc Tryz.prog w 0 (fun _ => true) true 41 v d p) :
    ∃ (o : OpV) (u : Value), v = opv o u ∧ o.key.size ≤ maxLen ∧ Bts w w.heap.size 5 u o.val ∧ 0 ≤ o.ticks := by
  obtain ⟨cs, rfl, hsz⟩ := okWide_struct Tryz.underlying41 hv
  obtain ⟨c0, c1, c2, c3, c4, c5, c6, c7, c8, rfl⟩ := array9 (hsz.trans (by kernel_rfl))
  obtain ⟨fuel, hf⟩ := h
  obtain ⟨xs, n, _, _, hl, hlen, hf⟩ := DataW.trod_struct Tryz.underlying41 hf
  obtain ⟨y0, g0⟩ : ∃ y, DataW.trod enc Tryz.prog w 0 (fun _ => true) true n 37 [c0] = some y := fld (hf 0 _ rfl) (by kernel_rfl) c0 rfl ⟨_, List.getElem?_eq_getElem (by rw [hlen]; decide)⟩
  obtain ⟨y1, g1⟩ : ∃ y, DataW.trod enc Tryz.prog w 0 (fun _ => true) true n 38 [c1] = some y := fld (hf 1 _ rfl) (by kernel_rfl) c1 rfl ⟨_, List.getElem?_eq_getElem (by rw [hlen]; decide)⟩
  obtain ⟨y2, g2⟩ : ∃ y, DataW.trod enc Tryz.prog w 0 (fun _ => true) true n 9 [c2] = some y := fld (hf 2 _ rfl) (by kernel_rfl) c2 rfl ⟨_, List.getElem?_eq_getElem (by rw [hlen]; decide)⟩
  obtain ⟨y3, g3⟩ : ∃ y, DataW.trod enc Tryz.prog w 0 (fun _ => true) true n 39 [c3] = some y := fld (hf 3 _ rfl) (by kernel_rfl) c3 rfl ⟨_, List.getElem?_eq_getElem (by rw [hlen]; decide)⟩
  obtain ⟨y4, g4⟩ : ∃ y, DataW.trod enc Tryz.prog w 0 (fun _ => true) true n 38 [c4] = some y := fld (hf 4 _ rfl) (by kernel_rfl) c4 rfl ⟨_, List.getElem?_eq_getElem (by rw [hlen]; decide)⟩
  obtain ⟨y5, g5⟩ : ∃ y, DataW.trod enc Tryz.prog w 0 (fun _ => true) true n 3 [c5] = some y := fld (hf 5 _ rfl) (by kernel_rfl) c5 rfl ⟨_, List.getElem?_eq_getElem (by rw [hlen]; decide)⟩
  obtain ⟨y6, g6⟩ : ∃ y, DataW.trod enc Tryz.prog w 0 (fun _ => true) true n 3 [c6] = some y := fld (hf 6 _ rfl) (by kernel_rfl) c6 rfl ⟨_, List.getElem?_eq_getElem (by rw [hlen]; decide)⟩
  obtain ⟨y7, g7⟩ : ∃ y, DataW.trod enc Tryz.prog w 0 (fun _ => true) true n 3 [c7] = some y := fld (hf 7 _ rfl) (by kernel_rfl) c7 rfl ⟨_, List.getElem?_eq_getElem (by rw [hlen]; decide)⟩
  obtain ⟨y8, g8⟩ : ∃ y, DataW.trod enc Tryz.prog w 0 (fun _ => true) true n 27 [c8] = some y := fld (hf 8 _ rfl) (by kernel_rfl) c8 rfl ⟨_, List.getElem?_eq_getElem (by rw [hlen]; decide)⟩
  obtain ⟨k0, e0, _, _⟩ := DataW.trod_int Tryz.underlying37 g0
  obtain ⟨k1, e1, _, h1⟩ := DataW.trod_int Tryz.underlying38 g1
  obtain ⟨k2, e2, _, h2⟩ := DataW.trod_string Tryz.underlying9 g2
  obtain ⟨bs, hb⟩ := open_bts Tryz.underlying39 Tryz.underlying5 (by kernel_rfl) g3 5
  obtain ⟨k4, e4, _, _⟩ := DataW.trod_int Tryz.underlying38 g4
  obtain ⟨k5, e5, _, _⟩ := DataW.trod_int Tryz.underlying3 g5
  obtain ⟨k6, e6, _, _⟩ := DataW.trod_int Tryz.underlying3 g6
  obtain ⟨k7, e7, _, _⟩ := DataW.trod_int Tryz.underlying3 g7
  obtain ⟨k8, e8, _, _⟩ := DataW.trod_int Tryz.underlying27 g8
  injection e0 with e0 _
  injection e1 with e1 _
  injection e2 with e2 _
  injection e4 with e4 _
  injection e5 with e5 _
  injection e6 with e6 _
  injection e7 with e7 _
  injection e8 with e8 _
  subst e0 e1 e2 e4 e5 e6 e7 e8
  exact ⟨⟨k0, k1, k2, bs, k4, k5, k6, k7, k8⟩, c3, rfl, h2, hb, u64_wf h1⟩
theorem open_btsR {H : Type} {enc : TypeId × Value → H} {w : World} {v : Value} {d : DataW H} {p : List MemPlace} (hv : ∃ A l c, v = .slice A l c) (h : DataW.Trod enc Tryz.prog w 0 (fun _ => true) true 39 v d p) : ∃ bs : List UInt8, Bts w w.heap.size 5 v bs := by
  obtain ⟨A, l, c, rfl⟩ := hv
  obtain ⟨m, hm⟩ := h
  exact open_bts Tryz.underlying39 Tryz.underlying5 (by kernel_rfl) (by simpa [Value.cells] using hm) 5
set_option maxRecDepth 100000 in
theorem open_op_cells {H : Type} {enc : TypeId × Value → H} {w : World} {n : Nat} {cs : List Value} {y : DataW H × List MemPlace} (hl : cs.length = 9) (h : DataW.trod enc Tryz.prog w 0 (fun _ => true) true n 41 cs = some y) :
    ∃ (o : OpV) (u : Value), cs = opcs o u ∧ o.key.size ≤ maxLen ∧ Bts w w.heap.size 5 u o.val ∧ 0 ≤ o.ticks := by
  match cs, hl with
  | [c0, c1, c2, c3, c4, c5, c6, c7, c8], _ =>
    obtain ⟨xs, n, _, _, hl, hlen, hf⟩ := DataW.trod_struct Tryz.underlying41 h
    obtain ⟨y0, g0⟩ : ∃ y, DataW.trod enc Tryz.prog w 0 (fun _ => true) true n 37 [c0] = some y := fld (hf 0 _ rfl) (by kernel_rfl) c0 rfl ⟨_, List.getElem?_eq_getElem (by rw [hlen]; decide)⟩
    obtain ⟨y1, g1⟩ : ∃ y, DataW.trod enc Tryz.prog w 0 (fun _ => true) true n 38 [c1] = some y := fld (hf 1 _ rfl) (by kernel_rfl) c1 rfl ⟨_, List.getElem?_eq_getElem (by rw [hlen]; decide)⟩
    obtain ⟨y2, g2⟩ : ∃ y, DataW.trod enc Tryz.prog w 0 (fun _ => true) true n 9 [c2] = some y := fld (hf 2 _ rfl) (by kernel_rfl) c2 rfl ⟨_, List.getElem?_eq_getElem (by rw [hlen]; decide)⟩
    obtain ⟨y3, g3⟩ : ∃ y, DataW.trod enc Tryz.prog w 0 (fun _ => true) true n 39 [c3] = some y := fld (hf 3 _ rfl) (by kernel_rfl) c3 rfl ⟨_, List.getElem?_eq_getElem (by rw [hlen]; decide)⟩
    obtain ⟨y4, g4⟩ : ∃ y, DataW.trod enc Tryz.prog w 0 (fun _ => true) true n 38 [c4] = some y := fld (hf 4 _ rfl) (by kernel_rfl) c4 rfl ⟨_, List.getElem?_eq_getElem (by rw [hlen]; decide)⟩
    obtain ⟨y5, g5⟩ : ∃ y, DataW.trod enc Tryz.prog w 0 (fun _ => true) true n 3 [c5] = some y := fld (hf 5 _ rfl) (by kernel_rfl) c5 rfl ⟨_, List.getElem?_eq_getElem (by rw [hlen]; decide)⟩
    obtain ⟨y6, g6⟩ : ∃ y, DataW.trod enc Tryz.prog w 0 (fun _ => true) true n 3 [c6] = some y := fld (hf 6 _ rfl) (by kernel_rfl) c6 rfl ⟨_, List.getElem?_eq_getElem (by rw [hlen]; decide)⟩
    obtain ⟨y7, g7⟩ : ∃ y, DataW.trod enc Tryz.prog w 0 (fun _ => true) true n 3 [c7] = some y := fld (hf 7 _ rfl) (by kernel_rfl) c7 rfl ⟨_, List.getElem?_eq_getElem (by rw [hlen]; decide)⟩
    obtain ⟨y8, g8⟩ : ∃ y, DataW.trod enc Tryz.prog w 0 (fun _ => true) true n 27 [c8] = some y := fld (hf 8 _ rfl) (by kernel_rfl) c8 rfl ⟨_, List.getElem?_eq_getElem (by rw [hlen]; decide)⟩
    obtain ⟨k0, e0, _, _⟩ := DataW.trod_int Tryz.underlying37 g0
    obtain ⟨k1, e1, _, h1⟩ := DataW.trod_int Tryz.underlying38 g1
    obtain ⟨k2, e2, _, h2⟩ := DataW.trod_string Tryz.underlying9 g2
    obtain ⟨bs, hb⟩ := open_bts Tryz.underlying39 Tryz.underlying5 (by kernel_rfl) g3 5
    obtain ⟨k4, e4, _, _⟩ := DataW.trod_int Tryz.underlying38 g4
    obtain ⟨k5, e5, _, _⟩ := DataW.trod_int Tryz.underlying3 g5
    obtain ⟨k6, e6, _, _⟩ := DataW.trod_int Tryz.underlying3 g6
    obtain ⟨k7, e7, _, _⟩ := DataW.trod_int Tryz.underlying3 g7
    obtain ⟨k8, e8, _, _⟩ := DataW.trod_int Tryz.underlying27 g8
    injection e0 with e0 _
    injection e1 with e1 _
    injection e2 with e2 _
    injection e4 with e4 _
    injection e5 with e5 _
    injection e6 with e6 _
    injection e7 with e7 _
    injection e8 with e8 _
    subst e0 e1 e2 e4 e5 e6 e7 e8
    exact ⟨⟨k0, k1, k2, bs, k4, k5, k6, k7, k8⟩, c3, rfl, h2, hb, u64_wf h1⟩
theorem list_choose {α : Type} {p : Nat → α → Prop} : ∀ n, (∀ i, i < n → ∃ a, p i a) → ∃ l : List α, l.length = n ∧ ∀ i (h : i < l.length), p i l[i]
  | 0, _ => ⟨[], rfl, fun i h => by simp at h⟩
  | n + 1, h => by
    obtain ⟨l, hl, hp⟩ := list_choose n (fun i hi => h i (by omega))
    obtain ⟨a, ha⟩ := h n (by omega)
    refine ⟨l ++ [a], by simp [hl], fun i hi => ?_⟩
    rcases Nat.lt_or_ge i l.length with h1 | h1
    · rw [List.getElem_append_left h1]; exact hp i h1
    · have : i = l.length := by simp at hi; omega
      subst this
      rw [List.getElem_append_right (Nat.le_refl _)]
      simpa [hl] using ha
/-- A slice of operations that came in. -/
theorem open_ops {H : Type} {enc : TypeId × Value → H} {w : World} {v : Value} {d : DataW H} {p : List MemPlace} (hv : ∃ A l c, v = .slice A l c) (h : DataW.Trod enc Tryz.prog w 0 (fun _ => true) true 22 v d p) :
    ∃ ps : List (OpV × Value), OpsAt w w.heap.size v ps ∧ ∀ q ∈ ps, q.1.key.size ≤ maxLen := by
  obtain ⟨A, l, c, rfl⟩ := hv
  obtain ⟨fuel, hf⟩ := h
  have c9 : Tryz.prog.cellsOf 41 = 9 := by kernel_rfl
  rcases open_slice Tryz.underlying22 hf with ⟨hcs, _⟩ | ⟨a, len, cap, m, n, D, Pl, hcs, _, hl, hm, hmm, _, hi⟩
  · simp [Value.cells] at hcs
    obtain ⟨rfl, rfl, rfl⟩ := hcs
    exact ⟨[], OpsAt.nil _ _, by simp⟩
  · simp [Value.cells] at hcs
    obtain ⟨rfl, rfl, rfl⟩ := hcs
    simp only [if_true] at hmm
    rw [c9] at hi
    obtain ⟨ls, hlen, has⟩ := list_choose (p := fun i (x : OpV × Value) => (∀ j, j < 9 → w.cell? ((a.add (i * 9)).add j) = (opcs x.1 x.2)[j]?) ∧ x.1.key.size ≤ maxLen ∧ Bts w w.heap.size 5 x.2 x.1.val ∧ 0 ≤ x.1.ticks) l (fun i hil => by
      obtain ⟨cs', hc, ht⟩ := hi i (by omega)
      obtain ⟨_, hcl, hat⟩ := World.cells?_some hc
      obtain ⟨o, u, rfl, hx⟩ := open_op_cells hcl ht
      exact ⟨(o, u), hat, hx⟩)
    refine ⟨ls, ⟨⟨some a, c, by rw [hlen], by omega, hm, (fun h => by cases h), fun h0 => ?_⟩, fun x hx => ?_, fun x hx => ?_⟩, fun x hx => ?_⟩
    · have h1 := (has 0 h0).1 0 (by omega)
      rw [Nat.zero_mul] at h1
      have ha0 : a.add 0 = a := by simp [Addr.add]
      rw [ha0, ha0] at h1
      obtain ⟨b, off, spot⟩ := a
      have h1' : w.cell? ⟨b, off, spot⟩ = some (.int .i64 ls[0].1.kind) := h1
      have hs : spot = none := by
        cases spot with
        | none => rfl
        | some s =>
          unfold World.cell? at h1'
          split at h1'
          · simp at h1'
          · cases h1'
      subst hs
      refine ⟨b, off, rfl, block_lt_of_cell h1', fun i x hix j u hj => ?_⟩
      obtain ⟨hil, rfl⟩ := List.getElem?_eq_some_iff.1 hix
      have hj9 : j < 9 := by
        have := (List.getElem?_eq_some_iff.1 hj).1
        simpa [opcs] using this
      have := (has i hil).1 j hj9
      rw [add_plain, add_plain, hj] at this
      rw [← Nat.add_assoc]; exact this
    · obtain ⟨i, hi, rfl⟩ := List.getElem_of_mem hx
      exact (has i hi).2.2.1
    · obtain ⟨i, hi, rfl⟩ := List.getElem_of_mem hx
      exact (has i hi).2.2.2
    · obtain ⟨i, hi, rfl⟩ := List.getElem_of_mem hx
      exact (has i hi).2.1
end Go.Proofs.YtbcigelgggimmaaGreatDoor
namespace Go.Proofs.YtbcigelgggimmaaGreatDoor
open Go Go.RowKit Go.Joins Go.ChangeShapes Go.WideShapes Go.ChangeAt Go.WideMaps Go.WideElems Go.Deep
theorem fldE {H : Type} {enc : TypeId × Value → H} {P : Program} {w : World} {n k : Nat} {cs cs' : List Value} {xs : List (DataW H × List MemPlace)} {i : Nat} {t : TypeId} {off : Nat} (h : DataW.trod enc P w 0 (fun _ => true) true n t ((cs.drop off).take (P.cellsOf t)) = xs[i]?) (hi : i < xs.length) (hc : P.cellsOf t = k) (hcs : (cs.drop off).take k = cs') : ∃ y, DataW.trod enc P w 0 (fun _ => true) true n t cs' = some y := by
  rw [hc, hcs] at h
  exact ⟨_, h.trans (List.getElem?_eq_getElem hi)⟩
theorem list_chooseE {α : Type} {p : Nat → α → Prop} : ∀ n, (∀ i, i < n → ∃ a, p i a) → ∃ l : List α, l.length = n ∧ ∀ i (h : i < l.length), p i l[i]
  | 0, _ => ⟨[], rfl, fun i h => by simp at h⟩
  | n + 1, h => by
    obtain ⟨l, hl, hp⟩ := list_chooseE n (fun i hi => h i (by omega))
    obtain ⟨a, ha⟩ := h n (by omega)
    refine ⟨l ++ [a], by simp [hl], fun i hi => ?_⟩
    rcases Nat.lt_or_ge i l.length with h1 | h1
    · rw [List.getElem_append_left h1]; exact hp i h1
    · have : i = l.length := by simp at hi; omega
      subst this
      rw [List.getElem_append_right (Nat.le_refl _)]
      simpa [hl] using ha
/-- A slice of structs that came in. -/
theorem open_rows {α H : Type} {enc : TypeId × Value → H} {P : Program} {w : World} {fuel : Nat} {t e : TypeId} {v : Value} {y : DataW H × List MemPlace} (C : α → List Value) (K : Nat) (Q : α → Prop) (hC : ∀ x, (C x).length = K) (hK : 0 < K)
    (ht : P.underlying t = some (.slice e)) (hc : P.cellsOf e = K) (hel : ∀ n cs y, cs.length = K → DataW.trod enc P w 0 (fun _ => true) true n e cs = some y → ∃ x, cs = C x ∧ Q x) (h : DataW.trod enc P w 0 (fun _ => true) true fuel t [v] = some y) :
    ∃ ls : List α, (∃ A cap, v = .slice A ls.length cap ∧ ls.length ≤ cap ∧ cap ≤ maxLen ∧ (A = none → ls.length = 0) ∧
      (0 < ls.length → ∃ b off, A = some ⟨b, off, none⟩ ∧ (b < w.heap.size ∧ b < w.heap.size) ∧ ∀ i x, ls[i]? = some x → ∀ j u, (C x)[j]? = some u → w.cell? ⟨b, off + (i * K + j), none⟩ = some u)) ∧ ∀ x ∈ ls, Q x := by
  rcases open_slice ht h with ⟨hcs, _⟩ | ⟨a, len, cap, m, n, D, Pl, hcs, _, hl, hm, hmm, _, hi⟩
  · injection hcs with hcs _
    subst hcs
    exact ⟨[], ⟨none, 0, rfl, Nat.le_refl _, Nat.zero_le _, fun _ => rfl, fun h => by simp at h⟩, by simp⟩
  · injection hcs with hcs _
    subst hcs
    simp only [if_true] at hmm
    rw [hc] at hi
    obtain ⟨ls, hlen, has⟩ := list_chooseE (p := fun i (x : α) => (∀ j, j < K → w.cell? ((a.add (i * K)).add j) = (C x)[j]?) ∧ Q x) len (fun i hil => by
      obtain ⟨cs', hc', ht'⟩ := hi i (by omega)
      obtain ⟨_, hcl, hat⟩ := World.cells?_some hc'
      obtain ⟨x, rfl, hx⟩ := hel _ _ _ hcl ht'
      exact ⟨x, hat, hx⟩)
    refine ⟨ls, ⟨some a, cap, by rw [hlen], by omega, hm, (fun h => by cases h), fun h0 => ?_⟩, fun x hx => ?_⟩
    · have h1 := (has 0 h0).1 0 hK
      rw [Nat.zero_mul] at h1
      have ha0 : a.add 0 = a := by simp [Addr.add]
      rw [ha0, ha0, List.getElem?_eq_getElem (by rw [hC]; exact hK)] at h1
      obtain ⟨b, off, spot⟩ := a
      have hs : spot = none := by
        cases spot with
        | none => rfl
        | some s =>
          unfold World.cell? at h1
          split at h1
          · simp at h1
          · cases h1
      subst hs
      have hb := block_lt_of_cell h1
      refine ⟨b, off, rfl, ⟨hb, hb⟩, fun i x hix j u hj => ?_⟩
      obtain ⟨hil, rfl⟩ := List.getElem?_eq_some_iff.1 hix
      have hj9 : j < K := by
        have := (List.getElem?_eq_some_iff.1 hj).1
        rwa [hC] at this
      have := (has i hil).1 j hj9
      rw [add_plain, add_plain, hj] at this
      rw [← Nat.add_assoc]; exact this
    · obtain ⟨i, hi, rfl⟩ := List.getElem_of_mem hx
      exact (has i hi).2
set_option maxRecDepth 100000 in
theorem op_cellsE {H : Type} {enc : TypeId × Value → H} {w : World} {n : Nat} {cs : List Value} {y : DataW H × List MemPlace} (hl : cs.length = 9) (h : DataW.trod enc Tryz.prog w 0 (fun _ => true) true n 41 cs = some y) :
    ∃ (o : OpV) (u : Value), cs = (opc o u).toList ∧ o.key.size ≤ maxLen ∧ Bts w w.heap.size 5 u o.val := by
  match cs, hl with
  | [c0, c1, c2, c3, c4, c5, c6, c7, c8], _ =>
    obtain ⟨xs, n, _, _, hl, hlen, hf⟩ := DataW.trod_struct Tryz.underlying41 h
    obtain ⟨y0, g0⟩ := fldE (cs' := [c0]) (hf 0 _ rfl) (by rw [hlen]; decide) (k := 1) (by kernel_rfl) rfl
    obtain ⟨y1, g1⟩ := fldE (cs' := [c1]) (hf 1 _ rfl) (by rw [hlen]; decide) (k := 1) (by kernel_rfl) rfl
    obtain ⟨y2, g2⟩ := fldE (cs' := [c2]) (hf 2 _ rfl) (by rw [hlen]; decide) (k := 1) (by kernel_rfl) rfl
    obtain ⟨y3, g3⟩ := fldE (cs' := [c3]) (hf 3 _ rfl) (by rw [hlen]; decide) (k := 1) (by kernel_rfl) rfl
    obtain ⟨y4, g4⟩ := fldE (cs' := [c4]) (hf 4 _ rfl) (by rw [hlen]; decide) (k := 1) (by kernel_rfl) rfl
    obtain ⟨y5, g5⟩ := fldE (cs' := [c5]) (hf 5 _ rfl) (by rw [hlen]; decide) (k := 1) (by kernel_rfl) rfl
    obtain ⟨y6, g6⟩ := fldE (cs' := [c6]) (hf 6 _ rfl) (by rw [hlen]; decide) (k := 1) (by kernel_rfl) rfl
    obtain ⟨y7, g7⟩ := fldE (cs' := [c7]) (hf 7 _ rfl) (by rw [hlen]; decide) (k := 1) (by kernel_rfl) rfl
    obtain ⟨y8, g8⟩ := fldE (cs' := [c8]) (hf 8 _ rfl) (by rw [hlen]; decide) (k := 1) (by kernel_rfl) rfl
    obtain ⟨k0, e0, _, _⟩ := DataW.trod_int Tryz.underlying37 g0
    obtain ⟨k1, e1, _, _⟩ := DataW.trod_int Tryz.underlying38 g1
    obtain ⟨k2, e2, _, h2⟩ := DataW.trod_string Tryz.underlying9 g2
    obtain ⟨k3, h3⟩ := open_bts Tryz.underlying39 Tryz.underlying5 (by kernel_rfl) g3 5
    obtain ⟨k4, e4, _, _⟩ := DataW.trod_int Tryz.underlying38 g4
    obtain ⟨k5, e5, _, _⟩ := DataW.trod_int Tryz.underlying3 g5
    obtain ⟨k6, e6, _, _⟩ := DataW.trod_int Tryz.underlying3 g6
    obtain ⟨k7, e7, _, _⟩ := DataW.trod_int Tryz.underlying3 g7
    obtain ⟨k8, e8, _, _⟩ := DataW.trod_int Tryz.underlying27 g8
    injection e0 with e0 _
    injection e1 with e1 _
    injection e2 with e2 _
    injection e4 with e4 _
    injection e5 with e5 _
    injection e6 with e6 _
    injection e7 with e7 _
    injection e8 with e8 _
    subst e0 e1 e2 e4 e5 e6 e7 e8
    exact ⟨⟨k0, k1, k2, k3, k4, k5, k6, k7, k8⟩, c3, rfl, h2, h3⟩
set_option maxRecDepth 100000 in
theorem ent_cellsE {H : Type} {enc : TypeId × Value → H} {w : World} {n : Nat} {cs : List Value} {y : DataW H × List MemPlace} (hl : cs.length = 4) (h : DataW.trod enc Tryz.prog w 0 (fun _ => true) true n 43 cs = some y) :
    ∃ (x : EntV) (u : Value), cs = (entc x u).toList ∧ x.key.size ≤ maxLen ∧ Bts w w.heap.size 5 u x.val := by
  match cs, hl with
  | [c0, c1, c2, c3], _ =>
    obtain ⟨xs, n, _, _, hl, hlen, hf⟩ := DataW.trod_struct Tryz.underlying43 h
    obtain ⟨y0, g0⟩ := fldE (cs' := [c0]) (hf 0 _ rfl) (by rw [hlen]; decide) (k := 1) (by kernel_rfl) rfl
    obtain ⟨y1, g1⟩ := fldE (cs' := [c1]) (hf 1 _ rfl) (by rw [hlen]; decide) (k := 1) (by kernel_rfl) rfl
    obtain ⟨y2, g2⟩ := fldE (cs' := [c2]) (hf 2 _ rfl) (by rw [hlen]; decide) (k := 1) (by kernel_rfl) rfl
    obtain ⟨y3, g3⟩ := fldE (cs' := [c3]) (hf 3 _ rfl) (by rw [hlen]; decide) (k := 1) (by kernel_rfl) rfl
    obtain ⟨k0, e0, _, h0⟩ := DataW.trod_string Tryz.underlying9 g0
    obtain ⟨k1, h1⟩ := open_bts Tryz.underlying39 Tryz.underlying5 (by kernel_rfl) g1 5
    obtain ⟨k2, e2, _, _⟩ := DataW.trod_int Tryz.underlying38 g2
    obtain ⟨k3, e3, _, _⟩ := DataW.trod_int Tryz.underlying27 g3
    injection e0 with e0 _
    injection e2 with e2 _
    injection e3 with e3 _
    subst e0 e2 e3
    exact ⟨⟨k0, k1, k2, k3⟩, c1, rfl, h0, h1⟩
set_option maxRecDepth 100000 in
theorem ev_cellsE {H : Type} {enc : TypeId × Value → H} {w : World} {n : Nat} {cs : List Value} {y : DataW H × List MemPlace} (hl : cs.length = 6) (h : DataW.trod enc Tryz.prog w 0 (fun _ => true) true n 69 cs = some y) :
    ∃ (x : EvV × Value), cs = (evc x.1 x.2).toList ∧ x.1.key.size ≤ maxLen ∧ Bts w w.heap.size 5 x.2 x.1.val := by
  match cs, hl with
  | [c0, c1, c2, c3, c4, c5], _ =>
    obtain ⟨xs, n, _, _, hl, hlen, hf⟩ := DataW.trod_struct Tryz.underlying69 h
    obtain ⟨y0, g0⟩ := fldE (cs' := [c0]) (hf 0 _ rfl) (by rw [hlen]; decide) (k := 1) (by kernel_rfl) rfl
    obtain ⟨y1, g1⟩ := fldE (cs' := [c1]) (hf 1 _ rfl) (by rw [hlen]; decide) (k := 1) (by kernel_rfl) rfl
    obtain ⟨y2, g2⟩ := fldE (cs' := [c2]) (hf 2 _ rfl) (by rw [hlen]; decide) (k := 1) (by kernel_rfl) rfl
    obtain ⟨y3, g3⟩ := fldE (cs' := [c3]) (hf 3 _ rfl) (by rw [hlen]; decide) (k := 1) (by kernel_rfl) rfl
    obtain ⟨y4, g4⟩ := fldE (cs' := [c4]) (hf 4 _ rfl) (by rw [hlen]; decide) (k := 1) (by kernel_rfl) rfl
    obtain ⟨y5, g5⟩ := fldE (cs' := [c5]) (hf 5 _ rfl) (by rw [hlen]; decide) (k := 1) (by kernel_rfl) rfl
    obtain ⟨k0, e0, _, _⟩ := DataW.trod_int Tryz.underlying67 g0
    obtain ⟨k1, e1, _, h1⟩ := DataW.trod_string Tryz.underlying9 g1
    obtain ⟨k2, h2⟩ := open_bts Tryz.underlying39 Tryz.underlying5 (by kernel_rfl) g2 5
    obtain ⟨k3, e3, _, _⟩ := DataW.trod_int Tryz.underlying27 g3
    obtain ⟨k4, e4, _, _⟩ := DataW.trod_int Tryz.underlying38 g4
    obtain ⟨k5, e5, _, _⟩ := DataW.trod_int Tryz.underlying38 g5
    injection e0 with e0 _
    injection e1 with e1 _
    injection e3 with e3 _
    injection e4 with e4 _
    injection e5 with e5 _
    subst e0 e1 e3 e4 e5
    exact ⟨(⟨k0, k1, k2, k3, k4, k5⟩, c2), rfl, h1, h2⟩
theorem open_evsE {H : Type} {enc : TypeId × Value → H} {w : World} {n : Nat} {v : Value} {y : DataW H × List MemPlace} (h : DataW.trod enc Tryz.prog w 0 (fun _ => true) true n 44 [v] = some y) :
    ∃ xs : List (EvV × Value), EvsAt w w.heap.size v xs ∧ ∀ p ∈ xs, p.1.key.size ≤ maxLen := by
  obtain ⟨xs, ⟨A, cap, e, h1, h2, h3, h4⟩, hq⟩ := open_rows (α := EvV × Value) (fun x => (evc x.1 x.2).toList) 6 (fun x => x.1.key.size ≤ maxLen ∧ Bts w w.heap.size 5 x.2 x.1.val) (fun x => rfl) (by decide) Tryz.underlying44 (by kernel_rfl) (fun n cs y hl ht => ev_cellsE hl ht) h
  refine ⟨xs, ⟨⟨A, cap, e, h1, h2, h3, fun h0 => ?_⟩, fun p hp => (hq p hp).2⟩, fun p hp => (hq p hp).1⟩
  obtain ⟨b, off, ha, hb, hc⟩ := h4 h0
  exact ⟨b, off, ha, hb, fun i p hi j u hu => hc i p hi j u (by rw [Array.getElem?_toList]; exact hu)⟩
/-- What is said of a result that came in. -/
def RstIn (w : World) (q : RQ) : Prop := ResAt w w.heap.size q.r q.v1 q.v2 q.v3 q.v4 q.xs ∧ q.r.op.key.size ≤ maxLen ∧ q.r.ent.key.size ≤ maxLen ∧ ∀ p ∈ q.xs, p.1.key.size ≤ maxLen
set_option maxRecDepth 100000 in
theorem rst_cellsE {H : Type} {enc : TypeId × Value → H} {w : World} {n : Nat} {cs : List Value} {y : DataW H × List MemPlace} (hl : cs.length = 21) (h : DataW.trod enc Tryz.prog w 0 (fun _ => true) true n 46 cs = some y) :
    ∃ q : RQ, cs = q.c.toList ∧ RstIn w q := by
  match cs, hl with
  | [c0, c1, c2, c3, c4, c5, c6, c7, c8, c9, c10, c11, c12, c13, c14, c15, c16, c17, c18, c19, c20], _ =>
    obtain ⟨xs, n, _, _, hl, hlen, hf⟩ := DataW.trod_struct Tryz.underlying46 h
    obtain ⟨y0, g0⟩ := fldE (cs' := [c0, c1, c2, c3, c4, c5, c6, c7, c8]) (hf 0 _ rfl) (by rw [hlen]; decide) (k := 9) (by kernel_rfl) rfl
    obtain ⟨y1, g1⟩ := fldE (cs' := [c9]) (hf 1 _ rfl) (by rw [hlen]; decide) (k := 1) (by kernel_rfl) rfl
    obtain ⟨y2, g2⟩ := fldE (cs' := [c10]) (hf 2 _ rfl) (by rw [hlen]; decide) (k := 1) (by kernel_rfl) rfl
    obtain ⟨y3, g3⟩ := fldE (cs' := [c11]) (hf 3 _ rfl) (by rw [hlen]; decide) (k := 1) (by kernel_rfl) rfl
    obtain ⟨y4, g4⟩ := fldE (cs' := [c12]) (hf 4 _ rfl) (by rw [hlen]; decide) (k := 1) (by kernel_rfl) rfl
    obtain ⟨y5, g5⟩ := fldE (cs' := [c13, c14, c15, c16]) (hf 5 _ rfl) (by rw [hlen]; decide) (k := 4) (by kernel_rfl) rfl
    obtain ⟨y6, g6⟩ := fldE (cs' := [c17]) (hf 6 _ rfl) (by rw [hlen]; decide) (k := 1) (by kernel_rfl) rfl
    obtain ⟨y7, g7⟩ := fldE (cs' := [c18]) (hf 7 _ rfl) (by rw [hlen]; decide) (k := 1) (by kernel_rfl) rfl
    obtain ⟨y8, g8⟩ := fldE (cs' := [c19]) (hf 8 _ rfl) (by rw [hlen]; decide) (k := 1) (by kernel_rfl) rfl
    obtain ⟨y9, g9⟩ := fldE (cs' := [c20]) (hf 9 _ rfl) (by rw [hlen]; decide) (k := 1) (by kernel_rfl) rfl
    obtain ⟨o, u, e0, ho, hu⟩ := op_cellsE rfl g0
    obtain ⟨k1, e1, _, _⟩ := DataW.trod_int Tryz.underlying38 g1
    obtain ⟨k2, e2, _, _⟩ := DataW.trod_int Tryz.underlying34 g2
    obtain ⟨k3, e3, _⟩ := DataW.trod_bool Tryz.underlying4 g3
    obtain ⟨k4, h4⟩ := open_bts Tryz.underlying39 Tryz.underlying5 (by kernel_rfl) g4 5
    obtain ⟨x, ux, e5, hx, hux⟩ := ent_cellsE rfl g5
    obtain ⟨k6, e6, _, _⟩ := DataW.trod_int Tryz.underlying3 g6
    obtain ⟨xs, hxs, hks⟩ := open_evsE g7
    obtain ⟨k8, e8, _, _⟩ := DataW.trod_int Tryz.underlying3 g8
    obtain ⟨k9, e9, _, _⟩ := DataW.trod_int Tryz.underlying3 g9
    injection e1 with e1 _
    injection e2 with e2 _
    injection e3 with e3 _
    injection e6 with e6 _
    injection e8 with e8 _
    injection e9 with e9 _
    subst e1 e2 e3 e6 e8 e9
    unfold opc at e0
    unfold entc at e5
    injection e0 with a0 e0
    injection e0 with a1 e0
    injection e0 with a2 e0
    injection e0 with a3 e0
    injection e0 with a4 e0
    injection e0 with a5 e0
    injection e0 with a6 e0
    injection e0 with a7 e0
    injection e0 with a8 e0
    injection e5 with b0 e5
    injection e5 with b1 e5
    injection e5 with b2 e5
    injection e5 with b3 e5
    subst a0 a1 a2 a3 a4 a5 a6 a7 a8 b0 b1 b2 b3
    exact ⟨⟨⟨o, k1, k2, k3, k4, x, k6, xs.map Prod.fst, k8, k9⟩, c3, c12, c14, c18, xs⟩, rfl, ⟨hu, h4, hux, hxs, rfl⟩, ho, hx, hks⟩
/-- A slice of results that came in. -/
structure RsIn (w : World) (v : Value) (qs : List RQ) : Prop where
  form : ∃ A cap, v = .slice A qs.length cap ∧ qs.length ≤ cap ∧ cap ≤ maxLen ∧ (A = none → qs.length = 0) ∧
    (0 < qs.length → ∃ b off, A = some ⟨b, off, none⟩ ∧ (b < w.heap.size ∧ b < w.heap.size) ∧ ∀ i p, qs[i]? = some p → ∀ j u, p.c[j]? = some u → w.cell? ⟨b, off + (i * 21 + j), none⟩ = some u)
  vals : ∀ q ∈ qs, RstIn w q
theorem open_rsts {H : Type} {enc : TypeId × Value → H} {w : World} {v : Value} {d : DataW H} {p : List MemPlace} (hv : ∃ A l c, v = .slice A l c) (h : DataW.Trod enc Tryz.prog w 0 (fun _ => true) true 33 v d p) :
    ∃ qs : List RQ, RsIn w v qs := by
  obtain ⟨A, l, c, rfl⟩ := hv
  obtain ⟨fuel, hf⟩ := h
  obtain ⟨qs, ⟨A', cap, e, h1, h2, h3, h4⟩, hq⟩ := open_rows (α := RQ) (fun q => q.c.toList) 21 (RstIn w) (fun q => rfl) (by decide) Tryz.underlying33 (by kernel_rfl) (fun n cs y hl ht => rst_cellsE hl ht) (by simpa [Value.cells] using hf)
  refine ⟨qs, ⟨⟨A', cap, e, h1, h2, h3, fun h0 => ?_⟩, hq⟩⟩
  obtain ⟨b, off, ha, hb, hc⟩ := h4 h0
  exact ⟨b, off, ha, hb, fun i p hi j u hu => hc i p hi j u (by rw [Array.getElem?_toList]; exact hu)⟩
theorem RsIn.rs {w : World} {v : Value} {qs : List RQ} (h : RsIn w v qs) : RsAt w w.heap.size v qs := ⟨h.form, fun q hq => (h.vals q hq).1⟩
end Go.Proofs.YtbcigelgggimmaaGreatDoor
