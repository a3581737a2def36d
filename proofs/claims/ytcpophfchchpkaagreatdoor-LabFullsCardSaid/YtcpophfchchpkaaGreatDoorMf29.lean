/- LbX, LfC, LbY, Gl0, LbW -/
import Derived.Test.YtcpophfchchpkaaGreatDoorMf28
import Derived.Test.YtcpophfchchpkaaGreatDoorMf25
import Derived.Test.YtcpophfchchpkaaGreatDoorMf26
import Derived.Test.YtcpophfchchpkaaGreatDoorMf27
import Derived.Test.YtcpophfchchpkaaGreatDoorMf13
import Derived.Test.YtcpophfchchpkaaGreatDoorMf14
import Derived.Test.YtcpophfchchpkaaGreatDoorRows
import Derived.ProofKit
import Derived.LaidMore
import Derived.OpenShut
import Derived.Stop.Joined
namespace Go.Proofs.YtcpophfchchpkaaGreatDoor
open Go Go.RowKit Go.Sy
theorem b_conc51 (b : Bool) (s : Sg) : (AV.b b).conc s = some (.bool b) := rfl
theorem known51_any {w : World} {t0 t1 : TypeId} (hr : RowsAt w (gs51 t0 t1) []) : Calls Tryz.prog 5 #[] w fun e w' => e = .returned (.bool true) ∧ Below w.heap.size w w' :=
  run_args follows51 orcB_ok hr (concL_nil.2 rfl) (b_conc51 true) (Eq.mpr (known51_eval t0 t1) ⟨rfl, rfl, rfl, trivial⟩)
theorem rows51_of {w : World} {t0 t1 : TypeId} (h0 : w.heap[0]? = some (.cells ⟨kindsN.map fun x => .int .i64 (.ofNat x)⟩ t0 (0, 0))) (h1 : w.heap[1]? = some (.cells ⟨bruijnN.map fun x => .int .u8 (.ofNat x)⟩ t1 (0, 0))) : RowsAt w (gs51 t0 t1) [] := by
  refine rowsAt_globals (fun g hg => ?_) (fun g hg => ?_) <;> simp only [gs51, List.mem_cons, List.not_mem_nil, or_false] at hg
  · rcases hg with rfl | rfl <;> exact gInts_good _ _ _
  · rcases hg with rfl | rfl
    · exact ⟨(by decide : 0 < 64), h0⟩
    · exact ⟨(by decide : 1 < 64), h1⟩
theorem knL_good (args : List AV) (n : Nat) (H : Heap) (v : AV) (n' : Nat) (H' : Heap) (h : knL args n H = .ok v n' H') : FnGood Tryz.prog 5 args n H v n' H' := by
  unfold knL at h
  split at h
  · split at h
    · rename_i hq
      injection h with e1 e2 e3
      subst e1 e2 e3
      refine fnGood_quiet (b_conc51 true) fun s w Args hA hr => ?_
      rw [concL_nil] at hA
      subst hA
      have hrow := fun g hg => readsRows_at hq g hg
      have key : ∀ (g : Nat) (l : List AV) (vs : List Value), (g, l) ∈ gl51 → g < 64 → (∀ s, concL s l = some vs) → (∀ v ∈ vs, v.oneCell' = true) → ∃ t, w.heap[g]? = some (Obj.cells ⟨vs⟩ t (0, 0)) := fun g l vs hg h64 h1 h2 => by
        have hL : (64 : Nat) < LIM := by decide
        obtain ⟨b, t, hb, hw⟩ := readsRow_at hr (by omega) h1 h2 (hrow _ hg)
        rw [hr.glob g h64] at hb
        injection hb with hb
        subst hb
        exact ⟨t, hw⟩
      obtain ⟨t0, h0⟩ := key 0 (kindsN.map fun n => .i .i64 (.ofNat n)) (kindsN.map fun x => .int .i64 (.ofNat x)) (by simp [gl51]) (by decide) (gInts_good .i64 3 kindsN).1 (gInts_good .i64 3 kindsN).2
      obtain ⟨t1, h1⟩ := key 1 (bruijnN.map fun n => .i .u8 (.ofNat n)) (bruijnN.map fun x => .int .u8 (.ofNat x)) (by simp [gl51]) (by decide) (gInts_good .u8 47 bruijnN).1 (gInts_good .u8 47 bruijnN).2
      exact known51_any (rows51_of h0 h1)
    · cases h
  · cases h
theorem orcN_ok : OrcOk Tryz.prog orcN := orcOk_one knL_good
end Go.Proofs.YtcpophfchchpkaaGreatDoor
namespace Go.Proofs.YtcpophfchchpkaaGreatDoor
open Go Go.RowKit Go.Sy
theorem orcF_ok : OrcOk Tryz.prog orcF := orcOk_add (orcOk_one namF_good) knL_good
theorem oi_conc {k : IntKind} {x : Int} {ts : List (Nat × Int × Bool)} (h : ts.all (testB x) = true) (s : Sg) : (AV.oi k x ts).conc s = some (.int k x) := by simp only [AV.conc, h]; simp
theorem two_conc {a b : AV} {A B : Value} {s : Sg} (ha : a.conc s = some A) (hb : b.conc s = some B) : concL s [a, b] = some [A, B] := concL_cons.2 ⟨_, _, ha, concL_cons.2 ⟨_, _, hb, concL_nil.2 rfl, rfl⟩, rfl⟩
set_option maxRecDepth 100000 in
theorem fulls51_walk (m z : Int) (w : World) (_hm : (Lit.int .i64 m).wf = true) (_hz : (Lit.int .i64 z).wf = true) (hw : ∃ t0 t1, RowsAt w (gs51 t0 t1) []) :
    Calls Tryz.prog 3 #[.int .i64 m, .int .i64 z] w fun e w' => e = .returned (.bool true) ∧ Below w.heap.size w w' := by
  obtain ⟨t0, t1, hr⟩ := hw
  by_cases h1 : m < 49
  · exact run_args follows51 orcF_ok hr (two_conc (oi_conc (by simp [testB]; omega) _) (oi_conc rfl _)) (b_conc51 true) (Eq.mpr (lf_no1 t0 t1 m z) ⟨rfl, rfl, rfl, trivial⟩)
  by_cases h2 : 51 < m
  · exact run_args follows51 orcF_ok hr (two_conc (oi_conc (by simp [testB]; omega) _) (oi_conc rfl _)) (b_conc51 true) (Eq.mpr (lf_no2 t0 t1 m z) ⟨rfl, rfl, rfl, trivial⟩)
  by_cases h3 : z < 4095
  · exact run_args follows51 orcF_ok hr (two_conc (oi_conc (by simp [testB]; omega) _) (oi_conc (by simp [testB]; omega) _)) (b_conc51 true) (Eq.mpr (lf_no3 t0 t1 m z) ⟨rfl, rfl, rfl, trivial⟩)
  by_cases h4 : 4097 < z
  · exact run_args follows51 orcF_ok hr (two_conc (oi_conc (by simp [testB]; omega) _) (oi_conc (by simp [testB]; omega) _)) (b_conc51 true) (Eq.mpr (lf_no4 t0 t1 m z) ⟨rfl, rfl, rfl, trivial⟩)
  have hm : m = 49 ∨ m = 50 ∨ m = 51 := by omega
  have hz : z = 4095 ∨ z = 4096 ∨ z = 4097 := by omega
  rcases hm with rfl | rfl | rfl <;> rcases hz with rfl | rfl | rfl
  · exact run_args follows51 orcF_ok hr (two_conc (by simp only [AV.conc]; rfl) (by simp only [AV.conc]; rfl)) (b_conc51 true) (Eq.mpr (lf_49_4095 t0 t1) ⟨rfl, rfl, rfl, trivial⟩)
  · exact run_args follows51 orcF_ok hr (two_conc (by simp only [AV.conc]; rfl) (by simp only [AV.conc]; rfl)) (b_conc51 true) (Eq.mpr (lf_49_4096 t0 t1) ⟨rfl, rfl, rfl, trivial⟩)
  · exact run_args follows51 orcF_ok hr (two_conc (by simp only [AV.conc]; rfl) (by simp only [AV.conc]; rfl)) (b_conc51 true) (Eq.mpr (lf_49_4097 t0 t1) ⟨rfl, rfl, rfl, trivial⟩)
  · exact run_args follows51 orcF_ok hr (two_conc (by simp only [AV.conc]; rfl) (by simp only [AV.conc]; rfl)) (b_conc51 true) (Eq.mpr (lf_50_4095 t0 t1) ⟨rfl, rfl, rfl, trivial⟩)
  · exact run_args follows51 orcF_ok hr (two_conc (by simp only [AV.conc]; rfl) (by simp only [AV.conc]; rfl)) (b_conc51 true) (Eq.mpr (lf_50_4096 t0 t1) ⟨rfl, rfl, rfl, trivial⟩)
  · exact run_args follows51 orcF_ok hr (two_conc (by simp only [AV.conc]; rfl) (by simp only [AV.conc]; rfl)) (b_conc51 true) (Eq.mpr (lf_50_4097 t0 t1) ⟨rfl, rfl, rfl, trivial⟩)
  · exact run_args follows51 orcF_ok hr (two_conc (by simp only [AV.conc]; rfl) (by simp only [AV.conc]; rfl)) (b_conc51 true) (Eq.mpr (lf_51_4095 t0 t1) ⟨rfl, rfl, rfl, trivial⟩)
  · exact run_args follows51 orcF_ok hr (two_conc (by simp only [AV.conc]; rfl) (by simp only [AV.conc]; rfl)) (b_conc51 true) (Eq.mpr (lf_51_4096 t0 t1) ⟨rfl, rfl, rfl, trivial⟩)
  · exact run_args follows51 orcF_ok hr (two_conc (by simp only [AV.conc]; rfl) (by simp only [AV.conc]; rfl)) (b_conc51 true) (Eq.mpr (lf_51_4097 t0 t1) ⟨rfl, rfl, rfl, trivial⟩)
end Go.Proofs.YtcpophfchchpkaaGreatDoor
namespace Go.Proofs.YtcpophfchchpkaaGreatDoor
open Go Go.RowKit Go.Sy
/-- The variables that the examples read. -/
def GL51 (w : World) : Prop := ∃ t0 t1, w.heap[0]? = some (.cells ⟨kindsN.map fun x => .int .i64 (.ofNat x)⟩ t0 (0, 0)) ∧ w.heap[1]? = some (.cells ⟨bruijnN.map fun x => .int .u8 (.ofNat x)⟩ t1 (0, 0))
theorem GL51.below {w w' : World} (h : GL51 w) (hb : Below w.heap.size w w') : GL51 w' := by
  obtain ⟨t0, t1, h0, h1⟩ := h
  exact ⟨t0, t1, (hb.block _ (lt_of_heap h0)).trans h0, (hb.block _ (lt_of_heap h1)).trans h1⟩
theorem known_gl {w : World} (h : GL51 w) : Calls Tryz.prog 5 #[] w fun e w' => e = .returned (.bool true) ∧ Below w.heap.size w w' := by
  obtain ⟨t0, t1, h0, h1⟩ := h
  exact known51_any (rows51_of h0 h1)
end Go.Proofs.YtcpophfchchpkaaGreatDoor
namespace Go.Proofs.YtcpophfchchpkaaGreatDoor
open Go Go.RowKit Go.ChangeShapes Go.WideShapes Go.ChangeAt Go.WideMaps Go.WideElems Go.Sy
theorem laid_at {P : Program} {w : World} : ∀ {laid : List (String × DataW Unit)} {ps : List MemPlace}, DataW.LaidVars P w laid ps → ∀ {n : String} {d : DataW Unit}, (n, d) ∈ laid →
    ∃ g t cs fuel p, P.globalNamed n = some g ∧ (P.globals[g]?).map (·.type) = some t ∧ w.var? P n = some cs ∧ DataW.trod (fun _ => ()) P w 0 (fun _ => true) false fuel t cs.toList = some (d, p) ∧ ∀ x ∈ MemPlace.row ⟨g, 0, none⟩ cs.size, x ∈ ps
  | [], ps, h, n, d, hm => by cases hm
  | (n', d') :: r, ps, h, n, d, hm => by
    obtain ⟨g, t, cs, fuel, p, q, h1, h2, h3, h4, h5, rfl⟩ := h
    rcases List.mem_cons.1 hm with e | hm
    · injection e with e1 e2
      subst e1 e2
      exact ⟨g, t, cs, fuel, p, h1, h2, h3, h4, fun x hx => by simp [hx]⟩
    · obtain ⟨g', t', cs', f', p', k1, k2, k3, k4, k5⟩ := laid_at h5 hm
      exact ⟨g', t', cs', f', p', k1, k2, k3, k4, fun x hx => by simp [k5 x hx]⟩
theorem take1_at {α : Type} {l : List α} {i : Nat} {c : α} (h : (l.drop i).take 1 = [c]) : l[i]? = some c := by
  have h1 : ((l.drop i).take 1)[0]? = some c := by rw [h]; rfl
  rw [List.getElem?_take_of_lt (by omega), List.getElem?_drop, Nat.add_zero] at h1
  exact h1
/-- A variable that is an array of integers: its block. -/
theorem blk_of_laid {P : Program} {w : World} {laid : List (String × DataW Unit)} (h : laidMet P laid w) {name : String} {d : DataW Unit} (hm : (name, d) ∈ laid) {g n : Nat} {t e : TypeId} {k : IntKind}
    (hg : P.globalNamed name = some g) (hgt : (P.globals[g]?).map (·.type) = some t) (ht : P.underlying t = some (.array n e)) (he : P.underlying e = some (.int k)) (hc : P.cellsOf e = 1) (hct : P.cellsOf t = n)
    (l : List Nat) (hl : l.length = n) (hn : 0 < n) (hd : d = .agg (l.map fun x => .lit (.int k (.ofNat x)))) : ∃ t', w.heap[g]? = some (.cells ⟨l.map fun x => .int k (.ofNat x)⟩ t' (0, 0)) := by
  obtain ⟨ps, hps, _, hfz⟩ := h
  obtain ⟨g', t', cs, fuel, p, h1, h2, h3, h4, h5⟩ := laid_at hps hm
  obtain rfl : g = g' := Option.some.inj (hg.symm.trans h1)
  obtain rfl : t = t' := Option.some.inj (hgt.symm.trans h2)
  obtain ⟨xs, m, _, hx1, hlen, hxn, hel⟩ := DataW.trod_array ht h4
  simp only [Prod.mk.injEq] at hx1
  have hsz : cs.size = n := by rw [← hct, ← hlen]; simp
  have hcs : cs = ⟨l.map fun x => .int k (.ofNat x)⟩ := by
    apply Array.ext_getElem?
    intro i
    by_cases hi : i < n
    · have hc' := hel i hi
      rw [hc, Nat.mul_one, List.getElem?_eq_getElem (by omega)] at hc'
      obtain ⟨q, e1, e2, _⟩ := DataW.trod_int he hc'
      have h6 : (xs.map (·.1))[i]? = some (.lit (.int k (.ofNat (l[i]'(by omega))))) := by
        have := hx1.1
        rw [hd] at this
        injection this with this
        rw [← this, List.getElem?_map, List.getElem?_eq_getElem (by omega)]; rfl
      rw [List.getElem?_map, List.getElem?_eq_getElem (by omega), e2] at h6
      simp only [Option.map_some, Option.some.injEq, DataW.lit.injEq, Lit.int.injEq, true_and] at h6
      have h7 := take1_at e1
      rw [Array.getElem?_toList] at h7
      rw [h7, h6, List.getElem?_toArray, List.getElem?_map, List.getElem?_eq_getElem (by omega)]; rfl
    · rw [Array.getElem?_eq_none (by omega), Array.getElem?_eq_none (by simp; omega)]
  obtain ⟨⟨c, t2, hb⟩, _⟩ := hfz g 0 (h5 _ (by
    simp only [MemPlace.row, List.mem_map, List.mem_range]
    exact ⟨0, by omega, rfl⟩))
  refine ⟨t2, ?_⟩
  simp only [World.var?, hg, Option.bind_some, hb] at h3
  injection h3 with h3
  rw [hb, h3, hcs]
theorem b_conc (b : Bool) (s : Sg) : (AV.b b).conc s = some (.bool b) := by simp only [AV.conc]
theorem follows : Tryz.prog.follows .mixedOrders = true := by kernel_rfl
end Go.Proofs.YtcpophfchchpkaaGreatDoor
namespace Go.Proofs.YtcpophfchchpkaaGreatDoor
open Go Go.RowKit Go.Sy Go.ChangeAt Go.WideShapes
abbrev laid51 : List (String × DataW Unit) := [("math/bits.deBruijn64tab", Rows.laid_math_bits_deBruijn64tab), ("cubbyhole/script.kinds", Rows.laid_cubbyhole_script_kinds)]
theorem rows51 {W : World} (h : laidMetH Tryz.prog laid51 W) : ∃ t0 t1, RowsAt W (gs51 t0 t1) [] := by
  rw [MakeChecks.laidMetH_plain _ _ _ (by kernel_rfl)] at h
  obtain ⟨t0, h0⟩ := blk_of_laid h (name := "cubbyhole/script.kinds") (d := Rows.laid_cubbyhole_script_kinds) (by simp) (g := 0) (n := 16) (t := 102) (e := 3) (k := .i64) (by kernel_rfl) (by kernel_rfl) (by kernel_rfl) (by kernel_rfl) (by kernel_rfl) (by kernel_rfl) kindsN rfl (by decide) rfl
  obtain ⟨t1, h1⟩ := blk_of_laid h (name := "math/bits.deBruijn64tab") (d := Rows.laid_math_bits_deBruijn64tab) (by simp) (g := 1) (n := 64) (t := 538) (e := 5) (k := .u8) (by kernel_rfl) (by kernel_rfl) (by kernel_rfl) (by kernel_rfl) (by kernel_rfl) (by kernel_rfl) bruijnN rfl (by decide) rfl
  exact ⟨t0, t1, rows51_of h0 h1⟩
theorem gl51_laid {W : World} (h : laidMetH Tryz.prog laid51 W) : GL51 W := by
  rw [MakeChecks.laidMetH_plain _ _ _ (by kernel_rfl)] at h
  obtain ⟨t0, h0⟩ := blk_of_laid h (name := "cubbyhole/script.kinds") (d := Rows.laid_cubbyhole_script_kinds) (by simp) (g := 0) (n := 16) (t := 102) (e := 3) (k := .i64) (by kernel_rfl) (by kernel_rfl) (by kernel_rfl) (by kernel_rfl) (by kernel_rfl) (by kernel_rfl) kindsN rfl (by decide) rfl
  obtain ⟨t1, h1⟩ := blk_of_laid h (name := "math/bits.deBruijn64tab") (d := Rows.laid_math_bits_deBruijn64tab) (by simp) (g := 1) (n := 64) (t := 538) (e := 5) (k := .u8) (by kernel_rfl) (by kernel_rfl) (by kernel_rfl) (by kernel_rfl) (by kernel_rfl) (by kernel_rfl) bruijnN rfl (by decide) rfl
  exact ⟨t0, t1, h0, h1⟩
end Go.Proofs.YtcpophfchchpkaaGreatDoor
