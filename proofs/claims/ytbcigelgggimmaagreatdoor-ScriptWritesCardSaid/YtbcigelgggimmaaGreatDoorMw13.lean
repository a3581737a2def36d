/- Gl0, Gl, ScN, ScP, WrE, ArgsC, ArgsS, ArgsW -/
import Derived.Test.YtbcigelgggimmaaGreatDoorMw6
import Derived.Test.YtbcigelgggimmaaGreatDoorMw11
import Derived.Test.YtbcigelgggimmaaGreatDoorRows
import Derived.ProofKit
import Derived.LaidMore
import Derived.OpenShut
import Derived.Stop.Joined
import Derived.Test.YtbcigelgggimmaaGreatDoorMw12
import Derived.Test.YtbcigelgggimmaaGreatDoorMw8
import Derived.Lib.SmallJoins
import Derived.ChangeSlices
import Derived.Deep.Slices
namespace Go.Proofs.YtbcigelgggimmaaGreatDoor
open Go Go.RowKit Go.ChangeShapes Go.WideShapes Go.ChangeAt Go.WideMaps Go.WideElems Go.Sy
theorem laid_at {P : Program} {w : World} : ∀ {laid : List (String × DataW Unit)} {ps : List MemPlace}, DataW.LaidVars P w laid ps → ∀ {n : String} {d : DataW Unit}, (n, d) ∈ laid →
    ∃ g t cs fuel p, P.globalNamed n = some g ∧ (P.globals[g]?).map (·.type) = some t ∧ w.var? P n = some cs ∧ DataW.trod (fun _ => ()) P w 0 (fun _ => true) false fuel t cs.toList = some (d, p) ∧ ∀ x ∈ MemPlace.row ⟨g, 0, none⟩ cs.size, x ∈ ps
  | [], ps, h, n, d, hm => by cases hm
  | (n', d') :: r, ps, h, n, d, hm => by
    obtain ⟨g, t, cs, fuel, p, q, h1, h2, h3, h4, h5, rfl⟩ := h
    rcases List.mem_cons.1 hm with e | hm
    · injection e with e1 e2
      subst e1 e2
      exact ⟨g, t, cs, fuel, p, h1, h2, h3, h4, fun x hx => by simp [hx]⟩
    · obtain ⟨g', t', cs', f', p', k1, k2, k3, k4, k5⟩ := laid_at h5 hm
      exact ⟨g', t', cs', f', p', k1, k2, k3, k4, fun x hx => by simp [k5 x hx]⟩
theorem take1_at {α : Type} {l : List α} {i : Nat} {c : α} (h : (l.drop i).take 1 = [c]) : l[i]? = some c := by
  have h1 : ((l.drop i).take 1)[0]? = some c := by rw [h]; rfl
  rw [List.getElem?_take_of_lt (by omega), List.getElem?_drop, Nat.add_zero] at h1
  exact h1
/-- A variable that is an array of integers: its block. -/
theorem blk_of_laid {P : Program} {w : World} {laid : List (String × DataW Unit)} (h : laidMet P laid w) {name : String} {d : DataW Unit} (hm : (name, d) ∈ laid) {g n : Nat} {t e : TypeId} {k : IntKind}
    (hg : P.globalNamed name = some g) (hgt : (P.globals[g]?).map (·.type) = some t) (ht : P.underlying t = some (.array n e)) (he : P.underlying e = some (.int k)) (hc : P.cellsOf e = 1) (hct : P.cellsOf t = n)
    (l : List Nat) (hl : l.length = n) (hn : 0 < n) (hd : d = .agg (l.map fun x => .lit (.int k (.ofNat x)))) : ∃ t', w.heap[g]? = some (.cells ⟨l.map fun x => .int k (.ofNat x)⟩ t' (0, 0)) := by
  obtain ⟨ps, hps, _, hfz⟩ := h
  obtain ⟨g', t', cs, fuel, p, h1, h2, h3, h4, h5⟩ := laid_at hps hm
  obtain rfl : g = g' := Option.some.inj (hg.symm.trans h1)
  obtain rfl : t = t' := Option.some.inj (hgt.symm.trans h2)
  obtain ⟨xs, m, _, hx1, hlen, hxn, hel⟩ := DataW.trod_array ht h4
  simp only [Prod.mk.injEq] at hx1
  have hsz : cs.size = n := by rw [← hct, ← hlen]; simp
  have hcs : cs = ⟨l.map fun x => .int k (.ofNat x)⟩ := by
    apply Array.ext_getElem?
    intro i
    by_cases hi : i < n
    · have hc' := hel i hi
      rw [hc, Nat.mul_one, List.getElem?_eq_getElem (by omega)] at hc'
      obtain ⟨q, e1, e2, _⟩ := DataW.trod_int he hc'
      have h6 : (xs.map (·.1))[i]? = some (.lit (.int k (.ofNat (l[i]'(by omega))))) := by
        have := hx1.1
        rw [hd] at this
        injection this with this
        rw [← this, List.getElem?_map, List.getElem?_eq_getElem (by omega)]; rfl
      rw [List.getElem?_map, List.getElem?_eq_getElem (by omega), e2] at h6
      simp only [Option.map_some, Option.some.injEq, DataW.lit.injEq, Lit.int.injEq, true_and] at h6
      have h7 := take1_at e1
      rw [Array.getElem?_toList] at h7
      rw [h7, h6, List.getElem?_toArray, List.getElem?_map, List.getElem?_eq_getElem (by omega)]; rfl
    · rw [Array.getElem?_eq_none (by omega), Array.getElem?_eq_none (by simp; omega)]
  obtain ⟨⟨c, t2, hb⟩, _⟩ := hfz g 0 (h5 _ (by
    simp only [MemPlace.row, List.mem_map, List.mem_range]
    exact ⟨0, by omega, rfl⟩))
  refine ⟨t2, ?_⟩
  simp only [World.var?, hg, Option.bind_some, hb] at h3
  injection h3 with h3
  rw [hb, h3, hcs]
theorem b_conc (b : Bool) (s : Sg) : (AV.b b).conc s = some (.bool b) := by simp only [AV.conc]
theorem follows : Tryz.prog.follows .mixedOrders = true := by kernel_rfl
end Go.Proofs.YtbcigelgggimmaaGreatDoor
namespace Go.Proofs.YtbcigelgggimmaaGreatDoor
open Go Go.RowKit Go.ChangeShapes Go.WideShapes Go.ChangeAt Go.WideMaps Go.WideElems Go.Sy
abbrev laid26 : List (String × DataW Unit) := [("math/bits.deBruijn64tab", Rows.laid_math_bits_deBruijn64tab), ("cubbyhole/script.kinds", Rows.laid_cubbyhole_script_kinds)]
/-- The two variables lie in their blocks. -/
def GL (w : World) : Prop := ∃ t0 t1, w.heap[0]? = some (.cells ⟨kindsN.map fun x => .int .i64 (.ofNat x)⟩ t0 (0, 0)) ∧ w.heap[1]? = some (.cells ⟨bruijnN.map fun x => .int .u8 (.ofNat x)⟩ t1 (0, 0))
theorem gl_of_laid {W : World} (h : laidMetH Tryz.prog laid26 W) : GL W := by
  rw [MakeChecks.laidMetH_plain _ _ _ (by kernel_rfl)] at h
  obtain ⟨t0, h0⟩ := blk_of_laid h (name := "cubbyhole/script.kinds") (d := Rows.laid_cubbyhole_script_kinds) (by simp) (g := 0) (n := 16) (t := 108) (e := 3) (k := .i64) (by kernel_rfl) (by kernel_rfl) (by kernel_rfl) (by kernel_rfl) (by kernel_rfl) (by kernel_rfl) kindsN rfl (by decide) rfl
  obtain ⟨t1, h1⟩ := blk_of_laid h (name := "math/bits.deBruijn64tab") (d := Rows.laid_math_bits_deBruijn64tab) (by simp) (g := 1) (n := 64) (t := 442) (e := 5) (k := .u8) (by kernel_rfl) (by kernel_rfl) (by kernel_rfl) (by kernel_rfl) (by kernel_rfl) (by kernel_rfl) bruijnN rfl (by decide) rfl
  exact ⟨t0, t1, h0, h1⟩
theorem GL.below {w w' : World} {B : Nat} (h : GL w) (hb : Below B w w') (hB : 2 ≤ B) : GL w' := by
  obtain ⟨t0, t1, h0, h1⟩ := h
  exact ⟨t0, t1, (hb.block 0 (by omega)).trans h0, (hb.block 1 (by omega)).trans h1⟩
theorem GL.lt {w : World} (h : GL w) : 2 ≤ w.heap.size := by
  obtain ⟨t0, t1, h0, h1⟩ := h
  exact (Array.getElem?_eq_some_iff.1 h1).1
set_option maxRecDepth 100000 in
theorem known_any (w : World) (h : GL w) : Calls Tryz.prog 8 #[] w fun e w' => e = .returned (.bool true) ∧ Below w.heap.size w w' := by
  obtain ⟨t0, t1, h0, h1⟩ := h
  have hk : runP Tryz.prog orcL 100000 8 [] (.b true) (gs26 t0 t1) 0 := Eq.mpr (known_eval t0 t1) ⟨rfl, rfl, rfl, trivial⟩
  have hr : RowsAt w (gs26 t0 t1) [] := by
    refine rowsAt_globals (fun g hg => ?_) (fun g hg => ?_) <;> simp only [gs26, List.mem_cons, List.not_mem_nil, or_false] at hg
    · rcases hg with rfl | rfl <;> exact gInts_good _ _ _
    · rcases hg with rfl | rfl
      · exact ⟨(by decide : 0 < 64), h0⟩
      · exact ⟨(by decide : 1 < 64), h1⟩
  exact run_args follows orcL_ok hr (concL_nil.2 rfl) (b_conc true) hk
end Go.Proofs.YtbcigelgggimmaaGreatDoor
namespace Go.Proofs.YtbcigelgggimmaaGreatDoor
open Go Go.RowKit Go.Sy
def aCur : List AV := .p0 :: (List.replicate 65 (.i .u64 (.ofNat 0)))
def vCur : List Value := .pointer none :: (List.replicate 65 (.int .u64 0))
/-- No cursors: nil, or the zero ones. -/
def SZ (w : World) (s : Value) : Prop := s = .pointer none ∨ ∃ g, s = .pointer (some ⟨g, 0, none⟩) ∧ Blk w g 31 ⟨vCur⟩
theorem SZ.below {w w' : World} {s : Value} (h : SZ w s) (hb : Below w.heap.size w w') : SZ w' s := by
  rcases h with h | ⟨g, h1, h2⟩
  · exact .inl h
  · exact .inr ⟨g, h1, h2.below hb⟩
theorem none_sz (s : Value) (w : World) (h : SZ w s) : Calls Tryz.prog 64 #[s] w fun e w' => e = .returned (.bool true) ∧ w = w' := by
  rcases h with rfl | ⟨g, rfl, hg⟩
  · go_enter Tryz.func64, Tryz.ntmps64
    go_wp2_with fail
    go_ret
    exact ⟨rfl, rfl⟩
  · have hc : w.cell? ⟨g, 0, none⟩ = some (.pointer none) := hg.cell 0 _ rfl
    clear hg
    go_enter Tryz.func64, Tryz.ntmps64
    go_wp2_with fail
    go_ret
    exact ⟨rfl, rfl⟩
theorem cache_sz (s : Value) (w : World) (h : SZ w s) : Calls Tryz.prog 28 #[s] w fun e w' => e = .returned (.pointer none) ∧ w = w' := by
  have H := Lib.hid (none_sz s w h)
  clear h
  go_enter Tryz.func28, Tryz.ntmps28
  go_wp2_with fail
  refine H.out.mono ?_
  rintro e w1 ⟨rfl, rfl⟩
  go_wp2_with fail
  go_ret
  exact ⟨rfl, rfl⟩
theorem on_sz (s v : Value) (w : World) (h : SZ w s) : Calls Tryz.prog 9 #[s, v] w fun e w' => e = .returned (.tuple #[.slice none 0 0, .int .i64 1]) ∧ w = w' := by
  have H := Lib.hid (cache_sz s w h)
  clear h
  go_enter Tryz.func9, Tryz.ntmps9
  go_wp2_with fail
  refine H.out.mono ?_
  rintro e w1 ⟨rfl, rfl⟩
  go_wp2_with fail
  go_ret2
  exact ⟨rfl, rfl⟩
def z21 : Array Value := #[.int .i64 0, .int .u64 0, .string ⟨#[]⟩, .slice none 0 0, .int .u64 0, .int .i64 0, .int .i64 0, .int .i64 0, .int .u64 0, .int .u64 0, .int .i64 0, .bool false, .slice none 0 0, .string ⟨#[]⟩, .slice none 0 0, .int .u64 0, .int .u64 0, .int .i64 0, .slice none 0 0, .int .i64 0, .int .i64 0]
def az21 : List AV := [.i .i64 (.ofNat 0), .i .u64 (.ofNat 0), .s [], .sl0, .i .u64 (.ofNat 0), .i .i64 (.ofNat 0), .i .i64 (.ofNat 0), .i .i64 (.ofNat 0), .i .u64 (.ofNat 0), .i .u64 (.ofNat 0), .i .i64 (.ofNat 0), .b false, .sl0, .s [], .sl0, .i .u64 (.ofNat 0), .i .u64 (.ofNat 0), .i .i64 (.ofNat 0), .sl0, .i .i64 (.ofNat 0), .i .i64 (.ofNat 0)]
/-- An operation, of whose values nothing is known. -/
def aop (o : OpV) (V : Value) : AV := .agg [.ov (.int .i64 o.kind), .ov (.int .u64 o.ticks), .ov (.string o.key), .ov V, .ov (.int .u64 o.ttl), .ov (.int .i64 o.count), .ov (.int .i64 o.bytes), .ov (.int .i64 o.cursor), .ov (.int .u64 o.birth)]
theorem aop_conc (s : Sg) (o : OpV) (A : Option Addr) (n cap : Nat) : (aop o (.slice A n cap)).conc s = some (opv o (.slice A n cap)) := by
  simp [aop, AV.conc, concL, Value.oneCell', opv, opc]
def res0 : AV := .tup [.agg az21, .i .i64 (.ofNat 1)]
theorem res0_conc (s : Sg) : res0.conc s = some (.tuple #[.agg z21, .int .i64 1]) := by
  simp [res0, AV.conc, concL, az21, z21, Value.oneCell', Cap.fits]
theorem do0_eval (o : OpV) (V : Value) : runP Tryz.prog (fun _ => none) 1000 10 [.p0, aop o V] res0 [] 0 = (res0 = res0 ∧ True) := by kernel_rfl
theorem do1_eval (o : OpV) (V : Value) : runP Tryz.prog (fun _ => none) 1000 10 [.p 64 0, aop o V] res0 [(64, ⟨31, aCur, vCur⟩)] 1 = (res0 = res0 ∧ (31 = 31 ∧ True)) := by kernel_rfl
set_option maxRecDepth 100000 in
theorem do_sz (s : Value) (o : OpV) (A : Option Addr) (n cap : Nat) (w : World) (h : SZ w s) : Calls Tryz.prog 10 #[s, opv o (.slice A n cap)] w fun e w' => e = .returned (.tuple #[.agg z21, .int .i64 1]) ∧ Below w.heap.size w w' := by
  rcases h with rfl | ⟨g, rfl, hg⟩
  · exact run_vals follows orcOk_none (Args := [.pointer none, opv o (.slice A n cap)]) (concL_cons.2 ⟨_, _, by simp only [AV.conc], concL_cons.2 ⟨_, _, aop_conc _ o A n cap, concL_nil.2 rfl, rfl⟩, rfl⟩) res0_conc (Eq.mpr (do0_eval o _) ⟨rfl, trivial⟩) w
  · have hr : RowsAt w [(64, ⟨31, aCur, vCur⟩)] [g] := by
      refine ⟨fun y hy => ?_, fun y hy => ?_, fun y hy y' hy' b _ _ => ?_, by simp⟩
      · simp only [List.mem_cons, List.not_mem_nil, or_false] at hy
        subst hy
        refine ⟨fun s => ?_, fun v hv => ?_⟩
        · refine concL_cons.2 ⟨_, _, by simp only [AV.conc], ?_, rfl⟩
          have : ∀ n, concL s (List.replicate n (.i .u64 (.ofNat 0))) = some (List.replicate n (.int .u64 0)) := fun n => by
            induction n with
            | zero => exact concL_nil.2 rfl
            | succ n ih => exact concL_cons.2 ⟨_, _, by simp only [AV.conc]; rfl, ih, rfl⟩
          exact this 65
        · simp only [vCur, List.mem_cons, List.mem_replicate] at hv
          rcases hv with rfl | ⟨_, rfl⟩ <;> rfl
      · simp only [List.mem_cons, List.not_mem_nil, or_false] at hy
        subst hy
        exact ⟨g, by simp [sgB], hg⟩
      · simp only [List.mem_cons, List.not_mem_nil, or_false] at hy hy'
        subst hy hy'
        rfl
    exact run_args follows orcOk_none hr (Args := [.pointer (some ⟨g, 0, none⟩), opv o (.slice A n cap)]) (concL_cons.2 ⟨_, _, by simp [AV.conc, sgB], concL_cons.2 ⟨_, _, aop_conc _ o A n cap, concL_nil.2 rfl, rfl⟩, rfl⟩) res0_conc (Eq.mpr (do1_eval o _) ⟨rfl, rfl, trivial⟩)
theorem same0_eval : runP Tryz.prog (fun _ => none) 1000 11 [.agg az21, .agg az21] (.b true) [] 0 = (AV.b true = AV.b true ∧ True) := by kernel_rfl
set_option maxRecDepth 100000 in
theorem same0 (w : World) : Calls Tryz.prog 11 #[.agg z21, .agg z21] w fun e w' => e = .returned (.bool true) ∧ Below w.heap.size w w' := by
  have h1 : (AV.agg az21).conc (sgB []) = some (.agg z21) := by
    simp [AV.conc, concL, az21, z21, Value.oneCell', Cap.fits]
  exact run_vals follows orcOk_none (Args := [.agg z21, .agg z21]) (concL_cons.2 ⟨_, _, h1, concL_cons.2 ⟨_, _, h1, concL_nil.2 rfl, rfl⟩, rfl⟩) (b_conc true) (Eq.mpr same0_eval ⟨rfl, trivial⟩) w
/-- few: at most some operations, with short keys and values. -/
def fewO (o : OpV) : Bool := decide (o.key.size ≤ 300 ∧ o.val.length ≤ 300)
def FewRet (ps : List (OpV × Value)) (most : Nat) (w : World) (e : Ending) (w' : World) : Prop :=
  (∃ r, e = .returned (.bool r) ∧ (r = true → ps.length ≤ most ∧ ∀ p ∈ ps, fewO p.1 = true)) ∧ w = w'
set_option maxRecDepth 100000 in
set_option maxHeartbeats 4000000 in
theorem few_any (B : Nat) (v : Value) (ps : List (OpV × Value)) (most : Nat) (w : World) (ha : OpsAt w B v ps) (hm : most ≤ 1000) (hks : ∀ p ∈ ps, p.1.key.size ≤ maxLen) :
    Calls Tryz.prog 7 #[v, .int .i64 (most : Int)] w (FewRet ps most w) := by
  have hlm : ps.length ≤ maxLen := by obtain ⟨_, _, _, h1, h2, _⟩ := ha.form; omega
  unfold maxLen at hlm
  obtain ⟨A, cap, rfl⟩ := ha.slice
  have HA := Lib.hid ha
  have HKs := Lib.hid hks
  clear hks
  have hmI : (most : Int) ≤ 1000 := by omega
  obtain ⟨n, hn⟩ : ∃ n, ps.length = n := ⟨_, rfl⟩
  rw [hn] at HA hlm ⊢
  have HN := Lib.hid hn
  have hnI : (n : Int) ≤ 9223372036854775807 := by omega
  clear ha hn
  go_enter Tryz.func7, Tryz.ntmps7
  go_wp2_with fail
  go_loopw [5] (fun i wr => ∃ (m : Nat), m ≤ n ∧ m ≤ most ∧ i = .int .i64 m ∧ (∀ j p, j < m → ps[j]? = some p → fewO p.1 = true) ∧ w = wr) (fun i _ => n - (intOf i).toNat)
  case atStart => exact ⟨0, by omega, by omega, rfl, fun j p h => by omega, rfl⟩
  case round =>
    obtain ⟨m, hm1, hm2, rfl, hj, rfl⟩ := hrel
    have HJ := Lib.hid hj
    clear hj
    by_cases h1 : m < n
    · have h1I : (m : Int) < (n : Int) := by omega
      by_cases h2 : m < most
      · have h2I : (m : Int) < (most : Int) := by omega
        obtain ⟨⟨o, V⟩, hp⟩ : ∃ p, ps[m]? = some p := ⟨_, List.getElem?_eq_getElem (by have := HN.out; omega)⟩
        have hv := HA.out.vals _ (List.mem_of_getElem? hp)
        have hvl := hv.le
        obtain ⟨VA, vc, e1⟩ := hv.form
        dsimp only at hv e1 hvl
        subst e1
        obtain ⟨ga, oa, rfl, hga, z0, z1, z2, z3, z4, z5, z6, z7, z8⟩ := HA.out.at_ hp
        have hk := HKs.out _ (List.mem_of_getElem? hp)
        dsimp only at hk
        have HP := Lib.hid hp
        clear hp hv
        by_cases h3 : 300 < o.key.size
        · have h3I : (300 : Int) < (o.key.size : Int) := by omega
          go_wp2_with fail
          go_ret
          exact ⟨⟨false, rfl, fun h => by cases h⟩, rfl⟩
        · have h3I : ¬ (300 : Int) < (o.key.size : Int) := by omega
          by_cases h4 : 300 < o.val.length
          · have h4I : (300 : Int) < (o.val.length : Int) := by omega
            go_wp2_with fail
            go_ret
            exact ⟨⟨false, rfl, fun h => by cases h⟩, rfl⟩
          · have h4I : ¬ (300 : Int) < (o.val.length : Int) := by omega
            have HF : Hid (fewO o = true) := Lib.hid (decide_eq_true ⟨by omega, by omega⟩)
            go_wp2_with fail
            go_roundw
            case rel =>
              refine ⟨m + 1, by omega, by omega, by go_num, fun j p hj hp => ?_, trivial⟩
              by_cases e : j = m
              · subst e
                rw [HP.out] at hp
                injection hp with hp
                subst hp
                exact HF.out
              · exact HJ.out j p (by omega) hp
            case measure => simp [intOf]; omega
      · have h2I : ¬ (m : Int) < (most : Int) := by omega
        have h3I : ¬ (n : Int) ≤ (most : Int) := by omega
        go_wp2_with fail
        go_ret
        exact ⟨⟨false, rfl, fun h => by cases h⟩, rfl⟩
    · obtain rfl : m = n := by omega
      have h1I : ¬ (m : Int) < (m : Int) := by omega
      have h3I : (m : Int) ≤ (most : Int) := by omega
      go_wp2_with fail
      go_ret
      refine ⟨⟨true, rfl, fun _ => ⟨by have := HN.out; omega, fun p hp => ?_⟩⟩, rfl⟩
      obtain ⟨i, hi, hpi⟩ := List.getElem_of_mem hp
      exact HJ.out i p (by have := HN.out; omega) (by rw [List.getElem?_eq_getElem hi, hpi])
end Go.Proofs.YtbcigelgggimmaaGreatDoor
namespace Go.Proofs.YtbcigelgggimmaaGreatDoor
open Go Go.RowKit Go.Sy
theorem kg_of_gl {w : World} (h : GL w) : KG w := by
  have hl := h.lt
  obtain ⟨t0, t1, h0, h1⟩ := h
  refine ⟨by omega, fun i hi => ?_⟩
  simp only [World.cell?, h0]
  rcases (by omega : i = 0 ∨ i = 1 ∨ i = 2 ∨ i = 3 ∨ i = 4 ∨ i = 5 ∨ i = 6 ∨ i = 7 ∨ i = 8 ∨ i = 9 ∨ i = 10 ∨ i = 11 ∨ i = 12 ∨ i = 13 ∨ i = 14 ∨ i = 15) with rfl | rfl | rfl | rfl | rfl | rfl | rfl | rfl | rfl | rfl | rfl | rfl | rfl | rfl | rfl | rfl <;> rfl
theorem opsAt_nil (w : World) (B : Nat) : OpsAt w B (.slice none 0 0) [] := ⟨⟨none, 0, rfl, Nat.le_refl _, Nat.zero_le _, fun _ => rfl, fun h => by simp at h⟩, fun p hp => by simp at hp, fun p hp => by simp at hp⟩
set_option maxHeartbeats 2000000 in
theorem reads_any (Bv Bw : Nat) (V vw : Value) (rs : List UInt8) (ws : List (OpV × Value)) (e0 : Int) (w : World) (hv : Bts w Bv 5 V rs) (hB0 : 0 < Bv) (hBs : Bv ≤ w.heap.size) (hk : KG w) (hw : OpsAt w Bw vw ws) (hwl : ws.length ≤ 5000)
    (hok : (4096 < rs.length ∧ ws = [] ∧ e0 = 5) ∨ (rs.length ≤ 4096 ∧ ws.map Prod.fst = rdOps rs ∧ e0 = 0)) :
    Calls Tryz.prog 12 #[V, vw, .int .i64 e0] w fun e w' => e = .returned (.bool true) ∧ Below w.heap.size w w' := by
  have HP := Lib.hid (parse_any Bv V rs w hv hB0 hBs hk)
  obtain ⟨A, cap, rfl⟩ := hv.form
  obtain ⟨AW, wc, rfl⟩ := hw.slice
  have HW := Lib.hid hw
  rcases hok with ⟨h1, rfl, rfl⟩ | ⟨h1, h2, rfl⟩
  · have HR : Hid (∀ e w', ParseRet Bv rs w e w' → e = .returned (.tuple #[.slice none 0 0, .int .i64 5]) ∧ Below w.heap.size w w') := Lib.hid fun e w' h => by unfold ParseRet at h; rw [if_pos h1] at h; exact h
    generalize rs.length = n at HP HR ⊢
    clear hv hw hk hB0 hBs h1
    go_enter Tryz.func12, Tryz.ntmps12
    go_wp2_with fail
    refine HP.out.mono ?_
    intro e w1 hret
    obtain ⟨rfl, hb⟩ := HR.out _ _ hret
    have HB := Lib.hid hb
    clear hret hb
    go_wp2_with fail
    refine (ops26_any 0 Bw _ _ [] [] _ (opsAt_nil _ _) (HW.out.below HB.out) (by simp) (by simp)).mono ?_
    rintro e w2 ⟨⟨r, rfl, hr⟩, hb2⟩
    have hr : r = true := hr.2 rfl
    subst hr
    have HB2 := Lib.hid (HB.out.trans (hb2.mono HB.out.size))
    clear hb2
    go_wp2_with fail
    go_ret
    exact ⟨rfl, HB2.out⟩
  · have HR : Hid (∀ e w', ParseRet Bv rs w e w' → ∃ v ps, e = .returned (.tuple #[v, .int .i64 0]) ∧ ps.map Prod.fst = rdOps rs ∧ OpsOwn w' w.heap.size Bv v ps ∧ Below w.heap.size w w') := Lib.hid fun e w' h => by unfold ParseRet at h; rw [if_neg (by omega)] at h; exact h
    have HE := Lib.hid h2
    have hrl := rdOps_len rs.length rs (Nat.le_refl _)
    have HL : Hid ((rdOps rs).length ≤ 5000) := Lib.hid (by omega)
    have HWl := Lib.hid hwl
    obtain ⟨m, hm⟩ : ∃ m, ws.length = m := ⟨_, rfl⟩
    rw [hm] at HW ⊢
    generalize rs.length = n at HP HR ⊢
    clear hv hw hk hB0 hBs h1 h2 hrl hwl
    go_enter Tryz.func12, Tryz.ntmps12
    go_wp2_with fail
    refine HP.out.mono ?_
    intro e w1 hret
    obtain ⟨v, ps, rfl, hps, hown, hb⟩ := HR.out _ _ hret
    obtain ⟨A5, c5, rfl⟩ := hown.at_.slice
    have HB := Lib.hid hb
    have HO := Lib.hid hown
    have HPs := Lib.hid hps
    have hpl : ps.length ≤ 5000 := by have h3 := HL.out; rw [← hps, List.length_map] at h3; exact h3
    have HPl := Lib.hid hpl
    clear hret hb hown hps hpl hm
    go_wp2_with fail
    refine (ops26_any Bv Bw _ _ ps ws _ HO.out.at_ (HW.out.below HB.out) (by have := HPl.out; omega) (by have := HWl.out; omega)).mono ?_
    rintro e w2 ⟨⟨r, rfl, hr⟩, hb2⟩
    have hr : r = true := hr.2 (by rw [HPs.out, HE.out])
    subst hr
    have HB2 := Lib.hid (HB.out.trans (hb2.mono HB.out.size))
    clear hb2
    go_wp2_with fail
    go_ret
    exact ⟨rfl, HB2.out⟩
end Go.Proofs.YtbcigelgggimmaaGreatDoor
namespace Go.Proofs.YtbcigelgggimmaaGreatDoor
open Go Go.RowKit Go.Sy
theorem OpsAt.src {w : World} {B : Nat} {A : Option Addr} {n cap : Nat} {ps : List (OpV × Value)} (h : OpsAt w B (.slice A n cap) ps) : Src w 9 A n (ocs ps) := by
  obtain ⟨⟨A', cap', e, h1, h2, h3, h4⟩, h5, h6⟩ := h
  injection e with e1 e2 e3
  subst e1 e2
  refine ⟨ocs_length ps, h3, fun a ha j u hu => ?_⟩
  have hj := (List.getElem?_eq_some_iff.1 hu).1
  rw [ocs_length] at hj
  obtain ⟨b, off, hA, hlt, hc⟩ := h4 (by omega)
  rw [ha] at hA
  injection hA with hA
  subst hA
  have hi : j / 9 < ps.length := by omega
  have hp : ps[j / 9]? = some ps[j / 9] := List.getElem?_eq_getElem hi
  have e9 : j = j / 9 * 9 + j % 9 := by omega
  have h9 : j % 9 < 9 := Nat.mod_lt _ (by decide)
  rw [add_plain]
  have := hc (j / 9) _ hp (j % 9) u (by rw [← ocs_at ps (j / 9) (j % 9) _ hp h9, ← e9]; exact hu)
  rwa [← e9] at this
/-- What holds between two rounds of the first loop. -/
structure WwI (w wr : World) (va v : Value) (ps : List (OpV × Value)) (k : Nat) : Prop where
  ops : OpsAt wr w.heap.size va ps
  row : wr.ownsRow w.heap.size 5 1 v (wantP ((ps.take k).map Prod.fst)).length (bcells (wantP ((ps.take k).map Prod.fst)))
  gl : GL wr
  below : Below w.heap.size w wr
theorem WwI.adv {w wr W : World} {va v : Value} {ps : List (OpV × Value)} {k : Nat} (h : WwI w wr va v ps k) (hb : Below wr.heap.size wr W) : WwI w W va v ps k :=
  ⟨h.ops.below hb, own_later h.row hb, h.gl.below hb h.gl.lt, h.below.trans (hb.mono h.below.size)⟩
theorem wantP_len (os : List OpV) : (wantP os).length ≤ 292 * os.length := by
  induction os with
  | nil => simp [wantP]
  | cons o os ih =>
    have h1 : wantP (o :: os) = bytesP o ++ wantP os := by simp [wantP]
    have := bytesP_len o
    rw [h1, List.length_append, List.length_cons]
    omega
theorem take_snoc {ps : List (OpV × Value)} {k : Nat} {p : OpV × Value} (h : ps[k]? = some p) : (ps.take (k + 1)).map Prod.fst = (ps.take k).map Prod.fst ++ [p.1] := by
  rw [List.take_add_one, h, List.map_append]; rfl
theorem WwI.step {w wr W W8 : World} {va v v8 : Value} {ps : List (OpV × Value)} {k n : Nat} {p : OpV × Value} (h : WwI w wr va v ps k) (h0 : OpsAt w w.heap.size va ps) (g0 : GL w) (hp : ps[k]? = some p) (hb : Below wr.heap.size wr W)
    (ho : W8.ownsRow w.heap.size 5 1 v8 n (bcells (wantP ((ps.take k).map Prod.fst)) ++ bcells (bytesP p.1))) (hn : n = (wantP ((ps.take k).map Prod.fst)).length + (bytesP p.1).length) (hg : W.grownBy W8 v.ownBlock) : WwI w W8 va v8 ps (k + 1) := by
  have hbl : Below w.heap.size w W8 := (h.below.trans (hb.mono h.below.size)).grown hg (h.below.trans (hb.mono h.below.size)).size (by intro k hk; exact (row_heap h.row hk).1)
  refine ⟨h0.below hbl, ?_, g0.below hbl g0.lt, hbl⟩
  rw [take_snoc hp, wantP_append, show wantP [p.1] = bytesP p.1 by simp [wantP], List.length_append, ← hn, show bcells (wantP ((ps.take k).map Prod.fst) ++ bytesP p.1) = bcells (wantP ((ps.take k).map Prod.fst)) ++ bcells (bytesP p.1) by simp [bcells]]
  exact ho
def okP (os : List OpV) : Bool := os.all validP
theorem okP_snoc (os : List OpV) (o : OpV) : okP (os ++ [o]) = (okP os && validP o) := by simp [okP]
/-- What holds between two rounds of the second loop. -/
structure WxI (w wr : World) (v vl : Value) (ps : List (OpV × Value)) (k : Nat) : Prop where
  long : wr.ownsRow w.heap.size 41 9 vl (ps.length + k) (ocs (ps ++ List.replicate k (advO, .slice none 0 0)))
  vals : ∀ p ∈ ps, Bts wr w.heap.size 5 p.2 p.1.val
  row : wr.ownsRow w.heap.size 5 1 v ((wantP (ps.map Prod.fst)).length + k) (bcells (wantP (ps.map Prod.fst) ++ List.replicate k 9))
  gl : GL wr
  below : Below w.heap.size w wr
theorem WxI.ops {w wr : World} {v vl : Value} {ps : List (OpV × Value)} {k : Nat} (h : WxI w wr v vl ps k) (hw : ∀ p ∈ ps, 0 ≤ p.1.ticks) : OpsAt wr w.heap.size vl (ps ++ List.replicate k (advO, .slice none 0 0)) := by
  have hl : (ps ++ List.replicate k (advO, (.slice none 0 0 : Value))).length = ps.length + k := by simp
  refine OpsAt.of_own (base := w.heap.size) (by rw [hl]; exact h.long) (fun p hp => ?_) (fun p hp => ?_)
  · rcases List.mem_append.1 hp with hp | hp
    · exact h.vals p hp
    · rw [(List.mem_replicate.1 hp).2]; exact Bts.nil _ _ _
  · rcases List.mem_append.1 hp with hp | hp
    · exact hw p hp
    · rw [(List.mem_replicate.1 hp).2]; exact Int.le_refl _
/-- What is to be written. -/
theorem wr_long (ps : List (OpV × Value)) (k : Nat) (ht : ∀ p ∈ ps, 0 ≤ p.1.ticks) : wrOps ((ps ++ List.replicate k (advO, (.slice none 0 0 : Value))).map Prod.fst) = if okP (ps.map Prod.fst) then some (wantP (ps.map Prod.fst) ++ List.replicate k 9) else none := by
  rw [wrOps_want _ (fun o ho => by
    obtain ⟨p, hp, rfl⟩ := List.mem_map.1 ho
    rcases List.mem_append.1 hp with hp | hp
    · exact ht p hp
    · rw [(List.mem_replicate.1 hp).2]; exact Int.le_refl _)]
  have e : (ps ++ List.replicate k (advO, (.slice none 0 0 : Value))).map Prod.fst = ps.map Prod.fst ++ List.replicate k advO := by simp
  rw [e, wantP_append, want_adv]
  have e2 : (ps.map Prod.fst ++ List.replicate k advO).all validP = okP (ps.map Prod.fst) := by
    unfold okP
    rw [List.all_append]
    have : (List.replicate k advO).all validP = true := by
      rw [List.all_eq_true]
      intro o ho
      rw [(List.mem_replicate.1 ho).2]; exact valid_adv
    rw [this, Bool.and_true]
  rw [e2]
/-- The row of bytes stays when the operations' row grows. -/
theorem WxI.keep {wr w3 : World} {b1 b2 : Nat} {vl v : Value} {n m : Nat} {xs : List Value} {ys : List Value} {ob : Obj} (h1 : wr.ownsRow b1 41 9 vl n xs) (h2 : wr.ownsRow b2 5 1 v m ys) (hg : (wr.alloc ob).grownBy w3 vl.ownBlock) : w3.ownsRow b2 5 1 v m ys := by
  have ho : Only (fun k => vl.ownBlock = some k) wr w3 := ((Only.refl _ wr).alloc ob).trans (Only.of_grown hg) (fun _ _ e => e)
  refine ownsRow_only h2 ho (fun k hk e => ?_)
  obtain ⟨_, cur, hc⟩ := row_heap h2 hk
  obtain ⟨_, cur2, hc2⟩ := row_heap h1 e
  rw [hc] at hc2
  injection hc2 with hc2
  injection hc2 with _ ht
  exact absurd ht (by decide)
theorem WxI.keep2 {wr w3 : World} {b1 b2 : Nat} {vl v : Value} {n m : Nat} {xs : List Value} {ys : List Value} {ob : Obj} (h1 : wr.ownsRow b1 5 1 vl n xs) (h2 : wr.ownsRow b2 41 9 v m ys) (hg : (wr.alloc ob).grownBy w3 vl.ownBlock) : w3.ownsRow b2 41 9 v m ys := by
  have ho : Only (fun k => vl.ownBlock = some k) wr w3 := ((Only.refl _ wr).alloc ob).trans (Only.of_grown hg) (fun _ _ e => e)
  refine ownsRow_only h2 ho (fun k hk e => ?_)
  obtain ⟨_, cur, hc⟩ := row_heap h2 hk
  obtain ⟨_, cur2, hc2⟩ := row_heap h1 e
  rw [hc] at hc2
  injection hc2 with hc2
  injection hc2 with _ ht
  exact absurd ht (by decide)
theorem WxI.step {w wr w3 w5 : World} {v vl v3 v5 : Value} {ps : List (OpV × Value)} {j B : Nat} {vo : Value} {ob ob2 : Obj} (h : WxI w wr v vl ps j) (h0 : OpsAt w B vo ps) (g0 : GL w) (hB : B = w.heap.size)
    (ho3 : w3.ownsRow w.heap.size 41 9 v3 (ps.length + j + 1) (ocs (ps ++ List.replicate j (advO, .slice none 0 0)) ++ opcs advO (.slice none 0 0))) (hg3 : (wr.alloc ob).grownBy w3 vl.ownBlock)
    (hrow3 : w3.ownsRow w.heap.size 5 1 v ((wantP (ps.map Prod.fst)).length + j) (bcells (wantP (ps.map Prod.fst) ++ List.replicate j 9)))
    (ho5 : w5.ownsRow w.heap.size 5 1 v5 ((wantP (ps.map Prod.fst)).length + j + 1) (bcells (wantP (ps.map Prod.fst) ++ List.replicate j 9) ++ [.int .u8 9])) (hg5 : (w3.alloc ob2).grownBy w5 v.ownBlock) : WxI w w5 v5 v3 ps (j + 1) := by
  subst hB
  have hs := h.below.size
  have hb3 : Below w.heap.size w w3 := (h.below.alloc hs ob).grown hg3 (by simp; omega) (by intro k hk; exact (row_heap h.long hk).1)
  have hb5 : Below w.heap.size w w5 := (hb3.alloc hb3.size ob2).grown hg5 (by have := hb3.size; simp; omega) (by intro k hk; exact (row_heap hrow3 hk).1)
  refine ⟨?_, fun p hp => (h0.vals p hp).below hb5, ?_, g0.below hb5 g0.lt, hb5⟩
  · have := WxI.keep2 hrow3 ho3 hg5
    rw [show ps.length + (j + 1) = ps.length + j + 1 by omega, show ocs (ps ++ List.replicate (j + 1) (advO, (.slice none 0 0 : Value))) = ocs (ps ++ List.replicate j (advO, .slice none 0 0)) ++ opcs advO (.slice none 0 0) by rw [List.replicate_succ', ← List.append_assoc, ocs_append]; simp [ocs]]
    exact this
  · rw [show (wantP (ps.map Prod.fst)).length + (j + 1) = (wantP (ps.map Prod.fst)).length + j + 1 by omega, show bcells (wantP (ps.map Prod.fst) ++ List.replicate (j + 1) 9) = bcells (wantP (ps.map Prod.fst) ++ List.replicate j 9) ++ [.int .u8 9] by simp [bcells, List.replicate_succ']]
    exact ho5
set_option maxRecDepth 100000 in
set_option maxHeartbeats 8000000 in
theorem writes_walk (v : Value) (ps : List (OpV × Value)) (many : Int) (w : World) (ho : OpsAt w w.heap.size v ps) (hkw : ∀ q ∈ ps, q.1.key.size ≤ maxLen ∧ OpWf q.1) (_hwf : (Lit.int .i64 many).wf = true) (hg : GL w) :
    Calls Tryz.prog 5 #[v, .int .i64 many] w fun e w' => e = .returned (.bool true) ∧ Below w.heap.size w w' := by
  obtain ⟨i0, hi0, hz0, hz1, hz2⟩ := info_parts u8_info
  obtain ⟨j0, kj0, jz0, jz1, jz2⟩ := info_parts op_info
  have HFew := Lib.hid (few_any w.heap.size v ps 30 w ho (by omega) (fun p hp => (hkw p hp).1))
  have HWf : Hid (∀ q ∈ ps, OpWf q.1) := Lib.hid (fun q hq => (hkw q hq).2)
  have hlm : ps.length ≤ maxLen := by obtain ⟨_, _, _, h1, h2, _⟩ := ho.form; omega
  unfold maxLen at hlm
  obtain ⟨A, cap, rfl⟩ := ho.slice
  have HO := Lib.hid ho
  have HG := Lib.hid hg
  have HB0 : Hid (Below w.heap.size w w) := Lib.hid (Below.refl _ _)
  have hnI : (ps.length : Int) ≤ 9223372036854775807 := by omega
  obtain ⟨n, hn⟩ : ∃ n, ps.length = n := ⟨_, rfl⟩
  rw [hn] at hnI HO HFew ⊢
  have HN := Lib.hid hn
  clear ho hg hkw hlm hn _hwf
  go_enter Tryz.func5, Tryz.ntmps5
  go_wp2_with fail
  refine HFew.out.mono ?_
  rintro e w1 ⟨⟨r, rfl, hr⟩, rfl⟩
  have HR := Lib.hid hr
  clear hr HFew
  cases r with
  | false =>
    go_wp2_with fail
    refine (known_any _ (HG).out).mono ?_
    rintro e w9 ⟨rfl, hb9⟩
    have HB9 := Lib.hid ((HB0).out.trans (hb9.mono (HB0).out.size))
    clear hb9
    go_wp2_with fail
    go_ret
    exact ⟨rfl, HB9.out⟩
  | true =>
    have hn30 : n ≤ 30 := by have := (HR.out rfl).1; have := HN.out; omega
    have HN30 := Lib.hid hn30
    have hnI30 : (n : Int) ≤ 30 := by omega
    clear HR hn30
    go_wp2_with fail
    go_loopw [5, 6, 7] (fun vw fine i wr => ∃ k : Nat, k ≤ n ∧ i = .int .i64 k ∧ fine = .bool (okP ((ps.take k).map Prod.fst)) ∧ WwI w wr (.slice A n cap) vw ps k) (fun _ _ i _ => n - (intOf i).toNat)
    case atStart => exact ⟨0, by omega, rfl, rfl, HO.out, World.ownsRow_nil _ _ _ _, HG.out, HB0.out⟩
    case round =>
      obtain ⟨k, hk, rfl, rfl, hI⟩ := hrel
      have HI := Lib.hid hI
      have hrow := HI.out.row
      obtain ⟨A9, c9, rfl, _, _⟩ := own_form hrow
      clear hI hrow
      by_cases hkn : k < n
      · obtain ⟨⟨o, V⟩, hp⟩ : ∃ p, ps[k]? = some p := ⟨_, List.getElem?_eq_getElem (by rw [HN.out]; exact hkn)⟩
        obtain ⟨g, off, rfl, -, -⟩ := HI.out.ops.at_ hp
        have hmem := List.mem_of_getElem? hp
        obtain ⟨VA, vc, hV⟩ := (HI.out.ops.vals _ hmem).form
        dsimp only at hV
        subst hV
        have HP := Lib.hid hp
        have HM := Lib.hid hmem
        have HWo : Hid (OpWf o) := Lib.hid (HWf.out _ hmem)
        have HS : Hid (okP ((ps.take (k + 1)).map Prod.fst) = (okP ((ps.take k).map Prod.fst) && validP o)) := Lib.hid (by rw [take_snoc hp, okP_snoc])
        obtain ⟨b, hb⟩ : ∃ b, validP o = b := ⟨_, rfl⟩
        have hb' : (wrOp o).isSome = b := by rw [← validP_eq o HWo.out.ticks]; exact hb
        rw [hb] at HS
        have HC1 := Lib.hid (fun W (hW : WwI w W (.slice (some ⟨g, off, none⟩) n cap) (.slice A9 (wantP ((ps.take k).map Prod.fst)).length c9) ps k) => hb' ▸ valid_any w.heap.size o (.slice VA o.val.length vc) W (hW.ops.vals _ HM.out) (kg_of_gl hW.gl) HWo.out.ticks)
        have HC2 := Lib.hid (fun W (hW : WwI w W (.slice (some ⟨g, off, none⟩) n cap) (.slice A9 (wantP ((ps.take k).map Prod.fst)).length c9) ps k) => hb ▸ refValid_any w.heap.size o (.slice VA o.val.length vc) W (hW.ops.vals _ HM.out) (kg_of_gl hW.gl) HWo.out)
        have HC3 := Lib.hid (fun W (hW : WwI w W (.slice (some ⟨g, off, none⟩) n cap) (.slice A9 (wantP ((ps.take k).map Prod.fst)).length c9) ps k) => refBytes_any w.heap.size o (.slice VA o.val.length vc) W (hW.ops.vals _ HM.out) (kg_of_gl hW.gl) HWo.out)
        unfold opv opc at HC1 HC2 HC3
        have HLw := Lib.hid (wantP_len ((ps.take k).map Prod.fst))
        have HTk : Hid ((ps.take k).length ≤ 30) := Lib.hid (by rw [List.length_take]; have := HN30.out; omega)
        obtain ⟨fi, hfi⟩ : ∃ fi, okP ((ps.take k).map Prod.fst) = fi := ⟨_, rfl⟩
        rw [hfi] at HS
        obtain ⟨wl, hwl⟩ : ∃ wl, (wantP ((ps.take k).map Prod.fst)).length = wl := ⟨_, rfl⟩
        have hwl8 : wl ≤ 8760 := by have := HLw.out; have := HTk.out; rw [List.length_map] at *; omega
        have HWl := Lib.hid hwl
        have HW8 := Lib.hid hwl8
        rw [hwl] at HI HC1 HC2 HC3
        rw [hfi, hwl]
        have g1 : (b != b) = false := by cases b <;> rfl
        have hkI : (k : Int) < (n : Int) := by omega
        have hk0 : (0 : Int) ≤ (k : Int) := by omega
        clear hp hmem hb hb' hfi hwl hwl8 HLw HTk
        go_upto_region 8 with fail
        refine wp_region_noPanic ?_
        refine wp_region_held_drew (S := fun W => WwI w W (.slice (some ⟨g, off, none⟩) n cap) (.slice A9 wl c9) ps k) (by kernel_rfl) (HI.out.adv (Below.refl _ _).drew) (fun hHeld => ?_)
        refine Pl.go [0, 1, 2, 3] ?_
        iterate 4
          refine tkl (v := ?_) ?_ ?_
          rotate_left 1
          · intro W hSw
            obtain ⟨z0, z1, z2, z3, z4, z5, z6, z7, z8⟩ := hSw.ops.atI HP.out
            clear hSw
            go_simp
            try with_reducible rfl
          try dsimp only [zS, zB, zC]
        refine Pl.stop ?_
        refine Pl.go [5, 6, 7, 8] ?_
        iterate 4
          refine tkl (v := ?_) ?_ ?_
          rotate_left 1
          · intro W hSw
            obtain ⟨z0, z1, z2, z3, z4, z5, z6, z7, z8⟩ := hSw.ops.atI HP.out
            clear hSw
            go_simp
            try with_reducible rfl
          try dsimp only [zS, zB, zC]
        refine Pl.stop ?_
        have HCw := Lib.hid (HC1.out _ hHeld)
        have HH := Lib.hid hHeld
        refine wpAnyH_ready (rs := [4]) (by kernel_rfl) (by simp) ?_
        refine AllReadyH.cons (o := ⟨_, _, _, _, _, _⟩) rfl (fun F hF => ?_) AllReadyH.nil
        go_simp
        refine HCw.out.mono ?_
        rintro e w4 ⟨rfl, hb4⟩
        have HI4 := Lib.hid (HH.out.adv hb4)
        clear hHeld HH HCw hb4
        go_wp2_with fail
        refine hF.out _ _ HI4.out (fun hHeld => ?_)
        clear hF F HI4
        try simp only [Act.put, zA, zB, zC]
        have HCw := Lib.hid (HC2.out _ hHeld)
        have HH := Lib.hid hHeld
        refine wpAnyH_ready (rs := [9]) (by kernel_rfl) (by simp) ?_
        refine AllReadyH.cons (o := ⟨_, _, _, _, _, _⟩) rfl (fun F hF => ?_) AllReadyH.nil
        go_simp
        refine HCw.out.mono ?_
        rintro e w4 ⟨rfl, hb4⟩
        have HI4 := Lib.hid (HH.out.adv hb4)
        clear hHeld HH HCw hb4
        go_wp2_with fail
        refine hF.out _ _ HI4.out (fun hHeld => ?_)
        clear hF F HI4
        try simp only [Act.put, zA, zB, zC]
        refine tk 10 (v := ?_) ?_ ?_
        rotate_left 1
        · intro W hSw
          obtain ⟨z0, z1, z2, z3, z4, z5, z6, z7, z8⟩ := hSw.ops.atI HP.out
          clear hSw
          go_simp
          try with_reducible rfl
        try dsimp only [zS, zB, zC]
        refine wpAnyH_done (by kernel_rfl) ?_ _
        refine NoPanic.normal ?_
        have HI5 := Lib.hid hHeld
        clear hHeld HC1
        obtain ⟨z0, z1, z2, z3, z4, z5, z6, z7, z8⟩ := HI5.out.ops.atI HP.out
        cases fi with
        | true =>
          go_wp2_with fail
          refine (HC2.out _ HI5.out).mono ?_
          rintro e w5 ⟨rfl, hb5⟩
          have HI6 := Lib.hid (HI5.out.adv hb5)
          clear hb5 HI5 z0 z1 z2 z3 z4 z5 z6 z7 z8 HC2
          obtain ⟨z0, z1, z2, z3, z4, z5, z6, z7, z8⟩ := HI6.out.ops.atI HP.out
          go_wp2_with fail
          refine (HC3.out _ HI6.out).mono ?_
          rintro e w6 ⟨v2, rfl, hown2, hb6⟩
          obtain ⟨A2, k2, rfl, _, _⟩ := own_form hown2
          have HR6 := Lib.hid (own_later HI6.out.row hb6)
          have HO2 := Lib.hid hown2
          have HB6 := Lib.hid hb6
          have HBl := Lib.hid (bytesP_len o)
          clear hown2 hb6 HC3 z0 z1 z2 z3 z4 z5 z6 z7 z8
          go_wp2_with (at_builtin; refine wpList_append_src _ rfl _ _ _ rfl w.heap.size 5 i0 _ 1 1 Tryz.underlying39 hi0 hz0 hz1 hz2 rfl (by decide) _ _ _ rfl HR6.out A2 (bytesP o).length k2 (bcells (bytesP o)) rfl (Bts.of_own HO2.out 0).src_at.2 (bcells_one _) (by have := HWl.out; have := HW8.out; have := HBl.out; unfold maxLen; omega) (by have := HWl.out; have := HW8.out; have := HBl.out; omega) (by have := HI6.out.below.size; have := HB6.out.size; omega) ?_; intro v8 w8 hown8 hg8 hat8)
          have hst := HI6.out.step HO.out HG.out HP.out HB6.out hown8 rfl hg8
          have HSt := Lib.hid hst
          clear hst hown8 hg8 hat8
          go_roundw
          case rel => exact ⟨k + 1, by omega, by go_num, by rw [HS.out]; rfl, HSt.out⟩
          case measure => simp [intOf]; omega
        | false =>
          have HI6 := HI5
          clear HI5 HC2
          go_wp2_with fail
          refine (HC3.out _ HI6.out).mono ?_
          rintro e w6 ⟨v2, rfl, hown2, hb6⟩
          obtain ⟨A2, k2, rfl, _, _⟩ := own_form hown2
          have HR6 := Lib.hid (own_later HI6.out.row hb6)
          have HO2 := Lib.hid hown2
          have HB6 := Lib.hid hb6
          have HBl := Lib.hid (bytesP_len o)
          clear hown2 hb6 HC3 z0 z1 z2 z3 z4 z5 z6 z7 z8
          go_wp2_with (at_builtin; refine wpList_append_src _ rfl _ _ _ rfl w.heap.size 5 i0 _ 1 1 Tryz.underlying39 hi0 hz0 hz1 hz2 rfl (by decide) _ _ _ rfl HR6.out A2 (bytesP o).length k2 (bcells (bytesP o)) rfl (Bts.of_own HO2.out 0).src_at.2 (bcells_one _) (by have := HWl.out; have := HW8.out; have := HBl.out; unfold maxLen; omega) (by have := HWl.out; have := HW8.out; have := HBl.out; omega) (by have := HI6.out.below.size; have := HB6.out.size; omega) ?_; intro v8 w8 hown8 hg8 hat8)
          have hst := HI6.out.step HO.out HG.out HP.out HB6.out hown8 rfl hg8
          have HSt := Lib.hid hst
          clear hst hown8 hg8 hat8
          go_roundw
          case rel => exact ⟨k + 1, by omega, by go_num, by rw [HS.out]; rfl, HSt.out⟩
          case measure => simp [intOf]; omega
      · obtain rfl : k = n := by omega
        have hkI : ¬ (k : Int) < (k : Int) := by omega
        have htk : ps.take k = ps := List.take_of_length_le (by rw [HN.out]; exact Nat.le_refl _)
        have HTk := Lib.hid htk
        rw [htk] at ⊢
        have hwlb := wantP_len (ps.map Prod.fst)
        obtain ⟨fi, hfi⟩ : ∃ fi, okP (ps.map Prod.fst) = fi := ⟨_, rfl⟩
        obtain ⟨wl, hwl⟩ : ∃ wl, (wantP (ps.map Prod.fst)).length = wl := ⟨_, rfl⟩
        have hwl8 : wl ≤ 8760 := by rw [List.length_map] at hwlb; have := HN30.out; have := HN.out; omega
        have HFi := Lib.hid hfi
        have HWl := Lib.hid hwl
        have HW8 := Lib.hid hwl8
        rw [htk, hwl] at HI
        rw [hfi, hwl]
        clear htk hwlb hfi hwl hwl8
        obtain ⟨Wr, hWr⟩ : ∃ Wr, Wr = wr := ⟨_, rfl⟩
        subst hWr
        obtain ⟨K, hK⟩ : ∃ K : Nat, (4050 ≤ many ∧ many ≤ 4100 ∧ many = (K : Int)) ∨ (¬ (4050 ≤ many ∧ many ≤ 4100) ∧ K = 0) := by
          by_cases h : 4050 ≤ many ∧ many ≤ 4100
          · exact ⟨many.toNat, .inl ⟨h.1, h.2, by omega⟩⟩
          · exact ⟨0, .inr ⟨h, rfl⟩⟩
        have HK := Lib.hid hK
        have HK4 : Hid (K ≤ 4100) := Lib.hid (by omega)
        have HOn : Hid (∀ u ∈ ocs ps, u.oneCell' = true) := Lib.hid (ocs_one ps (fun p hp => by
          obtain ⟨A, c, e⟩ := (HO.out.vals p hp).form
          exact ⟨A, _, c, e⟩))
        clear hK
        go_wp2_with (at_builtin; refine wpList_append_src _ rfl _ _ _ rfl w.heap.size 41 j0 _ 9 96 Tryz.underlying22 kj0 jz0 jz1 jz2 rfl (by decide) _ 0 [] rfl (World.ownsRow_nil _ _ _ _) A k cap (ocs ps) rfl HI.out.ops.src HOn.out (by have := HN30.out; unfold maxLen; omega) (by have := HN30.out; omega) HI.out.below.size ?_; intro v8 w8 hown8 hg8 hat8)
        have hb8 : Below w.heap.size w w8 := HI.out.below.grown hg8 HI.out.below.size (by intro k hk; cases hk)
        have hX0 : WxI w w8 (.slice A9 wl c9) v8 ps 0 := by
          refine ⟨?_, fun p hp => (HO.out.vals p hp).below hb8, ?_, HG.out.below hb8 HG.out.lt, hb8⟩
          · rw [HN.out]
            rw [Nat.zero_add, List.nil_append] at hown8
            simpa using hown8
          · have h2 := ownsRow_only HI.out.row (Only.of_grown hg8) (fun k hk e => by cases e)
            rw [HTk.out] at h2
            simpa [HWl.out] using h2
        have HX0 := Lib.hid hX0
        obtain ⟨A8, c8, rfl, _, _⟩ := own_form hown8
        rw [Nat.zero_add] at HX0 ⊢
        clear hX0 hb8 hown8 hg8 hat8
        go_loopw [5, 8, 9] (fun vw vl i wr => ∃ j : Nat, j ≤ K ∧ i = .int .i64 j ∧ WxI w wr vw vl ps j) (fun _ _ i _ => K - (intOf i).toNat)
        case atStart => exact ⟨0, by omega, rfl, HX0.out⟩
        case round =>
          obtain ⟨j, hj, rfl, hX⟩ := hrel
          have HX := Lib.hid hX
          have hl1 := HX.out.long
          have hl2 := HX.out.row
          rw [HN.out] at hl1
          rw [HWl.out] at hl2
          obtain ⟨AL, cL, rfl, _, _⟩ := own_form hl1
          obtain ⟨AW, cW, rfl, _, _⟩ := own_form hl2
          have HL1 := Lib.hid hl1
          have HL2 := Lib.hid hl2
          have HJ4 : Hid (j ≤ 4100) := Lib.hid (by have := HK4.out; omega)
          clear hX hl1 hl2 HX0
          by_cases hjK : j < K
          · have m1 : (j : Int) < many := by have := HK.out; omega
            have m2 : 4050 ≤ many := by have := HK.out; omega
            have m3 : many ≤ 4100 := by have := HK.out; omega
            have HKp : Hid (∀ ob w3, (wr.alloc ob).grownBy w3 (Value.slice AL (k + j) cL).ownBlock → w3.ownsRow w.heap.size 5 1 (.slice AW (wl + j) cW) (wl + j) (bcells (wantP (ps.map Prod.fst) ++ List.replicate j 9))) := Lib.hid (fun ob w3 hg => WxI.keep HL1.out HL2.out hg)
            have HSrc := Lib.hid (src_op wr advO (.slice none 0 0))
            unfold advO opc at HSrc
            dsimp only at HSrc
            go_wp2_with (at_builtin; first | (refine wpList_append_src _ rfl _ _ _ rfl w.heap.size 41 j0 _ 9 96 Tryz.underlying22 kj0 jz0 jz1 jz2 rfl (by decide) _ (k + j) (ocs (ps ++ List.replicate j (advO, .slice none 0 0))) rfl (own_later HL1.out ((Below.refl _ _).alloc (Nat.le_refl _) _)) (some ⟨wr.heap.size, 0, none⟩) 1 1 (opcs advO (.slice none 0 0)) rfl HSrc.out (opcs_one _ _ _ _) (by have := HN30.out; have := HJ4.out; unfold maxLen; omega) (by have := HN30.out; have := HJ4.out; omega) (by have := HX.out.below.size; simp; omega) ?_; intro v3 w3 hown3 hg3 hat3; have hrow3 := HKp.out _ w3 hg3) | (refine wpList_append_src _ rfl _ _ _ rfl w.heap.size 5 i0 _ 1 1 Tryz.underlying39 hi0 hz0 hz1 hz2 rfl (by decide) _ (wl + j) (bcells (wantP (ps.map Prod.fst) ++ List.replicate j 9)) rfl (own_later hrow3 ((Below.refl _ _).alloc (Nat.le_refl _) _)) (some ⟨w3.heap.size, 0, none⟩) 1 1 [.int .u8 9] rfl (src_oneR _ _ _) (by intro u hu; rw [List.mem_singleton.1 hu]; rfl) (by have := HW8.out; have := HJ4.out; unfold maxLen; omega) (by have := HW8.out; have := HJ4.out; omega) (by have := hg3.size; have := HX.out.below.size; simp at *; omega) ?_; intro v5 w5 hown5 hg5 hat5))
            have hst : WxI w w5 v5 v3 ps (j + 1) := HX.out.step HO.out HG.out rfl (by rw [HN.out]; exact hown3) hg3 (by rw [HWl.out]; exact hrow3) (by rw [HWl.out]; exact hown5) hg5
            have HSt := Lib.hid hst
            clear hst hown3 hg3 hat3 hrow3 hown5 hg5 hat5
            go_roundw
            case rel => exact ⟨j + 1, by omega, by go_num, HSt.out⟩
            case measure => simp [intOf]; omega
          · obtain ⟨Wx, hWx⟩ : ∃ Wx, Wx = wr := ⟨_, rfl⟩
            subst hWx
            have HO2 := Lib.hid (HX.out.ops (fun p hp => (HWf.out p hp).ticks))
            have HLn : Hid ((ps ++ List.replicate j (advO, (.slice none 0 0 : Value))).length ≤ 1000000) := Lib.hid (by rw [List.length_append, List.length_replicate]; have := HN.out; have := HN30.out; have := HJ4.out; omega)
            have HWr := Lib.hid (wr_long ps j (fun p hp => (HWf.out p hp).ticks))
            rw [HFi.out] at HWr
            have HBt : Hid (Bts Wx w.heap.size 5 (.slice AW (wl + j) cW) (wantP (ps.map Prod.fst) ++ List.replicate j 9)) := Lib.hid (by
              have hl : (wantP (ps.map Prod.fst) ++ List.replicate j (9 : UInt8)).length = wl + j := by rw [List.length_append, List.length_replicate, HWl.out]
              have h2 := HL2.out
              rw [← hl] at h2 ⊢
              exact Bts.of_own h2 _)
            have HLb : Hid ((wantP (ps.map Prod.fst) ++ List.replicate j (9 : UInt8)).length = wl + j) := Lib.hid (by rw [List.length_append, List.length_replicate, HWl.out])
            have HGx := Lib.hid HX.out.gl
            have HBx := Lib.hid HX.out.below
            have hjj : j = K := by omega
            have HKj := HK.out
            rw [← hjj] at HKj
            obtain ⟨L, hL⟩ : ∃ L, wl + j = L := ⟨_, rfl⟩
            obtain ⟨M, hM⟩ : ∃ M, k + j = M := ⟨_, rfl⟩
            rw [hL] at HBt HLb ⊢
            rw [hM] at HO2 ⊢
            have HLL : Hid (L ≤ 20000) := Lib.hid (by have := HW8.out; have := HJ4.out; omega)
            have hLI : (L : Int) ≤ 20000 := by have := HLL.out; omega
            clear hjK hj hjj HK HK4 HX HL1 HL2 hL hM
            rcases HKj with ⟨m2, m3, m1⟩ | ⟨hno, hj0⟩
            · have hjm : ¬ (j : Int) < many := by omega
              clear m1
              cases fi with
              | false =>
                have HC := Lib.hid (writes_any w.heap.size 0 _ (.slice none 0 0) _ [] 2 Wx HO2.out (kg_of_gl HGx.out) (Bts.nil _ _ _) HLn.out (by unfold WrWant; rw [HWr.out]; exact ⟨rfl, rfl⟩))
                go_wp2_with fail
                refine HC.out.mono ?_
                rintro e w5 ⟨rfl, hb5⟩
                have HG5 := Lib.hid (HGx.out.below hb5 HGx.out.lt)
                have HB5 := Lib.hid (HBx.out.trans (hb5.mono HBx.out.size))
                clear hb5 HC
                go_wp2_with fail
                refine (known_any _ (HG5).out).mono ?_
                rintro e w9 ⟨rfl, hb9⟩
                have HB9 := Lib.hid ((HB5).out.trans (hb9.mono (HB5).out.size))
                clear hb9
                go_wp2_with fail
                go_ret
                exact ⟨rfl, HB9.out⟩
              | true =>
                by_cases hlt : 4096 < L
                · have hltI : (4096 : Int) < (L : Int) := by omega
                  have HC := Lib.hid (writes_any w.heap.size 0 _ (.slice none 0 0) _ [] 5 Wx HO2.out (kg_of_gl HGx.out) (Bts.nil _ _ _) HLn.out (by unfold WrWant; rw [HWr.out, if_pos rfl]; dsimp only; rw [if_pos (by rw [HLb.out]; exact hlt)]; exact ⟨rfl, rfl⟩))
                  go_wp2_with fail
                  refine HC.out.mono ?_
                  rintro e w5 ⟨rfl, hb5⟩
                  have HG5 := Lib.hid (HGx.out.below hb5 HGx.out.lt)
                  have HB5 := Lib.hid (HBx.out.trans (hb5.mono HBx.out.size))
                  clear hb5 HC
                  go_wp2_with fail
                  refine (known_any _ (HG5).out).mono ?_
                  rintro e w9 ⟨rfl, hb9⟩
                  have HB9 := Lib.hid ((HB5).out.trans (hb9.mono (HB5).out.size))
                  clear hb9
                  go_wp2_with fail
                  go_ret
                  exact ⟨rfl, HB9.out⟩
                · have hltI : ¬ (4096 : Int) < (L : Int) := by omega
                  have HC := Lib.hid (writes_any w.heap.size w.heap.size _ (.slice AW L cW) _ _ 0 Wx HO2.out (kg_of_gl HGx.out) HBt.out HLn.out (by unfold WrWant; rw [HWr.out, if_pos rfl]; dsimp only; rw [if_neg (by rw [HLb.out]; exact hlt)]; exact ⟨rfl, rfl⟩))
                  go_wp2_with fail
                  refine HC.out.mono ?_
                  rintro e w5 ⟨rfl, hb5⟩
                  have HG5 := Lib.hid (HGx.out.below hb5 HGx.out.lt)
                  have HB5 := Lib.hid (HBx.out.trans (hb5.mono HBx.out.size))
                  clear hb5 HC
                  go_wp2_with fail
                  refine (known_any _ (HG5).out).mono ?_
                  rintro e w9 ⟨rfl, hb9⟩
                  have HB9 := Lib.hid ((HB5).out.trans (hb9.mono (HB5).out.size))
                  clear hb9
                  go_wp2_with fail
                  go_ret
                  exact ⟨rfl, HB9.out⟩
            · have hj0I : (j : Int) = 0 := by omega
              by_cases q1 : (j : Int) < many
              · by_cases q2 : 4050 ≤ many
                · have q3 : ¬ many ≤ 4100 := by omega
                  clear hno hj0 hj0I
                  cases fi with
                  | false =>
                    have HC := Lib.hid (writes_any w.heap.size 0 _ (.slice none 0 0) _ [] 2 Wx HO2.out (kg_of_gl HGx.out) (Bts.nil _ _ _) HLn.out (by unfold WrWant; rw [HWr.out]; exact ⟨rfl, rfl⟩))
                    go_wp2_with fail
                    refine HC.out.mono ?_
                    rintro e w5 ⟨rfl, hb5⟩
                    have HG5 := Lib.hid (HGx.out.below hb5 HGx.out.lt)
                    have HB5 := Lib.hid (HBx.out.trans (hb5.mono HBx.out.size))
                    clear hb5 HC
                    go_wp2_with fail
                    refine (known_any _ (HG5).out).mono ?_
                    rintro e w9 ⟨rfl, hb9⟩
                    have HB9 := Lib.hid ((HB5).out.trans (hb9.mono (HB5).out.size))
                    clear hb9
                    go_wp2_with fail
                    go_ret
                    exact ⟨rfl, HB9.out⟩
                  | true =>
                    by_cases hlt : 4096 < L
                    · have hltI : (4096 : Int) < (L : Int) := by omega
                      have HC := Lib.hid (writes_any w.heap.size 0 _ (.slice none 0 0) _ [] 5 Wx HO2.out (kg_of_gl HGx.out) (Bts.nil _ _ _) HLn.out (by unfold WrWant; rw [HWr.out, if_pos rfl]; dsimp only; rw [if_pos (by rw [HLb.out]; exact hlt)]; exact ⟨rfl, rfl⟩))
                      go_wp2_with fail
                      refine HC.out.mono ?_
                      rintro e w5 ⟨rfl, hb5⟩
                      have HG5 := Lib.hid (HGx.out.below hb5 HGx.out.lt)
                      have HB5 := Lib.hid (HBx.out.trans (hb5.mono HBx.out.size))
                      clear hb5 HC
                      go_wp2_with fail
                      refine (known_any _ (HG5).out).mono ?_
                      rintro e w9 ⟨rfl, hb9⟩
                      have HB9 := Lib.hid ((HB5).out.trans (hb9.mono (HB5).out.size))
                      clear hb9
                      go_wp2_with fail
                      go_ret
                      exact ⟨rfl, HB9.out⟩
                    · have hltI : ¬ (4096 : Int) < (L : Int) := by omega
                      have HC := Lib.hid (writes_any w.heap.size w.heap.size _ (.slice AW L cW) _ _ 0 Wx HO2.out (kg_of_gl HGx.out) HBt.out HLn.out (by unfold WrWant; rw [HWr.out, if_pos rfl]; dsimp only; rw [if_neg (by rw [HLb.out]; exact hlt)]; exact ⟨rfl, rfl⟩))
                      go_wp2_with fail
                      refine HC.out.mono ?_
                      rintro e w5 ⟨rfl, hb5⟩
                      have HG5 := Lib.hid (HGx.out.below hb5 HGx.out.lt)
                      have HB5 := Lib.hid (HBx.out.trans (hb5.mono HBx.out.size))
                      clear hb5 HC
                      go_wp2_with fail
                      refine (known_any _ (HG5).out).mono ?_
                      rintro e w9 ⟨rfl, hb9⟩
                      have HB9 := Lib.hid ((HB5).out.trans (hb9.mono (HB5).out.size))
                      clear hb9
                      go_wp2_with fail
                      go_ret
                      exact ⟨rfl, HB9.out⟩
                · clear hno hj0 hj0I
                  cases fi with
                  | false =>
                    have HC := Lib.hid (writes_any w.heap.size 0 _ (.slice none 0 0) _ [] 2 Wx HO2.out (kg_of_gl HGx.out) (Bts.nil _ _ _) HLn.out (by unfold WrWant; rw [HWr.out]; exact ⟨rfl, rfl⟩))
                    go_wp2_with fail
                    refine HC.out.mono ?_
                    rintro e w5 ⟨rfl, hb5⟩
                    have HG5 := Lib.hid (HGx.out.below hb5 HGx.out.lt)
                    have HB5 := Lib.hid (HBx.out.trans (hb5.mono HBx.out.size))
                    clear hb5 HC
                    go_wp2_with fail
                    refine (known_any _ (HG5).out).mono ?_
                    rintro e w9 ⟨rfl, hb9⟩
                    have HB9 := Lib.hid ((HB5).out.trans (hb9.mono (HB5).out.size))
                    clear hb9
                    go_wp2_with fail
                    go_ret
                    exact ⟨rfl, HB9.out⟩
                  | true =>
                    by_cases hlt : 4096 < L
                    · have hltI : (4096 : Int) < (L : Int) := by omega
                      have HC := Lib.hid (writes_any w.heap.size 0 _ (.slice none 0 0) _ [] 5 Wx HO2.out (kg_of_gl HGx.out) (Bts.nil _ _ _) HLn.out (by unfold WrWant; rw [HWr.out, if_pos rfl]; dsimp only; rw [if_pos (by rw [HLb.out]; exact hlt)]; exact ⟨rfl, rfl⟩))
                      go_wp2_with fail
                      refine HC.out.mono ?_
                      rintro e w5 ⟨rfl, hb5⟩
                      have HG5 := Lib.hid (HGx.out.below hb5 HGx.out.lt)
                      have HB5 := Lib.hid (HBx.out.trans (hb5.mono HBx.out.size))
                      clear hb5 HC
                      go_wp2_with fail
                      refine (known_any _ (HG5).out).mono ?_
                      rintro e w9 ⟨rfl, hb9⟩
                      have HB9 := Lib.hid ((HB5).out.trans (hb9.mono (HB5).out.size))
                      clear hb9
                      go_wp2_with fail
                      go_ret
                      exact ⟨rfl, HB9.out⟩
                    · have hltI : ¬ (4096 : Int) < (L : Int) := by omega
                      have HC := Lib.hid (writes_any w.heap.size w.heap.size _ (.slice AW L cW) _ _ 0 Wx HO2.out (kg_of_gl HGx.out) HBt.out HLn.out (by unfold WrWant; rw [HWr.out, if_pos rfl]; dsimp only; rw [if_neg (by rw [HLb.out]; exact hlt)]; exact ⟨rfl, rfl⟩))
                      go_wp2_with fail
                      refine HC.out.mono ?_
                      rintro e w5 ⟨rfl, hb5⟩
                      have HG5 := Lib.hid (HGx.out.below hb5 HGx.out.lt)
                      have HB5 := Lib.hid (HBx.out.trans (hb5.mono HBx.out.size))
                      clear hb5 HC
                      go_wp2_with fail
                      refine (known_any _ (HG5).out).mono ?_
                      rintro e w9 ⟨rfl, hb9⟩
                      have HB9 := Lib.hid ((HB5).out.trans (hb9.mono (HB5).out.size))
                      clear hb9
                      go_wp2_with fail
                      go_ret
                      exact ⟨rfl, HB9.out⟩
              · clear hno hj0 hj0I
                cases fi with
                | false =>
                  have HC := Lib.hid (writes_any w.heap.size 0 _ (.slice none 0 0) _ [] 2 Wx HO2.out (kg_of_gl HGx.out) (Bts.nil _ _ _) HLn.out (by unfold WrWant; rw [HWr.out]; exact ⟨rfl, rfl⟩))
                  go_wp2_with fail
                  refine HC.out.mono ?_
                  rintro e w5 ⟨rfl, hb5⟩
                  have HG5 := Lib.hid (HGx.out.below hb5 HGx.out.lt)
                  have HB5 := Lib.hid (HBx.out.trans (hb5.mono HBx.out.size))
                  clear hb5 HC
                  go_wp2_with fail
                  refine (known_any _ (HG5).out).mono ?_
                  rintro e w9 ⟨rfl, hb9⟩
                  have HB9 := Lib.hid ((HB5).out.trans (hb9.mono (HB5).out.size))
                  clear hb9
                  go_wp2_with fail
                  go_ret
                  exact ⟨rfl, HB9.out⟩
                | true =>
                  by_cases hlt : 4096 < L
                  · have hltI : (4096 : Int) < (L : Int) := by omega
                    have HC := Lib.hid (writes_any w.heap.size 0 _ (.slice none 0 0) _ [] 5 Wx HO2.out (kg_of_gl HGx.out) (Bts.nil _ _ _) HLn.out (by unfold WrWant; rw [HWr.out, if_pos rfl]; dsimp only; rw [if_pos (by rw [HLb.out]; exact hlt)]; exact ⟨rfl, rfl⟩))
                    go_wp2_with fail
                    refine HC.out.mono ?_
                    rintro e w5 ⟨rfl, hb5⟩
                    have HG5 := Lib.hid (HGx.out.below hb5 HGx.out.lt)
                    have HB5 := Lib.hid (HBx.out.trans (hb5.mono HBx.out.size))
                    clear hb5 HC
                    go_wp2_with fail
                    refine (known_any _ (HG5).out).mono ?_
                    rintro e w9 ⟨rfl, hb9⟩
                    have HB9 := Lib.hid ((HB5).out.trans (hb9.mono (HB5).out.size))
                    clear hb9
                    go_wp2_with fail
                    go_ret
                    exact ⟨rfl, HB9.out⟩
                  · have hltI : ¬ (4096 : Int) < (L : Int) := by omega
                    have HC := Lib.hid (writes_any w.heap.size w.heap.size _ (.slice AW L cW) _ _ 0 Wx HO2.out (kg_of_gl HGx.out) HBt.out HLn.out (by unfold WrWant; rw [HWr.out, if_pos rfl]; dsimp only; rw [if_neg (by rw [HLb.out]; exact hlt)]; exact ⟨rfl, rfl⟩))
                    go_wp2_with fail
                    refine HC.out.mono ?_
                    rintro e w5 ⟨rfl, hb5⟩
                    have HG5 := Lib.hid (HGx.out.below hb5 HGx.out.lt)
                    have HB5 := Lib.hid (HBx.out.trans (hb5.mono HBx.out.size))
                    clear hb5 HC
                    go_wp2_with fail
                    refine (known_any _ (HG5).out).mono ?_
                    rintro e w9 ⟨rfl, hb9⟩
                    have HB9 := Lib.hid ((HB5).out.trans (hb9.mono (HB5).out.size))
                    clear hb9
                    go_wp2_with fail
                    go_ret
                    exact ⟨rfl, HB9.out⟩
end Go.Proofs.YtbcigelgggimmaaGreatDoor
namespace Go.Proofs.YtbcigelgggimmaaGreatDoor
open Go Go.RowKit Go.Joins Go.ChangeShapes Go.WideShapes
theorem u8_wf {z : Int} (h : (Lit.int .u8 z).wf = true) : 0 ≤ z ∧ z ≤ 255 := by
  have h1 : IntKind.u8.min = 0 := rfl
  have h2 : IntKind.u8.max = 255 := rfl
  simp [Lit.wf, h1, h2] at h
  omega
/-- Bytes that came in read as a slice of bytes. -/
theorem open_bts {H : Type} {enc : TypeId × Value → H} {P : Program} {w : World} {fuel : Nat} {t e : TypeId} {v : Value} {y : DataW H × List MemPlace} (ht : P.underlying t = some (.slice e)) (he : P.underlying e = some (.int .u8)) (hc : P.cellsOf e = 1)
    (h : DataW.trod enc P w 0 (fun _ => true) true fuel t [v] = some y) (U : Nat) : ∃ bs : List UInt8, Bts w w.heap.size U v bs := by
  rcases open_ints ht he hc h with ⟨hcs, _⟩ | ⟨a, len, cap, zs, hcs, _, hl, hm, hz, _, hcell, hwf⟩
  · injection hcs with hcs _
    subst hcs
    exact ⟨[], Bts.nil _ _ _⟩
  · injection hcs with hcs _
    subst hcs
    simp only [if_true] at hz
    refine ⟨(zs.take len).map (fun z => UInt8.ofNat z.toNat), some a, cap, ?_, ?_, hm, (fun h => by cases h), fun h0 => ?_⟩
    · simp; omega
    · simp; omega
    · simp at h0
      have hc0 := hcell 0 (by omega)
      have ha0 : a.add 0 = a := by simp [Addr.add]
      rw [ha0] at hc0
      obtain ⟨b, off, spot⟩ := a
      have hs : spot = none := by
        cases spot with
        | none => rfl
        | some s =>
          unfold World.cell? at hc0
          split at hc0
          · simp at hc0
          · cases hc0
      subst hs
      have hb := block_lt_of_cell hc0
      refine ⟨b, off, rfl, hb, .inl hb, fun i hi => ?_⟩
      simp at hi
      have hci := hcell i (by omega)
      rw [add_plain] at hci
      rw [hci]
      have hiz : i < zs.length := by omega
      have e1 : zs.getD i 0 = zs[i] := by rw [List.getD_eq_getElem?_getD, List.getElem?_eq_getElem hiz]; rfl
      have hwz := u8_wf (hwf (zs.getD i 0) (by rw [e1]; exact List.getElem_mem _))
      rw [e1] at hwz ⊢
      have e2 : (UInt8.ofNat (zs[i]).toNat).toNat = (zs[i]).toNat := by
        rw [UInt8.toNat_ofNat']
        omega
      simp only [List.getElem_map, List.getElem_take]
      rw [e2, Int.toNat_of_nonneg hwz.1]
end Go.Proofs.YtbcigelgggimmaaGreatDoor
namespace Go.Proofs.YtbcigelgggimmaaGreatDoor
open Go Go.RowKit Go.Joins Go.ChangeShapes Go.WideShapes Go.ChangeAt Go.WideMaps Go.WideElems Go.Deep
theorem array9 {α : Type} {cs : Array α} (h : cs.size = 9) : ∃ c0 c1 c2 c3 c4 c5 c6 c7 c8, cs = #[c0, c1, c2, c3, c4, c5, c6, c7, c8] := by
  obtain ⟨l⟩ := cs
  match l, h with
  | [c0, c1, c2, c3, c4, c5, c6, c7, c8], _ => exact ⟨c0, c1, c2, c3, c4, c5, c6, c7, c8, rfl⟩
theorem fld {H : Type} {enc : TypeId × Value → H} {P : Program} {w : World} {n : Nat} {cs : List Value} {x : Option (DataW H × List MemPlace)} {t : TypeId} {off : Nat} (h : DataW.trod enc P w 0 (fun _ => true) true n t ((cs.drop off).take (P.cellsOf t)) = x) (hc : P.cellsOf t = 1) (c : Value) (he : (cs.drop off).take 1 = [c]) (hx : ∃ y, x = some y) :
    ∃ y, DataW.trod enc P w 0 (fun _ => true) true n t [c] = some y := by
  rw [hc, he] at h
  rw [h]; exact hx
theorem u64_wf {z : Int} (h : (Lit.int .u64 z).wf = true) : 0 ≤ z := by
  have h1 : IntKind.u64.min = 0 := rfl
  simp [Lit.wf, h1] at h
  omega
theorem OpsAt.nil (w : World) (B : Nat) : OpsAt w B (.slice none 0 0) [] := ⟨⟨none, 0, rfl, Nat.le_refl _, Nat.zero_le _, fun _ => rfl, fun h => by simp at h⟩, fun p hp => by simp at hp, fun p hp => by simp at hp⟩
set_option maxRecDepth 100000 in
theorem open_op {H : Type} {enc : TypeId × Value → H} {r : Reach} {b0 : Nat} {w : World} {v : Value} {d : DataW H} {p : List MemPlace} (hv : Value.okWide Tryz.prog w r b0 41 v) (h : DataW.Trod enc Tryz.prog w 0 (fun _ => true) true 41 v d p) :
    ∃ (o : OpV) (u : Value), v = opv o u ∧ o.key.size ≤ maxLen ∧ Bts w w.heap.size 5 u o.val ∧ 0 ≤ o.ticks := by
  obtain ⟨cs, rfl, hsz⟩ := okWide_struct Tryz.underlying41 hv
  obtain ⟨c0, c1, c2, c3, c4, c5, c6, c7, c8, rfl⟩ := array9 (hsz.trans (by kernel_rfl))
  obtain ⟨fuel, hf⟩ := h
  obtain ⟨xs, n, _, _, hl, hlen, hf⟩ := DataW.trod_struct Tryz.underlying41 hf
  obtain ⟨y0, g0⟩ : ∃ y, DataW.trod enc Tryz.prog w 0 (fun _ => true) true n 37 [c0] = some y := fld (hf 0 _ rfl) (by kernel_rfl) c0 rfl ⟨_, List.getElem?_eq_getElem (by rw [hlen]; decide)⟩
  obtain ⟨y1, g1⟩ : ∃ y, DataW.trod enc Tryz.prog w 0 (fun _ => true) true n 38 [c1] = some y := fld (hf 1 _ rfl) (by kernel_rfl) c1 rfl ⟨_, List.getElem?_eq_getElem (by rw [hlen]; decide)⟩
  obtain ⟨y2, g2⟩ : ∃ y, DataW.trod enc Tryz.prog w 0 (fun _ => true) true n 9 [c2] = some y := fld (hf 2 _ rfl) (by kernel_rfl) c2 rfl ⟨_, List.getElem?_eq_getElem (by rw [hlen]; decide)⟩
  obtain ⟨y3, g3⟩ : ∃ y, DataW.trod enc Tryz.prog w 0 (fun _ => true) true n 39 [c3] = some y := fld (hf 3 _ rfl) (by kernel_rfl) c3 rfl ⟨_, List.getElem?_eq_getElem (by rw [hlen]; decide)⟩
  obtain ⟨y4, g4⟩ : ∃ y, DataW.trod enc Tryz.prog w 0 (fun _ => true) true n 38 [c4] = some y := fld (hf 4 _ rfl) (by kernel_rfl) c4 rfl ⟨_, List.getElem?_eq_getElem (by rw [hlen]; decide)⟩
  obtain ⟨y5, g5⟩ : ∃ y, DataW.trod enc Tryz.prog w 0 (fun _ => true) true n 3 [c5] = some y := fld (hf 5 _ rfl) (by kernel_rfl) c5 rfl ⟨_, List.getElem?_eq_getElem (by rw [hlen]; decide)⟩
  obtain ⟨y6, g6⟩ : ∃ y, DataW.trod enc Tryz.prog w 0 (fun _ => true) true n 3 [c6] = some y := fld (hf 6 _ rfl) (by kernel_rfl) c6 rfl ⟨_, List.getElem?_eq_getElem (by rw [hlen]; decide)⟩
  obtain ⟨y7, g7⟩ : ∃ y, DataW.trod enc Tryz.prog w 0 (fun _ => true) true n 3 [c7] = some y := fld (hf 7 _ rfl) (by kernel_rfl) c7 rfl ⟨_, List.getElem?_eq_getElem (by rw [hlen]; decide)⟩
  obtain ⟨y8, g8⟩ : ∃ y, DataW.trod enc Tryz.prog w 0 (fun _ => true) true n 27 [c8] = some y := fld (hf 8 _ rfl) (by kernel_rfl) c8 rfl ⟨_, List.getElem?_eq_getElem (by rw [hlen]; decide)⟩
  obtain ⟨k0, e0, _, _⟩ := DataW.trod_int Tryz.underlying37 g0
  obtain ⟨k1, e1, _, h1⟩ := DataW.trod_int Tryz.underlying38 g1
  obtain ⟨k2, e2, _, h2⟩ := DataW.trod_string Tryz.underlying9 g2
  obtain ⟨bs, hb⟩ := open_bts Tryz.underlying39 Tryz.underlying5 (by kernel_rfl) g3 5
  obtain ⟨k4, e4, _, _⟩ := DataW.trod_int Tryz.underlying38 g4
  obtain ⟨k5, e5, _, _⟩ := DataW.trod_int Tryz.underlying3 g5
  obtain ⟨k6, e6, _, _⟩ := DataW.trod_int Tryz.underlying3 g6
  obtain ⟨k7, e7, _, _⟩ := DataW.trod_int Tryz.underlying3 g7
  obtain ⟨k8, e8, _, _⟩ := DataW.trod_int Tryz.underlying27 g8
  injection e0 with e0 _
  injection e1 with e1 _
  injection e2 with e2 _
  injection e4 with e4 _
  injection e5 with e5 _
  injection e6 with e6 _
  injection e7 with e7 _
  injection e8 with e8 _
  subst e0 e1 e2 e4 e5 e6 e7 e8
  exact ⟨⟨k0, k1, k2, bs, k4, k5, k6, k7, k8⟩, c3, rfl, h2, hb, u64_wf h1⟩
theorem open_btsR {H : Type} {enc : TypeId × Value → H} {w : World} {v : Value} {d : DataW H} {p : List MemPlace} (hv : ∃ A l c, v = .slice A l c) (h : DataW.Trod enc Tryz.prog w 0 (fun _ => true) true 39 v d p) : ∃ bs : List UInt8, Bts w w.heap.size 5 v bs := by
  obtain ⟨A, l, c, rfl⟩ := hv
  obtain ⟨m, hm⟩ := h
  exact open_bts Tryz.underlying39 Tryz.underlying5 (by kernel_rfl) (by simpa [Value.cells] using hm) 5
set_option maxRecDepth 100000 in
theorem open_op_cells {H : Type} {enc : TypeId × Value → H} {w : World} {n : Nat} {cs : List Value} {y : DataW H × List MemPlace} (hl : cs.length = 9) (h : DataW.trod enc Tryz.prog w 0 (fun _ => true) true n 41 cs = some y) :
    ∃ (o : OpV) (u : Value), cs = opcs o u ∧ o.key.size ≤ maxLen ∧ Bts w w.heap.size 5 u o.val ∧ 0 ≤ o.ticks := by
  match cs, hl with
  | [c0, c1, c2, c3, c4, c5, c6, c7, c8], _ =>
    obtain ⟨xs, n, _, _, hl, hlen, hf⟩ := DataW.trod_struct Tryz.underlying41 h
    obtain ⟨y0, g0⟩ : ∃ y, DataW.trod enc Tryz.prog w 0 (fun _ => true) true n 37 [c0] = some y := fld (hf 0 _ rfl) (by kernel_rfl) c0 rfl ⟨_, List.getElem?_eq_getElem (by rw [hlen]; decide)⟩
    obtain ⟨y1, g1⟩ : ∃ y, DataW.trod enc Tryz.prog w 0 (fun _ => true) true n 38 [c1] = some y := fld (hf 1 _ rfl) (by kernel_rfl) c1 rfl ⟨_, List.getElem?_eq_getElem (by rw [hlen]; decide)⟩
    obtain ⟨y2, g2⟩ : ∃ y, DataW.trod enc Tryz.prog w 0 (fun _ => true) true n 9 [c2] = some y := fld (hf 2 _ rfl) (by kernel_rfl) c2 rfl ⟨_, List.getElem?_eq_getElem (by rw [hlen]; decide)⟩
    obtain ⟨y3, g3⟩ : ∃ y, DataW.trod enc Tryz.prog w 0 (fun _ => true) true n 39 [c3] = some y := fld (hf 3 _ rfl) (by kernel_rfl) c3 rfl ⟨_, List.getElem?_eq_getElem (by rw [hlen]; decide)⟩
    obtain ⟨y4, g4⟩ : ∃ y, DataW.trod enc Tryz.prog w 0 (fun _ => true) true n 38 [c4] = some y := fld (hf 4 _ rfl) (by kernel_rfl) c4 rfl ⟨_, List.getElem?_eq_getElem (by rw [hlen]; decide)⟩
    obtain ⟨y5, g5⟩ : ∃ y, DataW.trod enc Tryz.prog w 0 (fun _ => true) true n 3 [c5] = some y := fld (hf 5 _ rfl) (by kernel_rfl) c5 rfl ⟨_, List.getElem?_eq_getElem (by rw [hlen]; decide)⟩
    obtain ⟨y6, g6⟩ : ∃ y, DataW.trod enc Tryz.prog w 0 (fun _ => true) true n 3 [c6] = some y := fld (hf 6 _ rfl) (by kernel_rfl) c6 rfl ⟨_, List.getElem?_eq_getElem (by rw [hlen]; decide)⟩
    obtain ⟨y7, g7⟩ : ∃ y, DataW.trod enc Tryz.prog w 0 (fun _ => true) true n 3 [c7] = some y := fld (hf 7 _ rfl) (by kernel_rfl) c7 rfl ⟨_, List.getElem?_eq_getElem (by rw [hlen]; decide)⟩
    obtain ⟨y8, g8⟩ : ∃ y, DataW.trod enc Tryz.prog w 0 (fun _ => true) true n 27 [c8] = some y := fld (hf 8 _ rfl) (by kernel_rfl) c8 rfl ⟨_, List.getElem?_eq_getElem (by rw [hlen]; decide)⟩
    obtain ⟨k0, e0, _, _⟩ := DataW.trod_int Tryz.underlying37 g0
    obtain ⟨k1, e1, _, h1⟩ := DataW.trod_int Tryz.underlying38 g1
    obtain ⟨k2, e2, _, h2⟩ := DataW.trod_string Tryz.underlying9 g2
    obtain ⟨bs, hb⟩ := open_bts Tryz.underlying39 Tryz.underlying5 (by kernel_rfl) g3 5
    obtain ⟨k4, e4, _, _⟩ := DataW.trod_int Tryz.underlying38 g4
    obtain ⟨k5, e5, _, _⟩ := DataW.trod_int Tryz.underlying3 g5
    obtain ⟨k6, e6, _, _⟩ := DataW.trod_int Tryz.underlying3 g6
    obtain ⟨k7, e7, _, _⟩ := DataW.trod_int Tryz.underlying3 g7
    obtain ⟨k8, e8, _, _⟩ := DataW.trod_int Tryz.underlying27 g8
    injection e0 with e0 _
    injection e1 with e1 _
    injection e2 with e2 _
    injection e4 with e4 _
    injection e5 with e5 _
    injection e6 with e6 _
    injection e7 with e7 _
    injection e8 with e8 _
    subst e0 e1 e2 e4 e5 e6 e7 e8
    exact ⟨⟨k0, k1, k2, bs, k4, k5, k6, k7, k8⟩, c3, rfl, h2, hb, u64_wf h1⟩
theorem list_choose {α : Type} {p : Nat → α → Prop} : ∀ n, (∀ i, i < n → ∃ a, p i a) → ∃ l : List α, l.length = n ∧ ∀ i (h : i < l.length), p i l[i]
  | 0, _ => ⟨[], rfl, fun i h => by simp at h⟩
  | n + 1, h => by
    obtain ⟨l, hl, hp⟩ := list_choose n (fun i hi => h i (by omega))
    obtain ⟨a, ha⟩ := h n (by omega)
    refine ⟨l ++ [a], by simp [hl], fun i hi => ?_⟩
    rcases Nat.lt_or_ge i l.length with h1 | h1
    · rw [List.getElem_append_left h1]; exact hp i h1
    · have : i = l.length := by simp at hi; omega
      subst this
      rw [List.getElem_append_right (Nat.le_refl _)]
      simpa [hl] using ha
/-- A slice of operations that came in. -/
theorem open_ops {H : Type} {enc : TypeId × Value → H} {w : World} {v : Value} {d : DataW H} {p : List MemPlace} (hv : ∃ A l c, v = .slice A l c) (h : DataW.Trod enc Tryz.prog w 0 (fun _ => true) true 22 v d p) :
    ∃ ps : List (OpV × Value), OpsAt w w.heap.size v ps ∧ ∀ q ∈ ps, q.1.key.size ≤ maxLen := by
  obtain ⟨A, l, c, rfl⟩ := hv
  obtain ⟨fuel, hf⟩ := h
  have c9 : Tryz.prog.cellsOf 41 = 9 := by kernel_rfl
  rcases open_slice Tryz.underlying22 hf with ⟨hcs, _⟩ | ⟨a, len, cap, m, n, D, Pl, hcs, _, hl, hm, hmm, _, hi⟩
  · simp [Value.cells] at hcs
    obtain ⟨rfl, rfl, rfl⟩ := hcs
    exact ⟨[], OpsAt.nil _ _, by simp⟩
  · simp [Value.cells] at hcs
    obtain ⟨rfl, rfl, rfl⟩ := hcs
    simp only [if_true] at hmm
    rw [c9] at hi
    obtain ⟨ls, hlen, has⟩ := list_choose (p := fun i (x : OpV × Value) => (∀ j, j < 9 → w.cell? ((a.add (i * 9)).add j) = (opcs x.1 x.2)[j]?) ∧ x.1.key.size ≤ maxLen ∧ Bts w w.heap.size 5 x.2 x.1.val ∧ 0 ≤ x.1.ticks) l (fun i hil => by
      obtain ⟨cs', hc, ht⟩ := hi i (by omega)
      obtain ⟨_, hcl, hat⟩ := World.cells?_some hc
      obtain ⟨o, u, rfl, hx⟩ := open_op_cells hcl ht
      exact ⟨(o, u), hat, hx⟩)
    refine ⟨ls, ⟨⟨some a, c, by rw [hlen], by omega, hm, (fun h => by cases h), fun h0 => ?_⟩, fun x hx => ?_, fun x hx => ?_⟩, fun x hx => ?_⟩
    · have h1 := (has 0 h0).1 0 (by omega)
      rw [Nat.zero_mul] at h1
      have ha0 : a.add 0 = a := by simp [Addr.add]
      rw [ha0, ha0] at h1
      obtain ⟨b, off, spot⟩ := a
      have h1' : w.cell? ⟨b, off, spot⟩ = some (.int .i64 ls[0].1.kind) := h1
      have hs : spot = none := by
        cases spot with
        | none => rfl
        | some s =>
          unfold World.cell? at h1'
          split at h1'
          · simp at h1'
          · cases h1'
      subst hs
      refine ⟨b, off, rfl, block_lt_of_cell h1', fun i x hix j u hj => ?_⟩
      obtain ⟨hil, rfl⟩ := List.getElem?_eq_some_iff.1 hix
      have hj9 : j < 9 := by
        have := (List.getElem?_eq_some_iff.1 hj).1
        simpa [opcs] using this
      have := (has i hil).1 j hj9
      rw [add_plain, add_plain, hj] at this
      rw [← Nat.add_assoc]; exact this
    · obtain ⟨i, hi, rfl⟩ := List.getElem_of_mem hx
      exact (has i hi).2.2.1
    · obtain ⟨i, hi, rfl⟩ := List.getElem_of_mem hx
      exact (has i hi).2.2.2
    · obtain ⟨i, hi, rfl⟩ := List.getElem_of_mem hx
      exact (has i hi).2.1
end Go.Proofs.YtbcigelgggimmaaGreatDoor
namespace Go.Proofs.YtbcigelgggimmaaGreatDoor
open Go Go.RowKit Go.Joins Go.ChangeShapes Go.WideShapes Go.ChangeAt Go.WideMaps Go.WideElems Go.Deep
theorem i64_wf {z : Int} (h : (Lit.int .i64 z).wf = true) : z ≤ 9223372036854775807 := by
  have h2 : IntKind.i64.max = 9223372036854775807 := rfl
  simp [Lit.wf, h2] at h
  omega
set_option maxRecDepth 100000 in
theorem open_opW_cells {H : Type} {enc : TypeId × Value → H} {w : World} {n : Nat} {cs : List Value} {y : DataW H × List MemPlace} (hl : cs.length = 9) (h : DataW.trod enc Tryz.prog w 0 (fun _ => true) true n 41 cs = some y) :
    ∃ (o : OpV) (u : Value), cs = opcs o u ∧ o.key.size ≤ maxLen ∧ Bts w w.heap.size 5 u o.val ∧ OpWf o := by
  match cs, hl with
  | [c0, c1, c2, c3, c4, c5, c6, c7, c8], _ =>
    obtain ⟨xs, n, _, _, hl, hlen, hf⟩ := DataW.trod_struct Tryz.underlying41 h
    obtain ⟨y0, g0⟩ : ∃ y, DataW.trod enc Tryz.prog w 0 (fun _ => true) true n 37 [c0] = some y := fld (hf 0 _ rfl) (by kernel_rfl) c0 rfl ⟨_, List.getElem?_eq_getElem (by rw [hlen]; decide)⟩
    obtain ⟨y1, g1⟩ : ∃ y, DataW.trod enc Tryz.prog w 0 (fun _ => true) true n 38 [c1] = some y := fld (hf 1 _ rfl) (by kernel_rfl) c1 rfl ⟨_, List.getElem?_eq_getElem (by rw [hlen]; decide)⟩
    obtain ⟨y2, g2⟩ : ∃ y, DataW.trod enc Tryz.prog w 0 (fun _ => true) true n 9 [c2] = some y := fld (hf 2 _ rfl) (by kernel_rfl) c2 rfl ⟨_, List.getElem?_eq_getElem (by rw [hlen]; decide)⟩
    obtain ⟨y3, g3⟩ : ∃ y, DataW.trod enc Tryz.prog w 0 (fun _ => true) true n 39 [c3] = some y := fld (hf 3 _ rfl) (by kernel_rfl) c3 rfl ⟨_, List.getElem?_eq_getElem (by rw [hlen]; decide)⟩
    obtain ⟨y4, g4⟩ : ∃ y, DataW.trod enc Tryz.prog w 0 (fun _ => true) true n 38 [c4] = some y := fld (hf 4 _ rfl) (by kernel_rfl) c4 rfl ⟨_, List.getElem?_eq_getElem (by rw [hlen]; decide)⟩
    obtain ⟨y5, g5⟩ : ∃ y, DataW.trod enc Tryz.prog w 0 (fun _ => true) true n 3 [c5] = some y := fld (hf 5 _ rfl) (by kernel_rfl) c5 rfl ⟨_, List.getElem?_eq_getElem (by rw [hlen]; decide)⟩
    obtain ⟨y6, g6⟩ : ∃ y, DataW.trod enc Tryz.prog w 0 (fun _ => true) true n 3 [c6] = some y := fld (hf 6 _ rfl) (by kernel_rfl) c6 rfl ⟨_, List.getElem?_eq_getElem (by rw [hlen]; decide)⟩
    obtain ⟨y7, g7⟩ : ∃ y, DataW.trod enc Tryz.prog w 0 (fun _ => true) true n 3 [c7] = some y := fld (hf 7 _ rfl) (by kernel_rfl) c7 rfl ⟨_, List.getElem?_eq_getElem (by rw [hlen]; decide)⟩
    obtain ⟨y8, g8⟩ : ∃ y, DataW.trod enc Tryz.prog w 0 (fun _ => true) true n 27 [c8] = some y := fld (hf 8 _ rfl) (by kernel_rfl) c8 rfl ⟨_, List.getElem?_eq_getElem (by rw [hlen]; decide)⟩
    obtain ⟨k0, e0, _, _⟩ := DataW.trod_int Tryz.underlying37 g0
    obtain ⟨k1, e1, _, h1⟩ := DataW.trod_int Tryz.underlying38 g1
    obtain ⟨k2, e2, _, h2⟩ := DataW.trod_string Tryz.underlying9 g2
    obtain ⟨bs, hb⟩ := open_bts Tryz.underlying39 Tryz.underlying5 (by kernel_rfl) g3 5
    obtain ⟨k4, e4, _, h4⟩ := DataW.trod_int Tryz.underlying38 g4
    obtain ⟨k5, e5, _, h5⟩ := DataW.trod_int Tryz.underlying3 g5
    obtain ⟨k6, e6, _, h6⟩ := DataW.trod_int Tryz.underlying3 g6
    obtain ⟨k7, e7, _, _⟩ := DataW.trod_int Tryz.underlying3 g7
    obtain ⟨k8, e8, _, h8⟩ := DataW.trod_int Tryz.underlying27 g8
    injection e0 with e0 _
    injection e1 with e1 _
    injection e2 with e2 _
    injection e4 with e4 _
    injection e5 with e5 _
    injection e6 with e6 _
    injection e7 with e7 _
    injection e8 with e8 _
    subst e0 e1 e2 e4 e5 e6 e7 e8
    exact ⟨⟨k0, k1, k2, bs, k4, k5, k6, k7, k8⟩, c3, rfl, h2, hb, ⟨u64_wf h1, u64_wf h4, u64_wf h8, i64_wf h5, i64_wf h6⟩⟩
/-- A slice of operations that came in. -/
theorem open_opsW {H : Type} {enc : TypeId × Value → H} {w : World} {v : Value} {d : DataW H} {p : List MemPlace} (hv : ∃ A l c, v = .slice A l c) (h : DataW.Trod enc Tryz.prog w 0 (fun _ => true) true 22 v d p) :
    ∃ ps : List (OpV × Value), OpsAt w w.heap.size v ps ∧ ∀ q ∈ ps, q.1.key.size ≤ maxLen ∧ OpWf q.1 := by
  obtain ⟨A, l, c, rfl⟩ := hv
  obtain ⟨fuel, hf⟩ := h
  have c9 : Tryz.prog.cellsOf 41 = 9 := by kernel_rfl
  rcases open_slice Tryz.underlying22 hf with ⟨hcs, _⟩ | ⟨a, len, cap, m, n, D, Pl, hcs, _, hl, hm, hmm, _, hi⟩
  · simp [Value.cells] at hcs
    obtain ⟨rfl, rfl, rfl⟩ := hcs
    exact ⟨[], OpsAt.nil _ _, by simp⟩
  · simp [Value.cells] at hcs
    obtain ⟨rfl, rfl, rfl⟩ := hcs
    simp only [if_true] at hmm
    rw [c9] at hi
    obtain ⟨ls, hlen, has⟩ := list_choose (p := fun i (x : OpV × Value) => (∀ j, j < 9 → w.cell? ((a.add (i * 9)).add j) = (opcs x.1 x.2)[j]?) ∧ x.1.key.size ≤ maxLen ∧ Bts w w.heap.size 5 x.2 x.1.val ∧ OpWf x.1) l (fun i hil => by
      obtain ⟨cs', hc, ht⟩ := hi i (by omega)
      obtain ⟨_, hcl, hat⟩ := World.cells?_some hc
      obtain ⟨o, u, rfl, hx⟩ := open_opW_cells hcl ht
      exact ⟨(o, u), hat, hx⟩)
    refine ⟨ls, ⟨⟨some a, c, by rw [hlen], by omega, hm, (fun h => by cases h), fun h0 => ?_⟩, fun x hx => ?_, fun x hx => ?_⟩, fun x hx => ?_⟩
    · have h1 := (has 0 h0).1 0 (by omega)
      rw [Nat.zero_mul] at h1
      have ha0 : a.add 0 = a := by simp [Addr.add]
      rw [ha0, ha0] at h1
      obtain ⟨b, off, spot⟩ := a
      have h1' : w.cell? ⟨b, off, spot⟩ = some (.int .i64 ls[0].1.kind) := h1
      have hs : spot = none := by
        cases spot with
        | none => rfl
        | some s =>
          unfold World.cell? at h1'
          split at h1'
          · simp at h1'
          · cases h1'
      subst hs
      refine ⟨b, off, rfl, block_lt_of_cell h1', fun i x hix j u hj => ?_⟩
      obtain ⟨hil, rfl⟩ := List.getElem?_eq_some_iff.1 hix
      have hj9 : j < 9 := by
        have := (List.getElem?_eq_some_iff.1 hj).1
        simpa [opcs] using this
      have := (has i hil).1 j hj9
      rw [add_plain, add_plain, hj] at this
      rw [← Nat.add_assoc]; exact this
    · obtain ⟨i, hi, rfl⟩ := List.getElem_of_mem hx
      exact (has i hi).2.2.1
    · obtain ⟨i, hi, rfl⟩ := List.getElem_of_mem hx
      exact (has i hi).2.2.2.ticks
    · obtain ⟨i, hi, rfl⟩ := List.getElem_of_mem hx
      exact ⟨(has i hi).2.1, (has i hi).2.2.2⟩
end Go.Proofs.YtbcigelgggimmaaGreatDoor
