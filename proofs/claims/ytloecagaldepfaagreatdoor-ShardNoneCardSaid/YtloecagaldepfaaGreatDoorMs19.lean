/- Gl0, ShP, ArgsC, ArgF, ShN -/
import Derived.Test.YtloecagaldepfaaGreatDoorMs13
import Derived.Test.YtloecagaldepfaaGreatDoorMs14
import Derived.Test.YtloecagaldepfaaGreatDoorRows
import Derived.ProofKit
import Derived.LaidMore
import Derived.OpenShut
import Derived.Stop.Joined
import Derived.Test.YtloecagaldepfaaGreatDoorMs16
import Derived.Test.YtloecagaldepfaaGreatDoorMs17
import Derived.Test.YtloecagaldepfaaGreatDoorMs18
import Derived.Lib.SmallJoins
import Derived.ChangeSlices
import Derived.Deep.Slices
namespace Go.Proofs.YtloecagaldepfaaGreatDoor
open Go Go.RowKit Go.ChangeShapes Go.WideShapes Go.ChangeAt Go.WideMaps Go.WideElems Go.Sy
theorem laid_at {P : Program} {w : World} : ∀ {laid : List (String × DataW Unit)} {ps : List MemPlace}, DataW.LaidVars P w laid ps → ∀ {n : String} {d : DataW Unit}, (n, d) ∈ laid →
    ∃ g t cs fuel p, P.globalNamed n = some g ∧ (P.globals[g]?).map (·.type) = some t ∧ w.var? P n = some cs ∧ DataW.trod (fun _ => ()) P w 0 (fun _ => true) false fuel t cs.toList = some (d, p) ∧ ∀ x ∈ MemPlace.row ⟨g, 0, none⟩ cs.size, x ∈ ps
  | [], ps, h, n, d, hm => by cases hm
  | (n', d') :: r, ps, h, n, d, hm => by
    obtain ⟨g, t, cs, fuel, p, q, h1, h2, h3, h4, h5, rfl⟩ := h
    rcases List.mem_cons.1 hm with e | hm
    · injection e with e1 e2
      subst e1 e2
      exact ⟨g, t, cs, fuel, p, h1, h2, h3, h4, fun x hx => by simp [hx]⟩
    · obtain ⟨g', t', cs', f', p', k1, k2, k3, k4, k5⟩ := laid_at h5 hm
      exact ⟨g', t', cs', f', p', k1, k2, k3, k4, fun x hx => by simp [k5 x hx]⟩
theorem take1_at {α : Type} {l : List α} {i : Nat} {c : α} (h : (l.drop i).take 1 = [c]) : l[i]? = some c := by
  have h1 : ((l.drop i).take 1)[0]? = some c := by rw [h]; rfl
  rw [List.getElem?_take_of_lt (by omega), List.getElem?_drop, Nat.add_zero] at h1
  exact h1
/-- A variable that is an array of integers: its block. -/
theorem blk_of_laid {P : Program} {w : World} {laid : List (String × DataW Unit)} (h : laidMet P laid w) {name : String} {d : DataW Unit} (hm : (name, d) ∈ laid) {g n : Nat} {t e : TypeId} {k : IntKind}
    (hg : P.globalNamed name = some g) (hgt : (P.globals[g]?).map (·.type) = some t) (ht : P.underlying t = some (.array n e)) (he : P.underlying e = some (.int k)) (hc : P.cellsOf e = 1) (hct : P.cellsOf t = n)
    (l : List Nat) (hl : l.length = n) (hn : 0 < n) (hd : d = .agg (l.map fun x => .lit (.int k (.ofNat x)))) : ∃ t', w.heap[g]? = some (.cells ⟨l.map fun x => .int k (.ofNat x)⟩ t' (0, 0)) := by
  obtain ⟨ps, hps, _, hfz⟩ := h
  obtain ⟨g', t', cs, fuel, p, h1, h2, h3, h4, h5⟩ := laid_at hps hm
  obtain rfl : g = g' := Option.some.inj (hg.symm.trans h1)
  obtain rfl : t = t' := Option.some.inj (hgt.symm.trans h2)
  obtain ⟨xs, m, _, hx1, hlen, hxn, hel⟩ := DataW.trod_array ht h4
  simp only [Prod.mk.injEq] at hx1
  have hsz : cs.size = n := by rw [← hct, ← hlen]; simp
  have hcs : cs = ⟨l.map fun x => .int k (.ofNat x)⟩ := by
    apply Array.ext_getElem?
    intro i
    by_cases hi : i < n
    · have hc' := hel i hi
      rw [hc, Nat.mul_one, List.getElem?_eq_getElem (by omega)] at hc'
      obtain ⟨q, e1, e2, _⟩ := DataW.trod_int he hc'
      have h6 : (xs.map (·.1))[i]? = some (.lit (.int k (.ofNat (l[i]'(by omega))))) := by
        have := hx1.1
        rw [hd] at this
        injection this with this
        rw [← this, List.getElem?_map, List.getElem?_eq_getElem (by omega)]; rfl
      rw [List.getElem?_map, List.getElem?_eq_getElem (by omega), e2] at h6
      simp only [Option.map_some, Option.some.injEq, DataW.lit.injEq, Lit.int.injEq, true_and] at h6
      have h7 := take1_at e1
      rw [Array.getElem?_toList] at h7
      rw [h7, h6, List.getElem?_toArray, List.getElem?_map, List.getElem?_eq_getElem (by omega)]; rfl
    · rw [Array.getElem?_eq_none (by omega), Array.getElem?_eq_none (by simp; omega)]
  obtain ⟨⟨c, t2, hb⟩, _⟩ := hfz g 0 (h5 _ (by
    simp only [MemPlace.row, List.mem_map, List.mem_range]
    exact ⟨0, by omega, rfl⟩))
  refine ⟨t2, ?_⟩
  simp only [World.var?, hg, Option.bind_some, hb] at h3
  injection h3 with h3
  rw [hb, h3, hcs]
theorem b_conc (b : Bool) (s : Sg) : (AV.b b).conc s = some (.bool b) := by simp only [AV.conc]
theorem follows : Tryz.prog.follows .mixedOrders = true := by kernel_rfl
end Go.Proofs.YtloecagaldepfaaGreatDoor
namespace Go.Proofs.YtloecagaldepfaaGreatDoor
open Go Go.RowKit Go.Sy
theorem rows_one {w : World} {b : Nat} {t : TypeId} {l : List UInt8} (h : w.heap[b]? = some (Obj.cells ⟨[.string ⟨⟨l⟩⟩]⟩ t (0, 0))) : RowsAt w [(64, ⟨t, [.s l], [.string ⟨⟨l⟩⟩]⟩)] [b] := by
  refine ⟨fun g hg => ?_, fun g hg => ?_, fun g hg g' hg' b1 h1 h2 => ?_, by simp⟩
  · rw [List.mem_singleton.1 hg]
    exact ⟨fun s => by simp [concL, AV.conc], fun v hv => by rw [List.mem_singleton.1 hv]; rfl⟩
  · rw [List.mem_singleton.1 hg]
    exact ⟨b, by simp [sgB], h⟩
  · rw [List.mem_singleton.1 hg, List.mem_singleton.1 hg']
theorem arg_one (b : Nat) (k m : Nat) (l : List UInt8) : concL (sgB [b]) [.sl 64 0 1 (.k 1), .i .i64 (.ofNat k), .i .u64 (.ofNat m), .s l] = some [.slice (some ⟨b, 0, none⟩) 1 1, .int .i64 (.ofNat k), .int .u64 (.ofNat m), .string ⟨⟨l⟩⟩] :=
  concL_cons.2 ⟨_, _, sl_conc.2 ⟨b, by simp [sgB], by simp [Cap.fits], rfl⟩, concL_cons.2 ⟨_, _, rfl, concL_cons.2 ⟨_, _, rfl, concL_cons.2 ⟨_, _, rfl, concL_nil.2 rfl, rfl⟩, rfl⟩, rfl⟩, rfl⟩
theorem tup_conc (l : List UInt8) (e : Nat) (s : Sg) : (AV.tup [.s l, .i .i64 (.ofNat e)]).conc s = some (.tuple #[.string ⟨⟨l⟩⟩, .int .i64 (.ofNat e)]) := by simp [AV.conc, concL]
theorem own_calls {w : World} {b : Nat} {t : TypeId} (h : w.heap[b]? = some (Obj.cells ⟨[.string ⟨⟨oneB⟩⟩]⟩ t (0, 0))) :
    Calls Tryz.prog 19 ⟨[.slice (some ⟨b, 0, none⟩) 1 1, .int .i64 (.ofNat 64), .int .u64 (.ofNat 77), .string ⟨⟨anyB⟩⟩]⟩ w fun e w' => e = .returned (.tuple #[.string ⟨⟨oneB⟩⟩, .int .i64 (.ofNat 0)]) ∧ Below w.heap.size w w' :=
  run_args follows orcL_ok (rows_one h) (arg_one b 64 77 anyB) (tup_conc oneB 0) (Eq.mpr (own_eval t) ⟨rfl, rfl, trivial⟩)
theorem own_calls2 {w : World} {b : Nat} {t : TypeId} (h : w.heap[b]? = some (Obj.cells ⟨[.string ⟨⟨badB⟩⟩]⟩ t (0, 0))) :
    Calls Tryz.prog 19 ⟨[.slice (some ⟨b, 0, none⟩) 1 1, .int .i64 (.ofNat 1), .int .u64 (.ofNat 1), .string ⟨⟨kB⟩⟩]⟩ w fun e w' => e = .returned (.tuple #[.string ⟨⟨[]⟩⟩, .int .i64 (.ofNat 2)]) ∧ Below w.heap.size w w' :=
  run_args follows orcL_ok (rows_one h) (arg_one b 1 1 kB) (tup_conc [] 2) (Eq.mpr (own_eval2 t) ⟨rfl, rfl, trivial⟩)
set_option maxRecDepth 100000 in
theorem own_calls3 (w : World) :
    Calls Tryz.prog 19 ⟨[.slice none 0 0, .int .i64 (.ofNat 1), .int .u64 (.ofNat 1), .string ⟨⟨kB⟩⟩]⟩ w fun e w' => e = .returned (.tuple #[.string ⟨⟨[]⟩⟩, .int .i64 (.ofNat 2)]) ∧ Below w.heap.size w w' :=
  run_vals follows orcL_ok (args := [.sl0, .i .i64 (.ofNat 1), .i .u64 (.ofNat 1), .s kB]) (Args := [.slice none 0 0, .int .i64 (.ofNat 1), .int .u64 (.ofNat 1), .string ⟨⟨kB⟩⟩]) (by simp [concL, AV.conc]) (tup_conc [] 2) (Eq.mpr own_eval3 ⟨rfl, trivial⟩) w
theorem str_row (l : List UInt8) : (∀ s, concL s [.s l] = some [.string ⟨⟨l⟩⟩]) ∧ ∀ v ∈ ([.string ⟨⟨l⟩⟩] : List Value), v.oneCell' = true :=
  ⟨fun s => by simp [concL, AV.conc], fun v hv => by rw [List.mem_singleton.1 hv]; rfl⟩
theorem ownO_good (args : List AV) (n : Nat) (H : Heap) (v : AV) (n' : Nat) (H' : Heap) (h : ownO args n H = .ok v n' H') : FnGood Tryz.prog 19 args n H v n' H' := by
  unfold ownO at h
  split at h
  · rename_i x o m c rest
    split at h
    · rename_i h1 h2 h3 h4
      have h1 := Nat.eq_of_beq_eq_true h1
      have h2 := Nat.eq_of_beq_eq_true h2
      have h3 := Nat.eq_of_beq_eq_true h3
      have h4 : x < LIM := Nat.le_of_ble_eq_true h4
      subst h1 h2 h3
      split at h
      · rename_i h5 h6
        have h5 := eq1s_eq h5
        subst h5
        injection h with e1 e2 e3
        subst e1 e2 e3
        refine fnGood_quiet (tup_conc oneB 0) fun s w Args hA hr => ?_
        obtain ⟨b, t, hb, hw⟩ := readsRow_at hr h4 (str_row oneB).1 (str_row oneB).2 h6
        obtain ⟨u, us, hu, hus, rfl⟩ := concL_cons.1 hA
        obtain ⟨b', hb', _, rfl⟩ := sl_conc.1 hu
        rw [hb] at hb'
        injection hb' with hb'
        subst hb'
        have hus' : us = [.int .i64 (.ofNat 64), .int .u64 (.ofNat 77), .string ⟨⟨anyB⟩⟩] := by
          have := hus
          simp [concL, AV.conc] at this
          exact this.symm
        subst hus'
        exact own_calls hw
      · split at h
        · rename_i h5 h6
          have h5 := eq1s_eq h5
          subst h5
          injection h with e1 e2 e3
          subst e1 e2 e3
          refine fnGood_quiet (tup_conc [] 2) fun s w Args hA hr => ?_
          obtain ⟨b, t, hb, hw⟩ := readsRow_at hr h4 (str_row badB).1 (str_row badB).2 h6
          obtain ⟨u, us, hu, hus, rfl⟩ := concL_cons.1 hA
          obtain ⟨b', hb', _, rfl⟩ := sl_conc.1 hu
          rw [hb] at hb'
          injection hb' with hb'
          subst hb'
          have hus' : us = [.int .i64 (.ofNat 1), .int .u64 (.ofNat 1), .string ⟨⟨kB⟩⟩] := by
            have := hus
            simp [concL, AV.conc] at this
            exact this.symm
          subst hus'
          exact own_calls2 hw
        · cases h
    · cases h
  · rename_i rest
    split at h
    · rename_i h5
      have h5 := eq1s_eq h5
      subst h5
      injection h with e1 e2 e3
      subst e1 e2 e3
      refine fnGood_quiet (tup_conc [] 2) fun s w Args hA hr => ?_
      have hus' : Args = [.slice none 0 0, .int .i64 (.ofNat 1), .int .u64 (.ofNat 1), .string ⟨⟨kB⟩⟩] := by
        have := hA
        simp [concL, AV.conc] at this
        exact this.symm
      subst hus'
      exact own_calls3 w
    · cases h
  · cases h
theorem orcS_ok : OrcOk Tryz.prog orcS := orcOk_add orcL_ok ownO_good
theorem known43_any {w : World} {t0 t1 t2 : TypeId} (hr : RowsAt w (gs43 t0 t1 t2) []) : Calls Tryz.prog 15 #[] w fun e w' => e = .returned (.bool true) ∧ Below w.heap.size w w' :=
  run_args follows orcS_ok hr (concL_nil.2 rfl) (b_conc true) (Eq.mpr (known43_eval t0 t1 t2) ⟨rfl, rfl, rfl, rfl, trivial⟩)
theorem rows43_of {w : World} {t0 t1 t2 : TypeId} (h0 : w.heap[0]? = some (.cells ⟨pow10N.map fun x => .int .u64 (.ofNat x)⟩ t0 (0, 0))) (h1 : w.heap[1]? = some (.cells ⟨bruijn32N.map fun x => .int .u8 (.ofNat x)⟩ t1 (0, 0))) (h2 : w.heap[2]? = some (.cells ⟨bruijnN.map fun x => .int .u8 (.ofNat x)⟩ t2 (0, 0))) : RowsAt w (gs43 t0 t1 t2) [] := by
  refine rowsAt_globals (fun g hg => ?_) (fun g hg => ?_) <;> simp only [gs43, List.mem_cons, List.not_mem_nil, or_false] at hg
  · rcases hg with rfl | rfl | rfl <;> exact gInts_good _ _ _
  · rcases hg with rfl | rfl | rfl
    · exact ⟨(by decide : 0 < 64), h0⟩
    · exact ⟨(by decide : 1 < 64), h1⟩
    · exact ⟨(by decide : 2 < 64), h2⟩
theorem knO_good (args : List AV) (n : Nat) (H : Heap) (v : AV) (n' : Nat) (H' : Heap) (h : knO args n H = .ok v n' H') : FnGood Tryz.prog 15 args n H v n' H' := by
  unfold knO at h
  split at h
  · split at h
    · rename_i hq
      injection h with e1 e2 e3
      subst e1 e2 e3
      refine fnGood_quiet (b_conc true) fun s w Args hA hr => ?_
      rw [concL_nil] at hA
      subst hA
      have hrow := fun g hg => readsRows_at hq g hg
      have key : ∀ (g : Nat) (l : List AV) (vs : List Value), (g, l) ∈ gl43 → g < 64 → (∀ s, concL s l = some vs) → (∀ v ∈ vs, v.oneCell' = true) → ∃ t, w.heap[g]? = some (Obj.cells ⟨vs⟩ t (0, 0)) := fun g l vs hg h64 h1 h2 => by
        have hL : (64 : Nat) < LIM := by decide
        obtain ⟨b, t, hb, hw⟩ := readsRow_at hr (by omega) h1 h2 (hrow _ hg)
        rw [hr.glob g h64] at hb
        injection hb with hb
        subst hb
        exact ⟨t, hw⟩
      obtain ⟨t0, h0⟩ := key 0 pow10L (pow10N.map fun x => .int .u64 (.ofNat x)) (by simp [gl43]) (by decide) (gInts_good .u64 22 pow10N).1 (gInts_good .u64 22 pow10N).2
      obtain ⟨t1, h1⟩ := key 1 bru32L (bruijn32N.map fun x => .int .u8 (.ofNat x)) (by simp [gl43]) (by decide) (gInts_good .u8 22 bruijn32N).1 (gInts_good .u8 22 bruijn32N).2
      obtain ⟨t2, h2⟩ := key 2 bru64L (bruijnN.map fun x => .int .u8 (.ofNat x)) (by simp [gl43]) (by decide) (gInts_good .u8 22 bruijnN).1 (gInts_good .u8 22 bruijnN).2
      exact known43_any (rows43_of h0 h1 h2)
    · cases h
  · cases h
theorem orcK_ok : OrcOk Tryz.prog orcK := orcOk_one knO_good
end Go.Proofs.YtloecagaldepfaaGreatDoor
namespace Go.Proofs.YtloecagaldepfaaGreatDoor
open Go Go.RowKit Go.Joins Go.ChangeShapes Go.WideShapes
theorem u8_wf {z : Int} (h : (Lit.int .u8 z).wf = true) : 0 ≤ z ∧ z ≤ 255 := by
  have h1 : IntKind.u8.min = 0 := rfl
  have h2 : IntKind.u8.max = 255 := rfl
  simp [Lit.wf, h1, h2] at h
  omega
/-- Bytes that came in read as a slice of bytes. -/
theorem open_bts {H : Type} {enc : TypeId × Value → H} {P : Program} {w : World} {fuel : Nat} {t e : TypeId} {v : Value} {y : DataW H × List MemPlace} (ht : P.underlying t = some (.slice e)) (he : P.underlying e = some (.int .u8)) (hc : P.cellsOf e = 1)
    (h : DataW.trod enc P w 0 (fun _ => true) true fuel t [v] = some y) (U : Nat) : ∃ bs : List UInt8, Bts w w.heap.size U v bs := by
  rcases open_ints ht he hc h with ⟨hcs, _⟩ | ⟨a, len, cap, zs, hcs, _, hl, hm, hz, _, hcell, hwf⟩
  · injection hcs with hcs _
    subst hcs
    exact ⟨[], Bts.nil _ _ _⟩
  · injection hcs with hcs _
    subst hcs
    simp only [if_true] at hz
    refine ⟨(zs.take len).map (fun z => UInt8.ofNat z.toNat), some a, cap, ?_, ?_, hm, (fun h => by cases h), fun h0 => ?_⟩
    · simp; omega
    · simp; omega
    · simp at h0
      have hc0 := hcell 0 (by omega)
      have ha0 : a.add 0 = a := by simp [Addr.add]
      rw [ha0] at hc0
      obtain ⟨b, off, spot⟩ := a
      have hs : spot = none := by
        cases spot with
        | none => rfl
        | some s =>
          unfold World.cell? at hc0
          split at hc0
          · simp at hc0
          · cases hc0
      subst hs
      have hb := block_lt_of_cell hc0
      refine ⟨b, off, rfl, hb, .inl hb, fun i hi => ?_⟩
      simp at hi
      have hci := hcell i (by omega)
      rw [add_plain] at hci
      rw [hci]
      have hiz : i < zs.length := by omega
      have e1 : zs.getD i 0 = zs[i] := by rw [List.getD_eq_getElem?_getD, List.getElem?_eq_getElem hiz]; rfl
      have hwz := u8_wf (hwf (zs.getD i 0) (by rw [e1]; exact List.getElem_mem _))
      rw [e1] at hwz ⊢
      have e2 : (UInt8.ofNat (zs[i]).toNat).toNat = (zs[i]).toNat := by
        rw [UInt8.toNat_ofNat']
        omega
      simp only [List.getElem_map, List.getElem_take]
      rw [e2, Int.toNat_of_nonneg hwz.1]
end Go.Proofs.YtloecagaldepfaaGreatDoor
namespace Go.Proofs.YtloecagaldepfaaGreatDoor
open Go Go.RowKit Go.Joins Go.ChangeShapes Go.WideShapes Go.ChangeAt Go.WideMaps Go.WideElems Go.Deep
theorem fld {H : Type} {enc : TypeId × Value → H} {P : Program} {w : World} {n : Nat} {cs : List Value} {x : Option (DataW H × List MemPlace)} {t : TypeId} {off : Nat} (h : DataW.trod enc P w 0 (fun _ => true) true n t ((cs.drop off).take (P.cellsOf t)) = x) (hc : P.cellsOf t = 1) (c : Value) (he : (cs.drop off).take 1 = [c]) (hx : ∃ y, x = some y) :
    ∃ y, DataW.trod enc P w 0 (fun _ => true) true n t [c] = some y := by
  rw [hc, he] at h
  rw [h]; exact hx
end Go.Proofs.YtloecagaldepfaaGreatDoor
namespace Go.Proofs.YtloecagaldepfaaGreatDoor
open Go Go.RowKit Go.Joins Go.ChangeShapes Go.WideShapes Go.ChangeAt Go.WideMaps Go.WideElems Go.Deep Go.Sy
theorem arr_act43 {α : Type} {cs : Array α} (h : cs.size = 6) : ∃ c0 c1 c2 c3 c4 c5, cs = #[c0, c1, c2, c3, c4, c5] := by
  obtain ⟨l⟩ := cs
  match l, h with
  | [c0, c1, c2, c3, c4, c5], _ => exact ⟨c0, c1, c2, c3, c4, c5, rfl⟩
set_option maxRecDepth 100000 in
theorem open_act43 {H : Type} {enc : TypeId × Value → H} {r : Reach} {b0 : Nat} {w : World} {v : Value} {d : DataW H} {p : List MemPlace} (hv : Value.okWide Tryz.prog w r b0 55 v) (h : DataW.Trod enc Tryz.prog w 0 (fun _ => true) true 55 v d p) :
    ∃ (a0 : Int) (a1 : Int) (a2 : Int) (a3 : ByteArray) (a4 : ByteArray) (A5 : Option Addr) (n5 k5 : Nat), v = .agg #[.int .i64 a0, .int .u64 a1, .int .u64 a2, .string a3, .string a4, .slice A5 n5 k5] := by
  obtain ⟨cs, rfl, hsz⟩ := okWide_struct Tryz.underlying55 hv
  obtain ⟨c0, c1, c2, c3, c4, c5, rfl⟩ := arr_act43 (hsz.trans (by kernel_rfl))
  obtain ⟨fuel, hf⟩ := h
  obtain ⟨xs, n, _, _, hl, hlen, hf⟩ := DataW.trod_struct Tryz.underlying55 hf
  obtain ⟨y0, g0⟩ : ∃ y, DataW.trod enc Tryz.prog w 0 (fun _ => true) true n 3 [c0] = some y := fld (hf 0 _ rfl) (by kernel_rfl) c0 rfl ⟨_, List.getElem?_eq_getElem (by rw [hlen]; decide)⟩
  obtain ⟨y1, g1⟩ : ∃ y, DataW.trod enc Tryz.prog w 0 (fun _ => true) true n 23 [c1] = some y := fld (hf 1 _ rfl) (by kernel_rfl) c1 rfl ⟨_, List.getElem?_eq_getElem (by rw [hlen]; decide)⟩
  obtain ⟨y2, g2⟩ : ∃ y, DataW.trod enc Tryz.prog w 0 (fun _ => true) true n 23 [c2] = some y := fld (hf 2 _ rfl) (by kernel_rfl) c2 rfl ⟨_, List.getElem?_eq_getElem (by rw [hlen]; decide)⟩
  obtain ⟨y3, g3⟩ : ∃ y, DataW.trod enc Tryz.prog w 0 (fun _ => true) true n 9 [c3] = some y := fld (hf 3 _ rfl) (by kernel_rfl) c3 rfl ⟨_, List.getElem?_eq_getElem (by rw [hlen]; decide)⟩
  obtain ⟨y4, g4⟩ : ∃ y, DataW.trod enc Tryz.prog w 0 (fun _ => true) true n 9 [c4] = some y := fld (hf 4 _ rfl) (by kernel_rfl) c4 rfl ⟨_, List.getElem?_eq_getElem (by rw [hlen]; decide)⟩
  obtain ⟨y5, g5⟩ : ∃ y, DataW.trod enc Tryz.prog w 0 (fun _ => true) true n 24 [c5] = some y := fld (hf 5 _ rfl) (by kernel_rfl) c5 rfl ⟨_, List.getElem?_eq_getElem (by rw [hlen]; decide)⟩
  obtain ⟨q0, e0, _, _⟩ := DataW.trod_int Tryz.underlying3 g0
  injection e0 with e0 _; subst e0
  obtain ⟨q1, e1, _, _⟩ := DataW.trod_int Tryz.underlying23 g1
  injection e1 with e1 _; subst e1
  obtain ⟨q2, e2, _, _⟩ := DataW.trod_int Tryz.underlying23 g2
  injection e2 with e2 _; subst e2
  obtain ⟨q3, e3, _, _⟩ := DataW.trod_string Tryz.underlying9 g3
  injection e3 with e3 _; subst e3
  obtain ⟨q4, e4, _, _⟩ := DataW.trod_string Tryz.underlying9 g4
  injection e4 with e4 _; subst e4
  obtain ⟨bs5, hb5⟩ := open_bts Tryz.underlying24 Tryz.underlying5 (by kernel_rfl) g5 5
  obtain ⟨A5, k5, e5⟩ := hb5.form; subst e5
  exact ⟨q0, q1, q2, q3, q4, A5, _, k5, rfl⟩
abbrev laid43 : List (String × DataW Unit) := [("math/bits.deBruijn32tab", Rows.laid_math_bits_deBruijn32tab), ("math/bits.deBruijn64tab", Rows.laid_math_bits_deBruijn64tab), ("internal/strconv.uint64pow10", Rows.laid_internal_strconv_uint64pow10)]
theorem rows43 {W : World} (h : laidMetH Tryz.prog laid43 W) : ∃ t0 t1 t2, RowsAt W (gs43 t0 t1 t2) [] := by
  rw [MakeChecks.laidMetH_plain _ _ _ (by kernel_rfl)] at h
  obtain ⟨t0, h0⟩ := blk_of_laid h (name := "internal/strconv.uint64pow10") (d := Rows.laid_internal_strconv_uint64pow10) (by simp) (g := 0) (n := 20) (t := 454) (e := 22) (k := .u64) (by kernel_rfl) (by kernel_rfl) (by kernel_rfl) (by kernel_rfl) (by kernel_rfl) (by kernel_rfl) pow10N rfl (by decide) rfl
  obtain ⟨t1, h1⟩ := blk_of_laid h (name := "math/bits.deBruijn32tab") (d := Rows.laid_math_bits_deBruijn32tab) (by simp) (g := 1) (n := 32) (t := 482) (e := 5) (k := .u8) (by kernel_rfl) (by kernel_rfl) (by kernel_rfl) (by kernel_rfl) (by kernel_rfl) (by kernel_rfl) bruijn32N rfl (by decide) rfl
  obtain ⟨t2, h2⟩ := blk_of_laid h (name := "math/bits.deBruijn64tab") (d := Rows.laid_math_bits_deBruijn64tab) (by simp) (g := 2) (n := 64) (t := 483) (e := 5) (k := .u8) (by kernel_rfl) (by kernel_rfl) (by kernel_rfl) (by kernel_rfl) (by kernel_rfl) (by kernel_rfl) bruijnN rfl (by decide) rfl
  exact ⟨t0, t1, t2, rows43_of h0 h1 h2⟩
set_option maxRecDepth 100000 in
theorem shard_walk (a0 a1 a2 : Int) (key name : ByteArray) (A : Option Addr) (n k : Nat) (w : World) (hw : ∃ t0 t1 t2, RowsAt w (gs43 t0 t1 t2) []) :
    Calls Tryz.prog 5 #[.agg #[.int .i64 a0, .int .u64 a1, .int .u64 a2, .string key, .string name, .slice A n k]] w fun e w' => e = .returned (.bool true) ∧ Below w.heap.size w w' := by
  obtain ⟨t0, t1, t2, hr⟩ := hw
  have one : ∀ t1 t2 t3, t1.all (testB key.size) = true → t2.all (testB n) = true → t3.all (testB name.size) = true → concL (sgB []) [act6 a0 a1 a2 key name A n k t1 t2 t3] = some [.agg #[.int .i64 a0, .int .u64 a1, .int .u64 a2, .string key, .string name, .slice A n k]] := fun t1 t2 t3 h1 h2 h3 =>
    concL_cons.2 ⟨_, _, act6_conc _ a0 a1 a2 key name A n k t1 t2 t3 h1 h2 h3, concL_nil.2 rfl, rfl⟩
  by_cases h1 : (100 : Int) < (key.size : Int)
  · exact run_args follows orcK_ok hr (one _ _ _ (by simp [testB]; omega) (by simp) (by simp)) (b_conc true) (Eq.mpr (sh_eval1 t0 t1 t2 a0 a1 a2 key name A n k) ⟨rfl, rfl, rfl, rfl, trivial⟩)
  · by_cases h2 : (100 : Int) < (n : Int)
    · exact run_args follows orcK_ok hr (one _ _ _ (by simp [testB]; omega) (by simp [testB]; omega) (by simp)) (b_conc true) (Eq.mpr (sh_eval2 t0 t1 t2 a0 a1 a2 key name A n k) ⟨rfl, rfl, rfl, rfl, trivial⟩)
    · by_cases h3 : (100 : Int) < (name.size : Int)
      · exact run_args follows orcK_ok hr (one _ _ _ (by simp [testB]; omega) (by simp [testB]; omega) (by simp [testB]; omega)) (b_conc true) (Eq.mpr (sh_eval3 t0 t1 t2 a0 a1 a2 key name A n k) ⟨rfl, rfl, rfl, rfl, trivial⟩)
      · exact run_args follows orcK_ok hr (one _ _ _ (by simp [testB]; omega) (by simp [testB]; omega) (by simp [testB]; omega)) (b_conc true) (Eq.mpr (sh_eval4 t0 t1 t2 a0 a1 a2 key name A n k) ⟨rfl, rfl, rfl, rfl, trivial⟩)
end Go.Proofs.YtloecagaldepfaaGreatDoor
