/- The table of kinds, out of the row's condition; an operation opened. -/
import Derived.Test.YtffigmciclopdaaDoorJouS
import Derived.Test.YtffigmciclopdaaDoorArgsC
import Derived.ProofKit
import Derived.LaidMore
import Derived.OpenShut
import Derived.Stop.Joined
namespace Go.Proofs.YtffigmciclopdaaDoor
open Go Go.RowKit Go.Joins Go.ChangeShapes Go.WideShapes Go.ChangeAt Go.WideMaps Go.WideElems

theorem array9 {α : Type} {cs : Array α} (h : cs.size = 9) : ∃ c0 c1 c2 c3 c4 c5 c6 c7 c8, cs = #[c0, c1, c2, c3, c4, c5, c6, c7, c8] := by
  obtain ⟨l⟩ := cs
  match l, h with
  | [c0, c1, c2, c3, c4, c5, c6, c7, c8], _ => exact ⟨c0, c1, c2, c3, c4, c5, c6, c7, c8, rfl⟩

theorem fld {H : Type} {enc : TypeId × Value → H} {P : Program} {w : World} {n : Nat} {cs : List Value} {x : Option (DataW H × List MemPlace)} {t : TypeId} {off : Nat} (h : DataW.trod enc P w 0 (fun _ => true) true n t ((cs.drop off).take (P.cellsOf t)) = x) (hc : P.cellsOf t = 1) (c : Value) (he : (cs.drop off).take 1 = [c]) (hx : ∃ y, x = some y) :
    ∃ y, DataW.trod enc P w 0 (fun _ => true) true n t [c] = some y := by
  rw [hc, he] at h
  rw [h]; exact hx
theorem u64_wf {z : Int} (h : (Lit.int .u64 z).wf = true) : 0 ≤ z := by
  have h1 : IntKind.u64.min = 0 := rfl
  simp [Lit.wf, h1] at h
  omega

theorem open_op {H : Type} {enc : TypeId × Value → H} {r : Reach} {b0 : Nat} {w : World} {v : Value} {d : DataW H} {p : List MemPlace} (hv : Value.okWide Tryd.prog w r b0 43 v) (h : DataW.Trod enc Tryd.prog w 0 (fun _ => true) true 43 v d p) :
    ∃ (o : OpV) (u : Value), v = opv o u ∧ o.key.size ≤ maxLen ∧ Bts w w.heap.size 5 u o.val ∧ 0 ≤ o.ticks := by
  obtain ⟨cs, rfl, hsz⟩ := okWide_struct Tryd.underlying43 hv
  obtain ⟨c0, c1, c2, c3, c4, c5, c6, c7, c8, rfl⟩ := array9 (hsz.trans (by kernel_rfl))
  obtain ⟨fuel, hf⟩ := h
  obtain ⟨xs, n, _, _, hl, hlen, hf⟩ := DataW.trod_struct Tryd.underlying43 hf
  obtain ⟨y0, g0⟩ : ∃ y, DataW.trod enc Tryd.prog w 0 (fun _ => true) true n 39 [c0] = some y := fld (hf 0 _ rfl) (by kernel_rfl) c0 rfl ⟨_, List.getElem?_eq_getElem (by rw [hlen]; decide)⟩
  obtain ⟨y1, g1⟩ : ∃ y, DataW.trod enc Tryd.prog w 0 (fun _ => true) true n 41 [c1] = some y := fld (hf 1 _ rfl) (by kernel_rfl) c1 rfl ⟨_, List.getElem?_eq_getElem (by rw [hlen]; decide)⟩
  obtain ⟨y2, g2⟩ : ∃ y, DataW.trod enc Tryd.prog w 0 (fun _ => true) true n 9 [c2] = some y := fld (hf 2 _ rfl) (by kernel_rfl) c2 rfl ⟨_, List.getElem?_eq_getElem (by rw [hlen]; decide)⟩
  obtain ⟨y3, g3⟩ : ∃ y, DataW.trod enc Tryd.prog w 0 (fun _ => true) true n 22 [c3] = some y := fld (hf 3 _ rfl) (by kernel_rfl) c3 rfl ⟨_, List.getElem?_eq_getElem (by rw [hlen]; decide)⟩
  obtain ⟨y4, g4⟩ : ∃ y, DataW.trod enc Tryd.prog w 0 (fun _ => true) true n 41 [c4] = some y := fld (hf 4 _ rfl) (by kernel_rfl) c4 rfl ⟨_, List.getElem?_eq_getElem (by rw [hlen]; decide)⟩
  obtain ⟨y5, g5⟩ : ∃ y, DataW.trod enc Tryd.prog w 0 (fun _ => true) true n 3 [c5] = some y := fld (hf 5 _ rfl) (by kernel_rfl) c5 rfl ⟨_, List.getElem?_eq_getElem (by rw [hlen]; decide)⟩
  obtain ⟨y6, g6⟩ : ∃ y, DataW.trod enc Tryd.prog w 0 (fun _ => true) true n 3 [c6] = some y := fld (hf 6 _ rfl) (by kernel_rfl) c6 rfl ⟨_, List.getElem?_eq_getElem (by rw [hlen]; decide)⟩
  obtain ⟨y7, g7⟩ : ∃ y, DataW.trod enc Tryd.prog w 0 (fun _ => true) true n 3 [c7] = some y := fld (hf 7 _ rfl) (by kernel_rfl) c7 rfl ⟨_, List.getElem?_eq_getElem (by rw [hlen]; decide)⟩
  obtain ⟨y8, g8⟩ : ∃ y, DataW.trod enc Tryd.prog w 0 (fun _ => true) true n 40 [c8] = some y := fld (hf 8 _ rfl) (by kernel_rfl) c8 rfl ⟨_, List.getElem?_eq_getElem (by rw [hlen]; decide)⟩
  obtain ⟨k0, e0, _, _⟩ := DataW.trod_int Tryd.underlying39 g0
  obtain ⟨k1, e1, _, h1⟩ := DataW.trod_int Tryd.underlying41 g1
  obtain ⟨k2, e2, _, h2⟩ := DataW.trod_string Tryd.underlying9 g2
  obtain ⟨bs, hb⟩ := open_bts Tryd.underlying22 Tryd.underlying5 (by kernel_rfl) g3 5
  obtain ⟨k4, e4, _, _⟩ := DataW.trod_int Tryd.underlying41 g4
  obtain ⟨k5, e5, _, _⟩ := DataW.trod_int Tryd.underlying3 g5
  obtain ⟨k6, e6, _, _⟩ := DataW.trod_int Tryd.underlying3 g6
  obtain ⟨k7, e7, _, _⟩ := DataW.trod_int Tryd.underlying3 g7
  obtain ⟨k8, e8, _, _⟩ := DataW.trod_int Tryd.underlying40 g8
  injection e0 with e0 _
  injection e1 with e1 _
  injection e2 with e2 _
  injection e4 with e4 _
  injection e5 with e5 _
  injection e6 with e6 _
  injection e7 with e7 _
  injection e8 with e8 _
  subst e0 e1 e2 e4 e5 e6 e7 e8
  exact ⟨⟨k0, k1, k2, bs, k4, k5, k6, k7, k8⟩, c3, rfl, h2, hb, u64_wf h1⟩

theorem gKinds : Tryd.prog.globalNamed "cubbyhole/script.kinds" = some 0 := by kernel_rfl
theorem tKinds : (Tryd.prog.globals[0]?).map (·.type) = some 82 := by kernel_rfl
theorem kinds_at : ∀ i : Nat, i < 16 → ∀ xs : List (DataW Unit), (Rows.laid_cubbyhole_script_kinds : DataW Unit) = .agg xs → xs[i]? = some (.lit (.int .i64 (kindL.getD i 0))) := by
  intro i hi xs hxs
  unfold Rows.laid_cubbyhole_script_kinds at hxs
  injection hxs with hxs
  subst hxs
  rcases (by omega : i = 0 ∨ i = 1 ∨ i = 2 ∨ i = 3 ∨ i = 4 ∨ i = 5 ∨ i = 6 ∨ i = 7 ∨ i = 8 ∨ i = 9 ∨ i = 10 ∨ i = 11 ∨ i = 12 ∨ i = 13 ∨ i = 14 ∨ i = 15) with rfl | rfl | rfl | rfl | rfl | rfl | rfl | rfl | rfl | rfl | rfl | rfl | rfl | rfl | rfl | rfl <;> rfl
theorem at_take1 {α : Type} {l : List α} {i : Nat} {c : α} (h : (l.drop i).take 1 = [c]) : l[i]? = some c := by
  have h1 : ((l.drop i).take 1)[0]? = some c := by rw [h]; rfl
  rw [List.getElem?_take_of_lt (by omega), List.getElem?_drop, Nat.add_zero] at h1
  exact h1
theorem kg_of_laid {W : World} (h : laidMetH Tryd.prog [("cubbyhole/script.kinds", Rows.laid_cubbyhole_script_kinds)] W) : KG W := by
  rw [MakeChecks.laidMetH_plain _ _ _ (by kernel_rfl)] at h
  obtain ⟨ps, ⟨g0, t0, cs0, f0, p0, q0, hg0, ht0, hv0, hd0, hx⟩, _, _⟩ := h
  obtain rfl := Option.some.inj (gKinds.symm.trans hg0)
  obtain rfl := Option.some.inj (tKinds.symm.trans ht0)
  obtain ⟨xs, m, _, hx1, hlen, hn, hel⟩ := DataW.trod_array Tryd.underlying82 hd0
  simp only [Prod.mk.injEq] at hx1
  have hcell : ∀ i, i < 16 → W.cell? ⟨0, i, none⟩ = some (.int .i64 (kindL.getD i 0)) := by
    intro i hi
    have hc := hel i hi
    rw [show Tryd.prog.cellsOf 3 = 1 by kernel_rfl, Nat.mul_one, List.getElem?_eq_getElem (by omega)] at hc
    obtain ⟨k, e1, e2, _⟩ := DataW.trod_int Tryd.underlying3 hc
    have h2 := kinds_at i hi _ hx1.1
    rw [List.getElem?_map, List.getElem?_eq_getElem (by omega), e2] at h2
    simp only [Option.map_some, Option.some.injEq, DataW.lit.injEq, Lit.int.injEq, true_and] at h2
    rw [World.var?_cell hg0 hv0 i, ← h2]
    have := at_take1 e1
    rwa [Array.getElem?_toList] at this
  exact ⟨block_lt_of_cell (hcell 0 (by omega)), hcell⟩
end Go.Proofs.YtffigmciclopdaaDoor
