/- AudJM, AudJN, AudJO, AudJP, AudJQ, AudJR, AudJS, AudJT, AudJU, AudJV -/
import Derived.Test.YtnabbimompapfaaGreatMl9
import Derived.Lib.SliceRun
import Derived.Test.YtnabbimompapfaaGreatSort
import Derived.Shelf.SlSortCmp.NoneTotal
import Derived.Test.YtnabbimompapfaaGreatMl1
import Derived.Test.YtnabbimompapfaaGreatMl2
import Derived.Test.YtnabbimompapfaaGreatMl8
namespace Go.Proofs.YtnabbimompapfaaGreat
open Go Go.RowKit
structure PredIs (wb : World) (g : Nat) (lb : Array Value) (its : List It) (p : It → Bool) : Prop where
 eg : ∀ args w, (callFunc g args).run Tryz.prog w = .ok (.enter g args) w
 run : ∀ x ∈ its, ∀ W, Below wb.heap.size wb W → Calls Tryz.prog g (#[ptrI x.b] ++ lb) W fun e w' => e = .returned (.bool (p x)) ∧ Gr W w'
theorem PredIs.later {wb w : World} {g : Nat} {lb : Array Value} {its : List It} {p : It → Bool} (h : PredIs wb g lb its p) (hb : Below wb.heap.size wb w) : PredIs w g lb its p :=
 ⟨h.eg, fun x hx W hW => h.run x hx W (hb.trans (hW.mono hb.size))⟩
theorem PRow.at_ {w : World} {B : Nat} {A : Option Addr} {n c : Nat} {xs : List It} (h : PRow w B A n c (xs.map It.b)) {k : Nat} (hk : k < n) : ∃ g x, A = some ⟨g, 0, none⟩ ∧ B ≤ g ∧ g < w.heap.size ∧ xs[k]? = some x ∧ w.cell? ⟨g, k, none⟩ = some (ptrI x.b) := by
 have hl := h.len
 rw [List.length_map] at hl
 rcases h.row with e | ⟨g, h1, h2, h3, h4⟩
 ·rw [List.map_eq_nil_iff] at e
  subst e
  simp at hl
  omega
 ·have hx : xs[k]? = some xs[k] := List.getElem?_eq_getElem (by omega)
  exact ⟨g, xs[k], h1, h2, h3.lt, hx, (h4 k _ (by rw [List.getElem?_map, hx]; rfl)).1⟩
def IdxIs (xs : List It) (p : It → Bool) (r : Int) : Prop := (r = -1 ∧ ∀ x ∈ xs, p x = false) ∨ ∃ (k : Nat) (x : It), r = (k : Int) ∧ xs[k]? = some x ∧ p x = true ∧ ∀ (j : Nat) (y : It), j < k → xs[j]? = some y → p y = false
set_option maxRecDepth 100000 in
set_option maxHeartbeats 2000000 in
theorem indexFunc_any (wb w : World) (hb : Below wb.heap.size wb w) (g : Nat) (lb : Array Value) (its : List It) (p : It → Bool) (hp : PredIs wb g lb its p) (xs : List It) (hxs : ∀ x ∈ xs, x ∈ its) (A : Option Addr) (n c : Nat) (hr : PRow w wb.heap.size A n c (xs.map It.b)) :
  Calls Tryz.prog 59 #[.slice A n c, .func (.func g) #[] lb] w fun e w' => ∃ r, e = .returned (.int .i64 r) ∧ IdxIs xs p r ∧ Gr w w' := by
 have eg := hp.eg
 have hn := hr.small
 have HP := zH hp
 have HB := zH hb
 have HX := zH hxs
 have HR := zH hr
 clear hp hb hxs hr
 go_enter Tryz.func59, Tryz.ntmps59
 go_wp2_with fail
 go_loopw [5, 8] (fun _ i wr => ∃ k : Nat, k ≤ n ∧ i = .int .i64 k ∧ Gr w wr ∧ ∀ j y, j < k → xs[j]? = some y → p y = false) (fun _ i _ => n - (intOf i).toNat)
 case atStart => exact ⟨0, Nat.zero_le _, rfl, Gr.refl _, fun j y hj => absurd hj (Nat.not_lt_zero _)⟩
 case round =>
  obtain ⟨k, hk, rfl, hg, hno⟩ := hrel
  have HG := zH hg
  have HN := zH hno
  clear hg hno
  by_cases hlt : k < n
  ·have hltz : (k : Int) < (n : Int) := by omega
   obtain ⟨gr, x, rfl, _, hgl, hx, hcell⟩ := (HR.out.below HG.out.below).at_ hlt
   have HXx := zH hx
   have hcap : (n : Int) ≤ (c : Int) := by have := HR.out.cap; omega
   have hmem := HX.out x (List.mem_of_getElem? hx)
   have hcall := HP.out.run x hmem wr (HB.out.trans (HG.out.below.mono HB.out.size))
   unfold ptrI at hcell hcall
   have HCall := zH hcall
   clear hx hmem hcall hgl
   cases hq : p x with
   |true =>
    go_wp2_with fail
    refine HCall.out.mono ?_
    rintro e w2 ⟨he, hg2⟩
    rw [hq] at he
    subst he
    have HG2 := zH (HG.out.trans hg2)
    clear hg2
    go_wp2_with fail
    go_ret
    exact ⟨_, rfl, .inr ⟨k, x, rfl, HXx.out, hq, HN.out⟩, HG2.out⟩
   |false =>
    go_wp2_with fail
    refine HCall.out.mono ?_
    rintro e w2 ⟨he, hg2⟩
    rw [hq] at he
    subst he
    have HG2 := zH (HG.out.trans hg2)
    clear hg2
    go_wp2_with fail
    go_roundw
    case rel =>
     refine ⟨k + 1, by omega, by go_num, HG2.out, fun j y hj hy => ?_⟩
     by_cases e : j = k
     ·subst e
      rw [HXx.out] at hy
      injection hy with hy
      rw [← hy]; exact hq
     ·exact HN.out j y (by omega) hy
    case measure => simp [intOf]; omega
  ·obtain rfl : k = n := by omega
   go_wp2_with fail
   go_ret
   refine ⟨_, rfl, .inl ⟨rfl, fun x hx => ?_⟩, HG.out⟩
   obtain ⟨j, hj⟩ := List.getElem?_of_mem hx
   have hl := HR.out.len
   rw [List.length_map] at hl
   exact HN.out j x (by have := (List.getElem?_eq_some_iff.1 hj).1; omega) hj
theorem below_setCells_p {B b : Nat} {a : World} (hb : B ≤ b) : ∀ (vs : List Value) (o : Nat) (w : World), Below B a w → Below B a (w.setCells b o vs)
 |[], _, _, h => h
 |v :: vs, o, w, h => below_setCells_p hb vs (o + 1) _ (h.setCell (p := ⟨b, o, none⟩) hb v)
theorem rowT_setCells {g : Nat} : ∀ (vs : List Value) (o : Nat) (w : World), RowT w g → RowT (w.setCells g o vs) g
 |[], _, _, h => h
 |v :: vs, o, w, h => rowT_setCells vs (o + 1) _ (h.set_ o v)
structure DMid (wb wr : World) (g n : Nat) (xs : List It) (p : It → Bool) (i j : Nat) : Prop where
 bel : Below wb.heap.size wb wr
 ty : RowT wr g
 base : wb.heap.size ≤ g
 ij : i < j
 jn : j ≤ n
 kl : ((xs.take j).filter fun x => !p x).length = i
 low : ∀ t x, ((xs.take j).filter fun x => !p x)[t]? = some x → wr.cell? ⟨g, t, none⟩ = some (ptrI x.b)
 high : ∀ t x, j ≤ t → xs[t]? = some x → wr.cell? ⟨g, t, none⟩ = some (ptrI x.b)
 all : ∀ t, t < n → (∃ u, wr.cell? ⟨g, t, none⟩ = some (ptrI u)) ∧ wr.frozen? ⟨g, t, none⟩ = false
section
variable {wb wr : World} {g n : Nat} {xs : List It} {p : It → Bool} {i j : Nat}
theorem DMid.lt (h : DMid wb wr g n xs p i j) : g < wr.heap.size := h.ty.lt
theorem DMid.gr {w' : World} (h : DMid wb wr g n xs p i j) (hg : Gr wr w') : DMid wb w' g n xs p i j := by
 have hb := hg.below
 have hc : ∀ t, w'.cell? ⟨g, t, none⟩ = wr.cell? ⟨g, t, none⟩ := fun t => hb.cell (p := ⟨g, t, none⟩) h.lt
 refine ⟨h.bel.trans (hb.mono h.bel.size), h.ty.below hb, h.base, h.ij, h.jn, h.kl, fun t x hx => (hc t).trans (h.low t x hx), fun t x ht hx => (hc t).trans (h.high t x ht hx), fun t ht => ?_⟩
 obtain ⟨⟨u, hu⟩, hf⟩ := h.all t ht
 exact ⟨⟨u, (hc t).trans hu⟩, by rw [World.frozen?, hb.block g h.lt]; exact hf⟩
theorem take_next {x : It} (hx : xs[j]? = some x) (q : It → Bool) : (xs.take (j + 1)).filter q = (xs.take j).filter q ++ (if q x = true then [x] else []) := by
 rw [List.take_add_one, hx, List.filter_append]
 congr 1
 cases hq : q x <;> simp [hq]
theorem DMid.skip {x : It} (h : DMid wb wr g n xs p i j) (hj : j < n) (hx : xs[j]? = some x) (hq : p x = true) : DMid wb wr g n xs p i (j + 1) := by
 have e : ((xs.take (j + 1)).filter fun x => !p x) = ((xs.take j).filter fun x => !p x) := by rw [take_next hx, hq]; simp
 exact ⟨h.bel, h.ty, h.base, by have := h.ij; omega, by omega, by rw [e]; exact h.kl, by rw [e]; exact h.low, fun t y ht => h.high t y (by omega), h.all⟩
theorem DMid.keep {x : It} (h : DMid wb wr g n xs p i j) (hj : j < n) (hx : xs[j]? = some x) (hq : p x = false) : DMid wb (wr.setCell ⟨g, i, none⟩ (ptrI x.b)) g n xs p (i + 1) (j + 1) := by
 have e : ((xs.take (j + 1)).filter fun x => !p x) = ((xs.take j).filter fun x => !p x) ++ [x] := by rw [take_next hx, hq]; simp
 have hij := h.ij
 have hkl := h.kl
 obtain ⟨⟨u0, hu0⟩, _⟩ := h.all i (by omega)
 have hsame : (wr.setCell ⟨g, i, none⟩ (ptrI x.b)).cell? ⟨g, i, none⟩ = some (ptrI x.b) := World.cell?_setCell_same _ _ _ hu0
 have hoth : ∀ t, t ≠ i → (wr.setCell ⟨g, i, none⟩ (ptrI x.b)).cell? ⟨g, t, none⟩ = wr.cell? ⟨g, t, none⟩ := fun t ht => World.cell?_setCell_other _ _ _ _ (by intro e; simp only [Addr.mk.injEq] at e; exact ht e.2.1.symm)
 refine ⟨h.bel.setCell (p := ⟨g, i, none⟩) h.base _, h.ty.set_ _ _, h.base, by omega, by omega, by rw [e, List.length_append, hkl]; rfl, fun t y hy => ?_, fun t y ht hy => ?_, fun t ht => ?_⟩
 ·rw [e] at hy
  by_cases ht : t = i
  ·subst ht
   rw [List.getElem?_append_right (by omega), hkl, Nat.sub_self] at hy
   simp at hy
   rw [← hy]; exact hsame
  ·rw [hoth t ht]
   refine h.low t y ?_
   have hl := (List.getElem?_eq_some_iff.1 hy).1
   rw [List.length_append, hkl] at hl
   simp at hl
   rw [List.getElem?_append_left (by omega)] at hy
   exact hy
 ·rw [hoth t (by omega)]
  exact h.high t y (by omega) hy
 ·obtain ⟨⟨u, hu⟩, hf⟩ := h.all t ht
  refine ⟨?_, by rw [World.frozen?_setCell]; exact hf⟩
  by_cases e : t = i
  ·subst e; exact ⟨_, hsame⟩
  ·exact ⟨u, by rw [hoth t e]; exact hu⟩
end
def DelRet (wb : World) (A : Option Addr) (c : Nat) (xs : List It) (p : It → Bool) (e : Ending) (w' : World) : Prop :=
 ∃ n', e = .returned (.slice A n' c) ∧ PRow w' wb.heap.size A n' c ((xs.filter fun x => !p x).map It.b) ∧ Below wb.heap.size wb w'
set_option maxRecDepth 100000 in
set_option maxHeartbeats 4000000 in
theorem deleteFunc_any (wb w : World) (hb : Below wb.heap.size wb w) (g : Nat) (lb : Array Value) (its : List It) (p : It → Bool) (hp : PredIs wb g lb its p) (xs : List It) (hxs : ∀ x ∈ xs, x ∈ its) (A : Option Addr) (n c : Nat) (hr : PRow w wb.heap.size A n c (xs.map It.b)) :
  Calls Tryz.prog 35 #[.slice A n c, .func (.func g) #[] lb] w (DelRet wb A c xs p) := by
 have eg := hp.eg
 have hn := hr.small
 have HI := zH (indexFunc_any wb w hb g lb its p hp xs hxs A n c hr)
 have HP := zH hp
 have HB := zH hb
 have HX := zH hxs
 have HR := zH hr
 have hxl : n = xs.length := by have := hr.len; rwa [List.length_map] at this
 have HXl := zH hxl
 clear hp hb hxs hr hxl
 go_enter Tryz.func35, Tryz.ntmps35
 go_wp2_with fail
 refine HI.out.mono ?_
 rintro e w1 ⟨r, rfl, hidx, hg1⟩
 have HG1 := zH hg1
 rcases hidx with ⟨rfl, hnone⟩ | ⟨k, x, rfl, hx, hpx, hbefore⟩
 ·have HNo := zH hnone
  clear hnone hg1
  go_wp2_with fail
  go_ret
  have e : (xs.filter fun x => !p x) = xs := List.filter_eq_self.2 (fun x hx => by rw [HNo.out x hx]; rfl)
  exact ⟨n, rfl, by rw [e]; exact HR.out.below HG1.out.below, HB.out.trans (HG1.out.below.mono HB.out.size)⟩
 ·have hkn : k < n := by have := (List.getElem?_eq_some_iff.1 hx).1; have := HXl.out; omega
  obtain ⟨gr, hA, hgb, hgl, hcells⟩ : ∃ gr, A = some ⟨gr, 0, none⟩ ∧ wb.heap.size ≤ gr ∧ RowT w1 gr ∧ ∀ i b, (xs.map It.b)[i]? = some b → w1.cell? ⟨gr, i, none⟩ = some (ptrI b) ∧ w1.frozen? ⟨gr, i, none⟩ = false := by
   rcases (HR.out.below hg1.below).row with e | h
   ·rw [List.map_eq_nil_iff] at e
    subst e
    simp at hx
   ·exact h
  subst hA
  have hfk : ((xs.take k).filter fun x => !p x) = xs.take k := List.filter_eq_self.2 (fun y hy => by
   obtain ⟨j, hj⟩ := List.getElem?_of_mem hy
   have hjl := (List.getElem?_eq_some_iff.1 hj).1
   rw [List.length_take] at hjl
   rw [List.getElem?_take_of_lt (by omega)] at hj
   rw [hbefore j y (by omega) hj]; rfl)
  have hft : ((xs.take (k + 1)).filter fun x => !p x) = xs.take k := by rw [take_next hx, hfk, hpx]; simp
  have hmid : DMid wb w1 gr n xs p k (k + 1) := by
   refine ⟨HB.out.trans (hg1.below.mono HB.out.size), hgl, hgb, by omega, by omega, by rw [hft, List.length_take]; have := HXl.out; omega, fun t y hy => ?_, fun t y ht hy => ?_, fun t ht => ?_⟩
   ·rw [hft] at hy
    have hjl := (List.getElem?_eq_some_iff.1 hy).1
    rw [List.length_take] at hjl
    rw [List.getElem?_take_of_lt (by omega)] at hy
    exact (hcells t y.b (by rw [List.getElem?_map, hy]; rfl)).1
   ·exact (hcells t y.b (by rw [List.getElem?_map, hy]; rfl)).1
   ·have hy : xs[t]? = some xs[t] := List.getElem?_eq_getElem (by have := HXl.out; omega)
    obtain ⟨h1, h2⟩ := hcells t (xs[t]).b (by rw [List.getElem?_map, hy]; rfl)
    exact ⟨⟨_, h1⟩, h2⟩
  have HM := zH hmid
  have hcap : (n : Int) ≤ (c : Int) := by have := HR.out.cap; omega
  have hne1 : ((k : Int) == -1) = false := beq_eq_false_iff_ne.2 (by omega)
  clear hmid hcells hfk hft hg1 hx hpx hbefore hgb hgl
  go_wp2_with fail
  go_loopw [5, 6, 7] (fun si sj _ wr => ∃ i j : Nat, si = .int .i64 i ∧ sj = .int .i64 j ∧ DMid wb wr gr n xs p i j) (fun _ sj _ _ => n - (intOf sj).toNat)
  case atStart => exact ⟨k, k + 1, rfl, by go_num, HM.out⟩
  case round =>
   clear HM HI HG1 hkn hne1
   obtain ⟨i, j, rfl, rfl, hmid⟩ := hrel
   have hij := hmid.ij
   have hjn := hmid.jn
   have HM := zH hmid
   by_cases hlt : j < n
   ·have hltz : (j : Int) < (n : Int) := by omega
    obtain ⟨x, hx⟩ : ∃ x, xs[j]? = some x := ⟨_, List.getElem?_eq_getElem (by have := HXl.out; omega)⟩
    have cj := hmid.high j x (zN _) hx
    have hcall := HP.out.run x (HX.out x (List.mem_of_getElem? hx)) wr hmid.bel
    unfold ptrI at cj hcall
    have HCall := zH hcall
    have HXx := zH hx
    clear hcall hx hmid
    cases hq : p x with
    |false =>
     go_wp2_with fail
     refine HCall.out.mono ?_
     rintro e w2 ⟨he, hg2⟩
     rw [hq] at he
     subst he
     have HM2 := zH (HM.out.gr hg2)
     obtain ⟨⟨u, ci⟩, fi⟩ := HM2.out.all i (by omega)
     unfold ptrI at ci
     clear hg2
     go_wp2_with fail
     go_roundw
     case rel => exact ⟨i + 1, j + 1, by go_num, by go_num, HM2.out.keep hlt HXx.out hq⟩
     case measure => simp [intOf]; omega
    |true =>
     go_wp2_with fail
     refine HCall.out.mono ?_
     rintro e w2 ⟨he, hg2⟩
     rw [hq] at he
     subst he
     have HM2 := zH (HM.out.gr hg2)
     clear hg2
     go_wp2_with fail
     go_roundw
     case rel => exact ⟨i, j + 1, rfl, by go_num, HM2.out.skip hlt HXx.out hq⟩
     case measure => simp [intOf]; omega
   ·obtain rfl : j = n := by omega
    have hcl : ∀ ty, (Builtin.clear_ #[63] ty #[.slice (some ⟨gr, i, none⟩) (j - i) (c - i)]).run Tryz.prog wr = .ok (.tuple #[]) (wr.setCells gr i (List.replicate (j - i) (.pointer none))) :=
     fun ty => Lib.run_clear_slice wr _ _ ty _ Tryz.underlying63 (Tryz.zeroValue65) rfl rfl gr i _ _ (by omega) (fun t ht => by obtain ⟨⟨u, hu⟩, _⟩ := hmid.all (i + t) (by omega); rw [hu]; rfl) (fun t ht => (hmid.all (i + t) (by omega)).2)
    have hic : (i : Int) ≤ (j : Int) := by omega
    clear hmid
    go_wp2_with fail
    go_ret
    have h := HM.out
    have hft : xs.take j = xs := List.take_of_length_le (by have := HXl.out; omega)
    have hkl := h.kl
    have hlow := h.low
    rw [hft] at hkl hlow
    refine ⟨i, rfl, ⟨by rw [List.length_map, hkl], by have := HR.out.cap; omega, by omega, .inr ⟨gr, rfl, h.base, rowT_setCells _ _ _ h.ty, fun t b hb => ?_⟩⟩, below_setCells_p h.base _ _ _ h.bel⟩
    rw [List.getElem?_map] at hb
    obtain ⟨y, hy, rfl⟩ := Option.map_eq_some_iff.1 hb
    have hti := (List.getElem?_eq_some_iff.1 hy).1
    refine ⟨?_, by rw [World.frozen?_setCells]; exact (h.all t (by omega)).2⟩
    rw [World.cell?_setCells_out _ _ _ _ _ (fun _ _ => .inl (by dsimp only; omega))]
    exact hlow t y hy
set_option maxHeartbeats 1000000 in
theorem notIs_any (wb w : World) (hb : Below wb.heap.size wb w) (g Bs : Nat) (lb : Array Value) (its : List It) (p : It → Bool) (hp : PredIs wb g lb its p) (hB : Blk w Bs 66 #[.func (.func g) #[] lb]) :
  PredIs w 38 #[.pointer (some ⟨Bs, 0, none⟩)] its (fun x => !p x) := by
 refine ⟨enters_of Tryz.func38 (by kernel_rfl) rfl, fun x hx W hW => ?_⟩
 have eg := hp.eg
 have hc := (hB.below hW).cell 0 _ rfl
 have HC := zH (hp.run x hx W (hb.trans (hW.mono hb.size)))
 clear hp hb hB hW hx
 show Calls Tryz.prog _ #[ptrI x.b, .pointer (some ⟨Bs, 0, none⟩)] W _
 unfold ptrI at HC ⊢
 go_enter Tryz.func38, Tryz.ntmps38
 go_wp2_with fail
 refine HC.out.mono ?_
 rintro e w2 ⟨rfl, hg2⟩
 have HG2 := zH hg2
 clear hg2
 go_wp2_with fail
 go_ret
 exact ⟨rfl, HG2.out⟩
end Go.Proofs.YtnabbimompapfaaGreat
namespace Go.Proofs.YtnabbimompapfaaGreat
open Go Go.RowKit
open Go.Sort (grow SWO PermIn SortedIn Holds putRow putCells mapBlock onCells)
open Go.Proofs (ltOf CmpLays1 sortWorld holds_sortWorld)
theorem sortWorld_other {α : Type} [Inhabited α] (enc : α → Value) (w : World) (g off n : Nat) (d : Array α) (os : Array Obj) (k : Nat) (hk : k < w.heap.size) (hne : k ≠ g) : (sortWorld enc w g off n d os).heap[k]? = w.heap[k]? := by
 show ((putRow enc (Go.Sort.ahead w n) g off d).heap ++ os)[k]? = w.heap[k]?
 have hs : k < (putRow enc (Go.Sort.ahead w n) g off d).heap.size := by rw [Go.Sort.size_putRow]; exact hk
 rw [Array.getElem?_append_left hs]
 have : g ≠ k := fun e => hne e.symm
 simp [putRow, mapBlock, Go.Sort.ahead, Array.getElem?_modify, this]
theorem sortWorld_below {α : Type} [Inhabited α] (enc : α → Value) (w : World) (g off n B : Nat) (d : Array α) (os : Array Obj) (hB : B ≤ g) (hw : B ≤ w.heap.size) : Below B w (sortWorld enc w g off n d os) := by
 refine ⟨rfl, rfl, rfl, ?_, fun k hk => sortWorld_other enc w g off n d os k (by omega) (by omega)⟩
 show w.heap.size ≤ ((putRow enc (Go.Sort.ahead w n) g off d).heap ++ os).size
 rw [Array.size_append, Go.Sort.size_putRow]
 exact Nat.le_add_right _ _
theorem sortWorld_rowT {α : Type} [Inhabited α] (enc : α → Value) (w : World) (g off n : Nat) (d : Array α) (os : Array Obj) (h : RowT w g) : RowT (sortWorld enc w g off n d os) g := by
 obtain ⟨cs, h⟩ := h
 have hl := h.lt
 refine ⟨putCells enc off d cs, ?_⟩
 show ((putRow enc (Go.Sort.ahead w n) g off d).heap ++ os)[g]? = _
 rw [Array.getElem?_append_left (by rw [Go.Sort.size_putRow]; exact hl)]
 unfold Blk at h
 simp [putRow, mapBlock, Go.Sort.ahead, Array.getElem?_modify, h, onCells]
def SrtRet (wb : World) (A : Option Addr) (n c : Nat) (xs : List It) (cf : EntV → EntV → Int) (e : Ending) (w' : World) : Prop :=
 e = .returned (.tuple #[]) ∧ ∃ ys : List It, ys.Perm xs ∧ ys.Pairwise (fun a b => ¬ cf b.e a.e < 0) ∧ PRow w' wb.heap.size A n c (ys.map It.b) ∧ Below wb.heap.size wb w'
theorem sort_any (wb w : World) (hb : Below wb.heap.size wb w) (its : List It) (hits : ∀ x ∈ its, ItAt wb x.b x.e x.v x.u (costE x.e)) (h : Nat) (cf : EntV → EntV → Int) (hc : CmpIs h cf) (xs : List It) (hxs : ∀ x ∈ xs, x ∈ its) (A : Option Addr) (n c : Nat) (hr : PRow w wb.heap.size A n c (xs.map It.b)) :
  Calls Tryz.prog 39 #[.slice A n c, .func (.func h) #[] #[]] w (SrtRet wb A n c xs cf) := by
 have hlen := hr.len
 rw [List.length_map] at hlen
 have hsm := hr.small
 rcases hr.row with e | ⟨g, hA, hbg, hgt, hcells⟩
 ·rw [List.map_eq_nil_iff] at e
  subst e
  have hn0 : n = 0 := by simpa using hlen
  subst hn0
  refine (AnyF.slices_SortFunc_none (P := Tryz.prog) (ρ := Tryz.sortItem_ren) { Tryz.sortItem with } A c (.func (.func h) #[] #[]) w).mono ?_
  rintro e w' ⟨rfl, rfl⟩
  exact ⟨rfl, [], List.Perm.refl _, List.Pairwise.nil, hr, hb⟩
 ·have hgl := hgt.lt
  by_cases hx0 : xs = []
  ·subst hx0
   have hn0 : n = 0 := by simpa using hlen
   subst hn0
   refine (AnyF.slices_SortFunc_none (P := Tryz.prog) (ρ := Tryz.sortItem_ren) { Tryz.sortItem with } A c (.func (.func h) #[] #[]) w).mono ?_
   rintro e w' ⟨rfl, rfl⟩
   exact ⟨rfl, [], List.Perm.refl _, List.Pairwise.nil, hr, hb⟩
  ·subst hA
   obtain ⟨x0, hx0m⟩ := List.exists_mem_of_ne_nil xs hx0
   have : Inhabited {x : It // x ∈ its} := ⟨⟨x0, hxs x0 hx0m⟩⟩
   obtain ⟨d, hd⟩ : ∃ d : Array {x : It // x ∈ its}, d.toList.map Subtype.val = xs := by
    refine ⟨(xs.pmap (fun x hx => (⟨x, hx⟩ : {x : It // x ∈ its})) hxs).toArray, ?_⟩
    rw [List.map_pmap]
    simp
   have hds : d.size = n := by rw [hlen, ← hd, List.length_map, Array.length_toList]
   have hH : Holds (fun x : {x : It // x ∈ its} => ptrI x.1.b) w g 0 d := fun j hj => by
    rw [Nat.zero_add]
    refine hcells j _ ?_
    rw [← hd, List.getElem?_map, List.getElem?_map, Array.getElem?_toList, Array.getElem?_eq_getElem hj]
    simp [getElem!_pos d j hj]
   have hO : SWO (ltOf fun x y : {x : It // x ∈ its} => cf x.1.e y.1.e) := by
    refine ⟨fun x => ?_, fun x y z h1 h2 => ?_, fun x y z h1 h2 => ?_⟩
    ·exact decide_eq_false (hc.irr _)
    ·exact decide_eq_true (hc.tr _ _ _ (of_decide_eq_true h1) (of_decide_eq_true h2))
    ·exact decide_eq_false (hc.nt _ _ _ (of_decide_eq_false h1) (of_decide_eq_false h2))
   have hcmp : CmpLays1 Tryz.prog h #[] (fun x : {x : It // x ∈ its} => ptrI x.1.b) (fun x y => cf x.1.e y.1.e) g 0 d.size w := fun m os dk hs x y => by
    have hat : ∀ z ∈ its, ItAt (sortWorld (fun x : {x : It // x ∈ its} => ptrI x.1.b) w g 0 m dk os) z.b z.e z.v z.u (costE z.e) := fun z hz => by
     have h1 := (hits z hz).blk
     have hl := h1.lt
     exact ⟨(sortWorld_other _ w g 0 m dk os z.b (by have := hb.size; omega) (by omega)).trans ((hb.block z.b hl).trans h1)⟩
    exact hc.run _ _ _ _ _ _ _ _ _ _ _ (hat x.1 x.2) (hat y.1 y.2)
   have hs := Any.slices_SortFunc (P := Tryz.prog) (ρ := Tryz.sortItem_ren) Tryz.sortItem (fun x : {x : It // x ∈ its} => ptrI x.1.b) (fun _ => rfl) (fun x y => cf x.1.e y.1.e) hO h #[] g 0 c d w hc.eg hcmp hH hgl (by omega)
   rw [hds] at hs
   refine hs.mono ?_
   rintro e w' ⟨rfl, d', m, os, ⟨hp1, _, hp3⟩, hsrt, rfl⟩
   have hds' : d'.size = n := by rw [hp1, hds]
   have hperm : d'.toList.Perm d.toList := by
    have e1 : d'.extract 0 n = d' := by rw [← hds']; exact Array.extract_size
    have e2 : d.extract 0 n = d := by rw [← hds]; exact Array.extract_size
    rw [e1, e2] at hp3
    exact hp3
   refine ⟨rfl, d'.toList.map Subtype.val, ?_, ?_, ⟨?_, hr.cap, hsm, .inr ⟨g, rfl, hbg, ?_, fun i b hi => ?_⟩⟩, hb.trans (sortWorld_below _ w g 0 m _ d' os hbg hb.size)⟩
   ·rw [← hd]
    exact hperm.map _
   ·rw [List.pairwise_map, List.pairwise_iff_getElem]
    intro i j hi hj hij
    rw [Array.length_toList] at hi hj
    have := of_decide_eq_false (hsrt i j (Nat.zero_le _) hij (by omega))
    rw [getElem!_pos d' j hj, getElem!_pos d' i hi] at this
    simpa using this
   ·rw [List.length_map, List.length_map, Array.length_toList, hds']
   ·exact sortWorld_rowT _ w g 0 m d' os hgt
   ·have hHk := holds_sortWorld (fun x : {x : It // x ∈ its} => ptrI x.1.b) w g 0 m d d' os hgl hH (by omega)
    have hil := (List.getElem?_eq_some_iff.1 hi).1
    rw [List.length_map, List.length_map, Array.length_toList] at hil
    have h2 := hHk i hil
    rw [Nat.zero_add] at h2
    rw [List.getElem?_map, List.getElem?_map, Array.getElem?_toList, Array.getElem?_eq_getElem hil] at hi
    simp only [Option.map_some, Option.some.injEq] at hi
    rw [getElem!_pos d' i hil] at h2
    rw [← hi]
    exact h2
end Go.Proofs.YtnabbimompapfaaGreat
namespace Go.Proofs.YtnabbimompapfaaGreat
open Go Go.RowKit
theorem perm_map_inv {α β : Type} {f : α → β} : ∀ {ys zs : List β}, ys.Perm zs → ∀ l : List α, zs = l.map f → ∃ xs : List α, xs.Perm l ∧ ys = xs.map f := by
 intro ys zs h
 induction h with
 |nil =>
  intro l hl
  exact ⟨l, List.Perm.refl _, hl⟩
 |cons x h ih =>
  intro l hl
  cases l with
  |nil => cases hl
  |cons a l =>
   rw [List.map_cons] at hl
   injection hl with h1 h2
   obtain ⟨xs, hp, rfl⟩ := ih l h2
   exact ⟨a :: xs, hp.cons a, by rw [List.map_cons, h1]⟩
 |swap x y l0 =>
  intro l hl
  cases l with
  |nil => cases hl
  |cons a l =>
   cases l with
   |nil => simp at hl
   |cons b l =>
    simp only [List.map_cons, List.cons.injEq] at hl
    obtain ⟨h1, h2, h3⟩ := hl
    exact ⟨b :: a :: l, List.Perm.swap a b l, by simp [h1, h2, h3]⟩
 |trans h1 h2 ih1 ih2 =>
  intro l hl
  obtain ⟨xs, hp, hx⟩ := ih2 l hl
  obtain ⟨zs, hp2, hz⟩ := ih1 xs hx
  exact ⟨zs, hp2.trans hp, hz⟩
theorem PRow.of_own {w : World} {B : Nat} {A : Option Addr} {n c : Nat} {bs : List Nat} (h : w.ownsRow B 65 1 (.slice A n c) bs.length (bs.map ptrI)) (hs : bs.length ≤ 1000000) : n = bs.length ∧ PRow w B A n c bs := by
 have h' := h
 rcases h.2 with ⟨h1, h2⟩ | ⟨g, cap, cur, hv, hg, hh, hle, hcap, hsz, htk⟩
 ·injection h1 with h1 h3 h4
  subst h1 h3 h4
  have : bs = [] := by simpa using h2
  subst this
  exact ⟨rfl, rfl, zN _, by omega, .inl rfl⟩
 ·injection hv with hA hn hc
  subst hA hn hc
  refine ⟨rfl, rfl, hle, hs, .inr ⟨g, rfl, hg, ⟨_, hh⟩, fun i b hi => ?_⟩⟩
  have hil := (List.getElem?_eq_some_iff.1 hi).1
  refine ⟨?_, by simp [World.frozen?, hh]⟩
  rw [h'.cellAt i (by omega), List.getElem?_map, hi]
  rfl
def SortRet (B : Nat) (w : World) (its : List It) (p : It → Bool) (cf : EntV → EntV → Int) (e : Ending) (w' : World) : Prop :=
 ∃ (A : Option Addr) (n c : Nat) (ys : List It), e = .returned (.slice A n c) ∧ PRow w' B A n c (ys.map It.b) ∧ ys.Perm (its.filter p) ∧ ys.Pairwise (fun a b => ¬ cf b.e a.e < 0) ∧ Below w.heap.size w w'
set_option maxRecDepth 100000 in
set_option maxHeartbeats 4000000 in
theorem sorted_any (B g gm gp : Nat) (us : Int) (s : PJ) (its : List It) (P : List (Int × Int)) (w : World) (h : JRep w B g gm gp us s its P) (hlen : its.length ≤ 1000000) (q : Nat) (lb : Array Value) (p : It → Bool) (hp : PredIs w q lb its p) (cg : Nat) (cf : EntV → EntV → Int) (hc : CmpIs cg cf) :
  Calls Tryz.prog 17 #[.pointer (some ⟨g, 0, none⟩), .func (.func q) #[] lb, .func (.func cg) #[] #[]] w (SortRet w.heap.size w its p cf) := by
 have HH := zH h
 have HP := zH hp
 have HC := zH hc
 have HL := zH hlen
 clear h hp hc hlen
 go_enter Tryz.func17, Tryz.ntmps17
 go_upto_region 1 with fail
 obtain ⟨w1, hw1⟩ : ∃ w1, w.alloc (.cells #[.func (.func q) #[] lb] 66) = w1 := ⟨_, rfl⟩
 have hb1 : Below w.heap.size w w1 := hw1 ▸ (zL _ _).alloc (zN _) _
 have HBx : Hid (Blk w1 w.heap.size 66 #[.func (.func q) #[] lb]) := zH (hw1 ▸ Blk.new w _ _)
 rw [hw1]
 have HJ1 := zH (HH.out.below hb1)
 have HB1 := zH hb1
 obtain ⟨-, -, -, -, -, -, -, -, c8, -, -⟩ := HJ1.out.cells
 clear hw1 hb1
 generalize hBs : w.heap.size = Bs at HBx ⊢
 have HBs := zH hBs
 clear hBs
 go_wp2_with fail
 refine ((callsIn_wide (n := 9)).1 (values_in 9 gm w1)).mono ?_
 rintro e w2 ⟨rfl, hw2⟩
 have hb2 : Below w1.heap.size w1 w2 := hw2 ▸ (zL _ _).alloc (zN _) _
 have hBv : Blk w2 w1.heap.size 89 #[.map (some gm)] := hw2 ▸ Blk.new w1 _ _
 have HJ2 := zH (HJ1.out.below hb2)
 have HB2 := zH (HB1.out.trans (hb2.mono HB1.out.size))
 have HBx2 := zH (HBx.out.below hb2)
 have HCo := zH (collect_any w1.heap.size gm (its.map fun x => (x.e.key, x.b)) (by rw [List.length_map]; exact HL.out) w2 hBv.lt (hBv.cell 0 _ rfl) HJ2.out.items)
 generalize w1.heap.size = Bv at HCo ⊢
 clear hw2 hb2 hBv c8 HBx HJ1 HB1
 go_wp2_with fail
 refine HCo.out.mono ?_
 rintro e w3 ⟨v, ks, rfl, hks, hown, hb3⟩
 obtain ⟨A, c, rfl, _, _⟩ := own_form hown
 obtain ⟨xs, hxs, rfl⟩ := perm_map_inv hks its rfl
 have hown2 : w3.ownsRow w2.heap.size 65 1 (.slice A ((xs.map fun x => (x.e.key, x.b)).length) c) (xs.map It.b).length ((xs.map It.b).map ptrI) := by
  have := hown
  rw [List.map_map] at this
  rw [List.map_map]
  simp only [List.length_map] at this ⊢
  exact this
 have hxl : xs.length ≤ 1000000 := by rw [hxs.length_eq]; exact HL.out
 obtain ⟨hn, hrow⟩ := PRow.of_own hown2 (by rw [List.length_map]; exact hxl)
 have HXs := zH hxs
 generalize hn2 : (xs.map fun x => (x.e.key, x.b)).length = n at hrow ⊢
 have HRow := zH hrow
 have HB3 := zH hb3
 have hmem : ∀ x ∈ xs, x ∈ its := fun x hx => hxs.mem_iff.1 hx
 have HD := zH (deleteFunc_any w2 w3 hb3 38 #[.pointer (some ⟨Bs, 0, none⟩)] its (fun x => !p x) (notIs_any w w2 HB2.out q Bs lb its p HP.out HBx2.out) xs hmem A n c hrow)
 clear hown hown2 hn hn2 hrow hb3 hks hxs HCo HBx2
 go_wp2_with fail
 refine HD.out.mono ?_
 rintro e w4 ⟨n', rfl, hrow4, hb4⟩
 have hfe : (xs.filter fun x => !(fun x => !p x) x) = xs.filter p := List.filter_congr (fun x _ => by simp)
 rw [hfe] at hrow4
 have HS := zH (sort_any w2 w4 hb4 its HJ2.out.ib cg cf HC.out (xs.filter p) (fun x hx => hmem x (List.mem_filter.1 hx).1) A n' c hrow4)
 clear hfe hrow4 hb4 HD hmem
 go_wp2_with fail
 refine HS.out.mono ?_
 rintro e w5 ⟨rfl, ys, hys, hord, hrow5, hb5⟩
 have HY := zH hys
 have HO := zH hord
 have HR5 := zH hrow5
 have HB5 := zH hb5
 clear hys hord hrow5 hb5 HS
 go_wp2_with fail
 go_ret
 have hr := HR5.out
 have hsz := HB2.out.size
 have hBse := HBs.out
 refine ⟨A, n', c, ys, rfl, ⟨hr.len, hr.cap, hr.small, ?_⟩, HY.out.trans (HXs.out.filter p), HO.out.imp (fun h => by omega), HB2.out.trans (HB5.out.mono hsz)⟩
 rcases hr.row with e | ⟨gr, h1, h2, h3⟩
 ·exact .inl e
 ·exact .inr ⟨gr, h1, by omega, h3⟩
theorem sortB_eq {L : List EntV} {its ys : List It} {p : It → Bool} {q : EntV → Bool} (hasc : (L.map EntV.birth).Pairwise (· < ·)) (hperm : (its.map It.e).Perm L) (hpq : ∀ x, p x = q x.e) (hy : ys.Perm (its.filter p)) (ho : ys.Pairwise (fun a b => ¬ cmpB b.e a.e < 0)) : ys.map It.e = L.filter q := by
 have h1 : (ys.map It.e).Perm (L.filter q) := by
  refine (hy.map It.e).trans ?_
  have e : (its.filter p).map It.e = (its.map It.e).filter q := by
   rw [List.filter_map]
   congr 1
   exact List.filter_congr (fun x _ => hpq x)
  rw [e]
  exact hperm.filter q
 refine perm_sorted_eq (R := fun a b => a.birth ≤ b.birth) h1 ?_ ?_ (fun a ha b hb h2 h3 => ?_)
 ·rw [List.pairwise_map]
  refine ho.imp (fun {a b} h => ?_)
  rw [cmpB_neg] at h
  omega
 ·have := hasc.sublist (List.filter_sublist (p := q).map EntV.birth)
  rw [List.pairwise_map] at this
  exact this.imp (fun h => by omega)
 ·have ha2 := (List.mem_filter.1 (h1.mem_iff.1 ha)).1
  have hb2 := (List.mem_filter.1 (h1.mem_iff.1 hb)).1
  exact pair_inj hasc a ha2 b hb2 (by omega)
theorem sortD_eq {L : List EntV} {its ys : List It} {t : Int} {p : It → Bool} (hasc : (L.map EntV.birth).Pairwise (· < ·)) (hperm : (its.map It.e).Perm L) (hpq : ∀ x, p x = dueP x.e.dl t) (hy : ys.Perm (its.filter p)) (ho : ys.Pairwise (fun a b => ¬ cmpD b.e a.e < 0)) : ys.map It.e = dueL L t := by
 refine dueL_unique hasc ?_ ?_
 ·refine (hy.map It.e).trans ?_
  have e : (its.filter p).map It.e = (its.map It.e).filter fun e => dueP e.dl t := by
   rw [List.filter_map]
   congr 1
   exact List.filter_congr (fun x _ => hpq x)
  rw [e]
  exact hperm.filter _
 ·rw [List.pairwise_map]
  refine ho.imp (fun {a b} h => ?_)
  rw [cmpD_neg] at h
  unfold before
  exact decide_eq_true (by omega)
def aftQ (b t : Int) (e : EntV) : Bool := decide (b < e.birth) && !dueP e.dl t
structure AftS (W : World) (Bb Ba : Nat) (b t : Int) (x : It) : Prop where
 bb : Blk W Bb 22 #[.int .u64 b]
 ba : Blk W Ba 38 #[.int .u64 t]
 it : ItAt W x.b x.e x.v x.u (costE x.e)
set_option maxRecDepth 100000 in
set_option maxHeartbeats 2000000 in
theorem aft1_any (w : World) (Bb Ba : Nat) (b t : Int) (its : List It) (hb : Blk w Bb 22 #[.int .u64 b]) (ha : Blk w Ba 38 #[.int .u64 t]) (hits : ∀ x ∈ its, ItAt w x.b x.e x.v x.u (costE x.e)) :
  PredIs w 90 #[.pointer (some ⟨Bb, 0, none⟩), .pointer (some ⟨Ba, 0, none⟩)] its (fun x => aftQ b t x.e) := by
 refine ⟨enters_of Tryz.func90 (by kernel_rfl) rfl, fun x hx W hW => ?_⟩
 have hbb := (hb.below hW).cell 0 _ rfl
 have hba := (ha.below hW).cell 0 _ rfl
 obtain ⟨-, -, x2, x3, -, -⟩ := (⟨(hits x hx).blk.below hW⟩ : ItAt W x.b x.e x.v x.u (costE x.e)).cells
 clear hb ha hits hW hx
 show Calls Tryz.prog _ #[ptrI x.b, .pointer (some ⟨Bb, 0, none⟩), .pointer (some ⟨Ba, 0, none⟩)] W _
 unfold ptrI
 by_cases hlt : b < x.e.birth
 ·have hQ := zH (show aftQ b t x.e = !dueP x.e.dl t by unfold aftQ; rw [decide_eq_true hlt]; simp)
  have hd : decide (b < x.e.birth) = true := decide_eq_true hlt
  generalize hdq : dueP x.e.dl t = dq at hQ
  have HD := zH (hdq ▸ fun W => tickDue_any x.e.dl t W)
  clear hdq
  go_enter Tryz.func90, Tryz.ntmps90
  go_wp2_with fail
  go_quiet ((go_at_call 68; exact Calls.quiet_of_same ((HD.out _).mono fun e w' h => ⟨h.1, h.2.symm⟩)))
  go_wp2_with fail
  go_ret
  exact ⟨by rw [hQ.out]; rfl, (Gr.refl _).drewN _⟩
 ·have hQ := zH (show aftQ b t x.e = false by unfold aftQ; rw [decide_eq_false hlt]; simp)
  have hd : decide (b < x.e.birth) = false := decide_eq_false hlt
  go_enter Tryz.func90, Tryz.ntmps90
  go_wp2_with fail
  go_quiet (fail)
  go_wp2_with fail
  go_ret
  exact ⟨by rw [hQ.out]; rfl, (Gr.refl _).drewN _⟩
theorem afterP_head (L : List EntV) (b t : Int) : afterP L b t = (L.filter (aftQ b t)).head? := by
 rw [List.head?_filter]
 rfl
def AfterRet (s : PJ) (its : List It) (b t : Int) (w : World) (e : Ending) (w' : World) : Prop :=
 Below w.heap.size w w' ∧ ((afterP s.L b t = none ∧ e = .returned (.pointer none)) ∨ ∃ x ∈ its, afterP s.L b t = some x.e ∧ e = .returned (.pointer (some ⟨x.b, 0, none⟩)))
set_option maxRecDepth 100000 in
set_option maxHeartbeats 4000000 in
theorem after_any (B g gm gp : Nat) (us : Int) (s : PJ) (its : List It) (P : List (Int × Int)) (b t : Int) (w : World) (h : JRep w B g gm gp us s its P) (hlen : its.length ≤ 1000000) (hasc : (s.L.map EntV.birth).Pairwise (· < ·)) :
  Calls Tryz.prog 66 #[.pointer (some ⟨g, 0, none⟩), .int .u64 b, .int .u64 t] w (AfterRet s its b t w) := by
 have HH := zH h
 have HL := zH hlen
 have HA := zH hasc
 clear h hlen hasc
 go_enter Tryz.func66, Tryz.ntmps66
 go_upto_region 1 with fail
 obtain ⟨w1, hw1⟩ : ∃ w1, (w.alloc (.cells #[.int .u64 b] 22)).alloc (.cells #[.int .u64 t] 38) = w1 := ⟨_, rfl⟩
 have hb1 : Below w.heap.size w w1 := hw1 ▸ ((zL _ _).alloc (zN _) _).alloc (by simp) _
 have hB1 : Blk w1 w.heap.size 22 #[.int .u64 b] := hw1 ▸ (Blk.new w _ _).alloc _
 have hB2 : Blk w1 (w.heap.size + 1) 38 #[.int .u64 t] := hw1 ▸ Blk.new2 w _ _ _
 have HJ1 := zH (HH.out.below hb1)
 have HB1 := zH hb1
 have HS := zH (sorted_any B g gm gp us s its P w1 HJ1.out HL.out _ _ _ (aft1_any w1 w.heap.size (w.heap.size + 1) b t its hB1 hB2 HJ1.out.ib) _ _ cmpIs_birth)
 rw [hw1]
 clear hw1 hb1 hB1 hB2
 generalize w.heap.size = Bs at HS ⊢
 go_wp2_with fail
 refine HS.out.mono ?_
 rintro e w2 ⟨A, n, c, ys, rfl, hrow, hperm, hord, hb2⟩
 have he := sortB_eq (q := aftQ b t) HA.out HJ1.out.perm (fun _ => rfl) hperm hord
 have hafter : afterP s.L b t = ys.head?.map It.e := by rw [afterP_head, ← he, List.head?_map]
 have HAf := zH hafter
 have HB2 := zH (HB1.out.trans (hb2.mono HB1.out.size))
 have hnl := hrow.len
 rw [List.length_map] at hnl
 clear hafter he hord hb2 HS
 cases ys with
 |nil =>
  have hn0 : n = 0 := by simpa using hnl
  subst hn0
  clear hrow hperm hnl
  go_wp2_with fail
  go_ret
  exact ⟨HB2.out, .inl ⟨by rw [HAf.out]; rfl, rfl⟩⟩
 |cons x ys =>
  have hx : x ∈ its := (List.mem_filter.1 (hperm.mem_iff.1 (List.mem_cons_self ..))).1
  have hn1 : 0 < n := by rw [hnl]; simp
  obtain ⟨gr, x', rfl, _, _, hx', hcell⟩ := hrow.at_ (k := 0) hn1
  have : x' = x := by simpa using hx'.symm
  subst this
  have hnz : ((n : Int) == 0) = false := beq_eq_false_iff_ne.2 (by omega)
  have hnp : (0 : Int) < (n : Int) := by omega
  have HX := zH hx
  unfold ptrI at hcell
  clear hrow hperm hx hx' hnl
  go_wp2_with fail
  go_ret
  exact ⟨HB2.out, .inr ⟨x', HX.out, by rw [HAf.out]; rfl, rfl⟩⟩
end Go.Proofs.YtnabbimompapfaaGreat
namespace Go.Proofs.YtnabbimompapfaaGreat
open Go Go.RowKit
set_option maxRecDepth 100000 in
set_option maxHeartbeats 4000000 in
theorem right_next (B Bv g gm gp : Nat) (us : Int) (s : PJ) (its : List It) (P : List (Int × Int)) (o : OpV) (V : Value) (t : Int) (w : World) (h : JRep w B g gm gp us s its P) (hv : Bts w Bv 5 V o.val) (hc : -9223372036854775808 ≤ o.cursor ∧ o.cursor ≤ 9223372036854775807)
  (hk : o.kind = 12) (b : Int) (hn : openP s.pl o.cursor = some b) (hlen : its.length ≤ 1000000) (hasc : (s.L.map EntV.birth).Pairwise (· < ·)) :
  Calls Tryz.prog 43 #[.pointer (some ⟨g, 0, none⟩), opv o V, .int .u64 t] w fun e w' => e = .returned (.tuple #[.int .i64 (rightP s o t), .bool (refusedP o (rightP s o t))]) ∧ Below w.heap.size w w' := by
 have hR : rightP s o t = if (afterP s.L b t).isNone then 14 else 0 := by
  unfold rightP
  rw [if_neg (by omega), if_neg (by omega), if_neg (by omega), if_pos (by omega), hn]
  dsimp only
  simp [hk]
 have hF : refusedP o (rightP s o t) = false := by
  rw [hR]
  unfold refusedP
  refine decide_eq_false ?_
  split <;> omega
 rw [hF, hR]
 have HOp := zH hn
 have HL := zH hlen
 have HA := zH hasc
 clear hR hn hF hlen hasc
 obtain ⟨A, c, rfl⟩ := hv.form
 have hbl : Below w.heap.size w (w.alloc (.cells (opc o (.slice A o.val.length c)) 43)) := (zL _ _).alloc (zN _) _
 have HX : Hid (JRX w (w.alloc (.cells (opc o (.slice A o.val.length c)) 43)) B Bv g gm gp us s its P o A c) := zH ⟨h.below hbl, Blk.new _ _ _, hbl, hv.below hbl⟩
 have HC := zH hc
 clear h hv hc hbl
 unfold opv
 unfold opc at HX ⊢
 have q1 : (o.kind == 1) = false := by rw [beq_eq_false_iff_ne]; omega
 have q2 : (o.kind == 2) = false := by rw [beq_eq_false_iff_ne]; omega
 have q3 : (o.kind == 3) = false := by rw [beq_eq_false_iff_ne]; omega
 have q4 : (o.kind == 4) = false := by rw [beq_eq_false_iff_ne]; omega
 have q5 : (o.kind == 5) = false := by rw [beq_eq_false_iff_ne]; omega
 have q6 : (o.kind == 6) = false := by rw [beq_eq_false_iff_ne]; omega
 have q8 : (o.kind == 8) = false := by rw [beq_eq_false_iff_ne]; omega
 have q11 : (o.kind == 11) = false := by rw [beq_eq_false_iff_ne]; omega
 have q12 : (o.kind == 12) = true := by simp [hk]
 clear hk
 cases ha : afterP s.L b t with
 |none =>
  rw [show (if (none : Option EntV).isNone = true then (14 : Int) else 0) = 14 from rfl]
  have HAf := zH ha
  clear ha
  go_enter Tryz.func43, Tryz.ntmps43
  go_upto_region 1 with fail
  generalize World.alloc _ _ = W0 at HX ⊢
  refine wp_region_noPanic ?_
  refine wp_region_held_drew (S := fun W => JRX w W B Bv g gm gp us s its P o A c) (by kernel_rfl) (HX.out.adv (zL _ _).drew) (fun hHeld => ?_)
  generalize W0.drew = W1 at hHeld ⊢
  have HX1 := zH hHeld
  refine Pl.go [0, 1, 2, 3, 4, 5, 6, 7, 8, 9, 10, 11] ?_
  iterate 12
   refine tkl (v := ?_) ?_ ?_
   rotate_left 1
   ·intro W hSw
    obtain ⟨z0, z1, z2, z3, z4, z5, z6, z7, z8⟩ := op9 hSw.box; obtain ⟨d0, d1, d2, d3, d4, d5, d6, d7, d8, d9, d10⟩ := hSw.rep.cells; have hlk := hSw.rep.lookPl HC.out; rw [HOp.out] at hlk
    clear hSw
    go_simp
    try with_reducible rfl
   try dsimp only [zS, zB, zC]
  refine Pl.stop ?_
  refine wpAnyH_done (by kernel_rfl) ?_ _
  refine NoPanic.normal ?_
  clear hHeld
  obtain ⟨z0, z1, z2, z3, z4, z5, z6, z7, z8⟩ := op9 HX1.out.box
  go_wp2_with fail
  refine (after_any B g gm gp us s its P b t _ HX1.out.rep HL.out HA.out).mono ?_
  rintro e w2 ⟨hb2, ⟨_, rfl⟩ | ⟨x, _, hsome, _⟩⟩
  ·have HB2 := zH (HX1.out.bel.trans (hb2.mono HX1.out.bel.size))
   clear hb2
   go_wp2_with fail
   go_ret2
   exact ⟨rfl, HB2.out⟩
  ·rw [HAf.out] at hsome
   cases hsome
 |some y =>
  rw [show (if (some y : Option EntV).isNone = true then (14 : Int) else 0) = 0 from rfl]
  have HAf := zH ha
  clear ha
  go_enter Tryz.func43, Tryz.ntmps43
  go_upto_region 1 with fail
  generalize World.alloc _ _ = W0 at HX ⊢
  refine wp_region_noPanic ?_
  refine wp_region_held_drew (S := fun W => JRX w W B Bv g gm gp us s its P o A c) (by kernel_rfl) (HX.out.adv (zL _ _).drew) (fun hHeld => ?_)
  generalize W0.drew = W1 at hHeld ⊢
  have HX1 := zH hHeld
  refine Pl.go [0, 1, 2, 3, 4, 5, 6, 7, 8, 9, 10, 11] ?_
  iterate 12
   refine tkl (v := ?_) ?_ ?_
   rotate_left 1
   ·intro W hSw
    obtain ⟨z0, z1, z2, z3, z4, z5, z6, z7, z8⟩ := op9 hSw.box; obtain ⟨d0, d1, d2, d3, d4, d5, d6, d7, d8, d9, d10⟩ := hSw.rep.cells; have hlk := hSw.rep.lookPl HC.out; rw [HOp.out] at hlk
    clear hSw
    go_simp
    try with_reducible rfl
   try dsimp only [zS, zB, zC]
  refine Pl.stop ?_
  refine wpAnyH_done (by kernel_rfl) ?_ _
  refine NoPanic.normal ?_
  clear hHeld
  obtain ⟨z0, z1, z2, z3, z4, z5, z6, z7, z8⟩ := op9 HX1.out.box
  go_wp2_with fail
  refine (after_any B g gm gp us s its P b t _ HX1.out.rep HL.out HA.out).mono ?_
  rintro e w2 ⟨hb2, ⟨hnone, _⟩ | ⟨x, _, _, rfl⟩⟩
  ·rw [HAf.out] at hnone
   cases hnone
  ·have HB2 := zH (HX1.out.bel.trans (hb2.mono HX1.out.bel.size))
   clear hb2
   go_wp2_with fail
   go_ret2
   exact ⟨rfl, HB2.out⟩
theorem right_any (B Bv g gm gp : Nat) (us : Int) (s : PJ) (its : List It) (P : List (Int × Int)) (o : OpV) (V : Value) (t : Int) (w : World) (h : JRep w B g gm gp us s its P) (hv : Bts w Bv 5 V o.val) (hk : o.key.size ≤ maxLen) (hc : -9223372036854775808 ≤ o.cursor ∧ o.cursor ≤ 9223372036854775807)
  (hp : s.pl.length = 64) (hlen : its.length ≤ 1000000) (hasc : (s.L.map EntV.birth).Pairwise (· < ·)) :
  Calls Tryz.prog 43 #[.pointer (some ⟨g, 0, none⟩), opv o V, .int .u64 t] w fun e w' => e = .returned (.tuple #[.int .i64 (rightP s o t), .bool (refusedP o (rightP s o t))]) ∧ Below w.heap.size w w' := by
 by_cases h6 : 1 ≤ o.kind ∧ o.kind ≤ 6
 ·exact right_keyed B Bv g gm gp us s its P o V t w h hv hk hc (by omega)
 ·by_cases h8 : o.kind = 8
  ·exact right_cfg B Bv g gm gp us s its P o V t w h hv hc h8
  ·by_cases h11 : o.kind = 11
   ·exact right_open B Bv g gm gp us s its P o V t w h hv hc h11 hp
   ·by_cases h14 : 12 ≤ o.kind ∧ o.kind ≤ 14
    ·cases hn : openP s.pl o.cursor with
     |none => exact right_noplace B Bv g gm gp us s its P o V t w h hv hc h14 hn
     |some b =>
      by_cases h12 : o.kind = 12
      ·exact right_next B Bv g gm gp us s its P o V t w h hv hc h12 b hn hlen hasc
      ·exact right_place B Bv g gm gp us s its P o V t w h hv hc (by omega) b hn
    ·exact right_plain B Bv g gm gp us s its P o V t w h hv hc ⟨h6, h8, by omega⟩
end Go.Proofs.YtnabbimompapfaaGreat
namespace Go.Proofs.YtnabbimompapfaaGreat
open Go Go.RowKit Go.MapKept Go.Maps
theorem MRep.only {P : Program} {mt kt et : TypeId} {α β : Type} {kV : α → Value} {vV : β → Value} {zero : Value} {K : MapK P mt kt et α β kV vV zero} {w w' : World} {b : Nat} {L : List (α × β)} {S : Nat → Prop} (h : MRep K w b L) (ho : Only S w w') (hn : ¬ S b) : MRep K w' b L :=
 h.block (ho.block b h.lt hn)
theorem ItAt.only {w w' : World} {b : Nat} {e : EntV} {v : Value} {u c : Int} {S : Nat → Prop} (h : ItAt w b e v u c) (ho : Only S w w') (hn : ¬ S b) : ItAt w' b e v u c := ⟨h.blk.only ho hn⟩
theorem Blk.ne_map {P : Program} {mt kt et : TypeId} {α β : Type} {kV : α → Value} {vV : β → Value} {zero : Value} {K : MapK P mt kt et α β kV vV zero} {w : World} {b g t : Nat} {cs : Array Value} {L : List (α × β)} (h : Blk w g t cs) (hm : MRep K w b L) : g ≠ b := by
 obtain ⟨es, clock, hb, _⟩ := hm
 intro e
 subst e
 unfold Blk at h
 rw [h] at hb
 cases hb
section
variable {w w' : World} {B g gm gp : Nat} {us : Int} {s : PJ} {its : List It} {P : List (Int × Int)}
theorem JRep.ne_g (h : JRep w B g gm gp us s its P) {x : It} (hx : x ∈ its) : x.b ≠ g := (h.ib x hx).blk.ne_ h.blk (by decide)
theorem JRep.ne_m (h : JRep w B g gm gp us s its P) {x : It} (hx : x ∈ its) : x.b ≠ gm := (h.ib x hx).blk.ne_map h.items
theorem JRep.ne_p (h : JRep w B g gm gp us s its P) {x : It} (hx : x ∈ its) : x.b ≠ gp := (h.ib x hx).blk.ne_map h.places
theorem JRep.g_m (h : JRep w B g gm gp us s its P) : g ≠ gm := h.blk.ne_map h.items
theorem JRep.g_p (h : JRep w B g gm gp us s its P) : g ≠ gp := h.blk.ne_map h.places
theorem JRep.kj_g (h : JRep w B g gm gp us s its P) : KJ B w g := ⟨h.base.1, .inl ⟨_, _, _, h.blk, .inl rfl⟩⟩
theorem JRep.kj_x (h : JRep w B g gm gp us s its P) {x : It} (hx : x ∈ its) : KJ B w x.b := ⟨h.base.2.2.2 x hx, .inl ⟨_, _, _, (h.ib x hx).blk, .inr rfl⟩⟩
theorem JRep.kj_m (h : JRep w B g gm gp us s its P) : KJ B w gm := by
 obtain ⟨es, clock, hb, _⟩ := h.items
 exact ⟨h.base.2.1, .inr ⟨es, clock, hb⟩⟩
theorem JRep.kj_p (h : JRep w B g gm gp us s its P) : KJ B w gp := by
 obtain ⟨es, clock, hb, _⟩ := h.places
 exact ⟨h.base.2.2.1, .inr ⟨es, clock, hb⟩⟩
theorem KJ.one {k : Nat} {W : World} (hk : KJ B w k) (ho : Only (fun i => i = k) w W) : Only (KJ B w) w W := ho.mono (fun i _ e => e ▸ hk)
theorem KJ.of_below {W : World} (h : Below w.heap.size w W) : Only (KJ B w) w W := Only.of_below h
theorem JRep.keysN (h : JRep w B g gm gp us s its P) : (its.map fun x => x.e.key).Nodup := by
 have := h.items.nodup
 rwa [List.map_map] at this
theorem JRep.birthN (h : JRep w B g gm gp us s its P) (hasc : (s.L.map EntV.birth).Pairwise (· < ·)) : (its.map fun x => x.e.birth).Nodup := by
 have h1 : (s.L.map EntV.birth).Nodup := hasc.imp (fun h => by omega)
 have h2 := (h.perm.map EntV.birth).nodup_iff.2 h1
 rwa [List.map_map] at h2
theorem JRep.birth_inj (h : JRep w B g gm gp us s its P) (hasc : (s.L.map EntV.birth).Pairwise (· < ·)) {x y : It} (hx : x ∈ its) (hy : y ∈ its) (e : x.e.birth = y.e.birth) : x = y := nodup_inj (h.birthN hasc) x hx y hy e
theorem JRep.key_inj (h : JRep w B g gm gp us s its P) {x y : It} (hx : x ∈ its) (hy : y ∈ its) (e : x.e.key = y.e.key) : x = y := nodup_inj h.keysN x hx y hy e
theorem JRep.b_inj (h : JRep w B g gm gp us s its P) {x y : It} (hx : x ∈ its) (hy : y ∈ its) (e : x.b = y.b) : x = y := nodup_inj h.nd x hx y hy e
end
def dropI (its : List It) (k : ByteArray) : List It := its.filter fun y => decide (y.e.key ≠ k)
theorem dropI_map (its : List It) (k : ByteArray) : (dropI its k).map (fun x => (x.e.key, x.b)) = mdel (its.map fun x => (x.e.key, x.b)) k := by
 unfold dropI mdel
 rw [List.filter_map]
 rfl
theorem costP_perm {L1 L2 : List EntV} (h : L1.Perm L2) : costP L1 = costP L2 := by
 induction h with
 |nil => rfl
 |cons x _ ih => rw [costP_cons, costP_cons, ih]
 |swap x y l => rw [costP_cons, costP_cons, costP_cons, costP_cons]; omega
 |trans _ _ h1 h2 => exact h1.trans h2
theorem gone_perm : ∀ {L : List EntV} {x : EntV}, (L.map EntV.birth).Pairwise (· < ·) → x ∈ L → (x :: L.filter fun e => decide (e.birth ≠ x.birth)).Perm L
 |y :: L, x, h, hx => by
  rw [List.map_cons, List.pairwise_cons] at h
  by_cases e : y.birth = x.birth
  ·have hyx : y = x := by
    rcases List.mem_cons.1 hx with h1 | h1
    ·exact h1.symm
    ·have := h.1 x.birth (List.mem_map_of_mem h1); omega
   subst hyx
   rw [List.filter_cons_of_neg (by simp), List.filter_eq_self.2 (fun z hz => by
    have := h.1 z.birth (List.mem_map_of_mem hz)
    rw [decide_eq_true_eq]; omega)]
  ·have hxL : x ∈ L := by
    rcases List.mem_cons.1 hx with h1 | h1
    ·rw [h1] at e; exact absurd rfl e
    ·exact h1
   rw [List.filter_cons_of_pos (by rw [decide_eq_true_eq]; exact e)]
   exact (List.Perm.swap y x _).trans ((gone_perm h.2 hxL).cons y)
theorem costP_gone {L : List EntV} {x : EntV} (h : (L.map EntV.birth).Pairwise (· < ·)) (hx : x ∈ L) : costP (L.filter fun e => decide (e.birth ≠ x.birth)) = costP L - costE x := by
 have := costP_perm (gone_perm h hx)
 rw [costP_cons] at this
 omega
theorem JRep.gone {w w1 : World} {B g gm gp : Nat} {us : Int} {s : PJ} {its : List It} {P : List (Int × Int)} (h : JRep w B g gm gp us s its P) (hasc : (s.L.map EntV.birth).Pairwise (· < ·)) {x : It} (hx : x ∈ its)
  (hm : MRep KI w1 gm (mdel (its.map fun y => (y.e.key, y.b)) x.e.key)) (ho : Only (fun k => k = gm) w w1) :
  JRep (w1.setCell ⟨g, 9, none⟩ (.int .i64 (costP s.L - costE x.e))) B g gm gp us (goneP s x.e.birth) (dropI its x.e.key) P ∧ Only (KJ B w) w (w1.setCell ⟨g, 9, none⟩ (.int .i64 (costP s.L - costE x.e))) := by
 have hxL : x.e ∈ s.L := h.perm.mem_iff.1 (List.mem_map_of_mem hx)
 have hb1 : Blk w1 g _ _ := h.blk.only ho h.g_m
 have ho1 : Only (KJ B w) w w1 := KJ.one h.kj_m ho
 have ho2 : Only (fun k => k = g) w1 (w1.setCell ⟨g, 9, none⟩ (.int .i64 (costP s.L - costE x.e))) := Only.set1 w1 g 9 _
 have hk1 : KJ B w1 g := ⟨h.base.1, .inl ⟨_, _, _, hb1, .inl rfl⟩⟩
 have hoo := KJ.trans ho1 (KJ.one hk1 ho2)
 have hsub : ∀ y ∈ dropI its x.e.key, y ∈ its := fun y hy => (List.mem_filter.1 hy).1
 have hcost := costP_gone hasc hxL
 refine ⟨⟨?_, ?_, fun y hy => ?_, fun y hy => (h.vals y (hsub y hy)).keep (KJ.keepB hoo (zN _)), h.nd.sublist (List.filter_sublist.map _), ?_, fun y hy => h.ub y (hsub y hy), ?_, ?_, h.pl, ⟨h.base.1, h.base.2.1, h.base.2.2.1, fun y hy => h.base.2.2.2 y (hsub y hy)⟩, ⟨h.apart.1, fun y hy => (h.apart.2 y (hsub y hy)).keep (KJ.keepB hoo (zN _))⟩⟩, hoo⟩
 ·have := hb1.set_ 9 (.int .i64 (costP s.L - costE x.e))
  rw [← hcost] at this
  rw [← hcost]
  exact this
 ·rw [dropI_map]
  exact hm.only ho2 (fun e => h.g_m e.symm)
 ·exact ((h.ib y (hsub y hy)).only ho (h.ne_m (hsub y hy))).only ho2 (h.ne_g (hsub y hy))
 ·have e : dropI its x.e.key = its.filter fun y => decide (y.e.birth ≠ x.e.birth) := by
   refine List.filter_congr (fun y hy => ?_)
   rw [decide_eq_decide]
   constructor
   ·intro h1 e; exact h1 (by rw [h.birth_inj hasc hy hx e])
   ·intro h1 e; exact h1 (by rw [h.key_inj hy hx e])
  rw [e]
  have e2 : (its.filter fun y => decide (y.e.birth ≠ x.e.birth)).map It.e = (its.map It.e).filter fun z => decide (z.birth ≠ x.e.birth) := by rw [List.filter_map]; rfl
  rw [e2]
  exact h.perm.filter _
 ·exact (h.ord.sublist List.filter_sublist).imp (fun hh y hy z hz => hh y (hsub y hy) z (hsub z hz))
 ·exact (h.places.only ho (fun e => h.apart.1 e.symm)).only ho2 (fun e => h.g_p e.symm)
theorem jc_at {W : World} {g : Nat} {s : PJ} {cs us : Int} {gm gp : Nat} (h : Blk W g 92 (jc s cs us gm gp)) : W.cell? ⟨g, 6, none⟩ = some (.int .u64 s.births) ∧ W.cell? ⟨g, 7, none⟩ = some (.int .i64 us) ∧ W.cell? ⟨g, 8, none⟩ = some (.map (some gm)) ∧ W.cell? ⟨g, 9, none⟩ = some (.int .i64 cs) ∧ W.cell? ⟨g, 10, none⟩ = some (.map (some gp)) :=
 ⟨h.cell 6 _ rfl, h.cell 7 _ rfl, h.cell 8 _ rfl, h.cell 9 _ rfl, h.cell 10 _ rfl⟩
def TakeRet (B g gm gp : Nat) (us : Int) (s : PJ) (its : List It) (P : List (Int × Int)) (x : It) (w : World) (e : Ending) (w' : World) : Prop :=
 e = .returned (.tuple #[]) ∧ JRep w' B g gm gp us (goneP s x.e.birth) (dropI its x.e.key) P ∧ Only (KJ B w) w w'
set_option maxRecDepth 100000 in
set_option maxHeartbeats 4000000 in
theorem take_any (B g gm gp : Nat) (us : Int) (s : PJ) (its : List It) (P : List (Int × Int)) (x : It) (w : World) (h : JRep w B g gm gp us s its P) (hx : x ∈ its) (hasc : (s.L.map EntV.birth).Pairwise (· < ·)) (hk : x.e.key.size ≤ maxLen) (hco : costP s.L ≤ 1000000000000) (hc0 : 0 ≤ costP s.L - costE x.e) (hce : 0 ≤ costE x.e) :
  Calls Tryz.prog 94 #[.pointer (some ⟨g, 0, none⟩), .pointer (some ⟨x.b, 0, none⟩)] w (TakeRet B g gm gp us s its P x w) := by
 have HH := zH h
 have HX := zH hx
 have HA := zH hasc
 have HK := zH hk
 clear h hx hasc hk
 go_enter Tryz.func94, Tryz.ntmps94
 go_upto_region 0 with fail
 refine wp_region_noPanic ?_
 refine wp_region_till [9] (fun W => JRep W B g gm gp us s its P) (fun _ => True) (by kernel_rfl) trivial (HH.out.below (zL _ _).drew) (fun hTill => ?_)
 refine Pl.go [0, 1, 2] ?_
 iterate 3
  refine tsl (v := ?_) ?_ ?_
  rotate_left 1
  ·intro W hSw
   skip
   clear hSw
   go_simp
   try with_reducible rfl
  try dsimp only [zS, zB, zC]
  clear hTill
  intro hTill
 refine Pl.stop ?_
 refine tt 3 (v := ?_) ?_ ?_
 rotate_left 1
 ·intro W hSw
  obtain ⟨-, -, -, -, -, -, -, -, d8, d9, -⟩ := hSw.2.cells; obtain ⟨x0, -, -, -, -, x5⟩ := (hSw.2.ib x HX.out).cells
  clear hSw
  go_simp
  try with_reducible rfl
 try dsimp only [zS, zB, zC]
 clear hTill
 intro hTill
 refine Pl.go [4, 5, 6, 7] ?_
 iterate 4
  refine tsl (v := ?_) ?_ ?_
  rotate_left 1
  ·intro W hSw
   skip
   clear hSw
   go_simp
   try with_reducible rfl
  try dsimp only [zS, zB, zC]
  clear hTill
  intro hTill
 refine Pl.stop ?_
 refine tt 8 (v := ?_) ?_ ?_
 rotate_left 1
 ·intro W hSw
  obtain ⟨-, -, -, -, -, -, -, -, d8, d9, -⟩ := hSw.2.cells; obtain ⟨x0, -, -, -, -, x5⟩ := (hSw.2.ib x HX.out).cells
  clear hSw
  go_simp
  try with_reducible rfl
 try dsimp only [zS, zB, zC]
 clear hTill
 intro hTill
 have HH1 := zH (HH.out.below (zL w.heap.size w).drew)
 have HB1 := zH (zL w.heap.size w).drew
 clear hTill
 generalize w.drew = w1 at HH1 HB1 ⊢
 obtain ⟨w2, hdel, hm2, ht2⟩ := HH1.out.items.del (k := x.e.key) HK.out
 have HM2 := zH hm2
 have HO2 := zH ht2.only
 clear hm2 ht2
 refine wpTill.only (i := 9) (o := ⟨_, _, _, _, _, _⟩) (by kernel_rfl) rfl (fun F hF => ?_)
 go_simp
 refine hF.out _ _ (Till.stored trivial (by kernel_rfl)) (fun hTill => ?_)
 clear hF F hTill hdel
 try simp only [Act.put, zA, zB, zC]
 refine wpTill.done (by kernel_rfl) ?_
 try refine NoPanic.normal ?_
 have hb2 : Blk w2 g _ _ := HH1.out.blk.only HO2.out HH1.out.g_m
 have hx2 := (HH1.out.ib x HX.out).only HO2.out (HH1.out.ne_m HX.out)
 have HB2 := zH hb2
 have HX2 := zH hx2
 have hwr : IntKind.i64.wrap (costP s.L - costE x.e) = costP s.L - costE x.e := by rw [IntKind.wrap_i64 _]; omega
 clear hb2 hx2
 go_upto_region 1 with fail
 refine wp_region_noPanic ?_
 refine wp_region_till [11] (fun W => Blk W g 92 (jc s (costP s.L) us gm gp) ∧ ItAt W x.b x.e x.v x.u (costE x.e)) (fun _ => True) (by kernel_rfl) trivial ⟨HB2.out.drew, ⟨HX2.out.blk.drew⟩⟩ (fun hTill => ?_)
 refine Pl.go [0, 1, 2, 3, 4, 5, 6, 7, 8] ?_
 iterate 9
  refine ttl (v := ?_) ?_ ?_
  rotate_left 1
  ·intro W hSw
   obtain ⟨-, -, -, d9, -⟩ := jc_at hSw.2.1; have x5 := hSw.2.2.cells.2.2.2.2.2
   clear hSw
   go_simp
   try with_reducible rfl
  try dsimp only [zS, zB, zC]
  clear hTill
  intro hTill
 refine Pl.stop ?_
 refine ts 9 (v := ?_) ?_ ?_
 rotate_left 1
 ·intro W hSw
  skip
  clear hSw
  go_simp
  try with_reducible rfl
 try dsimp only [zS, zB, zC]
 clear hTill
 intro hTill
 refine tt 10 (v := ?_) ?_ ?_
 rotate_left 1
 ·intro W hSw
  obtain ⟨-, -, -, d9, -⟩ := jc_at hSw.2.1; have x5 := hSw.2.2.cells.2.2.2.2.2
  clear hSw
  go_simp
  try with_reducible rfl
 try dsimp only [zS, zB, zC]
 clear hTill
 intro hTill
 clear hTill
 have hm3 := HM2.out.below (zL w2.heap.size w2).drew
 have ho3 := HO2.out.drew
 obtain ⟨hj, hoo⟩ := HH1.out.gone HA.out HX.out hm3 ho3
 have HJ := zH hj
 have HOO := zH (KJ.trans (KJ.of_below HB1.out) hoo)
 have d9 : w2.drew.cell? ⟨g, 9, none⟩ = some (.int .i64 (costP s.L)) := HB2.out.drew.cell 9 _ rfl
 have f9 : w2.drew.frozen? ⟨g, 9, none⟩ = false := HB2.out.drew.frozen 9
 clear hm3 ho3 hj hoo
 generalize w2.drew = w3 at HJ HOO d9 f9 ⊢
 refine wpTill.only (i := 11) (o := ⟨_, _, _, _, _, _⟩) (by kernel_rfl) rfl (fun F hF => ?_)
 go_simp
 refine hF.out _ _ (Till.stored trivial (by kernel_rfl)) (fun hTill => ?_)
 clear hF F hTill
 try simp only [Act.put, zA, zB, zC]
 refine wpTill.done (by kernel_rfl) ?_
 try refine NoPanic.normal ?_
 go_wp2_with fail
 go_end0
 exact ⟨rfl, HJ.out, HOO.out⟩
end Go.Proofs.YtnabbimompapfaaGreat
namespace Go.Proofs.YtnabbimompapfaaGreat
open Go Go.RowKit Go.MapKept Go.Maps
def useI (its : List It) (b : Nat) (u : Int) : List It := its.map fun y => if y.b = b then { y with u := u } else y
theorem useI_b (its : List It) (b : Nat) (u : Int) : (useI its b u).map It.b = its.map It.b := by
 unfold useI
 rw [List.map_map]
 exact List.map_congr_left (fun y _ => by dsimp only [Function.comp]; split <;> rfl)
theorem useI_e (its : List It) (b : Nat) (u : Int) : (useI its b u).map It.e = its.map It.e := by
 unfold useI
 rw [List.map_map]
 exact List.map_congr_left (fun y _ => by dsimp only [Function.comp]; split <;> rfl)
theorem useI_kb (its : List It) (b : Nat) (u : Int) : (useI its b u).map (fun x => (x.e.key, x.b)) = its.map (fun x => (x.e.key, x.b)) := by
 unfold useI
 rw [List.map_map]
 exact List.map_congr_left (fun y _ => by dsimp only [Function.comp]; split <;> rfl)
theorem mem_useI {its : List It} {b : Nat} {u : Int} {z : It} (h : z ∈ useI its b u) : ∃ y ∈ its, z.b = y.b ∧ z.e = y.e ∧ z.v = y.v ∧ ((y.b = b ∧ z.u = u) ∨ (y.b ≠ b ∧ z = y)) := by
 obtain ⟨y, hy, rfl⟩ := List.mem_map.1 h
 by_cases e : y.b = b
 ·refine ⟨y, hy, ?_, ?_, ?_, .inl ⟨e, ?_⟩⟩ <;> rw [if_pos e]
 ·refine ⟨y, hy, ?_, ?_, ?_, .inr ⟨e, ?_⟩⟩ <;> rw [if_neg e]
theorem JRep.used {w : World} {B g gm gp : Nat} {us : Int} {s : PJ} {its : List It} {P : List (Int × Int)} (h : JRep w B g gm gp us s its P) (hasc : (s.L.map EntV.birth).Pairwise (· < ·)) {x : It} (hx : x ∈ its) :
  JRep ((w.setCell ⟨g, 7, none⟩ (.int .i64 (us + 1))).setCell ⟨x.b, 4, none⟩ (.int .i64 (us + 1))) B g gm gp (us + 1) (useP s x.e.birth) (useI its x.b (us + 1)) P ∧ Only (KJ B w) w ((w.setCell ⟨g, 7, none⟩ (.int .i64 (us + 1))).setCell ⟨x.b, 4, none⟩ (.int .i64 (us + 1))) := by
 have ho1 := Only.set1 w g 7 (.int .i64 (us + 1))
 generalize hw1 : w.setCell ⟨g, 7, none⟩ (.int .i64 (us + 1)) = w1 at ho1 ⊢
 have ho2 := Only.set1 w1 x.b 4 (.int .i64 (us + 1))
 generalize hw2 : w1.setCell ⟨x.b, 4, none⟩ (.int .i64 (us + 1)) = w2 at ho2 ⊢
 have hxg := h.ne_g hx
 have hx1 := (h.ib x hx).only ho1 hxg
 have hoo := KJ.trans (KJ.one h.kj_g ho1) (KJ.one (k := x.b) ⟨h.base.2.2.2 x hx, .inl ⟨_, _, _, hx1.blk, .inr rfl⟩⟩ ho2)
 have hg1 : Blk w1 g 92 (jc (useP s x.e.birth) (costP s.L) (us + 1) gm gp) := by
  have := h.blk.set_ 7 (.int .i64 (us + 1))
  rw [hw1] at this
  exact this
 refine ⟨⟨hg1.only ho2 (fun e => hxg e.symm), ?_, fun z hz => ?_, fun z hz => ?_, by rw [useI_b]; exact h.nd, by rw [useI_e]; exact h.perm, fun z hz => ?_, ?_, (h.places.only ho1 (fun e => h.g_p e.symm)).only ho2 (fun e => h.ne_p hx e.symm), h.pl, ⟨h.base.1, h.base.2.1, h.base.2.2.1, fun z hz => ?_⟩, ⟨h.apart.1, fun z hz => (by obtain ⟨y, hy, e1, e2, e3, _⟩ := mem_useI hz; rw [e3]; exact (h.apart.2 y hy).keep (KJ.keepB hoo (zN _)))⟩⟩, hoo⟩
 ·rw [useI_kb]
  exact (h.items.only ho1 (fun e => h.g_m e.symm)).only ho2 (fun e => h.ne_m hx e.symm)
 ·obtain ⟨y, hy, e1, e2, e3, ⟨e4, e5⟩ | ⟨e4, rfl⟩⟩ := mem_useI hz
  ·have hyx : y = x := h.b_inj hy hx e4
   subst hyx
   rw [e1, e2, e3, e5]
   have := hx1.blk.set_ 4 (.int .i64 (us + 1))
   rw [hw2] at this
   exact ⟨this⟩
  ·exact ((h.ib z hy).only ho1 (h.ne_g hy)).only ho2 e4
 ·obtain ⟨y, hy, e1, e2, e3, _⟩ := mem_useI hz
  rw [e2, e3]
  exact (h.vals y hy).keep (KJ.keepB hoo (zN _))
 ·obtain ⟨y, hy, e1, e2, e3, ⟨e4, e5⟩ | ⟨e4, rfl⟩⟩ := mem_useI hz
  ·rw [e5]; omega
  ·have := h.ub z hy; omega
 ·show ((s.U.filter fun y => decide (y ≠ x.e.birth)) ++ [x.e.birth]).Pairwise _
  have key : ∀ a, a ≠ x.e.birth → ∀ z ∈ useI its x.b (us + 1), z.e.birth = a → ∃ y ∈ its, y.e.birth = a ∧ z.u = y.u := fun a ha z hz hza => by
   obtain ⟨y, hy, e1, e2, e3, ⟨e4, e5⟩ | ⟨e4, rfl⟩⟩ := mem_useI hz
   ·exact absurd (by rw [← hza, e2, h.b_inj hy hx e4]) ha
   ·exact ⟨z, hy, hza, rfl⟩
  rw [List.pairwise_append]
  refine ⟨?_, List.pairwise_singleton _ _, fun a ha b hb y hy z hz hya hzb => ?_⟩
  ·refine List.Pairwise.imp_of_mem ?_ (h.ord.sublist List.filter_sublist)
   intro a b ha hb hab y hy z hz hya hzb
   have ha2 := of_decide_eq_true (List.mem_filter.1 ha).2
   have hb2 := of_decide_eq_true (List.mem_filter.1 hb).2
   obtain ⟨y', hy', e1, e2⟩ := key a ha2 y hy hya
   obtain ⟨z', hz', e3, e4⟩ := key b hb2 z hz hzb
   rw [e2, e4]
   exact hab y' hy' z' hz' e1 e3
  ·have ha2 := of_decide_eq_true (List.mem_filter.1 ha).2
   obtain ⟨y', hy', e1, e2⟩ := key a ha2 y hy hya
   have hbx : b = x.e.birth := List.mem_singleton.1 hb
   obtain ⟨z', hz', f1, f2, f3, ⟨f4, f5⟩ | ⟨f4, rfl⟩⟩ := mem_useI hz
   ·rw [e2, f5]
    have := h.ub y' hy'
    omega
   ·have : z = x := h.birth_inj hasc hz' hx (by rw [hzb, hbx])
    exact absurd (by rw [this]) f4
 ·obtain ⟨y, hy, e1, _⟩ := mem_useI hz
  rw [e1]
  exact h.base.2.2.2 y hy
def UsedRet (B g gm gp : Nat) (us : Int) (s : PJ) (its : List It) (P : List (Int × Int)) (w : World) (e : Ending) (w' : World) : Prop :=
 e = .returned (.tuple #[]) ∧ JRep w' B g gm gp us s its P ∧ Only (KJ B w) w w'
set_option maxRecDepth 100000 in
set_option maxHeartbeats 2000000 in
theorem use_any (B g gm gp : Nat) (us : Int) (s : PJ) (its : List It) (P : List (Int × Int)) (x : It) (w : World) (h : JRep w B g gm gp us s its P) (hx : x ∈ its) (hasc : (s.L.map EntV.birth).Pairwise (· < ·)) (hu : 0 ≤ us ∧ us ≤ 1000000000000) :
  Calls Tryz.prog 98 #[.pointer (some ⟨g, 0, none⟩), .pointer (some ⟨x.b, 0, none⟩)] w (UsedRet B g gm gp (us + 1) (useP s x.e.birth) (useI its x.b (us + 1)) P w) := by
 have HJ := zH (h.used hasc hx)
 obtain ⟨-, d7, -⟩ := jc_at h.blk
 have f7 := h.blk.frozen 7
 obtain ⟨-, -, -, -, x4, -⟩ := (h.ib x hx).cells
 have xf := (h.ib x hx).blk.frozen 4
 have hne := h.ne_g hx
 have hwr : IntKind.i64.wrap (us + 1) = us + 1 := by rw [IntKind.wrap_i64 _]; omega
 clear h hx hasc
 go_enter Tryz.func98, Tryz.ntmps98
 go_wp2_with fail
 go_end0
 exact ⟨rfl, HJ.out.1, HJ.out.2⟩
end Go.Proofs.YtnabbimompapfaaGreat
namespace Go.Proofs.YtnabbimompapfaaGreat
open Go Go.RowKit
set_option maxHeartbeats 1000000 in
theorem exp1_any (v : EvV) (A : Option Addr) (n c : Nat) (w : World) : Calls Tryz.prog 76 #[evv v (.slice A n c)] w fun e w' => e = .returned (.bool (v.kind == 1)) ∧ Gr w w' := by
 unfold evv evc
 go_enter Tryz.func76, Tryz.ntmps76
 go_wp2_with fail
 go_ret
 exact ⟨rfl, (Gr.refl _).alloc _⟩
def IdxE (xs : List (EvV × Value)) (r : Int) : Prop := (r = -1 ∧ noExp (xs.map Prod.fst) = true) ∨ (0 ≤ r ∧ noExp (xs.map Prod.fst) = false)
set_option maxRecDepth 100000 in
set_option maxHeartbeats 2000000 in
theorem idxE_any (B : Nat) (A : Option Addr) (n c : Nat) (xs : List (EvV × Value)) (w : World) (h : EvsAt w B (.slice A n c) xs) (hn : n = xs.length) (hc : n ≤ c) (hm : n ≤ maxLen) :
  Calls Tryz.prog 99 #[.slice A n c, .func (.func 76) #[] #[]] w fun e w' => ∃ r, e = .returned (.int .i64 r) ∧ IdxE xs r ∧ Gr w w' := by
 have HH := zH h
 have HN := zH hn
 unfold maxLen at hm
 have hnI : (n : Int) ≤ 9223372036854775807 := by omega
 have hcI : (n : Int) ≤ (c : Int) := by omega
 have eg : ∀ args w, (callFunc 76 args).run Tryz.prog w = .ok (.enter 76 args) w := enters_of Tryz.func76 (by kernel_rfl) rfl
 clear h hn hm
 go_enter Tryz.func99, Tryz.ntmps99
 go_wp2_with fail
 go_loopw [5, 8] (fun _ i wr => ∃ k : Nat, k ≤ n ∧ i = .int .i64 k ∧ Gr w wr ∧ ∀ (j : Nat) (p : EvV × Value), j < k → xs[j]? = some p → p.1.kind ≠ 1) (fun _ i _ => n - (intOf i).toNat)
 case atStart => exact ⟨0, Nat.zero_le _, rfl, Gr.refl _, fun j p hj => absurd hj (Nat.not_lt_zero _)⟩
 case round =>
  obtain ⟨k, hk, rfl, hg, hno⟩ := hrel
  have HG := zH hg
  have HNo := zH hno
  have HK := HH.out.below hg.below
  clear hg hno
  by_cases hlt : k < n
  ·have hltz : (k : Int) < (n : Int) := by omega
   obtain ⟨⟨x, V⟩, hp⟩ : ∃ p, xs[k]? = some p := ⟨_, List.getElem?_eq_getElem (by rw [← HN.out]; exact hlt)⟩
   obtain ⟨q, off, rfl, -, y0, y1, y2, y3, y4, y5⟩ := HK.at_ hp
   obtain ⟨VA, vc, hV⟩ := (HK.vals _ (List.mem_of_getElem? hp)).form
   have HP := zH hp
   dsimp only at y0 y1 y2 y3 y4 y5 hV
   rw [hV] at y2
   have HE := zH (fun W => exp1_any x VA x.val.length vc W)
   unfold evv evc at HE
   clear hp hV HK
   by_cases hkd : x.kind = 1
   ·have hkb : (x.kind == 1) = true := by simp [hkd]
    have HS : Hid (noExp (xs.map Prod.fst) = false) := zH (by
     unfold noExp
     rw [List.all_eq_false]
     exact ⟨x, List.mem_map.2 ⟨(x, V), List.mem_of_getElem? HP.out, rfl⟩, by simp [hkd]⟩)
    clear hkd
    go_wp2_with fail
    refine (HE.out _).mono ?_
    rintro e w2 ⟨he, hg2⟩
    rw [hkb] at he
    subst he
    have HG2 := zH (HG.out.trans hg2)
    clear hg2
    go_wp2_with fail
    go_ret
    exact ⟨_, rfl, .inr ⟨by omega, HS.out⟩, HG2.out⟩
   ·have hkb : (x.kind == 1) = false := by simp [hkd]
    have HKd := zH hkd
    clear hkd
    go_wp2_with fail
    refine (HE.out _).mono ?_
    rintro e w2 ⟨he, hg2⟩
    rw [hkb] at he
    subst he
    have HG2 := zH (HG.out.trans hg2)
    clear hg2
    go_wp2_with fail
    go_roundw
    case rel =>
     refine ⟨k + 1, by omega, by go_num, HG2.out, fun j p hj hp => ?_⟩
     by_cases e : j = k
     ·subst e
      rw [HP.out] at hp
      injection hp with hp
      rw [← hp]; exact HKd.out
     ·exact HNo.out j p (by omega) hp
    case measure => simp [intOf]; omega
  ·obtain rfl : k = n := by omega
   have HS : Hid (noExp (xs.map Prod.fst) = true) := zH (by
    unfold noExp
    rw [List.all_eq_true]
    intro x hx
    obtain ⟨p, hp, rfl⟩ := List.mem_map.1 hx
    obtain ⟨j, hj⟩ := List.getElem?_of_mem hp
    have hjl := (List.getElem?_eq_some_iff.1 hj).1
    have := HNo.out j p (by rw [← HN.out] at hjl; exact hjl) hj
    simpa using this)
   go_wp2_with fail
   go_ret
   exact ⟨_, rfl, .inl ⟨rfl, HS.out⟩, HG.out⟩
set_option maxHeartbeats 1000000 in
theorem expired_any (B : Nat) (v : Value) (xs : List (EvV × Value)) (w : World) (h : EvsAt w B v xs) :
  Calls Tryz.prog 45 #[v] w fun e w' => e = .returned (.bool (!noExp (xs.map Prod.fst))) ∧ Below w.heap.size w w' := by
 obtain ⟨A, cap, rfl, hc, hm⟩ := h.cap
 have HI := zH (idxE_any B A xs.length cap xs w h rfl hc (by omega))
 have hcI : (xs.length : Int) ≤ (cap : Int) := by omega
 have HC : Hid (Calls Tryz.prog 75 #[.slice A xs.length cap, .func (.func 76) #[] #[]] w fun e w' => e = .returned (.bool (!noExp (xs.map Prod.fst))) ∧ Below w.heap.size w w') := by
  refine zH ?_
  clear h
  generalize hq : noExp (xs.map Prod.fst) = q
  have HQ := zH hq
  clear hq
  go_enter Tryz.func75, Tryz.ntmps75
  go_wp2_with fail
  refine HI.out.mono ?_
  rintro e w1 ⟨r, rfl, hidx, hg⟩
  have HG := zH hg.below
  rcases hidx with ⟨rfl, h1⟩ | ⟨h0, h1⟩
  ·have : q = true := by rw [← HQ.out]; exact h1
   subst this
   clear h1 hg
   go_wp2_with fail
   go_ret
   exact ⟨rfl, HG.out⟩
  ·have : q = false := by rw [← HQ.out]; exact h1
   subst this
   have hd : decide (r ≥ 0) = true := decide_eq_true h0
   clear h1 hg
   go_wp2_with fail
   go_ret
   first | exact ⟨rfl, HG.out⟩ | exact ⟨by simp [hd], HG.out⟩
 clear h HI
 generalize (!noExp (xs.map Prod.fst)) = q at HC ⊢
 go_enter Tryz.func45, Tryz.ntmps45
 go_wp2_with fail
 refine HC.out.mono ?_
 rintro e w1 ⟨rfl, hb⟩
 go_wp2_with fail
 go_ret
 exact ⟨rfl, hb⟩
end Go.Proofs.YtnabbimompapfaaGreat
namespace Go.Proofs.YtnabbimompapfaaGreat
open Go Go.RowKit Go.MapKept Go.Maps
structure LOk (s : PJ) : Prop where
 asc : (s.L.map EntV.birth).Pairwise (· < ·)
 ok : ∀ e ∈ s.L, e.key.size ≤ 250 ∧ e.val.length ≤ 65536
 len : s.L.length ≤ 100000
theorem LOk.gone {s : PJ} (h : LOk s) (b : Int) : LOk (goneP s b) :=
 ⟨h.asc.sublist (List.filter_sublist.map _), fun e he => h.ok e (List.mem_filter.1 he).1, Nat.le_trans (List.length_filter_le _ _) h.len⟩
theorem LOk.costs {s : PJ} (h : LOk s) {e : EntV} (he : e ∈ s.L) : e.key.size ≤ maxLen ∧ costP s.L ≤ 1000000000000 ∧ 0 ≤ costP s.L - costE e ∧ 0 ≤ costE e := by
 have h1 := costP_bound h.ok
 have h2 := costP_bound (h.gone e.birth).ok
 have h3 := costP_gone h.asc he
 have h4 := h.ok e he
 have h5 := h.len
 refine ⟨by unfold maxLen; omega, by omega, ?_, by unfold costE; omega⟩
 have : (goneP s e.birth).L = s.L.filter fun x => decide (x.birth ≠ e.birth) := rfl
 rw [this] at h2
 omega
theorem LOk.of {n : Nat} {s : PJ} (h : PInv n s) (hn : n ≤ 100000) : LOk s :=
 ⟨h.asc, fun e he => ⟨by have := (h.ok e he).1; unfold keyOK at this; have := of_decide_eq_true this; omega, (h.ok e he).2.1⟩, Nat.le_trans h.lenL hn⟩
def leftS (k : Int) (s : PJ) (xs : List It) : PJ := if k = 3 then s else xs.foldl (fun s x => goneP s x.e.birth) s
def leftI (k : Int) (its : List It) (xs : List It) : List It := if k = 3 then its else xs.foldl (fun its x => dropI its x.e.key) its
theorem leftS_nil (k : Int) (s : PJ) : leftS k s [] = s := by unfold leftS; split <;> rfl
theorem leftI_nil (k : Int) (its : List It) : leftI k its [] = its := by unfold leftI; split <;> rfl
theorem leftS_snoc (k : Int) (s : PJ) (xs : List It) (x : It) : leftS k s (xs ++ [x]) = if k = 3 then leftS k s xs else goneP (leftS k s xs) x.e.birth := by
 unfold leftS
 split
 ·rfl
 ·rw [List.foldl_append]; rfl
theorem leftI_snoc (k : Int) (its : List It) (xs : List It) (x : It) : leftI k its (xs ++ [x]) = if k = 3 then leftI k its xs else dropI (leftI k its xs) x.e.key := by
 unfold leftI
 split
 ·rfl
 ·rw [List.foldl_append]; rfl
theorem leftS_now (k : Int) (s : PJ) (xs : List It) : (leftS k s xs).now = s.now := by
 unfold leftS
 split
 ·rfl
 ·induction xs generalizing s with
  |nil => rfl
  |cons x xs ih => rw [List.foldl_cons, ih]; rfl
theorem leftS_ok (k : Int) {s : PJ} (h : LOk s) (xs : List It) : LOk (leftS k s xs) := by
 unfold leftS
 split
 ·exact h
 ·induction xs generalizing s with
  |nil => exact h
  |cons x xs ih => exact ih (h.gone x.e.birth)
theorem mem_dropIs {its : List It} {x : It} : ∀ {l : List It}, x ∈ its → (∀ y ∈ l, x.e.key ≠ y.e.key) → x ∈ l.foldl (fun its x => dropI its x.e.key) its := by
 intro l
 induction l generalizing its with
 |nil => intro h _; exact h
 |cons y l ih =>
  intro h hn
  exact ih (List.mem_filter.2 ⟨h, decide_eq_true (hn y (List.mem_cons_self ..))⟩) (fun z hz => hn z (List.mem_cons_of_mem _ hz))
theorem mem_leftI {k : Int} {its : List It} {x : It} {l : List It} (h : x ∈ its) (hn : ∀ y ∈ l, x.e.key ≠ y.e.key) : x ∈ leftI k its l := by
 unfold leftI
 split
 ·exact h
 ·exact mem_dropIs h hn
theorem nodup_take {xs : List It} (h : (xs.map fun x => x.e.key).Nodup) {m : Nat} {x : It} (hx : xs[m]? = some x) : ∀ y ∈ xs.take m, x.e.key ≠ y.e.key := by
 have e : xs = xs.take m ++ (x :: xs.drop (m + 1)) := by
  have hl := (List.getElem?_eq_some_iff.1 hx).1
  have hx2 := (List.getElem?_eq_some_iff.1 hx).2
  rw [← hx2, List.getElem_cons_drop, List.take_append_drop]
 rw [e, List.map_append, List.nodup_append] at h
 intro y hy he
 exact h.2.2 _ (List.mem_map_of_mem hy) x.e.key (by simp) he.symm
theorem PRow.kj {w w' : World} {B Br : Nat} {A : Option Addr} {n c : Nat} {bs : List Nat} (h : PRow w Br A n c bs) (ho : Only (KJ B w) w w') : PRow w' Br A n c bs := by
 refine ⟨h.len, h.cap, h.small, ?_⟩
 rcases h.row with e | ⟨g, h1, h2, ⟨cs, h3⟩, h4⟩
 ·exact .inl e
 ·have hn : ¬ KJ B w g := KJ.not_ h3 (by decide) (by decide)
  have hb := ho.block g h3.lt hn
  refine .inr ⟨g, h1, h2, ⟨cs, hb.trans h3⟩, fun i b hi => ?_⟩
  obtain ⟨c1, c2⟩ := h4 i b hi
  exact ⟨(World.cell?_of_block (w := w) (a := ⟨g, i, none⟩) hb).trans c1, by rw [World.frozen?, hb]; exact c2⟩
theorem EvsAt.drop1 {w : World} {B n cap : Nat} {A : Option Addr} {p : EvV × Value} {xs : List (EvV × Value)} (h : EvsAt w B (.slice A n cap) (p :: xs)) : EvsAt w B (.slice (if cap = 1 then A else Option.map (fun x => { block := x.block, off := x.off + 6 }) A) (n - 1) (cap - 1)) xs := h.dropA 1 (by simp)
def LeaveRet (B Bv g gm gp : Nat) (us : Int) (s : PJ) (its : List It) (P : List (Int × Int)) (k : Int) (xs : List It) (evs : List (EvV × Value)) (w : World) (e : Ending) (w' : World) : Prop :=
 Only (KJ B w) w w' ∧ ((stripP (xs.map fun x => eventP k x.e s.now) (evs.map Prod.fst) = none ∧ e = .returned (.tuple #[.slice none 0 0, .bool false])) ∨
  ∃ (lv : Value) (rest : List (EvV × Value)), stripP (xs.map fun x => eventP k x.e s.now) (evs.map Prod.fst) = some (rest.map Prod.fst) ∧ e = .returned (.tuple #[lv, .bool true]) ∧ EvsAt w' Bv lv rest ∧ JRep w' B g gm gp us (leftS k s xs) (leftI k its xs) P)
set_option maxRecDepth 100000 in
set_option maxHeartbeats 4000000 in
theorem leave_any (B Bv Br g gm gp : Nat) (us : Int) (s : PJ) (its : List It) (P : List (Int × Int)) (k : Int) (xs : List It) (evs : List (EvV × Value)) (lv : Value) (A : Option Addr) (n c : Nat) (w : World)
  (h : JRep w B g gm gp us s its P) (hk : LOk s) (hxs : ∀ x ∈ xs, x ∈ its) (hnd : (xs.map fun x => x.e.key).Nodup) (hr : PRow w Br A n c (xs.map It.b)) (he : EvsAt w Bv lv evs) (hBv : Bv ≤ B) :
  Calls Tryz.prog 70 #[.pointer (some ⟨g, 0, none⟩), lv, .int .i64 k, .slice A n c] w (LeaveRet B Bv g gm gp us s its P k xs evs w) := by
 have hn := hr.small
 have hlen : n = xs.length := by have := hr.len; rwa [List.length_map] at this
 have HL := zH hlen
 have HJ := zH h
 have HK := zH hk
 have HX := zH hxs
 have HN := zH hnd
 have HR := zH hr
 have HE := zH he
 obtain ⟨A0, c0, rfl⟩ := he.slice
 clear h hk hxs hnd hr he hlen
 go_enter Tryz.func70, Tryz.ntmps70
 go_wp2_with fail
 go_loopw [1, 11, 14] (fun lv _ i wr => ∃ m : Nat, m ≤ n ∧ i = .int .i64 m ∧ Only (KJ B w) w wr ∧ EvsAt wr Bv lv (evs.drop m) ∧ JRep wr B g gm gp us (leftS k s (xs.take m)) (leftI k its (xs.take m)) P ∧
  stripP (xs.map fun x => eventP k x.e s.now) (evs.map Prod.fst) = stripP ((xs.drop m).map fun x => eventP k x.e s.now) ((evs.drop m).map Prod.fst)) (fun _ _ i _ => n - (intOf i).toNat)
 case atStart => exact ⟨0, Nat.zero_le _, rfl, Only.refl _ _, HE.out, by rw [List.take_zero, leftS_nil, leftI_nil]; exact HJ.out, rfl⟩
 case round =>
  obtain ⟨m, hm, rfl, ho, hev, hj, hst⟩ := hrel
  have HO := zH ho
  have HEv := zH hev
  have HJm := zH hj
  have HSt := zH hst
  clear ho hev hj hst HE HJ
  by_cases hlt : m < n
  ·have hltz : (m : Int) < (n : Int) := by omega
   obtain ⟨gr, x, rfl, _, hgl, hx, hcell⟩ := (HR.out.kj HO.out).at_ hlt
   unfold ptrI at hcell
   have hcap : (n : Int) ≤ (c : Int) := by have := HR.out.cap; omega
   have hdx : xs.drop m = x :: xs.drop (m + 1) := by
    have hx2 := (List.getElem?_eq_some_iff.1 hx).2
    rw [← hx2, List.getElem_cons_drop]
   have htx : xs.take (m + 1) = xs.take m ++ [x] := by rw [List.take_add_one, hx]; rfl
   have hxm : x ∈ leftI k its (xs.take m) := mem_leftI (HX.out x (List.mem_of_getElem? hx)) (nodup_take HN.out hx)
   have HXm := zH hxm
   have HDx := zH hdx
   have HTx := zH htx
   clear hdx htx hxm hx hgl
   obtain ⟨eds, heds⟩ : ∃ l, evs.drop m = l := ⟨_, rfl⟩
   cases eds with
   |nil =>
    have hev := HEv.out
    rw [heds] at hev
    obtain ⟨A1, c1, rfl⟩ := hev.slice
    have HS : Hid (stripP (xs.map fun x => eventP k x.e s.now) (evs.map Prod.fst) = none) := zH (by rw [HSt.out, heds, HDx.out]; rfl)
    clear heds hev HEv
    rw [List.length_nil]
    go_wp2_with fail
    go_ret2
    exact ⟨HO.out, .inl ⟨HS.out, rfl⟩⟩
   |cons p rest =>
    obtain ⟨v, V⟩ := p
    have hev := HEv.out
    rw [heds] at hev
    obtain ⟨A1, c1, rfl⟩ := hev.slice
    obtain ⟨b1, off, rfl, -, hcp, -⟩ := hev.tail
    obtain ⟨b2, off2, hA2, -, y0, y1, y2, y3, y4, y5⟩ := hev.at_ (i := 0) (p := (v, V)) rfl
    injection hA2 with hA2
    injection hA2 with hb hof
    subst hb hof
    obtain ⟨VA, vc, hV⟩ := (hev.vals _ (List.mem_cons_self ..)).form
    have hbt := hev.vals _ (List.mem_cons_self ..)
    dsimp only at y0 y1 y2 y3 y4 y5 hV hbt
    subst hV
    simp only [Nat.zero_mul, Nat.add_zero] at y0 y1 y2 y3 y4 y5
    obtain ⟨ne, hne⟩ : ∃ ne, ((v, Value.slice VA v.val.length vc) :: rest).length = ne := ⟨_, rfl⟩
    have hne0 : 0 < ne := by rw [← hne]; simp
    have hnz : ((ne : Int) == 0) = false := beq_eq_false_iff_ne.2 (by omega)
    have hnp : (0 : Int) < (ne : Int) := by omega
    rw [hne] at hcp ⊢
    have hcI : (ne : Int) ≤ (c1 : Int) := by omega
    have hcI1 : (1 : Int) ≤ (c1 : Int) := by omega
    have hnI1 : (1 : Int) ≤ (ne : Int) := by omega
    have HEv1 := zH hev
    rw [hne] at HEv1
    have HT := zH (told_any B Bv g gm gp us (leftS k s (xs.take m)) _ P x v (.slice VA v.val.length vc) k wr HJm.out HXm.out hbt)
    have HEd := zH heds
    unfold evv evc at HT
    clear hev hbt heds HEv hne
    by_cases hveq : v = eventP k x.e (leftS k s (xs.take m)).now
    ·rw [decide_eq_true hveq] at HT
     have HVe := zH hveq
     clear hveq
     have hStr : stripP (xs.map fun x => eventP k x.e s.now) (evs.map Prod.fst) = stripP ((xs.drop (m + 1)).map fun x => eventP k x.e s.now) (rest.map Prod.fst) := by
      rw [HSt.out, HEd.out, HDx.out]
      have := HVe.out
      rw [leftS_now] at this
      rw [List.map_cons, List.map_cons, this]
      exact if_pos rfl
     have HStr := zH hStr
     have hdr : evs.drop (m + 1) = rest := by rw [← List.drop_drop, HEd.out]; rfl
     have HDr := zH hdr
     clear hStr hdr
     by_cases hk3 : k = 3
     ·have hkb : (k != 3) = false := by simp [hk3]
      have HS3 : Hid (leftS k s (xs.take (m + 1)) = leftS k s (xs.take m) ∧ leftI k its (xs.take (m + 1)) = leftI k its (xs.take m)) := zH (by rw [HTx.out, leftS_snoc, leftI_snoc, if_pos hk3, if_pos hk3]; exact ⟨rfl, rfl⟩)
      clear hk3
      go_wp2_with fail
      refine HT.out.mono ?_
      rintro e w2 ⟨rfl, hb2⟩
      have HB2 := zH hb2
      clear hb2
      go_upto_region 6 with fail
      generalize (some ({ block := b1, off := off } : Addr)) = A9 at HEv1 ⊢
      have HTl := zH HEv1.out.drop1
      clear y0 y1 y2 y3 y4 y5
      go_upto_region 7 with fail
      generalize (if c1 = 1 then A9 else Option.map (fun x : Addr => ({ block := x.block, off := x.off + 6 } : Addr)) A9) = A8 at HTl ⊢
      go_wp2_with fail
      go_roundw
      case rel =>
       refine ⟨m + 1, by omega, by go_num, KJ.trans HO.out (KJ.of_below HB2.out), ?_, ?_, ?_⟩
       ·rw [HDr.out]; exact HTl.out.below HB2.out
       ·rw [HS3.out.1, HS3.out.2]; exact HJm.out.below HB2.out
       ·rw [HDr.out]; exact HStr.out
      case measure => simp [intOf]; omega
     ·have hkb : (k != 3) = true := by simp [hk3]
      have HS3 : Hid (leftS k s (xs.take (m + 1)) = goneP (leftS k s (xs.take m)) x.e.birth ∧ leftI k its (xs.take (m + 1)) = dropI (leftI k its (xs.take m)) x.e.key) := zH (by rw [HTx.out, leftS_snoc, leftI_snoc, if_neg hk3, if_neg hk3]; exact ⟨rfl, rfl⟩)
      clear hk3
      go_wp2_with fail
      refine HT.out.mono ?_
      rintro e w2 ⟨rfl, hb2⟩
      have HB2 := zH hb2
      have hlo := leftS_ok k HK.out (xs.take m)
      have hj2 := HJm.out.below hb2
      obtain ⟨q1, q2, q3, q4⟩ := hlo.costs (hj2.perm.mem_iff.1 (List.mem_map_of_mem HXm.out))
      have HTk := zH (take_any B g gm gp us (leftS k s (xs.take m)) (leftI k its (xs.take m)) P x w2 hj2 HXm.out hlo.asc q1 q2 q3 q4)
      clear hb2 hlo hj2 q1 q2 q3 q4
      go_upto_region 6 with fail
      generalize (some ({ block := b1, off := off } : Addr)) = A9 at HEv1 ⊢
      have HTl := zH HEv1.out.drop1
      clear y0 y1 y2 y3 y4 y5
      go_upto_region 7 with fail
      generalize (if c1 = 1 then A9 else Option.map (fun x : Addr => ({ block := x.block, off := x.off + 6 } : Addr)) A9) = A8 at HTl ⊢
      go_wp2_with fail
      refine HTk.out.mono ?_
      rintro e w3 ⟨rfl, hj3, ho3⟩
      have HJ3 := zH hj3
      have HO3 := zH ho3
      clear hj3 ho3
      go_wp2_with fail
      go_roundw
      case rel =>
       refine ⟨m + 1, by omega, by go_num, KJ.trans HO.out (KJ.trans (KJ.of_below HB2.out) HO3.out), ?_, ?_, ?_⟩
       ·rw [HDr.out]; exact (HTl.out.below HB2.out).keep (KJ.keepB HO3.out hBv)
       ·rw [HS3.out.1, HS3.out.2]; exact HJ3.out
       ·rw [HDr.out]; exact HStr.out
      case measure => simp [intOf]; omega
    ·rw [decide_eq_false hveq] at HT
     have HS : Hid (stripP (xs.map fun x => eventP k x.e s.now) (evs.map Prod.fst) = none) := zH (by
      rw [HSt.out, HEd.out, HDx.out]
      rw [leftS_now] at hveq
      rw [List.map_cons, List.map_cons]
      exact if_neg hveq)
     clear hveq
     go_wp2_with fail
     refine HT.out.mono ?_
     rintro e w2 ⟨rfl, hb2⟩
     have HB2 := zH hb2
     clear hb2
     go_wp2_with fail
     go_ret2
     exact ⟨KJ.trans HO.out (KJ.of_below HB2.out), .inl ⟨HS.out, rfl⟩⟩
  ·obtain rfl : m = n := by omega
   have hev := HEv.out
   obtain ⟨A1, c1, rfl⟩ := hev.slice
   have hft : xs.take m = xs := List.take_of_length_le (by have := HL.out; omega)
   have hfd : xs.drop m = [] := List.drop_eq_nil_of_le (by have := HL.out; omega)
   have HS : Hid (stripP (xs.map fun x => eventP k x.e s.now) (evs.map Prod.fst) = some ((evs.drop m).map Prod.fst)) := zH (by rw [HSt.out, hfd]; rfl)
   have HJf : Hid (JRep wr B g gm gp us (leftS k s xs) (leftI k its xs) P) := zH (by have := HJm.out; rw [hft] at this; exact this)
   clear hev hft hfd
   go_wp2_with fail
   go_ret2
   exact ⟨HO.out, .inr ⟨_, evs.drop m, HS.out, rfl, HEv.out, HJf.out⟩⟩
end Go.Proofs.YtnabbimompapfaaGreat
namespace Go.Proofs.YtnabbimompapfaaGreat
open Go Go.RowKit Go.MapKept Go.Maps
def altI (its : List It) (b : Nat) (e : EntV) (v : Value) : List It := its.map fun y => if y.b = b then { y with e := e, v := v } else y
theorem altI_b (its : List It) (b : Nat) (e : EntV) (v : Value) : (altI its b e v).map It.b = its.map It.b := by
 unfold altI
 rw [List.map_map]
 exact List.map_congr_left (fun y _ => by dsimp only [Function.comp]; split <;> rfl)
theorem mem_altI {its : List It} {b : Nat} {e : EntV} {v : Value} {z : It} (h : z ∈ altI its b e v) : ∃ y ∈ its, z.b = y.b ∧ z.u = y.u ∧ ((y.b = b ∧ z.e = e ∧ z.v = v) ∨ (y.b ≠ b ∧ z = y)) := by
 obtain ⟨y, hy, rfl⟩ := List.mem_map.1 h
 by_cases e : y.b = b
 ·refine ⟨y, hy, ?_, ?_, .inl ⟨e, ?_, ?_⟩⟩ <;> rw [if_pos e]
 ·refine ⟨y, hy, ?_, ?_, .inr ⟨e, ?_⟩⟩ <;> rw [if_neg e]
def altL (L : List EntV) (b : Int) (e : EntV) : List EntV := L.map fun y => if y.birth = b then e else y
theorem costP_alt {L : List EntV} {x e : EntV} (h : (L.map EntV.birth).Pairwise (· < ·)) (hx : x ∈ L) : costP (altL L x.birth e) = costP L - costE x + costE e := by
 have h1 := gone_perm h hx
 have h2 := costP_perm (h1.map fun y => if y.birth = x.birth then e else y)
 have h3 := costP_gone h hx
 unfold altL
 rw [← h2, List.map_cons, if_pos rfl, costP_cons]
 have : (L.filter fun y => decide (y.birth ≠ x.birth)).map (fun y => if y.birth = x.birth then e else y) = L.filter fun y => decide (y.birth ≠ x.birth) := by
  refine (List.map_congr_left (fun y hy => ?_)).trans (List.map_id _)
  have := of_decide_eq_true (List.mem_filter.1 hy).2
  rw [if_neg this]; rfl
 rw [this, h3]; omega
theorem JRep.reset {w W : World} {B g gm gp : Nat} {us : Int} {s : PJ} {its : List It} {P : List (Int × Int)} (h : JRep w B g gm gp us s its P) (hasc : (s.L.map EntV.birth).Pairwise (· < ·)) {x : It} (hx : x ∈ its) {e' : EntV} {v' : Value} (hke : e'.key = x.e.key) (hbe : e'.birth = x.e.birth)
  (hg : Blk W g 92 (jc s (costP s.L - costE x.e + costE e') us gm gp)) (hi : ItAt W x.b e' v' x.u (costE e')) (hv : Bts W B 5 v' e'.val) (hw : OwnV W B v') (ho : Only (fun k => k = g ∨ k = x.b) w W) :
  JRep W B g gm gp us { s with L := altL s.L x.e.birth e' } (altI its x.b e' v') P ∧ Only (KJ B w) w W := by
 have hoo : Only (KJ B w) w W := ho.mono (fun i _ hi => by rcases hi with e | e <;> subst e; exact h.kj_g; exact h.kj_x hx)
 have hkb : (altI its x.b e' v').map (fun y => (y.e.key, y.b)) = its.map fun y => (y.e.key, y.b) := by
  unfold altI
  rw [List.map_map]
  refine List.map_congr_left (fun y hy => ?_)
  dsimp only [Function.comp]
  split
  ·rename_i e
   rw [h.b_inj hy hx e]
   dsimp only
   rw [hke]
  ·rfl
 have hbirth : ∀ z ∈ altI its x.b e' v', ∃ y ∈ its, y.e.birth = z.e.birth ∧ z.u = y.u := fun z hz => by
  obtain ⟨y, hy, e1, e2, ⟨e3, e4, _⟩ | ⟨_, rfl⟩⟩ := mem_altI hz
  ·exact ⟨y, hy, by rw [e4, hbe, h.b_inj hy hx e3], e2⟩
  ·exact ⟨z, hy, rfl, rfl⟩
 refine ⟨⟨?_, ?_, fun z hz => ?_, fun z hz => ?_, by rw [altI_b]; exact h.nd, ?_, fun z hz => ?_, ?_, h.places.only ho (fun e => ?_), h.pl, ⟨h.base.1, h.base.2.1, h.base.2.2.1, fun z hz => ?_⟩, ⟨h.apart.1, fun z hz => (by
  obtain ⟨y, hy, e1, e2, ⟨e3, e4, e5⟩ | ⟨e3, rfl⟩⟩ := mem_altI hz
  ·rw [e5]; exact hw
  ·exact (h.apart.2 z hy).keep (KJ.keepB hoo (zN _)))⟩⟩, hoo⟩
 ·rw [costP_alt hasc (h.perm.mem_iff.1 (List.mem_map_of_mem hx))]
  exact hg
 ·rw [hkb]
  exact h.items.only ho (fun e => by rcases e with e | e; exact h.g_m e.symm; exact h.ne_m hx e.symm)
 ·obtain ⟨y, hy, e1, e2, ⟨e3, e4, e5⟩ | ⟨e3, rfl⟩⟩ := mem_altI hz
  ·have := h.b_inj hy hx e3
   subst this
   rw [e1, e2, e4, e5]
   exact hi
  ·exact (h.ib z hy).only ho (fun e => by rcases e with e | e; exact h.ne_g hy e; exact e3 e)
 ·obtain ⟨y, hy, e1, e2, ⟨e3, e4, e5⟩ | ⟨e3, rfl⟩⟩ := mem_altI hz
  ·rw [e4, e5]; exact hv
  ·exact (h.vals z hy).keep (KJ.keepB hoo (zN _))
 ·have e : (altI its x.b e' v').map It.e = altL (its.map It.e) x.e.birth e' := by
   unfold altI altL
   rw [List.map_map, List.map_map]
   refine List.map_congr_left (fun y hy => ?_)
   dsimp only [Function.comp]
   by_cases e : y.b = x.b
   ·rw [if_pos e, if_pos (by rw [h.b_inj hy hx e])]
   ·rw [if_neg e, if_neg (fun e2 => e (by rw [h.birth_inj hasc hy hx e2]))]
  rw [e]
  exact h.perm.map _
 ·obtain ⟨y, hy, e1, e2, _⟩ := mem_altI hz
  rw [e2]; exact h.ub y hy
 ·refine h.ord.imp (fun {a b} hh y hy z hz hya hzb => ?_)
  obtain ⟨y', hy', f1, f2⟩ := hbirth y hy
  obtain ⟨z', hz', f3, f4⟩ := hbirth z hz
  rw [f2, f4]
  exact hh y' hy' z' hz' (f1.trans hya) (f3.trans hzb)
 ·rcases e with e | e
  ·exact h.g_p e.symm
  ·exact h.ne_p hx e.symm
 ·obtain ⟨y, hy, e1, _⟩ := mem_altI hz
  rw [e1]; exact h.base.2.2.2 y hy
theorem JRep.added {w W : World} {B g gm gp : Nat} {us : Int} {s : PJ} {its : List It} {P : List (Int × Int)} (h : JRep w B g gm gp us s its P) {xb : Nat} {e' : EntV} {v' : Value} (hus : 0 ≤ us) (hbe : e'.birth = s.births + 1) (hU : ∀ b ∈ s.U, b ≤ s.births)
  (hg : Blk W g 92 (jc { s with births := s.births + 1 } (costP s.L + costE e') us gm gp)) (hm : MRep KI W gm ((its.map fun y => (y.e.key, y.b)) ++ [(e'.key, xb)])) (hi : ItAt W xb e' v' 0 (costE e')) (hv : Bts W B 5 v' e'.val) (hw : OwnV W B v') (hxb : w.heap.size ≤ xb) (ho : Only (fun k => k = g ∨ k = gm) w W) (hB : B ≤ w.heap.size) :
  JRep W B g gm gp us { s with births := s.births + 1, L := s.L ++ [e'] } (its ++ [⟨e', v', xb, 0⟩]) P ∧ Only (KJ B w) w W := by
 have hoo : Only (KJ B w) w W := ho.mono (fun i _ hi => by rcases hi with e | e <;> subst e; exact h.kj_g; exact h.kj_m)
 have hmem : ∀ z ∈ its ++ [(⟨e', v', xb, 0⟩ : It)], z ∈ its ∨ z = ⟨e', v', xb, 0⟩ := fun z hz => by
  rcases List.mem_append.1 hz with h1 | h1
  ·exact .inl h1
  ·exact .inr (List.mem_singleton.1 h1)
 refine ⟨⟨?_, ?_, fun z hz => ?_, fun z hz => ?_, ?_, ?_, fun z hz => ?_, ?_, h.places.only ho (fun e => ?_), h.pl, ⟨h.base.1, h.base.2.1, h.base.2.2.1, fun z hz => ?_⟩, ⟨h.apart.1, fun z hz => (by
  rcases hmem z hz with h1 | rfl
  ·exact (h.apart.2 z h1).keep (KJ.keepB hoo (zN _))
  ·exact hw)⟩⟩, hoo⟩
 ·rw [costP_snoc]
  exact hg
 ·rw [List.map_append]
  exact hm
 ·rcases hmem z hz with h1 | rfl
  ·exact (h.ib z h1).only ho (fun e => by rcases e with e | e; exact h.ne_g h1 e; exact h.ne_m h1 e)
  ·exact hi
 ·rcases hmem z hz with h1 | rfl
  ·exact (h.vals z h1).keep (KJ.keepB hoo (zN _))
  ·exact hv
 ·rw [List.map_append, List.nodup_append]
  refine ⟨h.nd, by simp, fun a ha b hb => ?_⟩
  obtain ⟨y, hy, rfl⟩ := List.mem_map.1 ha
  have : b = xb := by simpa using hb
  have hl := (h.ib y hy).blk.lt
  omega
 ·rw [List.map_append]
  exact h.perm.append_right _
 ·rcases hmem z hz with h1 | rfl
  ·exact h.ub z h1
  ·exact hus
 ·refine List.Pairwise.imp_of_mem ?_ h.ord
  intro a b ha hb hh y hy z hz hya hzb
  have key : ∀ c ∈ s.U, ∀ z ∈ its ++ [(⟨e', v', xb, 0⟩ : It)], z.e.birth = c → z ∈ its := fun c hc z hz hzc => by
   rcases hmem z hz with h1 | rfl
   ·exact h1
   ·have := hU c hc
    dsimp only at hzc
    omega
  exact hh y (key a ha y hy hya) z (key b hb z hz hzb) hya hzb
 ·rcases e with e | e
  ·exact h.g_p e.symm
  ·exact h.apart.1 e.symm
 ·rcases hmem z hz with h1 | rfl
  ·exact h.base.2.2.2 z h1
  ·dsimp only; omega
end Go.Proofs.YtnabbimompapfaaGreat
namespace Go.Proofs.YtnabbimompapfaaGreat
open Go Go.RowKit Go.MapKept Go.Maps
theorem JRep.lookI_some {w : World} {B g gm gp : Nat} {us : Int} {s : PJ} {its : List It} {P : List (Int × Int)} (h : JRep w B g gm gp us s its P) {k : ByteArray} (hk : k.size ≤ maxLen) {b : Nat} (hm : mget (its.map fun x => (x.e.key, x.b)) k = some b) :
  (Instr.lookup 89 (.map (some gm)) (.string k) false).run Tryz.prog w = .ok (.pointer (some ⟨b, 0, none⟩)) w := by
 have := h.items.look1 (P := Tryz.prog) (k := k) hk
 rw [hm] at this
 exact this
theorem JRep.lookI_none {w : World} {B g gm gp : Nat} {us : Int} {s : PJ} {its : List It} {P : List (Int × Int)} (h : JRep w B g gm gp us s its P) {k : ByteArray} (hk : k.size ≤ maxLen) (hm : mget (its.map fun x => (x.e.key, x.b)) k = none) :
  (Instr.lookup 89 (.map (some gm)) (.string k) false).run Tryz.prog w = .ok (.pointer none) w := by
 have := h.items.look1 (P := Tryz.prog) (k := k) hk
 rw [hm] at this
 exact this
def SetRet (B g gm gp : Nat) (us : Int) (s : PJ) (P : List (Int × Int)) (w : World) (e : Ending) (w' : World) : Prop :=
 ∃ its', e = .returned (.tuple #[]) ∧ JRep w' B g gm gp us s its' P ∧ Only (KJ B w) w w'
theorem altL_birth {L : List EntV} {b : Int} {e : EntV} (he : e.birth = b) : (altL L b e).map EntV.birth = L.map EntV.birth := by
 unfold altL
 rw [List.map_map]
 refine List.map_congr_left (fun y _ => ?_)
 dsimp only [Function.comp]
 split
 ·rename_i h; rw [he, h]
 ·rfl
theorem setP_old {s : PJ} {o : OpV} {dl : Int} {x : EntV} (hasc : (s.L.map EntV.birth).Pairwise (· < ·)) (hf : findP s.L o.key = some x) : setP s o dl = useP { s with L := altL s.L x.birth ⟨x.key, o.val, dl, x.birth⟩ } x.birth := by
 unfold setP
 rw [hf]
 dsimp only
 congr 2
 unfold altL
 refine List.map_congr_left (fun y hy => ?_)
 split
 ·rename_i e
  rw [pair_inj hasc y hy x (findP_some hf).1 e]
 ·rfl
set_option maxRecDepth 100000 in
set_option maxHeartbeats 4000000 in
theorem set_old (N B Bv g gm gp : Nat) (us : Int) (s : PJ) (its : List It) (P : List (Int × Int)) (o : OpV) (V : Value) (dl : Int) (x : It) (w : World) (h : JRep w B g gm gp us s its P) (hv : Bts w Bv 5 V o.val) (hi : PInv N s) (hn : N ≤ 90000) (hB : Bv ≤ B ∧ B ≤ w.heap.size)
  (hko : keyOK o.key = true) (hvl : o.val.length ≤ 65536) (hus : 0 ≤ us ∧ us ≤ 1000000000000) (hx : x ∈ its) (hf : findP s.L o.key = some x.e) (hm : mget (its.map fun x => (x.e.key, x.b)) o.key = some x.b) :
  Calls Tryz.prog 97 #[.pointer (some ⟨g, 0, none⟩), opv o V, .int .u64 dl] w (SetRet B g gm gp (us + 1) (setP s o dl) P w) := by
 have HM := zH hm
 have HF := zH hf
 have HXm := zH hx
 clear hm hf hx
 have HLo := zH (LOk.of hi (by omega))
 have HVl : Hid (o.val.length ≤ 1000000000) := zH (by omega)
 have HK : Hid (o.key.size ≤ maxLen) := zH (by unfold keyOK at hko; have := of_decide_eq_true hko; unfold maxLen; omega)
 obtain ⟨nC, hnC⟩ : ∃ n : Int, (48 : Int) + o.key.size + o.val.length = n := ⟨_, rfl⟩
 have HnC := zH hnC
 have hnC2 : 0 ≤ nC ∧ nC ≤ 100000 := by unfold keyOK at hko; have := of_decide_eq_true hko; omega
 have HCo : Hid (∀ W, Bts W Bv 5 V o.val → Calls Tryz.prog 89 #[.string o.key, V] W fun e w' => e = .returned (.tuple #[.int .i64 nC, .int .i64 0]) ∧ Below W.heap.size W w') := zH (fun W hW => by
  have := cost_any Bv o.key V o.val W HK.out hW
  rw [hko, hnC] at this
  simp only [Bool.true_eq_false, if_false] at this
  rw [if_neg (by omega)] at this
  exact this)
 have HBvB : Hid (Bv ≤ B) := zH hB.1
 have HBG : Hid (B ≤ g) := zH h.base.1
 obtain ⟨A, c, rfl⟩ := hv.form
 have hbl : Below w.heap.size w (w.alloc (.cells (opc o (.slice A o.val.length c)) 43)) := (zL _ _).alloc (zN _) _
 have HX : Hid (JRX w (w.alloc (.cells (opc o (.slice A o.val.length c)) 43)) B Bv g gm gp us s its P o A c) := zH ⟨h.below hbl, Blk.new _ _ _, hbl, hv.below hbl⟩
 have HI := zH hi
 have HN := zH hn
 have HBB := zH hB
 clear h hv hbl hn hnC hko
 unfold opv
 unfold opc at HX ⊢
 go_enter Tryz.func97, Tryz.ntmps97
 go_upto_region 1 with fail
 generalize World.alloc _ _ = W0 at HX ⊢
 refine wp_region_noPanic ?_
 refine wp_region_held_drew (S := fun W => JRX w W B Bv g gm gp us s its P o A c) (by kernel_rfl) (HX.out.adv (zL _ _).drew) (fun hHeld => ?_)
 generalize W0.drew = W1 at hHeld ⊢
 have HX1 := zH hHeld
 refine Pl.go [0, 1, 2, 3, 4, 5, 6, 7] ?_
 iterate 8
  refine tkl (v := ?_) ?_ ?_
  rotate_left 1
  ·intro W hSw
   obtain ⟨z0, z1, z2, z3, z4, z5, z6, z7, z8⟩ := op9 hSw.box; obtain ⟨d0, d1, d2, d3, d4, d5, d6, d7, d8, d9, d10⟩ := hSw.rep.cells; have hlk := hSw.rep.lookI_some HK.out HM.out
   clear hSw
   go_simp
   try with_reducible rfl
  try dsimp only [zS, zB, zC]
 refine Pl.stop ?_
 refine wpAnyH_done (by kernel_rfl) ?_ _
 refine NoPanic.normal ?_
 clear hHeld HX
 have HBg := zH HX1.out.rep.blk
 have HBi := zH (HX1.out.rep.ib x HXm.out)
 have HBo := zH HX1.out.box
 have HVm := zH HX1.out.val
 have HXB : Hid (B ≤ x.b) := zH (HX1.out.rep.base.2.2.2 x HXm.out)
 have HOm : Hid (Only (fun k => k = g ∨ k = x.b) W1 W1) := zH (Only.refl _ _)
 obtain ⟨-, hco, hce, hce0⟩ := HLo.out.costs (HX1.out.rep.perm.mem_iff.1 (List.mem_map_of_mem HXm.out))
 have hw1 : IntKind.i64.wrap (nC - costE x.e) = nC - costE x.e := by rw [IntKind.wrap_i64 _]; omega
 have hw2 : IntKind.i64.wrap (costP s.L + (nC - costE x.e)) = costP s.L + (nC - costE x.e) := by rw [IntKind.wrap_i64 _]; omega
 obtain ⟨z0, z1, z2, z3, z4, z5, z6, z7, z8⟩ := op9 HX1.out.box
 go_wp2_with fail
 refine (HCo.out _ HVm.out).mono ?_
 rintro e w2 ⟨rfl, hb2⟩
 have HBg2 := zH (HBg.out.below hb2)
 have HBi2 : Hid (ItAt w2 (x.b) x.e x.v x.u (costE x.e)) := zH ⟨HBi.out.blk.below hb2⟩
 have HBo2 := zH (HBo.out.below hb2)
 have HVm2 := zH (HVm.out.below hb2)
 have HO2 := zH (HOm.out.trans (Only.of_below (S := fun _ => False) hb2) (fun _ _ h => h.elim))
 clear hb2
 go_upto_region 7 with fail
 refine wp_region_noPanic ?_
 refine wp_region_till [13] (fun W => Blk W g 92 (jc s (costP s.L) us gm gp) ∧ ItAt W (x.b) x.e x.v x.u (costE x.e)) (fun _ => True) (by kernel_rfl) trivial ⟨HBg2.out.drew, ⟨HBi2.out.blk.drew⟩⟩ (fun hTill => ?_)
 refine Pl.go [0, 1, 2, 3, 4, 5, 6, 7, 8, 9, 10] ?_
 iterate 11
  refine ttl (v := ?_) ?_ ?_
  rotate_left 1
  ·intro W hSw
   obtain ⟨-, -, -, d9, -⟩ := jc_at hSw.2.1; have x5 := hSw.2.2.cells.2.2.2.2.2
   clear hSw
   go_simp
   try with_reducible rfl
  try dsimp only [zS, zB, zC]
  clear hTill
  intro hTill
 refine Pl.stop ?_
 refine ts 11 (v := ?_) ?_ ?_
 rotate_left 1
 ·intro W hSw
  skip
  clear hSw
  go_simp
  try with_reducible rfl
 try dsimp only [zS, zB, zC]
 clear hTill
 intro hTill
 refine tt 12 (v := ?_) ?_ ?_
 rotate_left 1
 ·intro W hSw
  obtain ⟨-, -, -, d9, -⟩ := jc_at hSw.2.1; have x5 := hSw.2.2.cells.2.2.2.2.2
  clear hSw
  go_simp
  try with_reducible rfl
 try dsimp only [zS, zB, zC]
 clear hTill
 intro hTill
 clear hTill
 have HBg3 := zH HBg2.out.drew
 have HBi3 : Hid (ItAt w2.drew (x.b) x.e x.v x.u (costE x.e)) := zH ⟨HBi2.out.blk.drew⟩
 have HBo3 := zH HBo2.out.drew
 have HVm3 := zH HVm2.out.drew
 have HO3 := zH HO2.out.drew
 clear HBg2 HBi2 HBo2 HVm2 HO2
 generalize w2.drew = w3 at HBg3 HBi3 HBo3 HVm3 HO3 ⊢
 have d9 : w3.cell? ⟨g, 9, none⟩ = some (.int .i64 (costP s.L)) := (jc_at HBg3.out).2.2.2.1
 have f9 : w3.frozen? ⟨g, 9, none⟩ = false := HBg3.out.frozen 9
 refine wpTill.only (i := 13) (o := ⟨_, _, _, _, _, _⟩) (by kernel_rfl) rfl (fun F hF => ?_)
 go_simp
 refine hF.out _ _ (Till.stored trivial (by kernel_rfl)) (fun hTill => ?_)
 clear hF F hTill
 try simp only [Act.put, zA, zB, zC]
 refine wpTill.done (by kernel_rfl) ?_
 try refine NoPanic.normal ?_
 have ho4 := Only.set1 w3 g 9 (.int .i64 (costP s.L + (nC - (costE x.e))))
 have HBg4 : Hid (Blk (w3.setCell ⟨g, 9, none⟩ (.int .i64 (costP s.L + (nC - (costE x.e))))) g 92 (jc s (costP s.L + (nC - (costE x.e))) us gm gp)) := zH (HBg3.out.set_ 9 _)
 have hneG : ¬ w.heap.size = g := HBo3.out.ne_ HBg3.out (by decide)
 have HBi4 : Hid (ItAt (w3.setCell ⟨g, 9, none⟩ (.int .i64 (costP s.L + (nC - (costE x.e))))) (x.b) x.e x.v x.u (costE x.e)) := zH ⟨HBi3.out.blk.only ho4 (HBi3.out.blk.ne_ HBg3.out (by decide))⟩
 have HBo4 := zH (HBo3.out.only ho4 hneG)
 have HVm4 := zH (HVm3.out.keep (KeepB.of_blk (U := 5) HBg3.out (by decide) (Nat.le_trans HBvB.out HBG.out) ho4))
 have HO4 := zH (HO3.out.trans ho4 (fun i _ e => .inl e))
 clear HBg3 HBi3 HBo3 HVm3 HO3 ho4 hneG d9 f9
 generalize w3.setCell ⟨g, 9, none⟩ (.int .i64 (costP s.L + (nC - (costE x.e)))) = w4 at HBg4 HBi4 HBo4 HVm4 HO4 ⊢
 have z3 : w4.cell? ⟨w.heap.size, 3, none⟩ = some (.slice A o.val.length c) := HBo4.out.cell 3 _ rfl
 go_wp2_with fail
 refine (bytesClone_any Bv _ o.val _ HVm4.out HVl.out).mono ?_
 rintro e w5 ⟨v5, rfl, ho5, hb5⟩
 obtain ⟨A5, c5, rfl, _, _⟩ := own_form ho5
 have HBg5 := zH (HBg4.out.below hb5)
 have HBi5 : Hid (ItAt w5 (x.b) x.e x.v x.u (costE x.e)) := zH ⟨HBi4.out.blk.below hb5⟩
 have HBv5 := zH (Bts.of_own ho5 B)
 have HO5 := zH (HO4.out.trans (Only.of_below (S := fun _ => False) hb5) (fun _ _ h => h.elim))
 have HOv5 : Hid (OwnV w5 B (.slice A5 o.val.length c5)) := zH (OwnV.of_own ho5 (by have := HBB.out.2; have := HX1.out.bel.size; have := HO4.out.size; first | omega | (have := HO16.out.size; omega)))
 clear HBg4 HBi4 HBo4 HVm4 HO4 ho5 hb5 z3
 obtain ⟨x0, x1, x2, x3, x4, x5⟩ := HBi5.out.cells
 have xf1 := HBi5.out.blk.frozen 1
 have xf2 := HBi5.out.blk.frozen 2
 have xf5 := HBi5.out.blk.frozen 5
 go_upto_region 9 with fail
 have ho6 : Only (fun k => k = (x.b)) w5 (((w5.setCell ⟨(x.b), 1, none⟩ (.slice A5 o.val.length c5)).setCell ⟨(x.b), 2, none⟩ (.int .u64 dl)).setCell ⟨(x.b), 5, none⟩ (.int .i64 (nC))) :=
  Only.setCell (S := fun k => k = (x.b)) (Only.setCell (S := fun k => k = (x.b)) (Only.set1 w5 (x.b) 1 _) (p := ⟨(x.b), 2, none⟩) (.inl rfl) _) (p := ⟨(x.b), 5, none⟩) (.inl rfl) _
 have hbi6 : Blk (((w5.setCell ⟨(x.b), 1, none⟩ (.slice A5 o.val.length c5)).setCell ⟨(x.b), 2, none⟩ (.int .u64 dl)).setCell ⟨(x.b), 5, none⟩ (.int .i64 (nC))) (x.b) 69 (itc ⟨(x.e).key, o.val, dl, (x.e).birth⟩ (.slice A5 o.val.length c5) (x.u) (nC)) :=
  ((HBi5.out.blk.set_ 1 (.slice A5 o.val.length c5)).set_ 2 (.int .u64 dl)).set_ 5 (.int .i64 (nC))
 have HBi6 := zH hbi6
 have HBg6 := zH (HBg5.out.only ho6 (HBg5.out.ne_ HBi5.out.blk (by decide)))
 have HBv6 := zH (HBv5.out.keep (KeepB.of_blk (U := 5) HBi5.out.blk (by decide) HXB.out ho6))
 have HOv6 := zH (HOv5.out.keep (KeepB.of_blk (B := B) (U := 5) HBi5.out.blk (by decide) HXB.out ho6))
 have HO6 := zH (HO5.out.trans ho6 (fun i hi e => .inr e))
 clear HBg5 HBi5 HBv5 HOv5 HO5 ho6 hbi6 x0 x1 x2 x3 x4 x5 xf1 xf2 xf5
 generalize World.setCell _ _ _ = w6 at HBi6 HBg6 HBv6 HOv6 HO6 ⊢
 have hce' : costE (⟨x.e.key, o.val, dl, x.e.birth⟩ : EntV) = nC := by
  rw [← HnC.out]
  unfold costE
  rw [(findP_some HF.out).2]
 obtain ⟨hj6, hoo6⟩ := HX1.out.rep.reset HLo.out.asc HXm.out (e' := ⟨x.e.key, o.val, dl, x.e.birth⟩) (W := w6) rfl rfl (by
  rw [hce']
  have := HBg6.out
  rw [show costP s.L + (nC - costE x.e) = costP s.L - costE x.e + nC by omega] at this
  exact this) ⟨by rw [hce']; exact HBi6.out⟩ HBv6.out HOv6.out HO6.out
 have HJ6 := zH hj6
 have HOO6 := zH hoo6
 have HU := zH (use_any B g gm gp us { s with L := altL s.L x.e.birth ⟨x.e.key, o.val, dl, x.e.birth⟩ } _ P ⟨⟨x.e.key, o.val, dl, x.e.birth⟩, .slice A5 o.val.length c5, x.b, x.u⟩ w6 hj6 (List.mem_map.2 ⟨x, HXm.out, by rw [if_pos rfl]⟩) (by
  show ((altL s.L x.e.birth ⟨x.e.key, o.val, dl, x.e.birth⟩).map EntV.birth).Pairwise (· < ·)
  have := altL_birth (L := s.L) (b := x.e.birth) (e := ⟨x.e.key, o.val, dl, x.e.birth⟩) rfl
  rw [this]; exact HLo.out.asc) hus)
 clear hj6 hoo6
 go_wp2_with fail
 refine HU.out.mono ?_
 rintro e w7 ⟨rfl, hj7, ho7⟩
 have HJ7 := zH hj7
 have HO7 := zH ho7
 clear hj7 ho7
 go_wp2_with fail
 go_end0
 exact ⟨_, rfl, by rw [setP_old HLo.out.asc HF.out]; exact HJ7.out, KJ.trans (KJ.trans (KJ.of_below HX1.out.bel) HOO6.out) HO7.out⟩
end Go.Proofs.YtnabbimompapfaaGreat
