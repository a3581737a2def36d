/- AudJM, AudJN, AudJO, AudJP, AudJQ, AudJR -/
import Derived.Test.YtnabbimompapfaaMf5
import Derived.Lib.SliceRun
import Derived.Test.YtnabbimompapfaaSort
import Derived.Shelf.SlSortCmp.NoneTotal
import Derived.Test.YtnabbimompapfaaMf4
import Derived.Test.YtnabbimompapfaaMf1
import Derived.Test.YtnabbimompapfaaMf2
namespace Go.Proofs.Ytnabbimompapfaa
open Go Go.RowKit
structure PredIs (wb : World) (g : Nat) (lb : Array Value) (its : List It) (p : It → Bool) : Prop where
 eg : ∀ args w, (callFunc g args).run Try.prog w = .ok (.enter g args) w
 run : ∀ x ∈ its, ∀ W, Below wb.heap.size wb W → Calls Try.prog g (#[ptrI x.b] ++ lb) W fun e w' => e = .returned (.bool (p x)) ∧ Gr W w'
theorem PredIs.later {wb w : World} {g : Nat} {lb : Array Value} {its : List It} {p : It → Bool} (h : PredIs wb g lb its p) (hb : Below wb.heap.size wb w) : PredIs w g lb its p :=
 ⟨h.eg, fun x hx W hW => h.run x hx W (hb.trans (hW.mono hb.size))⟩
theorem PRow.at_ {w : World} {B : Nat} {A : Option Addr} {n c : Nat} {xs : List It} (h : PRow w B A n c (xs.map It.b)) {k : Nat} (hk : k < n) : ∃ g x, A = some ⟨g, 0, none⟩ ∧ B ≤ g ∧ g < w.heap.size ∧ xs[k]? = some x ∧ w.cell? ⟨g, k, none⟩ = some (ptrI x.b) := by
 have hl := h.len
 rw [List.length_map] at hl
 rcases h.row with e | ⟨g, h1, h2, h3, h4⟩
 ·rw [List.map_eq_nil_iff] at e
  subst e
  simp at hl
  omega
 ·have hx : xs[k]? = some xs[k] := List.getElem?_eq_getElem (by omega)
  exact ⟨g, xs[k], h1, h2, h3.lt, hx, (h4 k _ (by rw [List.getElem?_map, hx]; rfl)).1⟩
def IdxIs (xs : List It) (p : It → Bool) (r : Int) : Prop := (r = -1 ∧ ∀ x ∈ xs, p x = false) ∨ ∃ (k : Nat) (x : It), r = (k : Int) ∧ xs[k]? = some x ∧ p x = true ∧ ∀ (j : Nat) (y : It), j < k → xs[j]? = some y → p y = false
set_option maxRecDepth 100000 in
set_option maxHeartbeats 2000000 in
theorem indexFunc_any (wb w : World) (hb : Below wb.heap.size wb w) (g : Nat) (lb : Array Value) (its : List It) (p : It → Bool) (hp : PredIs wb g lb its p) (xs : List It) (hxs : ∀ x ∈ xs, x ∈ its) (A : Option Addr) (n c : Nat) (hr : PRow w wb.heap.size A n c (xs.map It.b)) :
  Calls Try.prog 32 #[.slice A n c, .func (.func g) #[] lb] w fun e w' => ∃ r, e = .returned (.int .i64 r) ∧ IdxIs xs p r ∧ Gr w w' := by
 have eg := hp.eg
 have hn := hr.small
 have HP := zH hp
 have HB := zH hb
 have HX := zH hxs
 have HR := zH hr
 clear hp hb hxs hr
 go_enter Try.func32, Try.ntmps32
 go_wp2_with fail
 go_loopw [5, 8] (fun _ i wr => ∃ k : Nat, k ≤ n ∧ i = .int .i64 k ∧ Gr w wr ∧ ∀ j y, j < k → xs[j]? = some y → p y = false) (fun _ i _ => n - (intOf i).toNat)
 case atStart => exact ⟨0, Nat.zero_le _, rfl, Gr.refl _, fun j y hj => absurd hj (Nat.not_lt_zero _)⟩
 case round =>
  obtain ⟨k, hk, rfl, hg, hno⟩ := hrel
  have HG := zH hg
  have HN := zH hno
  clear hg hno
  by_cases hlt : k < n
  ·have hltz : (k : Int) < (n : Int) := by omega
   obtain ⟨gr, x, rfl, _, hgl, hx, hcell⟩ := (HR.out.below HG.out.below).at_ hlt
   have HXx := zH hx
   have hcap : (n : Int) ≤ (c : Int) := by have := HR.out.cap; omega
   have hmem := HX.out x (List.mem_of_getElem? hx)
   have hcall := HP.out.run x hmem wr (HB.out.trans (HG.out.below.mono HB.out.size))
   unfold ptrI at hcell hcall
   have HCall := zH hcall
   clear hx hmem hcall hgl
   cases hq : p x with
   |true =>
    go_wp2_with fail
    refine HCall.out.mono ?_
    rintro e w2 ⟨he, hg2⟩
    rw [hq] at he
    subst he
    have HG2 := zH (HG.out.trans hg2)
    clear hg2
    go_wp2_with fail
    go_ret
    exact ⟨_, rfl, .inr ⟨k, x, rfl, HXx.out, hq, HN.out⟩, HG2.out⟩
   |false =>
    go_wp2_with fail
    refine HCall.out.mono ?_
    rintro e w2 ⟨he, hg2⟩
    rw [hq] at he
    subst he
    have HG2 := zH (HG.out.trans hg2)
    clear hg2
    go_wp2_with fail
    go_roundw
    case rel =>
     refine ⟨k + 1, by omega, by go_num, HG2.out, fun j y hj hy => ?_⟩
     by_cases e : j = k
     ·subst e
      rw [HXx.out] at hy
      injection hy with hy
      rw [← hy]; exact hq
     ·exact HN.out j y (by omega) hy
    case measure => simp [intOf]; omega
  ·obtain rfl : k = n := by omega
   go_wp2_with fail
   go_ret
   refine ⟨_, rfl, .inl ⟨rfl, fun x hx => ?_⟩, HG.out⟩
   obtain ⟨j, hj⟩ := List.getElem?_of_mem hx
   have hl := HR.out.len
   rw [List.length_map] at hl
   exact HN.out j x (by have := (List.getElem?_eq_some_iff.1 hj).1; omega) hj
theorem below_setCells_p {B b : Nat} {a : World} (hb : B ≤ b) : ∀ (vs : List Value) (o : Nat) (w : World), Below B a w → Below B a (w.setCells b o vs)
 |[], _, _, h => h
 |v :: vs, o, w, h => below_setCells_p hb vs (o + 1) _ (h.setCell (p := ⟨b, o, none⟩) hb v)
theorem rowT_setCells {g : Nat} : ∀ (vs : List Value) (o : Nat) (w : World), RowT w g → RowT (w.setCells g o vs) g
 |[], _, _, h => h
 |v :: vs, o, w, h => rowT_setCells vs (o + 1) _ (h.set_ o v)
structure DMid (wb wr : World) (g n : Nat) (xs : List It) (p : It → Bool) (i j : Nat) : Prop where
 bel : Below wb.heap.size wb wr
 ty : RowT wr g
 base : wb.heap.size ≤ g
 ij : i < j
 jn : j ≤ n
 kl : ((xs.take j).filter fun x => !p x).length = i
 low : ∀ t x, ((xs.take j).filter fun x => !p x)[t]? = some x → wr.cell? ⟨g, t, none⟩ = some (ptrI x.b)
 high : ∀ t x, j ≤ t → xs[t]? = some x → wr.cell? ⟨g, t, none⟩ = some (ptrI x.b)
 all : ∀ t, t < n → (∃ u, wr.cell? ⟨g, t, none⟩ = some (ptrI u)) ∧ wr.frozen? ⟨g, t, none⟩ = false
section
variable {wb wr : World} {g n : Nat} {xs : List It} {p : It → Bool} {i j : Nat}
theorem DMid.lt (h : DMid wb wr g n xs p i j) : g < wr.heap.size := h.ty.lt
theorem DMid.gr {w' : World} (h : DMid wb wr g n xs p i j) (hg : Gr wr w') : DMid wb w' g n xs p i j := by
 have hb := hg.below
 have hc : ∀ t, w'.cell? ⟨g, t, none⟩ = wr.cell? ⟨g, t, none⟩ := fun t => hb.cell (p := ⟨g, t, none⟩) h.lt
 refine ⟨h.bel.trans (hb.mono h.bel.size), h.ty.below hb, h.base, h.ij, h.jn, h.kl, fun t x hx => (hc t).trans (h.low t x hx), fun t x ht hx => (hc t).trans (h.high t x ht hx), fun t ht => ?_⟩
 obtain ⟨⟨u, hu⟩, hf⟩ := h.all t ht
 exact ⟨⟨u, (hc t).trans hu⟩, by rw [World.frozen?, hb.block g h.lt]; exact hf⟩
theorem take_next {x : It} (hx : xs[j]? = some x) (q : It → Bool) : (xs.take (j + 1)).filter q = (xs.take j).filter q ++ (if q x = true then [x] else []) := by
 rw [List.take_add_one, hx, List.filter_append]
 congr 1
 cases hq : q x <;> simp [hq]
theorem DMid.skip {x : It} (h : DMid wb wr g n xs p i j) (hj : j < n) (hx : xs[j]? = some x) (hq : p x = true) : DMid wb wr g n xs p i (j + 1) := by
 have e : ((xs.take (j + 1)).filter fun x => !p x) = ((xs.take j).filter fun x => !p x) := by rw [take_next hx, hq]; simp
 exact ⟨h.bel, h.ty, h.base, by have := h.ij; omega, by omega, by rw [e]; exact h.kl, by rw [e]; exact h.low, fun t y ht => h.high t y (by omega), h.all⟩
theorem DMid.keep {x : It} (h : DMid wb wr g n xs p i j) (hj : j < n) (hx : xs[j]? = some x) (hq : p x = false) : DMid wb (wr.setCell ⟨g, i, none⟩ (ptrI x.b)) g n xs p (i + 1) (j + 1) := by
 have e : ((xs.take (j + 1)).filter fun x => !p x) = ((xs.take j).filter fun x => !p x) ++ [x] := by rw [take_next hx, hq]; simp
 have hij := h.ij
 have hkl := h.kl
 obtain ⟨⟨u0, hu0⟩, _⟩ := h.all i (by omega)
 have hsame : (wr.setCell ⟨g, i, none⟩ (ptrI x.b)).cell? ⟨g, i, none⟩ = some (ptrI x.b) := World.cell?_setCell_same _ _ _ hu0
 have hoth : ∀ t, t ≠ i → (wr.setCell ⟨g, i, none⟩ (ptrI x.b)).cell? ⟨g, t, none⟩ = wr.cell? ⟨g, t, none⟩ := fun t ht => World.cell?_setCell_other _ _ _ _ (by intro e; simp only [Addr.mk.injEq] at e; exact ht e.2.1.symm)
 refine ⟨h.bel.setCell (p := ⟨g, i, none⟩) h.base _, h.ty.set_ _ _, h.base, by omega, by omega, by rw [e, List.length_append, hkl]; rfl, fun t y hy => ?_, fun t y ht hy => ?_, fun t ht => ?_⟩
 ·rw [e] at hy
  by_cases ht : t = i
  ·subst ht
   rw [List.getElem?_append_right (by omega), hkl, Nat.sub_self] at hy
   simp at hy
   rw [← hy]; exact hsame
  ·rw [hoth t ht]
   refine h.low t y ?_
   have hl := (List.getElem?_eq_some_iff.1 hy).1
   rw [List.length_append, hkl] at hl
   simp at hl
   rw [List.getElem?_append_left (by omega)] at hy
   exact hy
 ·rw [hoth t (by omega)]
  exact h.high t y (by omega) hy
 ·obtain ⟨⟨u, hu⟩, hf⟩ := h.all t ht
  refine ⟨?_, by rw [World.frozen?_setCell]; exact hf⟩
  by_cases e : t = i
  ·subst e; exact ⟨_, hsame⟩
  ·exact ⟨u, by rw [hoth t e]; exact hu⟩
end
def DelRet (wb : World) (A : Option Addr) (c : Nat) (xs : List It) (p : It → Bool) (e : Ending) (w' : World) : Prop :=
 ∃ n', e = .returned (.slice A n' c) ∧ PRow w' wb.heap.size A n' c ((xs.filter fun x => !p x).map It.b) ∧ Below wb.heap.size wb w'
set_option maxRecDepth 100000 in
set_option maxHeartbeats 4000000 in
theorem deleteFunc_any (wb w : World) (hb : Below wb.heap.size wb w) (g : Nat) (lb : Array Value) (its : List It) (p : It → Bool) (hp : PredIs wb g lb its p) (xs : List It) (hxs : ∀ x ∈ xs, x ∈ its) (A : Option Addr) (n c : Nat) (hr : PRow w wb.heap.size A n c (xs.map It.b)) :
  Calls Try.prog 18 #[.slice A n c, .func (.func g) #[] lb] w (DelRet wb A c xs p) := by
 have eg := hp.eg
 have hn := hr.small
 have HI := zH (indexFunc_any wb w hb g lb its p hp xs hxs A n c hr)
 have HP := zH hp
 have HB := zH hb
 have HX := zH hxs
 have HR := zH hr
 have hxl : n = xs.length := by have := hr.len; rwa [List.length_map] at this
 have HXl := zH hxl
 clear hp hb hxs hr hxl
 go_enter Try.func18, Try.ntmps18
 go_wp2_with fail
 refine HI.out.mono ?_
 rintro e w1 ⟨r, rfl, hidx, hg1⟩
 have HG1 := zH hg1
 rcases hidx with ⟨rfl, hnone⟩ | ⟨k, x, rfl, hx, hpx, hbefore⟩
 ·have HNo := zH hnone
  clear hnone hg1
  go_wp2_with fail
  go_ret
  have e : (xs.filter fun x => !p x) = xs := List.filter_eq_self.2 (fun x hx => by rw [HNo.out x hx]; rfl)
  exact ⟨n, rfl, by rw [e]; exact HR.out.below HG1.out.below, HB.out.trans (HG1.out.below.mono HB.out.size)⟩
 ·have hkn : k < n := by have := (List.getElem?_eq_some_iff.1 hx).1; have := HXl.out; omega
  obtain ⟨gr, hA, hgb, hgl, hcells⟩ : ∃ gr, A = some ⟨gr, 0, none⟩ ∧ wb.heap.size ≤ gr ∧ RowT w1 gr ∧ ∀ i b, (xs.map It.b)[i]? = some b → w1.cell? ⟨gr, i, none⟩ = some (ptrI b) ∧ w1.frozen? ⟨gr, i, none⟩ = false := by
   rcases (HR.out.below hg1.below).row with e | h
   ·rw [List.map_eq_nil_iff] at e
    subst e
    simp at hx
   ·exact h
  subst hA
  have hfk : ((xs.take k).filter fun x => !p x) = xs.take k := List.filter_eq_self.2 (fun y hy => by
   obtain ⟨j, hj⟩ := List.getElem?_of_mem hy
   have hjl := (List.getElem?_eq_some_iff.1 hj).1
   rw [List.length_take] at hjl
   rw [List.getElem?_take_of_lt (by omega)] at hj
   rw [hbefore j y (by omega) hj]; rfl)
  have hft : ((xs.take (k + 1)).filter fun x => !p x) = xs.take k := by rw [take_next hx, hfk, hpx]; simp
  have hmid : DMid wb w1 gr n xs p k (k + 1) := by
   refine ⟨HB.out.trans (hg1.below.mono HB.out.size), hgl, hgb, by omega, by omega, by rw [hft, List.length_take]; have := HXl.out; omega, fun t y hy => ?_, fun t y ht hy => ?_, fun t ht => ?_⟩
   ·rw [hft] at hy
    have hjl := (List.getElem?_eq_some_iff.1 hy).1
    rw [List.length_take] at hjl
    rw [List.getElem?_take_of_lt (by omega)] at hy
    exact (hcells t y.b (by rw [List.getElem?_map, hy]; rfl)).1
   ·exact (hcells t y.b (by rw [List.getElem?_map, hy]; rfl)).1
   ·have hy : xs[t]? = some xs[t] := List.getElem?_eq_getElem (by have := HXl.out; omega)
    obtain ⟨h1, h2⟩ := hcells t (xs[t]).b (by rw [List.getElem?_map, hy]; rfl)
    exact ⟨⟨_, h1⟩, h2⟩
  have HM := zH hmid
  have hcap : (n : Int) ≤ (c : Int) := by have := HR.out.cap; omega
  have hne1 : ((k : Int) == -1) = false := beq_eq_false_iff_ne.2 (by omega)
  clear hmid hcells hfk hft hg1 hx hpx hbefore hgb hgl
  go_wp2_with fail
  go_loopw [5, 6, 7] (fun si sj _ wr => ∃ i j : Nat, si = .int .i64 i ∧ sj = .int .i64 j ∧ DMid wb wr gr n xs p i j) (fun _ sj _ _ => n - (intOf sj).toNat)
  case atStart => exact ⟨k, k + 1, rfl, by go_num, HM.out⟩
  case round =>
   clear HM HI HG1 hkn hne1
   obtain ⟨i, j, rfl, rfl, hmid⟩ := hrel
   have hij := hmid.ij
   have hjn := hmid.jn
   have HM := zH hmid
   by_cases hlt : j < n
   ·have hltz : (j : Int) < (n : Int) := by omega
    obtain ⟨x, hx⟩ : ∃ x, xs[j]? = some x := ⟨_, List.getElem?_eq_getElem (by have := HXl.out; omega)⟩
    have cj := hmid.high j x (zN _) hx
    have hcall := HP.out.run x (HX.out x (List.mem_of_getElem? hx)) wr hmid.bel
    unfold ptrI at cj hcall
    have HCall := zH hcall
    have HXx := zH hx
    clear hcall hx hmid
    cases hq : p x with
    |false =>
     go_wp2_with fail
     refine HCall.out.mono ?_
     rintro e w2 ⟨he, hg2⟩
     rw [hq] at he
     subst he
     have HM2 := zH (HM.out.gr hg2)
     obtain ⟨⟨u, ci⟩, fi⟩ := HM2.out.all i (by omega)
     unfold ptrI at ci
     clear hg2
     go_wp2_with fail
     go_roundw
     case rel => exact ⟨i + 1, j + 1, by go_num, by go_num, HM2.out.keep hlt HXx.out hq⟩
     case measure => simp [intOf]; omega
    |true =>
     go_wp2_with fail
     refine HCall.out.mono ?_
     rintro e w2 ⟨he, hg2⟩
     rw [hq] at he
     subst he
     have HM2 := zH (HM.out.gr hg2)
     clear hg2
     go_wp2_with fail
     go_roundw
     case rel => exact ⟨i, j + 1, rfl, by go_num, HM2.out.skip hlt HXx.out hq⟩
     case measure => simp [intOf]; omega
   ·obtain rfl : j = n := by omega
    have hcl : ∀ ty, (Builtin.clear_ #[54] ty #[.slice (some ⟨gr, i, none⟩) (j - i) (c - i)]).run Try.prog wr = .ok (.tuple #[]) (wr.setCells gr i (List.replicate (j - i) (.pointer none))) :=
     fun ty => Lib.run_clear_slice wr _ _ ty _ Try.underlying54 (Try.zeroValue56) rfl rfl gr i _ _ (by omega) (fun t ht => by obtain ⟨⟨u, hu⟩, _⟩ := hmid.all (i + t) (by omega); rw [hu]; rfl) (fun t ht => (hmid.all (i + t) (by omega)).2)
    have hic : (i : Int) ≤ (j : Int) := by omega
    clear hmid
    go_wp2_with fail
    go_ret
    have h := HM.out
    have hft : xs.take j = xs := List.take_of_length_le (by have := HXl.out; omega)
    have hkl := h.kl
    have hlow := h.low
    rw [hft] at hkl hlow
    refine ⟨i, rfl, ⟨by rw [List.length_map, hkl], by have := HR.out.cap; omega, by omega, .inr ⟨gr, rfl, h.base, rowT_setCells _ _ _ h.ty, fun t b hb => ?_⟩⟩, below_setCells_p h.base _ _ _ h.bel⟩
    rw [List.getElem?_map] at hb
    obtain ⟨y, hy, rfl⟩ := Option.map_eq_some_iff.1 hb
    have hti := (List.getElem?_eq_some_iff.1 hy).1
    refine ⟨?_, by rw [World.frozen?_setCells]; exact (h.all t (by omega)).2⟩
    rw [World.cell?_setCells_out _ _ _ _ _ (fun _ _ => .inl (by dsimp only; omega))]
    exact hlow t y hy
set_option maxHeartbeats 1000000 in
theorem notIs_any (wb w : World) (hb : Below wb.heap.size wb w) (g Bs : Nat) (lb : Array Value) (its : List It) (p : It → Bool) (hp : PredIs wb g lb its p) (hB : Blk w Bs 57 #[.func (.func g) #[] lb]) :
  PredIs w 21 #[.pointer (some ⟨Bs, 0, none⟩)] its (fun x => !p x) := by
 refine ⟨enters_of Try.func21 (by kernel_rfl) rfl, fun x hx W hW => ?_⟩
 have eg := hp.eg
 have hc := (hB.below hW).cell 0 _ rfl
 have HC := zH (hp.run x hx W (hb.trans (hW.mono hb.size)))
 clear hp hb hB hW hx
 show Calls Try.prog _ #[ptrI x.b, .pointer (some ⟨Bs, 0, none⟩)] W _
 unfold ptrI at HC ⊢
 go_enter Try.func21, Try.ntmps21
 go_wp2_with fail
 refine HC.out.mono ?_
 rintro e w2 ⟨rfl, hg2⟩
 have HG2 := zH hg2
 clear hg2
 go_wp2_with fail
 go_ret
 exact ⟨rfl, HG2.out⟩
end Go.Proofs.Ytnabbimompapfaa
namespace Go.Proofs.Ytnabbimompapfaa
open Go Go.RowKit
open Go.Sort (grow SWO PermIn SortedIn Holds putRow putCells mapBlock onCells)
open Go.Proofs (ltOf CmpLays1 sortWorld holds_sortWorld)
theorem sortWorld_other {α : Type} [Inhabited α] (enc : α → Value) (w : World) (g off n : Nat) (d : Array α) (os : Array Obj) (k : Nat) (hk : k < w.heap.size) (hne : k ≠ g) : (sortWorld enc w g off n d os).heap[k]? = w.heap[k]? := by
 show ((putRow enc (Go.Sort.ahead w n) g off d).heap ++ os)[k]? = w.heap[k]?
 have hs : k < (putRow enc (Go.Sort.ahead w n) g off d).heap.size := by rw [Go.Sort.size_putRow]; exact hk
 rw [Array.getElem?_append_left hs]
 have : g ≠ k := fun e => hne e.symm
 simp [putRow, mapBlock, Go.Sort.ahead, Array.getElem?_modify, this]
theorem sortWorld_below {α : Type} [Inhabited α] (enc : α → Value) (w : World) (g off n B : Nat) (d : Array α) (os : Array Obj) (hB : B ≤ g) (hw : B ≤ w.heap.size) : Below B w (sortWorld enc w g off n d os) := by
 refine ⟨rfl, rfl, rfl, ?_, fun k hk => sortWorld_other enc w g off n d os k (by omega) (by omega)⟩
 show w.heap.size ≤ ((putRow enc (Go.Sort.ahead w n) g off d).heap ++ os).size
 rw [Array.size_append, Go.Sort.size_putRow]
 exact Nat.le_add_right _ _
theorem sortWorld_rowT {α : Type} [Inhabited α] (enc : α → Value) (w : World) (g off n : Nat) (d : Array α) (os : Array Obj) (h : RowT w g) : RowT (sortWorld enc w g off n d os) g := by
 obtain ⟨cs, h⟩ := h
 have hl := h.lt
 refine ⟨putCells enc off d cs, ?_⟩
 show ((putRow enc (Go.Sort.ahead w n) g off d).heap ++ os)[g]? = _
 rw [Array.getElem?_append_left (by rw [Go.Sort.size_putRow]; exact hl)]
 unfold Blk at h
 simp [putRow, mapBlock, Go.Sort.ahead, Array.getElem?_modify, h, onCells]
def SrtRet (wb : World) (A : Option Addr) (n c : Nat) (xs : List It) (cf : EntV → EntV → Int) (e : Ending) (w' : World) : Prop :=
 e = .returned (.tuple #[]) ∧ ∃ ys : List It, ys.Perm xs ∧ ys.Pairwise (fun a b => ¬ cf b.e a.e < 0) ∧ PRow w' wb.heap.size A n c (ys.map It.b) ∧ Below wb.heap.size wb w'
theorem sort_any (wb w : World) (hb : Below wb.heap.size wb w) (its : List It) (hits : ∀ x ∈ its, ItAt wb x.b x.e x.v x.u (costE x.e)) (h : Nat) (cf : EntV → EntV → Int) (hc : CmpIs h cf) (xs : List It) (hxs : ∀ x ∈ xs, x ∈ its) (A : Option Addr) (n c : Nat) (hr : PRow w wb.heap.size A n c (xs.map It.b)) :
  Calls Try.prog 22 #[.slice A n c, .func (.func h) #[] #[]] w (SrtRet wb A n c xs cf) := by
 have hlen := hr.len
 rw [List.length_map] at hlen
 have hsm := hr.small
 rcases hr.row with e | ⟨g, hA, hbg, hgt, hcells⟩
 ·rw [List.map_eq_nil_iff] at e
  subst e
  have hn0 : n = 0 := by simpa using hlen
  subst hn0
  refine (AnyF.slices_SortFunc_none (P := Try.prog) (ρ := Try.sortItem_ren) { Try.sortItem with } A c (.func (.func h) #[] #[]) w).mono ?_
  rintro e w' ⟨rfl, rfl⟩
  exact ⟨rfl, [], List.Perm.refl _, List.Pairwise.nil, hr, hb⟩
 ·have hgl := hgt.lt
  by_cases hx0 : xs = []
  ·subst hx0
   have hn0 : n = 0 := by simpa using hlen
   subst hn0
   refine (AnyF.slices_SortFunc_none (P := Try.prog) (ρ := Try.sortItem_ren) { Try.sortItem with } A c (.func (.func h) #[] #[]) w).mono ?_
   rintro e w' ⟨rfl, rfl⟩
   exact ⟨rfl, [], List.Perm.refl _, List.Pairwise.nil, hr, hb⟩
  ·subst hA
   obtain ⟨x0, hx0m⟩ := List.exists_mem_of_ne_nil xs hx0
   have : Inhabited {x : It // x ∈ its} := ⟨⟨x0, hxs x0 hx0m⟩⟩
   obtain ⟨d, hd⟩ : ∃ d : Array {x : It // x ∈ its}, d.toList.map Subtype.val = xs := by
    refine ⟨(xs.pmap (fun x hx => (⟨x, hx⟩ : {x : It // x ∈ its})) hxs).toArray, ?_⟩
    rw [List.map_pmap]
    simp
   have hds : d.size = n := by rw [hlen, ← hd, List.length_map, Array.length_toList]
   have hH : Holds (fun x : {x : It // x ∈ its} => ptrI x.1.b) w g 0 d := fun j hj => by
    rw [Nat.zero_add]
    refine hcells j _ ?_
    rw [← hd, List.getElem?_map, List.getElem?_map, Array.getElem?_toList, Array.getElem?_eq_getElem hj]
    simp [getElem!_pos d j hj]
   have hO : SWO (ltOf fun x y : {x : It // x ∈ its} => cf x.1.e y.1.e) := by
    refine ⟨fun x => ?_, fun x y z h1 h2 => ?_, fun x y z h1 h2 => ?_⟩
    ·exact decide_eq_false (hc.irr _)
    ·exact decide_eq_true (hc.tr _ _ _ (of_decide_eq_true h1) (of_decide_eq_true h2))
    ·exact decide_eq_false (hc.nt _ _ _ (of_decide_eq_false h1) (of_decide_eq_false h2))
   have hcmp : CmpLays1 Try.prog h #[] (fun x : {x : It // x ∈ its} => ptrI x.1.b) (fun x y => cf x.1.e y.1.e) g 0 d.size w := fun m os dk hs x y => by
    have hat : ∀ z ∈ its, ItAt (sortWorld (fun x : {x : It // x ∈ its} => ptrI x.1.b) w g 0 m dk os) z.b z.e z.v z.u (costE z.e) := fun z hz => by
     have h1 := (hits z hz).blk
     have hl := h1.lt
     exact ⟨(sortWorld_other _ w g 0 m dk os z.b (by have := hb.size; omega) (by omega)).trans ((hb.block z.b hl).trans h1)⟩
    exact hc.run _ _ _ _ _ _ _ _ _ _ _ (hat x.1 x.2) (hat y.1 y.2)
   have hs := Any.slices_SortFunc (P := Try.prog) (ρ := Try.sortItem_ren) Try.sortItem (fun x : {x : It // x ∈ its} => ptrI x.1.b) (fun _ => rfl) (fun x y => cf x.1.e y.1.e) hO h #[] g 0 c d w hc.eg hcmp hH hgl (by omega)
   rw [hds] at hs
   refine hs.mono ?_
   rintro e w' ⟨rfl, d', m, os, ⟨hp1, _, hp3⟩, hsrt, rfl⟩
   have hds' : d'.size = n := by rw [hp1, hds]
   have hperm : d'.toList.Perm d.toList := by
    have e1 : d'.extract 0 n = d' := by rw [← hds']; exact Array.extract_size
    have e2 : d.extract 0 n = d := by rw [← hds]; exact Array.extract_size
    rw [e1, e2] at hp3
    exact hp3
   refine ⟨rfl, d'.toList.map Subtype.val, ?_, ?_, ⟨?_, hr.cap, hsm, .inr ⟨g, rfl, hbg, ?_, fun i b hi => ?_⟩⟩, hb.trans (sortWorld_below _ w g 0 m _ d' os hbg hb.size)⟩
   ·rw [← hd]
    exact hperm.map _
   ·rw [List.pairwise_map, List.pairwise_iff_getElem]
    intro i j hi hj hij
    rw [Array.length_toList] at hi hj
    have := of_decide_eq_false (hsrt i j (Nat.zero_le _) hij (by omega))
    rw [getElem!_pos d' j hj, getElem!_pos d' i hi] at this
    simpa using this
   ·rw [List.length_map, List.length_map, Array.length_toList, hds']
   ·exact sortWorld_rowT _ w g 0 m d' os hgt
   ·have hHk := holds_sortWorld (fun x : {x : It // x ∈ its} => ptrI x.1.b) w g 0 m d d' os hgl hH (by omega)
    have hil := (List.getElem?_eq_some_iff.1 hi).1
    rw [List.length_map, List.length_map, Array.length_toList] at hil
    have h2 := hHk i hil
    rw [Nat.zero_add] at h2
    rw [List.getElem?_map, List.getElem?_map, Array.getElem?_toList, Array.getElem?_eq_getElem hil] at hi
    simp only [Option.map_some, Option.some.injEq] at hi
    rw [getElem!_pos d' i hil] at h2
    rw [← hi]
    exact h2
end Go.Proofs.Ytnabbimompapfaa
namespace Go.Proofs.Ytnabbimompapfaa
open Go Go.RowKit
theorem perm_map_inv {α β : Type} {f : α → β} : ∀ {ys zs : List β}, ys.Perm zs → ∀ l : List α, zs = l.map f → ∃ xs : List α, xs.Perm l ∧ ys = xs.map f := by
 intro ys zs h
 induction h with
 |nil =>
  intro l hl
  exact ⟨l, List.Perm.refl _, hl⟩
 |cons x h ih =>
  intro l hl
  cases l with
  |nil => cases hl
  |cons a l =>
   rw [List.map_cons] at hl
   injection hl with h1 h2
   obtain ⟨xs, hp, rfl⟩ := ih l h2
   exact ⟨a :: xs, hp.cons a, by rw [List.map_cons, h1]⟩
 |swap x y l0 =>
  intro l hl
  cases l with
  |nil => cases hl
  |cons a l =>
   cases l with
   |nil => simp at hl
   |cons b l =>
    simp only [List.map_cons, List.cons.injEq] at hl
    obtain ⟨h1, h2, h3⟩ := hl
    exact ⟨b :: a :: l, List.Perm.swap a b l, by simp [h1, h2, h3]⟩
 |trans h1 h2 ih1 ih2 =>
  intro l hl
  obtain ⟨xs, hp, hx⟩ := ih2 l hl
  obtain ⟨zs, hp2, hz⟩ := ih1 xs hx
  exact ⟨zs, hp2.trans hp, hz⟩
theorem PRow.of_own {w : World} {B : Nat} {A : Option Addr} {n c : Nat} {bs : List Nat} (h : w.ownsRow B 56 1 (.slice A n c) bs.length (bs.map ptrI)) (hs : bs.length ≤ 1000000) : n = bs.length ∧ PRow w B A n c bs := by
 have h' := h
 rcases h.2 with ⟨h1, h2⟩ | ⟨g, cap, cur, hv, hg, hh, hle, hcap, hsz, htk⟩
 ·injection h1 with h1 h3 h4
  subst h1 h3 h4
  have : bs = [] := by simpa using h2
  subst this
  exact ⟨rfl, rfl, zN _, by omega, .inl rfl⟩
 ·injection hv with hA hn hc
  subst hA hn hc
  refine ⟨rfl, rfl, hle, hs, .inr ⟨g, rfl, hg, ⟨_, hh⟩, fun i b hi => ?_⟩⟩
  have hil := (List.getElem?_eq_some_iff.1 hi).1
  refine ⟨?_, by simp [World.frozen?, hh]⟩
  rw [h'.cellAt i (by omega), List.getElem?_map, hi]
  rfl
def SortRet (B : Nat) (w : World) (its : List It) (p : It → Bool) (cf : EntV → EntV → Int) (e : Ending) (w' : World) : Prop :=
 ∃ (A : Option Addr) (n c : Nat) (ys : List It), e = .returned (.slice A n c) ∧ PRow w' B A n c (ys.map It.b) ∧ ys.Perm (its.filter p) ∧ ys.Pairwise (fun a b => ¬ cf b.e a.e < 0) ∧ Below w.heap.size w w'
set_option maxRecDepth 100000 in
set_option maxHeartbeats 4000000 in
theorem sorted_any (B g gm gp : Nat) (us : Int) (s : PJ) (its : List It) (P : List (Int × Int)) (w : World) (h : JRep w B g gm gp us s its P) (hlen : its.length ≤ 1000000) (q : Nat) (lb : Array Value) (p : It → Bool) (hp : PredIs w q lb its p) (cg : Nat) (cf : EntV → EntV → Int) (hc : CmpIs cg cf) :
  Calls Try.prog 11 #[.pointer (some ⟨g, 0, none⟩), .func (.func q) #[] lb, .func (.func cg) #[] #[]] w (SortRet w.heap.size w its p cf) := by
 have HH := zH h
 have HP := zH hp
 have HC := zH hc
 have HL := zH hlen
 clear h hp hc hlen
 go_enter Try.func11, Try.ntmps11
 go_upto_region 1 with fail
 obtain ⟨w1, hw1⟩ : ∃ w1, w.alloc (.cells #[.func (.func q) #[] lb] 57) = w1 := ⟨_, rfl⟩
 have hb1 : Below w.heap.size w w1 := hw1 ▸ (zL _ _).alloc (zN _) _
 have HBx : Hid (Blk w1 w.heap.size 57 #[.func (.func q) #[] lb]) := zH (hw1 ▸ Blk.new w _ _)
 rw [hw1]
 have HJ1 := zH (HH.out.below hb1)
 have HB1 := zH hb1
 obtain ⟨-, -, -, -, -, -, -, -, c8, -, -⟩ := HJ1.out.cells
 clear hw1 hb1
 generalize hBs : w.heap.size = Bs at HBx ⊢
 have HBs := zH hBs
 clear hBs
 go_wp2_with fail
 refine ((callsIn_wide (n := 9)).1 (values_in 9 gm w1)).mono ?_
 rintro e w2 ⟨rfl, hw2⟩
 have hb2 : Below w1.heap.size w1 w2 := hw2 ▸ (zL _ _).alloc (zN _) _
 have hBv : Blk w2 w1.heap.size 70 #[.map (some gm)] := hw2 ▸ Blk.new w1 _ _
 have HJ2 := zH (HJ1.out.below hb2)
 have HB2 := zH (HB1.out.trans (hb2.mono HB1.out.size))
 have HBx2 := zH (HBx.out.below hb2)
 have HCo := zH (collect_any w1.heap.size gm (its.map fun x => (x.e.key, x.b)) (by rw [List.length_map]; exact HL.out) w2 hBv.lt (hBv.cell 0 _ rfl) HJ2.out.items)
 generalize w1.heap.size = Bv at HCo ⊢
 clear hw2 hb2 hBv c8 HBx HJ1 HB1
 go_wp2_with fail
 refine HCo.out.mono ?_
 rintro e w3 ⟨v, ks, rfl, hks, hown, hb3⟩
 obtain ⟨A, c, rfl, _, _⟩ := own_form hown
 obtain ⟨xs, hxs, rfl⟩ := perm_map_inv hks its rfl
 have hown2 : w3.ownsRow w2.heap.size 56 1 (.slice A ((xs.map fun x => (x.e.key, x.b)).length) c) (xs.map It.b).length ((xs.map It.b).map ptrI) := by
  have := hown
  rw [List.map_map] at this
  rw [List.map_map]
  simp only [List.length_map] at this ⊢
  exact this
 have hxl : xs.length ≤ 1000000 := by rw [hxs.length_eq]; exact HL.out
 obtain ⟨hn, hrow⟩ := PRow.of_own hown2 (by rw [List.length_map]; exact hxl)
 have HXs := zH hxs
 generalize hn2 : (xs.map fun x => (x.e.key, x.b)).length = n at hrow ⊢
 have HRow := zH hrow
 have HB3 := zH hb3
 have hmem : ∀ x ∈ xs, x ∈ its := fun x hx => hxs.mem_iff.1 hx
 have HD := zH (deleteFunc_any w2 w3 hb3 21 #[.pointer (some ⟨Bs, 0, none⟩)] its (fun x => !p x) (notIs_any w w2 HB2.out q Bs lb its p HP.out HBx2.out) xs hmem A n c hrow)
 clear hown hown2 hn hn2 hrow hb3 hks hxs HCo HBx2
 go_wp2_with fail
 refine HD.out.mono ?_
 rintro e w4 ⟨n', rfl, hrow4, hb4⟩
 have hfe : (xs.filter fun x => !(fun x => !p x) x) = xs.filter p := List.filter_congr (fun x _ => by simp)
 rw [hfe] at hrow4
 have HS := zH (sort_any w2 w4 hb4 its HJ2.out.ib cg cf HC.out (xs.filter p) (fun x hx => hmem x (List.mem_filter.1 hx).1) A n' c hrow4)
 clear hfe hrow4 hb4 HD hmem
 go_wp2_with fail
 refine HS.out.mono ?_
 rintro e w5 ⟨rfl, ys, hys, hord, hrow5, hb5⟩
 have HY := zH hys
 have HO := zH hord
 have HR5 := zH hrow5
 have HB5 := zH hb5
 clear hys hord hrow5 hb5 HS
 go_wp2_with fail
 go_ret
 have hr := HR5.out
 have hsz := HB2.out.size
 have hBse := HBs.out
 refine ⟨A, n', c, ys, rfl, ⟨hr.len, hr.cap, hr.small, ?_⟩, HY.out.trans (HXs.out.filter p), HO.out.imp (fun h => by omega), HB2.out.trans (HB5.out.mono hsz)⟩
 rcases hr.row with e | ⟨gr, h1, h2, h3⟩
 ·exact .inl e
 ·exact .inr ⟨gr, h1, by omega, h3⟩
theorem sortB_eq {L : List EntV} {its ys : List It} {p : It → Bool} {q : EntV → Bool} (hasc : (L.map EntV.birth).Pairwise (· < ·)) (hperm : (its.map It.e).Perm L) (hpq : ∀ x, p x = q x.e) (hy : ys.Perm (its.filter p)) (ho : ys.Pairwise (fun a b => ¬ cmpB b.e a.e < 0)) : ys.map It.e = L.filter q := by
 have h1 : (ys.map It.e).Perm (L.filter q) := by
  refine (hy.map It.e).trans ?_
  have e : (its.filter p).map It.e = (its.map It.e).filter q := by
   rw [List.filter_map]
   congr 1
   exact List.filter_congr (fun x _ => hpq x)
  rw [e]
  exact hperm.filter q
 refine perm_sorted_eq (R := fun a b => a.birth ≤ b.birth) h1 ?_ ?_ (fun a ha b hb h2 h3 => ?_)
 ·rw [List.pairwise_map]
  refine ho.imp (fun {a b} h => ?_)
  rw [cmpB_neg] at h
  omega
 ·have := hasc.sublist (List.filter_sublist (p := q).map EntV.birth)
  rw [List.pairwise_map] at this
  exact this.imp (fun h => by omega)
 ·have ha2 := (List.mem_filter.1 (h1.mem_iff.1 ha)).1
  have hb2 := (List.mem_filter.1 (h1.mem_iff.1 hb)).1
  exact pair_inj hasc a ha2 b hb2 (by omega)
theorem sortD_eq {L : List EntV} {its ys : List It} {t : Int} {p : It → Bool} (hasc : (L.map EntV.birth).Pairwise (· < ·)) (hperm : (its.map It.e).Perm L) (hpq : ∀ x, p x = dueP x.e.dl t) (hy : ys.Perm (its.filter p)) (ho : ys.Pairwise (fun a b => ¬ cmpD b.e a.e < 0)) : ys.map It.e = dueL L t := by
 refine dueL_unique hasc ?_ ?_
 ·refine (hy.map It.e).trans ?_
  have e : (its.filter p).map It.e = (its.map It.e).filter fun e => dueP e.dl t := by
   rw [List.filter_map]
   congr 1
   exact List.filter_congr (fun x _ => hpq x)
  rw [e]
  exact hperm.filter _
 ·rw [List.pairwise_map]
  refine ho.imp (fun {a b} h => ?_)
  rw [cmpD_neg] at h
  unfold before
  exact decide_eq_true (by omega)
def aftQ (b t : Int) (e : EntV) : Bool := decide (b < e.birth) && !dueP e.dl t
structure AftS (W : World) (Bb Ba : Nat) (b t : Int) (x : It) : Prop where
 bb : Blk W Bb 25 #[.int .u64 b]
 ba : Blk W Ba 26 #[.int .u64 t]
 it : ItAt W x.b x.e x.v x.u (costE x.e)
set_option maxRecDepth 100000 in
set_option maxHeartbeats 2000000 in
theorem aft1_any (w : World) (Bb Ba : Nat) (b t : Int) (its : List It) (hb : Blk w Bb 25 #[.int .u64 b]) (ha : Blk w Ba 26 #[.int .u64 t]) (hits : ∀ x ∈ its, ItAt w x.b x.e x.v x.u (costE x.e)) :
  PredIs w 62 #[.pointer (some ⟨Bb, 0, none⟩), .pointer (some ⟨Ba, 0, none⟩)] its (fun x => aftQ b t x.e) := by
 refine ⟨enters_of Try.func62 (by kernel_rfl) rfl, fun x hx W hW => ?_⟩
 have hbb := (hb.below hW).cell 0 _ rfl
 have hba := (ha.below hW).cell 0 _ rfl
 obtain ⟨-, -, x2, x3, -, -⟩ := (⟨(hits x hx).blk.below hW⟩ : ItAt W x.b x.e x.v x.u (costE x.e)).cells
 clear hb ha hits hW hx
 show Calls Try.prog _ #[ptrI x.b, .pointer (some ⟨Bb, 0, none⟩), .pointer (some ⟨Ba, 0, none⟩)] W _
 unfold ptrI
 by_cases hlt : b < x.e.birth
 ·have hQ := zH (show aftQ b t x.e = !dueP x.e.dl t by unfold aftQ; rw [decide_eq_true hlt]; simp)
  have hd : decide (b < x.e.birth) = true := decide_eq_true hlt
  generalize hdq : dueP x.e.dl t = dq at hQ
  have HD := zH (hdq ▸ fun W => tickDue_any x.e.dl t W)
  clear hdq
  go_enter Try.func62, Try.ntmps62
  go_wp2_with fail
  go_quiet ((go_at_call 41; exact Calls.quiet_of_same ((HD.out _).mono fun e w' h => ⟨h.1, h.2.symm⟩)))
  go_wp2_with fail
  go_ret
  exact ⟨by rw [hQ.out]; rfl, (Gr.refl _).drewN _⟩
 ·have hQ := zH (show aftQ b t x.e = false by unfold aftQ; rw [decide_eq_false hlt]; simp)
  have hd : decide (b < x.e.birth) = false := decide_eq_false hlt
  go_enter Try.func62, Try.ntmps62
  go_wp2_with fail
  go_quiet (fail)
  go_wp2_with fail
  go_ret
  exact ⟨by rw [hQ.out]; rfl, (Gr.refl _).drewN _⟩
theorem afterP_head (L : List EntV) (b t : Int) : afterP L b t = (L.filter (aftQ b t)).head? := by
 rw [List.head?_filter]
 rfl
def AfterRet (s : PJ) (its : List It) (b t : Int) (w : World) (e : Ending) (w' : World) : Prop :=
 Below w.heap.size w w' ∧ ((afterP s.L b t = none ∧ e = .returned (.pointer none)) ∨ ∃ x ∈ its, afterP s.L b t = some x.e ∧ e = .returned (.pointer (some ⟨x.b, 0, none⟩)))
set_option maxRecDepth 100000 in
set_option maxHeartbeats 4000000 in
theorem after_any (B g gm gp : Nat) (us : Int) (s : PJ) (its : List It) (P : List (Int × Int)) (b t : Int) (w : World) (h : JRep w B g gm gp us s its P) (hlen : its.length ≤ 1000000) (hasc : (s.L.map EntV.birth).Pairwise (· < ·)) :
  Calls Try.prog 39 #[.pointer (some ⟨g, 0, none⟩), .int .u64 b, .int .u64 t] w (AfterRet s its b t w) := by
 have HH := zH h
 have HL := zH hlen
 have HA := zH hasc
 clear h hlen hasc
 go_enter Try.func39, Try.ntmps39
 go_upto_region 1 with fail
 obtain ⟨w1, hw1⟩ : ∃ w1, (w.alloc (.cells #[.int .u64 b] 25)).alloc (.cells #[.int .u64 t] 26) = w1 := ⟨_, rfl⟩
 have hb1 : Below w.heap.size w w1 := hw1 ▸ ((zL _ _).alloc (zN _) _).alloc (by simp) _
 have hB1 : Blk w1 w.heap.size 25 #[.int .u64 b] := hw1 ▸ (Blk.new w _ _).alloc _
 have hB2 : Blk w1 (w.heap.size + 1) 26 #[.int .u64 t] := hw1 ▸ Blk.new2 w _ _ _
 have HJ1 := zH (HH.out.below hb1)
 have HB1 := zH hb1
 have HS := zH (sorted_any B g gm gp us s its P w1 HJ1.out HL.out _ _ _ (aft1_any w1 w.heap.size (w.heap.size + 1) b t its hB1 hB2 HJ1.out.ib) _ _ cmpIs_birth)
 rw [hw1]
 clear hw1 hb1 hB1 hB2
 generalize w.heap.size = Bs at HS ⊢
 go_wp2_with fail
 refine HS.out.mono ?_
 rintro e w2 ⟨A, n, c, ys, rfl, hrow, hperm, hord, hb2⟩
 have he := sortB_eq (q := aftQ b t) HA.out HJ1.out.perm (fun _ => rfl) hperm hord
 have hafter : afterP s.L b t = ys.head?.map It.e := by rw [afterP_head, ← he, List.head?_map]
 have HAf := zH hafter
 have HB2 := zH (HB1.out.trans (hb2.mono HB1.out.size))
 have hnl := hrow.len
 rw [List.length_map] at hnl
 clear hafter he hord hb2 HS
 cases ys with
 |nil =>
  have hn0 : n = 0 := by simpa using hnl
  subst hn0
  clear hrow hperm hnl
  go_wp2_with fail
  go_ret
  exact ⟨HB2.out, .inl ⟨by rw [HAf.out]; rfl, rfl⟩⟩
 |cons x ys =>
  have hx : x ∈ its := (List.mem_filter.1 (hperm.mem_iff.1 (List.mem_cons_self ..))).1
  have hn1 : 0 < n := by rw [hnl]; simp
  obtain ⟨gr, x', rfl, _, _, hx', hcell⟩ := hrow.at_ (k := 0) hn1
  have : x' = x := by simpa using hx'.symm
  subst this
  have hnz : ((n : Int) == 0) = false := beq_eq_false_iff_ne.2 (by omega)
  have hnp : (0 : Int) < (n : Int) := by omega
  have HX := zH hx
  unfold ptrI at hcell
  clear hrow hperm hx hx' hnl
  go_wp2_with fail
  go_ret
  exact ⟨HB2.out, .inr ⟨x', HX.out, by rw [HAf.out]; rfl, rfl⟩⟩
end Go.Proofs.Ytnabbimompapfaa
namespace Go.Proofs.Ytnabbimompapfaa
open Go Go.RowKit
set_option maxRecDepth 100000 in
set_option maxHeartbeats 4000000 in
theorem right_next (B Bv g gm gp : Nat) (us : Int) (s : PJ) (its : List It) (P : List (Int × Int)) (o : OpV) (V : Value) (t : Int) (w : World) (h : JRep w B g gm gp us s its P) (hv : Bts w Bv 5 V o.val) (hc : -9223372036854775808 ≤ o.cursor ∧ o.cursor ≤ 9223372036854775807)
  (hk : o.kind = 12) (b : Int) (hn : openP s.pl o.cursor = some b) (hlen : its.length ≤ 1000000) (hasc : (s.L.map EntV.birth).Pairwise (· < ·)) :
  Calls Try.prog 26 #[.pointer (some ⟨g, 0, none⟩), opv o V, .int .u64 t] w fun e w' => e = .returned (.tuple #[.int .i64 (rightP s o t), .bool (refusedP o (rightP s o t))]) ∧ Below w.heap.size w w' := by
 have hR : rightP s o t = if (afterP s.L b t).isNone then 14 else 0 := by
  unfold rightP
  rw [if_neg (by omega), if_neg (by omega), if_neg (by omega), if_pos (by omega), hn]
  dsimp only
  simp [hk]
 have hF : refusedP o (rightP s o t) = false := by
  rw [hR]
  unfold refusedP
  refine decide_eq_false ?_
  split <;> omega
 rw [hF, hR]
 have HOp := zH hn
 have HL := zH hlen
 have HA := zH hasc
 clear hR hn hF hlen hasc
 obtain ⟨A, c, rfl⟩ := hv.form
 have hbl : Below w.heap.size w (w.alloc (.cells (opc o (.slice A o.val.length c)) 29)) := (zL _ _).alloc (zN _) _
 have HX : Hid (JRX w (w.alloc (.cells (opc o (.slice A o.val.length c)) 29)) B Bv g gm gp us s its P o A c) := zH ⟨h.below hbl, Blk.new _ _ _, hbl, hv.below hbl⟩
 have HC := zH hc
 clear h hv hc hbl
 unfold opv
 unfold opc at HX ⊢
 have q1 : (o.kind == 1) = false := by rw [beq_eq_false_iff_ne]; omega
 have q2 : (o.kind == 2) = false := by rw [beq_eq_false_iff_ne]; omega
 have q3 : (o.kind == 3) = false := by rw [beq_eq_false_iff_ne]; omega
 have q4 : (o.kind == 4) = false := by rw [beq_eq_false_iff_ne]; omega
 have q5 : (o.kind == 5) = false := by rw [beq_eq_false_iff_ne]; omega
 have q6 : (o.kind == 6) = false := by rw [beq_eq_false_iff_ne]; omega
 have q8 : (o.kind == 8) = false := by rw [beq_eq_false_iff_ne]; omega
 have q11 : (o.kind == 11) = false := by rw [beq_eq_false_iff_ne]; omega
 have q12 : (o.kind == 12) = true := by simp [hk]
 clear hk
 cases ha : afterP s.L b t with
 |none =>
  rw [show (if (none : Option EntV).isNone = true then (14 : Int) else 0) = 14 from rfl]
  have HAf := zH ha
  clear ha
  go_enter Try.func26, Try.ntmps26
  go_upto_region 1 with fail
  generalize World.alloc _ _ = W0 at HX ⊢
  refine wp_region_noPanic ?_
  refine wp_region_held_drew (S := fun W => JRX w W B Bv g gm gp us s its P o A c) (by kernel_rfl) (HX.out.adv (zL _ _).drew) (fun hHeld => ?_)
  generalize W0.drew = W1 at hHeld ⊢
  have HX1 := zH hHeld
  refine Pl.go [0, 1, 2, 3, 4, 5, 6, 7, 8, 9, 10, 11] ?_
  iterate 12
   refine tkl (v := ?_) ?_ ?_
   rotate_left 1
   ·intro W hSw
    obtain ⟨z0, z1, z2, z3, z4, z5, z6, z7, z8⟩ := op9 hSw.box; obtain ⟨d0, d1, d2, d3, d4, d5, d6, d7, d8, d9, d10⟩ := hSw.rep.cells; have hlk := hSw.rep.lookPl HC.out; rw [HOp.out] at hlk
    clear hSw
    go_simp
    try with_reducible rfl
   try dsimp only [zS, zB, zC]
  refine Pl.stop ?_
  refine wpAnyH_done (by kernel_rfl) ?_ _
  refine NoPanic.normal ?_
  clear hHeld
  obtain ⟨z0, z1, z2, z3, z4, z5, z6, z7, z8⟩ := op9 HX1.out.box
  go_wp2_with fail
  refine (after_any B g gm gp us s its P b t _ HX1.out.rep HL.out HA.out).mono ?_
  rintro e w2 ⟨hb2, ⟨_, rfl⟩ | ⟨x, _, hsome, _⟩⟩
  ·have HB2 := zH (HX1.out.bel.trans (hb2.mono HX1.out.bel.size))
   clear hb2
   go_wp2_with fail
   go_ret2
   exact ⟨rfl, HB2.out⟩
  ·rw [HAf.out] at hsome
   cases hsome
 |some y =>
  rw [show (if (some y : Option EntV).isNone = true then (14 : Int) else 0) = 0 from rfl]
  have HAf := zH ha
  clear ha
  go_enter Try.func26, Try.ntmps26
  go_upto_region 1 with fail
  generalize World.alloc _ _ = W0 at HX ⊢
  refine wp_region_noPanic ?_
  refine wp_region_held_drew (S := fun W => JRX w W B Bv g gm gp us s its P o A c) (by kernel_rfl) (HX.out.adv (zL _ _).drew) (fun hHeld => ?_)
  generalize W0.drew = W1 at hHeld ⊢
  have HX1 := zH hHeld
  refine Pl.go [0, 1, 2, 3, 4, 5, 6, 7, 8, 9, 10, 11] ?_
  iterate 12
   refine tkl (v := ?_) ?_ ?_
   rotate_left 1
   ·intro W hSw
    obtain ⟨z0, z1, z2, z3, z4, z5, z6, z7, z8⟩ := op9 hSw.box; obtain ⟨d0, d1, d2, d3, d4, d5, d6, d7, d8, d9, d10⟩ := hSw.rep.cells; have hlk := hSw.rep.lookPl HC.out; rw [HOp.out] at hlk
    clear hSw
    go_simp
    try with_reducible rfl
   try dsimp only [zS, zB, zC]
  refine Pl.stop ?_
  refine wpAnyH_done (by kernel_rfl) ?_ _
  refine NoPanic.normal ?_
  clear hHeld
  obtain ⟨z0, z1, z2, z3, z4, z5, z6, z7, z8⟩ := op9 HX1.out.box
  go_wp2_with fail
  refine (after_any B g gm gp us s its P b t _ HX1.out.rep HL.out HA.out).mono ?_
  rintro e w2 ⟨hb2, ⟨hnone, _⟩ | ⟨x, _, _, rfl⟩⟩
  ·rw [HAf.out] at hnone
   cases hnone
  ·have HB2 := zH (HX1.out.bel.trans (hb2.mono HX1.out.bel.size))
   clear hb2
   go_wp2_with fail
   go_ret2
   exact ⟨rfl, HB2.out⟩
theorem right_any (B Bv g gm gp : Nat) (us : Int) (s : PJ) (its : List It) (P : List (Int × Int)) (o : OpV) (V : Value) (t : Int) (w : World) (h : JRep w B g gm gp us s its P) (hv : Bts w Bv 5 V o.val) (hk : o.key.size ≤ maxLen) (hc : -9223372036854775808 ≤ o.cursor ∧ o.cursor ≤ 9223372036854775807)
  (hp : s.pl.length = 64) (hlen : its.length ≤ 1000000) (hasc : (s.L.map EntV.birth).Pairwise (· < ·)) :
  Calls Try.prog 26 #[.pointer (some ⟨g, 0, none⟩), opv o V, .int .u64 t] w fun e w' => e = .returned (.tuple #[.int .i64 (rightP s o t), .bool (refusedP o (rightP s o t))]) ∧ Below w.heap.size w w' := by
 by_cases h6 : 1 ≤ o.kind ∧ o.kind ≤ 6
 ·exact right_keyed B Bv g gm gp us s its P o V t w h hv hk hc (by omega)
 ·by_cases h8 : o.kind = 8
  ·exact right_cfg B Bv g gm gp us s its P o V t w h hv hc h8
  ·by_cases h11 : o.kind = 11
   ·exact right_open B Bv g gm gp us s its P o V t w h hv hc h11 hp
   ·by_cases h14 : 12 ≤ o.kind ∧ o.kind ≤ 14
    ·cases hn : openP s.pl o.cursor with
     |none => exact right_noplace B Bv g gm gp us s its P o V t w h hv hc h14 hn
     |some b =>
      by_cases h12 : o.kind = 12
      ·exact right_next B Bv g gm gp us s its P o V t w h hv hc h12 b hn hlen hasc
      ·exact right_place B Bv g gm gp us s its P o V t w h hv hc (by omega) b hn
    ·exact right_plain B Bv g gm gp us s its P o V t w h hv hc ⟨h6, h8, by omega⟩
end Go.Proofs.Ytnabbimompapfaa
namespace Go.Proofs.Ytnabbimompapfaa
open Go Go.RowKit Go.MapKept Go.Maps
theorem MRep.only {P : Program} {mt kt et : TypeId} {α β : Type} {kV : α → Value} {vV : β → Value} {zero : Value} {K : MapK P mt kt et α β kV vV zero} {w w' : World} {b : Nat} {L : List (α × β)} {S : Nat → Prop} (h : MRep K w b L) (ho : Only S w w') (hn : ¬ S b) : MRep K w' b L :=
 h.block (ho.block b h.lt hn)
theorem ItAt.only {w w' : World} {b : Nat} {e : EntV} {v : Value} {u c : Int} {S : Nat → Prop} (h : ItAt w b e v u c) (ho : Only S w w') (hn : ¬ S b) : ItAt w' b e v u c := ⟨h.blk.only ho hn⟩
theorem Blk.ne_map {P : Program} {mt kt et : TypeId} {α β : Type} {kV : α → Value} {vV : β → Value} {zero : Value} {K : MapK P mt kt et α β kV vV zero} {w : World} {b g t : Nat} {cs : Array Value} {L : List (α × β)} (h : Blk w g t cs) (hm : MRep K w b L) : g ≠ b := by
 obtain ⟨es, clock, hb, _⟩ := hm
 intro e
 subst e
 unfold Blk at h
 rw [h] at hb
 cases hb
section
variable {w w' : World} {B g gm gp : Nat} {us : Int} {s : PJ} {its : List It} {P : List (Int × Int)}
theorem JRep.ne_g (h : JRep w B g gm gp us s its P) {x : It} (hx : x ∈ its) : x.b ≠ g := (h.ib x hx).blk.ne_ h.blk (by decide)
theorem JRep.ne_m (h : JRep w B g gm gp us s its P) {x : It} (hx : x ∈ its) : x.b ≠ gm := (h.ib x hx).blk.ne_map h.items
theorem JRep.ne_p (h : JRep w B g gm gp us s its P) {x : It} (hx : x ∈ its) : x.b ≠ gp := (h.ib x hx).blk.ne_map h.places
theorem JRep.g_m (h : JRep w B g gm gp us s its P) : g ≠ gm := h.blk.ne_map h.items
theorem JRep.g_p (h : JRep w B g gm gp us s its P) : g ≠ gp := h.blk.ne_map h.places
theorem JRep.kj_g (h : JRep w B g gm gp us s its P) : KJ B w g := ⟨h.base.1, .inl ⟨_, _, _, h.blk, .inl rfl⟩⟩
theorem JRep.kj_x (h : JRep w B g gm gp us s its P) {x : It} (hx : x ∈ its) : KJ B w x.b := ⟨h.base.2.2.2 x hx, .inl ⟨_, _, _, (h.ib x hx).blk, .inr rfl⟩⟩
theorem JRep.kj_m (h : JRep w B g gm gp us s its P) : KJ B w gm := by
 obtain ⟨es, clock, hb, _⟩ := h.items
 exact ⟨h.base.2.1, .inr ⟨es, clock, hb⟩⟩
theorem JRep.kj_p (h : JRep w B g gm gp us s its P) : KJ B w gp := by
 obtain ⟨es, clock, hb, _⟩ := h.places
 exact ⟨h.base.2.2.1, .inr ⟨es, clock, hb⟩⟩
theorem KJ.one {k : Nat} {W : World} (hk : KJ B w k) (ho : Only (fun i => i = k) w W) : Only (KJ B w) w W := ho.mono (fun i _ e => e ▸ hk)
theorem KJ.of_below {W : World} (h : Below w.heap.size w W) : Only (KJ B w) w W := Only.of_below h
theorem JRep.keysN (h : JRep w B g gm gp us s its P) : (its.map fun x => x.e.key).Nodup := by
 have := h.items.nodup
 rwa [List.map_map] at this
theorem JRep.birthN (h : JRep w B g gm gp us s its P) (hasc : (s.L.map EntV.birth).Pairwise (· < ·)) : (its.map fun x => x.e.birth).Nodup := by
 have h1 : (s.L.map EntV.birth).Nodup := hasc.imp (fun h => by omega)
 have h2 := (h.perm.map EntV.birth).nodup_iff.2 h1
 rwa [List.map_map] at h2
theorem JRep.birth_inj (h : JRep w B g gm gp us s its P) (hasc : (s.L.map EntV.birth).Pairwise (· < ·)) {x y : It} (hx : x ∈ its) (hy : y ∈ its) (e : x.e.birth = y.e.birth) : x = y := nodup_inj (h.birthN hasc) x hx y hy e
theorem JRep.key_inj (h : JRep w B g gm gp us s its P) {x y : It} (hx : x ∈ its) (hy : y ∈ its) (e : x.e.key = y.e.key) : x = y := nodup_inj h.keysN x hx y hy e
theorem JRep.b_inj (h : JRep w B g gm gp us s its P) {x y : It} (hx : x ∈ its) (hy : y ∈ its) (e : x.b = y.b) : x = y := nodup_inj h.nd x hx y hy e
end
def dropI (its : List It) (k : ByteArray) : List It := its.filter fun y => decide (y.e.key ≠ k)
theorem dropI_map (its : List It) (k : ByteArray) : (dropI its k).map (fun x => (x.e.key, x.b)) = mdel (its.map fun x => (x.e.key, x.b)) k := by
 unfold dropI mdel
 rw [List.filter_map]
 rfl
theorem costP_perm {L1 L2 : List EntV} (h : L1.Perm L2) : costP L1 = costP L2 := by
 induction h with
 |nil => rfl
 |cons x _ ih => rw [costP_cons, costP_cons, ih]
 |swap x y l => rw [costP_cons, costP_cons, costP_cons, costP_cons]; omega
 |trans _ _ h1 h2 => exact h1.trans h2
theorem gone_perm : ∀ {L : List EntV} {x : EntV}, (L.map EntV.birth).Pairwise (· < ·) → x ∈ L → (x :: L.filter fun e => decide (e.birth ≠ x.birth)).Perm L
 |y :: L, x, h, hx => by
  rw [List.map_cons, List.pairwise_cons] at h
  by_cases e : y.birth = x.birth
  ·have hyx : y = x := by
    rcases List.mem_cons.1 hx with h1 | h1
    ·exact h1.symm
    ·have := h.1 x.birth (List.mem_map_of_mem h1); omega
   subst hyx
   rw [List.filter_cons_of_neg (by simp), List.filter_eq_self.2 (fun z hz => by
    have := h.1 z.birth (List.mem_map_of_mem hz)
    rw [decide_eq_true_eq]; omega)]
  ·have hxL : x ∈ L := by
    rcases List.mem_cons.1 hx with h1 | h1
    ·rw [h1] at e; exact absurd rfl e
    ·exact h1
   rw [List.filter_cons_of_pos (by rw [decide_eq_true_eq]; exact e)]
   exact (List.Perm.swap y x _).trans ((gone_perm h.2 hxL).cons y)
theorem costP_gone {L : List EntV} {x : EntV} (h : (L.map EntV.birth).Pairwise (· < ·)) (hx : x ∈ L) : costP (L.filter fun e => decide (e.birth ≠ x.birth)) = costP L - costE x := by
 have := costP_perm (gone_perm h hx)
 rw [costP_cons] at this
 omega
theorem JRep.gone {w w1 : World} {B g gm gp : Nat} {us : Int} {s : PJ} {its : List It} {P : List (Int × Int)} (h : JRep w B g gm gp us s its P) (hasc : (s.L.map EntV.birth).Pairwise (· < ·)) {x : It} (hx : x ∈ its)
  (hm : MRep KI w1 gm (mdel (its.map fun y => (y.e.key, y.b)) x.e.key)) (ho : Only (fun k => k = gm) w w1) :
  JRep (w1.setCell ⟨g, 9, none⟩ (.int .i64 (costP s.L - costE x.e))) B g gm gp us (goneP s x.e.birth) (dropI its x.e.key) P ∧ Only (KJ B w) w (w1.setCell ⟨g, 9, none⟩ (.int .i64 (costP s.L - costE x.e))) := by
 have hxL : x.e ∈ s.L := h.perm.mem_iff.1 (List.mem_map_of_mem hx)
 have hb1 : Blk w1 g _ _ := h.blk.only ho h.g_m
 have ho1 : Only (KJ B w) w w1 := KJ.one h.kj_m ho
 have ho2 : Only (fun k => k = g) w1 (w1.setCell ⟨g, 9, none⟩ (.int .i64 (costP s.L - costE x.e))) := Only.set1 w1 g 9 _
 have hk1 : KJ B w1 g := ⟨h.base.1, .inl ⟨_, _, _, hb1, .inl rfl⟩⟩
 have hoo := KJ.trans ho1 (KJ.one hk1 ho2)
 have hsub : ∀ y ∈ dropI its x.e.key, y ∈ its := fun y hy => (List.mem_filter.1 hy).1
 have hcost := costP_gone hasc hxL
 refine ⟨⟨?_, ?_, fun y hy => ?_, fun y hy => (h.vals y (hsub y hy)).keep (KJ.keepB hoo (zN _)), h.nd.sublist (List.filter_sublist.map _), ?_, fun y hy => h.ub y (hsub y hy), ?_, ?_, h.pl, ⟨h.base.1, h.base.2.1, h.base.2.2.1, fun y hy => h.base.2.2.2 y (hsub y hy)⟩, ⟨h.apart.1, fun y hy => (h.apart.2 y (hsub y hy)).keep (KJ.keepB hoo (zN _))⟩⟩, hoo⟩
 ·have := hb1.set_ 9 (.int .i64 (costP s.L - costE x.e))
  rw [← hcost] at this
  rw [← hcost]
  exact this
 ·rw [dropI_map]
  exact hm.only ho2 (fun e => h.g_m e.symm)
 ·exact ((h.ib y (hsub y hy)).only ho (h.ne_m (hsub y hy))).only ho2 (h.ne_g (hsub y hy))
 ·have e : dropI its x.e.key = its.filter fun y => decide (y.e.birth ≠ x.e.birth) := by
   refine List.filter_congr (fun y hy => ?_)
   rw [decide_eq_decide]
   constructor
   ·intro h1 e; exact h1 (by rw [h.birth_inj hasc hy hx e])
   ·intro h1 e; exact h1 (by rw [h.key_inj hy hx e])
  rw [e]
  have e2 : (its.filter fun y => decide (y.e.birth ≠ x.e.birth)).map It.e = (its.map It.e).filter fun z => decide (z.birth ≠ x.e.birth) := by rw [List.filter_map]; rfl
  rw [e2]
  exact h.perm.filter _
 ·exact (h.ord.sublist List.filter_sublist).imp (fun hh y hy z hz => hh y (hsub y hy) z (hsub z hz))
 ·exact (h.places.only ho (fun e => h.apart.1 e.symm)).only ho2 (fun e => h.g_p e.symm)
theorem jc_at {W : World} {g : Nat} {s : PJ} {cs us : Int} {gm gp : Nat} (h : Blk W g 73 (jc s cs us gm gp)) : W.cell? ⟨g, 6, none⟩ = some (.int .u64 s.births) ∧ W.cell? ⟨g, 7, none⟩ = some (.int .i64 us) ∧ W.cell? ⟨g, 8, none⟩ = some (.map (some gm)) ∧ W.cell? ⟨g, 9, none⟩ = some (.int .i64 cs) ∧ W.cell? ⟨g, 10, none⟩ = some (.map (some gp)) :=
 ⟨h.cell 6 _ rfl, h.cell 7 _ rfl, h.cell 8 _ rfl, h.cell 9 _ rfl, h.cell 10 _ rfl⟩
def TakeRet (B g gm gp : Nat) (us : Int) (s : PJ) (its : List It) (P : List (Int × Int)) (x : It) (w : World) (e : Ending) (w' : World) : Prop :=
 e = .returned (.tuple #[]) ∧ JRep w' B g gm gp us (goneP s x.e.birth) (dropI its x.e.key) P ∧ Only (KJ B w) w w'
set_option maxRecDepth 100000 in
set_option maxHeartbeats 4000000 in
theorem take_any (B g gm gp : Nat) (us : Int) (s : PJ) (its : List It) (P : List (Int × Int)) (x : It) (w : World) (h : JRep w B g gm gp us s its P) (hx : x ∈ its) (hasc : (s.L.map EntV.birth).Pairwise (· < ·)) (hk : x.e.key.size ≤ maxLen) (hco : costP s.L ≤ 1000000000000) (hc0 : 0 ≤ costP s.L - costE x.e) (hce : 0 ≤ costE x.e) :
  Calls Try.prog 66 #[.pointer (some ⟨g, 0, none⟩), .pointer (some ⟨x.b, 0, none⟩)] w (TakeRet B g gm gp us s its P x w) := by
 have HH := zH h
 have HX := zH hx
 have HA := zH hasc
 have HK := zH hk
 clear h hx hasc hk
 go_enter Try.func66, Try.ntmps66
 go_upto_region 0 with fail
 refine wp_region_noPanic ?_
 refine wp_region_till [9] (fun W => JRep W B g gm gp us s its P) (fun _ => True) (by kernel_rfl) trivial (HH.out.below (zL _ _).drew) (fun hTill => ?_)
 refine Pl.go [0, 1, 2] ?_
 iterate 3
  refine tsl (v := ?_) ?_ ?_
  rotate_left 1
  ·intro W hSw
   skip
   clear hSw
   go_simp
   try with_reducible rfl
  try dsimp only [zS, zB, zC]
  clear hTill
  intro hTill
 refine Pl.stop ?_
 refine tt 3 (v := ?_) ?_ ?_
 rotate_left 1
 ·intro W hSw
  obtain ⟨-, -, -, -, -, -, -, -, d8, d9, -⟩ := hSw.2.cells; obtain ⟨x0, -, -, -, -, x5⟩ := (hSw.2.ib x HX.out).cells
  clear hSw
  go_simp
  try with_reducible rfl
 try dsimp only [zS, zB, zC]
 clear hTill
 intro hTill
 refine Pl.go [4, 5, 6, 7] ?_
 iterate 4
  refine tsl (v := ?_) ?_ ?_
  rotate_left 1
  ·intro W hSw
   skip
   clear hSw
   go_simp
   try with_reducible rfl
  try dsimp only [zS, zB, zC]
  clear hTill
  intro hTill
 refine Pl.stop ?_
 refine tt 8 (v := ?_) ?_ ?_
 rotate_left 1
 ·intro W hSw
  obtain ⟨-, -, -, -, -, -, -, -, d8, d9, -⟩ := hSw.2.cells; obtain ⟨x0, -, -, -, -, x5⟩ := (hSw.2.ib x HX.out).cells
  clear hSw
  go_simp
  try with_reducible rfl
 try dsimp only [zS, zB, zC]
 clear hTill
 intro hTill
 have HH1 := zH (HH.out.below (zL w.heap.size w).drew)
 have HB1 := zH (zL w.heap.size w).drew
 clear hTill
 generalize w.drew = w1 at HH1 HB1 ⊢
 obtain ⟨w2, hdel, hm2, ht2⟩ := HH1.out.items.del (k := x.e.key) HK.out
 have HM2 := zH hm2
 have HO2 := zH ht2.only
 clear hm2 ht2
 refine wpTill.only (i := 9) (o := ⟨_, _, _, _, _, _⟩) (by kernel_rfl) rfl (fun F hF => ?_)
 go_simp
 refine hF.out _ _ (Till.stored trivial (by kernel_rfl)) (fun hTill => ?_)
 clear hF F hTill hdel
 try simp only [Act.put, zA, zB, zC]
 refine wpTill.done (by kernel_rfl) ?_
 try refine NoPanic.normal ?_
 have hb2 : Blk w2 g _ _ := HH1.out.blk.only HO2.out HH1.out.g_m
 have hx2 := (HH1.out.ib x HX.out).only HO2.out (HH1.out.ne_m HX.out)
 have HB2 := zH hb2
 have HX2 := zH hx2
 have hwr : IntKind.i64.wrap (costP s.L - costE x.e) = costP s.L - costE x.e := by rw [IntKind.wrap_i64 _]; omega
 clear hb2 hx2
 go_upto_region 1 with fail
 refine wp_region_noPanic ?_
 refine wp_region_till [11] (fun W => Blk W g 73 (jc s (costP s.L) us gm gp) ∧ ItAt W x.b x.e x.v x.u (costE x.e)) (fun _ => True) (by kernel_rfl) trivial ⟨HB2.out.drew, ⟨HX2.out.blk.drew⟩⟩ (fun hTill => ?_)
 refine Pl.go [0, 1, 2, 3, 4, 5, 6, 7, 8] ?_
 iterate 9
  refine ttl (v := ?_) ?_ ?_
  rotate_left 1
  ·intro W hSw
   obtain ⟨-, -, -, d9, -⟩ := jc_at hSw.2.1; have x5 := hSw.2.2.cells.2.2.2.2.2
   clear hSw
   go_simp
   try with_reducible rfl
  try dsimp only [zS, zB, zC]
  clear hTill
  intro hTill
 refine Pl.stop ?_
 refine ts 9 (v := ?_) ?_ ?_
 rotate_left 1
 ·intro W hSw
  skip
  clear hSw
  go_simp
  try with_reducible rfl
 try dsimp only [zS, zB, zC]
 clear hTill
 intro hTill
 refine tt 10 (v := ?_) ?_ ?_
 rotate_left 1
 ·intro W hSw
  obtain ⟨-, -, -, d9, -⟩ := jc_at hSw.2.1; have x5 := hSw.2.2.cells.2.2.2.2.2
  clear hSw
  go_simp
  try with_reducible rfl
 try dsimp only [zS, zB, zC]
 clear hTill
 intro hTill
 clear hTill
 have hm3 := HM2.out.below (zL w2.heap.size w2).drew
 have ho3 := HO2.out.drew
 obtain ⟨hj, hoo⟩ := HH1.out.gone HA.out HX.out hm3 ho3
 have HJ := zH hj
 have HOO := zH (KJ.trans (KJ.of_below HB1.out) hoo)
 have d9 : w2.drew.cell? ⟨g, 9, none⟩ = some (.int .i64 (costP s.L)) := HB2.out.drew.cell 9 _ rfl
 have f9 : w2.drew.frozen? ⟨g, 9, none⟩ = false := HB2.out.drew.frozen 9
 clear hm3 ho3 hj hoo
 generalize w2.drew = w3 at HJ HOO d9 f9 ⊢
 refine wpTill.only (i := 11) (o := ⟨_, _, _, _, _, _⟩) (by kernel_rfl) rfl (fun F hF => ?_)
 go_simp
 refine hF.out _ _ (Till.stored trivial (by kernel_rfl)) (fun hTill => ?_)
 clear hF F hTill
 try simp only [Act.put, zA, zB, zC]
 refine wpTill.done (by kernel_rfl) ?_
 try refine NoPanic.normal ?_
 go_wp2_with fail
 go_end0
 exact ⟨rfl, HJ.out, HOO.out⟩
end Go.Proofs.Ytnabbimompapfaa
namespace Go.Proofs.Ytnabbimompapfaa
open Go Go.RowKit Go.MapKept Go.Maps
def useI (its : List It) (b : Nat) (u : Int) : List It := its.map fun y => if y.b = b then { y with u := u } else y
theorem useI_b (its : List It) (b : Nat) (u : Int) : (useI its b u).map It.b = its.map It.b := by
 unfold useI
 rw [List.map_map]
 exact List.map_congr_left (fun y _ => by dsimp only [Function.comp]; split <;> rfl)
theorem useI_e (its : List It) (b : Nat) (u : Int) : (useI its b u).map It.e = its.map It.e := by
 unfold useI
 rw [List.map_map]
 exact List.map_congr_left (fun y _ => by dsimp only [Function.comp]; split <;> rfl)
theorem useI_kb (its : List It) (b : Nat) (u : Int) : (useI its b u).map (fun x => (x.e.key, x.b)) = its.map (fun x => (x.e.key, x.b)) := by
 unfold useI
 rw [List.map_map]
 exact List.map_congr_left (fun y _ => by dsimp only [Function.comp]; split <;> rfl)
theorem mem_useI {its : List It} {b : Nat} {u : Int} {z : It} (h : z ∈ useI its b u) : ∃ y ∈ its, z.b = y.b ∧ z.e = y.e ∧ z.v = y.v ∧ ((y.b = b ∧ z.u = u) ∨ (y.b ≠ b ∧ z = y)) := by
 obtain ⟨y, hy, rfl⟩ := List.mem_map.1 h
 by_cases e : y.b = b
 ·refine ⟨y, hy, ?_, ?_, ?_, .inl ⟨e, ?_⟩⟩ <;> rw [if_pos e]
 ·refine ⟨y, hy, ?_, ?_, ?_, .inr ⟨e, ?_⟩⟩ <;> rw [if_neg e]
theorem JRep.used {w : World} {B g gm gp : Nat} {us : Int} {s : PJ} {its : List It} {P : List (Int × Int)} (h : JRep w B g gm gp us s its P) (hasc : (s.L.map EntV.birth).Pairwise (· < ·)) {x : It} (hx : x ∈ its) :
  JRep ((w.setCell ⟨g, 7, none⟩ (.int .i64 (us + 1))).setCell ⟨x.b, 4, none⟩ (.int .i64 (us + 1))) B g gm gp (us + 1) (useP s x.e.birth) (useI its x.b (us + 1)) P ∧ Only (KJ B w) w ((w.setCell ⟨g, 7, none⟩ (.int .i64 (us + 1))).setCell ⟨x.b, 4, none⟩ (.int .i64 (us + 1))) := by
 have ho1 := Only.set1 w g 7 (.int .i64 (us + 1))
 generalize hw1 : w.setCell ⟨g, 7, none⟩ (.int .i64 (us + 1)) = w1 at ho1 ⊢
 have ho2 := Only.set1 w1 x.b 4 (.int .i64 (us + 1))
 generalize hw2 : w1.setCell ⟨x.b, 4, none⟩ (.int .i64 (us + 1)) = w2 at ho2 ⊢
 have hxg := h.ne_g hx
 have hx1 := (h.ib x hx).only ho1 hxg
 have hoo := KJ.trans (KJ.one h.kj_g ho1) (KJ.one (k := x.b) ⟨h.base.2.2.2 x hx, .inl ⟨_, _, _, hx1.blk, .inr rfl⟩⟩ ho2)
 have hg1 : Blk w1 g 73 (jc (useP s x.e.birth) (costP s.L) (us + 1) gm gp) := by
  have := h.blk.set_ 7 (.int .i64 (us + 1))
  rw [hw1] at this
  exact this
 refine ⟨⟨hg1.only ho2 (fun e => hxg e.symm), ?_, fun z hz => ?_, fun z hz => ?_, by rw [useI_b]; exact h.nd, by rw [useI_e]; exact h.perm, fun z hz => ?_, ?_, (h.places.only ho1 (fun e => h.g_p e.symm)).only ho2 (fun e => h.ne_p hx e.symm), h.pl, ⟨h.base.1, h.base.2.1, h.base.2.2.1, fun z hz => ?_⟩, ⟨h.apart.1, fun z hz => (by obtain ⟨y, hy, e1, e2, e3, _⟩ := mem_useI hz; rw [e3]; exact (h.apart.2 y hy).keep (KJ.keepB hoo (zN _)))⟩⟩, hoo⟩
 ·rw [useI_kb]
  exact (h.items.only ho1 (fun e => h.g_m e.symm)).only ho2 (fun e => h.ne_m hx e.symm)
 ·obtain ⟨y, hy, e1, e2, e3, ⟨e4, e5⟩ | ⟨e4, rfl⟩⟩ := mem_useI hz
  ·have hyx : y = x := h.b_inj hy hx e4
   subst hyx
   rw [e1, e2, e3, e5]
   have := hx1.blk.set_ 4 (.int .i64 (us + 1))
   rw [hw2] at this
   exact ⟨this⟩
  ·exact ((h.ib z hy).only ho1 (h.ne_g hy)).only ho2 e4
 ·obtain ⟨y, hy, e1, e2, e3, _⟩ := mem_useI hz
  rw [e2, e3]
  exact (h.vals y hy).keep (KJ.keepB hoo (zN _))
 ·obtain ⟨y, hy, e1, e2, e3, ⟨e4, e5⟩ | ⟨e4, rfl⟩⟩ := mem_useI hz
  ·rw [e5]; omega
  ·have := h.ub z hy; omega
 ·show ((s.U.filter fun y => decide (y ≠ x.e.birth)) ++ [x.e.birth]).Pairwise _
  have key : ∀ a, a ≠ x.e.birth → ∀ z ∈ useI its x.b (us + 1), z.e.birth = a → ∃ y ∈ its, y.e.birth = a ∧ z.u = y.u := fun a ha z hz hza => by
   obtain ⟨y, hy, e1, e2, e3, ⟨e4, e5⟩ | ⟨e4, rfl⟩⟩ := mem_useI hz
   ·exact absurd (by rw [← hza, e2, h.b_inj hy hx e4]) ha
   ·exact ⟨z, hy, hza, rfl⟩
  rw [List.pairwise_append]
  refine ⟨?_, List.pairwise_singleton _ _, fun a ha b hb y hy z hz hya hzb => ?_⟩
  ·refine List.Pairwise.imp_of_mem ?_ (h.ord.sublist List.filter_sublist)
   intro a b ha hb hab y hy z hz hya hzb
   have ha2 := of_decide_eq_true (List.mem_filter.1 ha).2
   have hb2 := of_decide_eq_true (List.mem_filter.1 hb).2
   obtain ⟨y', hy', e1, e2⟩ := key a ha2 y hy hya
   obtain ⟨z', hz', e3, e4⟩ := key b hb2 z hz hzb
   rw [e2, e4]
   exact hab y' hy' z' hz' e1 e3
  ·have ha2 := of_decide_eq_true (List.mem_filter.1 ha).2
   obtain ⟨y', hy', e1, e2⟩ := key a ha2 y hy hya
   have hbx : b = x.e.birth := List.mem_singleton.1 hb
   obtain ⟨z', hz', f1, f2, f3, ⟨f4, f5⟩ | ⟨f4, rfl⟩⟩ := mem_useI hz
   ·rw [e2, f5]
    have := h.ub y' hy'
    omega
   ·have : z = x := h.birth_inj hasc hz' hx (by rw [hzb, hbx])
    exact absurd (by rw [this]) f4
 ·obtain ⟨y, hy, e1, _⟩ := mem_useI hz
  rw [e1]
  exact h.base.2.2.2 y hy
def UsedRet (B g gm gp : Nat) (us : Int) (s : PJ) (its : List It) (P : List (Int × Int)) (w : World) (e : Ending) (w' : World) : Prop :=
 e = .returned (.tuple #[]) ∧ JRep w' B g gm gp us s its P ∧ Only (KJ B w) w w'
set_option maxRecDepth 100000 in
set_option maxHeartbeats 2000000 in
theorem use_any (B g gm gp : Nat) (us : Int) (s : PJ) (its : List It) (P : List (Int × Int)) (x : It) (w : World) (h : JRep w B g gm gp us s its P) (hx : x ∈ its) (hasc : (s.L.map EntV.birth).Pairwise (· < ·)) (hu : 0 ≤ us ∧ us ≤ 1000000000000) :
  Calls Try.prog 70 #[.pointer (some ⟨g, 0, none⟩), .pointer (some ⟨x.b, 0, none⟩)] w (UsedRet B g gm gp (us + 1) (useP s x.e.birth) (useI its x.b (us + 1)) P w) := by
 have HJ := zH (h.used hasc hx)
 obtain ⟨-, d7, -⟩ := jc_at h.blk
 have f7 := h.blk.frozen 7
 obtain ⟨-, -, -, -, x4, -⟩ := (h.ib x hx).cells
 have xf := (h.ib x hx).blk.frozen 4
 have hne := h.ne_g hx
 have hwr : IntKind.i64.wrap (us + 1) = us + 1 := by rw [IntKind.wrap_i64 _]; omega
 clear h hx hasc
 go_enter Try.func70, Try.ntmps70
 go_wp2_with fail
 go_end0
 exact ⟨rfl, HJ.out.1, HJ.out.2⟩
end Go.Proofs.Ytnabbimompapfaa
