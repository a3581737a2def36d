/- The walk of layer 13's Copy. -/
import Derived.Test.YtookfhmghchkjaaSlabR
import Derived.Test.YtookfhmghchkjaaSlabNW
import Derived.Deep.RegionHeld3
import Derived.Deep.RegionWith
import Derived.Deep.WholeRow
import Derived.Laws.Rows
namespace Go.Proofs.Ytookfhmghchkjaa
open Go Go.RowKit
attribute [local go_sem ↓] Go.wp_at_zero Go.wp_at_succ

theorem src_ownS {w : World} {base : Nat} {e : TypeId} {size n cap : Nat} {A : Option Addr} {xs : List Value} (h : w.ownsRow base e size (.slice A n cap) n xs) : Src w size A n xs := by
  refine ⟨h.1, ?_, ?_⟩
  · intro ha
    subst ha
    rcases h.2 with ⟨e, _⟩ | ⟨g, cap', cur, e, _⟩
    · injection e
    · injection e with e; cases e
  · intro a ha j u hu
    subst ha
    rcases h.2 with ⟨e, _⟩ | ⟨g, cap', cur, e, _⟩
    · injection e with e; cases e
    · injection e with e
      injection e with e
      subst e
      exact h.cells (g := g) rfl j u hu
theorem Src.allocS {w : World} {size m : Nat} {A : Option Addr} {news : List Value} (h : Src w size A m news) (o : Obj) : Src (w.alloc o) size A m news :=
  ⟨h.1, h.2.1, fun a ha j u hu => by
    have := h.2.2 a ha j u hu
    rw [World.cell?_alloc_lt w o _ (block_lt_of_cell this)]
    exact this⟩

set_option maxHeartbeats 400000 in
theorem cellsClone_any (A : Option Addr) (n cap : Nat) (cs : List Value) (w : World) (hs : Src w 2 A n cs) (h1 : ∀ u ∈ cs, u.oneCell' = true) (hn : n ≤ 1000000000) :
    Calls Try.prog 43 #[.slice A n cap] w fun e w' => ∃ v, e = .returned v ∧ w'.ownsRow w.heap.size 78 2 v n cs ∧ Below w.heap.size w w' := by
  obtain ⟨i0, hi0, hz0, hz1, hz2⟩ := info_parts cell_info
  have HL := Lib.hid hn
  clear hn
  cases A with
  | none =>
    have h0 := hs.2.1 rfl
    subst h0
    have : cs = [] := by simpa using hs.1
    subst this
    clear hs h1
    go_enter Try.func43, Try.ntmps43
    go_wp2
    go_ret
    exact ⟨_, rfl, World.ownsRow_nil _ _ _ _, Below.refl _ _⟩
  | some a =>
    have HS := Lib.hid hs
    have H1 := Lib.hid h1
    clear hs h1
    go_enter Try.func43, Try.ntmps43
    go_wp2_with (at_builtin; refine wpList_append_src _ rfl _ _ _ rfl w.heap.size 78 i0 _ 2 32 Try.underlying59 hi0 hz0 hz1 hz2 rfl (by decide) _ 0 [] rfl (own_empty w _ _) (some a) n cap cs rfl (HS.out.allocS _) H1.out (by have := HL.out; unfold maxLen; omega) (by have := HL.out; omega) (by simp) ?_; intro v1 w1 hown hg hat)
    go_ret
    refine ⟨v1, rfl, by simpa using hown, ?_⟩
    exact ((Below.refl _ _).alloc (Nat.le_refl _) _).grown hg (by simp) (by intro k hk; cases hk; exact Nat.le_refl _)

theorem SRep.one {w : World} {B b : Nat} {most : Int} {sh : Nat → ShV} (h : SRep w B b most sh) {k : Nat} (hk : k < 13) : ∀ u ∈ ccs (sh k).cs, u.oneCell' = true := by
  intro u hu
  obtain ⟨c, hc, hu⟩ := List.mem_flatMap.1 hu
  obtain ⟨A, cap, e⟩ := (h.vals k hk c hc).form
  simp [CelV.cells] at hu
  rcases hu with rfl | rfl
  · rw [e]; rfl
  · rfl

theorem SRep.allOne {w : World} {B b : Nat} {most : Int} {sh : Nat → ShV} (h : SRep w B b most sh) : (acells most sh).toArray.all (·.oneCell') = true := by
  rw [Array.all_eq_true_iff_forall_mem]
  intro u hu
  simp only [acells, List.mem_toArray, List.mem_cons, List.mem_flatMap, List.mem_range] at hu
  rcases hu with rfl | rfl | ⟨k, hk, hu⟩
  · rfl
  · rfl
  · obtain ⟨CA, cc, hcv, _, _⟩ := own_form (h.cells k hk)
    obtain ⟨FA, fc, hfv, _, _⟩ := own_form (h.free k hk)
    rw [hcv, hfv] at hu
    simp at hu
    rcases hu with rfl | rfl <;> rfl
theorem arena_size : (Try.prog.info? 65).map (·.size) = some 28 := by kernel_rfl
theorem wpList_store_rowS {P : Program} {ops : Array Oper} {rest : List Oper} {o : Oper} {a : Act} {w : World} {Q : Exit → Act → World → Prop} (hgd : o.guard = none) (ty : TypeId) (x y : Operand) (ho : o.op = .store ty x y)
    (g : Nat) (cells : Array Value) (hx : a.eval x = .pointer (some ⟨g, 0, none⟩)) (hy : a.eval y = .agg cells)
    (t : TypeId) (old : Array Value) (hg : w.heap[g]? = some (.cells old t (0, 0))) (hi : (P.info? ty).map (·.size) = some cells.size)
    (hold : old.size = cells.size) (h1 : cells.all (·.oneCell') = true)
    (h : wpList P ops Q rest (a.put o.dst undef) (w.setRow g cells)) : wpList P ops Q (o :: rest) a w :=
  wpList_plain hgd fun _ hK => wp_store_row ty x y ho g cells hx hy t old hg hi hold h1 (hK _ _ h)

/-- The copy, of which the shelves below k are its own. -/
structure CInv (w wr : World) (most : Int) (sh shm : Nat → ShV) (k : Nat) : Prop where
  blk : Blk wr w.heap.size 65 (acells most shm).toArray
  below : Below w.heap.size w wr
  later : ∀ j, k ≤ j → shm j = sh j
  same : ∀ j, j < k → j < 13 → (shm j).cs = (sh j).cs ∧ (shm j).fr = (sh j).fr
  cells : ∀ j, j < k → j < 13 → wr.ownsRow (w.heap.size + 1) 78 2 (shm j).cv (shm j).cs.length (ccs (shm j).cs)
  free : ∀ j, j < k → j < 13 → wr.ownsRow (w.heap.size + 1) 3 1 (shm j).fv (shm j).fr.length (ics (shm j).fr)
  apartC : ∀ i j, i < k → j < k → i < 13 → j < 13 → i ≠ j → ∀ g, (shm i).cv.ownBlock = some g → (shm j).cv.ownBlock ≠ some g
  apartF : ∀ i j, i < k → j < k → i < 13 → j < 13 → i ≠ j → ∀ g, (shm i).fv.ownBlock = some g → (shm j).fv.ownBlock ≠ some g

theorem CInv.step {w wr w2 : World} {most : Int} {sh shm : Nat → ShV} {k : Nat} (h : CInv w wr most sh shm k) (hk : k < 13) (hb : Below wr.heap.size wr w2) {cv fv : Value}
    (hc : w2.ownsRow wr.heap.size 78 2 cv (sh k).cs.length (ccs (sh k).cs)) (hf : w2.ownsRow wr.heap.size 3 1 fv (sh k).fr.length (ics (sh k).fr)) :
    CInv w ((w2.setCell ⟨w.heap.size, 2 + k * 2, none⟩ cv).setCell ⟨w.heap.size, 2 + k * 2 + 1, none⟩ fv) most sh (upd shm k ⟨cv, fv, (sh k).cs, (sh k).fr⟩) (k + 1) := by
  have hlt : w.heap.size < wr.heap.size := h.blk.lt
  have hblk2 : Blk w2 w.heap.size 65 (acells most shm).toArray := h.blk.below hb
  have hset : Below (w.heap.size) w2 ((w2.setCell ⟨w.heap.size, 2 + k * 2, none⟩ cv).setCell ⟨w.heap.size, 2 + k * 2 + 1, none⟩ fv) := ((Below.refl _ _).setCell (p := ⟨w.heap.size, 2 + k * 2, none⟩) (Nat.le_refl _) _).setCell (p := ⟨w.heap.size, 2 + k * 2 + 1, none⟩) (Nat.le_refl _) _
  have ho : Only (fun j => j = w.heap.size) w2 ((w2.setCell ⟨w.heap.size, 2 + k * 2, none⟩ cv).setCell ⟨w.heap.size, 2 + k * 2 + 1, none⟩ fv) := Only.setCell (S := fun j => j = w.heap.size) (Only.setCell (S := fun j => j = w.heap.size) (Only.refl _ _) (p := ⟨w.heap.size, 2 + k * 2, none⟩) (.inl rfl) _) (p := ⟨w.heap.size, 2 + k * 2 + 1, none⟩) (.inl rfl) _
  have keepC : ∀ {base : Nat} {e : TypeId} {size n : Nat} {v : Value} {xs : List Value}, w.heap.size < base → w2.ownsRow base e size v n xs → ((w2.setCell ⟨w.heap.size, 2 + k * 2, none⟩ cv).setCell ⟨w.heap.size, 2 + k * 2 + 1, none⟩ fv).ownsRow base e size v n xs := fun hb1 hr =>
    ownsRow_only hr ho (fun j hj e => by have := (row_blockS hr hj).1; omega)
  have old : ∀ {e : TypeId} {size n : Nat} {v : Value} {xs : List Value}, wr.ownsRow (w.heap.size + 1) e size v n xs → w2.ownsRow (w.heap.size + 1) e size v n xs := fun hr =>
    ownsRow_only (S := fun _ => False) hr (Only.of_below hb) (fun _ _ h => h)
  refine ⟨?_, h.below.trans ((hb.mono (Nat.le_of_lt hlt)).trans hset), fun j hj => ?_, fun j hj h13 => ?_, fun j hj h13 => ?_, fun j hj h13 => ?_, fun i j hi hj hi13 hj13 hne g hg => ?_, fun i j hi hj hi13 hj13 hne g hg => ?_⟩
  · have h1 := (hblk2.set_ (2 + k * 2) cv).set_ (2 + k * 2 + 1) fv
    rw [acells_setc most shm hk, acells_setf most _ hk] at h1
    have e : acells most (upd (upd shm k { shm k with cv := cv }) k { upd shm k { shm k with cv := cv } k with fv := fv }) = acells most (upd shm k ⟨cv, fv, (sh k).cs, (sh k).fr⟩) := by
      refine acells_same most fun j hj => ?_
      by_cases e : j = k
      · subst e; simp [upd_same]
      · simp [upd_other _ _ e]
    rw [e] at h1
    exact h1
  · rw [upd_other shm _ (by omega)]; exact h.later j (by omega)
  · by_cases e : j = k
    · subst e; rw [upd_same]; exact ⟨rfl, rfl⟩
    · rw [upd_other shm _ e]; exact h.same j (by omega) h13
  · by_cases e : j = k
    · subst e; rw [upd_same]; exact keepC (by omega) (ownsRow_base hc (by omega))
    · rw [upd_other shm _ e]; exact keepC (by omega) (old (h.cells j (by omega) h13))
  · by_cases e : j = k
    · subst e; rw [upd_same]; exact keepC (by omega) (ownsRow_base hf (by omega))
    · rw [upd_other shm _ e]; exact keepC (by omega) (old (h.free j (by omega) h13))
  · have hold : ∀ j, j < k → j < 13 → ∀ g, (shm j).cv.ownBlock = some g → g < wr.heap.size := fun j hj h13 g hg => by
      obtain ⟨_, cur, hc⟩ := row_blockS (h.cells j hj h13) hg
      exact lt_of_heap hc
    have hnew : ∀ g, cv.ownBlock = some g → wr.heap.size ≤ g := fun g hg => (row_blockS hc hg).1
    by_cases e : i = k
    · subst e
      rw [upd_same] at hg
      rw [upd_other shm _ (fun e => hne e.symm)]
      intro e2
      have := hold j (by omega) hj13 g e2
      have := hnew g hg
      omega
    · rw [upd_other shm _ e] at hg
      by_cases e' : j = k
      · subst e'
        rw [upd_same]
        intro e2
        have := hold i (by omega) hi13 g hg
        have := hnew g e2
        omega
      · rw [upd_other shm _ e']
        exact h.apartC i j (by omega) (by omega) hi13 hj13 hne g hg
  · have hold : ∀ j, j < k → j < 13 → ∀ g, (shm j).fv.ownBlock = some g → g < wr.heap.size := fun j hj h13 g hg => by
      obtain ⟨_, cur, hc⟩ := row_blockS (h.free j hj h13) hg
      exact lt_of_heap hc
    have hnew : ∀ g, fv.ownBlock = some g → wr.heap.size ≤ g := fun g hg => (row_blockS hf hg).1
    by_cases e : i = k
    · subst e
      rw [upd_same] at hg
      rw [upd_other shm _ (fun e => hne e.symm)]
      intro e2
      have := hold j (by omega) hj13 g e2
      have := hnew g hg
      omega
    · rw [upd_other shm _ e] at hg
      by_cases e' : j = k
      · subst e'
        rw [upd_same]
        intro e2
        have := hold i (by omega) hi13 g hg
        have := hnew g e2
        omega
      · rw [upd_other shm _ e']
        exact h.apartF i j (by omega) (by omega) hi13 hj13 hne g hg

theorem CInv.done {w wr : World} {B b : Nat} {most : Int} {sh shm : Nat → ShV} (h : CInv w wr most sh shm 13) (hr : SRep w B b most sh) : SRep wr w.heap.size w.heap.size most shm := by
  refine ⟨h.blk, fun k hk => ownsRow_base (h.cells k hk hk) (by omega), fun k hk => ownsRow_base (h.free k hk hk) (by omega), fun k hk c hc => ?_, fun i j hi hj => h.apartC i j hi hj hi hj, fun i j hi hj => h.apartF i j hi hj hi hj, Nat.le_refl _⟩
  rw [(h.same k hk hk).1] at hc
  exact ((hr.vals k hk c hc).keep (KeepB.of_below h.below)).up (Nat.le_trans hr.base (Nat.le_of_lt hr.blk.lt))

set_option maxRecDepth 100000 in
set_option maxHeartbeats 2000000 in
theorem slabCopy_any (B b : Nat) (most : Int) (sh : Nat → ShV) (w : World) (h : SRep w B b most sh) (hs : SSmall sh) :
    Calls Try.prog 26 #[.pointer (some ⟨b, 0, none⟩)] w fun e w' => e = .returned (.pointer (some ⟨w.heap.size, 0, none⟩)) ∧ Below w.heap.size w w' ∧ ∃ sh', SRep w' w.heap.size w.heap.size most sh' ∧ ∀ k, k < 13 → (sh' k).cs = (sh k).cs ∧ (sh' k).fr = (sh k).fr := by
  have HR := Lib.hid h
  have HS := Lib.hid hs
  clear h hs
  have hone : (acells most sh).toArray.all (·.oneCell') = true := HR.out.allOne
  go_enter Try.func26, Try.ntmps26
  go_wp2_with fail
  refine HR.out.zero.mono ?_
  rintro e w' ⟨rfl, hw⟩
  subst hw
  have HC1 : Hid (CInv w' (w'.alloc (.cells (acells most sh).toArray 65)) most sh sh 0) := Lib.hid ⟨Blk.new _ _ _, (Below.refl _ _).alloc (Nat.le_refl _) _, fun _ _ => rfl, fun j hj => by omega, fun j hj => by omega, fun j hj => by omega, fun i j hi => by omega, fun i j hi => by omega⟩
  have HOne := Lib.hid hone
  clear hone
  go_upto_region 4 with (first
    | (refine wpList_load_row rfl 65 _ rfl b rfl 65 (acells most sh).toArray (0, 0) _ HR.out.blk Try.underlying65 rfl arena_size ?_)
    | (refine wpList_store_rowS rfl 65 _ _ rfl w'.heap.size (acells most sh).toArray rfl rfl 65 _ (heap_alloc_new w' _) arena_size rfl HOne.out ?_; rw [World.setRow_alloc_new])
    | fail)
  obtain ⟨w1, hw1⟩ : ∃ w1, w'.alloc (.cells (acells most sh).toArray 65) = w1 := ⟨_, rfl⟩
  rw [hw1] at HC1 ⊢
  clear hw1
  obtain ⟨av, hav⟩ : ∃ av, (acells most sh).toArray = av := ⟨_, rfl⟩
  rw [hav]
  clear hav
  go_wp2_with fail
  go_loopw [11] (fun i wr => ∃ (k : Nat) (shm : Nat → ShV), k ≤ 13 ∧ i = .int .i64 k ∧ CInv w' wr most sh shm k) (fun i _ => 13 - (intOf i).toNat)
  case atStart => exact ⟨0, sh, by omega, rfl, HC1.out⟩
  case round =>
    obtain ⟨k, shm, hk, rfl, hinv⟩ := hrel
    have HC := Lib.hid hinv
    clear hinv HC1
    by_cases hk13 : k < 13
    · have hsk := HC.out.later k (Nat.le_refl _)
      have x0 := HC.out.blk.cell _ _ (acells_c most shm hk13)
      have x1 := HC.out.blk.cell _ _ (acells_f most shm hk13)
      rw [hsk] at x0 x1
      obtain ⟨CA, cc, hcv, hcc, _⟩ := own_form (HR.out.cells k hk13)
      obtain ⟨FA, fc, hfv, hfc, _⟩ := own_form (HR.out.free k hk13)
      rw [hcv] at x0
      rw [hfv] at x1
      have hfz := HC.out.blk.frozen
      have hsmC := HS.out.cs k hk13
      have hsmF := HS.out.fr k hk13
      have cC : ∀ W, Below w'.heap.size w' W → Calls Try.prog 43 #[.slice CA (sh k).cs.length cc] W fun e w2 => ∃ v, e = .returned v ∧ w2.ownsRow W.heap.size 78 2 v (sh k).cs.length (ccs (sh k).cs) ∧ Below W.heap.size W w2 := fun W hW => by
        have h1 := (HR.out.below hW).cells k hk13
        rw [hcv] at h1
        exact cellsClone_any CA _ cc _ W (src_ownS h1) (HR.out.one hk13) (by omega)
      have cF : ∀ W, Below w'.heap.size w' W → Calls Try.prog 41 #[.slice FA (sh k).fr.length fc] W fun e w2 => ∃ v, e = .returned v ∧ w2.ownsRow W.heap.size 3 1 v (sh k).fr.length (ics (sh k).fr) ∧ Below W.heap.size W w2 := fun W hW => by
        have h1 := (HR.out.below hW).free k hk13
        rw [hfv] at h1
        exact intsClone_any B _ (sh k).fr W h1 (by omega)
      have HX0 : Hid ((shm k).cv = .slice CA (sh k).cs.length cc) := Lib.hid (by rw [hsk]; exact hcv)
      have HX1 : Hid ((shm k).fv = .slice FA (sh k).fr.length fc) := Lib.hid (by rw [hsk]; exact hfv)
      have HcC := Lib.hid cC
      have HcF := Lib.hid cF
      have HBw := Lib.hid HC.out.below
      have HL := Lib.hid (Below.refl wr.heap.size wr)
      have HXb := Lib.hid HC.out.blk
      have hkI : (k : Int) < 13 := by omega
      clear cC cF hsk hcv hfv hcc hfc hsmC hsmF
      go_upto_region 8 with fail
      go_region_with
        (first
          | (go_at_call 43
             go_loud
             (refine (HcC.out _ (by first | exact HBw.out | exact HBw.out.drew)).mono ?_
              rintro e wC ⟨vC, rfl, hownC, hbC⟩
              have HoC := Lib.hid (ownsRow_base hownC HL.out.size)
              try have HoF := Lib.hid (ownsRow_only (S := fun _ => False) HoF.out (Only.of_below (by first | exact hbC | exact below_drew hbC : Below _ _ wC)) (fun _ _ h => h))
              have HL := Lib.hid (HL.out.trans ((by first | exact hbC | exact below_drew hbC : Below _ _ wC).mono HL.out.size))
              have HBw := Lib.hid (HBw.out.trans ((by first | exact hbC | exact below_drew hbC : Below _ _ wC).mono HBw.out.size))
              have hxC := HXb.out.below (by first | exact hbC | exact below_drew hbC : Below _ _ wC)
              have x0 := hxC.cell _ _ (acells_c most shm hk13)
              have x1 := hxC.cell _ _ (acells_f most shm hk13)
              rw [HX0.out] at x0
              rw [HX1.out] at x1
              have hfz := hxC.frozen
              have hlt := hxC.lt
              have HXb := Lib.hid hxC
              obtain ⟨AC, cC, rfl, _, _⟩ := own_form hownC
              clear hownC hbC hxC))
          | (go_at_call 41
             go_loud
             (refine (HcF.out _ (by first | exact HBw.out | exact HBw.out.drew)).mono ?_
              rintro e wF ⟨vF, rfl, hownF, hbF⟩
              have HoF := Lib.hid (ownsRow_base hownF HL.out.size)
              try have HoC := Lib.hid (ownsRow_only (S := fun _ => False) HoC.out (Only.of_below (by first | exact hbF | exact below_drew hbF : Below _ _ wF)) (fun _ _ h => h))
              have HL := Lib.hid (HL.out.trans ((by first | exact hbF | exact below_drew hbF : Below _ _ wF).mono HL.out.size))
              have HBw := Lib.hid (HBw.out.trans ((by first | exact hbF | exact below_drew hbF : Below _ _ wF).mono HBw.out.size))
              have hxF := HXb.out.below (by first | exact hbF | exact below_drew hbF : Below _ _ wF)
              have x0 := hxF.cell _ _ (acells_c most shm hk13)
              have x1 := hxF.cell _ _ (acells_f most shm hk13)
              rw [HX0.out] at x0
              rw [HX1.out] at x1
              have hfz := hxF.frozen
              have hlt := hxF.lt
              have HXb := Lib.hid hxF
              obtain ⟨AF, cF, rfl, _, _⟩ := own_form hownF
              clear hownF hbF hxF)))
      all_goals
        have HC2 := Lib.hid (HC.out.step hk13 HL.out HoC.out HoF.out)
        clear x0 x1 hfz hlt
        go_wp2_with fail
        go_roundw
        case rel => exact ⟨k + 1, _, by omega, by go_num, HC2.out⟩
        case measure => simp [intOf]; omega
    · obtain rfl : k = 13 := by omega
      go_wp2_with fail
      go_ret
      exact ⟨rfl, HC.out.below, shm, HC.out.done HR.out, fun k hk => HC.out.same k hk hk⟩

end Go.Proofs.Ytookfhmghchkjaa
