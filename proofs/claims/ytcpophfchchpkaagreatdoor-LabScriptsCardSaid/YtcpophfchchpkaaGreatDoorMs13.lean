/- LsS, LsT, LsU, SymCB, SymCQ, SymCR -/
import Derived.Test.YtcpophfchchpkaaGreatDoorMs12
import Derived.Test.YtcpophfchchpkaaGreatDoorMs11
import Derived.Laws.OwnMore
import Derived.Test.YtcpophfchchpkaaGreatDoorMs9
namespace Go.Proofs.YtcpophfchchpkaaGreatDoor
open Go Go.RowKit Go.Maps Go.MapKept Go.Sort
theorem it_info : (Tryz.prog.info? 37).map (fun i => (i.zero, i.size, i.bytes)) = some (some (.agg #[.string ⟨#[]⟩, .slice none 0 0]), 2, 40) := by kernel_rfl
theorem src2 (w : World) (U : TypeId) (a b : Value) : Src (w.alloc (.cells #[a, b] U)) 2 (some ⟨w.heap.size, 0, none⟩) 1 [a, b] := by
  refine ⟨rfl, (fun h => by cases h), fun p ha j u hu => ?_⟩
  cases ha
  rw [add_plain, Nat.zero_add]
  exact (Blk.new w U #[a, b]).cell j u (by simpa using hu)
theorem own_latI {w w' : World} {base : Nat} {e : TypeId} {size : Nat} {v : Value} {n : Nat} {xs : List Value} (h : w.ownsRow base e size v n xs) (hb : Below w.heap.size w w') : w'.ownsRow base e size v n xs :=
  ownsRow_only h (S := fun _ => False) (Only.of_below hb) (fun _ _ h => h)
/-- What the loop of 'with' keeps: W is the world behind the box. -/
structure WiI (W wr : World) (out : Value) (x : ByteArray) (V : Value) (o : List Sc) : Prop where
  box : Blk wr (W.heap.size - 1) 37 #[.string x, V]
  row : wr.ownsRow W.heap.size 37 2 out o.length (its o)
  below : Below W.heap.size W wr
  pos : 1 ≤ W.heap.size
theorem WiI.step {W wr w8 : World} {out out' : Value} {x : ByteArray} {V a b : Value} {o : List Sc} {p : Sc} {row : Option Nat} (h : WiI W wr out x V o) (hp : itc p = [a, b]) (hg : (wr.alloc (.cells #[a, b] 37)).grownBy w8 row) (hr : row = out.ownBlock)
    (ho : w8.ownsRow W.heap.size 37 2 out' (o.length + 1) (its o ++ [a, b])) : WiI W w8 out' x V (o ++ [p]) := by
  subst hr
  have hb : Below W.heap.size W w8 := (h.below.alloc h.below.size _).grown hg (by have := h.below.size; simp; omega) (fun q hq => by
    rcases h.row.2 with ⟨e, _⟩ | ⟨g', cap, cur, e, hg', _⟩
    · rw [e] at hq; cases hq
    · rw [e] at hq
      have hq' : some g' = some q := hq
      injection hq' with hq'
      omega)
  refine ⟨?_, ?_, hb, h.pos⟩
  · exact (hb.block _ (by have := h.pos; omega)).trans ((h.below.block _ (by have := h.pos; omega)).symm.trans h.box)
  · rw [List.length_append, its_app, show its [p] = itc p by simp [its], hp]
    exact ho
theorem WiI.adv {W wr w8 : World} {out : Value} {x : ByteArray} {V : Value} {o : List Sc} (h : WiI W wr out x V o) (hb : Below wr.heap.size wr w8) : WiI W w8 out x V o :=
  ⟨h.box.below hb, own_latI h.row hb, h.below.trans (hb.mono h.below.size), h.pos⟩
/-- The items of 'with', told. -/
def WithRet (x : Sc) (M : List Sc) (w : World) (e : Ending) (w' : World) : Prop := ∃ v, e = .returned v ∧ w'.ownsRow w.heap.size 37 2 v (withS x M).length (its (withS x M)) ∧ Below w.heap.size w w'
theorem fold_len (x : Sc) : ∀ (M : List Sc) (s : Bool × List Sc), (M.foldl (withT x) s).2.length ≤ s.2.length + 2 * M.length
  | [], s => by simp
  | y :: M, s => by
    rw [List.foldl_cons]
    have h1 := fold_len x M (withT x s y)
    have h2 : (withT x s y).2.length ≤ s.2.length + 2 := by
      unfold withT
      dsimp only
      rw [List.length_append]
      split <;> split <;> simp <;> omega
    rw [List.length_cons]; omega
/-- The state of 'with' behind k items. -/
def wiS (x : Sc) (M : List Sc) (k : Nat) : Bool × List Sc := (M.take k).foldl (withT x) (false, [])
theorem wiS_succ {x : Sc} {M : List Sc} {k : Nat} {y : Sc} (h : M[k]? = some y) : wiS x M (k + 1) = withT x (wiS x M k) y := by
  unfold wiS
  rw [List.take_add_one, h, Option.toList_some, List.foldl_append]; rfl
theorem wiS_len {x : Sc} {M : List Sc} {k : Nat} (h : M.length ≤ 1000) : (wiS x M k).2.length ≤ 2000 := by
  have := fold_len x (M.take k) (false, [])
  unfold wiS
  have h2 : (M.take k).length ≤ M.length := by rw [List.length_take]; omega
  simp at this
  omega
set_option maxRecDepth 100000 in
set_option maxHeartbeats 8000000 in
theorem with_any (B : Nat) (v : Value) (ps : List Sc) (x : ByteArray) (d : List UInt8) (V : Value) (w : World) (h : ItsAt w B v ps) (hV : Bts w B 5 V d) (hn : ps.length ≤ 1000) :
    Calls Tryz.prog 28 #[v, .agg #[.string x, V]] w (WithRet (x, d, V) ps w) := by
  obtain ⟨A, cap, rfl, hcl, hcm⟩ := h.slice
  obtain ⟨VA, vc, rfl⟩ := hV.form
  unfold maxLen at hcm
  obtain ⟨i0, hi0, hz0, hz1, hz2⟩ := info_parts it_info
  obtain ⟨dl, hdl⟩ : ∃ dl, d.length = dl := ⟨_, rfl⟩
  rw [hdl] at hV ⊢
  obtain ⟨W, hW⟩ : ∃ W, w.alloc (.cells #[.string x, .slice VA dl vc] 37) = W := ⟨_, rfl⟩
  have hb0 : Below w.heap.size w W := hW ▸ (Below.refl _ _).alloc (Nat.le_refl _) _
  have hsz : W.heap.size = w.heap.size + 1 := by rw [← hW]; simp
  have hg0 : W.heap.size - 1 = w.heap.size := by omega
  have HG0 := Lib.hid hg0
  have HSz := Lib.hid hsz
  have HI := Lib.hid (h.below hb0)
  have HB0 := Lib.hid hb0
  have HW0 : Hid (WiI W W (.slice none 0 0) x (.slice VA dl vc) []) := Lib.hid ⟨by rw [hg0, ← hW]; exact Blk.new _ _ _, World.ownsRow_nil _ _ _ _, Below.refl _ _, by omega⟩
  obtain ⟨n, hn'⟩ : ∃ n, ps.length = n := ⟨_, rfl⟩
  have HN := Lib.hid hn'
  have HN1 := Lib.hid hn
  rw [hn'] at HI hcl hn ⊢
  obtain ⟨gx, hgx⟩ : ∃ gx, w.heap.size = gx := ⟨_, rfl⟩
  rw [hgx] at HG0
  have HGX := Lib.hid hgx
  clear h hV hdl hb0 hsz hg0 hn'
  go_enter Tryz.func28, Tryz.ntmps28
  go_upto_region 3 with fail
  clear hW hgx
  go_wp2_with fail
  go_loopw [5, 6, 7] (fun out dn i wr => ∃ k, k ≤ n ∧ i = .int .i64 k ∧ dn = .bool (wiS (x, d, .slice VA dl vc) ps k).1 ∧ WiI W wr out x (.slice VA dl vc) (wiS (x, d, .slice VA dl vc) ps k).2) (fun _ _ i _ => n - (intOf i).toNat)
  case atStart => exact ⟨0, Nat.zero_le _, rfl, rfl, HW0.out⟩
  case round =>
    obtain ⟨k, hk, rfl, rfl, hI⟩ := hrel
    obtain ⟨D, o, hS, hL⟩ : ∃ D o, wiS (x, d, .slice VA dl vc) ps k = (D, o) ∧ o.length ≤ 2000 := ⟨_, _, rfl, wiS_len HN1.out⟩
    rw [hS] at hI ⊢
    dsimp only at hI ⊢
    have HS := Lib.hid hS
    obtain ⟨OA, oc, rfl, _, _⟩ := own_form hI.row
    obtain ⟨L, hL'⟩ : ∃ L, o.length = L := ⟨_, rfl⟩
    have HLen : Hid (L ≤ 2000) := Lib.hid (by rw [← hL']; exact hL)
    have HRow : Hid (wr.ownsRow W.heap.size 37 2 (.slice OA o.length oc) L (its o)) := Lib.hid (by rw [← hL']; exact hI.row)
    have HLL := Lib.hid hL'
    rw [hL'] at HRow hI ⊢
    have HW := Lib.hid hI
    clear hS hL hI hL'
    have z0 : World.cell? (wr) ⟨gx, 0, none⟩ = some (.string x) := by have := (HW).out.box.cell 0 _ rfl; rw [HG0.out] at this; exact this
    have z1 : World.cell? (wr) ⟨gx, 1, none⟩ = some (.slice VA dl vc) := by have := (HW).out.box.cell 1 _ rfl; rw [HG0.out] at this; exact this
    have z2 : gx < (wr).heap.size := by have := (HW).out.box.lt; rw [HG0.out] at this; exact this
    by_cases hlt : k < n
    · have hltI : (k : Int) < (n : Int) := by omega
      obtain ⟨p, hp⟩ : ∃ p, ps[k]? = some p := ⟨_, List.getElem?_eq_getElem (by rw [HN.out]; exact hlt)⟩
      have HP := Lib.hid hp
      obtain ⟨b, off, rfl, -, -, -⟩ := HI.out.at_ hp
      obtain ⟨b', off', e', -, y0, y1⟩ := (HI.out.below (HW).out.below).at_ HP.out
      injection e' with e'
      injection e' with eb eo
      subst eb eo
      have hv := (HI.out.vals p (List.mem_of_getElem? hp)).form
      obtain ⟨y, u, PV⟩ := p
      try dsimp only at y0 y1 hv
      obtain ⟨PA, pc, rfl⟩ := hv
      obtain ⟨ul, hul⟩ : ∃ ul, u.length = ul := ⟨_, rfl⟩
      rw [hul] at y1 HP
      have he := str_eqb y x
      have hlts := str_lt y x
      have hSt := wiS_succ (x := (x, d, .slice VA dl vc)) HP.out
      rw [HS.out] at hSt
      unfold withT at hSt
      have HU := Lib.hid hul
      clear hp hul
      cases D with
      | true =>
        by_cases e : y = x
        · have HSt : Hid (wiS (x, d, .slice VA dl vc) ps (k + 1) = (true, o)) := Lib.hid (by rw [hSt]; simp [e])
          rw [decide_eq_true e] at he
          clear hSt hlts e
          go_upto_region 6 with fail
          go_quiet (fail)
          have HQ := Lib.hid ((HW).out.adv (⟨rfl, rfl, rfl, Nat.le_refl _, fun _ _ => rfl⟩ : Below (wr).heap.size (wr) (World.drewN (wr) nq)))
          clear z0 z1 z2 y0 y1
          generalize World.drewN _ nq = wq at HQ ⊢
          have z0 : World.cell? (wq) ⟨gx, 0, none⟩ = some (.string x) := by have := (HQ).out.box.cell 0 _ rfl; rw [HG0.out] at this; exact this
          have z1 : World.cell? (wq) ⟨gx, 1, none⟩ = some (.slice VA dl vc) := by have := (HQ).out.box.cell 1 _ rfl; rw [HG0.out] at this; exact this
          have z2 : gx < (wq).heap.size := by have := (HQ).out.box.lt; rw [HG0.out] at this; exact this
          obtain ⟨b', off', e', -, y0, y1⟩ := (HI.out.below (HQ).out.below).at_ HP.out
          injection e' with e'
          injection e' with eb eo
          subst eb eo
          have HRq : Hid (wq.ownsRow W.heap.size 37 2 (.slice OA L oc) L (its o)) := Lib.hid (by have := HQ.out.row; rw [HLL.out] at this; exact this)
          have HB3 := Lib.hid HQ.out.below.size
          go_upto_region 9 with fail
          go_quiet (fail)
          have HP9 := Lib.hid ((HQ).out.adv (⟨rfl, rfl, rfl, Nat.le_refl _, fun _ _ => rfl⟩ : Below (wq).heap.size (wq) (World.drewN (wq) nq)))
          clear z0 z1 z2 y0 y1
          generalize World.drewN _ nq = wp at HP9 ⊢
          have z0 : World.cell? (wp) ⟨gx, 0, none⟩ = some (.string x) := by have := (HP9).out.box.cell 0 _ rfl; rw [HG0.out] at this; exact this
          have z1 : World.cell? (wp) ⟨gx, 1, none⟩ = some (.slice VA dl vc) := by have := (HP9).out.box.cell 1 _ rfl; rw [HG0.out] at this; exact this
          have z2 : gx < (wp).heap.size := by have := (HP9).out.box.lt; rw [HG0.out] at this; exact this
          obtain ⟨b', off', e', -, y0, y1⟩ := (HI.out.below (HP9).out.below).at_ HP.out
          injection e' with e'
          injection e' with eb eo
          subst eb eo
          have HRp : Hid (wp.ownsRow W.heap.size 37 2 (.slice OA L oc) L (its o)) := Lib.hid (by have := HP9.out.row; rw [HLL.out] at this; exact this)
          have HB3 := Lib.hid HP9.out.below.size
          go_wp2_with fail
          have HW8 := HP9
          go_roundw
          case rel => exact ⟨k + 1, by omega, by go_num, by rw [HSt.out], by rw [HSt.out]; exact HW8.out⟩
          case measure => simp [intOf]; omega
        · have HSt : Hid (wiS (x, d, .slice VA dl vc) ps (k + 1) = (true, o ++ [(y, u, .slice PA ul pc)])) := Lib.hid (by rw [hSt]; simp [e])
          rw [decide_eq_false e] at he
          clear hSt hlts e
          go_upto_region 6 with fail
          go_quiet (fail)
          have HQ := Lib.hid ((HW).out.adv (⟨rfl, rfl, rfl, Nat.le_refl _, fun _ _ => rfl⟩ : Below (wr).heap.size (wr) (World.drewN (wr) nq)))
          clear z0 z1 z2 y0 y1
          generalize World.drewN _ nq = wq at HQ ⊢
          have z0 : World.cell? (wq) ⟨gx, 0, none⟩ = some (.string x) := by have := (HQ).out.box.cell 0 _ rfl; rw [HG0.out] at this; exact this
          have z1 : World.cell? (wq) ⟨gx, 1, none⟩ = some (.slice VA dl vc) := by have := (HQ).out.box.cell 1 _ rfl; rw [HG0.out] at this; exact this
          have z2 : gx < (wq).heap.size := by have := (HQ).out.box.lt; rw [HG0.out] at this; exact this
          obtain ⟨b', off', e', -, y0, y1⟩ := (HI.out.below (HQ).out.below).at_ HP.out
          injection e' with e'
          injection e' with eb eo
          subst eb eo
          have HRq : Hid (wq.ownsRow W.heap.size 37 2 (.slice OA L oc) L (its o)) := Lib.hid (by have := HQ.out.row; rw [HLL.out] at this; exact this)
          have HB3 := Lib.hid HQ.out.below.size
          go_upto_region 9 with fail
          go_quiet (fail)
          have HP9 := Lib.hid ((HQ).out.adv (⟨rfl, rfl, rfl, Nat.le_refl _, fun _ _ => rfl⟩ : Below (wq).heap.size (wq) (World.drewN (wq) nq)))
          clear z0 z1 z2 y0 y1
          generalize World.drewN _ nq = wp at HP9 ⊢
          have z0 : World.cell? (wp) ⟨gx, 0, none⟩ = some (.string x) := by have := (HP9).out.box.cell 0 _ rfl; rw [HG0.out] at this; exact this
          have z1 : World.cell? (wp) ⟨gx, 1, none⟩ = some (.slice VA dl vc) := by have := (HP9).out.box.cell 1 _ rfl; rw [HG0.out] at this; exact this
          have z2 : gx < (wp).heap.size := by have := (HP9).out.box.lt; rw [HG0.out] at this; exact this
          obtain ⟨b', off', e', -, y0, y1⟩ := (HI.out.below (HP9).out.below).at_ HP.out
          injection e' with e'
          injection e' with eb eo
          subst eb eo
          have HRp : Hid (wp.ownsRow W.heap.size 37 2 (.slice OA L oc) L (its o)) := Lib.hid (by have := HP9.out.row; rw [HLL.out] at this; exact this)
          have HB3 := Lib.hid HP9.out.below.size
          go_wp2_with (at_builtin; refine wpList_append_src _ rfl _ _ _ rfl W.heap.size 37 i0 _ 2 40 Tryz.underlying33 hi0 hz0 hz1 hz2 rfl (by decide) _ L (its o) rfl (own_latI (HRp).out ((Below.refl _ _).alloc (Nat.le_refl _) _)) (some ⟨(wp).heap.size, 0, none⟩) 1 1 [.string y, .slice PA ul pc] rfl (src2 _ _ _ _) (by intro u hu; simp only [List.mem_cons, List.not_mem_nil, or_false] at hu; rcases hu with rfl | rfl <;> rfl) (by have := HLen.out; unfold maxLen; omega) (by have := HLen.out; omega) (by have := HB3.out; simp; omega) ?_; intro v8 w8 hown8 hg8 hat8)
          have HW8 := Lib.hid (HP9.out.step (p := (y, u, .slice PA ul pc)) rfl hg8 rfl (by rw [HLL.out]; exact hown8))
          clear hown8 hg8 hat8
          go_roundw
          case rel => exact ⟨k + 1, by omega, by go_num, by rw [HSt.out], by rw [HSt.out]; exact HW8.out⟩
          case measure => simp [intOf]; omega
      | false =>
        by_cases hl : nlt y x
        · have e : y ≠ x := fun e => nlt_irrefl x (by rw [e] at hl; exact hl)
          have HSt : Hid (wiS (x, d, .slice VA dl vc) ps (k + 1) = (false, o ++ [(y, u, .slice PA ul pc)])) := Lib.hid (by rw [hSt]; simp [e, hl, nlt_irrefl])
          rw [decide_eq_false e] at he
          rw [decide_eq_true hl] at hlts
          clear hSt e hl
          go_upto_region 6 with fail
          go_quiet (fail)
          have HQ := Lib.hid ((HW).out.adv (⟨rfl, rfl, rfl, Nat.le_refl _, fun _ _ => rfl⟩ : Below (wr).heap.size (wr) (World.drewN (wr) nq)))
          clear z0 z1 z2 y0 y1
          generalize World.drewN _ nq = wq at HQ ⊢
          have z0 : World.cell? (wq) ⟨gx, 0, none⟩ = some (.string x) := by have := (HQ).out.box.cell 0 _ rfl; rw [HG0.out] at this; exact this
          have z1 : World.cell? (wq) ⟨gx, 1, none⟩ = some (.slice VA dl vc) := by have := (HQ).out.box.cell 1 _ rfl; rw [HG0.out] at this; exact this
          have z2 : gx < (wq).heap.size := by have := (HQ).out.box.lt; rw [HG0.out] at this; exact this
          obtain ⟨b', off', e', -, y0, y1⟩ := (HI.out.below (HQ).out.below).at_ HP.out
          injection e' with e'
          injection e' with eb eo
          subst eb eo
          have HRq : Hid (wq.ownsRow W.heap.size 37 2 (.slice OA L oc) L (its o)) := Lib.hid (by have := HQ.out.row; rw [HLL.out] at this; exact this)
          have HB3 := Lib.hid HQ.out.below.size
          go_upto_region 9 with fail
          go_quiet (fail)
          have HP9 := Lib.hid ((HQ).out.adv (⟨rfl, rfl, rfl, Nat.le_refl _, fun _ _ => rfl⟩ : Below (wq).heap.size (wq) (World.drewN (wq) nq)))
          clear z0 z1 z2 y0 y1
          generalize World.drewN _ nq = wp at HP9 ⊢
          have z0 : World.cell? (wp) ⟨gx, 0, none⟩ = some (.string x) := by have := (HP9).out.box.cell 0 _ rfl; rw [HG0.out] at this; exact this
          have z1 : World.cell? (wp) ⟨gx, 1, none⟩ = some (.slice VA dl vc) := by have := (HP9).out.box.cell 1 _ rfl; rw [HG0.out] at this; exact this
          have z2 : gx < (wp).heap.size := by have := (HP9).out.box.lt; rw [HG0.out] at this; exact this
          obtain ⟨b', off', e', -, y0, y1⟩ := (HI.out.below (HP9).out.below).at_ HP.out
          injection e' with e'
          injection e' with eb eo
          subst eb eo
          have HRp : Hid (wp.ownsRow W.heap.size 37 2 (.slice OA L oc) L (its o)) := Lib.hid (by have := HP9.out.row; rw [HLL.out] at this; exact this)
          have HB3 := Lib.hid HP9.out.below.size
          go_wp2_with (at_builtin; refine wpList_append_src _ rfl _ _ _ rfl W.heap.size 37 i0 _ 2 40 Tryz.underlying33 hi0 hz0 hz1 hz2 rfl (by decide) _ L (its o) rfl (own_latI (HRp).out ((Below.refl _ _).alloc (Nat.le_refl _) _)) (some ⟨(wp).heap.size, 0, none⟩) 1 1 [.string y, .slice PA ul pc] rfl (src2 _ _ _ _) (by intro u hu; simp only [List.mem_cons, List.not_mem_nil, or_false] at hu; rcases hu with rfl | rfl <;> rfl) (by have := HLen.out; unfold maxLen; omega) (by have := HLen.out; omega) (by have := HB3.out; simp; omega) ?_; intro v8 w8 hown8 hg8 hat8)
          have HW8 := Lib.hid (HP9.out.step (p := (y, u, .slice PA ul pc)) rfl hg8 rfl (by rw [HLL.out]; exact hown8))
          clear hown8 hg8 hat8
          go_roundw
          case rel => exact ⟨k + 1, by omega, by go_num, by rw [HSt.out], by rw [HSt.out]; exact HW8.out⟩
          case measure => simp [intOf]; omega
        · rw [decide_eq_false hl] at hlts
          by_cases e : y = x
          · have HSt : Hid (wiS (x, d, .slice VA dl vc) ps (k + 1) = (true, o ++ [(x, d, .slice VA dl vc)])) := Lib.hid (by rw [hSt]; simp [e, hl, nlt_irrefl])
            rw [decide_eq_true e] at he
            clear hSt hl e
            go_upto_region 6 with fail
            go_quiet (fail)
            have HQ := Lib.hid ((HW).out.adv (⟨rfl, rfl, rfl, Nat.le_refl _, fun _ _ => rfl⟩ : Below (wr).heap.size (wr) (World.drewN (wr) nq)))
            clear z0 z1 z2 y0 y1
            generalize World.drewN _ nq = wq at HQ ⊢
            have z0 : World.cell? (wq) ⟨gx, 0, none⟩ = some (.string x) := by have := (HQ).out.box.cell 0 _ rfl; rw [HG0.out] at this; exact this
            have z1 : World.cell? (wq) ⟨gx, 1, none⟩ = some (.slice VA dl vc) := by have := (HQ).out.box.cell 1 _ rfl; rw [HG0.out] at this; exact this
            have z2 : gx < (wq).heap.size := by have := (HQ).out.box.lt; rw [HG0.out] at this; exact this
            obtain ⟨b', off', e', -, y0, y1⟩ := (HI.out.below (HQ).out.below).at_ HP.out
            injection e' with e'
            injection e' with eb eo
            subst eb eo
            have HRq : Hid (wq.ownsRow W.heap.size 37 2 (.slice OA L oc) L (its o)) := Lib.hid (by have := HQ.out.row; rw [HLL.out] at this; exact this)
            have HB3 := Lib.hid HQ.out.below.size
            go_upto_region 9 with (at_builtin; refine wpList_append_src _ rfl _ _ _ rfl W.heap.size 37 i0 _ 2 40 Tryz.underlying33 hi0 hz0 hz1 hz2 rfl (by decide) _ L (its o) rfl (own_latI (HRq).out ((Below.refl _ _).alloc (Nat.le_refl _) _)) (some ⟨(wq).heap.size, 0, none⟩) 1 1 [.string x, .slice VA dl vc] rfl (src2 _ _ _ _) (by intro u hu; simp only [List.mem_cons, List.not_mem_nil, or_false] at hu; rcases hu with rfl | rfl <;> rfl) (by have := HLen.out; unfold maxLen; omega) (by have := HLen.out; omega) (by have := HB3.out; simp; omega) ?_; intro v8 w8 hown8 hg8 hat8)
            have HX8 := Lib.hid (HQ.out.step (p := (x, d, .slice VA dl vc)) rfl hg8 rfl (by rw [HLL.out]; exact hown8))
            clear hown8 hg8 hat8 z0 z1 z2 y0 y1
            have z0 : World.cell? (w8) ⟨gx, 0, none⟩ = some (.string x) := by have := (HX8).out.box.cell 0 _ rfl; rw [HG0.out] at this; exact this
            have z1 : World.cell? (w8) ⟨gx, 1, none⟩ = some (.slice VA dl vc) := by have := (HX8).out.box.cell 1 _ rfl; rw [HG0.out] at this; exact this
            have z2 : gx < (w8).heap.size := by have := (HX8).out.box.lt; rw [HG0.out] at this; exact this
            obtain ⟨b', off', e', -, y0, y1⟩ := (HI.out.below (HX8).out.below).at_ HP.out
            injection e' with e'
            injection e' with eb eo
            subst eb eo
            obtain ⟨o8, ho8⟩ : ∃ o8, o ++ [(x, d, .slice VA dl vc)] = o8 := ⟨_, rfl⟩
            have HL8 : Hid (o8.length = L + 1) := Lib.hid (by rw [← ho8, List.length_append, HLL.out]; rfl)
            rw [ho8] at HX8 HSt
            clear ho8
            obtain ⟨O8, c8, rfl, _, _⟩ := own_form HX8.out.row
            have hx8 := HX8.out
            rw [HL8.out] at hx8 ⊢
            clear HX8
            have HX8 := Lib.hid hx8
            clear hx8
            go_quiet (fail)
            have HW8 := Lib.hid ((HX8).out.adv (⟨rfl, rfl, rfl, Nat.le_refl _, fun _ _ => rfl⟩ : Below (w8).heap.size (w8) (World.drewN (w8) nq)))
            clear z0 z1 z2 y0 y1
            generalize World.drewN _ nq = wp at HW8 ⊢
            have z0 : World.cell? (wp) ⟨gx, 0, none⟩ = some (.string x) := by have := (HW8).out.box.cell 0 _ rfl; rw [HG0.out] at this; exact this
            have z1 : World.cell? (wp) ⟨gx, 1, none⟩ = some (.slice VA dl vc) := by have := (HW8).out.box.cell 1 _ rfl; rw [HG0.out] at this; exact this
            have z2 : gx < (wp).heap.size := by have := (HW8).out.box.lt; rw [HG0.out] at this; exact this
            obtain ⟨b', off', e', -, y0, y1⟩ := (HI.out.below (HW8).out.below).at_ HP.out
            injection e' with e'
            injection e' with eb eo
            subst eb eo
            go_wp2_with fail
            go_roundw
            case rel => exact ⟨k + 1, by omega, by go_num, by rw [HSt.out], by rw [HSt.out]; exact HW8.out⟩
            case measure => simp [intOf]; omega
          · have HSt : Hid (wiS (x, d, .slice VA dl vc) ps (k + 1) = (true, o ++ [(x, d, .slice VA dl vc)] ++ [(y, u, .slice PA ul pc)])) := Lib.hid (by rw [hSt]; simp [e, hl, nlt_irrefl])
            rw [decide_eq_false e] at he
            clear hSt hl e
            go_upto_region 6 with fail
            go_quiet (fail)
            have HQ := Lib.hid ((HW).out.adv (⟨rfl, rfl, rfl, Nat.le_refl _, fun _ _ => rfl⟩ : Below (wr).heap.size (wr) (World.drewN (wr) nq)))
            clear z0 z1 z2 y0 y1
            generalize World.drewN _ nq = wq at HQ ⊢
            have z0 : World.cell? (wq) ⟨gx, 0, none⟩ = some (.string x) := by have := (HQ).out.box.cell 0 _ rfl; rw [HG0.out] at this; exact this
            have z1 : World.cell? (wq) ⟨gx, 1, none⟩ = some (.slice VA dl vc) := by have := (HQ).out.box.cell 1 _ rfl; rw [HG0.out] at this; exact this
            have z2 : gx < (wq).heap.size := by have := (HQ).out.box.lt; rw [HG0.out] at this; exact this
            obtain ⟨b', off', e', -, y0, y1⟩ := (HI.out.below (HQ).out.below).at_ HP.out
            injection e' with e'
            injection e' with eb eo
            subst eb eo
            have HRq : Hid (wq.ownsRow W.heap.size 37 2 (.slice OA L oc) L (its o)) := Lib.hid (by have := HQ.out.row; rw [HLL.out] at this; exact this)
            have HB3 := Lib.hid HQ.out.below.size
            go_upto_region 9 with (at_builtin; refine wpList_append_src _ rfl _ _ _ rfl W.heap.size 37 i0 _ 2 40 Tryz.underlying33 hi0 hz0 hz1 hz2 rfl (by decide) _ L (its o) rfl (own_latI (HRq).out ((Below.refl _ _).alloc (Nat.le_refl _) _)) (some ⟨(wq).heap.size, 0, none⟩) 1 1 [.string x, .slice VA dl vc] rfl (src2 _ _ _ _) (by intro u hu; simp only [List.mem_cons, List.not_mem_nil, or_false] at hu; rcases hu with rfl | rfl <;> rfl) (by have := HLen.out; unfold maxLen; omega) (by have := HLen.out; omega) (by have := HB3.out; simp; omega) ?_; intro v8 w8 hown8 hg8 hat8)
            have HX8 := Lib.hid (HQ.out.step (p := (x, d, .slice VA dl vc)) rfl hg8 rfl (by rw [HLL.out]; exact hown8))
            clear hown8 hg8 hat8 z0 z1 z2 y0 y1
            have z0 : World.cell? (w8) ⟨gx, 0, none⟩ = some (.string x) := by have := (HX8).out.box.cell 0 _ rfl; rw [HG0.out] at this; exact this
            have z1 : World.cell? (w8) ⟨gx, 1, none⟩ = some (.slice VA dl vc) := by have := (HX8).out.box.cell 1 _ rfl; rw [HG0.out] at this; exact this
            have z2 : gx < (w8).heap.size := by have := (HX8).out.box.lt; rw [HG0.out] at this; exact this
            obtain ⟨b', off', e', -, y0, y1⟩ := (HI.out.below (HX8).out.below).at_ HP.out
            injection e' with e'
            injection e' with eb eo
            subst eb eo
            obtain ⟨o8, ho8⟩ : ∃ o8, o ++ [(x, d, .slice VA dl vc)] = o8 := ⟨_, rfl⟩
            have HL8 : Hid (o8.length = L + 1) := Lib.hid (by rw [← ho8, List.length_append, HLL.out]; rfl)
            rw [ho8] at HX8 HSt
            clear ho8
            obtain ⟨O8, c8, rfl, _, _⟩ := own_form HX8.out.row
            have hx8 := HX8.out
            rw [HL8.out] at hx8 ⊢
            clear HX8
            have HX8 := Lib.hid hx8
            clear hx8
            go_quiet (fail)
            have HP9 := Lib.hid ((HX8).out.adv (⟨rfl, rfl, rfl, Nat.le_refl _, fun _ _ => rfl⟩ : Below (w8).heap.size (w8) (World.drewN (w8) nq)))
            clear z0 z1 z2 y0 y1
            generalize World.drewN _ nq = wp at HP9 ⊢
            have z0 : World.cell? (wp) ⟨gx, 0, none⟩ = some (.string x) := by have := (HP9).out.box.cell 0 _ rfl; rw [HG0.out] at this; exact this
            have z1 : World.cell? (wp) ⟨gx, 1, none⟩ = some (.slice VA dl vc) := by have := (HP9).out.box.cell 1 _ rfl; rw [HG0.out] at this; exact this
            have z2 : gx < (wp).heap.size := by have := (HP9).out.box.lt; rw [HG0.out] at this; exact this
            obtain ⟨b', off', e', -, y0, y1⟩ := (HI.out.below (HP9).out.below).at_ HP.out
            injection e' with e'
            injection e' with eb eo
            subst eb eo
            have HRp : Hid (wp.ownsRow W.heap.size 37 2 (.slice O8 (L + 1) c8) (L + 1) (its o8)) := Lib.hid (by have := HP9.out.row; rw [HL8.out] at this; exact this)
            have HB3 := Lib.hid HP9.out.below.size
            go_wp2_with (at_builtin; refine wpList_append_src _ rfl _ _ _ rfl W.heap.size 37 i0 _ 2 40 Tryz.underlying33 hi0 hz0 hz1 hz2 rfl (by decide) _ (L + 1) (its o8) rfl (own_latI (HRp).out ((Below.refl _ _).alloc (Nat.le_refl _) _)) (some ⟨(wp).heap.size, 0, none⟩) 1 1 [.string y, .slice PA ul pc] rfl (src2 _ _ _ _) (by intro u hu; simp only [List.mem_cons, List.not_mem_nil, or_false] at hu; rcases hu with rfl | rfl <;> rfl) (by have := HLen.out; unfold maxLen; omega) (by have := HLen.out; omega) (by have := HB3.out; simp; omega) ?_; intro v8 w8 hown8 hg8 hat8)
            have HW8 := Lib.hid (HP9.out.step (p := (y, u, .slice PA ul pc)) rfl hg8 rfl (by rw [HL8.out]; exact hown8))
            clear hown8 hg8 hat8
            go_roundw
            case rel => exact ⟨k + 1, by omega, by go_num, by rw [HSt.out], by rw [HSt.out]; exact HW8.out⟩
            case measure => simp [intOf]; omega
    · obtain rfl : k = n := by omega
      have hall : wiS (x, d, .slice VA dl vc) ps k = ps.foldl (withT (x, d, .slice VA dl vc)) (false, []) := by
        unfold wiS
        rw [← HN.out, List.take_length]
      rw [HS.out] at hall
      have HB3 := Lib.hid HW.out.below.size
      cases D with
      | true =>
        have HSt : Hid (withS (x, d, .slice VA dl vc) ps = o) := Lib.hid (by unfold withS; rw [← hall]; rfl)
        clear hall
        go_wp2_with fail
        go_ret
        refine ⟨_, rfl, ?_, HB0.out.trans (HW.out.below.mono HB0.out.size)⟩
        rw [HSt.out, HLL.out]
        exact ownsRow_base HRow.out (by have := HSz.out; omega)
      | false =>
        have HSt : Hid (withS (x, d, .slice VA dl vc) ps = o ++ [(x, d, .slice VA dl vc)]) := Lib.hid (by unfold withS; rw [← hall]; rfl)
        clear hall
        go_wp2_with (at_builtin; refine wpList_append_src _ rfl _ _ _ rfl W.heap.size 37 i0 _ 2 40 Tryz.underlying33 hi0 hz0 hz1 hz2 rfl (by decide) _ L (its o) rfl (own_latI HRow.out ((Below.refl _ _).alloc (Nat.le_refl _) _)) (some ⟨wr.heap.size, 0, none⟩) 1 1 [.string x, .slice VA dl vc] rfl (src2 _ _ _ _) (by intro u hu; simp only [List.mem_cons, List.not_mem_nil, or_false] at hu; rcases hu with rfl | rfl <;> rfl) (by have := HLen.out; unfold maxLen; omega) (by have := HLen.out; omega) (by have := HB3.out; simp; omega) ?_; intro v8 w8 hown8 hg8 hat8)
        have HW8 := Lib.hid (HW.out.step (p := (x, d, .slice VA dl vc)) rfl hg8 rfl (by rw [HLL.out]; exact hown8))
        clear hown8 hg8 hat8
        go_ret
        refine ⟨_, rfl, ?_, HB0.out.trans (HW8.out.below.mono HB0.out.size)⟩
        rw [HSt.out]
        exact ownsRow_base HW8.out.row (by have := HSz.out; omega)
end Go.Proofs.YtcpophfchchpkaaGreatDoor
namespace Go.Proofs.YtcpophfchchpkaaGreatDoor
open Go Go.RowKit Go.Maps Go.MapKept Go.Sort
def missB (M : List Sc) (k : ByteArray) : Bool := M.all fun p => decide (p.1 ≠ k)
theorem FindI.cases {M : List Sc} {k : ByteArray} {r : Int} (h : FindI M k r) : (r = -1 ∧ missB M k = true) ∨ (0 ≤ r ∧ missB M k = false) := by
  rcases h with ⟨rfl, h⟩ | ⟨i, p, rfl, h, h2⟩
  · exact .inl ⟨rfl, List.all_eq_true.2 (fun p hp => by simpa using h p hp)⟩
  · refine .inr ⟨by omega, List.all_eq_false.2 ⟨p, List.mem_of_getElem? h, by simpa using h2⟩⟩
/-- The error of the law's put. -/
def putM (M : List Sc) (k : ByteArray) (d : List UInt8) : Int := if nameOk k = true then (if 4096 < d.length then 5 else if (missB M k && decide (50 ≤ M.length)) = true then 7 else 0) else 2
theorem LM.miss {X M : List Sc} (h : LM X M) (k : ByteArray) : (scG X k).isNone = missB M k := by
  cases hm : missB M k with
  | true =>
    have h2 : ∀ p ∈ M, p.1 ≠ k := fun p hp => by simpa using List.all_eq_true.1 hm p hp
    rw [h.no h2]; rfl
  | false =>
    obtain ⟨p, hp, e⟩ := List.all_eq_false.1 hm
    have e : p.1 = k := by simpa using e
    obtain ⟨u, hu⟩ := h.yes hp
    rw [← e, hu]; rfl
theorem LM.put_eq {X M : List Sc} (h : LM X M) (k : ByteArray) (d : List UInt8) : putE X k d = putM M k d := by
  unfold putE putM fullB
  rw [h.miss, h.len]
theorem withS_mem {x : Sc} {M : List Sc} {p : Sc} (h : p ∈ withS x M) : p = x ∨ p ∈ M := by
  have key : ∀ (M : List Sc) (s : Bool × List Sc), ∀ p ∈ (M.foldl (withT x) s).2, p = x ∨ p ∈ M ∨ p ∈ s.2 := by
    intro M
    induction M with
    | nil => intro s p hp; exact .inr (.inr hp)
    | cons y M ih =>
      intro s p hp
      rw [List.foldl_cons] at hp
      rcases ih _ p hp with h | h | h
      · exact .inl h
      · exact .inr (.inl (List.mem_cons_of_mem _ h))
      · unfold withT at h
        dsimp only at h
        rcases List.mem_append.1 h with h | h
        · split at h
          · rcases List.mem_append.1 h with h | h
            · exact .inr (.inr h)
            · exact .inl (List.mem_singleton.1 h)
          · exact .inr (.inr h)
        · split at h
          · cases h
          · rw [List.mem_singleton.1 h]; exact .inr (.inl List.mem_cons_self)
  unfold withS at h
  have fin : ∀ p ∈ (M.foldl (withT x) (false, [])).2, p = x ∨ p ∈ M := fun p hp => by
    rcases key M _ p hp with h | h | h
    · exact .inl h
    · exact .inr h
    · cases h
  split at h
  · exact fin p h
  · rcases List.mem_append.1 h with h | h
    · exact fin p h
    · exact .inl (List.mem_singleton.1 h)
/-- The law's put, told. -/
def LPut (B : Nat) (M : List Sc) (x : Sc) (w : World) (e : Ending) (w' : World) : Prop :=
  ∃ v M', e = .returned (.tuple #[v, .int .i64 (putM M x.1 x.2.1)]) ∧ ItsAt w' B v M' ∧ Below w.heap.size w w' ∧ ((putM M x.1 x.2.1 = 0 ∧ M' = withS x M) ∨ (putM M x.1 x.2.1 ≠ 0 ∧ M' = M))
set_option maxRecDepth 100000 in
set_option maxHeartbeats 4000000 in
theorem lput_any (B : Nat) (v : Value) (M : List Sc) (x : ByteArray) (d : List UInt8) (V : Value) (w : World) (h : ItsAt w B v M) (hV : Bts w B 5 V d) (hn : M.length ≤ 1000) (hx : x.size ≤ maxLen) :
    Calls Tryz.prog 10 #[v, .agg #[.string x, V]] w (LPut B M (x, d, V) w) := by
  obtain ⟨A, cap, rfl, hcl, hcm⟩ := h.slice
  obtain ⟨VA, vc, rfl⟩ := hV.form
  have hdle := hV.le
  unfold maxLen at hcm hdle
  obtain ⟨W, hW⟩ : ∃ W, w.alloc (.cells #[.string x, .slice VA d.length vc] 37) = W := ⟨_, rfl⟩
  have hb0 : Below w.heap.size w W := hW ▸ (Below.refl _ _).alloc (Nat.le_refl _) _
  have hbk : Blk W w.heap.size 37 #[.string x, .slice VA d.length vc] := hW ▸ Blk.new _ _ _
  have hI := h.below hb0
  have HI := Lib.hid hI
  have HB0 := Lib.hid hb0
  have HN := Lib.hid (fun W => validName_any x W hx)
  have HFi := Lib.hid (find_any B _ M x W hI)
  have HWi := Lib.hid (with_any B _ M x d _ W hI (hV.below hb0) hn)
  have HVa := Lib.hid (hV.below hb0)
  have z0 := hbk.cell 0 _ rfl
  have z1 := hbk.cell 1 _ rfl
  have z2 := hbk.lt
  obtain ⟨gx, hgx⟩ : ∃ gx, w.heap.size = gx := ⟨_, rfl⟩
  rw [hgx] at z0 z1 z2
  clear h hV hb0 hbk hI
  cases hnk : nameOk x with
  | false =>
    rw [hnk] at HN
    have HE : Hid (putM M x d = 2) := Lib.hid (by unfold putM; rw [hnk]; rfl)
    clear hnk HFi HWi
    go_enter Tryz.func10, Tryz.ntmps10
    go_upto_region 1 with fail
    clear hW hgx
    go_wp2_with fail
    refine (HN.out _).mono ?_
    rintro e w1 ⟨rfl, rfl⟩
    go_wp2_with fail
    go_ret2
    exact ⟨_, M, by rw [HE.out]; rfl, HI.out, HB0.out, .inr ⟨by rw [HE.out]; decide, rfl⟩⟩
  | true =>
    rw [hnk] at HN
    by_cases hl : 4096 < d.length
    · have hlI : (4096 : Int) < (d.length : Int) := by omega
      have HE : Hid (putM M x d = 5) := Lib.hid (by unfold putM; rw [hnk, if_pos rfl, if_pos hl])
      clear hnk HFi HWi
      go_enter Tryz.func10, Tryz.ntmps10
      go_upto_region 1 with fail
      clear hW hgx
      go_wp2_with fail
      refine (HN.out _).mono ?_
      rintro e w1 ⟨rfl, rfl⟩
      go_wp2_with fail
      go_ret2
      exact ⟨_, M, by rw [HE.out]; rfl, HI.out, HB0.out, .inr ⟨by rw [HE.out]; decide, rfl⟩⟩
    · have hlI : ¬ (4096 : Int) < (d.length : Int) := by omega
      have HE1 : Hid (putM M x d = if (missB M x && decide (50 ≤ M.length)) = true then 7 else 0) := Lib.hid (by unfold putM; rw [hnk, if_pos rfl, if_neg hl])
      clear hnk
      go_enter Tryz.func10, Tryz.ntmps10
      go_upto_region 1 with fail
      clear hW hgx
      go_wp2_with fail
      refine (HN.out _).mono ?_
      rintro e w1 ⟨rfl, rfl⟩
      go_wp2_with fail
      refine HFi.out.mono ?_
      rintro e w1 ⟨r, rfl, hf, rfl⟩
      rcases hf.cases with ⟨rfl, hm⟩ | ⟨h0, hm⟩
      · by_cases h50 : 50 ≤ M.length
        · have hI50 : (50 : Int) ≤ (M.length : Int) := by omega
          have HE : Hid (putM M x d = 7) := Lib.hid (by rw [HE1.out, hm, decide_eq_true h50]; rfl)
          clear hf hm HE1
          go_wp2_with fail
          go_ret2
          exact ⟨_, M, by rw [HE.out]; rfl, HI.out, HB0.out, .inr ⟨by rw [HE.out]; decide, rfl⟩⟩
        · have hI50 : ¬ (50 : Int) ≤ (M.length : Int) := by omega
          have HE : Hid (putM M x d = 0) := Lib.hid (by rw [HE1.out, hm, decide_eq_false h50]; rfl)
          clear hf hm HE1
          go_wp2_with fail
          refine HWi.out.mono ?_
          rintro e w2 ⟨v2, rfl, hrow, hb2⟩
          have HI2 := Lib.hid (ItsAt.of_own hrow (B := B) (fun p hp => by
            rcases withS_mem hp with e | e
            · rw [e]; exact HVa.out.below hb2
            · exact (HI.out.vals p e).below hb2))
          have HB2 := Lib.hid (HB0.out.trans (hb2.mono HB0.out.size))
          clear hrow hb2
          go_wp2_with fail
          go_ret2
          exact ⟨v2, _, by rw [HE.out]; rfl, HI2.out, HB2.out, .inl ⟨HE.out, rfl⟩⟩
      · have hr : ¬ r < 0 := by omega
        have HE : Hid (putM M x d = 0) := Lib.hid (by rw [HE1.out, hm]; rfl)
        clear hf hm HE1
        go_wp2_with fail
        refine HWi.out.mono ?_
        rintro e w2 ⟨v2, rfl, hrow, hb2⟩
        have HI2 := Lib.hid (ItsAt.of_own hrow (B := B) (fun p hp => by
          rcases withS_mem hp with e | e
          · rw [e]; exact HVa.out.below hb2
          · exact (HI.out.vals p e).below hb2))
        have HB2 := Lib.hid (HB0.out.trans (hb2.mono HB0.out.size))
        clear hrow hb2
        go_wp2_with fail
        go_ret2
        exact ⟨v2, _, by rw [HE.out]; rfl, HI2.out, HB2.out, .inl ⟨HE.out, rfl⟩⟩
end Go.Proofs.YtcpophfchchpkaaGreatDoor
namespace Go.Proofs.YtcpophfchchpkaaGreatDoor
open Go Go.RowKit Go.Maps Go.MapKept Go.Sort
theorem encStr_name (k : ByteArray) : encStr k.data.toList = .string k := by
  unfold encStr
  congr 1
/-- What is read when a script is held against the list. -/
structure HaS (W : World) (ng k ab ao : Nat) (x : ByteArray) (d : List UInt8) (GA VA : Option Addr) (gc vc : Nat) : Prop where
  y0 : W.cell? ⟨ab, ao + k * 2, none⟩ = some (.string x)
  y1 : W.cell? ⟨ab, ao + k * 2 + 1, none⟩ = some (.slice VA d.length vc)
  nm : W.cell? ⟨ng, k, none⟩ = some (.string x)
  c1 : (convert 29 9 (.slice GA d.length gc)).run Tryz.prog W = .ok (.string ⟨d.toArray⟩) W
  c2 : (convert 29 9 (.slice VA d.length vc)).run Tryz.prog W = .ok (.string ⟨d.toArray⟩) W
set_option maxRecDepth 100000 in
set_option maxHeartbeats 8000000 in
theorem has_any (B b : Nat) (m : Option Nat) (X M : List Sc) (v : Value) (w : World) (h : LRep w b m X) (hM : ItsAt w B v M) (hL : LM X M) (hn : M.length ≤ 1000) (hk : ∀ p ∈ M, p.1.size ≤ maxLen) (hd : ∀ p ∈ M, p.2.1.length ≤ 4096) :
    Calls Tryz.prog 14 #[.pointer (some ⟨b, 0, none⟩), v] w fun e w' => e = .returned (.bool true) ∧ Below w.heap.size w w' := by
  obtain ⟨A, cap, rfl, hcl, hcm⟩ := hM.slice
  unfold maxLen at hcm
  have hNm := names_lab b m X w h (by rw [hL.len]; exact hn)
  rw [hL.names, List.map_map, List.length_map] at hNm
  have hmap : (encStr ∘ fun x : Sc => x.1.data.toList) = fun x : Sc => Value.string x.1 := by funext x; exact encStr_name x.1
  rw [hmap] at hNm
  have HNm := Lib.hid hNm
  have HL := Lib.hid hL
  have HR := Lib.hid h
  have HM := Lib.hid hM
  have HK := Lib.hid hk
  have HD := Lib.hid hd
  obtain ⟨n, hn'⟩ : ∃ n, M.length = n := ⟨_, rfl⟩
  have HN := Lib.hid hn'
  rw [hn'] at HNm HM hcl hn ⊢
  clear h hM hL hk hd hNm hmap hn'
  go_enter Tryz.func14, Tryz.ntmps14
  go_wp2_with fail
  refine HNm.out.mono ?_
  rintro e w1 ⟨nv, rfl, hrow, hb1⟩
  obtain ⟨NA, nc, rfl, hnc1, hnc2⟩ := own_form hrow
  unfold maxLen at hnc2
  have HRow := Lib.hid hrow
  have HB1 := Lib.hid hb1
  have HR1 := Lib.hid (HR.out.below hb1)
  have HM1 := Lib.hid (HM.out.below hb1)
  clear hrow hb1 HNm HR HM
  go_wp2_with fail
  go_loopw [6, 7, 8, 9] (fun i _ _ _ wr => ∃ k, k ≤ n ∧ i = .int .i64 k ∧ Below w1.heap.size w1 wr) (fun i _ _ _ _ => n - (intOf i).toNat)
  case atStart => exact ⟨0, Nat.zero_le _, rfl, Below.refl _ _⟩
  case round =>
    obtain ⟨k, hk, rfl, hb⟩ := hrel
    have HB := Lib.hid hb
    clear hb
    by_cases hlt : k < n
    · have hltI : (k : Int) < (n : Int) := by omega
      obtain ⟨p, hp⟩ : ∃ p, M[k]? = some p := ⟨_, List.getElem?_eq_getElem (by rw [HN.out]; exact hlt)⟩
      have hpm := List.mem_of_getElem? hp
      obtain ⟨ab, ao, rfl, hab, y0, y1⟩ := (HM1.out.below HB.out).at_ hp
      have hG := get_any b m X p.1 wr (HR1.out.below HB.out) (HK.out p hpm)
      obtain ⟨us, hus⟩ := HL.out.yes hpm
      rw [hus] at hG
      have hG' : Calls Tryz.prog 12 #[.pointer (some ⟨b, 0, none⟩), .string p.1] wr fun e w' => ∃ v, e = .returned (.tuple #[v, .int .i64 0]) ∧ w'.ownsRow wr.heap.size 5 1 v p.2.1.length (bcells p.2.1) ∧ Below wr.heap.size wr w' := hG
      have HG := Lib.hid hG'
      have hdl := HD.out p hpm
      have HP := Lib.hid hp
      have HPM := Lib.hid hpm
      obtain ⟨x, d, V⟩ := p
      dsimp only at y0 y1 HG hdl
      obtain ⟨VA, vc, hV⟩ := ((HM1.out.below HB.out).vals _ HPM.out).form
      dsimp only at hV
      subst hV
      clear hp hpm hG hG' hus
      go_wp2_with fail
      refine HG.out.mono ?_
      rintro e w2 ⟨gv, rfl, hg, hb2⟩
      obtain ⟨GA, gc, rfl, hgc1, hgc2⟩ := own_form hg
      unfold maxLen at hgc2
      have HGr := Lib.hid hg
      have HB2 := Lib.hid hb2
      clear hg hb2 HG y0 y1
      go_upto_region 8 with fail
      obtain ⟨ng, nc', eN, hns⟩ : ∃ ng nc', Value.slice NA n nc = .slice (some ⟨ng, 0, none⟩) n nc' ∧ ng < w1.heap.size := by
        rcases HRow.out.2 with ⟨_, h0⟩ | ⟨ng, nc', cur, e, _, hh, _⟩
        · omega
        · exact ⟨ng, nc', e, lt_of_heap hh⟩
      injection eN with eN _ eN3
      subst eN eN3
      have hrows : w1.cell? ⟨ng, k, none⟩ = some (.string x) := by
        have := HRow.out.cells (g := ng) rfl k (.string x) (by rw [List.getElem?_map, HP.out]; rfl)
        rw [add_plain, Nat.zero_add] at this
        exact this
      have hb12 : Below w1.heap.size w1 w2 := HB.out.trans (HB2.out.mono HB.out.size)
      have hbt : Bts w2 B 5 (.slice VA d.length vc) d := (HM1.out.below hb12).vals _ HPM.out
      have hbg : Bts w2 0 5 (.slice GA d.length gc) d := Bts.of_own HGr.out 0
      have HS : Hid (∀ W, Below w2.heap.size w2 W → HaS W ng k ab ao x d GA VA gc vc) := Lib.hid (fun W hbW => by
        obtain ⟨ab', ao', e', -, y0, y1⟩ := ((HM1.out.below hb12).below hbW).at_ HP.out
        injection e' with e'
        injection e' with eb eo
        subst eb eo
        have hb1W : Below w1.heap.size w1 W := hb12.trans (hbW.mono hb12.size)
        exact ⟨y0, y1, (World.cell?_of_block (w := w1) (a := ⟨ng, k, none⟩) (hb1W.block ng hns)).trans hrows,
          (hbg.below hbW).string _ _ Tryz.underlying29 Tryz.underlying5 Tryz.underlying9, (hbt.below hbW).string _ _ Tryz.underlying29 Tryz.underlying5 Tryz.underlying9⟩)
      have HB12 := Lib.hid hb12
      have hnI : (n : Int) ≤ (nc : Int) := by omega
      have hcI : (n : Int) ≤ (cap : Int) := by omega
      clear hrows hb12 hbt hbg
      refine wp_region_noPanic ?_
      refine wp_region_held_drew (S := fun W => HaS W ng k ab ao x d GA VA gc vc) (by kernel_rfl) (HS.out _ (Below.refl _ _).drew) (fun hHeld => ?_)
      have HB3 : Hid (Below w2.heap.size w2 w2.drew) := Lib.hid (Below.refl _ _).drew
      generalize w2.drew = w3 at HB3 hHeld ⊢
      refine Pl.go [0, 1, 2, 3, 4, 5, 6, 7, 8, 9, 10, 11, 12, 13, 14, 15, 16, 17, 18, 19, 20, 21, 22, 23, 24] ?_
      iterate 25
        refine tkl (v := ?_) ?_ ?_
        rotate_left 1
        · intro W hSw
          obtain ⟨y0, y1, z0, z1, z2⟩ := id hSw
          clear hSw
          go_simp
          try with_reducible rfl
        try dsimp only [zS, zB, zC]
      refine Pl.stop ?_
      refine wpAnyH_done (by kernel_rfl) ?_ _
      refine NoPanic.normal ?_
      clear hHeld HS
      go_wp2_with fail
      obtain ⟨W0, hW0⟩ : ∃ W0, W0 = wr := ⟨_, rfl⟩
      subst hW0
      have HG3 : Hid (w3.ownsRow W0.heap.size 5 1 (.slice GA d.length gc) d.length (bcells d)) := Lib.hid (own_latI HGr.out HB3.out)
      have HZ3 : Hid (∀ t, t < d.length → ∃ z, (bcells d)[t]? = some (.int .u8 z)) := Lib.hid (fun t ht => ⟨((d[t]'ht).toNat : Int), by simp [bcells, ht]⟩)
      have HOB : Hid (∀ i, (Value.slice GA d.length gc).ownBlock = some i → W0.heap.size ≤ i) := Lib.hid (fun i hi => by
        rcases HGr.out.2 with ⟨e, _⟩ | ⟨g', cap', cur, e, hg', _⟩
        · rw [e] at hi; cases hi
        · rw [e] at hi
          have hi' : some g' = some i := hi
          injection hi' with hi'
          omega)
      obtain ⟨bc, hbc⟩ : ∃ bc, bcells d = bc := ⟨_, rfl⟩
      obtain ⟨dl, hdl'⟩ : ∃ dl, d.length = dl := ⟨_, rfl⟩
      rw [hbc] at HG3 HZ3
      rw [hdl'] at HG3 HZ3 HOB hgc1 hdl ⊢
      clear hbc hdl' HGr
      go_loopw [9] (fun j wz => ∃ q xs, q ≤ dl ∧ j = .int .i64 q ∧ wz.ownsRow W0.heap.size 5 1 (.slice GA dl gc) dl xs ∧ (∀ t, t < dl → ∃ z, xs[t]? = some (.int .u8 z)) ∧ Only (fun i => (Value.slice GA dl gc).ownBlock = some i) w3 wz) (fun j _ => dl - (intOf j).toNat)
      case atStart => exact ⟨0, bc, Nat.zero_le _, rfl, HG3.out, HZ3.out, Only.refl _ _⟩
      case round =>
        obtain ⟨q, xs, hq, rfl, hown, hxs, hon⟩ := hrel
        have HW := Lib.hid hown
        have HXs := Lib.hid hxs
        have HOn := Lib.hid hon
        clear hxs hon
        by_cases hql : q < dl
        · obtain ⟨gg, cap9, e9, hgl⟩ : ∃ gg cap9, Value.slice GA dl gc = .slice (some ⟨gg, 0, none⟩) dl cap9 ∧ gg < wr.heap.size := by
            rcases hown.2 with ⟨_, h0⟩ | ⟨gg, cap9, cur, e, _, hh, _⟩
            · omega
            · exact ⟨gg, cap9, e, lt_of_heap hh⟩
          injection e9 with e1 _ e3
          subst e1 e3
          obtain ⟨z, hz⟩ := HXs.out q hql
          have hgc9 : wr.cell? ⟨gg, q, none⟩ = some (.int .u8 z) := by rw [hown.cellAt _ (by omega)]; exact hz
          have hfz := hown.frozenAt q
          have hqI : (q : Int) < (dl : Int) := by omega
          have hcI2 : (dl : Int) ≤ (gc : Int) := by omega
          have hq1 : (q : Int) ≤ 4096 := by omega
          clear hown hz
          go_wp2_with fail
          go_roundw
          case rel =>
            exact ⟨q + 1, _, by omega, by go_num, (HW.out.stored q _).1, fun t ht => by
              by_cases e : q = t
              · subst e
                have : q < xs.length := by
                  obtain ⟨z', hz'⟩ := HXs.out q ht
                  exact (List.getElem?_eq_some_iff.1 hz').1
                exact ⟨_, List.getElem?_set_self this⟩
              · rw [List.getElem?_set_ne e]; exact HXs.out t ht, Only.setCell (S := fun i => (Value.slice (some ⟨gg, 0, none⟩) dl gc).ownBlock = some i) HOn.out (p := ⟨gg, q, none⟩) (.inl rfl) _⟩
          case measure => simp [intOf]; omega
        · obtain rfl : q = dl := by omega
          have HBe : Hid (Below w1.heap.size w1 wr) := Lib.hid (by
            have h3 : Below w1.heap.size w1 w3 := HB12.out.trans (HB3.out.mono HB12.out.size)
            refine h3.trans (HOn.out.below (fun i hi _ e => ?_) h3.size)
            have := HOB.out i e
            have := HB.out.size
            omega)
          clear hown
          go_wp2_with fail
          go_roundw
          case rel => exact ⟨k + 1, hlt, by go_num, HBe.out⟩
          case measure => simp [intOf]; omega
    · obtain rfl : k = n := by omega
      go_wp2_with fail
      go_ret
      exact ⟨rfl, HB1.out.trans (HB.out.mono HB1.out.size)⟩
end Go.Proofs.YtcpophfchchpkaaGreatDoor
namespace Go.Sy
open Go Go.RowKit
noncomputable def putRs {β : Type} (rs : List (Nat × GV)) : Heap → (Heap → β) → β :=
  List.rec (motive := fun _ => Heap → (Heap → β) → β) (fun H k => k H)
    (fun g _ ih H k => putCells g.2.l .e 0 fun c => frc (len g.2.l) fun m => Q8.set (some (.row g.2.t (fun _ => none) m c true false)) H g.1 fun H => ih H k) rs
noncomputable def sameRs (H : Heap) (rs : List (Nat × GV)) : Prop :=
  List.rec True (fun g _ ih => sameG g.2 (Q8.get H g.1) ∧ ih) rs
noncomputable def runP (P : Program) (O : Orc) (fuel : Nat) (f : FuncId) (args : List AV) (res : AV) (rs : List (Nat × GV)) (nb : Nat) : Prop :=
  putRs rs Q8.e fun H => match (ev P O fuel).ef f args (Nat.add 64 nb) H with
    | .ok v n' H' => (match Nat.ble n' 65536 with | true => v = res ∧ sameRs H' rs | false => False)
    | .er _ => False
noncomputable def hR : List (Nat × GV) → Heap → Heap
  | [], H => H
  | g :: rs, H => hR rs (Q8.upd H g.1 (some (rowG g.2)))
theorem putRs_k {β : Type} (rs : List (Nat × GV)) : ∀ (H : Heap) (k : Heap → β), putRs rs H k = k (hR rs H) := by
  induction rs with
  | nil => intro H k; rfl
  | cons g rs ih =>
    intro H k
    show putCells g.2.l .e 0 (fun c => frc (len g.2.l) fun m => Q8.set (some (.row g.2.t (fun _ => none) m c true false)) H g.1 fun H => putRs rs H k) = _
    rw [putCells_k, frc_eq, Q8.set_k, ih, len_eq]
    rfl
theorem get_hR (rs : List (Nat × GV)) : ∀ (H : Heap) (x : Nat), (∀ g ∈ rs, g.1 < LIM) → x < LIM → Q8.get (hR rs H) x = Q8.get H x ∨ ∃ g ∈ rs, g.1 = x ∧ Q8.get (hR rs H) x = some (rowG g.2) := by
  induction rs with
  | nil => intro H x _ _; exact .inl rfl
  | cons g rs ih =>
    intro H x hl hx
    rcases ih (Q8.upd H g.1 (some (rowG g.2))) x (fun g hg => hl g (List.mem_cons_of_mem _ hg)) hx with h | ⟨y, h1, h2, h3⟩
    · rw [Q8.get_upd _ _ _ _ (hl g List.mem_cons_self) hx] at h
      by_cases he : g.1 = x
      · rw [if_pos he] at h
        exact .inr ⟨g, List.mem_cons_self, he, h⟩
      · rw [if_neg he] at h; exact .inl h
    · exact .inr ⟨y, List.mem_cons_of_mem _ h1, h2, h3⟩
theorem sameRs_at {H : Heap} : ∀ {rs : List (Nat × GV)}, sameRs H rs → ∀ g ∈ rs, sameG g.2 (Q8.get H g.1)
  | [], _, g, hg => by cases hg
  | g' :: rs, h, g, hg => by
    have h : sameG g'.2 (Q8.get H g'.1) ∧ sameRs H rs := h
    rcases List.mem_cons.1 hg with rfl | hg
    · exact h.1
    · exact sameRs_at h.2 g hg
/-- The symbols at first: the program's variables, the arguments' blocks. -/
def sgB (bs : List Nat) : Sg := ⟨fun x => if x < 64 then some x else bs[x - 64]?, fun _ => 0⟩
theorem sgB_some {bs : List Nat} {x b : Nat} (h : (sgB bs).blk x = some b) : (x < 64 ∧ b = x) ∨ (64 ≤ x ∧ x < 64 + bs.length ∧ bs[x - 64]? = some b) := by
  simp only [sgB] at h
  split at h
  · rename_i hx; injection h with h; exact .inl ⟨hx, h.symm⟩
  · rename_i hx
    have := (List.getElem?_eq_some_iff.1 h).1
    exact .inr ⟨by omega, by omega, h⟩
/-- What a run starts from: rows whole, each in a block of its own. -/
structure RowsAt (w : World) (rs : List (Nat × GV)) (bs : List Nat) : Prop where
  good : ∀ g ∈ rs, g.2.Good
  blk : ∀ g ∈ rs, ∃ b, (sgB bs).blk g.1 = some b ∧ w.heap[b]? = some (Obj.cells ⟨g.2.vs⟩ g.2.t (0, 0))
  inj : ∀ g ∈ rs, ∀ g' ∈ rs, ∀ b, (sgB bs).blk g.1 = some b → (sgB bs).blk g'.1 = some b → g.1 = g'.1
  few : bs.length ≤ 1000
section
variable {P : Program}
theorem run_args {O : Orc} (hm : P.follows .mixedOrders = true) (hO : OrcOk P O) {fuel : Nat} {f : FuncId} {args : List AV} {res : AV} {rs : List (Nat × GV)} {bs : List Nat} {Args : List Value} {V : Value}
    {w : World} (hrs : RowsAt w rs bs) (hA : concL (sgB bs) args = some Args) (hV : ∀ s, res.conc s = some V) (h : runP P O fuel f args res rs bs.length) : Calls P f ⟨Args⟩ w fun e w' => e = .returned V ∧ Below w.heap.size w w' := by
  have hL : (65536 : Nat) = LIM := rfl
  have hfew := hrs.few
  have hlt : ∀ g ∈ rs, g.1 < LIM := fun g hg => by
    obtain ⟨b, hb, _⟩ := hrs.blk g hg
    rcases sgB_some hb with ⟨a1, a2⟩ | ⟨a1, a2, a3⟩ <;> omega
  unfold runP at h
  rw [putRs_k] at h
  have hget : ∀ x, x < LIM → Q8.get (hR rs Q8.e) x = none ∨ ∃ g ∈ rs, g.1 = x ∧ Q8.get (hR rs Q8.e) x = some (rowG g.2) := fun x hx => by
    rcases get_hR rs Q8.e x hlt hx with h | h
    · exact .inl (h.trans (Q8.get_e x))
    · exact .inr h
  have hr0 : Rel P (sgB bs) (hR rs Q8.e) w := by
    refine ⟨fun x b hb => ?_, fun g hg => by simp [sgB, hg], fun x A hx hA => ?_, fun x y b hx hy h1 h2 h3 h4 => ?_⟩
    · rcases sgB_some hb with ⟨a1, a2⟩ | ⟨a1, a2, a3⟩ <;> omega
    · rcases hget x hx with h | ⟨g, hg, rfl, h⟩
      · rw [h] at hA; cases hA
      · rw [h] at hA; injection hA with hA; subst hA
        obtain ⟨b, hb, hw⟩ := hrs.blk g hg
        exact ⟨b, _, hb, hw, rowG_good (hrs.good g hg) _ _⟩
    · rcases hget x hx with h | ⟨g, hg, rfl, h⟩
      · exact absurd h h1
      · rcases hget y hy with h' | ⟨g', hg', rfl, h'⟩
        · exact absurd h' h2
        · exact hrs.inj g hg g' hg' b h3 h4
  split at h
  · rename_i v n' H' hev
    split at h
    · rename_i h2
      obtain ⟨h1, h⟩ := h
      subst h1
      refine callsIn_wide.1 (calls_of_ev hm hO hev hA hr0 (fun x h1 _ => ?_) (Nat.le_of_ble_eq_true h2) fun V' s' w' hv hr hs => ?_)
      · have h1 : 64 + bs.length ≤ x := h1
        simp only [sgB]
        rw [if_neg (by omega), List.getElem?_eq_none (by omega)]
      rw [hV] at hv
      injection hv with hv
      subst hv
      refine ⟨rfl, hs.os, hs.tape, hs.output, hs.size, fun k hk => ?_⟩
      have hoff : ∀ x, x < 64 + bs.length → s'.blk x = (sgB bs).blk x := fun x hx => (hs.off x (.inl hx)).1
      by_cases hex : ∃ x, x < LIM ∧ Q8.get (hR rs Q8.e) x ≠ none ∧ (sgB bs).blk x = some k
      · obtain ⟨x, hx, hxn, hxb⟩ := hex
        rcases hget x hx with h' | ⟨g, hg, rfl, h'⟩
        · exact absurd h' hxn
        · have hsm := sameRs_at h g hg
          cases hB : Q8.get H' g.1 with
          | none => rw [hB] at hsm; exact hsm.elim
          | some B =>
            rw [hB] at hsm
            obtain ⟨b, o, b1, b2, b3⟩ := hr.blk g.1 B hx hB
            have hx2 : g.1 < 64 + bs.length := by rcases sgB_some hxb with ⟨a1, a2⟩ | ⟨a1, a2, a3⟩ <;> omega
            rw [hoff g.1 hx2, hxb] at b1
            injection b1 with b1; subst b1
            obtain ⟨b', hb', hw⟩ := hrs.blk g hg
            rw [hxb] at hb'; injection hb' with hb'; subst hb'
            rw [b2, hw, sameG_row (hrs.good g hg) hsm b3]
      · exact hs.frame k hk fun x hx h1 h2 => hex ⟨x, hx, h1, h2⟩
    · cases h
  · cases h
theorem rowsAt_nil (w : World) : RowsAt w [] [] := ⟨by simp, by simp, by simp, by simp⟩
/-- No rows: values alone. -/
theorem run_vals {O : Orc} (hm : P.follows .mixedOrders = true) (hO : OrcOk P O) {fuel : Nat} {f : FuncId} {args : List AV} {res : AV} {Args : List Value} {V : Value}
    (hA : concL (sgB []) args = some Args) (hV : ∀ s, res.conc s = some V) (h : runP P O fuel f args res [] 0) (w : World) : Calls P f ⟨Args⟩ w fun e w' => e = .returned V ∧ Below w.heap.size w w' :=
  run_args hm hO (rowsAt_nil w) hA hV h
/-- The program's variables. -/
theorem rowsAt_globals {w : World} {rs : List (Nat × GV)} (hg : ∀ g ∈ rs, g.2.Good) (hw : ∀ g ∈ rs, g.1 < 64 ∧ w.heap[g.1]? = some (Obj.cells ⟨g.2.vs⟩ g.2.t (0, 0))) : RowsAt w rs [] := by
  refine ⟨hg, fun g h => ⟨g.1, by simp [sgB, (hw g h).1], (hw g h).2⟩, fun g h g' h' b e e' => ?_, by simp⟩
  rcases sgB_some e with ⟨a1, a2⟩ | ⟨a1, a2, a3⟩ <;> rcases sgB_some e' with ⟨b1, b2⟩ | ⟨b1, b2, b3⟩ <;> first | omega | (simp at a2 b2; omega) | (simp at a3) | (simp at b3)
end
/-- Integers in a row. -/
def gInts (k : IntKind) (t : TypeId) (l : List Nat) : GV := ⟨t, l.map fun n => .i k (.ofNat n), l.map fun n => .int k (.ofNat n)⟩
theorem gInts_good (k : IntKind) (t : TypeId) (l : List Nat) : (gInts k t l).Good := by
  refine ⟨fun s => ?_, fun v hv => ?_⟩
  · show concL s (l.map fun n => .i k (.ofNat n)) = some (l.map fun n => .int k (.ofNat n))
    induction l with
    | nil => rfl
    | cons a r ih => exact concL_cons.2 ⟨_, _, rfl, ih, rfl⟩
  · simp only [gInts, List.mem_map] at hv
    obtain ⟨n, _, rfl⟩ := hv
    rfl
def bruijnN : List Nat := [0,1,56,2,57,49,28,3,61,58,42,50,38,29,17,4,62,47,59,36,45,43,51,22,53,39,33,30,24,18,12,5,63,55,48,27,60,41,37,16,46,35,44,21,52,32,23,11,54,26,40,15,34,20,31,10,25,14,19,9,13,8,7,6]
def kindsN : List Nat := [3,1,2,4,5,6,7,8,9,10,11,12,13,14,3,1]
end Go.Sy
namespace Go.Sy
open Go Go.RowKit
section
variable {P : Program}
theorem Rel.below {s : Sg} {H : Heap} {w w' : World} (h : Rel P s H w) (hb : Below w.heap.size w w') : Rel P s H w' :=
  ⟨h.lim, h.glob, fun x A hx hA => by
    obtain ⟨b, o, h1, h2, h3⟩ := h.blk x A hx hA
    exact ⟨b, o, h1, (hb.block b (Array.getElem?_eq_some_iff.1 h2).1).trans h2, h3⟩, h.inj⟩
theorem Step.below {s : Sg} {n : Nat} {H : Heap} {w w' : World} (hb : Below w.heap.size w w') : Step s n H w s n H w' :=
  ⟨fun _ _ => ⟨rfl, rfl⟩, hb.size, fun b hlt _ => hb.block b hlt, fun y _b hy h1 h2 _ => ⟨y, hy, h1, h2⟩, hb.os, hb.tape, hb.output⟩
theorem fnGood_quiet {f : FuncId} {args : List AV} {n : Nat} {H : Heap} {v : AV} {V : Value} (hv : ∀ s, v.conc s = some V)
    (hT : ∀ (s : Sg) (w : World) (Args : List Value), concL s args = some Args → Rel P s H w → Calls P f ⟨Args⟩ w fun e w' => e = .returned V ∧ Below w.heap.size w w') : FnGood P f args n H v n H := by
  refine ⟨Nat.le_refl _, fun s w Args R hA hr hf hl hR => callsIn_wide.2 ((hT s w Args hA hr).mono ?_)⟩
  rintro e w' ⟨rfl, hb⟩
  exact hR V s w' (hv s) (hr.below hb) (Step.below hb)
/-- A block of the abstract heap reads as some values, whatever its type. -/
noncomputable def readsRow (l : List AV) (b : Option Blk) : Bool :=
  match b with
  | some (.row _ z m c true false) => (match Nat.beq m (len l), cellsAt z m c m 0 with
      | true, some l' => eq1s l' l
      | _, _ => false)
  | _ => false
theorem readsRow_at {s : Sg} {H : Heap} {w : World} {l : List AV} {vs : List Value} {x : Nat} (hr : Rel P s H w) (hx : x < LIM) (hl : ∀ s, concL s l = some vs) (hv : ∀ v ∈ vs, v.oneCell' = true) (h : readsRow l (Q8.get H x) = true) :
    ∃ b t, s.blk x = some b ∧ w.heap[b]? = some (Obj.cells ⟨vs⟩ t (0, 0)) := by
  unfold readsRow at h
  split at h
  · rename_i t z m c hq
    split at h
    · rename_i l' h2 h3
      have h2 := Nat.eq_of_beq_eq_true h2
      rw [len_eq] at h2
      have h4 := eq1s_eq h
      subst h4
      obtain ⟨b, o, b1, b2, b3⟩ := hr.blk x _ hx hq
      have := sameG_row' (g := ⟨t, l', vs⟩) ⟨hl, hv⟩ rfl h2 h3 b3
      subst this
      exact ⟨b, t, b1, b2⟩
    · cases h
  · cases h
noncomputable def readsRows (H : Heap) (rs : List (Nat × List AV)) : Bool :=
  List.rec true (fun g _ ih => match readsRow g.2 (Q8.get H g.1) with | true => ih | false => false) rs
theorem readsRows_at {H : Heap} : ∀ {rs : List (Nat × List AV)}, readsRows H rs = true → ∀ g ∈ rs, readsRow g.2 (Q8.get H g.1) = true
  | [], _, g, hg => by cases hg
  | g' :: rs, h, g, hg => by
    have h : (match readsRow g'.2 (Q8.get H g'.1) with | true => readsRows H rs | false => false) = true := h
    split at h
    · rename_i h1
      rcases List.mem_cons.1 hg with rfl | hg
      · exact h1
      · exact readsRows_at h g hg
    · cases h
/-- Two oracles in one. -/
theorem orcOk_add {O : Orc} {f : FuncId} {g : List AV → Nat → Heap → VR} (hO : OrcOk P O) (h : ∀ args n H v n' H', g args n H = .ok v n' H' → FnGood P f args n H v n' H') : OrcOk P (fun x => match Nat.beq x f with | true => some g | false => O x) := by
  intro x g' hx
  simp only at hx
  split at hx
  · rename_i e
    have e : x = f := by simpa using e
    subst e
    injection hx with hx; subst hx
    exact h
  · exact hO x g' hx
end
end Go.Sy
namespace Go.Sy
open Go Go.RowKit
/-- The symbols of a small run: each stands for what another one stands for. -/
def Sg.part (gm : Nat → Option Nat) (s : Sg) : Sg := ⟨fun y => (gm y).bind s.blk, fun y => match gm y with | some x => s.cap x | none => 0⟩
section
variable {P : Program}
/-- What a small run owes: y: its symbol, x: the great run's. -/
structure Tell (P : Program) (gm : Nat → Option Nat) (n1 : Nat) (H Hs Hs1 : Heap) (y x : Nat) : Prop where
  at_ : gm y = some x
  lt : y < n1 ∧ x < LIM
  big : Q8.get H x ≠ none
  into : ∀ s o A, Q8.get H x = some A → BlkR P s x A o → ∃ B, Q8.get Hs y = some B ∧ BlkR P (s.part gm) y B o
  back : ∀ s s' o B, Q8.get Hs1 y = some B → (∀ z, z < n1 → s'.blk z = (s.part gm).blk z ∧ s'.cap z = (s.part gm).cap z) → BlkR P s' y B o → ∀ A, Q8.get H x = some A → BlkR P s x A o
  still : Q8.get Hs1 y ≠ none
theorem fnGood_tell {O : Orc} (hm : P.follows .mixedOrders = true) (hO : OrcOk P O) {fuel : Nat} {f : FuncId} {args args' : List AV} {n n1 n2 : Nat} {H Hs Hs1 : Heap} {v : AV} {V : Value} {gm : Nat → Option Nat} {ys : List (Nat × Nat)}
    (hglob : ∀ g, g < 64 → gm g = some g) (hgm : ∀ y x, gm y = some x → y < n1) (hn1 : n1 ≤ LIM) (hinj : ∀ y y' x, gm y = some x → gm y' = some x → y = y')
    (hys : ∀ p ∈ ys, Tell P gm n1 H Hs Hs1 p.1 p.2) (hHs : ∀ y, y < LIM → Q8.get Hs y ≠ none → ∃ p ∈ ys, p.1 = y)
    (hA : ∀ s, concL s args = concL (s.part gm) args') (hrun : (ev P O fuel).ef f args' n1 Hs = .ok v n2 Hs1) (hn2 : n2 ≤ LIM) (hv : ∀ s, v.conc s = some V) : FnGood P f args n H v n H := by
  refine ⟨Nat.le_refl _, fun s w Args R hA' hr hf hl hR => ?_⟩
  have h := (ev_ok hm hO fuel).2 _ _ _ _ _ _ _ hrun
  have hpb : ∀ y b, (s.part gm).blk y = some b → ∃ x, gm y = some x ∧ s.blk x = some b := fun y b hb => by
    simp only [Sg.part, Option.bind_eq_some_iff] at hb
    exact hb
  have hrel : Rel P (s.part gm) Hs w := by
    refine ⟨fun y b hb => ?_, fun g hg => ?_, fun y B hy hB => ?_, fun y y' b hy hy' h1 h2 h3 h4 => ?_⟩
    · obtain ⟨x, hx, _⟩ := hpb y b hb
      exact Nat.lt_of_lt_of_le (hgm y x hx) hn1
    · simp only [Sg.part, hglob g hg, Option.bind_some]
      exact hr.glob g hg
    · obtain ⟨p, hp, rfl⟩ := hHs y hy (by rw [hB]; exact fun e => by cases e)
      have ht := hys p hp
      obtain ⟨A, hAx⟩ := Option.ne_none_iff_exists'.1 ht.big
      obtain ⟨b, o, b1, b2, b3⟩ := hr.blk p.2 A ht.lt.2 hAx
      obtain ⟨B', hB', b4⟩ := ht.into s o A hAx b3
      rw [hB] at hB'
      injection hB' with hB'
      subst hB'
      exact ⟨b, o, by simp only [Sg.part, ht.at_, Option.bind_some]; exact b1, b2, b4⟩
    · obtain ⟨p, hp, rfl⟩ := hHs y hy h1
      obtain ⟨q, hq, rfl⟩ := hHs y' hy' h2
      obtain ⟨x, hx, hxb⟩ := hpb _ b h3
      obtain ⟨x', hx', hxb'⟩ := hpb _ b h4
      have tp := hys p hp
      have tq := hys q hq
      rw [tp.at_] at hx
      injection hx with hx
      rw [tq.at_] at hx'
      injection hx' with hx'
      subst hx hx'
      have e := hr.inj p.2 q.2 b tp.lt.2 tq.lt.2 tp.big tq.big hxb hxb'
      exact hinj p.1 q.1 p.2 tp.at_ (e ▸ tq.at_)
  have hfree : Free (s.part gm) n1 n2 := fun y h1 _ => by
    cases hq : (s.part gm).blk y with
    | none => rfl
    | some b =>
      obtain ⟨x, hx, _⟩ := hpb y b hq
      have := hgm y x hx
      omega
  refine h.2 (s.part gm) w Args R (by rw [← hA]; exact hA') hrel hfree hn2 (fun V' s' w' hv' hr' hs' => hR V' s w' (by rw [hv] at hv' ⊢; exact hv') ?_ ?_)
  · have hold : ∀ b, b < w.heap.size → (∀ p ∈ ys, s.blk p.2 ≠ some b) → w'.heap[b]? = w.heap[b]? := fun b hb hne => by
      refine hs'.frame b hb fun y hy h1 h2 => ?_
      obtain ⟨p, hp, rfl⟩ := hHs y hy h1
      obtain ⟨x, hx, hxb⟩ := hpb _ b h2
      rw [(hys p hp).at_] at hx
      injection hx with hx
      subst hx
      exact hne p hp hxb
    refine ⟨hr.lim, hr.glob, fun x A hx hAx => ?_, hr.inj⟩
    obtain ⟨b, o, b1, b2, b3⟩ := hr.blk x A hx hAx
    by_cases hin : ∃ p ∈ ys, p.2 = x
    · obtain ⟨p, hp, rfl⟩ := hin
      have ht := hys p hp
      obtain ⟨B, hB⟩ := Option.ne_none_iff_exists'.1 ht.still
      obtain ⟨b', o', c1, c2, c3⟩ := hr'.blk p.1 B (Nat.lt_of_lt_of_le ht.lt.1 hn1) hB
      have hoff := hs'.off p.1 (.inl ht.lt.1)
      rw [hoff.1] at c1
      simp only [Sg.part, ht.at_, Option.bind_some] at c1
      rw [b1] at c1
      injection c1 with c1
      subst c1
      exact ⟨b, o', b1, c2, ht.back s s' o' B hB (fun z hz => hs'.off z (.inl hz)) c3 A hAx⟩
    · refine ⟨b, o, b1, ?_, b3⟩
      rw [hold b (Array.getElem?_eq_some_iff.1 b2).1 (fun p hp e => hin ⟨p, hp, hr.inj p.2 x b (hys p hp).lt.2 hx (hys p hp).big (by rw [hAx]; exact fun e => by cases e) e b1⟩)]
      exact b2
  · refine ⟨fun _ _ => ⟨rfl, rfl⟩, hs'.size, fun b hb hne => ?_, fun y b hy h1 h2 _ => ⟨y, hy, h1, h2⟩, hs'.os, hs'.tape, hs'.output⟩
    refine hs'.frame b hb fun y hy h1 h2 => ?_
    obtain ⟨p, hp, rfl⟩ := hHs y hy h1
    obtain ⟨x, hx, hxb⟩ := hpb _ b h2
    rw [(hys p hp).at_] at hx
    injection hx with hx
    subst hx
    exact hne p.2 (hys p hp).lt.2 (hys p hp).big hxb
end
end Go.Sy
