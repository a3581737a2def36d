/- A log's iterator (layer 9): All and its closure. -/
import Derived.Test.YtjjhndhigkhkpaaLogC
import Derived.Test.YtjjhndhigkhkpaaRange
namespace Go.Proofs.Ytjjhndhigkhkpaa
open Go Go.RowKit
attribute [local go_sem] Oper.semAt_some

set_option maxHeartbeats 400000 in
theorem logAll_any (B b : Nat) (lv : Value) (ps : List (Ent × Value)) (w : World) (h : LogRep w B b lv ps) :
    Calls Try.prog 21 #[.pointer (some ⟨b, 0, none⟩)] w fun e w' =>
      e = .returned (.func (.func 42) #[] #[.pointer (some ⟨w.heap.size, 0, none⟩)]) ∧ (∃ lv', Blk w' w.heap.size 47 #[lv'] ∧ w'.ownsRow w.heap.size 31 4 lv' ps.length (ecs ps)) ∧ Below w.heap.size w w' := by
  obtain ⟨A, cap, rfl, hc1, hc2⟩ := own_form h.row
  clear hc1 hc2
  have HR := Lib.hid (h.alloc (.cells #[.slice none 0 0] 47))
  have hk1 := h.blk.cell 1 _ rfl
  have hlt := h.blk.lt
  have HCl := Lib.hid (fun W hW => entsClone_any A ps.length cap (ecs ps) W hW h.one (by have := h.len; omega))
  clear h
  go_enter Try.func21, Try.ntmps21
  go_wp2_with (go_at_call 29; refine (logZero_some _ _ _ _ HR.out.blk).mono ?_; rintro e w' ⟨rfl, rfl⟩)
  refine (HCl.out _ (src_own HR.out.row)).mono ?_
  rintro e w1 ⟨v1, rfl, hown, hbel⟩
  obtain ⟨A1, c1, rfl, hx1, hx2⟩ := own_form hown
  clear hx1 hx2
  have b1 := (Blk.new w 47 _).below hbel
  have l0 := b1.cell 0 _ rfl
  have l1 := b1.frozen
  have HB1 := Lib.hid b1
  have HO := Lib.hid hown
  have HG := Lib.hid (below_own hbel)
  clear b1 hown hbel
  go_wp2_with fail
  go_ret
  refine ⟨rfl, ⟨_, HB1.out.set_ 0 _, ?_⟩, HG.out.setCell (p := ⟨w.heap.size, 0, none⟩) (Nat.le_refl _) _⟩
  exact ownsRow_base (ownsRow_setCell_below HO.out (a := ⟨w.heap.size, 0, none⟩) (by simp) _) (by simp)

/-- What the iterator hands out of the first k entries: the slot numbers and the entries that are there. -/
def itemAt (ps : List (Ent × Value)) (i : Nat) : Option (Nat × Ent) := match ps[i]? with
  | some p => if p.1.birth = 0 then none else some (i, p.1)
  | none => none
def itemsTo (ps : List (Ent × Value)) (k : Nat) : List (Nat × Ent) := (List.range k).filterMap (itemAt ps)

theorem itemsTo_succ (ps : List (Ent × Value)) (k : Nat) : itemsTo ps (k + 1) = itemsTo ps k ++ (itemAt ps k).toList := by
  unfold itemsTo
  rw [List.range_succ, List.filterMap_append]
  cases h : itemAt ps k <;> simp [h]

theorem itemsTo_le (ps : List (Ent × Value)) (k : Nat) : (itemsTo ps k).length ≤ k := by
  have := List.length_filterMap_le (itemAt ps) (List.range k)
  simpa [itemsTo] using this

theorem itemsTo_prefix (ps : List (Ent × Value)) {k m : Nat} (h : k ≤ m) : itemsTo ps k <+: itemsTo ps m := by
  obtain ⟨d, rfl⟩ := Nat.exists_eq_add_of_le h
  clear h
  induction d with
  | zero => exact List.prefix_rfl
  | succ d ih =>
    rw [← Nat.add_assoc, itemsTo_succ]
    exact ih.trans (List.prefix_append _ _)

abbrev Item := Nat × Ent × Value
def Item.enc (x : Item) : Array Value := #[.int .u32 (x.1 : Int), .agg #[.string x.2.1.key, x.2.2, .int .u64 x.2.1.dl, .int .u64 x.2.1.birth]]
def Item.bare (x : Item) : Nat × Ent := (x.1, x.2.1)
/-- What holds of an item that is handed: its value lies in fresh memory. -/
def itemPx (n₁ : Nat) (ps : List (Ent × Value)) (pre : List Item) (x : Item) (W : World) : Prop := W.ownsRow n₁ 5 1 x.2.2 x.2.1.val.length (bcells x.2.1.val) ∧ (pre ++ [x]).map Item.bare <+: itemsTo ps ps.length

theorem itemPx_put (n₁ : Nat) (ps : List (Ent × Value)) (pre : List Item) (x : Item) (W : World) (l : Nat) (o o' : Obj) (hl : W.heap[l]? = some o) (ho : o.isCells = false) (h : itemPx n₁ ps pre x W) : itemPx n₁ ps pre x (W.putObj l o') := by
  refine ⟨?_, h.2⟩
  have h := h.1
  refine h.kept (grownBy_putObj' W l o') ?_
  cases hb : x.2.2.ownBlock with
  | none => exact .inl rfl
  | some k =>
    right
    intro e
    injection e with e
    subst e
    obtain ⟨_, cur, h2⟩ := row_block h hb
    rw [h2] at hl
    injection hl with hl
    subst hl
    cases ho

theorem abides_below {β : Type} {B : Nat} {J : β → World → Prop} (hJ : AbidesFrom B J) {s : β} {W W' : World} (h : J s W) (hb : Below W.heap.size W W') : J s W' :=
  hJ s W W' none h ⟨hb.os, hb.tape, hb.output, hb.size, fun k hk _ => hb.block k hk⟩ (fun r e => by cases e)

set_option maxRecDepth 100000 in
set_option maxHeartbeats 2000000 in
theorem logAll1_in (n : Nat) (hn : 3 ≤ n) (B l Bs n₀ n₁ g cap : Nat) (ps : List (Ent × Value)) (hlen : ps.length ≤ 4194304) (hcap : ps.length ≤ cap) (hg : g < n₀) (J Jx : List Item → World → Prop) (W : World) (hn₀ : n₀ ≤ W.heap.size) (hn₁ : n₁ ≤ W.heap.size)
    (hJ : AbidesFrom W.heap.size J)
    (hY : ∀ pre x W1, J pre W1 → itemPx n₁ ps pre x W1 → pre.length < ps.length → YieldAt Fence.wide (n - 1) Try.prog l x.enc W1 fun e W' =>
      (e = .returned (.bool true) ∧ J (pre ++ [x]) W' ∧ Below n₀ W1 W') ∨ (e = .returned (.bool false) ∧ Jx (pre ++ [x]) W'))
    (hBs : W.cell? ⟨Bs, 0, none⟩ = some (.slice (some ⟨g, 0, none⟩) ps.length cap))
    (hc : W.ownsRow 0 31 4 (.slice (some ⟨g, 0, none⟩) ps.length cap) ps.length (ecs ps))
    (hv : ∀ p ∈ ps, ∀ W', Below n₀ W W' → Bts W' B 5 p.2 p.1.val) (hvl : ∀ p ∈ ps, p.1.val.length ≤ 1000000000) (h0 : J [] W) :
    CallsIn Fence.wide n Try.prog 42 #[.func (.yield l) #[] #[], .pointer (some ⟨Bs, 0, none⟩)] W fun e W' => (∃ v, e = .returned v) ∧
      ((∃ ys : List Item, ys.map Item.bare = itemsTo ps ps.length ∧ J ys W') ∨ (∃ pre : List Item, (∃ k, k ≤ ps.length ∧ pre.map Item.bare = itemsTo ps k) ∧ Jx pre W')) := by
  refine callsIn_of_wp Try.func42 rfl trivial ?_ rfl
  simp only [Try.ntmps42, List.size_toArray, List.length_cons, List.length_nil, Nat.reduceAdd, Nat.reduceSub, Array.replicate_succ, Array.replicate_zero, List.push_toArray, List.append_toArray, List.nil_append, List.cons_append]
  have HY := Lib.hid hY
  have HC := Lib.hid hc
  have HV := Lib.hid hv
  have HVL := Lib.hid hvl
  have HJ := Lib.hid hJ
  have h0' := Lib.hid h0
  clear hY hc hv hvl hJ h0
  gi_wp2
  gi_loopw [7] (fun i wr => ∃ (k : Nat) (pre : List Item), k ≤ ps.length ∧ i = .int .i64 k ∧ pre.map Item.bare = itemsTo ps k ∧ J pre wr ∧ Below n₀ W wr ∧ W.heap.size ≤ wr.heap.size) (fun i _ => ps.length - (intOf i).toNat)
  case atStart => exact ⟨0, [], Nat.zero_le _, rfl, rfl, h0'.out, Below.refl _ _, Nat.le_refl _⟩
  case round =>
    obtain ⟨k, pre, hk, rfl, hpre, hJs, hbel, hsz⟩ := hrel
    have HPre := Lib.hid hpre
    have HJs := Lib.hid hJs
    have HBe := Lib.hid hbel
    clear hpre hJs hbel
    have hkb : (k : Int) ≤ 4194304 := by omega
    by_cases hlt : k < ps.length
    · have hcell : ∀ j, j < 4 → wr.cell? ⟨g, k * 4 + j, none⟩ = (ecells ps[k])[j]? := fun j hj => by
        rw [HBe.out.cell (p := ⟨g, k * 4 + j, none⟩) hg, HC.out.cellAt (k * 4 + j) (by omega), ecs_at ps k j hlt hj]
      obtain ⟨x, v, hx⟩ : ∃ x v, ps[k] = (x, v) := ⟨ps[k].1, ps[k].2, rfl⟩
      have hitem : itemAt ps k = if x.birth = 0 then none else some (k, x) := by unfold itemAt; rw [List.getElem?_eq_getElem hlt, hx]
      have hmem : (x, v) ∈ ps := by rw [← hx]; exact List.getElem_mem hlt
      have hbv := HV.out _ hmem wr HBe.out
      obtain ⟨A, vc, e⟩ := hbv.form
      dsimp only at e
      subst e
      rw [hx] at hcell
      have c0 : wr.cell? ⟨g, k * 4, none⟩ = some (.string x.key) := hcell 0 (by omega)
      have c1 : wr.cell? ⟨g, k * 4 + 1, none⟩ = some (.slice A x.val.length vc) := hcell 1 (by omega)
      have c2 : wr.cell? ⟨g, k * 4 + 2, none⟩ = some (.int .u64 x.dl) := hcell 2 (by omega)
      have c3 : wr.cell? ⟨g, k * 4 + 3, none⟩ = some (.int .u64 x.birth) := hcell 3 (by omega)
      have HBv := Lib.hid hbv
      have HVl := Lib.hid (HVL.out _ hmem)
      have HItem := Lib.hid hitem
      clear hcell hx hitem hmem hbv
      have hltI : (k : Int) < (ps.length : Int) := by omega
      have hcI : (ps.length : Int) ≤ (cap : Int) := by omega
      by_cases hz : x.birth = 0
      · have hz1 : (x.birth == 0) = true := by simp [hz]
        have hz2 : (x.birth != 0) = false := by simp [hz]
        have hit : itemAt ps k = none := by rw [HItem.out, if_pos hz]
        have HIt := Lib.hid hit
        clear hit hz
        gi_wp2
        refine ⟨trivial, ?_⟩
        gi_wp2
        refine ⟨fun _ h => (by cases h), ?_⟩
        gi_wp2
        go_roundw
        case rel => exact ⟨k + 1, pre, by omega, by go_num, by rw [itemsTo_succ, HIt.out, HPre.out]; simp, abides_below HJ.out HJs.out ((Below.refl _ _).alloc (Nat.le_refl _) _), HBe.out.alloc (by omega) _, by simp; omega⟩
        case measure => simp [intOf]; omega
      · have hz1 : (x.birth == 0) = false := by simp [hz]
        have hz2 : (x.birth != 0) = true := by simp [hz]
        have hit : itemAt ps k = some (k, x) := by rw [HItem.out, if_neg hz]
        have HIt := Lib.hid hit
        clear hit hz
        gi_wp2_with fail
        refine ⟨trivial, fun _ => by omega, ?_⟩
        refine (callsIn_wide.2 (entryCopy_any B _ _ x.val _ _ _ (HBv.out.alloc _) HVl.out)).mono ?_
        rintro e w2 ⟨v2, rfl, hown, hb2⟩
        obtain ⟨A2, vc2, rfl, hx1, hx2⟩ := own_form hown
        clear hx1 hx2
        have hb2' := below_own hb2
        have HJ2 := Lib.hid (abides_below HJ.out HJs.out hb2')
        have HBe2 := Lib.hid (HBe.out.trans (hb2'.mono (by omega)))
        have hsz2 : wr.heap.size ≤ w2.heap.size := hb2'.size
        have hpx : itemPx n₁ ps pre (k, x, .slice A2 x.val.length vc2) w2 := ⟨ownsRow_base hown (by simp; omega), by rw [List.map_append, HPre.out]; show itemsTo ps k ++ [(k, x)] <+: _; rw [show itemsTo ps k ++ [(k, x)] = itemsTo ps (k + 1) from by rw [itemsTo_succ, HIt.out]; rfl]; exact itemsTo_prefix ps (by omega)⟩
        obtain ⟨fn, tmps, assign, body, hy, hR⟩ := HY.out pre (k, x, .slice A2 x.val.length vc2) w2 HJ2.out hpx (by have h1 := itemsTo_le ps k; rw [← HPre.out] at h1; simp at h1; omega)
        have HR := Lib.hid hR
        simp only [Item.enc] at hy
        clear hown hb2 hb2' hpx hR
        gi_wp2_with fail
        refine ⟨fun _ => by omega, HR.out.mono ?_⟩
        rintro e W3 (⟨rfl, hJ3, hk3⟩ | ⟨rfl, hJx3⟩)
        · have HJ3 := Lib.hid hJ3
          have HBe3 := Lib.hid (HBe2.out.trans hk3)
          have hsz3 : w2.heap.size ≤ W3.heap.size := hk3.size
          clear hJ3 hk3
          gi_wp2
          go_roundw
          case rel => exact ⟨k + 1, pre ++ [(k, x, .slice A2 x.val.length vc2)], by omega, by go_num, by rw [itemsTo_succ, HIt.out, ← HPre.out]; simp [Item.bare], HJ3.out, HBe3.out, by omega⟩
          case measure => simp [intOf]; omega
        · have HJx := Lib.hid hJx3
          clear hJx3
          gi_wp2
          refine bodyPost_ret (results_none rfl _ _ _) rfl ?_
          exact ⟨⟨_, rfl⟩, .inr ⟨_, ⟨k + 1, by omega, by rw [itemsTo_succ, HIt.out, ← HPre.out]; simp [Item.bare]⟩, HJx.out⟩⟩
    · obtain rfl : k = ps.length := by omega
      gi_wp2
      go_end0
      exact ⟨⟨_, rfl⟩, .inl ⟨pre, HPre.out, HJs.out⟩⟩

set_option maxRecDepth 100000 in
set_option maxHeartbeats 1000000 in
theorem logAll1_nil_in (n : Nat) (l Bs : Nat) (J : List Item → World → Prop) (W : World) (hBs : W.cell? ⟨Bs, 0, none⟩ = some (.slice none 0 0)) (h0 : J [] W) :
    CallsIn Fence.wide n Try.prog 42 #[.func (.yield l) #[] #[], .pointer (some ⟨Bs, 0, none⟩)] W fun e W' => (∃ v, e = .returned v) ∧ J [] W' := by
  refine callsIn_of_wp Try.func42 rfl trivial ?_ rfl
  simp only [Try.ntmps42, List.size_toArray, List.length_cons, List.length_nil, Nat.reduceAdd, Nat.reduceSub, Array.replicate_succ, Array.replicate_zero, List.push_toArray, List.append_toArray, List.nil_append, List.cons_append]
  have H0 := Lib.hid h0
  clear h0
  gi_wp2
  gi_loopw [7] (fun i wr => i = .int .i64 0 ∧ J [] wr) (fun _ _ => 0)
  case atStart => exact ⟨rfl, H0.out⟩
  case round =>
    obtain ⟨rfl, hJs⟩ := hrel
    have HJs := Lib.hid hJs
    clear hJs
    gi_wp2
    go_end0
    exact ⟨⟨_, rfl⟩, HJs.out⟩

/-- What All hands back is an iterator over the entries that were there. -/
theorem log_stops (n : Nat) (hn : 3 ≤ n) (B Bs : Nat) (lv : Value) (ps : List (Ent × Value)) (w : World) (hBs : Blk w Bs 47 #[lv]) (hrow : w.ownsRow 0 31 4 lv ps.length (ecs ps))
    (hv : ∀ p ∈ ps, Bts w B 5 p.2 p.1.val) (hvl : ∀ p ∈ ps, p.1.val.length ≤ 1000000000) (hlen : ps.length ≤ 4194304) :
    SeqX Fence.wide n Try.prog 42 #[.pointer (some ⟨Bs, 0, none⟩)] Item.enc (itemPx w.heap.size ps) (Below w.heap.size) (fun ys => ys.map Item.bare = itemsTo ps ps.length) (fun pre => ∃ k, k ≤ ps.length ∧ pre.map Item.bare = itemsTo ps k) ps.length w := by
  intro l J Jx W hW hJ hJx hY h0
  have hc := (hBs.below_at hW hBs.lt).cell 0 lv rfl
  rcases hrow.2 with ⟨hn0, hp0⟩ | ⟨g, cap, cur, hlv, _, hh, hle, _⟩
  · have : ps = [] := by simpa using hp0
    subst this
    subst hn0
    exact (logAll1_nil_in n l Bs J W hc h0).mono fun e W' ⟨he, hj⟩ => ⟨he, .inl ⟨[], rfl, hj⟩⟩
  · subst hlv
    have hg : g < w.heap.size := lt_of_heap hh
    have hrow' := ownsRow_only hrow (Only.of_below (S := fun _ => False) hW) (fun _ _ h => h)
    exact logAll1_in n hn B l Bs w.heap.size w.heap.size g cap ps hlen hle hg J Jx W hW.size hW.size hJ hY hc hrow'
      (fun p hp W' hb => (hv p hp).below (hW.trans hb)) hvl h0

end Go.Proofs.Ytjjhndhigkhkpaa
