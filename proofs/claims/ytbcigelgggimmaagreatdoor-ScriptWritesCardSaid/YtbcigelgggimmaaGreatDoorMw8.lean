/- ScrE, ScrF, ScrG, ScrH, ScrI, ScrJ -/
import Derived.Test.YtbcigelgggimmaaGreatDoorMw7
import Derived.Laws.StructEq
import Derived.Test.YtbcigelgggimmaaGreatDoorShelf
import Derived.Outline
import Derived.WalkMore
import Derived.ScopeJumps
namespace Go.Proofs.YtbcigelgggimmaaGreatDoor
open Go Go.RowKit
theorem RS.drew {w : World} {B g : Nat} {rs : List UInt8} (h : RS w B g rs) : RS w.drew B g rs := h
/-- The table of kinds lies in the first block. -/
def KG (w : World) : Prop := 0 < w.heap.size ∧ ∀ i, i < 16 → w.cell? ⟨0, i, none⟩ = some (.int .i64 (kindL.getD i 0))
section
variable {w w' : World} {B g : Nat}
theorem KG.block (h : KG w) (hs : w.heap.size ≤ w'.heap.size) (hb : w'.heap[0]? = w.heap[0]?) : KG w' :=
  ⟨Nat.lt_of_lt_of_le h.1 hs, fun i hi => by rw [World.cell?_of_block (w := w) (a := ⟨0, i, none⟩) hb]; exact h.2 i hi⟩
theorem KG.below (h : KG w) (hb : Below B w w') (hB : 0 < B) : KG w' := h.block hb.size (hb.block 0 hB)
theorem KG.only {S : Nat → Prop} (h : KG w) (ho : Only S w w') (hS : ¬ S 0) : KG w' := h.block ho.size (ho.block 0 h.1 hS)
end
theorem pcells_at : ∀ (ps : List Part) (m j : Nat) (p : Part), ps[m]? = some p → j < 2 → (pcells ps)[m * 2 + j]? = (partV p)[j]?
  | [], m, j, p, h, _ => by simp at h
  | q :: ps, 0, j, p, h, hj => by
    have e : q = p := by simpa using h
    subst e
    have : pcells (q :: ps) = partV q ++ pcells ps := rfl
    rw [this, List.getElem?_append_left (by simp [partV]; omega)]
    simp
  | q :: ps, m + 1, j, p, h, hj => by
    have : pcells (q :: ps) = partV q ++ pcells ps := rfl
    rw [this, List.getElem?_append_right (by simp [partV]; omega)]
    have e : (m + 1) * 2 + j - (partV q).length = m * 2 + j := by simp [partV]; omega
    rw [e]
    exact pcells_at ps m j p (by simpa using h) hj
theorem row_heap {w : World} {base : Nat} {e : TypeId} {size : Nat} {v : Value} {n : Nat} {xs : List Value} (h : w.ownsRow base e size v n xs) {k : Nat} (hk : v.ownBlock = some k) : base ≤ k ∧ ∃ cur, w.heap[k]? = some (.cells cur e (0, 0)) := by
  rcases h.2 with ⟨rfl, _⟩ | ⟨g, cap, cur, rfl, hg, hh, _⟩
  · cases hk
  · cases hk; exact ⟨hg, cur, hh⟩
/-- The cells of a row of parts. -/
theorem part_at {w : World} {base : Nat} {A : Option Addr} {cap : Nat} {ps : List Part} (h : w.ownsRow base 164 2 (.slice A ps.length cap) ps.length (pcells ps)) {m : Nat} {p : Part} (hp : ps[m]? = some p) :
    ∃ pg, A = some ⟨pg, 0, none⟩ ∧ base ≤ pg ∧ w.cell? ⟨pg, m * 2, none⟩ = some (.func (.func (rdF p)) #[] #[]) ∧ w.cell? ⟨pg, m * 2 + 1, none⟩ = some (.func (.func (wrF p)) #[] #[]) ∧ ∃ cur, w.heap[pg]? = some (.cells cur 164 (0, 0)) := by
  have hm := (List.getElem?_eq_some_iff.1 hp).1
  rcases h.2 with ⟨hv, h0⟩ | ⟨pg, c, cur, hv, hg, hh, r⟩
  · omega
  · injection hv with e1 e2 e3
    subst e1
    have hc := h.cells (g := pg) rfl
    have h0 := hc (m * 2) (.func (.func (rdF p)) #[] #[]) (by have := pcells_at ps m 0 p hp (by omega); simpa [partV] using this)
    have h1 := hc (m * 2 + 1) (.func (.func (wrF p)) #[] #[]) (by rw [pcells_at ps m 1 p hp (by omega)]; rfl)
    rw [add_plain, Nat.zero_add] at h0 h1
    exact ⟨pg, rfl, hg, h0, h1, cur, hh⟩
/-- What the loop over the parts keeps. -/
structure RdI (w wr : World) (B g h : Nat) (A : Option Addr) (cap : Nat) (ps : List Part) (rs : List UInt8) (i : Nat) : Prop where
  st : ∃ o r, RS wr B g r ∧ OS wr B h o ∧ rdParts (ps.drop i) o r = rdOp rs
  row : wr.ownsRow w.heap.size 164 2 (.slice A ps.length cap) ps.length (pcells ps)
  zero : Blk wr w.heap.size 41 (opc ⟨0, 0, ⟨#[]⟩, [], 0, 0, 0, 0, 0⟩ (.slice none 0 0))
  only : Only (fun k => k = g) w wr
/-- One part more. -/
theorem RdI.step {w wr w' : World} {B g h : Nat} {A : Option Addr} {cap : Nat} {ps : List Part} {rs : List UInt8} {i : Nat} {p : Part} {o : OpV} {r : List UInt8}
    (hI : RdI w wr B g h A cap ps rs i) (ho : OS wr B h o) (hp : ps[i]? = some p) (hd : rdParts (ps.drop i) o r = rdOp rs) (hg : g < w.heap.size) (hh : w.heap.size < h)
    {ob : Obj} {e : Ending} (hr : RdPost B g h (rdPart p o r) (wr.alloc ob) e w') : RdI w w' B g h A cap ps rs (i + 1) := by
  obtain ⟨_, h1, h2, h3⟩ := hr
  have h4 : Only (fun k => k = g ∨ k = h) wr w' := (Only.of_below ((Below.refl _ _).alloc (Nat.le_refl _) ob)).trans h3 (fun _ _ h => h)
  refine ⟨⟨_, _, h1, h2, ?_⟩, ownsRow_only hI.row h4 ?_, hI.zero.only h4 (by rintro (e | e) <;> omega), hI.only.trans h4 ?_⟩
  · have hi := (List.getElem?_eq_some_iff.1 hp).1
    rw [List.drop_eq_getElem_cons hi, (List.getElem?_eq_some_iff.1 hp).2] at hd
    exact hd
  · intro k hk
    obtain ⟨hb, cur, hc⟩ := row_heap hI.row hk
    rintro (rfl | rfl)
    · omega
    · obtain ⟨V, hb2, _⟩ := ho
      exact hb2.ne_ hc (by decide) rfl
  · intro i hi h
    rcases h with h | h
    · exact h
    · have : i < w.heap.size := hi
      omega
/-- An operation stored whole into a box. -/
def set9 (w : World) (g : Nat) (o : OpV) (V : Value) : World :=
  ((((((((w.setCell ⟨g, 0, none⟩ (.int .i64 o.kind)).setCell ⟨g, 1, none⟩ (.int .u64 o.ticks)).setCell ⟨g, 2, none⟩ (.string o.key)).setCell ⟨g, 3, none⟩ V).setCell ⟨g, 4, none⟩ (.int .u64 o.ttl)).setCell ⟨g, 5, none⟩ (.int .i64 o.count)).setCell ⟨g, 6, none⟩ (.int .i64 o.bytes)).setCell ⟨g, 7, none⟩ (.int .i64 o.cursor)).setCell ⟨g, 8, none⟩ (.int .u64 o.birth)
theorem opc_set9 (o0 o : OpV) (V0 V : Value) : ((((((((((opc o0 V0).setIfInBounds 0 (.int .i64 o.kind)).setIfInBounds 1 (.int .u64 o.ticks)).setIfInBounds 2 (.string o.key)).setIfInBounds 3 V).setIfInBounds 4 (.int .u64 o.ttl)).setIfInBounds 5 (.int .i64 o.count)).setIfInBounds 6 (.int .i64 o.bytes)).setIfInBounds 7 (.int .i64 o.cursor)).setIfInBounds 8 (.int .u64 o.birth)) = opc o V := by
  simp [opc]
theorem Blk.set9 {w : World} {g : Nat} {o0 : OpV} {V0 : Value} (h : Blk w g 41 (opc o0 V0)) (o : OpV) (V : Value) : Blk (set9 w g o V) g 41 (opc o V) := by
  have h9 := ((((((((h.set_ 0 (.int .i64 o.kind)).set_ 1 (.int .u64 o.ticks)).set_ 2 (.string o.key)).set_ 3 V).set_ 4 (.int .u64 o.ttl)).set_ 5 (.int .i64 o.count)).set_ 6 (.int .i64 o.bytes)).set_ 7 (.int .i64 o.cursor)).set_ 8 (.int .u64 o.birth)
  rw [opc_set9] at h9
  exact h9
theorem Only.set9 (w : World) (g : Nat) (o : OpV) (V : Value) : Only (fun k => k = g) w (set9 w g o V) :=
  (((((((((Only.refl (fun k => k = g) w).setCell (p := ⟨g, 0, none⟩) (.inl rfl) _).setCell (p := ⟨g, 1, none⟩) (.inl rfl) _).setCell (p := ⟨g, 2, none⟩) (.inl rfl) _).setCell (p := ⟨g, 3, none⟩) (.inl rfl) _).setCell (p := ⟨g, 4, none⟩) (.inl rfl) _).setCell (p := ⟨g, 5, none⟩) (.inl rfl) _).setCell (p := ⟨g, 6, none⟩) (.inl rfl) _).setCell (p := ⟨g, 7, none⟩) (.inl rfl) _).setCell (p := ⟨g, 8, none⟩) (.inl rfl) _
theorem partsOf_le (k : Int) : (partsOf k).length ≤ 3 := by
  unfold partsOf
  repeat (first | (split; · decide) | (split) | decide)
set_option maxRecDepth 100000 in
set_option maxHeartbeats 2000000 in
theorem read_any (B g : Nat) (rs : List UInt8) (w : World) (hr : RS w B g rs) (hg : B ≤ g) (hB : 0 < B) (hk : KG w) (hs : B ≤ w.heap.size) :
    Calls Tryz.prog 97 #[.pointer (some ⟨g, 0, none⟩)] w fun e w' => ∃ V, e = .returned (opv (rdOp rs).1 V) ∧ Bts w' B 5 V (rdOp rs).1.val ∧ RS w' B g (rdOp rs).2 ∧ Only (fun k => k = g) w w' := by
  have HR := Lib.hid hr
  have HG := Lib.hid hg
  have HBp := Lib.hid hB
  have HK := Lib.hid hk
  have HS := Lib.hid hs
  clear hr hg hB hk hs
  go_enter Tryz.func97, Tryz.ntmps97
  go_wp2_with fail
  obtain ⟨wa, hwa⟩ : ∃ wa, w.alloc (.cells #[.int .i64 0, .int .u64 0, .string ⟨#[]⟩, .slice none 0 0, .int .u64 0, .int .i64 0, .int .i64 0, .int .i64 0, .int .u64 0] 41) = wa := ⟨_, rfl⟩
  have hba : Below w.heap.size w wa := hwa ▸ (Below.refl _ _).alloc (Nat.le_refl _) _
  have hza : Blk wa w.heap.size 41 #[.int .i64 0, .int .u64 0, .string ⟨#[]⟩, .slice none 0 0, .int .u64 0, .int .i64 0, .int .i64 0, .int .i64 0, .int .u64 0] := hwa ▸ Blk.new _ _ _
  rw [hwa]
  clear hwa
  have HRa := Lib.hid (HR.out.below hba)
  have HBa := Lib.hid hba
  have HZa := Lib.hid hza
  clear hba hza
  refine (number_rs B g rs 1 wa HRa.out HG.out (by omega)).mono ?_
  rintro e w1 ⟨rfl, hr1, hy1⟩
  have hgl := HR.out.lt
  have hz1 := HZa.out.only hy1 (show ¬ w.heap.size = g by omega)
  have hk1 : KG w1 := (HK.out.below HBa.out HK.out.1).only hy1 (show ¬ 0 = g by have := HG.out; have := HBp.out; omega)
  have HR1 := Lib.hid hr1
  have HY1 : Hid (Only (fun k => k = g) w w1) := Lib.hid ((Only.of_below HBa.out).trans hy1 (fun _ _ e => e))
  have HZ1 := Lib.hid hz1
  have HK1 := Lib.hid hk1
  have hn := numBE_lt (takeP 1 rs)
  rw [takeP_length] at hn
  obtain ⟨x, hx⟩ : ∃ x, numBE (takeP 1 rs) = x := ⟨_, rfl⟩
  rw [hx] at hn ⊢
  have HX := Lib.hid hx
  have hx256 : x < 256 := hn
  have hxI : (x : Int) < 256 := by omega
  clear hn hr1 hy1 hz1 hk1 hx hgl
  obtain ⟨kk, hkk⟩ : ∃ kk, kindL.getD (x % 16) 0 = kk := ⟨_, rfl⟩
  have hc : w1.cell? ⟨0, x % 16, none⟩ = some (.int .i64 kk) := hkk ▸ HK1.out.2 _ (by omega)
  have HKK := Lib.hid hkk
  clear hkk
  have hw : IntKind.u64.wrap ((x : Int) / 16) = (x : Int) / 16 := by rw [IntKind.wrap_u64]; omega
  by_cases h15 : x / 16 = 15
  · have e15 : ((x : Int) / 16 == 15) = true := by simp; omega
    go_upto_region 4 with fail
    obtain ⟨W, hW⟩ : ∃ W, w1.alloc (.cells #[.int .i64 kk, .int .u64 ((x : Int) / 16), .string ⟨#[]⟩, .slice none 0 0, .int .u64 0, .int .i64 0, .int .i64 0, .int .i64 0, .int .u64 0] 41) = W := ⟨_, rfl⟩
    have hbW : Below w1.heap.size w1 W := hW ▸ (Below.refl _ _).alloc (Nat.le_refl _) _
    have hoW : Blk W w1.heap.size 41 (opc (op0 x) (.slice none 0 0)) := by rw [← hW]; have := Blk.new w1 41 #[.int .i64 kk, .int .u64 ((x : Int) / 16), .string ⟨#[]⟩, .slice none 0 0, .int .u64 0, .int .i64 0, .int .i64 0, .int .i64 0, .int .u64 0]; unfold op0 opc; dsimp only; rw [HKK.out]; exact this
    have hrW : RS W B g (rs.drop 1) := HR1.out.below hbW
    have t0 : W.cell? ⟨w1.heap.size, 1, none⟩ = some (.int .u64 ((x : Int) / 16)) := hoW.cell 1 _ rfl
    have HRw := Lib.hid hrW
    have HOw := Lib.hid hoW
    have HLt : Hid (w.heap.size < w1.heap.size) := Lib.hid HZ1.out.lt
    have HZw := Lib.hid (HZ1.out.below hbW)
    have HYw : Hid (Only (fun k => k = g) w W) := Lib.hid (HY1.out.trans (Only.of_below (S := fun k => k = g) hbW) (fun _ _ h => h))
    try rw [hW]
    clear hbW hoW hrW hW hc
    have hn2 := numBE_lt (takeP 1 (rs.drop 1))
    rw [takeP_length] at hn2
    obtain ⟨y, hy⟩ : ∃ y, numBE (takeP 1 (rs.drop 1)) = y := ⟨_, rfl⟩
    rw [hy] at hn2
    have HYy := Lib.hid hy
    have hy256 : y < 256 := hn2
    have hwy : IntKind.u64.wrap (y : Int) = (y : Int) := by rw [IntKind.wrap_u64]; omega
    have hwz : IntKind.u64.wrap ((x : Int) / 16 + (y : Int)) = 15 + (y : Int) := by rw [IntKind.wrap_u64]; omega
    have hnum := fun wx (h : RS wx B g (rs.drop 1)) => number_rs B g (rs.drop 1) 1 wx h HG.out (by omega)
    rw [hy] at hnum
    have HNum := Lib.hid hnum
    clear hy hn2 hnum
    go_region_law
      ((first | (go_simp; go_at_call 153; refine (HNum.out _ HRw.out.drew).mono ?_; rintro e w2 ⟨rfl, hr2, hy2⟩; have hb2 := HOw.out.drew.only hy2 (show ¬ w1.heap.size = g by have := HR.out.lt; have := HLt.out; omega); have t1 : w2.cell? ⟨w1.heap.size, 1, none⟩ = some (.int .u64 ((x : Int) / 16)) := hb2.cell 1 _ rfl; have f1 := hb2.frozen 1; have HR2 := Lib.hid hr2; have HY2 := Lib.hid hy2; have HB2 := Lib.hid hb2; clear hr2 hy2 hb2)))
    all_goals
      have hhd : rdHead rs = ({ op0 x with ticks := 15 + (y : Int) }, (rs.drop 1).drop 1) := by unfold rdHead; rw [HX.out, if_pos h15, HYy.out]
      have hon : Only (fun k => k = w1.heap.size) w2 (w2.setCell ⟨w1.heap.size, 1, none⟩ (.int .u64 (15 + (y : Int)))) := Only.set1 _ _ _ _
      have hset : Blk (w2.setCell ⟨w1.heap.size, 1, none⟩ (.int .u64 (15 + (y : Int)))) w1.heap.size 41 (opc (rdHead rs).1 (.slice none 0 0)) := by
        have := HB2.out.set_ 1 (.int .u64 (15 + (y : Int)))
        rw [hhd]
        have e : (opc (op0 x) (.slice none 0 0)).setIfInBounds 1 (.int .u64 (15 + (y : Int))) = opc { op0 x with ticks := 15 + (y : Int) } (.slice none 0 0) := by simp [opc]
        rw [e] at this
        exact this
      have hr9 : RS (w2.setCell ⟨w1.heap.size, 1, none⟩ (.int .u64 (15 + (y : Int)))) B g (rdHead rs).2 := by
        rw [hhd]
        obtain ⟨V, h3, h4⟩ := HR2.out
        exact ⟨V, h3.only hon (by have := HR.out.lt; have := HLt.out; omega), h4.keep (KeepB.of_blk HB2.out (by decide) (by have := HLt.out; have := HS.out; omega) hon)⟩
      have hz9 : Blk (w2.setCell ⟨w1.heap.size, 1, none⟩ (.int .u64 (15 + (y : Int)))) w.heap.size 41 (opc ⟨0, 0, ⟨#[]⟩, [], 0, 0, 0, 0, 0⟩ (.slice none 0 0)) := (HZw.out.drew.only HY2.out (by have := HR.out.lt; omega)).only hon (by have := HLt.out; omega)
      have hy9 : Only (fun k => k = g) w (w2.setCell ⟨w1.heap.size, 1, none⟩ (.int .u64 (15 + (y : Int)))) := (HYw.out.drew.trans HY2.out (fun _ _ e => e)).trans hon (fun i hi e => by have := HLt.out; omega)
      generalize World.setCell _ _ _ = W9 at hset hr9 hz9 hy9 ⊢
      have HOw : Hid (OS W9 B w1.heap.size (rdHead rs).1) := Lib.hid ⟨.slice none 0 0, hset, by rw [hhd]; exact Bts.nil _ _ _⟩
      have HRw := Lib.hid hr9
      have HZw := Lib.hid hz9
      have HYw := Lib.hid hy9
      clear hset hr9 hz9 hy9 hhd t1 f1 t0 hon HR2 HY2 HB2 HNum
      go_upto_region 5 with fail
      obtain ⟨Vo, hbo, hvo⟩ := HOw.out
      have k0 : W9.cell? ⟨w1.heap.size, 0, none⟩ = some (.int .i64 (rdHead rs).1.kind) := hbo.cell 0 _ rfl
      clear hbo hvo Vo
      go_wp2_with fail
      refine (parts_any _ _).mono ?_
      rintro e w5 ⟨v5, rfl, hrow, hb5⟩
      obtain ⟨A5, cap5, rfl, _, _⟩ := own_form hrow
      have hI : RdI w w5 B g w1.heap.size A5 cap5 (partsOf (rdHead rs).1.kind) rs 0 :=
        ⟨⟨(rdHead rs).1, (rdHead rs).2, HRw.out.below hb5, HOw.out.below hb5, by rw [List.drop_zero]; rfl⟩, ownsRow_base hrow HYw.out.size, HZw.out.below hb5, HYw.out.trans (Only.of_below (S := fun k => k = g) hb5) (fun _ _ h => h)⟩
      have HI := Lib.hid hI
      obtain ⟨ps, hps⟩ : ∃ ps, partsOf (rdHead rs).1.kind = ps := ⟨_, rfl⟩
      rw [hps] at HI ⊢
      have hpl : ps.length ≤ 3 := by rw [← hps]; exact partsOf_le _
      have hpI : (ps.length : Int) ≤ 3 := by omega
      clear hrow hb5 hI hps k0
      go_wp2_with fail
      go_loopw [6, 31] (fun _ i wr => ∃ m : Nat, m ≤ ps.length ∧ i = .int .i64 m ∧ RdI w wr B g w1.heap.size A5 cap5 ps rs m) (fun _ i _ => ps.length - (intOf i).toNat)
      case atStart => exact ⟨0, by omega, rfl, HI.out⟩
      case round =>
        obtain ⟨m, hm, rfl, hI⟩ := hrel
        have HIm := Lib.hid hI
        clear HI HRw HOw HZw HYw
        by_cases hml : m < ps.length
        · obtain ⟨p, hp⟩ : ∃ p, ps[m]? = some p := ⟨_, List.getElem?_eq_getElem hml⟩
          obtain ⟨pg, rfl, hpg, q0, q1, _⟩ := part_at HIm.out.row hp
          obtain ⟨o, r, hr, ho, hd⟩ := HIm.out.st
          have HRr := Lib.hid hr
          have HOo := Lib.hid ho
          have HDd := Lib.hid hd
          have HPp := Lib.hid hp
          have hmI : (m : Int) < (ps.length : Int) := by omega
          have hcI : (ps.length : Int) ≤ 3 := hpI
          clear hr ho hd hp hI hpg
          have HRd := fun (wx : World) (hb : Below wr.heap.size wr wx) => rd_any p B g w1.heap.size r o wx (HRr.out.below hb) (HOo.out.below hb) HG.out (by have := HS.out; have := HLt.out; omega)
          cases p
          all_goals
            simp only [rdF, wrF] at q0 q1 HRd
            have HRd := Lib.hid HRd
            go_wp2_with fail
            refine (HRd.out _ ((Below.refl _ _).alloc (Nat.le_refl _) _)).mono ?_
            rintro e w7 hpost
            obtain ⟨u, rfl⟩ := hpost.1
            have hst := RdI.step HIm.out HOo.out HPp.out HDd.out HR.out.lt HLt.out hpost
            have HSt := Lib.hid hst
            clear hst hpost q0 q1
            go_wp2_with fail
            go_roundw
            case rel => exact ⟨m + 1, by omega, by go_num, HSt.out⟩
            case measure => simp [intOf]; omega
        · obtain rfl : m = ps.length := by omega
          obtain ⟨o, r, hr, ho, hd⟩ := HIm.out.st
          rw [List.drop_length] at hd
          have e1 : o = (rdOp rs).1 := congrArg Prod.fst hd
          have e2 : r = (rdOp rs).2 := congrArg Prod.snd hd
          subst e1 e2
          obtain ⟨Vo, hbo, hvo⟩ := ho
          have k0 : wr.cell? ⟨w1.heap.size, 0, none⟩ = some (.int .i64 (rdOp rs).1.kind) := hbo.cell 0 _ rfl
          have k1 : wr.cell? ⟨w1.heap.size, 1, none⟩ = some (.int .u64 (rdOp rs).1.ticks) := hbo.cell 1 _ rfl
          have k2 : wr.cell? ⟨w1.heap.size, 2, none⟩ = some (.string (rdOp rs).1.key) := hbo.cell 2 _ rfl
          have k3 : wr.cell? ⟨w1.heap.size, 3, none⟩ = some Vo := hbo.cell 3 _ rfl
          have k4 : wr.cell? ⟨w1.heap.size, 4, none⟩ = some (.int .u64 (rdOp rs).1.ttl) := hbo.cell 4 _ rfl
          have k5 : wr.cell? ⟨w1.heap.size, 5, none⟩ = some (.int .i64 (rdOp rs).1.count) := hbo.cell 5 _ rfl
          have k6 : wr.cell? ⟨w1.heap.size, 6, none⟩ = some (.int .i64 (rdOp rs).1.bytes) := hbo.cell 6 _ rfl
          have k7 : wr.cell? ⟨w1.heap.size, 7, none⟩ = some (.int .i64 (rdOp rs).1.cursor) := hbo.cell 7 _ rfl
          have k8 : wr.cell? ⟨w1.heap.size, 8, none⟩ = some (.int .u64 (rdOp rs).1.birth) := hbo.cell 8 _ rfl
          have hz := HIm.out.zero
          have j0 : wr.cell? ⟨w.heap.size, 0, none⟩ = some (.int .i64 0) := hz.cell 0 _ rfl
          have j1 : wr.cell? ⟨w.heap.size, 1, none⟩ = some (.int .u64 0) := hz.cell 1 _ rfl
          have j2 : wr.cell? ⟨w.heap.size, 2, none⟩ = some (.string ⟨#[]⟩) := hz.cell 2 _ rfl
          have j3 : wr.cell? ⟨w.heap.size, 3, none⟩ = some (.slice none 0 0) := hz.cell 3 _ rfl
          have j4 : wr.cell? ⟨w.heap.size, 4, none⟩ = some (.int .u64 0) := hz.cell 4 _ rfl
          have j5 : wr.cell? ⟨w.heap.size, 5, none⟩ = some (.int .i64 0) := hz.cell 5 _ rfl
          have j6 : wr.cell? ⟨w.heap.size, 6, none⟩ = some (.int .i64 0) := hz.cell 6 _ rfl
          have j7 : wr.cell? ⟨w.heap.size, 7, none⟩ = some (.int .i64 0) := hz.cell 7 _ rfl
          have j8 : wr.cell? ⟨w.heap.size, 8, none⟩ = some (.int .u64 0) := hz.cell 8 _ rfl
          have jf := hz.frozen
          have hne := HLt.out
          obtain ⟨VA, vc, rfl⟩ := hvo.form
          have HRr := Lib.hid hr
          have HVv := Lib.hid hvo
          have HZz := Lib.hid hz
          have hlz := hz.lt
          clear hr hbo hvo hz hd hI
          go_wp2_with fail
          have h9 := Blk.set9 HZz.out (rdOp rs).1 (.slice VA (rdOp rs).1.val.length vc)
          have o9 := Only.set9 wr w.heap.size (rdOp rs).1 (.slice VA (rdOp rs).1.val.length vc)
          unfold set9 at h9 o9
          generalize World.setCell _ _ _ = w9 at h9 o9 ⊢
          have i0 : w9.cell? ⟨w.heap.size, 0, none⟩ = some (.int .i64 (rdOp rs).1.kind) := h9.cell 0 _ rfl
          have i1 : w9.cell? ⟨w.heap.size, 1, none⟩ = some (.int .u64 (rdOp rs).1.ticks) := h9.cell 1 _ rfl
          have i2 : w9.cell? ⟨w.heap.size, 2, none⟩ = some (.string (rdOp rs).1.key) := h9.cell 2 _ rfl
          have i3 : w9.cell? ⟨w.heap.size, 3, none⟩ = some (.slice VA (rdOp rs).1.val.length vc) := h9.cell 3 _ rfl
          have i4 : w9.cell? ⟨w.heap.size, 4, none⟩ = some (.int .u64 (rdOp rs).1.ttl) := h9.cell 4 _ rfl
          have i5 : w9.cell? ⟨w.heap.size, 5, none⟩ = some (.int .i64 (rdOp rs).1.count) := h9.cell 5 _ rfl
          have i6 : w9.cell? ⟨w.heap.size, 6, none⟩ = some (.int .i64 (rdOp rs).1.bytes) := h9.cell 6 _ rfl
          have i7 : w9.cell? ⟨w.heap.size, 7, none⟩ = some (.int .i64 (rdOp rs).1.cursor) := h9.cell 7 _ rfl
          have i8 : w9.cell? ⟨w.heap.size, 8, none⟩ = some (.int .u64 (rdOp rs).1.birth) := h9.cell 8 _ rfl
          have hk9 : KeepB B 5 wr w9 := KeepB.of_blk HZz.out (by decide) HS.out o9
          refine bodyPost_ret (v := opv (rdOp rs).1 (.slice VA (rdOp rs).1.val.length vc)) (by simp [results, Tryz.results97, go_sem, opv, opc, i0, i1, i2, i3, i4, i5, i6, i7, i8]) rfl ⟨_, rfl, HVv.out.keep hk9, ?_, HIm.out.only.trans o9 (fun i hi e => by omega)⟩
          obtain ⟨V2, h3, h4⟩ := HRr.out
          exact ⟨V2, h3.only o9 (by have := HR.out.lt; omega), h4.keep hk9⟩
  · have e15 : ((x : Int) / 16 == 15) = false := by simp; omega
    go_upto_region 5 with fail
    obtain ⟨W, hW⟩ : ∃ W, w1.alloc (.cells #[.int .i64 kk, .int .u64 ((x : Int) / 16), .string ⟨#[]⟩, .slice none 0 0, .int .u64 0, .int .i64 0, .int .i64 0, .int .i64 0, .int .u64 0] 41) = W := ⟨_, rfl⟩
    have hbW : Below w1.heap.size w1 W := hW ▸ (Below.refl _ _).alloc (Nat.le_refl _) _
    have hhd : rdHead rs = (op0 x, rs.drop 1) := by unfold rdHead; rw [HX.out, if_neg h15]
    have hoW : OS W B w1.heap.size (rdHead rs).1 := ⟨.slice none 0 0, by rw [hhd, ← hW]; have := Blk.new w1 41 #[.int .i64 kk, .int .u64 ((x : Int) / 16), .string ⟨#[]⟩, .slice none 0 0, .int .u64 0, .int .i64 0, .int .i64 0, .int .i64 0, .int .u64 0]; unfold op0 opc; dsimp only; rw [HKK.out]; exact this, by rw [hhd]; exact Bts.nil _ _ _⟩
    have hrW : RS W B g (rdHead rs).2 := by rw [hhd]; exact HR1.out.below hbW
    have HRw := Lib.hid hrW
    have HOw := Lib.hid hoW
    have HZw := Lib.hid (HZ1.out.below hbW)
    have HLt : Hid (w.heap.size < w1.heap.size) := Lib.hid HZ1.out.lt
    have HYw : Hid (Only (fun k => k = g) w W) := Lib.hid (HY1.out.trans (Only.of_below (S := fun k => k = g) hbW) (fun _ _ h => h))
    rw [hW]
    clear hbW hoW hrW hW hhd hc
    obtain ⟨Vo, hbo, hvo⟩ := HOw.out
    have k0 : W.cell? ⟨w1.heap.size, 0, none⟩ = some (.int .i64 (rdHead rs).1.kind) := hbo.cell 0 _ rfl
    clear hbo hvo Vo
    go_wp2_with fail
    refine (parts_any _ _).mono ?_
    rintro e w5 ⟨v5, rfl, hrow, hb5⟩
    obtain ⟨A5, cap5, rfl, _, _⟩ := own_form hrow
    have hI : RdI w w5 B g w1.heap.size A5 cap5 (partsOf (rdHead rs).1.kind) rs 0 :=
      ⟨⟨(rdHead rs).1, (rdHead rs).2, HRw.out.below hb5, HOw.out.below hb5, by rw [List.drop_zero]; rfl⟩, ownsRow_base hrow HYw.out.size, HZw.out.below hb5, HYw.out.trans (Only.of_below (S := fun k => k = g) hb5) (fun _ _ h => h)⟩
    have HI := Lib.hid hI
    obtain ⟨ps, hps⟩ : ∃ ps, partsOf (rdHead rs).1.kind = ps := ⟨_, rfl⟩
    rw [hps] at HI ⊢
    have hpl : ps.length ≤ 3 := by rw [← hps]; exact partsOf_le _
    have hpI : (ps.length : Int) ≤ 3 := by omega
    clear hrow hb5 hI hps k0
    go_wp2_with fail
    go_loopw [6, 31] (fun _ i wr => ∃ m : Nat, m ≤ ps.length ∧ i = .int .i64 m ∧ RdI w wr B g w1.heap.size A5 cap5 ps rs m) (fun _ i _ => ps.length - (intOf i).toNat)
    case atStart => exact ⟨0, by omega, rfl, HI.out⟩
    case round =>
      obtain ⟨m, hm, rfl, hI⟩ := hrel
      have HIm := Lib.hid hI
      clear HI HRw HOw HZw HYw
      by_cases hml : m < ps.length
      · obtain ⟨p, hp⟩ : ∃ p, ps[m]? = some p := ⟨_, List.getElem?_eq_getElem hml⟩
        obtain ⟨pg, rfl, hpg, q0, q1, _⟩ := part_at HIm.out.row hp
        obtain ⟨o, r, hr, ho, hd⟩ := HIm.out.st
        have HRr := Lib.hid hr
        have HOo := Lib.hid ho
        have HDd := Lib.hid hd
        have HPp := Lib.hid hp
        have hmI : (m : Int) < (ps.length : Int) := by omega
        have hcI : (ps.length : Int) ≤ 3 := hpI
        clear hr ho hd hp hI hpg
        have HRd := fun (wx : World) (hb : Below wr.heap.size wr wx) => rd_any p B g w1.heap.size r o wx (HRr.out.below hb) (HOo.out.below hb) HG.out (by have := HS.out; have := HLt.out; omega)
        cases p
        all_goals
          simp only [rdF, wrF] at q0 q1 HRd
          have HRd := Lib.hid HRd
          go_wp2_with fail
          refine (HRd.out _ ((Below.refl _ _).alloc (Nat.le_refl _) _)).mono ?_
          rintro e w7 hpost
          obtain ⟨u, rfl⟩ := hpost.1
          have hst := RdI.step HIm.out HOo.out HPp.out HDd.out HR.out.lt HLt.out hpost
          have HSt := Lib.hid hst
          clear hst hpost q0 q1
          go_wp2_with fail
          go_roundw
          case rel => exact ⟨m + 1, by omega, by go_num, HSt.out⟩
          case measure => simp [intOf]; omega
      · obtain rfl : m = ps.length := by omega
        obtain ⟨o, r, hr, ho, hd⟩ := HIm.out.st
        rw [List.drop_length] at hd
        have e1 : o = (rdOp rs).1 := congrArg Prod.fst hd
        have e2 : r = (rdOp rs).2 := congrArg Prod.snd hd
        subst e1 e2
        obtain ⟨Vo, hbo, hvo⟩ := ho
        have k0 : wr.cell? ⟨w1.heap.size, 0, none⟩ = some (.int .i64 (rdOp rs).1.kind) := hbo.cell 0 _ rfl
        have k1 : wr.cell? ⟨w1.heap.size, 1, none⟩ = some (.int .u64 (rdOp rs).1.ticks) := hbo.cell 1 _ rfl
        have k2 : wr.cell? ⟨w1.heap.size, 2, none⟩ = some (.string (rdOp rs).1.key) := hbo.cell 2 _ rfl
        have k3 : wr.cell? ⟨w1.heap.size, 3, none⟩ = some Vo := hbo.cell 3 _ rfl
        have k4 : wr.cell? ⟨w1.heap.size, 4, none⟩ = some (.int .u64 (rdOp rs).1.ttl) := hbo.cell 4 _ rfl
        have k5 : wr.cell? ⟨w1.heap.size, 5, none⟩ = some (.int .i64 (rdOp rs).1.count) := hbo.cell 5 _ rfl
        have k6 : wr.cell? ⟨w1.heap.size, 6, none⟩ = some (.int .i64 (rdOp rs).1.bytes) := hbo.cell 6 _ rfl
        have k7 : wr.cell? ⟨w1.heap.size, 7, none⟩ = some (.int .i64 (rdOp rs).1.cursor) := hbo.cell 7 _ rfl
        have k8 : wr.cell? ⟨w1.heap.size, 8, none⟩ = some (.int .u64 (rdOp rs).1.birth) := hbo.cell 8 _ rfl
        have hz := HIm.out.zero
        have j0 : wr.cell? ⟨w.heap.size, 0, none⟩ = some (.int .i64 0) := hz.cell 0 _ rfl
        have j1 : wr.cell? ⟨w.heap.size, 1, none⟩ = some (.int .u64 0) := hz.cell 1 _ rfl
        have j2 : wr.cell? ⟨w.heap.size, 2, none⟩ = some (.string ⟨#[]⟩) := hz.cell 2 _ rfl
        have j3 : wr.cell? ⟨w.heap.size, 3, none⟩ = some (.slice none 0 0) := hz.cell 3 _ rfl
        have j4 : wr.cell? ⟨w.heap.size, 4, none⟩ = some (.int .u64 0) := hz.cell 4 _ rfl
        have j5 : wr.cell? ⟨w.heap.size, 5, none⟩ = some (.int .i64 0) := hz.cell 5 _ rfl
        have j6 : wr.cell? ⟨w.heap.size, 6, none⟩ = some (.int .i64 0) := hz.cell 6 _ rfl
        have j7 : wr.cell? ⟨w.heap.size, 7, none⟩ = some (.int .i64 0) := hz.cell 7 _ rfl
        have j8 : wr.cell? ⟨w.heap.size, 8, none⟩ = some (.int .u64 0) := hz.cell 8 _ rfl
        have jf := hz.frozen
        have hne := HLt.out
        obtain ⟨VA, vc, rfl⟩ := hvo.form
        have HRr := Lib.hid hr
        have HVv := Lib.hid hvo
        have HZz := Lib.hid hz
        have hlz := hz.lt
        clear hr hbo hvo hz hd hI
        go_wp2_with fail
        have h9 := Blk.set9 HZz.out (rdOp rs).1 (.slice VA (rdOp rs).1.val.length vc)
        have o9 := Only.set9 wr w.heap.size (rdOp rs).1 (.slice VA (rdOp rs).1.val.length vc)
        unfold set9 at h9 o9
        generalize World.setCell _ _ _ = w9 at h9 o9 ⊢
        have i0 : w9.cell? ⟨w.heap.size, 0, none⟩ = some (.int .i64 (rdOp rs).1.kind) := h9.cell 0 _ rfl
        have i1 : w9.cell? ⟨w.heap.size, 1, none⟩ = some (.int .u64 (rdOp rs).1.ticks) := h9.cell 1 _ rfl
        have i2 : w9.cell? ⟨w.heap.size, 2, none⟩ = some (.string (rdOp rs).1.key) := h9.cell 2 _ rfl
        have i3 : w9.cell? ⟨w.heap.size, 3, none⟩ = some (.slice VA (rdOp rs).1.val.length vc) := h9.cell 3 _ rfl
        have i4 : w9.cell? ⟨w.heap.size, 4, none⟩ = some (.int .u64 (rdOp rs).1.ttl) := h9.cell 4 _ rfl
        have i5 : w9.cell? ⟨w.heap.size, 5, none⟩ = some (.int .i64 (rdOp rs).1.count) := h9.cell 5 _ rfl
        have i6 : w9.cell? ⟨w.heap.size, 6, none⟩ = some (.int .i64 (rdOp rs).1.bytes) := h9.cell 6 _ rfl
        have i7 : w9.cell? ⟨w.heap.size, 7, none⟩ = some (.int .i64 (rdOp rs).1.cursor) := h9.cell 7 _ rfl
        have i8 : w9.cell? ⟨w.heap.size, 8, none⟩ = some (.int .u64 (rdOp rs).1.birth) := h9.cell 8 _ rfl
        have hk9 : KeepB B 5 wr w9 := KeepB.of_blk HZz.out (by decide) HS.out o9
        refine bodyPost_ret (v := opv (rdOp rs).1 (.slice VA (rdOp rs).1.val.length vc)) (by simp [results, Tryz.results97, go_sem, opv, opc, i0, i1, i2, i3, i4, i5, i6, i7, i8]) rfl ⟨_, rfl, HVv.out.keep hk9, ?_, HIm.out.only.trans o9 (fun i hi e => by omega)⟩
        obtain ⟨V2, h3, h4⟩ := HRr.out
        exact ⟨V2, h3.only o9 (by have := HR.out.lt; omega), h4.keep hk9⟩
end Go.Proofs.YtbcigelgggimmaaGreatDoor
namespace Go.Proofs.YtbcigelgggimmaaGreatDoor
open Go Go.RowKit
/-- Two slices of bytes are equal. -/
theorem bytesEqual_any (B1 B2 : Nat) (v u : Value) (xs ys : List UInt8) (w : World) (hv : Bts w B1 5 v xs) (hu : Bts w B2 5 u ys) :
    Calls Tryz.prog 57 #[v, u] w fun e w' => e = .returned (.bool (decide (xs = ys))) ∧ w = w' := by
  have cv := hv.string (P := Tryz.prog) 39 9 Tryz.underlying39 Tryz.underlying5 Tryz.underlying9
  have cu := hu.string (P := Tryz.prog) 39 9 Tryz.underlying39 Tryz.underlying5 Tryz.underlying9
  obtain ⟨A, cap, rfl⟩ := hv.form
  obtain ⟨A2, cap2, rfl⟩ := hu.form
  clear hv hu
  have he : (xs == ys) = decide (xs = ys) := by
    by_cases h : xs = ys
    · subst h; simp
    · simp [h]
  have HE := Lib.hid he
  clear he
  go_enter Tryz.func57, Tryz.ntmps57
  go_wp2_with fail
  go_ret
  exact ⟨by rw [← HE.out]; rfl, rfl⟩
def plc (o : OpV) : Array Value := #[.int .i64 o.kind, .int .u64 o.ticks, .int .u64 o.ttl, .string o.key, .int .i64 o.count, .int .i64 o.bytes, .int .i64 o.cursor, .int .u64 o.birth]
def eqP (a b : OpV) : Bool := decide (a.kind = b.kind ∧ a.ticks = b.ticks ∧ a.ttl = b.ttl ∧ a.key = b.key ∧ a.count = b.count ∧ a.bytes = b.bytes ∧ a.cursor = b.cursor ∧ a.birth = b.birth)
theorem key_eqb (a b : ByteArray) : (a.toList == b.toList) = decide (a = b) := by
  by_cases h : a = b
  · subst h; simp
  · rw [decide_eq_false h, beq_eq_false_iff_ne]
    intro e
    rw [ByteArray.toList_eq, ByteArray.toList_eq] at e
    exact h (WideShapes.bytes_inj e)
set_option maxHeartbeats 1000000 in
theorem eql_plain (a b : OpV) (w : World) : (binOp .eql 99 (.agg (plc a)) (.agg (plc b))).run Tryz.prog w = .ok (.bool (eqP a b)) w := by
  rw [run_eql_struct]
  unfold plc eqP
  by_cases h1 : a.kind = b.kind <;> by_cases h2 : a.ticks = b.ticks <;> by_cases h3 : a.ttl = b.ttl <;> by_cases h4 : a.key = b.key
  all_goals simp [go_sem, key_eqb, *]
  by_cases h5 : a.count = b.count <;> by_cases h6 : a.bytes = b.bytes <;> by_cases h7 : a.cursor = b.cursor <;> by_cases h8 : a.birth = b.birth <;> simp [*]
def plcs (o : OpV) : List Value := [.int .i64 o.kind, .int .u64 o.ticks, .int .u64 o.ttl, .string o.key, .int .i64 o.count, .int .i64 o.bytes, .int .i64 o.cursor, .int .u64 o.birth]
set_option maxHeartbeats 1000000 in
theorem of_any (o : OpV) (A : Option Addr) (n cap : Nat) (w : World) :
    Calls Tryz.prog 61 #[opv o (.slice A n cap)] w fun e w' => e = .returned (.agg (plc o)) ∧ Below w.heap.size w w' := by
  unfold opv opc
  go_enter Tryz.func61, Tryz.ntmps61
  go_wp2_with fail
  have h2 := Blk.new2 w (.cells #[.int .i64 o.kind, .int .u64 o.ticks, .string o.key, .slice A n cap, .int .u64 o.ttl, .int .i64 o.count, .int .i64 o.bytes, .int .i64 o.cursor, .int .u64 o.birth] 41) 99 #[.int .i64 o.kind, .int .u64 o.ticks, .int .u64 o.ttl, .string o.key, .int .i64 o.count, .int .i64 o.bytes, .int .i64 o.cursor, .int .u64 o.birth]
  have hb : Below w.heap.size w ((w.alloc (.cells #[.int .i64 o.kind, .int .u64 o.ticks, .string o.key, .slice A n cap, .int .u64 o.ttl, .int .i64 o.count, .int .i64 o.bytes, .int .i64 o.cursor, .int .u64 o.birth] 41)).alloc (.cells #[.int .i64 o.kind, .int .u64 o.ticks, .int .u64 o.ttl, .string o.key, .int .i64 o.count, .int .i64 o.bytes, .int .i64 o.cursor, .int .u64 o.birth] 99)) := ((Below.refl _ _).alloc (Nat.le_refl _) _).alloc (by simp) _
  generalize World.alloc _ _ = w2 at h2 hb ⊢
  have q0 : w2.cell? ⟨w.heap.size + 1, 0, none⟩ = some (.int .i64 o.kind) := h2.cell 0 _ rfl
  have q1 : w2.cell? ⟨w.heap.size + 1, 1, none⟩ = some (.int .u64 o.ticks) := h2.cell 1 _ rfl
  have q2 : w2.cell? ⟨w.heap.size + 1, 2, none⟩ = some (.int .u64 o.ttl) := h2.cell 2 _ rfl
  have q3 : w2.cell? ⟨w.heap.size + 1, 3, none⟩ = some (.string o.key) := h2.cell 3 _ rfl
  have q4 : w2.cell? ⟨w.heap.size + 1, 4, none⟩ = some (.int .i64 o.count) := h2.cell 4 _ rfl
  have q5 : w2.cell? ⟨w.heap.size + 1, 5, none⟩ = some (.int .i64 o.bytes) := h2.cell 5 _ rfl
  have q6 : w2.cell? ⟨w.heap.size + 1, 6, none⟩ = some (.int .i64 o.cursor) := h2.cell 6 _ rfl
  have q7 : w2.cell? ⟨w.heap.size + 1, 7, none⟩ = some (.int .u64 o.birth) := h2.cell 7 _ rfl
  refine bodyPost_ret (v := .agg (plc o)) (by simp [results, Tryz.results61, go_sem, plc, q0, q1, q2, q3, q4, q5, q6, q7]) rfl ⟨rfl, hb⟩
theorem eqO_and (a b : OpV) : decide (eqO a b) = (eqP a b && decide (a.val = b.val)) := by
  by_cases h : eqO a b
  · rw [decide_eq_true h]
    obtain ⟨h1, h2, h3, h4, h5, h6, h7, h8, h9⟩ := h
    have e1 : eqP a b = true := decide_eq_true ⟨h1, h2, h5, h3, h6, h7, h8, h9⟩
    rw [e1, decide_eq_true h4]; rfl
  · rw [decide_eq_false h]
    by_cases h4 : a.val = b.val
    · have e1 : eqP a b = false := decide_eq_false fun ⟨h1, h2, h5, h3, h6, h7, h8, h9⟩ => h ⟨h1, h2, h3, h4, h5, h6, h7, h8, h9⟩
      rw [e1]; rfl
    · rw [decide_eq_false h4, Bool.and_false]
/-- The cells of an operation in a box. -/
theorem op_cells {W : World} {g : Nat} {a : OpV} {V : Value} (h : Blk W g 41 (opc a V)) : W.cell? ⟨g, 0, none⟩ = some (.int .i64 a.kind) ∧ W.cell? ⟨g, 1, none⟩ = some (.int .u64 a.ticks) ∧ W.cell? ⟨g, 2, none⟩ = some (.string a.key) ∧ W.cell? ⟨g, 3, none⟩ = some (V) ∧ W.cell? ⟨g, 4, none⟩ = some (.int .u64 a.ttl) ∧ W.cell? ⟨g, 5, none⟩ = some (.int .i64 a.count) ∧ W.cell? ⟨g, 6, none⟩ = some (.int .i64 a.bytes) ∧ W.cell? ⟨g, 7, none⟩ = some (.int .i64 a.cursor) ∧ W.cell? ⟨g, 8, none⟩ = some (.int .u64 a.birth) :=
  ⟨h.cell 0 _ rfl, h.cell 1 _ rfl, h.cell 2 _ rfl, h.cell 3 _ rfl, h.cell 4 _ rfl, h.cell 5 _ rfl, h.cell 6 _ rfl, h.cell 7 _ rfl, h.cell 8 _ rfl⟩
/-- What Equal reads. -/
structure EqI (w W : World) (B1 B2 : Nat) (a b : OpV) (VA VB : Value) : Prop where
  ba : Blk W w.heap.size 41 (opc a VA)
  bb : Blk W (w.heap.size + 1) 41 (opc b VB)
  va : Bts W B1 5 VA a.val
  vb : Bts W B2 5 VB b.val
  below : Below w.heap.size w W
theorem EqI.adv {w W W' : World} {B1 B2 : Nat} {a b : OpV} {VA VB : Value} (h : EqI w W B1 B2 a b VA VB) (hb : Below W.heap.size W W') : EqI w W' B1 B2 a b VA VB :=
  ⟨h.ba.below hb, h.bb.below hb, h.va.below hb, h.vb.below hb, h.below.trans (hb.mono h.below.size)⟩
set_option maxHeartbeats 4000000 in
theorem equal_any (B1 B2 : Nat) (a b : OpV) (VA VB : Value) (w : World) (ha : Bts w B1 5 VA a.val) (hb : Bts w B2 5 VB b.val) :
    Calls Tryz.prog 20 #[opv a VA, opv b VB] w fun e w' => e = .returned (.bool (decide (eqO a b))) ∧ Below w.heap.size w w' := by
  obtain ⟨AA, ac, rfl⟩ := ha.form
  obtain ⟨AB, bc, rfl⟩ := hb.form
  unfold opv opc
  obtain ⟨W, hW⟩ : ∃ W, (w.alloc (.cells (opc a (.slice AA a.val.length ac)) 41)).alloc (.cells (opc b (.slice AB b.val.length bc)) 41) = W := ⟨_, rfl⟩
  have hbe : Below w.heap.size w W := hW ▸ ((Below.refl _ _).alloc (Nat.le_refl _) _).alloc (by simp) _
  have hI : EqI w W B1 B2 a b (.slice AA a.val.length ac) (.slice AB b.val.length bc) := ⟨hW ▸ (Blk.new _ _ _).alloc _, hW ▸ Blk.new2 _ _ _ _, ha.below hbe, hb.below hbe, hbe⟩
  unfold opc at hW
  have HI := Lib.hid hI
  clear hI hbe ha hb
  obtain ⟨q, hq⟩ : ∃ q, eqP a b = q := ⟨_, rfl⟩
  obtain ⟨r, hr⟩ : ∃ r, decide (a.val = b.val) = r := ⟨_, rfl⟩
  have hres : decide (eqO a b) = (q && r) := by rw [← hq, ← hr]; exact eqO_and a b
  have heq := fun wx => eql_plain a b wx
  rw [hq] at heq
  unfold plc at heq
  have hbeq := fun wx (x : Bts wx B1 5 (.slice AA a.val.length ac) a.val) (y : Bts wx B2 5 (.slice AB b.val.length bc) b.val) => bytesEqual_any B1 B2 _ _ _ _ wx x y
  rw [hr] at hbeq
  have HBq := Lib.hid hbeq
  rw [hres]
  clear hq hr hbeq hres
  go_enter Tryz.func20, Tryz.ntmps20
  go_upto_region 1 with fail
  try rw [hW]
  clear hW
  refine wp_region_noPanic ?_
  refine wp_region_held_drew (S := fun W => EqI w W B1 B2 a b (.slice AA a.val.length ac) (.slice AB b.val.length bc)) (by kernel_rfl) (HI.out.adv (Below.refl _ _).drew) (fun hHeld => ?_)
  refine tk 0 (v := ?_) ?_ ?_
  rotate_left 1
  · intro W hSw
    obtain ⟨z0, z1, z2, z3, z4, z5, z6, z7, z8⟩ := op_cells hSw.ba; obtain ⟨y0, y1, y2, y3, y4, y5, y6, y7, y8⟩ := op_cells hSw.bb
    clear hSw
    go_simp
    try with_reducible rfl
  try dsimp only [zS, zB, zC]
  refine tk 2 (v := ?_) ?_ ?_
  rotate_left 1
  · intro W hSw
    obtain ⟨z0, z1, z2, z3, z4, z5, z6, z7, z8⟩ := op_cells hSw.ba; obtain ⟨y0, y1, y2, y3, y4, y5, y6, y7, y8⟩ := op_cells hSw.bb
    clear hSw
    go_simp
    try with_reducible rfl
  try dsimp only [zS, zB, zC]
  refine wpAnyH_ready (rs := [1]) (by kernel_rfl) (by simp) ?_
  refine AllReadyH.cons (o := ⟨_, _, _, _, _, _⟩) rfl (fun F hF => ?_) AllReadyH.nil
  go_simp
  refine (of_any a AA a.val.length ac _).mono ?_
  rintro e w1 ⟨rfl, hb1⟩
  have HI1 := Lib.hid (hHeld.adv hb1)
  clear hb1 hHeld
  unfold plc
  go_wp2_with fail
  refine hF.out _ _ HI1.out (fun hHeld => ?_)
  clear hF F
  try simp only [Act.put, zA, zB, zC]
  refine wpAnyH_ready (rs := [3]) (by kernel_rfl) (by simp) ?_
  refine AllReadyH.cons (o := ⟨_, _, _, _, _, _⟩) rfl (fun F hF => ?_) AllReadyH.nil
  go_simp
  refine (of_any b AB b.val.length bc _).mono ?_
  rintro e w2 ⟨rfl, hb2⟩
  have HI2 := Lib.hid (hHeld.adv hb2)
  clear hb2 hHeld
  unfold plc
  go_wp2_with fail
  refine hF.out _ _ HI2.out (fun hHeld => ?_)
  clear hF F HI1
  try simp only [Act.put, zA, zB, zC]
  refine tk 4 (v := ?_) ?_ ?_
  rotate_left 1
  · intro W hSw
    obtain ⟨z0, z1, z2, z3, z4, z5, z6, z7, z8⟩ := op_cells hSw.ba; obtain ⟨y0, y1, y2, y3, y4, y5, y6, y7, y8⟩ := op_cells hSw.bb
    clear hSw
    go_simp
    try with_reducible rfl
  try dsimp only [zS, zB, zC]
  refine tk 5 (v := ?_) ?_ ?_
  rotate_left 1
  · intro W hSw
    obtain ⟨z0, z1, z2, z3, z4, z5, z6, z7, z8⟩ := op_cells hSw.ba; obtain ⟨y0, y1, y2, y3, y4, y5, y6, y7, y8⟩ := op_cells hSw.bb
    clear hSw
    go_simp
    try with_reducible rfl
  try dsimp only [zS, zB, zC]
  cases q with
  | true =>
    refine tk 6 (v := ?_) ?_ ?_
    rotate_left 1
    · intro W hSw
      obtain ⟨z0, z1, z2, z3, z4, z5, z6, z7, z8⟩ := op_cells hSw.ba; obtain ⟨y0, y1, y2, y3, y4, y5, y6, y7, y8⟩ := op_cells hSw.bb
      clear hSw
      go_simp
      try with_reducible rfl
    try dsimp only [zS, zB, zC]
    refine tk 7 (v := ?_) ?_ ?_
    rotate_left 1
    · intro W hSw
      obtain ⟨z0, z1, z2, z3, z4, z5, z6, z7, z8⟩ := op_cells hSw.ba; obtain ⟨y0, y1, y2, y3, y4, y5, y6, y7, y8⟩ := op_cells hSw.bb
      clear hSw
      go_simp
      try with_reducible rfl
    try dsimp only [zS, zB, zC]
    refine tk 8 (v := ?_) ?_ ?_
    rotate_left 1
    · intro W hSw
      obtain ⟨z0, z1, z2, z3, z4, z5, z6, z7, z8⟩ := op_cells hSw.ba; obtain ⟨y0, y1, y2, y3, y4, y5, y6, y7, y8⟩ := op_cells hSw.bb
      clear hSw
      go_simp
      try with_reducible rfl
    try dsimp only [zS, zB, zC]
    refine tk 9 (v := ?_) ?_ ?_
    rotate_left 1
    · intro W hSw
      obtain ⟨z0, z1, z2, z3, z4, z5, z6, z7, z8⟩ := op_cells hSw.ba; obtain ⟨y0, y1, y2, y3, y4, y5, y6, y7, y8⟩ := op_cells hSw.bb
      clear hSw
      go_simp
      try with_reducible rfl
    try dsimp only [zS, zB, zC]
    refine wpAnyH_ready (rs := [10]) (by kernel_rfl) (by simp) ?_
    refine AllReadyH.cons (o := ⟨_, _, _, _, _, _⟩) rfl (fun F hF => ?_) AllReadyH.nil
    go_simp
    refine (HBq.out _ hHeld.va hHeld.vb).mono ?_
    rintro e w3 ⟨rfl, rfl⟩
    have HI3 := Lib.hid hHeld
    clear hHeld
    go_wp2_with fail
    refine hF.out _ _ HI3.out (fun hHeld => ?_)
    clear hF F HI2
    try simp only [Act.put, zA, zB, zC]
    refine tk 11 (v := ?_) ?_ ?_
    rotate_left 1
    · intro W hSw
      obtain ⟨z0, z1, z2, z3, z4, z5, z6, z7, z8⟩ := op_cells hSw.ba; obtain ⟨y0, y1, y2, y3, y4, y5, y6, y7, y8⟩ := op_cells hSw.bb
      clear hSw
      go_simp
      try with_reducible rfl
    try dsimp only [zS, zB, zC]
    refine tk 12 (v := ?_) ?_ ?_
    rotate_left 1
    · intro W hSw
      obtain ⟨z0, z1, z2, z3, z4, z5, z6, z7, z8⟩ := op_cells hSw.ba; obtain ⟨y0, y1, y2, y3, y4, y5, y6, y7, y8⟩ := op_cells hSw.bb
      clear hSw
      go_simp
      try with_reducible rfl
    try dsimp only [zS, zB, zC]
    refine wpAnyH_done (by kernel_rfl) ?_ _
    refine NoPanic.normal ?_
    go_wp2_with fail
    go_ret
    exact ⟨rfl, hHeld.below⟩
  | false =>
    refine sk 6 ?_
    try dsimp only [zS, zB, zC]
    refine sk 7 ?_
    try dsimp only [zS, zB, zC]
    refine sk 8 ?_
    try dsimp only [zS, zB, zC]
    refine sk 9 ?_
    try dsimp only [zS, zB, zC]
    refine sk 10 ?_
    try dsimp only [zS, zB, zC]
    refine tk 11 (v := ?_) ?_ ?_
    rotate_left 1
    · intro W hSw
      obtain ⟨z0, z1, z2, z3, z4, z5, z6, z7, z8⟩ := op_cells hSw.ba; obtain ⟨y0, y1, y2, y3, y4, y5, y6, y7, y8⟩ := op_cells hSw.bb
      clear hSw
      go_simp
      try with_reducible rfl
    try dsimp only [zS, zB, zC]
    refine tk 12 (v := ?_) ?_ ?_
    rotate_left 1
    · intro W hSw
      obtain ⟨z0, z1, z2, z3, z4, z5, z6, z7, z8⟩ := op_cells hSw.ba; obtain ⟨y0, y1, y2, y3, y4, y5, y6, y7, y8⟩ := op_cells hSw.bb
      clear hSw
      go_simp
      try with_reducible rfl
    try dsimp only [zS, zB, zC]
    refine wpAnyH_done (by kernel_rfl) ?_ _
    refine NoPanic.normal ?_
    go_wp2_with fail
    go_ret
    exact ⟨rfl, hHeld.below⟩
end Go.Proofs.YtbcigelgggimmaaGreatDoor
namespace Go.Proofs.YtbcigelgggimmaaGreatDoor
open Go Go.RowKit
theorem jump_ret (l : Nat) (J : Act → World → Prop) (Q : Exit → Act → World → Prop) (a : Act) (w : World) : Exit.jump l J Q .ret a w = Q .ret a w := rfl
/-- What write reads first. -/
structure WrI (w W : World) (B : Nat) (o : OpV) (V : Value) : Prop where
  box : Blk W w.heap.size 41 (opc o V)
  val : Bts W B 5 V o.val
  kg : KG W
  below : Below w.heap.size w W
theorem WrI.adv {w W W' : World} {B : Nat} {o : OpV} {V : Value} (h : WrI w W B o V) (hb : Below W.heap.size W W') : WrI w W' B o V :=
  ⟨h.box.below hb, h.val.below hb, h.kg.below hb h.kg.1, h.below.trans (hb.mono h.below.size)⟩
/-- An operation that can't be written for its parts. -/
def badO (o : OpV) : Prop := codeI o.kind < 0 ∨ 270 < o.ticks ∨ 31 < o.key.size ∨ 255 < o.val.length
theorem index_kinds (k : Int) (w : World) (hk : KG w) :
    Calls Tryz.prog 101 #[.slice (some ⟨0, 0, none⟩) 16 16, .int .i64 k] w fun e w' => e = .returned (.int .i64 (codeI k)) ∧ w = w' := by
  refine (Tryz.slices_Index_int 0 0 16 16 kindL k w (by decide) (by omega) (fun j hj => ?_)).mono ?_
  · rw [Nat.zero_add]; exact hk.2 j hj
  · rintro e w' ⟨rfl, rfl⟩
    exact ⟨rfl, rfl⟩
set_option maxRecDepth 100000 in
set_option maxHeartbeats 2000000 in
theorem write_bad (B : Nat) (o : OpV) (V : Value) (w : World) (hv : Bts w B 5 V o.val) (hk : KG w) (hbad : badO o) :
    Calls Tryz.prog 49 #[opv o V] w fun e w' => e = .returned (.slice none 0 0) ∧ Below w.heap.size w w' := by
  have HBad := Lib.hid hbad
  clear hbad
  obtain ⟨VA, vc, rfl⟩ := hv.form
  unfold opv opc
  obtain ⟨W, hW⟩ : ∃ W, w.alloc (.cells (opc o (.slice VA o.val.length vc)) 41) = W := ⟨_, rfl⟩
  have hbe : Below w.heap.size w W := hW ▸ (Below.refl _ _).alloc (Nat.le_refl _) _
  have hI : WrI w W B o (.slice VA o.val.length vc) := ⟨hW ▸ Blk.new _ _ _, hv.below hbe, hk.below hbe hk.1, hbe⟩
  have HV0 := Lib.hid hv
  unfold opc at hW
  have HI := Lib.hid hI
  clear hI hbe hv hk
  go_enter Tryz.func49, Tryz.ntmps49
  go_wp2_with fail
  refine wp_scope_jumps 0 (fun a W => a.defers = [] ∧ 3 ≤ a.tmps.size ∧ Below w.heap.size w W) (fun _ _ => 0) (by rfl) ?_ ?_
  go_wp2_with fail
  try rw [hW]
  clear hW
  refine wp_region_noPanic ?_
  refine wp_region_held_drew (S := fun W => WrI w W B o (.slice VA o.val.length vc)) (by kernel_rfl) (HI.out.adv (Below.refl _ _).drew) (fun hHeld => ?_)
  refine tk 0 (v := ?_) ?_ ?_
  rotate_left 1
  · intro W hSw
    obtain ⟨z0, z1, z2, z3, z4, z5, z6, z7, z8⟩ := op_cells hSw.box
    clear hSw
    go_simp
    try with_reducible rfl
  try dsimp only [zS, zB, zC]
  refine tk 1 (v := ?_) ?_ ?_
  rotate_left 1
  · intro W hSw
    obtain ⟨z0, z1, z2, z3, z4, z5, z6, z7, z8⟩ := op_cells hSw.box
    clear hSw
    go_simp
    try with_reducible rfl
  try dsimp only [zS, zB, zC]
  refine tk 2 (v := ?_) ?_ ?_
  rotate_left 1
  · intro W hSw
    obtain ⟨z0, z1, z2, z3, z4, z5, z6, z7, z8⟩ := op_cells hSw.box
    clear hSw
    go_simp
    try with_reducible rfl
  try dsimp only [zS, zB, zC]
  refine wpAnyH_ready (rs := [3]) (by kernel_rfl) (by simp) ?_
  refine AllReadyH.cons (o := ⟨_, _, _, _, _, _⟩) rfl (fun F hF => ?_) AllReadyH.nil
  go_simp
  refine (index_kinds o.kind _ hHeld.kg).mono ?_
  rintro e w3 ⟨rfl, rfl⟩
  have HI3 := Lib.hid hHeld
  clear hHeld HI
  go_wp2_with fail
  refine hF.out _ _ HI3.out (fun hHeld => ?_)
  clear hF F
  try simp only [Act.put, zA, zB, zC]
  refine tk 4 (v := ?_) ?_ ?_
  rotate_left 1
  · intro W hSw
    obtain ⟨z0, z1, z2, z3, z4, z5, z6, z7, z8⟩ := op_cells hSw.box
    clear hSw
    go_simp
    try with_reducible rfl
  try dsimp only [zS, zB, zC]
  refine wpAnyH_done (by kernel_rfl) ?_ _
  refine NoPanic.normal ?_
  have hI4 := HI3.out
  obtain ⟨z0, z1, z2, z3, z4, z5, z6, z7, z8⟩ := op_cells hI4.box
  clear hI4 hHeld
  · by_cases c1 : codeI o.kind < 0
    · go_wp2_with fail
      go_step3
      exact ⟨rfl, rfl, by simp, HI3.out.below⟩
    · by_cases c2 : 270 < o.ticks
      · go_wp2_with fail
        go_step3
        exact ⟨rfl, rfl, by simp, HI3.out.below⟩
      · by_cases c3 : 31 < o.key.size
        · have c3I : (31 : Int) < (o.key.size : Int) := by omega
          go_wp2_with fail
          go_step3
          exact ⟨rfl, rfl, by simp, HI3.out.below⟩
        · have c4 : 255 < o.val.length := by
            rcases HBad.out with h | h | h | h
            · exact absurd h c1
            · exact absurd h c2
            · exact absurd h c3
            · exact h
          have c3I : ¬ (31 : Int) < (o.key.size : Int) := by omega
          have c4I : (255 : Int) < (o.val.length : Int) := by omega
          go_wp2_with fail
          go_step3
          exact ⟨rfl, rfl, by simp, HI3.out.below⟩
  · rintro a W ⟨hd, hs, hb⟩
    go_wp2
    rw [jump_ret]
    obtain ⟨ts, ds⟩ := a
    dsimp only at hd hs ⊢
    refine bodyPost_ret (results_tmp (t := 2) rfl _ _ _) rfl ⟨?_, hb⟩
    congr 1
    simp only [Array.getD_eq_getD_getElem?]
    rw [Array.getElem?_setIfInBounds_self_of_lt (by omega)]
    rfl
theorem wrRaw_pos (c : Int) (o : OpV) : 0 < (wrRaw c o).length := by simp [wrRaw]
theorem partsBytes_len (o : OpV) (hk : o.key.size ≤ 31) (hv : o.val.length ≤ 255) : ((partsOf o.kind).flatMap fun p => wrPart p o).length ≤ 290 := by
  have h : ∀ p, (wrPart p o).length ≤ 256 := by
    intro p
    have : o.key.data.toList.length = o.key.size := by simp
    cases p <;> simp [wrPart, big2, big3] <;> omega
  have hkey : (wrPart .key o).length ≤ 32 := by
    have : o.key.data.toList.length = o.key.size := by simp
    simp [wrPart]; omega
  unfold partsOf
  repeat' split
  all_goals simp only [List.flatMap_cons, List.flatMap_nil, List.append_nil, List.length_append, List.length_nil]
  all_goals first
    | omega
    | (have := h .value; have := h .ttl; have := h .budgets; have := h .aim; have := h .birth
       have e1 : (wrPart .ttl o).length = 2 := rfl
       have e2 : (wrPart .aim o).length = 1 := rfl
       have e3 : (wrPart .birth o).length = 2 := rfl
       omega)
theorem wrRaw_len (c : Int) (o : OpV) (hk : o.key.size ≤ 31) (hv : o.val.length ≤ 255) : (wrRaw c o).length ≤ 292 := by
  have := partsBytes_len o hk hv
  unfold wrRaw
  rw [List.length_cons, List.length_append]
  split <;> simp only [List.length_cons, List.length_nil] <;> omega
/-- The bytes so far, in a row of the call's own; what write's loop keeps. -/
structure WlI (w wr : World) (B : Nat) (o : OpV) (V : Value) (A : Option Addr) (cap : Nat) (ps : List Part) (i : Nat) (v : Value) (bs : List UInt8) : Prop where
  inv : WrI w wr B o V
  row : wr.ownsRow (w.heap.size + 1) 5 1 v bs.length (bcells bs)
  parts : wr.ownsRow (w.heap.size + 1) 164 2 (.slice A ps.length cap) ps.length (pcells ps)
  eq : bs ++ (ps.drop i).flatMap (fun p => wrPart p o) = wrRaw (codeI o.kind) o
theorem WlI.adv {w wr W : World} {B : Nat} {o : OpV} {V : Value} {A : Option Addr} {cap : Nat} {ps : List Part} {i : Nat} {v : Value} {bs : List UInt8} (h : WlI w wr B o V A cap ps i v bs) (hb : Below wr.heap.size wr W) : WlI w W B o V A cap ps i v bs :=
  ⟨h.inv.adv hb, own_later h.row hb, own_later h.parts hb, h.eq⟩
/-- A world in which only one row of bytes has grown. -/
theorem WrI.grown {w W W' : World} {B : Nat} {o : OpV} {V v : Value} {n : Nat} {xs : List Value} (h : WrI w W B o V) (hr : W.ownsRow (w.heap.size + 1) 5 1 v n xs) (hg : W.grownBy W' v.ownBlock)
    (hv : Bts w B 5 V o.val) : WrI w W' B o V := by
  have ho := Only.of_grown hg
  have hlt : ∀ k, v.ownBlock = some k → w.heap.size + 1 ≤ k := fun k hk => (row_heap hr hk).1
  have hb : Below w.heap.size w W' := h.below.trans (ho.below (fun i hi _ e => by have := hlt _ e; omega) h.below.size)
  exact ⟨h.box.only ho (fun e => by have := hlt _ e; omega), hv.below hb, h.kg.only ho (fun e => by have := hlt _ e; omega), hb⟩
theorem KG.drew {w : World} (h : KG w) : KG w.drew := h
theorem WrI.kg0 {w W : World} {B : Nat} {o : OpV} {V : Value} (h : WrI w W B o V) : 0 < w.heap.size := by
  have h1 := h.kg.1
  have h2 := h.box
  rcases Nat.eq_zero_or_pos w.heap.size with e | e
  · have := (h.kg.2 0 (by omega))
    rw [e] at h2
    have h3 := h2.cell 0 (.int .i64 o.kind) rfl
    have h4 := h.kg.2 1 (by omega)
    have h5 := h2.cell 1 (.int .u64 o.ticks) rfl
    rw [h5] at h4
    cases h4
  · exact e
theorem WrI.drew {w W : World} {B : Nat} {o : OpV} {V : Value} (h : WrI w W B o V) : WrI w W.drew B o V := h.adv (Below.refl _ _).drew
/-- The reader's own box has changed, and new blocks have come. -/
theorem WrI.read {w W W' : World} {B g : Nat} {o : OpV} {V : Value} (h : WrI w W B o V) (hv : Bts w B 5 V o.val) (ho : Only (fun k => k = g) W W') (hg : w.heap.size < g) : WrI w W' B o V := by
  have hb : Below w.heap.size w W' := h.below.trans (ho.below (fun i hi _ e => by omega) h.below.size)
  exact ⟨h.box.only ho (by omega), hv.below hb, h.kg.only ho (by omega), hb⟩
theorem reader_ne {W : World} {base B g : Nat} {v : Value} {n : Nat} {xs : List Value} {rs : List UInt8} (h : W.ownsRow base 5 1 v n xs) (hr : RS W B g rs) : ∀ k, v.ownBlock = some k → ¬ k = g := by
  intro k hk e
  obtain ⟨_, cur, hc⟩ := row_heap h hk
  obtain ⟨V, h1, _⟩ := hr
  subst e
  exact h1.ne_ hc (by decide) rfl
/-- One part more. -/
theorem WlI.step {w wr W7 W8 : World} {B : Nat} {o : OpV} {V v v8 : Value} {A : Option Addr} {cap : Nat} {ps : List Part} {i : Nat} {bs : List UInt8} {p : Part}
    (h : WlI w wr B o V A cap ps i v bs) (hv : Bts w B 5 V o.val) (hb : Below wr.heap.size wr W7) (hp : ps[i]? = some p)
    (ho : W8.ownsRow (w.heap.size + 1) 5 1 v8 (bs.length + (wrPart p o).length) (bcells bs ++ bcells (wrPart p o))) (hg : W7.grownBy W8 v.ownBlock) : WlI w W8 B o V A cap ps (i + 1) v8 (bs ++ wrPart p o) := by
  have h7 := h.adv hb
  refine ⟨h7.inv.grown h7.row hg hv, ?_, ownsRow_only h7.parts (Only.of_grown hg) ?_, ?_⟩
  · rw [List.length_append, show bcells (bs ++ wrPart p o) = bcells bs ++ bcells (wrPart p o) by simp [bcells]]
    exact ho
  · intro k hk e
    obtain ⟨_, cur, hc⟩ := row_heap h7.parts hk
    obtain ⟨_, cur2, hc2⟩ := row_heap h7.row e
    rw [hc] at hc2
    injection hc2 with hc2
    injection hc2 with _ ht
    exact absurd ht (by decide)
  · have hi := (List.getElem?_eq_some_iff.1 hp).1
    have := h.eq
    rw [List.drop_eq_getElem_cons hi, (List.getElem?_eq_some_iff.1 hp).2, List.flatMap_cons] at this
    rw [← this, List.append_assoc]
/-- An operation that is written. -/
def WrRet (r : Option (List UInt8)) (w : World) (e : Ending) (w' : World) : Prop :=
  match r with
  | none => e = .returned (.slice none 0 0) ∧ Below w.heap.size w w'
  | some bs => OwnRet bs w e w'
theorem src_one (w : World) (x : Int) : Src (w.alloc (.cells #[.int .u8 (x % 256)] 5)) 1 (some ⟨w.heap.size, 0, none⟩) 1 (bcells [byteI x]) := by
  refine ⟨rfl, (fun h => by cases h), fun a ha j u hu => ?_⟩
  cases ha
  cases j with
  | zero =>
    simp only [bcells, List.map_cons, List.map_nil, List.getElem?_cons_zero, Option.some.injEq] at hu
    rw [add_plain, ← hu, byteI_toNat]
    exact (Blk.new w 5 #[.int .u8 (x % 256)]).cell 0 _ rfl
  | succ j => simp [bcells] at hu
set_option maxRecDepth 100000 in
set_option maxHeartbeats 4000000 in
theorem write_ok (B : Nat) (o : OpV) (V : Value) (w : World) (hv : Bts w B 5 V o.val) (hk : KG w) (hok : ¬ badO o) (ht : 0 ≤ o.ticks) :
    Calls Tryz.prog 49 #[opv o V] w (WrRet (wrOp o) w) := by
  have hcode : 0 ≤ codeI o.kind := by unfold badO at hok; omega
  have hcode2 : codeI o.kind < 16 := by
    have hnn : kindL.contains o.kind = true := by rw [← Lib.idxOf_nonneg_iff]; exact hcode
    have hm : o.kind ∈ kindL := by simpa using hnn
    unfold kindL at hm
    simp only [List.mem_cons, List.not_mem_nil, or_false] at hm
    rcases hm with e | e | e | e | e | e | e | e | e | e | e | e | e | e | e | e <;> rw [e] <;> decide
  have htk : o.ticks ≤ 270 := by unfold badO at hok; omega
  have HOk : Hid (¬ (codeI o.kind < 0 ∨ 270 < o.ticks ∨ 31 < o.key.size ∨ 255 < o.val.length)) := Lib.hid hok
  have hkl : o.key.size ≤ 31 := by unfold badO at hok; omega
  have hvl : o.val.length ≤ 255 := by unfold badO at hok; omega
  clear hok
  have HT := Lib.hid ht
  have HKl := Lib.hid hkl
  have HVl := Lib.hid hvl
  clear ht
  obtain ⟨VA, vc, rfl⟩ := hv.form
  unfold opv opc
  obtain ⟨W, hW⟩ : ∃ W, w.alloc (.cells (opc o (.slice VA o.val.length vc)) 41) = W := ⟨_, rfl⟩
  have hbe : Below w.heap.size w W := hW ▸ (Below.refl _ _).alloc (Nat.le_refl _) _
  have hI : WrI w W B o (.slice VA o.val.length vc) := ⟨hW ▸ Blk.new _ _ _, hv.below hbe, hk.below hbe hk.1, hbe⟩
  have HV0 := Lib.hid hv
  unfold opc at hW
  have HI := Lib.hid hI
  clear hI hbe hv hk
  go_enter Tryz.func49, Tryz.ntmps49
  go_wp2_with fail
  go_step3
  go_wp2_with fail
  try rw [hW]
  clear hW
  refine wp_region_noPanic ?_
  refine wp_region_held_drew (S := fun W => WrI w W B o (.slice VA o.val.length vc)) (by kernel_rfl) (HI.out.adv (Below.refl _ _).drew) (fun hHeld => ?_)
  refine tk 0 (v := ?_) ?_ ?_
  rotate_left 1
  · intro W hSw
    obtain ⟨z0, z1, z2, z3, z4, z5, z6, z7, z8⟩ := op_cells hSw.box
    clear hSw
    go_simp
    try with_reducible rfl
  try dsimp only [zS, zB, zC]
  refine tk 1 (v := ?_) ?_ ?_
  rotate_left 1
  · intro W hSw
    obtain ⟨z0, z1, z2, z3, z4, z5, z6, z7, z8⟩ := op_cells hSw.box
    clear hSw
    go_simp
    try with_reducible rfl
  try dsimp only [zS, zB, zC]
  refine tk 2 (v := ?_) ?_ ?_
  rotate_left 1
  · intro W hSw
    obtain ⟨z0, z1, z2, z3, z4, z5, z6, z7, z8⟩ := op_cells hSw.box
    clear hSw
    go_simp
    try with_reducible rfl
  try dsimp only [zS, zB, zC]
  refine wpAnyH_ready (rs := [3]) (by kernel_rfl) (by simp) ?_
  refine AllReadyH.cons (o := ⟨_, _, _, _, _, _⟩) rfl (fun F hF => ?_) AllReadyH.nil
  go_simp
  refine (index_kinds o.kind _ hHeld.kg).mono ?_
  rintro e w3 ⟨rfl, rfl⟩
  have HI3 := Lib.hid hHeld
  clear hHeld HI
  go_wp2_with fail
  refine hF.out _ _ HI3.out (fun hHeld => ?_)
  clear hF F
  try simp only [Act.put, zA, zB, zC]
  refine tk 4 (v := ?_) ?_ ?_
  rotate_left 1
  · intro W hSw
    obtain ⟨z0, z1, z2, z3, z4, z5, z6, z7, z8⟩ := op_cells hSw.box
    clear hSw
    go_simp
    try with_reducible rfl
  try dsimp only [zS, zB, zC]
  refine wpAnyH_done (by kernel_rfl) ?_ _
  refine NoPanic.normal ?_
  have hI4 := HI3.out
  obtain ⟨z0, z1, z2, z3, z4, z5, z6, z7, z8⟩ := op_cells hI4.box
  clear hI4 hHeld
  have c1 : ¬ codeI o.kind < 0 := by omega
  have c2 : ¬ 270 < o.ticks := by omega
  have c3I : ¬ (31 : Int) < (o.key.size : Int) := by omega
  have c4I : ¬ (255 : Int) < (o.val.length : Int) := by omega
  clear hcode htk hkl hvl
  obtain ⟨i0, hi0, hz0, hz1, hz2⟩ := info_parts u8_info
  go_upto_region 4 with fail
  obtain ⟨W4, hW4⟩ : ∃ W4, (W.alloc (.cells #[.int .u8 (codeI o.kind + 16 * (min o.ticks 15 % 256) % 256)] 5)).drew = W4 := ⟨_, rfl⟩
  have hb4 : Below W.drew.heap.size W.drew W4 := hW4 ▸ (Below.refl _ W.drew).alloc (Nat.le_refl _) _
  have hs4 : w.heap.size + 1 ≤ W.heap.size := HI3.out.box.lt
  have hr4 : W4.ownsRow (w.heap.size + 1) 5 1 (.slice (some ⟨W.heap.size, 0, none⟩) 1 1) 1 (bcells [byteI (codeI o.kind + 16 * min o.ticks 15)]) := by
    have h := ownsRow_base (own_one W.drew 5 (.int .u8 (codeI o.kind + 16 * (min o.ticks 15 % 256) % 256))) (show w.heap.size + 1 ≤ W.drew.heap.size from hs4)
    rw [show W.drew.alloc (.cells #[.int .u8 (codeI o.kind + 16 * (min o.ticks 15 % 256) % 256)] 5) = W4 from hW4] at h
    have e : bcells [byteI (codeI o.kind + 16 * min o.ticks 15)] = [.int .u8 (codeI o.kind + 16 * (min o.ticks 15 % 256) % 256)] := by
      simp only [bcells, List.map_cons, List.map_nil, byteI_toNat]
      have := HT.out
      congr 2
      omega
    rw [e]
    exact h
  have HI4 := Lib.hid (HI3.out.adv hb4)
  have HR4 := Lib.hid hr4
  have HS4 := Lib.hid hs4
  have z1 : W4.cell? ⟨w.heap.size, 1, none⟩ = some (.int .u64 o.ticks) := HI4.out.box.cell 1 _ rfl
  have z0 : W4.cell? ⟨w.heap.size, 0, none⟩ = some (.int .i64 o.kind) := HI4.out.box.cell 0 _ rfl
  try rw [hW4]
  clear hW4 hb4 hs4 hr4 z2 z3 z4 z5 z6 z7 z8 HI3
  by_cases h15 : 15 ≤ o.ticks
  · have hX : ∀ ob, (W4.alloc ob).ownsRow (w.heap.size + 1) 5 1 (.slice (some ⟨W.heap.size, 0, none⟩) 1 1) 1 (bcells [byteI (codeI o.kind + 16 * min o.ticks 15)]) := fun ob => HR4.out.alloc ob
    have HX := Lib.hid hX
    clear hX
    have hsub : IntKind.u64.wrap (o.ticks - 15) = o.ticks - 15 := by rw [IntKind.wrap_u64]; omega
    clear c2
    go_upto_region 6 with (at_builtin; refine wpList_append_src _ rfl _ _ _ rfl (w.heap.size + 1) 5 i0 _ 1 1 Tryz.underlying39 hi0 hz0 hz1 hz2 rfl (by decide) _ 1 (bcells [byteI (codeI o.kind + 16 * min o.ticks 15)]) rfl (HX.out _) (some ⟨W4.heap.size, 0, none⟩) 1 1 (bcells [byteI (o.ticks - 15)]) rfl (src_one W4 (o.ticks - 15)) (bcells_one _) (by decide) (by decide) (by have := HI4.out.box.lt; simp; omega) ?_; intro v5 W5 hown5 hg5 hat5)
    have hb5 : Below W4.heap.size W4 (W4.alloc (.cells #[.int .u8 ((o.ticks - 15) % 256)] 5)) := (Below.refl _ _).alloc (Nat.le_refl _) _
    have HI5 : Hid (WrI w W5 B o (.slice VA o.val.length vc)) := Lib.hid ((HI4.out.adv hb5).grown (HX.out _) hg5 HV0.out)
    have HR5 : Hid (W5.ownsRow (w.heap.size + 1) 5 1 v5 [byteI (codeI o.kind + 16 * min o.ticks 15), byteI (o.ticks - 15)].length (bcells [byteI (codeI o.kind + 16 * min o.ticks 15), byteI (o.ticks - 15)])) := Lib.hid hown5
    have HEq5 : Hid ([byteI (codeI o.kind + 16 * min o.ticks 15), byteI (o.ticks - 15)] ++ (partsOf o.kind).flatMap (fun p => wrPart p o) = wrRaw (codeI o.kind) o) := Lib.hid (by unfold wrRaw; rw [if_pos h15]; rfl)
    clear hb5 hown5 hg5 hat5 HX HR4 HI4 z0 z1
    have z0 : World.cell? W5 ⟨w.heap.size, 0, none⟩ = some (.int .i64 o.kind) := HI5.out.box.cell 0 _ rfl
    go_wp2_with fail
    refine (parts_any _ _).mono ?_
    rintro e w6 ⟨v6, rfl, hrow, hb6⟩
    obtain ⟨A6, cap6, rfl, _, _⟩ := own_form hrow
    obtain ⟨ps, hps⟩ : ∃ ps, partsOf o.kind = ps := ⟨_, rfl⟩
    have heq5 := HEq5.out
    rw [hps] at hrow heq5 ⊢
    have hpl : ps.length ≤ 3 := by rw [← hps]; exact partsOf_le _
    have hpI : (ps.length : Int) ≤ 3 := by omega
    have hL : WlI w w6 B o (.slice VA o.val.length vc) A6 cap6 ps 0 v5 ([byteI (codeI o.kind + 16 * min o.ticks 15), byteI (o.ticks - 15)]) := ⟨HI5.out.adv hb6, own_later HR5.out hb6, ownsRow_base hrow (by have := HI5.out.box.lt; omega), by rw [List.drop_zero]; exact heq5⟩
    have HL := Lib.hid hL
    clear hrow hb6 hL hps z0 heq5 HI5 HR5 HEq5
    go_wp2_with fail
    go_loopw [2, 5, 53] (fun v _ i wr => ∃ (m : Nat) (bs : List UInt8), m ≤ ps.length ∧ i = .int .i64 m ∧ WlI w wr B o (.slice VA o.val.length vc) A6 cap6 ps m v bs) (fun _ _ i _ => ps.length - (intOf i).toNat)
    case atStart => exact ⟨0, _, by omega, rfl, HL.out⟩
    case round =>
      obtain ⟨m, bs, hm, rfl, hI⟩ := hrel
      have HIm := Lib.hid hI
      clear HL hI
      by_cases hml : m < ps.length
      · obtain ⟨p, hp⟩ : ∃ p, ps[m]? = some p := ⟨_, List.getElem?_eq_getElem hml⟩
        obtain ⟨pg, rfl, hpg, q0, q1, _⟩ := part_at HIm.out.parts hp
        have z0 := fun ob => (op_cells (HIm.out.inv.box.alloc ob)).1
        have z1 := fun ob => (op_cells (HIm.out.inv.box.alloc ob)).2.1
        have z2 := fun ob => (op_cells (HIm.out.inv.box.alloc ob)).2.2.1
        have z3 := fun ob => (op_cells (HIm.out.inv.box.alloc ob)).2.2.2.1
        have z4 := fun ob => (op_cells (HIm.out.inv.box.alloc ob)).2.2.2.2.1
        have z5 := fun ob => (op_cells (HIm.out.inv.box.alloc ob)).2.2.2.2.2.1
        have z6 := fun ob => (op_cells (HIm.out.inv.box.alloc ob)).2.2.2.2.2.2.1
        have z7 := fun ob => (op_cells (HIm.out.inv.box.alloc ob)).2.2.2.2.2.2.2.1
        have z8 := fun ob => (op_cells (HIm.out.inv.box.alloc ob)).2.2.2.2.2.2.2.2
        have HPp := Lib.hid hp
        have hmI : (m : Int) < (ps.length : Int) := by omega
        have hlen : bs.length + (wrPart p o).length ≤ 292 := by
          have h1 := HIm.out.eq
          rw [List.drop_eq_getElem_cons hml, (List.getElem?_eq_some_iff.1 hp).2, List.flatMap_cons] at h1
          have h2 := wrRaw_len (codeI o.kind) o HKl.out HVl.out
          rw [← h1] at h2
          simp only [List.length_append] at h2
          omega
        have HLen := Lib.hid hlen
        have hwr := fun (wx : World) (hb : Below wr.heap.size wr wx) => wr_any p B o (.slice VA o.val.length vc) wx ⟨HIm.out.inv.val.below hb, by have := HKl.out; omega, by have := HVl.out; omega⟩
        clear hp hpg hlen
        cases p
        all_goals
          simp only [rdF, wrF] at q0 q1 hwr
          have HWr := Lib.hid hwr
          clear hwr
          go_wp2_with fail
          refine (HWr.out _ ((Below.refl _ _).alloc (Nat.le_refl _) _)).mono ?_
          rintro e w7 ⟨v7, rfl, ho7, hb7⟩
          obtain ⟨A7, cap7, rfl, _, _⟩ := own_form ho7
          have hb7' : Below wr.heap.size wr w7 := ((Below.refl _ _).alloc (Nat.le_refl _) _).trans (hb7.mono (by simp))
          have HB7 := Lib.hid hb7'
          have HO7 := Lib.hid ho7
          clear ho7 hb7 hb7' z0 z1 z2 z3 z4 z5 z6 z7 z8 q0 q1 HWr
          go_wp2_with (at_builtin; refine wpList_append_src _ rfl _ _ _ rfl (w.heap.size + 1) 5 i0 _ 1 1 Tryz.underlying39 hi0 hz0 hz1 hz2 rfl (by decide) _ bs.length (bcells bs) rfl (own_later HIm.out.row HB7.out) A7 _ cap7 (bcells _) rfl (Bts.of_own HO7.out B).src_at.2 (bcells_one _) (by have := HLen.out; unfold maxLen; omega) (by have := HLen.out; omega) (by have := HIm.out.inv.box.lt; have := HB7.out.size; omega) ?_; intro v8 w8 hown8 hg8 hat8)
          have hst := WlI.step HIm.out HV0.out HB7.out HPp.out hown8 hg8
          have HSt := Lib.hid hst
          clear hst hown8 hg8 hat8
          go_roundw
          case rel => exact ⟨m + 1, _, by omega, by go_num, HSt.out⟩
          case measure => simp [intOf]; omega
      · obtain rfl : m = ps.length := by omega
        have hbs : bs = wrRaw (codeI o.kind) o := by have := HIm.out.eq; rw [List.drop_length] at this; simpa using this
        subst hbs
        have hrw := HIm.out.row
        obtain ⟨A9, cap9, rfl, _, _⟩ := own_form hrw
        clear hrw
        go_upto_region 12 with fail
        obtain ⟨W12, hW12⟩ : ∃ W12, wr.alloc (.cells #[.slice A9 (wrRaw (codeI o.kind) o).length cap9] 154) = W12 := ⟨_, rfl⟩
        have hb12 : Below wr.heap.size wr W12 := hW12 ▸ (Below.refl _ _).alloc (Nat.le_refl _) _
        have hr12 : RS W12 w.heap.size wr.heap.size (wrRaw (codeI o.kind) o) := ⟨_, hW12 ▸ Blk.new _ _ _, (Bts.of_own HIm.out.row w.heap.size).below hb12⟩
        have HI12 := Lib.hid (HIm.out.inv.adv hb12)
        have HRow := Lib.hid (own_later HIm.out.row hb12)
        have HR12 := Lib.hid hr12
        have HLe : Hid (w.heap.size < wr.heap.size) := Lib.hid HIm.out.inv.box.lt
        have hI12 := HI12.out.box
        obtain ⟨z0, z1, z2, z3, z4, z5, z6, z7, z8⟩ := op_cells hI12
        try rw [hW12]
        clear hW12 hb12 hr12 hI12 HIm
        go_region_law
          ((first
            | (have hq := HW13.out; clear hq; go_simp; go_at_call 20; refine (equal_any w.heap.size B (rdOp (wrRaw (codeI o.kind) o)).1 o V13 (.slice VA o.val.length vc) _ HW13.out HI13.out.val).mono ?_; rintro e w14 ⟨rfl, hb14⟩; have HB14 := Lib.hid hb14; clear hb14)
            | (go_simp; go_at_call 97; refine (read_any w.heap.size wr.heap.size (wrRaw (codeI o.kind) o) _ HR12.out.drew (Nat.le_of_lt HLe.out) HI12.out.kg0 HI12.out.kg.drew HI12.out.below.size).mono ?_; rintro e w13 ⟨V13, rfl, hv13, hr13, ho13⟩; have HW13 := Lib.hid hv13; have hi13 := WrI.read HI12.out.drew HV0.out ho13 HLe.out; have HI13 := Lib.hid hi13; have HRow13 := Lib.hid (ownsRow_only HRow.out.drew ho13 (reader_ne HRow.out HR12.out)); obtain ⟨y0, y1, y2, y3, y4, y5, y6, y7, y8⟩ := op_cells hi13.box; clear hv13 hr13 ho13 hi13)))
        all_goals
          have hrow14 := ownsRow_base (own_later HRow13.out HB14.out) (Nat.le_succ w.heap.size)
          have hbl14 : Below w.heap.size w w14 := HI13.out.below.trans (HB14.out.mono HI13.out.below.size)
          have HRow14 := Lib.hid hrow14
          have HBl14 := Lib.hid hbl14
          clear hrow14 hbl14 z0 z1 z2 z3 z4 z5 z6 z7 z8 y0 y1 y2 y3 y4 y5 y6 y7 y8
          by_cases he : eqO (rdOp (wrRaw (codeI o.kind) o)).1 o
          · have hw : wrOp o = some (wrRaw (codeI o.kind) o) := by unfold wrOp; rw [if_neg HOk.out, if_pos he]
            have HW := Lib.hid hw
            have hd : decide (eqO (rdOp (wrRaw (codeI o.kind) o)).1 o) = true := decide_eq_true he
            rw [hd]
            clear he hd hw
            go_wp2_with fail
            try rw [Exit.noGoto_ret]
            go_ret
            rw [HW.out]
            exact ⟨_, rfl, HRow14.out, HBl14.out⟩
          · have hw : wrOp o = none := by unfold wrOp; rw [if_neg HOk.out, if_neg he]
            have HW := Lib.hid hw
            have hd : decide (eqO (rdOp (wrRaw (codeI o.kind) o)).1 o) = false := decide_eq_false he
            rw [hd]
            clear he hd hw
            go_wp2_with fail
            go_step3
            go_wp2_with fail
            try rw [Exit.noGoto_ret]
            go_ret
            rw [HW.out]
            exact ⟨rfl, HBl14.out⟩
  · go_upto_region 6 with fail
    obtain ⟨v5, hv5⟩ : ∃ v5 : Value, .slice (some ⟨W.heap.size, 0, none⟩) 1 1 = v5 := ⟨_, rfl⟩
    have hr5 := HR4.out
    rw [hv5] at hr5 ⊢
    have HI5 := Lib.hid HI4.out
    have HR5 : Hid (W4.ownsRow (w.heap.size + 1) 5 1 v5 [byteI (codeI o.kind + 16 * min o.ticks 15)].length (bcells [byteI (codeI o.kind + 16 * min o.ticks 15)])) := Lib.hid hr5
    have HEq5 : Hid ([byteI (codeI o.kind + 16 * min o.ticks 15)] ++ (partsOf o.kind).flatMap (fun p => wrPart p o) = wrRaw (codeI o.kind) o) := Lib.hid (by unfold wrRaw; rw [if_neg h15]; rfl)
    clear hv5 hr5 HR4 HI4 z0 z1
    have z0 : World.cell? W4 ⟨w.heap.size, 0, none⟩ = some (.int .i64 o.kind) := HI5.out.box.cell 0 _ rfl
    go_wp2_with fail
    refine (parts_any _ _).mono ?_
    rintro e w6 ⟨v6, rfl, hrow, hb6⟩
    obtain ⟨A6, cap6, rfl, _, _⟩ := own_form hrow
    obtain ⟨ps, hps⟩ : ∃ ps, partsOf o.kind = ps := ⟨_, rfl⟩
    have heq5 := HEq5.out
    rw [hps] at hrow heq5 ⊢
    have hpl : ps.length ≤ 3 := by rw [← hps]; exact partsOf_le _
    have hpI : (ps.length : Int) ≤ 3 := by omega
    have hL : WlI w w6 B o (.slice VA o.val.length vc) A6 cap6 ps 0 v5 ([byteI (codeI o.kind + 16 * min o.ticks 15)]) := ⟨HI5.out.adv hb6, own_later HR5.out hb6, ownsRow_base hrow (by have := HI5.out.box.lt; omega), by rw [List.drop_zero]; exact heq5⟩
    have HL := Lib.hid hL
    clear hrow hb6 hL hps z0 heq5 HI5 HR5 HEq5
    go_wp2_with fail
    go_loopw [2, 5, 53] (fun v _ i wr => ∃ (m : Nat) (bs : List UInt8), m ≤ ps.length ∧ i = .int .i64 m ∧ WlI w wr B o (.slice VA o.val.length vc) A6 cap6 ps m v bs) (fun _ _ i _ => ps.length - (intOf i).toNat)
    case atStart => exact ⟨0, _, by omega, rfl, HL.out⟩
    case round =>
      obtain ⟨m, bs, hm, rfl, hI⟩ := hrel
      have HIm := Lib.hid hI
      clear HL hI
      by_cases hml : m < ps.length
      · obtain ⟨p, hp⟩ : ∃ p, ps[m]? = some p := ⟨_, List.getElem?_eq_getElem hml⟩
        obtain ⟨pg, rfl, hpg, q0, q1, _⟩ := part_at HIm.out.parts hp
        have z0 := fun ob => (op_cells (HIm.out.inv.box.alloc ob)).1
        have z1 := fun ob => (op_cells (HIm.out.inv.box.alloc ob)).2.1
        have z2 := fun ob => (op_cells (HIm.out.inv.box.alloc ob)).2.2.1
        have z3 := fun ob => (op_cells (HIm.out.inv.box.alloc ob)).2.2.2.1
        have z4 := fun ob => (op_cells (HIm.out.inv.box.alloc ob)).2.2.2.2.1
        have z5 := fun ob => (op_cells (HIm.out.inv.box.alloc ob)).2.2.2.2.2.1
        have z6 := fun ob => (op_cells (HIm.out.inv.box.alloc ob)).2.2.2.2.2.2.1
        have z7 := fun ob => (op_cells (HIm.out.inv.box.alloc ob)).2.2.2.2.2.2.2.1
        have z8 := fun ob => (op_cells (HIm.out.inv.box.alloc ob)).2.2.2.2.2.2.2.2
        have HPp := Lib.hid hp
        have hmI : (m : Int) < (ps.length : Int) := by omega
        have hlen : bs.length + (wrPart p o).length ≤ 292 := by
          have h1 := HIm.out.eq
          rw [List.drop_eq_getElem_cons hml, (List.getElem?_eq_some_iff.1 hp).2, List.flatMap_cons] at h1
          have h2 := wrRaw_len (codeI o.kind) o HKl.out HVl.out
          rw [← h1] at h2
          simp only [List.length_append] at h2
          omega
        have HLen := Lib.hid hlen
        have hwr := fun (wx : World) (hb : Below wr.heap.size wr wx) => wr_any p B o (.slice VA o.val.length vc) wx ⟨HIm.out.inv.val.below hb, by have := HKl.out; omega, by have := HVl.out; omega⟩
        clear hp hpg hlen
        cases p
        all_goals
          simp only [rdF, wrF] at q0 q1 hwr
          have HWr := Lib.hid hwr
          clear hwr
          go_wp2_with fail
          refine (HWr.out _ ((Below.refl _ _).alloc (Nat.le_refl _) _)).mono ?_
          rintro e w7 ⟨v7, rfl, ho7, hb7⟩
          obtain ⟨A7, cap7, rfl, _, _⟩ := own_form ho7
          have hb7' : Below wr.heap.size wr w7 := ((Below.refl _ _).alloc (Nat.le_refl _) _).trans (hb7.mono (by simp))
          have HB7 := Lib.hid hb7'
          have HO7 := Lib.hid ho7
          clear ho7 hb7 hb7' z0 z1 z2 z3 z4 z5 z6 z7 z8 q0 q1 HWr
          go_wp2_with (at_builtin; refine wpList_append_src _ rfl _ _ _ rfl (w.heap.size + 1) 5 i0 _ 1 1 Tryz.underlying39 hi0 hz0 hz1 hz2 rfl (by decide) _ bs.length (bcells bs) rfl (own_later HIm.out.row HB7.out) A7 _ cap7 (bcells _) rfl (Bts.of_own HO7.out B).src_at.2 (bcells_one _) (by have := HLen.out; unfold maxLen; omega) (by have := HLen.out; omega) (by have := HIm.out.inv.box.lt; have := HB7.out.size; omega) ?_; intro v8 w8 hown8 hg8 hat8)
          have hst := WlI.step HIm.out HV0.out HB7.out HPp.out hown8 hg8
          have HSt := Lib.hid hst
          clear hst hown8 hg8 hat8
          go_roundw
          case rel => exact ⟨m + 1, _, by omega, by go_num, HSt.out⟩
          case measure => simp [intOf]; omega
      · obtain rfl : m = ps.length := by omega
        have hbs : bs = wrRaw (codeI o.kind) o := by have := HIm.out.eq; rw [List.drop_length] at this; simpa using this
        subst hbs
        have hrw := HIm.out.row
        obtain ⟨A9, cap9, rfl, _, _⟩ := own_form hrw
        clear hrw
        go_upto_region 12 with fail
        obtain ⟨W12, hW12⟩ : ∃ W12, wr.alloc (.cells #[.slice A9 (wrRaw (codeI o.kind) o).length cap9] 154) = W12 := ⟨_, rfl⟩
        have hb12 : Below wr.heap.size wr W12 := hW12 ▸ (Below.refl _ _).alloc (Nat.le_refl _) _
        have hr12 : RS W12 w.heap.size wr.heap.size (wrRaw (codeI o.kind) o) := ⟨_, hW12 ▸ Blk.new _ _ _, (Bts.of_own HIm.out.row w.heap.size).below hb12⟩
        have HI12 := Lib.hid (HIm.out.inv.adv hb12)
        have HRow := Lib.hid (own_later HIm.out.row hb12)
        have HR12 := Lib.hid hr12
        have HLe : Hid (w.heap.size < wr.heap.size) := Lib.hid HIm.out.inv.box.lt
        have hI12 := HI12.out.box
        obtain ⟨z0, z1, z2, z3, z4, z5, z6, z7, z8⟩ := op_cells hI12
        try rw [hW12]
        clear hW12 hb12 hr12 hI12 HIm
        go_region_law
          ((first
            | (have hq := HW13.out; clear hq; go_simp; go_at_call 20; refine (equal_any w.heap.size B (rdOp (wrRaw (codeI o.kind) o)).1 o V13 (.slice VA o.val.length vc) _ HW13.out HI13.out.val).mono ?_; rintro e w14 ⟨rfl, hb14⟩; have HB14 := Lib.hid hb14; clear hb14)
            | (go_simp; go_at_call 97; refine (read_any w.heap.size wr.heap.size (wrRaw (codeI o.kind) o) _ HR12.out.drew (Nat.le_of_lt HLe.out) HI12.out.kg0 HI12.out.kg.drew HI12.out.below.size).mono ?_; rintro e w13 ⟨V13, rfl, hv13, hr13, ho13⟩; have HW13 := Lib.hid hv13; have hi13 := WrI.read HI12.out.drew HV0.out ho13 HLe.out; have HI13 := Lib.hid hi13; have HRow13 := Lib.hid (ownsRow_only HRow.out.drew ho13 (reader_ne HRow.out HR12.out)); obtain ⟨y0, y1, y2, y3, y4, y5, y6, y7, y8⟩ := op_cells hi13.box; clear hv13 hr13 ho13 hi13)))
        all_goals
          have hrow14 := ownsRow_base (own_later HRow13.out HB14.out) (Nat.le_succ w.heap.size)
          have hbl14 : Below w.heap.size w w14 := HI13.out.below.trans (HB14.out.mono HI13.out.below.size)
          have HRow14 := Lib.hid hrow14
          have HBl14 := Lib.hid hbl14
          clear hrow14 hbl14 z0 z1 z2 z3 z4 z5 z6 z7 z8 y0 y1 y2 y3 y4 y5 y6 y7 y8
          by_cases he : eqO (rdOp (wrRaw (codeI o.kind) o)).1 o
          · have hw : wrOp o = some (wrRaw (codeI o.kind) o) := by unfold wrOp; rw [if_neg HOk.out, if_pos he]
            have HW := Lib.hid hw
            have hd : decide (eqO (rdOp (wrRaw (codeI o.kind) o)).1 o) = true := decide_eq_true he
            rw [hd]
            clear he hd hw
            go_wp2_with fail
            try rw [Exit.noGoto_ret]
            go_ret
            rw [HW.out]
            exact ⟨_, rfl, HRow14.out, HBl14.out⟩
          · have hw : wrOp o = none := by unfold wrOp; rw [if_neg HOk.out, if_neg he]
            have HW := Lib.hid hw
            have hd : decide (eqO (rdOp (wrRaw (codeI o.kind) o)).1 o) = false := decide_eq_false he
            rw [hd]
            clear he hd hw
            go_wp2_with fail
            go_step3
            go_wp2_with fail
            try rw [Exit.noGoto_ret]
            go_ret
            rw [HW.out]
            exact ⟨rfl, HBl14.out⟩
/-- An operation is written. -/
theorem write_any (B : Nat) (o : OpV) (V : Value) (w : World) (hv : Bts w B 5 V o.val) (hk : KG w) (ht : 0 ≤ o.ticks) :
    Calls Tryz.prog 49 #[opv o V] w (WrRet (wrOp o) w) := by
  by_cases h : badO o
  · have e : wrOp o = none := by unfold wrOp; exact if_pos h
    rw [e]
    exact write_bad B o V w hv hk h
  · exact write_ok B o V w hv hk h ht
end Go.Proofs.YtbcigelgggimmaaGreatDoor
namespace Go.Proofs.YtbcigelgggimmaaGreatDoor
open Go Go.RowKit
theorem wrOp_pos {o : OpV} {bs : List UInt8} (h : wrOp o = some bs) : 0 < bs.length ∧ bs.length ≤ 292 := by
  unfold wrOp at h
  split at h
  · cases h
  · rename_i hb
    split at h
    · injection h with h
      subst h
      exact ⟨wrRaw_pos _ _, wrRaw_len _ _ (by omega) (by omega)⟩
    · cases h
theorem WrRet.cases {r : Option (List UInt8)} {w : World} {e : Ending} {w' : World} (h : WrRet r w e w') (hp : ∀ bs, r = some bs → 0 < bs.length) :
    (r = none ∧ e = .returned (.slice none 0 0) ∧ Below w.heap.size w w') ∨
    ∃ bs g cap, r = some bs ∧ e = .returned (.slice (some ⟨g, 0, none⟩) bs.length cap) ∧ w'.ownsRow w.heap.size 5 1 (.slice (some ⟨g, 0, none⟩) bs.length cap) bs.length (bcells bs) ∧ Below w.heap.size w w' := by
  cases r with
  | none =>
    obtain ⟨h1, h2⟩ := h
    exact .inl ⟨rfl, h1, h2⟩
  | some bs =>
    obtain ⟨v', rfl, h2, h3⟩ := h
    have := hp bs rfl
    have h2' := h2
    rcases h2.2 with ⟨_, h0⟩ | ⟨g, cap, cur, rfl, _⟩
    · omega
    · exact .inr ⟨bs, g, cap, rfl, rfl, h2', h3⟩
theorem valid_any (B : Nat) (o : OpV) (V : Value) (w : World) (hv : Bts w B 5 V o.val) (hk : KG w) (ht : 0 ≤ o.ticks) :
    Calls Tryz.prog 14 #[opv o V] w fun e w' => e = .returned (.bool (wrOp o).isSome) ∧ Below w.heap.size w w' := by
  obtain ⟨VA, vc, rfl⟩ := hv.form
  have HW := Lib.hid (fun ob => write_any B o (.slice VA o.val.length vc) (w.alloc ob) (hv.alloc _) (hk.below ((Below.refl _ _).alloc (Nat.le_refl _) _) hk.1) ht)
  unfold opv opc
  clear hv hk ht
  go_enter Tryz.func14, Tryz.ntmps14
  go_wp2_with fail
  refine (HW.out _).mono ?_
  intro e w1 hret
  rcases hret.cases (fun bs h => (wrOp_pos h).1) with ⟨hw, rfl, hb⟩ | ⟨bs, g, cap, hw, rfl, ho, hb⟩
  · have HB := Lib.hid hb
    have HS := Lib.hid hw
    clear hw hb hret
    go_wp2_with fail
    go_ret
    exact ⟨by rw [HS.out]; rfl, below_own HB.out⟩
  · have HB := Lib.hid hb
    have HS := Lib.hid hw
    clear hw hb ho hret
    go_wp2_with fail
    go_ret
    exact ⟨by rw [HS.out]; rfl, below_own HB.out⟩
/-- The cells of operations in a row. -/
def ocs (ps : List (OpV × Value)) : List Value := ps.flatMap fun p => opcs p.1 p.2
theorem ocs_length (ps : List (OpV × Value)) : (ocs ps).length = ps.length * 9 := by
  induction ps with
  | nil => rfl
  | cons p ps ih =>
    have : (ocs (p :: ps)).length = (ocs ps).length + 9 := by simp [ocs, opcs]
    rw [this, ih, List.length_cons]; omega
theorem ocs_append (ps qs : List (OpV × Value)) : ocs (ps ++ qs) = ocs ps ++ ocs qs := by simp [ocs]
theorem ocs_at : ∀ (ps : List (OpV × Value)) (i j : Nat) (p : OpV × Value), ps[i]? = some p → j < 9 → (ocs ps)[i * 9 + j]? = (opcs p.1 p.2)[j]?
  | [], i, j, p, h, _ => by simp at h
  | q :: ps, 0, j, p, h, hj => by
    have e : q = p := by simpa using h
    subst e
    have : ocs (q :: ps) = opcs q.1 q.2 ++ ocs ps := rfl
    rw [this, List.getElem?_append_left (by simp [opcs]; omega)]
    simp
  | q :: ps, i + 1, j, p, h, hj => by
    have : ocs (q :: ps) = opcs q.1 q.2 ++ ocs ps := rfl
    rw [this, List.getElem?_append_right (by simp [opcs]; omega)]
    have e : (i + 1) * 9 + j - (opcs q.1 q.2).length = i * 9 + j := by simp [opcs]; omega
    rw [e]
    exact ocs_at ps i j p (by simpa using h) hj
theorem ocs_one (ps : List (OpV × Value)) (h : ∀ p ∈ ps, ∃ A n c, p.2 = .slice A n c) : ∀ u ∈ ocs ps, u.oneCell' = true := by
  intro u hu
  simp only [ocs, List.mem_flatMap] at hu
  obtain ⟨p, hp, hu⟩ := hu
  obtain ⟨A, n, c, e⟩ := h p hp
  simp only [opcs, e, List.mem_cons, List.not_mem_nil, or_false] at hu
  rcases hu with rfl | rfl | rfl | rfl | rfl | rfl | rfl | rfl | rfl <;> rfl
/-- A slice that reads as operations. -/
structure OpsAt (w : World) (B : Nat) (v : Value) (ps : List (OpV × Value)) : Prop where
  form : ∃ A cap, v = .slice A ps.length cap ∧ ps.length ≤ cap ∧ cap ≤ maxLen ∧ (A = none → ps.length = 0) ∧
    (0 < ps.length → ∃ b off, A = some ⟨b, off, none⟩ ∧ b < w.heap.size ∧ ∀ i p, ps[i]? = some p → ∀ j u, (opcs p.1 p.2)[j]? = some u → w.cell? ⟨b, off + (i * 9 + j), none⟩ = some u)
  vals : ∀ p ∈ ps, Bts w B 5 p.2 p.1.val
  wf : ∀ p ∈ ps, 0 ≤ p.1.ticks
section
variable {w w' : World} {B : Nat} {v : Value} {ps : List (OpV × Value)}
theorem OpsAt.below (h : OpsAt w B v ps) (hb : Below w.heap.size w w') : OpsAt w' B v ps := by
  obtain ⟨⟨A, cap, e, h1, h2, h3, h4⟩, h5, h6⟩ := h
  refine ⟨⟨A, cap, e, h1, h2, h3, fun hp => ?_⟩, fun p hp => (h5 p hp).below hb, h6⟩
  obtain ⟨b, off, hA, hlt, hc⟩ := h4 hp
  refine ⟨b, off, hA, Nat.lt_of_lt_of_le hlt hb.size, fun i p hi j u hu => ?_⟩
  rw [World.cell?_of_block (w := w) (a := ⟨b, off + (i * 9 + j), none⟩) (hb.block b hlt)]
  exact hc i p hi j u hu
theorem OpsAt.slice (h : OpsAt w B v ps) : ∃ A cap, v = .slice A ps.length cap := by obtain ⟨⟨A, cap, e, _⟩, _, _⟩ := h; exact ⟨A, cap, e⟩
/-- The cells of the operation with an index. -/
theorem OpsAt.at_ {A : Option Addr} {n cap : Nat} (h : OpsAt w B (.slice A n cap) ps) {i : Nat} {p : OpV × Value} (hi : ps[i]? = some p) : ∃ b off, A = some ⟨b, off, none⟩ ∧ b < w.heap.size ∧
    w.cell? ⟨b, off + i * 9, none⟩ = some (.int .i64 p.1.kind) ∧ w.cell? ⟨b, off + i * 9 + 1, none⟩ = some (.int .u64 p.1.ticks) ∧ w.cell? ⟨b, off + i * 9 + 2, none⟩ = some (.string p.1.key) ∧ w.cell? ⟨b, off + i * 9 + 3, none⟩ = some p.2 ∧ w.cell? ⟨b, off + i * 9 + 4, none⟩ = some (.int .u64 p.1.ttl) ∧ w.cell? ⟨b, off + i * 9 + 5, none⟩ = some (.int .i64 p.1.count) ∧ w.cell? ⟨b, off + i * 9 + 6, none⟩ = some (.int .i64 p.1.bytes) ∧ w.cell? ⟨b, off + i * 9 + 7, none⟩ = some (.int .i64 p.1.cursor) ∧ w.cell? ⟨b, off + i * 9 + 8, none⟩ = some (.int .u64 p.1.birth) := by
  obtain ⟨⟨A', cap', e, h1, h2, h3, h4⟩, h5, h6⟩ := h
  injection e with e1 e2 e3
  subst e1
  have hl := (List.getElem?_eq_some_iff.1 hi).1
  obtain ⟨b, off, hA, hlt, hc⟩ := h4 (by omega)
  refine ⟨b, off, hA, hlt, ?_, ?_, ?_, ?_, ?_, ?_, ?_, ?_, ?_⟩
  · exact hc i p hi 0 _ rfl
  · exact hc i p hi 1 _ rfl
  · exact hc i p hi 2 _ rfl
  · exact hc i p hi 3 _ rfl
  · exact hc i p hi 4 _ rfl
  · exact hc i p hi 5 _ rfl
  · exact hc i p hi 6 _ rfl
  · exact hc i p hi 7 _ rfl
  · exact hc i p hi 8 _ rfl
/-- A row of operations of the call's own. -/
theorem OpsAt.of_own {base : Nat} (h : w.ownsRow base 41 9 v ps.length (ocs ps)) (hv : ∀ p ∈ ps, Bts w B 5 p.2 p.1.val) (hw : ∀ p ∈ ps, 0 ≤ p.1.ticks) : OpsAt w B v ps := by
  refine ⟨?_, hv, hw⟩
  rcases h.2 with ⟨rfl, h0⟩ | ⟨g, cap, cur, rfl, hg, hh, h1, h2, h3, h4⟩
  · exact ⟨none, 0, by rw [h0], by omega, Nat.zero_le _, fun _ => h0, fun hp => by omega⟩
  · refine ⟨some ⟨g, 0, none⟩, cap, rfl, h1, h2, (fun h => by cases h), fun _ => ⟨g, 0, rfl, lt_of_heap hh, fun i p hi j u hu => ?_⟩⟩
    have hj : j < 9 := by have := (List.getElem?_eq_some_iff.1 hu).1; simpa [opcs] using this
    have := h.cells (g := g) rfl (i * 9 + j) u (by rw [ocs_at ps i j p hi hj]; exact hu)
    rw [add_plain] at this
    exact this
end
end Go.Proofs.YtbcigelgggimmaaGreatDoor
namespace Go.Proofs.YtbcigelgggimmaaGreatDoor
open Go Go.RowKit
/-- The bytes of operations, one behind the other. -/
def wrOps : List OpV → Option (List UInt8)
  | [] => some []
  | o :: os => match wrOp o with
    | none => none
    | some b => (wrOps os).map (b ++ ·)
def WriteRet (os : List OpV) (w : World) (e : Ending) (w' : World) : Prop :=
  match wrOps os with
  | none => e = .returned (.tuple #[.slice none 0 0, .int .i64 2]) ∧ Below w.heap.size w w'
  | some bs => if 4096 < bs.length then e = .returned (.tuple #[.slice none 0 0, .int .i64 5]) ∧ Below w.heap.size w w'
    else ∃ v, e = .returned (.tuple #[v, .int .i64 0]) ∧ w'.ownsRow w.heap.size 5 1 v bs.length (bcells bs) ∧ Below w.heap.size w w'
structure WoI (w wr : World) (B : Nat) (V : Value) (ps : List (OpV × Value)) (m : Nat) (v : Value) (bs : List UInt8) : Prop where
  ops : OpsAt wr B V ps
  row : wr.ownsRow w.heap.size 5 1 v bs.length (bcells bs)
  len : bs.length ≤ m * 292
  eq : (wrOps ((ps.drop m).map Prod.fst)).map (bs ++ ·) = wrOps (ps.map Prod.fst)
  below : Below w.heap.size w wr
theorem WoI.none_ {w wr : World} {B : Nat} {V : Value} {ps : List (OpV × Value)} {m : Nat} {v : Value} {bs : List UInt8} {p : OpV × Value} (h : WoI w wr B V ps m v bs) (hp : ps[m]? = some p) (hw : wrOp p.1 = none) : wrOps (ps.map Prod.fst) = none := by
  have hi := (List.getElem?_eq_some_iff.1 hp).1
  have := h.eq
  rw [List.drop_eq_getElem_cons hi, (List.getElem?_eq_some_iff.1 hp).2, List.map_cons] at this
  rw [← this]
  simp only [wrOps, hw, Option.map_none]
theorem WoI.step {w wr W7 W8 : World} {B : Nat} {V : Value} {ps : List (OpV × Value)} {m : Nat} {v v8 : Value} {bs b : List UInt8} {p : OpV × Value} (h : WoI w wr B V ps m v bs) (h0 : OpsAt w B V ps) (hp : ps[m]? = some p) (hw : wrOp p.1 = some b)
    (hb : Below wr.heap.size wr W7) (ho : W8.ownsRow w.heap.size 5 1 v8 (bs.length + b.length) (bcells bs ++ bcells b)) (hg : W7.grownBy W8 v.ownBlock) : WoI w W8 B V ps (m + 1) v8 (bs ++ b) := by
  have hi := (List.getElem?_eq_some_iff.1 hp).1
  have hbl : Below w.heap.size w W8 := (h.below.trans (hb.mono h.below.size)).grown hg (h.below.trans (hb.mono h.below.size)).size (by intro k hk; exact (row_heap h.row hk).1)
  refine ⟨h0.below hbl, ?_, ?_, ?_, hbl⟩
  · rw [List.length_append, show bcells (bs ++ b) = bcells bs ++ bcells b by simp [bcells]]
    exact ho
  · rw [List.length_append]
    have := h.len
    have := (wrOp_pos hw).2
    omega
  · have he := h.eq
    rw [List.drop_eq_getElem_cons hi, (List.getElem?_eq_some_iff.1 hp).2, List.map_cons] at he
    rw [← he]
    simp only [wrOps, hw, Option.map_map]
    congr 1
    funext l
    simp
set_option maxRecDepth 100000 in
set_option maxHeartbeats 4000000 in
theorem writeOps_any (B : Nat) (V : Value) (ps : List (OpV × Value)) (w : World) (h : OpsAt w B V ps) (hk : KG w) (hl : ps.length ≤ 1000000) :
    Calls Tryz.prog 56 #[V] w (WriteRet (ps.map Prod.fst) w) := by
  obtain ⟨i0, hi0, hz0, hz1, hz2⟩ := info_parts u8_info
  obtain ⟨A, cap, rfl⟩ := h.slice
  have H := Lib.hid h
  have HK := Lib.hid hk
  have hlI : (ps.length : Int) ≤ 1000000 := by omega
  clear h hk hl
  go_enter Tryz.func56, Tryz.ntmps56
  go_wp2_with fail
  go_loopw [4, 6, 7, 10] (fun v _ _ i wr => ∃ (m : Nat) (bs : List UInt8), m ≤ ps.length ∧ i = .int .i64 m ∧ WoI w wr B (.slice A ps.length cap) ps m v bs) (fun _ _ _ i _ => ps.length - (intOf i).toNat)
  case atStart => exact ⟨0, [], by omega, rfl, H.out, World.ownsRow_nil _ _ _ _, by simp, by rw [List.drop_zero]; simp, Below.refl _ _⟩
  case round =>
    obtain ⟨m, bs, hm, rfl, hI⟩ := hrel
    have HI := Lib.hid hI
    by_cases hml : m < ps.length
    · obtain ⟨p, hp⟩ : ∃ p, ps[m]? = some p := ⟨_, List.getElem?_eq_getElem hml⟩
      obtain ⟨b, off, rfl, hlt, z0, z1, z2, z3, z4, z5, z6, z7, z8⟩ := hI.ops.at_ hp
      have hval := hI.ops.vals p (List.mem_of_getElem? hp)
      obtain ⟨o, pv⟩ := p
      dsimp only at z0 z1 z2 z3 z4 z5 z6 z7 z8 hval
      obtain ⟨VA, vc, rfl⟩ := hval.form
      have HPp := Lib.hid hp
      have hmI : (m : Int) < (ps.length : Int) := by omega
      have hkw : KG wr := HK.out.below hI.below HK.out.1
      have HW := Lib.hid (fun wx (hb : Below wr.heap.size wr wx) => write_any B o (.slice VA o.val.length vc) wx (hval.below hb) (hkw.below hb hkw.1) (H.out.wf _ (List.mem_of_getElem? hp)))
      clear hp hI hval hkw
      go_wp2_with fail
      refine (HW.out _ ((Below.refl _ _).alloc (Nat.le_refl _) _)).mono ?_
      intro e w7 hret
      rcases hret.cases (fun bs h => (wrOp_pos h).1) with ⟨hw, rfl, hb⟩ | ⟨b8, g, c8, hw, rfl, ho, hb⟩
      · have HN := Lib.hid (HI.out.none_ HPp.out hw)
        have HB := Lib.hid (below_own hb)
        clear hw hb hret z0 z1 z2 z3 z4 z5 z6 z7 z8
        go_wp2_with fail
        go_ret2
        unfold WriteRet
        rw [HN.out]
        exact ⟨rfl, HI.out.below.trans (HB.out.mono HI.out.below.size)⟩
      · have HB := Lib.hid (below_own hb)
        have HO := Lib.hid ho
        have HWo := Lib.hid hw
        have hlen : bs.length + b8.length ≤ 292000292 := by
          have h1 := HI.out.len
          have h2 := (wrOp_pos hw).2
          have : m * 292 ≤ 1000000 * 292 := Nat.mul_le_mul_right _ (by omega)
          omega
        have HLen := Lib.hid hlen
        clear hw hb hret z0 z1 z2 z3 z4 z5 z6 z7 z8 ho hlen
        go_wp2_with (at_builtin; refine wpList_append_src _ rfl _ _ _ rfl w.heap.size 5 i0 _ 1 1 Tryz.underlying39 hi0 hz0 hz1 hz2 rfl (by decide) _ bs.length (bcells bs) rfl (own_later HI.out.row HB.out) (some ⟨g, 0, none⟩) b8.length c8 (bcells b8) rfl (Bts.of_own HO.out B).src_at.2 (bcells_one _) (by have := HLen.out; unfold maxLen; omega) (by have := HLen.out; omega) (by have := HI.out.below.size; have := HB.out.size; omega) ?_; intro v8 w8 hown8 hg8 hat8)
        have hst := WoI.step HI.out H.out HPp.out HWo.out HB.out hown8 hg8
        have HSt := Lib.hid hst
        clear hst hown8 hg8 hat8
        go_roundw
        case rel => exact ⟨m + 1, _, by omega, by go_num, HSt.out⟩
        case measure => simp [intOf]; omega
    · obtain rfl : m = ps.length := by omega
      have he := HI.out.eq
      rw [List.drop_length, List.map_nil] at he
      simp only [wrOps, Option.map_some, List.append_nil] at he
      have HEq := Lib.hid he.symm
      have hrow := hI.row
      obtain ⟨A9, c9, rfl, _, _⟩ := own_form hrow
      have hlen := hI.len
      have hlen2 : (bs.length : Int) ≤ 292000000 := by omega
      clear he hI hrow hlen
      by_cases h4 : 4096 < bs.length
      · have h4I : (4096 : Int) < (bs.length : Int) := by omega
        go_wp2_with fail
        go_ret2
        unfold WriteRet
        rw [HEq.out]
        dsimp only
        rw [if_pos h4]
        exact ⟨rfl, HI.out.below⟩
      · have h4I : ¬ (4096 : Int) < (bs.length : Int) := by omega
        go_wp2_with fail
        go_ret2
        unfold WriteRet
        rw [HEq.out]
        dsimp only
        rw [if_neg h4]
        exact ⟨_, rfl, HI.out.row, HI.out.below⟩
end Go.Proofs.YtbcigelgggimmaaGreatDoor
namespace Go.Proofs.YtbcigelgggimmaaGreatDoor
open Go Go.RowKit
theorem rdPart_len (p : Part) (o : OpV) (rs : List UInt8) : (rdPart p o rs).2.length ≤ rs.length := by cases p <;> simp [rdPart] <;> omega
theorem rdParts_len : ∀ (ps : List Part) (o : OpV) (rs : List UInt8), (rdParts ps o rs).2.length ≤ rs.length
  | [], _, _ => Nat.le_refl _
  | p :: ps, o, rs => Nat.le_trans (rdParts_len ps _ _) (rdPart_len p o rs)
theorem rdHead_len (rs : List UInt8) : (rdHead rs).2.length ≤ rs.length - 1 := by unfold rdHead; split <;> simp <;> omega
theorem rdOp_len (rs : List UInt8) (h : 0 < rs.length) : (rdOp rs).2.length < rs.length := by
  have h1 := rdParts_len (partsOf (rdHead rs).1.kind) (rdHead rs).1 (rdHead rs).2
  have h2 := rdHead_len rs
  have : (rdOp rs).2.length ≤ (rdHead rs).2.length := h1
  omega
theorem rdPart_ticks (p : Part) (o : OpV) (rs : List UInt8) : (rdPart p o rs).1.ticks = o.ticks := by cases p <;> rfl
theorem rdParts_ticks : ∀ (ps : List Part) (o : OpV) (rs : List UInt8), (rdParts ps o rs).1.ticks = o.ticks
  | [], _, _ => rfl
  | p :: ps, o, rs => by rw [rdParts, rdParts_ticks ps, rdPart_ticks]
theorem rdOp_ticks (rs : List UInt8) : 0 ≤ (rdOp rs).1.ticks := by
  unfold rdOp
  rw [rdParts_ticks]
  unfold rdHead
  split
  · show (0 : Int) ≤ 15 + _; omega
  · show (0 : Int) ≤ ((_ : Nat) : Int); omega
def rdOpsF : Nat → List UInt8 → List OpV
  | 0, _ => []
  | _ + 1, [] => []
  | n + 1, b :: rs => (rdOp (b :: rs)).1 :: rdOpsF n (rdOp (b :: rs)).2
/-- The operations of bytes. -/
def rdOps (rs : List UInt8) : List OpV := rdOpsF rs.length rs
theorem rdOpsF_more : ∀ (k n : Nat) (rs : List UInt8), rs.length ≤ n → rdOpsF (n + k) rs = rdOpsF n rs
  | k, 0, rs, h => by
    have : rs = [] := by simpa using h
    subst this
    cases k <;> simp [rdOpsF]
  | k, n + 1, [], _ => by rw [show n + 1 + k = (n + k) + 1 by omega]; rfl
  | k, n + 1, b :: rs, h => by
    rw [show n + 1 + k = (n + k) + 1 by omega]
    have hl := rdOp_len (b :: rs) (by simp)
    simp only [rdOpsF]
    rw [rdOpsF_more k n _ (by omega)]
theorem rdOps_cons (rs : List UInt8) (h : 0 < rs.length) : rdOps rs = (rdOp rs).1 :: rdOps (rdOp rs).2 := by
  cases rs with
  | nil => simp at h
  | cons b rs =>
    have hl := rdOp_len (b :: rs) h
    unfold rdOps
    rw [List.length_cons, rdOpsF]
    congr 1
    have e : rs.length = (rdOp (b :: rs)).2.length + (rs.length - (rdOp (b :: rs)).2.length) := by rw [List.length_cons] at hl; omega
    rw [e]
    exact rdOpsF_more _ _ _ (Nat.le_refl _)
theorem rdOps_nil : rdOps [] = [] := rfl
theorem rdOps_len : ∀ (n : Nat) (rs : List UInt8), rs.length ≤ n → (rdOps rs).length ≤ rs.length
  | 0, rs, h => by
    have : rs = [] := by simpa using h
    subst this
    simp [rdOps, rdOpsF]
  | n + 1, rs, h => by
    by_cases h0 : 0 < rs.length
    · rw [rdOps_cons rs h0, List.length_cons]
      have h1 := rdOp_len rs h0
      have := rdOps_len n (rdOp rs).2 (by omega)
      omega
    · have : rs = [] := by simpa using h0
      subst this
      simp [rdOps, rdOpsF]
theorem op_info : (Tryz.prog.info? 41).map (fun i => (i.zero, i.size, i.bytes)) = some (some (.agg #[.int .i64 0, .int .u64 0, .string ⟨#[]⟩, .slice none 0 0, .int .u64 0, .int .i64 0, .int .i64 0, .int .i64 0, .int .u64 0]), 9, 96) := by kernel_rfl
/-- A row of operations of the call's own. -/
structure OpsOwn (w : World) (base B : Nat) (v : Value) (ps : List (OpV × Value)) : Prop where
  row : w.ownsRow base 41 9 v ps.length (ocs ps)
  vals : ∀ p ∈ ps, Bts w B 5 p.2 p.1.val
  wf : ∀ p ∈ ps, 0 ≤ p.1.ticks
theorem OpsOwn.at_ {w : World} {base B : Nat} {v : Value} {ps : List (OpV × Value)} (h : OpsOwn w base B v ps) : OpsAt w B v ps := OpsAt.of_own h.row h.vals h.wf
theorem OpsOwn.below {w w' : World} {base B : Nat} {v : Value} {ps : List (OpV × Value)} (h : OpsOwn w base B v ps) (hb : Below w.heap.size w w') : OpsOwn w' base B v ps :=
  ⟨own_later h.row hb, fun p hp => (h.vals p hp).below hb, h.wf⟩
theorem OpsOwn.base {w : World} {base base' B : Nat} {v : Value} {ps : List (OpV × Value)} (h : OpsOwn w base B v ps) (hb : base' ≤ base) : OpsOwn w base' B v ps := ⟨ownsRow_base h.row hb, h.vals, h.wf⟩
def ParseRet (B : Nat) (rs : List UInt8) (w : World) (e : Ending) (w' : World) : Prop :=
  if 4096 < rs.length then e = .returned (.tuple #[.slice none 0 0, .int .i64 5]) ∧ Below w.heap.size w w'
  else ∃ v ps, e = .returned (.tuple #[v, .int .i64 0]) ∧ ps.map Prod.fst = rdOps rs ∧ OpsOwn w' w.heap.size B v ps ∧ Below w.heap.size w w'
theorem opcs_one (o : OpV) (A : Option Addr) (n c : Nat) : ∀ u ∈ opcs o (.slice A n c), u.oneCell' = true := by
  intro u hu
  simp only [opcs, List.mem_cons, List.not_mem_nil, or_false] at hu
  rcases hu with rfl | rfl | rfl | rfl | rfl | rfl | rfl | rfl | rfl <;> rfl
def slLen : Value → Nat
  | .slice _ n _ => n
  | _ => 0
structure PaI (w wr : World) (B g : Nat) (v : Value) (ps : List (OpV × Value)) (rs0 rs : List UInt8) : Prop where
  rd : RS wr B g rs
  out : OpsOwn wr w.heap.size B v ps
  eq : ps.map Prod.fst ++ rdOps rs = rdOps rs0
  below : Below w.heap.size w wr
  glt : w.heap.size ≤ g
theorem src_op (w : World) (o : OpV) (V : Value) : Src (w.alloc (.cells (opc o V) 41)) 9 (some ⟨w.heap.size, 0, none⟩) 1 (opcs o V) := by
  refine ⟨rfl, (fun h => by cases h), fun a ha j u hu => ?_⟩
  cases ha
  rw [add_plain, Nat.zero_add]
  have : (opc o V)[j]? = some u := by
    have e : (opc o V) = (opcs o V).toArray := rfl
    rw [e]; simpa using hu
  exact (Blk.new w 41 (opc o V)).cell j u this
theorem PaI.step {w wr W W8 : World} {B g : Nat} {v v8 : Value} {ps : List (OpV × Value)} {rs0 rs : List UInt8} {V : Value} {ob : Obj} (h : PaI w wr B g v ps rs0 rs) (hr : 0 < rs.length) (hB : B ≤ w.heap.size)
    (hV : Bts W B 5 V (rdOp rs).1.val) (hR : RS W B g (rdOp rs).2) (ho : Only (fun k => k = g) wr W)
    (hown : W8.ownsRow w.heap.size 41 9 v8 (ps.length + 1) (ocs ps ++ opcs (rdOp rs).1 V)) (hg : (W.alloc ob).grownBy W8 v.ownBlock) : PaI w W8 B g v8 (ps ++ [((rdOp rs).1, V)]) rs0 (rdOp rs).2 := by
  have hrow : ∀ k, v.ownBlock = some k → w.heap.size ≤ k ∧ ∃ cur, wr.heap[k]? = some (.cells cur 41 (0, 0)) := fun k hk => row_heap h.out.row hk
  have hW : Below w.heap.size w W := h.below.trans (ho.below (fun i hi _ e => by have := h.glt; omega) h.below.size)
  have hA : Only (fun k => v.ownBlock = some k) W W8 := ((Only.refl _ W).alloc ob).trans (Only.of_grown hg) (fun _ _ e => e)
  have hne : ∀ k, v.ownBlock = some k → ∃ cur, W.heap[k]? = some (.cells cur 41 (0, 0)) := fun k hk => by
    obtain ⟨_, cur, hc⟩ := hrow k hk
    refine ⟨cur, (ho.block k (lt_of_heap hc) ?_).trans hc⟩
    intro e
    subst e
    obtain ⟨V2, h1, _⟩ := h.rd
    exact h1.ne_ hc (by decide) rfl
  have hk1 : KeepB B 5 wr W := by
    obtain ⟨V2, h1, _⟩ := h.rd
    exact KeepB.of_blk h1 (by decide) (by have := h.glt; omega) ho
  have hk2 : KeepB B 5 W W8 := KeepB.of_only hA fun k hk e => ⟨by have := (hrow k e).1; omega, fun c fr hc => by
    obtain ⟨cur, h2⟩ := hne k e
    rw [h2] at hc
    injection hc with hc
    injection hc with _ ht
    exact absurd ht (by decide)⟩
  refine ⟨?_, ⟨?_, ?_, ?_⟩, ?_, ?_, h.glt⟩
  · obtain ⟨V2, h1, h2⟩ := hR
    refine ⟨V2, h1.only hA ?_, h2.keep hk2⟩
    intro e
    obtain ⟨cur, h3⟩ := hne g e
    exact h1.ne_ h3 (by decide) rfl
  · rw [List.length_append, List.length_singleton, ocs_append, show ocs [((rdOp rs).1, V)] = opcs (rdOp rs).1 V by simp [ocs]]
    exact hown
  · intro p hp
    rcases List.mem_append.1 hp with hp | hp
    · exact ((h.out.vals p hp).keep hk1).keep hk2
    · have e := List.mem_singleton.1 hp
      subst e
      exact hV.keep hk2
  · intro p hp
    rcases List.mem_append.1 hp with hp | hp
    · exact h.out.wf p hp
    · have e := List.mem_singleton.1 hp
      subst e
      exact rdOp_ticks rs
  · rw [← h.eq, rdOps_cons rs hr]; simp
  · exact hW.trans (hA.below (fun i hi _ e => by have := (hrow i e).1; omega) hW.size)
set_option maxRecDepth 100000 in
set_option maxHeartbeats 4000000 in
theorem parse_any (B : Nat) (V : Value) (rs : List UInt8) (w : World) (hv : Bts w B 5 V rs) (hB : 0 < B) (hs : B ≤ w.heap.size) (hk : KG w) :
    Calls Tryz.prog 46 #[V] w (ParseRet B rs w) := by
  obtain ⟨i0, hi0, hz0, hz1, hz2⟩ := info_parts op_info
  have hmx := hv.le
  unfold maxLen at hmx
  obtain ⟨A, cap, rfl⟩ := hv.form
  have HV := Lib.hid hv
  have HK := Lib.hid hk
  have HBp := Lib.hid hB
  have HS := Lib.hid hs
  clear hv hk hB hs
  by_cases h4 : 4096 < rs.length
  · have h4I : (4096 : Int) < (rs.length : Int) := by omega
    go_enter Tryz.func46, Tryz.ntmps46
    go_wp2_with fail
    go_ret2
    unfold ParseRet
    rw [if_pos h4]
    exact ⟨rfl, Below.refl _ _⟩
  · have h4I : ¬ (4096 : Int) < (rs.length : Int) := by omega
    go_enter Tryz.func46, Tryz.ntmps46
    go_wp2_with fail
    have hN := rdOps_len rs.length rs (Nat.le_refl _)
    have HN := Lib.hid hN
    clear hN
    go_loopw [5] (fun v wr => ∃ ps r, PaI w wr B w.heap.size v ps rs r) (fun v _ => (rdOps rs).length - slLen v)
    case atStart => exact ⟨[], rs, ⟨_, Blk.new _ _ _, HV.out.alloc _⟩, ⟨World.ownsRow_nil _ _ _ _, fun p hp => by simp at hp, fun p hp => by simp at hp⟩, rfl, (Below.refl _ _).alloc (Nat.le_refl _) _, Nat.le_refl _⟩
    case round =>
      obtain ⟨ps, r, hI⟩ := hrel
      have hrd := hI.rd
      obtain ⟨V', hb', hv'⟩ := hrd
      obtain ⟨A', c', rfl⟩ := hv'.form
      have z0 : wr.cell? ⟨w.heap.size, 0, none⟩ = some (.slice A' r.length c') := hb'.cell 0 _ rfl
      have hrow := hI.out.row
      obtain ⟨A5, c5, rfl, _, _⟩ := own_form hrow
      have HI := Lib.hid hI
      have hgl := hb'.lt
      clear hb' hv' hrow hI
      have hpl : ps.length + (rdOps r).length = (rdOps rs).length := by rw [← HI.out.eq, List.length_append, List.length_map]
      by_cases hr0 : 0 < r.length
      · have hr0I : (0 : Int) < (r.length : Int) := by omega
        have hlt : ps.length < (rdOps rs).length := by
          rw [rdOps_cons r hr0, List.length_cons] at hpl
          omega
        have hle : ps.length ≤ 4096 := by have := HN.out; omega
        have HR0 := Lib.hid hr0
        have HLe := Lib.hid hle
        have HLt := Lib.hid hlt
        clear hpl hle hlt hr0
        have HRd := Lib.hid (read_any B w.heap.size r wr HI.out.rd HS.out HBp.out (HK.out.below HI.out.below HK.out.1) (Nat.le_trans HS.out HI.out.below.size))
        go_wp2_with fail
        refine HRd.out.mono ?_
        rintro e w7 ⟨V7, rfl, hv7, hr7, ho7⟩
        obtain ⟨A7, c7, rfl⟩ := hv7.form
        have HV7 := Lib.hid hv7
        have HR7 := Lib.hid hr7
        have HO7 := Lib.hid ho7
        have hrow7 : w7.ownsRow w.heap.size 41 9 (.slice A5 ps.length c5) ps.length (ocs ps) := ownsRow_only HI.out.out.row ho7 (fun k hk e => by
          subst e
          obtain ⟨_, cur, hc⟩ := row_heap HI.out.out.row hk
          obtain ⟨V2, h1, _⟩ := HI.out.rd
          exact h1.ne_ hc (by decide) rfl)
        have HRow7 := Lib.hid hrow7
        have hsz7 := ho7.size
        have HSz7 := Lib.hid hsz7
        have HSrc := Lib.hid (src_op w7 (rdOp r).1 (.slice A7 (rdOp r).1.val.length c7))
        unfold opv
        unfold opc at HSrc ⊢
        clear hv7 hr7 ho7 hrow7 hsz7 z0 HRd
        go_wp2_with (at_builtin; refine wpList_append_src _ rfl _ _ _ rfl w.heap.size 41 i0 _ 9 96 Tryz.underlying22 hi0 hz0 hz1 hz2 rfl (by decide) _ ps.length (ocs ps) rfl (HRow7.out.alloc _) (some ⟨w7.heap.size, 0, none⟩) 1 1 (opcs (rdOp r).1 (.slice A7 (rdOp r).1.val.length c7)) rfl HSrc.out (opcs_one _ _ _ _) (by have := HLe.out; unfold maxLen; omega) (by have := HLe.out; omega) (by have := HI.out.below.size; have := HSz7.out; simp; omega) ?_; intro v8 w8 hown8 hg8 hat8)
        have hst := PaI.step HI.out HR0.out HS.out HV7.out HR7.out HO7.out hown8 hg8
        have HSt := Lib.hid hst
        have hsl : slLen v8 = ps.length + 1 := by
          obtain ⟨A8, c8, e8, _, _⟩ := own_form hown8
          rw [e8]; rfl
        have HSl := Lib.hid hsl
        clear hst hown8 hg8 hat8 hsl
        go_roundw
        case rel => exact ⟨_, _, HSt.out⟩
        case measure => rw [HSl.out]; show _ < (rdOps rs).length - ps.length; have := HLt.out; omega
      · have hr0I : ¬ (0 : Int) < (r.length : Int) := by omega
        have hnil : r = [] := by simpa using hr0
        subst hnil
        clear hpl hr0
        go_wp2_with fail
        go_ret2
        unfold ParseRet
        rw [if_neg h4]
        refine ⟨_, ps, rfl, ?_, HI.out.out, HI.out.below⟩
        rw [← HI.out.eq]; simp [rdOps, rdOpsF]
end Go.Proofs.YtbcigelgggimmaaGreatDoor
