/- The walk of layer 26: Write. -/
import Derived.Test.YtffigmciclopdaaDoorScrH
namespace Go.Proofs.YtffigmciclopdaaDoor
open Go Go.RowKit

/-- The bytes of operations, one behind the other. -/
def wrOps : List OpV → Option (List UInt8)
  | [] => some []
  | o :: os => match wrOp o with
    | none => none
    | some b => (wrOps os).map (b ++ ·)

def WriteRet (os : List OpV) (w : World) (e : Ending) (w' : World) : Prop :=
  match wrOps os with
  | none => e = .returned (.tuple #[.slice none 0 0, .int .i64 2]) ∧ Below w.heap.size w w'
  | some bs => if 4096 < bs.length then e = .returned (.tuple #[.slice none 0 0, .int .i64 5]) ∧ Below w.heap.size w w'
    else ∃ v, e = .returned (.tuple #[v, .int .i64 0]) ∧ w'.ownsRow w.heap.size 5 1 v bs.length (bcells bs) ∧ Below w.heap.size w w'

structure WoI (w wr : World) (B : Nat) (V : Value) (ps : List (OpV × Value)) (m : Nat) (v : Value) (bs : List UInt8) : Prop where
  ops : OpsAt wr B V ps
  row : wr.ownsRow w.heap.size 5 1 v bs.length (bcells bs)
  len : bs.length ≤ m * 292
  eq : (wrOps ((ps.drop m).map Prod.fst)).map (bs ++ ·) = wrOps (ps.map Prod.fst)
  below : Below w.heap.size w wr

theorem WoI.none_ {w wr : World} {B : Nat} {V : Value} {ps : List (OpV × Value)} {m : Nat} {v : Value} {bs : List UInt8} {p : OpV × Value} (h : WoI w wr B V ps m v bs) (hp : ps[m]? = some p) (hw : wrOp p.1 = none) : wrOps (ps.map Prod.fst) = none := by
  have hi := (List.getElem?_eq_some_iff.1 hp).1
  have := h.eq
  rw [List.drop_eq_getElem_cons hi, (List.getElem?_eq_some_iff.1 hp).2, List.map_cons] at this
  rw [← this]
  simp only [wrOps, hw, Option.map_none]

theorem WoI.step {w wr W7 W8 : World} {B : Nat} {V : Value} {ps : List (OpV × Value)} {m : Nat} {v v8 : Value} {bs b : List UInt8} {p : OpV × Value} (h : WoI w wr B V ps m v bs) (h0 : OpsAt w B V ps) (hp : ps[m]? = some p) (hw : wrOp p.1 = some b)
    (hb : Below wr.heap.size wr W7) (ho : W8.ownsRow w.heap.size 5 1 v8 (bs.length + b.length) (bcells bs ++ bcells b)) (hg : W7.grownBy W8 v.ownBlock) : WoI w W8 B V ps (m + 1) v8 (bs ++ b) := by
  have hi := (List.getElem?_eq_some_iff.1 hp).1
  have hbl : Below w.heap.size w W8 := (h.below.trans (hb.mono h.below.size)).grown hg (h.below.trans (hb.mono h.below.size)).size (by intro k hk; exact (row_heap h.row hk).1)
  refine ⟨h0.below hbl, ?_, ?_, ?_, hbl⟩
  · rw [List.length_append, show bcells (bs ++ b) = bcells bs ++ bcells b by simp [bcells]]
    exact ho
  · rw [List.length_append]
    have := h.len
    have := (wrOp_pos hw).2
    omega
  · have he := h.eq
    rw [List.drop_eq_getElem_cons hi, (List.getElem?_eq_some_iff.1 hp).2, List.map_cons] at he
    rw [← he]
    simp only [wrOps, hw, Option.map_map]
    congr 1
    funext l
    simp

set_option maxRecDepth 100000 in
set_option maxHeartbeats 4000000 in
theorem writeOps_any (B : Nat) (V : Value) (ps : List (OpV × Value)) (w : World) (h : OpsAt w B V ps) (hk : KG w) (hl : ps.length ≤ 1000000) :
    Calls Tryd.prog 31 #[V] w (WriteRet (ps.map Prod.fst) w) := by
  obtain ⟨i0, hi0, hz0, hz1, hz2⟩ := info_parts u8_info
  obtain ⟨A, cap, rfl⟩ := h.slice
  have H := Lib.hid h
  have HK := Lib.hid hk
  have hlI : (ps.length : Int) ≤ 1000000 := by omega
  clear h hk hl
  go_enter Tryd.func31, Tryd.ntmps31
  go_wp2_with fail
  go_loopw [4, 6, 7, 10] (fun v _ _ i wr => ∃ (m : Nat) (bs : List UInt8), m ≤ ps.length ∧ i = .int .i64 m ∧ WoI w wr B (.slice A ps.length cap) ps m v bs) (fun _ _ _ i _ => ps.length - (intOf i).toNat)
  case atStart => exact ⟨0, [], by omega, rfl, H.out, World.ownsRow_nil _ _ _ _, by simp, by rw [List.drop_zero]; simp, Below.refl _ _⟩
  case round =>
    obtain ⟨m, bs, hm, rfl, hI⟩ := hrel
    have HI := Lib.hid hI
    by_cases hml : m < ps.length
    · obtain ⟨p, hp⟩ : ∃ p, ps[m]? = some p := ⟨_, List.getElem?_eq_getElem hml⟩
      obtain ⟨b, off, rfl, hlt, z0, z1, z2, z3, z4, z5, z6, z7, z8⟩ := hI.ops.at_ hp
      have hval := hI.ops.vals p (List.mem_of_getElem? hp)
      obtain ⟨o, pv⟩ := p
      dsimp only at z0 z1 z2 z3 z4 z5 z6 z7 z8 hval
      obtain ⟨VA, vc, rfl⟩ := hval.form
      have HPp := Lib.hid hp
      have hmI : (m : Int) < (ps.length : Int) := by omega
      have hkw : KG wr := HK.out.below hI.below HK.out.1
      have HW := Lib.hid (fun wx (hb : Below wr.heap.size wr wx) => write_any B o (.slice VA o.val.length vc) wx (hval.below hb) (hkw.below hb hkw.1) (H.out.wf _ (List.mem_of_getElem? hp)))
      clear hp hI hval hkw
      go_wp2_with fail
      refine (HW.out _ ((Below.refl _ _).alloc (Nat.le_refl _) _)).mono ?_
      intro e w7 hret
      rcases hret.cases (fun bs h => (wrOp_pos h).1) with ⟨hw, rfl, hb⟩ | ⟨b8, g, c8, hw, rfl, ho, hb⟩
      · have HN := Lib.hid (HI.out.none_ HPp.out hw)
        have HB := Lib.hid (below_own hb)
        clear hw hb hret z0 z1 z2 z3 z4 z5 z6 z7 z8
        go_wp2_with fail
        go_ret2
        unfold WriteRet
        rw [HN.out]
        exact ⟨rfl, HI.out.below.trans (HB.out.mono HI.out.below.size)⟩
      · have HB := Lib.hid (below_own hb)
        have HO := Lib.hid ho
        have HWo := Lib.hid hw
        have hlen : bs.length + b8.length ≤ 292000292 := by
          have h1 := HI.out.len
          have h2 := (wrOp_pos hw).2
          have : m * 292 ≤ 1000000 * 292 := Nat.mul_le_mul_right _ (by omega)
          omega
        have HLen := Lib.hid hlen
        clear hw hb hret z0 z1 z2 z3 z4 z5 z6 z7 z8 ho hlen
        go_wp2_with (at_builtin; refine wpList_append_src _ rfl _ _ _ rfl w.heap.size 5 i0 _ 1 1 Tryd.underlying22 hi0 hz0 hz1 hz2 rfl (by decide) _ bs.length (bcells bs) rfl (own_later HI.out.row HB.out) (some ⟨g, 0, none⟩) b8.length c8 (bcells b8) rfl (Bts.of_own HO.out B).src_at.2 (bcells_one _) (by have := HLen.out; unfold maxLen; omega) (by have := HLen.out; omega) (by have := HI.out.below.size; have := HB.out.size; omega) ?_; intro v8 w8 hown8 hg8 hat8)
        have hst := WoI.step HI.out H.out HPp.out HWo.out HB.out hown8 hg8
        have HSt := Lib.hid hst
        clear hst hown8 hg8 hat8
        go_roundw
        case rel => exact ⟨m + 1, _, by omega, by go_num, HSt.out⟩
        case measure => simp [intOf]; omega
    · obtain rfl : m = ps.length := by omega
      have he := HI.out.eq
      rw [List.drop_length, List.map_nil] at he
      simp only [wrOps, Option.map_some, List.append_nil] at he
      have HEq := Lib.hid he.symm
      have hrow := hI.row
      obtain ⟨A9, c9, rfl, _, _⟩ := own_form hrow
      have hlen := hI.len
      have hlen2 : (bs.length : Int) ≤ 292000000 := by omega
      clear he hI hrow hlen
      by_cases h4 : 4096 < bs.length
      · have h4I : (4096 : Int) < (bs.length : Int) := by omega
        go_wp2_with fail
        go_ret2
        unfold WriteRet
        rw [HEq.out]
        dsimp only
        rw [if_pos h4]
        exact ⟨rfl, HI.out.below⟩
      · have h4I : ¬ (4096 : Int) < (bs.length : Int) := by omega
        go_wp2_with fail
        go_ret2
        unfold WriteRet
        rw [HEq.out]
        dsimp only
        rw [if_neg h4]
        exact ⟨_, rfl, HI.out.row, HI.out.below⟩

end Go.Proofs.YtffigmciclopdaaDoor
