/- Layer 45: slices.Grow of nothing, slices.Concat. -/
import Derived.Test.YtffigmciclopdaaDoorJouA
namespace Go.Proofs.YtffigmciclopdaaDoor
open Go Go.RowKit

set_option maxRecDepth 100000 in
set_option maxHeartbeats 2000000 in
theorem grow_nil (n : Nat) (w : World) (h0 : 0 < n) (hn : n ≤ 1000000000) :
    Calls Tryd.prog 45 #[.slice none 0 0, .int .i64 n] w fun e w' => ∃ v, e = .returned v ∧ w'.ownsRow w.heap.size 5 1 v 0 [] ∧ Below w.heap.size w w' := by
  have hnI : (0 : Int) < (n : Int) := by omega
  have hnI2 : (n : Int) ≤ 1000000000 := by omega
  have hn0 : ¬ n = 0 := by omega
  have hb5 : Tryd.t5.bytes = 1 := by kernel_rfl
  have q1 : ¬ (281474976710656 < (n : Int) * (Tryd.t5.bytes : Int)) := by rw [hb5]; omega
  have q2 : ¬ (281474976710656 < Builtin.nextslicecap n 0 * Tryd.t5.bytes) := by rw [hb5]; simp [Builtin.nextslicecap, h0]; omega
  have hge := grownCap_ge w n 0 5
  have hcm := grownCap_le_maxLen w n 0 5 (by unfold maxLen; omega)
  unfold grownCap at hge hcm
  have HGe := Lib.hid hge
  have HCm := Lib.hid hcm
  clear hb5 hge hcm
  go_enter Tryd.func45, Tryd.ntmps45
  go_wp2_with fail
  go_ret
  have hge := HGe.out
  have hcm := HCm.out
  generalize (Question.appendCap n 0 5).cut (w.tape w.drawn (Question.appendCap n 0 5)) = gc at hge hcm ⊢
  have hsz : (Builtin.zeroCells #[Value.int .u8 0] n ++ Builtin.zeroCells #[Value.int .u8 0] (gc - n)).size = gc * 1 := by
    rw [Array.size_append, size_zeroCells, size_zeroCells, show (#[Value.int IntKind.u8 0] : Array Value).size = 1 from rfl]; omega
  exact ⟨_, rfl, (World.ownsRow_made w _ gc (Nat.le_refl _) hcm hsz).drew, ((Below.refl _ _).alloc (Nat.le_refl _) _).drew⟩

def bytesN (ps : List (Value × List UInt8)) : Nat := (ps.flatMap Prod.snd).length
theorem bytesN_take {ps : List (Value × List UInt8)} {m : Nat} {p : Value × List UInt8} (h : ps[m]? = some p) : bytesN (ps.take (m + 1)) = bytesN (ps.take m) + p.2.length := by
  unfold bytesN
  rw [List.take_add_one, h]
  simp
theorem bytesN_le (ps : List (Value × List UInt8)) (m : Nat) : bytesN (ps.take m) ≤ bytesN ps := by
  unfold bytesN
  have : ps.flatMap Prod.snd = (ps.take m).flatMap Prod.snd ++ (ps.drop m).flatMap Prod.snd := by rw [← List.flatMap_append, List.take_append_drop]
  rw [this, List.length_append]
  omega

structure CcI (w wr : World) (B g : Nat) (ps : List (Value × List UInt8)) (m : Nat) (v : Value) : Prop where
  src : BssAt wr B g ps
  row : wr.ownsRow w.heap.size 5 1 v ((ps.take m).flatMap Prod.snd).length (bcells ((ps.take m).flatMap Prod.snd))
  below : Below w.heap.size w wr

theorem CcI.step {w wr w8 : World} {B g m : Nat} {ps : List (Value × List UInt8)} {v v8 : Value} {bs : List UInt8} (h0 : BssAt w B g ps) (h : CcI w wr B g ps m v)
    (ht : (ps.take (m + 1)).flatMap Prod.snd = (ps.take m).flatMap Prod.snd ++ bs) (ho : w8.ownsRow w.heap.size 5 1 v8 (((ps.take m).flatMap Prod.snd).length + bs.length) (bcells ((ps.take m).flatMap Prod.snd) ++ bcells bs)) (hg : wr.grownBy w8 v.ownBlock) : CcI w w8 B g ps (m + 1) v8 := by
  have hb : Below w.heap.size w w8 := h.below.grown hg h.below.size (by intro k hk; exact (row_heap h.row hk).1)
  refine ⟨h0.below hb, ?_, hb⟩
  rw [ht, List.length_append, show bcells ((ps.take m).flatMap Prod.snd ++ bs) = bcells ((ps.take m).flatMap Prod.snd) ++ bcells bs by simp [bcells]]
  exact ho

set_option maxRecDepth 100000 in
set_option maxHeartbeats 4000000 in
theorem concat_any (B g : Nat) (ps : List (Value × List UInt8)) (w : World) (h : BssAt w B g ps) (hl : ps.length ≤ 1000000) (h0 : 0 < bytesN ps) (hb : bytesN ps ≤ 1000000000) :
    Calls Tryd.prog 40 #[.slice (some ⟨g, 0, none⟩) ps.length ps.length] w (OwnRet (ps.flatMap Prod.snd) w) := by
  obtain ⟨i0, hi0, hz0, hz1, hz2⟩ := info_parts u8_info
  have hlI : (ps.length : Int) ≤ 1000000 := by omega
  have hbI : (bytesN ps : Int) ≤ 1000000000 := by omega
  have H := Lib.hid h
  have H0 := Lib.hid h0
  have HB := Lib.hid hb
  clear h hl h0 hb
  go_enter Tryd.func40, Tryd.ntmps40
  go_wp2_with fail
  go_loopw [3, 5, 11] (fun x _ i wr => ∃ m : Nat, m ≤ ps.length ∧ i = .int .i64 m ∧ x = .int .i64 (bytesN (ps.take m)) ∧ wr = w) (fun _ _ i _ => ps.length - (intOf i).toNat)
  case atStart => exact ⟨0, by omega, rfl, rfl, rfl⟩
  case round =>
    obtain ⟨m, hm, rfl, rfl, hww⟩ := hrel
    obtain rfl : w = wr := hww.symm
    by_cases hml : m < ps.length
    · obtain ⟨p, hp⟩ : ∃ p, ps[m]? = some p := ⟨_, List.getElem?_eq_getElem hml⟩
      obtain ⟨c0, hv⟩ := H.out.cell hp
      have hbt := bytesN_take hp
      have hble := bytesN_le ps (m + 1)
      have hble2 := bytesN_le ps m
      obtain ⟨pv, bs⟩ := p
      dsimp only at c0 hv hbt
      obtain ⟨A, cap, rfl⟩ := hv.form
      have hmI : (m : Int) < (ps.length : Int) := by omega
      have htI : (bytesN (ps.take m) : Int) + (bs.length : Int) ≤ 1000000000 := by omega
      have ht0 : (0 : Int) ≤ (bytesN (ps.take m) : Int) + (bs.length : Int) := by omega
      have HT := Lib.hid (by rw [hbt]; push_cast; rfl : ((bytesN (ps.take (m + 1)) : Nat) : Int) = (bytesN (ps.take m) : Int) + (bs.length : Int))
      clear hp hv hbt hble hble2
      go_wp2_with fail
      go_roundw
      case rel => exact ⟨m + 1, by omega, by go_num, by rw [HT.out], trivial⟩
      case measure => simp [intOf]; omega
    · obtain rfl : m = ps.length := by omega
      have ht : ps.take ps.length = ps := List.take_length
      rw [ht]
      clear ht
      go_wp2_with fail
      refine (grow_nil _ _ H0.out HB.out).mono ?_
      rintro e w2 ⟨v2, rfl, ho2, hb2⟩
      have HI := Lib.hid (show CcI w w2 B g ps 0 v2 from ⟨H.out.below hb2, by simpa [bcells] using ho2, hb2⟩)
      clear ho2 hb2
      go_wp2_with fail
      go_loopw [6, 8, 27] (fun v _ i wr2 => ∃ m : Nat, m ≤ ps.length ∧ i = .int .i64 m ∧ CcI w wr2 B g ps m v) (fun _ _ i _ => ps.length - (intOf i).toNat)
      case atStart => exact ⟨0, by omega, rfl, HI.out⟩
      case round =>
        obtain ⟨m, hm, rfl, hI⟩ := hrel
        have HIm := Lib.hid hI
        clear HI
        by_cases hml : m < ps.length
        · obtain ⟨p, hp⟩ : ∃ p, ps[m]? = some p := ⟨_, List.getElem?_eq_getElem hml⟩
          obtain ⟨c0, hv⟩ := hI.src.cell hp
          have hbt := bytesN_take hp
          have hble := bytesN_le ps (m + 1)
          obtain ⟨pv, bs⟩ := p
          dsimp only at c0 hv hbt
          obtain ⟨A, cap, rfl⟩ := hv.form
          have hmI : (m : Int) < (ps.length : Int) := by omega
          have hln : ((ps.take m).flatMap Prod.snd).length + bs.length ≤ 1000000000 := by have := HB.out; unfold bytesN at *; omega
          have HLn := Lib.hid hln
          have HV := Lib.hid hv
          have ht : (ps.take (m + 1)).flatMap Prod.snd = (ps.take m).flatMap Prod.snd ++ bs := by rw [List.take_add_one, hp]; simp
          have HT := Lib.hid ht
          clear hp hv hbt hble hln ht hI
          go_wp2_with (at_builtin; refine wpList_append_src _ rfl _ _ _ rfl w.heap.size 5 i0 _ 1 1 Tryd.underlying22 hi0 hz0 hz1 hz2 rfl (by decide) _ _ (bcells ((ps.take m).flatMap Prod.snd)) rfl HIm.out.row A bs.length cap (bcells bs) rfl HV.out.src_at.2 (bcells_one _) (by have := HLn.out; unfold maxLen; omega) (by have := HLn.out; omega) HIm.out.below.size ?_; intro v8 w8 hown8 hg8 hat8)
          have HSt := Lib.hid (CcI.step H.out HIm.out HT.out hown8 hg8)
          clear hown8 hg8 hat8
          go_roundw
          case rel => exact ⟨m + 1, by omega, by go_num, HSt.out⟩
          case measure => simp [intOf]; omega
        · obtain rfl : m = ps.length := by omega
          have hrow := hI.row
          rw [show ps.take ps.length = ps from List.take_length] at hrow
          have HRow := Lib.hid hrow
          clear hrow hI
          go_wp2_with fail
          go_ret
          exact ⟨_, rfl, HRow.out, HIm.out.below⟩

end Go.Proofs.YtffigmciclopdaaDoor
