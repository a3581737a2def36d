/- The walk of spoil (layer 9): it writes the bytes of a slice of the caller's own, and nothing else. -/
import Derived.Test.YtjjhndhigkhkpaaRefE
namespace Go.Proofs.Ytjjhndhigkhkpaa
open Go Go.RowKit
attribute [local go_sem ↓] Go.wp_at_zero Go.wp_at_succ

set_option maxHeartbeats 1000000 in
theorem spoil_any (base : Nat) (k : ByteArray) (v : Value) (bs : List UInt8) (d n : Int) (w : World) (h : w.ownsRow base 5 1 v bs.length (bcells bs)) (hl : bs.length ≤ 1000000000) :
    Calls Try.prog 23 #[.agg #[.string k, v, .int .u64 d, .int .u64 n]] w fun e w' => (∃ u, e = .returned u) ∧ Only (fun j => v.ownBlock = some j) w w' := by
  obtain ⟨A, cap, rfl, hc1, _⟩ := own_form h
  have hlI : (bs.length : Int) ≤ 1000000000 := by omega
  have HO := Lib.hid h
  clear h hl
  go_enter Try.func23, Try.ntmps23
  go_wp2_with fail
  obtain ⟨w1, hw1⟩ : ∃ w1, w.alloc (.cells #[.string k, .slice A bs.length cap, .int .u64 d, .int .u64 n] 31) = w1 := ⟨_, rfl⟩
  have HB1 : Hid (Blk w1 w.heap.size 31 #[.string k, .slice A bs.length cap, .int .u64 d, .int .u64 n]) := Lib.hid (hw1 ▸ Blk.new w _ _)
  have HO1 : Hid (w1.ownsRow base 5 1 (.slice A bs.length cap) bs.length (bcells bs)) := Lib.hid (hw1 ▸ HO.out.alloc _)
  have HY1 : Hid (Only (fun j => (Value.slice A bs.length cap).ownBlock = some j) w w1) := Lib.hid (hw1 ▸ (Only.refl _ w).alloc _)
  rw [hw1]
  clear hw1
  go_loopw [6] (fun i wr => ∃ (m : Nat) (xs : List Value), m ≤ bs.length ∧ i = .int .i64 m ∧ wr.ownsRow base 5 1 (.slice A bs.length cap) bs.length xs ∧ (∀ j, j < bs.length → ∃ z, xs[j]? = some (.int .u8 z)) ∧ Blk wr w.heap.size 31 #[.string k, .slice A bs.length cap, .int .u64 d, .int .u64 n] ∧ Only (fun j => (Value.slice A bs.length cap).ownBlock = some j) w wr) (fun i _ => bs.length - (intOf i).toNat)
  case atStart => exact ⟨0, bcells bs, by omega, rfl, HO1.out, fun j hj => ⟨_, by simp [bcells, hj]; rfl⟩, HB1.out, HY1.out⟩
  case round =>
    obtain ⟨m, xs, hm, rfl, hown, hxs, hbx, hon⟩ := hrel
    have q1 := hbx.cell 1 _ rfl
    have HW := Lib.hid hown
    have HXs := Lib.hid hxs
    have HBx := Lib.hid hbx
    have HOn := Lib.hid hon
    clear HB1 HO1 HY1
    by_cases hml : m < bs.length
    · obtain ⟨g, hg, rfl, hgc, hgle⟩ := own_at hown hml
      obtain ⟨z, hz⟩ := hxs m hml
      rw [hz] at hgc
      have hfz := hown.frozenAt m
      have hmI : (m : Int) < (bs.length : Int) := by omega
      have hcI : (bs.length : Int) ≤ (cap : Int) := by omega
      have hne : g ≠ w.heap.size := fun e => by
        obtain ⟨_, cur, h2⟩ := row_block hown (k := g) rfl
        exact (hbx.ne_ h2 (by decide)) e.symm
      clear hown hxs hbx hon hz
      go_wp2_with fail
      go_roundw
      case rel => exact ⟨m + 1, _, by omega, by go_num, (HW.out.stored m _).1, fun j hj => by
          by_cases e : m = j
          · subst e
            have : m < xs.length := by
              obtain ⟨z', hz'⟩ := HXs.out m hj
              exact (List.getElem?_eq_some_iff.1 hz').1
            exact ⟨_, List.getElem?_set_self this⟩
          · rw [List.getElem?_set_ne e]; exact HXs.out j hj, HBx.out.far (fun e => hne e.symm) _, Only.setCell (S := fun j => (Value.slice (some ⟨g, 0, none⟩) bs.length cap).ownBlock = some j) HOn.out (p := ⟨g, m, none⟩) (.inl rfl) _⟩
      case measure => simp [intOf]; omega
    · obtain rfl : m = bs.length := by omega
      clear hown hxs hbx hon
      go_wp2_with fail
      exact bodyPost_end (v := .tuple #[]) (results_none rfl _ _ _) rfl ⟨⟨_, rfl⟩, HOn.out⟩

end Go.Proofs.Ytjjhndhigkhkpaa
