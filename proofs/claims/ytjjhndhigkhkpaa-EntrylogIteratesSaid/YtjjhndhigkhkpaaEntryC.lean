/- The walk of entry.New. -/
import Derived.Test.YtjjhndhigkhkpaaEntryB
namespace Go.Proofs.Ytjjhndhigkhkpaa
open Go Go.RowKit

theorem chkE_pos {k : ByteArray} {n : Nat} {b : Int} (h : chkE k n b = 0) : keyB k = true ∧ b ≠ 0 ∧ n ≤ 65536 := by
  unfold chkE at h
  by_cases h1 : keyB k = false ∨ b = 0
  · rw [if_pos h1] at h; simp at h
  · rw [if_neg h1] at h
    by_cases h2 : 65536 < n
    · rw [if_pos h2] at h; simp at h
    · refine ⟨?_, fun e => h1 (.inr e), by omega⟩
      cases e : keyB k with
      | true => rfl
      | false => exact absurd (.inl e) h1

theorem chkE_ok {k : ByteArray} {n : Nat} {b : Int} (h1 : keyB k = true) (h2 : b ≠ 0) (h3 : n ≤ 65536) : chkE k n b = 0 := by
  unfold chkE
  rw [if_neg (by rw [h1]; simp [h2]), if_neg (by omega)]

set_option maxHeartbeats 1000000 in
theorem entryNew_ok (B : Nat) (k : ByteArray) (v : Value) (bs : List UInt8) (d b : Int) (w : World) (hk : k.size ≤ maxLen) (hb : Bts w B 5 v bs) (hc : chkE k bs.length b = 0) :
    Calls Try.prog 30 #[.string k, v, .int .u64 d, .int .u64 b] w fun e w' => ∃ v', e = .returned (.tuple #[.agg #[.string k, v', .int .u64 d, .int .u64 b], .int .i64 0]) ∧ w'.ownsRow w.heap.size 5 1 v' bs.length (bcells bs) ∧ Below w.heap.size w w' := by
  obtain ⟨A, cap, rfl⟩ := hb.form
  have HB := Lib.hid hb
  have HC := Lib.hid hc
  have hl := (chkE_pos hc).2.2
  have HL : Hid (bs.length ≤ 1000000000) := Lib.hid (by omega)
  clear hb hc hl
  go_enter Try.func30, Try.ntmps30
  go_wp2_with fail
  refine (check_any B _ _ bs _ _ hk (HB.out.alloc _)).mono ?_
  rw [HC.out]
  rintro e w1 ⟨rfl, h1⟩
  have b1 := Lib.hid ((Blk.new w 31 _).below h1)
  have HB1 := Lib.hid ((HB.out.alloc _).below h1)
  have HG := Lib.hid (below_own h1)
  clear h1
  go_wp2_with fail
  refine (entryCopy_any B _ _ bs _ _ _ HB1.out HL.out).mono ?_
  rintro e w2 ⟨v2, rfl, hown, h2⟩
  obtain ⟨A1, c1, rfl, _, _⟩ := own_form hown
  have b2 := b1.out.below h2
  have hz := b2.lt
  have hle := b1.out.lt
  have HG := Lib.hid (HG.out.trans (h2.mono HG.out.size))
  have HO := Lib.hid hown
  have l0 := b2.cell 0 _ rfl
  have l1 := b2.cell 1 _ rfl
  have l2 := b2.cell 2 _ rfl
  have l3 := b2.cell 3 _ rfl
  have l4 := b2.frozen
  clear h2 hown b2
  go_wp2_with fail
  refine bodyPost_ret (v := .tuple #[.agg #[.string k, .slice A1 bs.length c1, .int .u64 d, .int .u64 b], .int .i64 0]) (by simp [results, Try.results30, go_sem, l0, l1, l2, l3, hz]) rfl ⟨_, rfl, ?_, ?_⟩
  · have h3 := ownsRow_setCell_below (ownsRow_setCell_below (ownsRow_setCell_below (ownsRow_setCell_below HO.out (a := ⟨w.heap.size, 0, none⟩) hle (.string k)) (a := ⟨w.heap.size, 1, none⟩) hle (.slice A1 bs.length c1)) (a := ⟨w.heap.size, 2, none⟩) hle (.int .u64 d)) (a := ⟨w.heap.size, 3, none⟩) hle (.int .u64 b)
    exact ownsRow_base h3 (by omega)
  · exact (((HG.out.setCell (p := ⟨w.heap.size, 0, none⟩) (Nat.le_refl _) _).setCell (p := ⟨w.heap.size, 1, none⟩) (Nat.le_refl _) _).setCell (p := ⟨w.heap.size, 2, none⟩) (Nat.le_refl _) _).setCell (p := ⟨w.heap.size, 3, none⟩) (Nat.le_refl _) _

set_option maxHeartbeats 1000000 in
theorem entryNew_err (B : Nat) (k : ByteArray) (v : Value) (bs : List UInt8) (d b : Int) (w : World) (hk : k.size ≤ maxLen) (hb : Bts w B 5 v bs) (hc : chkE k bs.length b ≠ 0) :
    Calls Try.prog 30 #[.string k, v, .int .u64 d, .int .u64 b] w fun e w' => e = .returned (.tuple #[.agg #[.string ⟨#[]⟩, .slice none 0 0, .int .u64 0, .int .u64 0], .int .i64 (chkE k bs.length b)]) ∧ Below w.heap.size w w' := by
  obtain ⟨A, cap, rfl⟩ := hb.form
  have HB := Lib.hid hb
  have hcv : (chkE k bs.length b == 0) = false := by simpa using hc
  clear hb hc
  go_enter Try.func30, Try.ntmps30
  go_wp2_with fail
  refine (check_any B _ _ bs _ _ hk (HB.out.alloc _)).mono ?_
  rintro e w1 ⟨rfl, h1⟩
  have b2 := (Blk.new w 31 _).below h1
  have HG := Lib.hid (below_own h1)
  have hz := b2.lt
  have l0 := b2.cell 0 _ rfl
  have l1 := b2.cell 1 _ rfl
  have l2 := b2.cell 2 _ rfl
  have l3 := b2.cell 3 _ rfl
  have l4 := b2.frozen
  clear h1 b2
  go_wp2_with fail
  refine bodyPost_ret (v := .tuple #[.agg #[.string ⟨#[]⟩, .slice none 0 0, .int .u64 0, .int .u64 0], .int .i64 (chkE k bs.length b)]) (by simp [results, Try.results30, go_sem, l0, l1, l2, l3]) rfl ⟨rfl, ?_⟩
  exact (((HG.out.setCell (p := ⟨w.heap.size, 0, none⟩) (Nat.le_refl _) _).setCell (p := ⟨w.heap.size, 1, none⟩) (Nat.le_refl _) _).setCell (p := ⟨w.heap.size, 2, none⟩) (Nat.le_refl _) _).setCell (p := ⟨w.heap.size, 3, none⟩) (Nat.le_refl _) _

end Go.Proofs.Ytjjhndhigkhkpaa
