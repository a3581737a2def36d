/- The walks of layer 4, further: the references' Copy and Equal, entry.New. -/
import Derived.Test.YtjjhndhigkhkpaaEntry
import Derived.Deep.AppendLies
import Derived.Deep.DrawnRows
import Derived.Deep.RegionHeldLaw
namespace Go.Proofs.Ytjjhndhigkhkpaa
open Go Go.RowKit

theorem Blk.grown {w w' : World} {g : Nat} {t : TypeId} {cs : Array Value} {row : Option Nat} (h : Blk w g t cs) (hb : w.grownBy w' row) (hg : some g ≠ row) : Blk w' g t cs := (hb.block g h.lt hg).trans h

attribute [local go_sem ↓] Go.wp_at_zero Go.wp_at_succ

set_option maxHeartbeats 1000000 in
theorem refCopy_any (B : Nat) (k : ByteArray) (v : Value) (bs : List UInt8) (d b : Int) (w : World) (hb : Bts w B 5 v bs) (hl : bs.length ≤ 1000000000) :
    Calls Try.prog 34 #[.agg #[.string k, v, .int .u64 d, .int .u64 b]] w fun e w' => ∃ v', e = .returned (.agg #[.string k, v', .int .u64 d, .int .u64 b]) ∧ w'.ownsRow w.heap.size 5 1 v' bs.length (bcells bs) ∧ Below w.heap.size w w' := by
  obtain ⟨A, cap, rfl⟩ := hb.form
  obtain ⟨i0, hi0, hz0, hz1, hz2⟩ := info_parts u8_info
  have HB := Lib.hid hb
  have HL := Lib.hid hl
  clear hb hl
  go_enter Try.func34, Try.ntmps34
  go_wp2_with fail
  have b1 := (Blk.new w 31 #[.string k, .slice A bs.length cap, .int .u64 d, .int .u64 b]).alloc (.cells #[.string ⟨#[]⟩, .slice none 0 0, .int .u64 0, .int .u64 0] 31)
  have b2 := Blk.new2 w (.cells #[.string k, .slice A bs.length cap, .int .u64 d, .int .u64 b] 31) 31 #[.string ⟨#[]⟩, .slice none 0 0, .int .u64 0, .int .u64 0]
  have HB1 := Lib.hid b1
  have HB2 := Lib.hid b2
  clear b1 b2
  go_region_held_law (fun w' => w'.cell? ⟨w.heap.size, 0, none⟩ = some (.string k) ∧ w'.cell? ⟨w.heap.size, 1, none⟩ = some (.slice A bs.length cap) ∧ w'.cell? ⟨w.heap.size, 2, none⟩ = some (.int .u64 d) ∧ w'.cell? ⟨w.heap.size, 3, none⟩ = some (.int .u64 b)) (first | exact ⟨k0, k1, k2, k3⟩ | go_keep)
    ((refine step_append_src _ (by rfl) _ _ _ (by rfl) (w.heap.size + 2) 5 i0 _ 1 1 Try.underlying28 hi0 hz0 hz1 hz2 rfl (by decide) _ 0 [] (by rfl) (World.ownsRow_nil _ _ _ _) A bs.length cap (bcells bs) (by rfl) (((HB.out.alloc _).alloc _).drew.src_at.2) (bcells_one _) (by have := HL.out; unfold maxLen; omega) (by have := HL.out; omega) (by simp) ?_; intro v1 w1 hown hg hat; have b1 := (HB1.out.drew).grown hg (by simp [Value.ownBlock]); have b2 := (HB2.out.drew).grown hg (by simp [Value.ownBlock]); obtain ⟨A1, c1, rfl, _, _⟩ := own_form hown; have k0 := b1.cell 0 _ rfl; have k1 := b1.cell 1 _ rfl; have k2 := b1.cell 2 _ rfl; have k3 := b1.cell 3 _ rfl; have l0 := b2.cell 0 _ rfl; have l1 := b2.cell 1 _ rfl; have l2 := b2.cell 2 _ rfl; have l3 := b2.cell 3 _ rfl; have l4 := b2.frozen; have hz := b2.lt; have HB1 := Lib.hid b1; have HB2 := Lib.hid b2; have HO := Lib.hid hown; have HGr := Lib.hid hg; clear b1 b2 hown hg hat))
  go_wp2
  have hown := HO.out
  rw [Nat.zero_add, List.nil_append] at hown
  refine bodyPost_ret (v := .agg #[.string k, .slice A1 bs.length c1, .int .u64 d, .int .u64 b]) (by simp [results, Try.results34, go_sem, l0, l1, l2, l3, hz]) rfl ⟨_, rfl, ?_, ?_⟩
  · have h3 := ownsRow_setCell_below (ownsRow_setCell_below (ownsRow_setCell_below (ownsRow_setCell_below hown (a := ⟨w.heap.size + 1, 0, none⟩) (show w.heap.size + 1 < w.heap.size + 2 by omega) (.string k)) (a := ⟨w.heap.size + 1, 1, none⟩) (show w.heap.size + 1 < w.heap.size + 2 by omega) (.slice A1 bs.length c1)) (a := ⟨w.heap.size + 1, 2, none⟩) (show w.heap.size + 1 < w.heap.size + 2 by omega) (.int .u64 d)) (a := ⟨w.heap.size + 1, 3, none⟩) (show w.heap.size + 1 < w.heap.size + 2 by omega) (.int .u64 b)
    exact ownsRow_base h3 (by omega)
  · have hb0 : Below w.heap.size w ((w.alloc (.cells #[.string k, .slice A bs.length cap, .int .u64 d, .int .u64 b] 31)).alloc (.cells #[.string ⟨#[]⟩, .slice none 0 0, .int .u64 0, .int .u64 0] 31)).drew := (((Below.refl _ _).alloc (Nat.le_refl _) _).alloc (by simp) _).drew
    have hb1 := hb0.grown HGr.out hb0.size (by intro k hk; simp [Value.ownBlock] at hk)
    exact (((hb1.setCell (p := ⟨w.heap.size + 1, 0, none⟩) (Nat.le_succ _) _).setCell (p := ⟨w.heap.size + 1, 1, none⟩) (Nat.le_succ _) _).setCell (p := ⟨w.heap.size + 1, 2, none⟩) (Nat.le_succ _) _).setCell (p := ⟨w.heap.size + 1, 3, none⟩) (Nat.le_succ _) _

/-- Two entries are equal. -/
structure Ent where
  key : ByteArray
  val : List UInt8
  dl : Int
  birth : Int

def eqE (a b : Ent) : Bool := decide (a.key = b.key ∧ a.val = b.val ∧ a.dl = b.dl ∧ a.birth = b.birth)


theorem key_eq (a b : ByteArray) : (a.toList == b.toList) = decide (a = b) := by
  by_cases h : a = b
  · subst h; simp
  · rw [decide_eq_false h, beq_eq_false_iff_ne]
    intro e
    rw [ByteArray.toList_eq, ByteArray.toList_eq] at e
    exact h (WideShapes.bytes_inj e)

set_option maxHeartbeats 1000000 in
theorem refEqual_any (B1 B2 : Nat) (x y : Ent) (v u : Value) (w : World) (hv : Bts w B1 5 v x.val) (hu : Bts w B2 5 u y.val) :
    Calls Try.prog 22 #[.agg #[.string x.key, v, .int .u64 x.dl, .int .u64 x.birth], .agg #[.string y.key, u, .int .u64 y.dl, .int .u64 y.birth]] w fun e w' => e = .returned (.bool (eqE x y)) ∧ Below w.heap.size w w' := by
  have cv := fun o1 o2 => ((hv.alloc o1).alloc o2).string (P := Try.prog) 28 9 Try.underlying28 Try.underlying5 Try.underlying9
  have cu := fun o1 o2 => ((hu.alloc o1).alloc o2).string (P := Try.prog) 28 9 Try.underlying28 Try.underlying5 Try.underlying9
  obtain ⟨A, cap, rfl⟩ := hv.form
  obtain ⟨A2, cap2, rfl⟩ := hu.form
  clear hv hu
  obtain ⟨k1, b1, d1, n1⟩ := x
  obtain ⟨k2, b2, d2, n2⟩ := y
  dsimp only at *
  by_cases h1 : k1 = k2
  · have g1 : (k1.toList == k2.toList) = true := by rw [key_eq]; simp [h1]
    by_cases h2 : b1 = b2
    · have g2 : (b1 == b2) = true := by simp [h2]
      by_cases h3 : d1 = d2
      · have g3 : (d1 == d2) = true := by simp [h3]
        by_cases h4 : n1 = n2
        · have g4 : (n1 == n2) = true := by simp [h4]
          have HS := Lib.hid (show eqE ⟨k1, b1, d1, n1⟩ ⟨k2, b2, d2, n2⟩ = true by unfold eqE; simp [h1, h2, h3, h4])
          clear h1 h2 h3 h4
          go_enter Try.func22, Try.ntmps22
          go_wp2_with fail
          go_ret
          exact ⟨by rw [HS.out]; rfl, ((Below.refl _ _).alloc (Nat.le_refl _) _).alloc (by simp) _⟩
        · have g4 : (n1 == n2) = false := by simp [h4]
          have HS := Lib.hid (show eqE ⟨k1, b1, d1, n1⟩ ⟨k2, b2, d2, n2⟩ = false by unfold eqE; simp [h4])
          clear h1 h2 h3 h4
          go_enter Try.func22, Try.ntmps22
          go_wp2_with fail
          go_ret
          exact ⟨by rw [HS.out]; rfl, ((Below.refl _ _).alloc (Nat.le_refl _) _).alloc (by simp) _⟩
      · have g3 : (d1 == d2) = false := by simp [h3]
        have HS := Lib.hid (show eqE ⟨k1, b1, d1, n1⟩ ⟨k2, b2, d2, n2⟩ = false by unfold eqE; simp [h3])
        clear h1 h2 h3
        go_enter Try.func22, Try.ntmps22
        go_wp2_with fail
        go_ret
        exact ⟨by rw [HS.out]; rfl, ((Below.refl _ _).alloc (Nat.le_refl _) _).alloc (by simp) _⟩
    · have g2 : (b1 == b2) = false := by simp [h2]
      have HS := Lib.hid (show eqE ⟨k1, b1, d1, n1⟩ ⟨k2, b2, d2, n2⟩ = false by unfold eqE; simp [h2])
      clear h1 h2
      go_enter Try.func22, Try.ntmps22
      go_wp2_with fail
      go_ret
      exact ⟨by rw [HS.out]; rfl, ((Below.refl _ _).alloc (Nat.le_refl _) _).alloc (by simp) _⟩
  · have g1 : (k1.toList == k2.toList) = false := by rw [key_eq]; simp [h1]
    have HS := Lib.hid (show eqE ⟨k1, b1, d1, n1⟩ ⟨k2, b2, d2, n2⟩ = false by unfold eqE; simp [h1])
    clear h1
    go_enter Try.func22, Try.ntmps22
    go_wp2_with fail
    go_ret
    exact ⟨by rw [HS.out]; rfl, ((Below.refl _ _).alloc (Nat.le_refl _) _).alloc (by simp) _⟩

end Go.Proofs.Ytjjhndhigkhkpaa
