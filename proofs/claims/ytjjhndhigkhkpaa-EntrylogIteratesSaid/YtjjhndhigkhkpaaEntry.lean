/- The walks of layer 4's functions that copy, compare and check entries, and of their references. -/
import Derived.Test.YtjjhndhigkhkpaaBase
import Derived.Test.YtjjhndhigkhkpaaRows
import Derived.BigQuiet
import Derived.Deep.QuietTactic
import Derived.Deep.RegionLaw
import Derived.RegionTactic
namespace Go.Proofs.Ytjjhndhigkhkpaa
open Go Go.RowKit

theorem u8_info : (Try.prog.info? 5).map (fun i => (i.zero, i.size, i.bytes)) = some (some (.int .u8 0), 1, 1) := by kernel_rfl

/-- A slice of bytes of the call's own is returned. -/
def OwnRet (bs : List UInt8) (w : World) (e : Ending) (w' : World) : Prop :=
  ∃ v, e = .returned v ∧ w'.ownsRow w.heap.size 5 1 v bs.length (bcells bs) ∧ Below w.heap.size w w'

set_option maxHeartbeats 400000 in
theorem bytesClone_any (B : Nat) (v : Value) (bs : List UInt8) (w : World) (hb : Bts w B 5 v bs) (hl : bs.length ≤ 1000000000) :
    Calls Try.prog 32 #[v] w (OwnRet bs w) := by
  obtain ⟨A, cap, rfl⟩ := hb.form
  have HL := Lib.hid hl
  clear hl
  obtain ⟨i0, hi0, hz0, hz1, hz2⟩ := info_parts u8_info
  cases A with
  | none =>
    have h0 := hb.src_at.2.2.1 rfl
    have : bs = [] := by simpa using h0
    subst this
    clear hb h0
    go_enter Try.func32, Try.ntmps32
    go_wp2
    go_ret
    exact ⟨_, rfl, World.ownsRow_nil _ _ _ _, Below.refl _ _⟩
  | some a =>
    have HS := Lib.hid hb
    clear hb
    go_enter Try.func32, Try.ntmps32
    go_wp2_with (at_builtin; refine wpList_append_src _ rfl _ _ _ rfl w.heap.size 5 i0 _ 1 1 Try.underlying28 hi0 hz0 hz1 hz2 rfl (by decide) _ 0 [] rfl (own_empty w _ _) (some a) bs.length cap (bcells bs) rfl (HS.out.alloc _).src_at.2 (bcells_one _) (by have := HL.out; unfold maxLen; omega) (by have := HL.out; omega) (by simp) ?_; intro v1 w1 hown hg hat)
    go_ret
    refine ⟨v1, rfl, by simpa using hown, ?_⟩
    exact ((Below.refl _ _).alloc (Nat.le_refl _) _).grown hg (by simp) (by intro k hk; cases hk; exact Nat.le_refl _)

set_option maxHeartbeats 400000 in
theorem entryCopy_any (B : Nat) (k : ByteArray) (v : Value) (bs : List UInt8) (d b : Int) (w : World) (hb : Bts w B 5 v bs) (hl : bs.length ≤ 1000000000) :
    Calls Try.prog 33 #[.agg #[.string k, v, .int .u64 d, .int .u64 b]] w fun e w' => ∃ v', e = .returned (.agg #[.string k, v', .int .u64 d, .int .u64 b]) ∧ w'.ownsRow w.heap.size 5 1 v' bs.length (bcells bs) ∧ Below w.heap.size w w' := by
  obtain ⟨A, cap, rfl⟩ := hb.form
  have HB := Lib.hid hb
  have HL := Lib.hid hl
  clear hb hl
  go_enter Try.func33, Try.ntmps33
  go_wp2_with fail
  refine (bytesClone_any B _ bs _ ((HB.out.alloc _).alloc _) HL.out).mono ?_
  rintro e w1 ⟨v1, rfl, hown, hbel⟩
  obtain ⟨A1, c1, rfl, _, _⟩ := own_form hown
  have b1 := ((Blk.new w 31 _).alloc _).below hbel
  have b2 := (Blk.new2 w _ 31 _).below hbel
  have hz : w.heap.size + 1 < w1.heap.size := b2.lt
  have hG := Lib.hid (below_own2 hbel)
  have HO := Lib.hid hown
  clear hbel hown
  have k0 := b1.cell 0 _ rfl
  have k1 := b1.cell 1 _ rfl
  have k2 := b1.cell 2 _ rfl
  have k3 := b1.cell 3 _ rfl
  have k4 := b1.frozen
  have l0 := b2.cell 0 _ rfl
  have l1 := b2.cell 1 _ rfl
  have l2 := b2.cell 2 _ rfl
  have l3 := b2.cell 3 _ rfl
  have l4 := b2.frozen
  have B1 := Lib.hid b1
  have B2 := Lib.hid b2
  clear b1 b2
  go_wp2_with fail
  refine bodyPost_ret (v := .agg #[.string k, .slice A1 bs.length c1, .int .u64 d, .int .u64 b]) (by simp [results, Try.results33, go_sem, l0, l1, l2, l3, hz]) rfl ⟨_, rfl, ?_, ?_⟩
  · have h2 : w1.ownsRow (w.heap.size + 2) 5 1 (.slice A1 bs.length c1) bs.length (bcells bs) := ownsRow_base HO.out (by simp)
    have h3 := ownsRow_setCell_below (ownsRow_setCell_below (ownsRow_setCell_below (ownsRow_setCell_below (ownsRow_setCell_below h2 (a := ⟨w.heap.size, 1, none⟩) (show w.heap.size < w.heap.size + 2 by omega) (.slice A1 bs.length c1)) (a := ⟨w.heap.size + 1, 0, none⟩) (show w.heap.size + 1 < w.heap.size + 2 by omega) (.string k)) (a := ⟨w.heap.size + 1, 1, none⟩) (show w.heap.size + 1 < w.heap.size + 2 by omega) (.slice A1 bs.length c1)) (a := ⟨w.heap.size + 1, 2, none⟩) (show w.heap.size + 1 < w.heap.size + 2 by omega) (.int .u64 d)) (a := ⟨w.heap.size + 1, 3, none⟩) (show w.heap.size + 1 < w.heap.size + 2 by omega) (.int .u64 b)
    exact ownsRow_base h3 (by omega)
  · exact ((((hG.out.setCell (p := ⟨w.heap.size, 1, none⟩) (Nat.le_refl _) _).setCell (p := ⟨w.heap.size + 1, 0, none⟩) (Nat.le_succ _) _).setCell (p := ⟨w.heap.size + 1, 1, none⟩) (Nat.le_succ _) _).setCell (p := ⟨w.heap.size + 1, 2, none⟩) (Nat.le_succ _) _).setCell (p := ⟨w.heap.size + 1, 3, none⟩) (Nat.le_succ _) _

/-- A string is a key. -/
def keyB (k : ByteArray) : Bool := decide (1 ≤ k.size ∧ k.size ≤ 250)


set_option maxHeartbeats 400000 in
theorem validKey_any (k : ByteArray) (w : World) (hk : k.size ≤ maxLen) :
    Calls Try.prog 49 #[.string k] w fun e w' => e = .returned (.bool (keyB k)) ∧ w = w' := by
  unfold maxLen at hk
  by_cases h0 : 0 < k.size
  · by_cases h1 : k.size ≤ 250
    · have hs : keyB k = true := by unfold keyB; simp; omega
      have hd : decide ((k.size : Int) ≤ 250) = true := by simp; omega
      rw [hs]
      clear hs
      go_enter Try.func49, Try.ntmps49
      go_wp2
      go_ret
      exact ⟨rfl, rfl⟩
    · have hs : keyB k = false := by unfold keyB; simp; omega
      have hd : decide ((k.size : Int) ≤ 250) = false := by simp; omega
      rw [hs]
      clear hs
      go_enter Try.func49, Try.ntmps49
      go_wp2
      go_ret
      exact ⟨rfl, rfl⟩
  · have hs : keyB k = false := by unfold keyB; simp; omega
    rw [hs]
    clear hs
    go_enter Try.func49, Try.ntmps49
    go_wp2
    go_ret
    exact ⟨rfl, rfl⟩

set_option maxHeartbeats 400000 in
theorem refValidKey_any (k : ByteArray) (w : World) (hk : k.size ≤ maxLen) :
    Calls Try.prog 50 #[.string k] w fun e w' => e = .returned (.bool (keyB k)) ∧ w = w' := by
  unfold maxLen at hk
  by_cases h0 : 0 < k.size
  · by_cases h1 : k.size ≤ 250
    · have hs : keyB k = true := by unfold keyB; simp; omega
      have hd : decide ((k.size : Int) ≤ 250) = true := by simp; omega
      rw [hs]
      clear hs
      go_enter Try.func50, Try.ntmps50
      go_wp2
      go_ret
      exact ⟨rfl, rfl⟩
    · have hs : keyB k = false := by unfold keyB; simp; omega
      have hd : decide ((k.size : Int) ≤ 250) = false := by simp; omega
      rw [hs]
      clear hs
      go_enter Try.func50, Try.ntmps50
      go_wp2
      go_ret
      exact ⟨rfl, rfl⟩
  · have hs : keyB k = false := by unfold keyB; simp; omega
    rw [hs]
    clear hs
    go_enter Try.func50, Try.ntmps50
    go_wp2
    go_ret
    exact ⟨rfl, rfl⟩

set_option maxHeartbeats 400000 in
theorem first_two (p q : Bool) (a b : Int) (g : Nat) (w : World) (hb : Blk w g 95 #[.bool p, .int .i64 a, .bool q, .int .i64 b]) :
    Calls Try.prog 48 #[.slice (some ⟨g, 0, none⟩) 2 2] w fun e w' => e = .returned (.int .i64 (if p then a else if q then b else 0)) ∧ Below w.heap.size w w' := by
  have HB := Lib.hid hb
  clear hb
  go_enter Try.func48, Try.ntmps48
  go_wp2
  go_loopw [7] (fun i wr => ∃ k : Nat, k ≤ 2 ∧ i = .int .i64 k ∧ Below w.heap.size w wr ∧ (1 ≤ k → p = false) ∧ (2 ≤ k → q = false)) (fun i _ => 2 - (intOf i).toNat)
  case atStart => exact ⟨0, by omega, rfl, Below.refl _ _, by omega, by omega⟩
  case round =>
    obtain ⟨k, hk, rfl, hbel, hp, hq⟩ := hrel
    have hblk := HB.out.below hbel
    have HP := Lib.hid hp
    have HQ := Lib.hid hq
    have HG := Lib.hid hbel
    clear hp hq
    rcases (by omega : k = 0 ∨ k = 1 ∨ k = 2) with rfl | rfl | rfl
    · have c0 := hblk.cell 0 _ rfl
      have c1 := hblk.cell 1 _ rfl
      clear hblk hbel
      cases p with
      | true =>
        go_wp2
        go_ret
        exact ⟨rfl, HG.out.alloc HG.out.size _⟩
      | false =>
        go_wp2
        go_roundw
        case rel => exact ⟨1, by omega, by go_num, HG.out.alloc HG.out.size _, by simp, by omega⟩
        case measure => simp [intOf]
    · have c0 := hblk.cell 2 _ rfl
      have c1 := hblk.cell 3 _ rfl
      have hp1 := HP.out (by omega)
      subst hp1
      clear hblk hbel
      cases q with
      | true =>
        go_wp2
        go_ret
        exact ⟨rfl, HG.out.alloc HG.out.size _⟩
      | false =>
        go_wp2
        go_roundw
        case rel => exact ⟨2, by omega, by go_num, HG.out.alloc HG.out.size _, by simp, by simp⟩
        case measure => simp [intOf]
    · have hp1 := HP.out (by omega)
      have hq1 := HQ.out (by omega)
      subst hp1 hq1
      clear hblk hbel
      go_wp2
      go_ret
      exact ⟨rfl, HG.out⟩

/-- The error of the parts of an entry. -/
def chkE (k : ByteArray) (n : Nat) (birth : Int) : Int := if keyB k = false ∨ birth = 0 then 2 else if 65536 < n then 5 else 0


set_option maxHeartbeats 400000 in
theorem check_any (B : Nat) (k : ByteArray) (v : Value) (bs : List UInt8) (birth : Int) (w : World) (hk : k.size ≤ maxLen) (hb : Bts w B 5 v bs) :
    Calls Try.prog 44 #[.string k, v, .int .u64 birth] w fun e w' => e = .returned (.int .i64 (chkE k bs.length birth)) ∧ Below w.heap.size w w' := by
  have hm := hb.le
  unfold maxLen at hm
  obtain ⟨A, cap, rfl⟩ := hb.form
  clear hb
  cases hkey : keyB k with
  | false =>
    have hs : chkE k bs.length birth = 2 := by unfold chkE; rw [if_pos (.inl hkey)]
    have HS := Lib.hid hs
    have HK := Lib.hid hkey
    clear hs hkey
    by_cases hn : 65536 < bs.length
    · go_enter Try.func44, Try.ntmps44
      go_wp2_with fail
      refine (validKey_any _ _ hk).mono ?_
      rw [HK.out]
      rintro e w' ⟨rfl, rfl⟩
      go_wp2_with fail
      refine (first_two _ _ _ _ _ _ (Blk.new _ _ _)).mono ?_
      rintro e w1 ⟨rfl, hbel⟩
      go_wp2_with fail
      go_ret
      exact ⟨by rw [HS.out]; rfl, below_own hbel⟩
    · go_enter Try.func44, Try.ntmps44
      go_wp2_with fail
      refine (validKey_any _ _ hk).mono ?_
      rw [HK.out]
      rintro e w' ⟨rfl, rfl⟩
      go_wp2_with fail
      refine (first_two _ _ _ _ _ _ (Blk.new _ _ _)).mono ?_
      rintro e w1 ⟨rfl, hbel⟩
      go_wp2_with fail
      go_ret
      exact ⟨by rw [HS.out]; rfl, below_own hbel⟩
  | true =>
    have HK := Lib.hid hkey
    by_cases hz : birth = 0
    · subst hz
      have hs : chkE k bs.length 0 = 2 := by unfold chkE; rw [if_pos (.inr rfl)]
      have HS := Lib.hid hs
      clear hs hkey
      by_cases hn : 65536 < bs.length
      · go_enter Try.func44, Try.ntmps44
        go_wp2_with fail
        refine (validKey_any _ _ hk).mono ?_
        rw [HK.out]
        rintro e w' ⟨rfl, rfl⟩
        go_wp2_with fail
        refine (first_two _ _ _ _ _ _ (Blk.new _ _ _)).mono ?_
        rintro e w1 ⟨rfl, hbel⟩
        go_wp2_with fail
        go_ret
        exact ⟨by rw [HS.out]; rfl, below_own hbel⟩
      · go_enter Try.func44, Try.ntmps44
        go_wp2_with fail
        refine (validKey_any _ _ hk).mono ?_
        rw [HK.out]
        rintro e w' ⟨rfl, rfl⟩
        go_wp2_with fail
        refine (first_two _ _ _ _ _ _ (Blk.new _ _ _)).mono ?_
        rintro e w1 ⟨rfl, hbel⟩
        go_wp2_with fail
        go_ret
        exact ⟨by rw [HS.out]; rfl, below_own hbel⟩
    · have hzb : (birth == 0) = false := by simpa using hz
      by_cases hn : 65536 < bs.length
      · have hs : chkE k bs.length birth = 5 := by unfold chkE; rw [if_neg (by rw [hkey]; simp [hz]), if_pos hn]
        have HS := Lib.hid hs
        clear hs hkey hz
        go_enter Try.func44, Try.ntmps44
        go_wp2_with fail
        refine (validKey_any _ _ hk).mono ?_
        rw [HK.out]
        rintro e w' ⟨rfl, rfl⟩
        go_wp2_with fail
        refine (first_two _ _ _ _ _ _ (Blk.new _ _ _)).mono ?_
        rintro e w1 ⟨rfl, hbel⟩
        go_wp2_with fail
        go_ret
        exact ⟨by rw [HS.out]; rfl, below_own hbel⟩
      · have hs : chkE k bs.length birth = 0 := by unfold chkE; rw [if_neg (by rw [hkey]; simp [hz]), if_neg hn]
        have HS := Lib.hid hs
        clear hs hkey hz
        go_enter Try.func44, Try.ntmps44
        go_wp2_with fail
        refine (validKey_any _ _ hk).mono ?_
        rw [HK.out]
        rintro e w' ⟨rfl, rfl⟩
        go_wp2_with fail
        refine (first_two _ _ _ _ _ _ (Blk.new _ _ _)).mono ?_
        rintro e w1 ⟨rfl, hbel⟩
        go_wp2_with fail
        go_ret
        exact ⟨by rw [HS.out]; rfl, below_own hbel⟩


set_option maxHeartbeats 400000 in
theorem refCheck_any (B : Nat) (k : ByteArray) (v : Value) (bs : List UInt8) (birth : Int) (w : World) (hk : k.size ≤ maxLen) (hb : Bts w B 5 v bs) :
    Calls Try.prog 45 #[.string k, v, .int .u64 birth] w fun e w' => e = .returned (.int .i64 (chkE k bs.length birth)) ∧ w = w' := by
  have hm := hb.le
  unfold maxLen at hm
  obtain ⟨A, cap, rfl⟩ := hb.form
  clear hb
  cases hkey : keyB k with
  | false =>
    have hs : chkE k bs.length birth = 2 := by unfold chkE; rw [if_pos (.inl hkey)]
    have HS := Lib.hid hs
    have HK := Lib.hid hkey
    clear hs hkey
    go_enter Try.func45, Try.ntmps45
    go_wp2_with fail
    refine (refValidKey_any _ _ hk).mono ?_
    rw [HK.out]
    rintro e w' ⟨rfl, rfl⟩
    go_wp2_with fail
    go_ret
    exact ⟨by rw [HS.out]; rfl, rfl⟩
  | true =>
    have HK := Lib.hid hkey
    by_cases hz : birth = 0
    · subst hz
      have hs : chkE k bs.length 0 = 2 := by unfold chkE; rw [if_pos (.inr rfl)]
      have HS := Lib.hid hs
      clear hs hkey
      go_enter Try.func45, Try.ntmps45
      go_wp2_with fail
      refine (refValidKey_any _ _ hk).mono ?_
      rw [HK.out]
      rintro e w' ⟨rfl, rfl⟩
      go_wp2_with fail
      go_ret
      exact ⟨by rw [HS.out]; rfl, rfl⟩
    · have hzb : (birth == 0) = false := by simpa using hz
      by_cases hn : 65536 < bs.length
      · have hs : chkE k bs.length birth = 5 := by unfold chkE; rw [if_neg (by rw [hkey]; simp [hz]), if_pos hn]
        have HS := Lib.hid hs
        clear hs hkey hz
        go_enter Try.func45, Try.ntmps45
        go_wp2_with fail
        refine (refValidKey_any _ _ hk).mono ?_
        rw [HK.out]
        rintro e w' ⟨rfl, rfl⟩
        go_wp2_with fail
        go_ret
        exact ⟨by rw [HS.out]; rfl, rfl⟩
      · have hs : chkE k bs.length birth = 0 := by unfold chkE; rw [if_neg (by rw [hkey]; simp [hz]), if_neg hn]
        have HS := Lib.hid hs
        clear hs hkey hz
        go_enter Try.func45, Try.ntmps45
        go_wp2_with fail
        refine (refValidKey_any _ _ hk).mono ?_
        rw [HK.out]
        rintro e w' ⟨rfl, rfl⟩
        go_wp2_with fail
        go_ret
        exact ⟨by rw [HS.out]; rfl, rfl⟩

end Go.Proofs.Ytjjhndhigkhkpaa
