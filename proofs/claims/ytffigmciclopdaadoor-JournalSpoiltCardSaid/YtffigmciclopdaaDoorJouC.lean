/- Layer 45: the record of an operation. -/
import Derived.Test.YtffigmciclopdaaDoorJouB
namespace Go.Proofs.YtffigmciclopdaaDoor
open Go Go.RowKit

/-- The two bytes of a length. -/
def headB (n : Nat) : List UInt8 := [byteI ((n : Int) / 256), byteI n]
/-- The four bytes of a sum. -/
def sumB (s : Nat) : List UInt8 := [byteI ((s : Int) / 16777216), byteI ((s : Int) / 65536), byteI ((s : Int) / 256), byteI s]
/-- The sum behind a record's bytes. -/
def sumAt (s : Nat) (b : List UInt8) : Nat := foldB s (headB b.length ++ b)
/-- The record of an operation's bytes. -/
def recB (s : Nat) (b : List UInt8) : List UInt8 := headB b.length ++ b ++ sumB (sumAt s b)
def recO (s : Nat) (o : OpV) : Option (List UInt8) := (wrOp o).map (recB s)
theorem recB_len (s : Nat) (b : List UInt8) : (recB s b).length = b.length + 6 := by simp [recB, headB, sumB]

theorem wrOps_one (o : OpV) : wrOps [o] = wrOp o := by
  unfold wrOps wrOps
  cases wrOp o <;> simp

/-- A row of one operation. -/
theorem OpsAt.one {w : World} {B g : Nat} {o : OpV} {V : Value} (h : Blk w g 43 (opc o V)) (hv : Bts w B 5 V o.val) (ht : 0 ≤ o.ticks) : OpsAt w B (.slice (some ⟨g, 0, none⟩) 1 1) [(o, V)] := by
  refine ⟨⟨some ⟨g, 0, none⟩, 1, rfl, Nat.le_refl _, by unfold maxLen; omega, (fun h => by cases h), fun _ => ⟨g, 0, rfl, h.lt, fun i p hi j u hu => ?_⟩⟩, fun p hp => ?_, fun p hp => ?_⟩
  · cases i with
    | zero =>
      have e : (o, V) = p := by simpa using hi
      subst e
      have : (opc o V)[j]? = some u := by
        have e2 : (opc o V) = (opcs o V).toArray := rfl
        rw [e2]; simpa using hu
      simpa using h.cell j u this
    | succ i => simp at hi
  · have e := List.mem_singleton.1 hp
    subst e; exact hv
  · have e := List.mem_singleton.1 hp
    subst e; exact ht

/-- A block of bytes is a row of bytes. -/
theorem own_blk {w : World} {base g : Nat} {bs : List UInt8} (hb : Blk w g 5 (bcells bs).toArray) (hg : base ≤ g) (hl : bs.length ≤ 1000000) : w.ownsRow base 5 1 (.slice (some ⟨g, 0, none⟩) bs.length bs.length) bs.length (bcells bs) :=
  ⟨by rw [bcells_length, Nat.mul_one], .inr ⟨_, _, _, rfl, hg, hb, Nat.le_refl _, by unfold maxLen; omega, by simp [bcells], by rw [Nat.mul_one]; exact List.take_of_length_le (by simp [bcells])⟩⟩

/-- What journal's record gives. -/
def RecRet (r : Option (List UInt8)) (w : World) (e : Ending) (w' : World) : Prop :=
  match r with
  | none => e = .returned (.slice none 0 0) ∧ Below w.heap.size w w'
  | some bs => OwnRet bs w e w'

set_option maxRecDepth 100000 in
set_option maxHeartbeats 4000000 in
theorem record_any (B : Nat) (s : Nat) (o : OpV) (V : Value) (w : World) (hv : Bts w B 5 V o.val) (hk : KG w) (ht : 0 ≤ o.ticks) (hs : s < 4294967296) :
    Calls Tryd.prog 32 #[.int .u32 s, opv o V] w (RecRet (recO s o) w) := by
  obtain ⟨VA, vc, rfl⟩ := hv.form
  obtain ⟨W, hW⟩ : ∃ W, (w.alloc (.cells (opc o (.slice VA o.val.length vc)) 43)).alloc (.cells (opc o (.slice VA o.val.length vc)) 43) = W := ⟨_, rfl⟩
  have hbe : Below w.heap.size w W := hW ▸ ((Below.refl _ _).alloc (Nat.le_refl _) _).alloc (by simp) _
  have hb1 : Blk W w.heap.size 43 (opc o (.slice VA o.val.length vc)) := hW ▸ (Blk.new _ _ _).alloc _
  have hb2 : Blk W (w.heap.size + 1) 43 (opc o (.slice VA o.val.length vc)) := hW ▸ Blk.new2 _ _ _ _
  have hwr := writeOps_any B (.slice (some ⟨w.heap.size + 1, 0, none⟩) 1 1) [(o, .slice VA o.val.length vc)] W (OpsAt.one hb2 (hv.below hbe) ht) (hk.below hbe hk.1) (by simp)
  have HWr := Lib.hid hwr
  have hval := fun wx (hb : Below W.heap.size W wx) => valid_any B o (.slice VA o.val.length vc) wx ((hv.below hbe).below hb) ((hk.below hbe hk.1).below hb (hk.below hbe hk.1).1) ht
  have HVal := Lib.hid hval
  have HB1 := Lib.hid hb1
  have HE := Lib.hid hbe
  have HS := Lib.hid hs
  unfold opc at hW
  unfold opv opc
  clear hwr hval hb1 hb2 hbe hv hk ht hs
  go_enter Tryd.func32, Tryd.ntmps32
  go_wp2_with fail
  try rw [hW]
  refine HWr.out.mono ?_
  intro e w1 hret
  unfold WriteRet at hret
  simp only [List.map_cons, List.map_nil, wrOps_one] at hret
  cases hwo : wrOp o with
  | none =>
    rw [hwo] at hret
    obtain ⟨rfl, hb1⟩ := hret
    have HW1 := Lib.hid hb1
    have HN := Lib.hid hwo
    clear hb1 hwo hW
    go_wp2_with fail
    go_ret
    unfold recO
    rw [HN.out]
    exact ⟨rfl, HE.out.trans (HW1.out.mono HE.out.size)⟩
  | some b =>
    rw [hwo] at hret
    dsimp only at hret
    have hp := wrOp_pos hwo
    rw [if_neg (by omega)] at hret
    obtain ⟨v, rfl, ho, hb1⟩ := hret
    obtain ⟨A1, c1, rfl, _, _⟩ := own_form ho
    have HO := Lib.hid ho
    have HW1 := Lib.hid hb1
    have HP := Lib.hid hp
    have HN := Lib.hid hwo
    have hbx := HB1.out.below hb1
    obtain ⟨z0, z1, z2, z3, z4, z5, z6, z7, z8⟩ := op_cells hbx
    clear hb1 hwo hW ho hbx hp
    go_wp2_with fail
    refine (HVal.out _ HW1.out).mono ?_
    rintro e w2 ⟨rfl, hb2⟩
    have hsm : (wrOp o).isSome = true := by rw [HN.out]; rfl
    rw [hsm]
    have HW2 := Lib.hid hb2
    clear hb2 hsm z0 z1 z2 z3 z4 z5 z6 z7 z8
    go_wp2_with fail
    obtain ⟨W3, hW3⟩ : ∃ W3, (w2.alloc (.cells #[.int .u8 ((b.length : Int) / 256 % 256), .int .u8 ((b.length : Int) % 256)] 5)).alloc (.cells #[.slice (some ⟨w2.heap.size, 0, none⟩) 2 2, .slice A1 b.length c1] 22) = W3 := ⟨_, rfl⟩
    have h23 : Below w2.heap.size w2 W3 := hW3 ▸ ((Below.refl _ _).alloc (Nat.le_refl _) _).alloc (by simp) _
    have hh3 : W3.ownsRow w.heap.size 5 1 (.slice (some ⟨w2.heap.size, 0, none⟩) 2 2) 2 (bcells (headB b.length)) := by
      have hblk : Blk W3 w2.heap.size 5 (bcells (headB b.length)).toArray := by
        have : Blk W3 w2.heap.size 5 #[.int .u8 ((b.length : Int) / 256 % 256), .int .u8 ((b.length : Int) % 256)] := hW3 ▸ (Blk.new _ _ _).alloc _
        have e : (bcells (headB b.length)).toArray = #[.int .u8 ((b.length : Int) / 256 % 256), .int .u8 ((b.length : Int) % 256)] := by simp [bcells, headB, byteI_toNat]
        rw [e]; exact this
      exact own_blk (bs := headB b.length) hblk (by have := HE.out.size; have := HW1.out.size; have := HW2.out.size; omega) (by simp [headB])
    have hbss : BssAt W3 w.heap.size (w2.heap.size + 1) [(.slice (some ⟨w2.heap.size, 0, none⟩) 2 2, headB b.length), (.slice A1 b.length c1, b)] := by
      refine ⟨hW3 ▸ Blk.new2 _ _ _ _, fun p hp => ?_⟩
      simp only [List.mem_cons, List.not_mem_nil, or_false] at hp
      rcases hp with rfl | rfl
      · exact Bts.of_own (bs := headB b.length) hh3 w.heap.size
      · exact ((Bts.of_own HO.out w.heap.size).below HW2.out).below h23
    have HH3 := Lib.hid hh3
    have HBss := Lib.hid hbss
    have H23 := Lib.hid h23
    try rw [hW3]
    clear hW3 h23 hh3 hbss
    refine (fold_any w.heap.size (w2.heap.size + 1) s [(.slice (some ⟨w2.heap.size, 0, none⟩) 2 2, headB b.length), (.slice A1 b.length c1, b)] W3 HBss.out HS.out (by simp) (fun p hp => ?_)).mono ?_
    · simp only [List.mem_cons, List.not_mem_nil, or_false] at hp
      have := HP.out.2
      rcases hp with rfl | rfl
      · simp [headB]
      · dsimp only; omega
    rintro e w' ⟨rfl, hww⟩
    obtain rfl : W3 = w' := hww
    have hfold : foldB s ([((.slice (some ⟨w2.heap.size, 0, none⟩) 2 2 : Value), headB b.length), (.slice A1 b.length c1, b)].flatMap Prod.snd) = sumAt s b := by
      unfold sumAt; simp
    rw [hfold]
    clear hfold
    obtain ⟨t, ht⟩ : ∃ t, sumAt s b = t := ⟨_, rfl⟩
    rw [ht]
    have HT := Lib.hid ht
    clear ht
    go_wp2_with fail
    obtain ⟨W4, hW4⟩ : ∃ W4, (W3.alloc (.cells #[.int .u8 ((t : Int) / 16777216 % 256), .int .u8 ((t : Int) / 65536 % 256), .int .u8 ((t : Int) / 256 % 256), .int .u8 ((t : Int) % 256)] 5)).alloc (.cells #[.slice (some ⟨w2.heap.size, 0, none⟩) 2 2, .slice A1 b.length c1, .slice (some ⟨W3.heap.size, 0, none⟩) 4 4] 22) = W4 := ⟨_, rfl⟩
    have h34 : Below W3.heap.size W3 W4 := hW4 ▸ ((Below.refl _ _).alloc (Nat.le_refl _) _).alloc (by simp) _
    have hs4 : W4.ownsRow w.heap.size 5 1 (.slice (some ⟨W3.heap.size, 0, none⟩) 4 4) 4 (bcells (sumB t)) := by
      have hblk : Blk W4 W3.heap.size 5 (bcells (sumB t)).toArray := by
        have : Blk W4 W3.heap.size 5 #[.int .u8 ((t : Int) / 16777216 % 256), .int .u8 ((t : Int) / 65536 % 256), .int .u8 ((t : Int) / 256 % 256), .int .u8 ((t : Int) % 256)] := hW4 ▸ (Blk.new _ _ _).alloc _
        have e : (bcells (sumB t)).toArray = #[.int .u8 ((t : Int) / 16777216 % 256), .int .u8 ((t : Int) / 65536 % 256), .int .u8 ((t : Int) / 256 % 256), .int .u8 ((t : Int) % 256)] := by simp [bcells, sumB, byteI_toNat]
        rw [e]; exact this
      exact own_blk (bs := sumB t) hblk (by have := HE.out.size; have := HW1.out.size; have := HW2.out.size; have := H23.out.size; omega) (by simp [sumB])
    have hbss : BssAt W4 w.heap.size (W3.heap.size + 1) [(.slice (some ⟨w2.heap.size, 0, none⟩) 2 2, headB b.length), (.slice A1 b.length c1, b), (.slice (some ⟨W3.heap.size, 0, none⟩) 4 4, sumB t)] := by
      refine ⟨hW4 ▸ Blk.new2 _ _ _ _, fun p hp => ?_⟩
      simp only [List.mem_cons, List.not_mem_nil, or_false] at hp
      rcases hp with rfl | rfl | rfl
      · exact (HBss.out.vals _ (by simp)).below h34
      · exact (HBss.out.vals _ (by simp)).below h34
      · exact Bts.of_own (bs := sumB t) hs4 w.heap.size
    have HBss4 := Lib.hid hbss
    have H34 := Lib.hid h34
    have hbn : bytesN [((.slice (some ⟨w2.heap.size, 0, none⟩) 2 2 : Value), headB b.length), (.slice A1 b.length c1, b), (.slice (some ⟨W3.heap.size, 0, none⟩) 4 4, sumB t)] = b.length + 6 := by
      simp [bytesN, headB, sumB]
    try rw [hW4]
    clear hW4 h34 hs4 hbss
    refine (concat_any w.heap.size (W3.heap.size + 1) [(.slice (some ⟨w2.heap.size, 0, none⟩) 2 2, headB b.length), (.slice A1 b.length c1, b), (.slice (some ⟨W3.heap.size, 0, none⟩) 4 4, sumB t)] W4 HBss4.out (by simp) (by rw [hbn]; omega) (by rw [hbn]; have := HP.out.2; omega)).mono ?_
    rintro e w5 ⟨v5, rfl, ho5, hb5⟩
    have hfl : [((.slice (some ⟨w2.heap.size, 0, none⟩) 2 2 : Value), headB b.length), (.slice A1 b.length c1, b), (.slice (some ⟨W3.heap.size, 0, none⟩) 4 4, sumB t)].flatMap Prod.snd = recB s b := by
      unfold recB; rw [HT.out]; simp
    rw [hfl] at ho5
    have HO5 := Lib.hid ho5
    have HB5 := Lib.hid hb5
    clear ho5 hb5 hfl hbn
    go_wp2_with fail
    go_ret
    unfold recO
    rw [HN.out]
    have hsz : w.heap.size ≤ W4.heap.size := by have := HE.out.size; have := HW1.out.size; have := HW2.out.size; have := H23.out.size; have := H34.out.size; omega
    have hbel : Below w.heap.size w W4 := (((HE.out.trans (HW1.out.mono HE.out.size)).trans (HW2.out.mono (by have := HE.out.size; have := HW1.out.size; omega))).trans (H23.out.mono (by have := HE.out.size; have := HW1.out.size; have := HW2.out.size; omega))).trans (H34.out.mono (by have := HE.out.size; have := HW1.out.size; have := HW2.out.size; have := H23.out.size; omega))
    exact ⟨v5, rfl, ownsRow_base HO5.out hsz, hbel.trans (HB5.out.mono hsz)⟩

end Go.Proofs.YtffigmciclopdaaDoor
