/- The walks of law 45's helpers: sum, record, adv, get, light. -/
import Derived.Test.YtffigmciclopdaaDoorJouC
namespace Go.Proofs.YtffigmciclopdaaDoor
open Go Go.RowKit

theorem lawSum_any (B : Nat) (s : Nat) (V : Value) (bs : List UInt8) (w : World) (hv : Bts w B 5 V bs) (hs : s < 4294967296) (hl : bs.length ≤ 1000000000) :
    Calls Tryd.prog 16 #[.int .u32 s, V] w fun e w' => e = .returned (.int .u32 (foldB s bs)) ∧ w = w' := by
  obtain ⟨A, cap, rfl⟩ := hv.form
  have hlI : (bs.length : Int) ≤ 1000000000 := by omega
  have HV := Lib.hid hv
  have HS := Lib.hid hs
  clear hv hs hl
  go_enter Tryd.func16, Tryd.ntmps16
  go_wp2_with fail
  go_loopw [0, 5] (fun x j wr => ∃ k : Nat, k ≤ bs.length ∧ j = .int .i64 k ∧ x = .int .u32 (foldB s (bs.take k)) ∧ wr = w) (fun _ j _ => bs.length - (intOf j).toNat)
  case atStart => exact ⟨0, by omega, rfl, rfl, rfl⟩
  case round =>
    obtain ⟨k, hk, rfl, rfl, rfl⟩ := hrel
    by_cases hkl : k < bs.length
    · obtain ⟨x, hx⟩ : ∃ x, bs[k]? = some x := ⟨_, List.getElem?_eq_getElem hkl⟩
      obtain ⟨b, off, rfl, c1⟩ := HV.out.cellAt hx
      have hkI : (k : Int) < (bs.length : Int) := by omega
      have ht2 : bs.take (k + 1) = bs.take k ++ [x] := by rw [List.take_add_one, hx]; rfl
      have hf := fold1_run (foldB s (bs.take k)) x
      have HF := Lib.hid (hf.trans (by rw [ht2, foldB_snoc] : _ = ((foldB s (bs.take (k + 1)) : Nat) : Int)))
      have hx2 : ((x.toNat : Int) % 4294967296) = (x.toNat : Int) := by have := x.toNat_lt; omega
      have hc : (foldB s (bs.take k) : Int) * 33 % 4294967296 = 33 * (foldB s (bs.take k) : Int) % 4294967296 := by rw [Int.mul_comm]
      have HX2 := Lib.hid hx2
      have HC := Lib.hid hc
      clear hx ht2 hf hx2 hc
      go_wp2_with fail
      go_roundw
      case rel => exact ⟨k + 1, by omega, by go_num, by rw [HX2.out, HC.out, HF.out], trivial⟩
      case measure => simp [intOf]; omega
    · obtain rfl : k = bs.length := by omega
      go_wp2_with fail
      go_ret
      exact ⟨by rw [List.take_length]; rfl, rfl⟩

def advO : OpV := ⟨10, 0, ⟨#[]⟩, [], 0, 0, 0, 0, 0⟩
def getO : OpV := ⟨3, 0, ⟨#[97]⟩, [], 0, 0, 0, 0, 0⟩
def zeroO : OpV := ⟨0, 0, ⟨#[]⟩, [], 0, 0, 0, 0, 0⟩

theorem adv_any (w : World) : Calls Tryd.prog 14 #[] w fun e w' => e = .returned (opv advO (.slice none 0 0)) ∧ Below w.heap.size w w' := by
  go_enter Tryd.func14, Tryd.ntmps14
  go_wp2_with fail
  refine bodyPost_ret (v := opv advO (.slice none 0 0)) (by simp [results, Tryd.results14, go_sem, opv, opc, advO]) rfl ⟨rfl, ?_⟩
  exact (Below.refl _ _).alloc (Nat.le_refl _) _
theorem get_any (w : World) : Calls Tryd.prog 18 #[] w fun e w' => e = .returned (opv getO (.slice none 0 0)) ∧ Below w.heap.size w w' := by
  go_enter Tryd.func18, Tryd.ntmps18
  go_wp2_with fail
  refine bodyPost_ret (v := opv getO (.slice none 0 0)) (by simp [results, Tryd.results18, go_sem, opv, opc, getO]) rfl ⟨rfl, ?_⟩
  exact (Below.refl _ _).alloc (Nat.le_refl _) _

/-- An operation is light. -/
def lightO (o : OpV) : Bool := decide (o.key.size ≤ 300 ∧ o.val.length ≤ 300)

theorem light_any (o : OpV) (A : Option Addr) (cap : Nat) (w : World) (hk : o.key.size ≤ maxLen) (hv : o.val.length ≤ maxLen) :
    Calls Tryd.prog 22 #[opv o (.slice A o.val.length cap)] w fun e w' => e = .returned (.bool (lightO o)) ∧ Below w.heap.size w w' := by
  unfold maxLen at hk hv
  unfold opv opc
  by_cases h1 : o.key.size ≤ 300
  · have h1I : (o.key.size : Int) ≤ 300 := by omega
    by_cases h2 : o.val.length ≤ 300
    · have h2I : (o.val.length : Int) ≤ 300 := by omega
      have HS := Lib.hid (show lightO o = true from decide_eq_true ⟨h1, h2⟩)
      go_enter Tryd.func22, Tryd.ntmps22
      go_wp2_with fail
      go_ret
      exact ⟨by rw [HS.out]; rfl, (Below.refl _ _).alloc (Nat.le_refl _) _⟩
    · have h2I : ¬ (o.val.length : Int) ≤ 300 := by omega
      have HS := Lib.hid (show lightO o = false from decide_eq_false (fun h => h2 h.2))
      go_enter Tryd.func22, Tryd.ntmps22
      go_wp2_with fail
      go_ret
      exact ⟨by rw [HS.out]; rfl, (Below.refl _ _).alloc (Nat.le_refl _) _⟩
  · have h1I : ¬ (o.key.size : Int) ≤ 300 := by omega
    have HS := Lib.hid (show lightO o = false from decide_eq_false (fun h => h1 h.1))
    go_enter Tryd.func22, Tryd.ntmps22
    go_wp2_with fail
    go_ret
    exact ⟨by rw [HS.out]; rfl, (Below.refl _ _).alloc (Nat.le_refl _) _⟩

theorem own_two (w : World) (e : TypeId) (u v : Value) : (w.alloc (.cells #[u, v] e)).ownsRow w.heap.size e 1 (.slice (some ⟨w.heap.size, 0, none⟩) 2 2) 2 [u, v] :=
  World.ownsRow_lit w #[u, v] 2 (Nat.le_refl _) (by unfold maxLen; omega) (by simp)
theorem src_four (w : World) (e : TypeId) (a b c d : Value) : Src (w.alloc (.cells #[a, b, c, d] e)) 1 (some ⟨w.heap.size, 0, none⟩) 4 [a, b, c, d] := by
  refine ⟨rfl, (fun h => by cases h), fun ad ha j u hu => ?_⟩
  cases ha
  rw [add_plain, Nat.zero_add]
  exact (Blk.new w e #[a, b, c, d]).cell j u (by simpa using hu)
theorem four_one (a b c d : Int) : ∀ u ∈ [Value.int .u8 a, .int .u8 b, .int .u8 c, .int .u8 d], u.oneCell' = true := by
  intro u hu
  simp only [List.mem_cons, List.not_mem_nil, or_false] at hu
  rcases hu with rfl | rfl | rfl | rfl <;> rfl

/-- What the law's record gives. -/
def LRecRet (r : Option (List UInt8)) (w : World) (e : Ending) (w' : World) : Prop :=
  match r with
  | none => e = .returned (.tuple #[.slice none 0 0, .bool false]) ∧ Below w.heap.size w w'
  | some bs => ∃ v, e = .returned (.tuple #[v, .bool true]) ∧ w'.ownsRow w.heap.size 5 1 v bs.length (bcells bs) ∧ Below w.heap.size w w'

set_option maxRecDepth 100000 in
set_option maxHeartbeats 4000000 in
theorem lawRecord_any (B : Nat) (s : Nat) (o : OpV) (V : Value) (w : World) (hv : Bts w B 5 V o.val) (hk : KG w) (ht : 0 ≤ o.ticks) (hs : s < 4294967296) :
    Calls Tryd.prog 13 #[.int .u32 s, opv o V] w (LRecRet (recO s o) w) := by
  obtain ⟨i0, hi0, hz0, hz1, hz2⟩ := info_parts u8_info
  obtain ⟨VA, vc, rfl⟩ := hv.form
  have HV := Lib.hid hv
  have HK := Lib.hid hk
  have hval := fun ob => valid_any B o (.slice VA o.val.length vc) (w.alloc ob) (hv.alloc _) (hk.below ((Below.refl _ _).alloc (Nat.le_refl _) _) hk.1) ht
  have HVal := Lib.hid hval
  have HX := Lib.hid (Blk.new w 43 (opc o (.slice VA o.val.length vc)))
  have HT := Lib.hid ht
  have HS := Lib.hid hs
  unfold opv opc
  clear hval hv hk ht hs
  go_enter Tryd.func13, Tryd.ntmps13
  go_wp2_with fail
  refine (HVal.out _).mono ?_
  rintro e w1 ⟨rfl, hb1⟩
  have hx1 := HX.out.below hb1
  obtain ⟨z0, z1, z2, z3, z4, z5, z6, z7, z8⟩ := op_cells hx1
  have HB1 := Lib.hid (below_own hb1)
  cases hwo : wrOp o with
  | none =>
    have HN := Lib.hid hwo
    have hsm : (none : Option (List UInt8)).isSome = false := rfl
    clear hwo hx1 hb1
    go_wp2_with fail
    go_ret2
    unfold recO
    rw [HN.out]
    exact ⟨rfl, HB1.out⟩
  | some b =>
    have HN := Lib.hid hwo
    have HP := Lib.hid (wrOp_pos hwo)
    have hsm : (some b : Option (List UInt8)).isSome = true := rfl
    obtain ⟨W, hW⟩ : ∃ W, w1.alloc (.cells (opc o (.slice VA o.val.length vc)) 43) = W := ⟨_, rfl⟩
    have hbW : Below w1.heap.size w1 W := hW ▸ (Below.refl _ _).alloc (Nat.le_refl _) _
    have hwr := writeOps_any B (.slice (some ⟨w1.heap.size, 0, none⟩) 1 1) [(o, .slice VA o.val.length vc)] W (OpsAt.one (hW ▸ Blk.new _ _ _) ((HV.out.below HB1.out).below hbW) HT.out) ((HK.out.below HB1.out HK.out.1).below hbW (HK.out.below HB1.out HK.out.1).1) (by simp)
    have HWr := Lib.hid hwr
    have HBW := Lib.hid hbW
    unfold opc at hW
    clear hwo hx1 hb1 hwr hbW
    go_wp2_with fail
    try rw [hW]
    refine HWr.out.mono ?_
    intro e w2 hret
    unfold WriteRet at hret
    simp only [List.map_cons, List.map_nil, wrOps_one] at hret
    rw [HN.out] at hret
    dsimp only at hret
    rw [if_neg (by have := HP.out.2; omega)] at hret
    obtain ⟨v, rfl, ho, hb2⟩ := hret
    obtain ⟨A1, c1, rfl, _, _⟩ := own_form ho
    have HO := Lib.hid ho
    have HW2 := Lib.hid hb2
    have hl0 : (0 : Int) < (b.length : Int) := by have := HP.out.1; omega
    have hl1 : (b.length : Int) ≤ 292 := by have := HP.out.2; omega
    have hl2 : ((b.length : Int) == 0) = false := by simpa using (show b ≠ [] from fun e => by subst e; simp at hl0)
    have hwd : wrap64 ((b.length : Int) / 256) = (b.length : Int) / 256 := by unfold wrap64; omega
    have HL1 := Lib.hid hl1
    have HL0 := Lib.hid hl0
    clear hW ho hb2 z0 z1 z2 z3 z4 z5 z6 z7 z8 hsm hl1 hl0
    have hh : bcells (headB b.length) = [.int .u8 ((b.length : Int) / 256 % 256), .int .u8 ((b.length : Int) % 256)] := by simp [bcells, headB, byteI_toNat]
    have HH := Lib.hid hh
    have HOr := Lib.hid (fun ob => (Bts.of_own HO.out B).alloc ob)
    clear hh
    go_upto_region 7 with (at_builtin; refine wpList_append_src _ rfl _ _ _ rfl w2.heap.size 5 i0 _ 1 1 Tryd.underlying22 hi0 hz0 hz1 hz2 rfl (by decide) _ 2 [.int .u8 ((b.length : Int) / 256 % 256), .int .u8 ((b.length : Int) % 256)] rfl (own_two w2 _ _ _) A1 b.length c1 (bcells b) rfl (HOr.out _).src_at.2 (bcells_one _) (by have := HL1.out; unfold maxLen; omega) (by have := HL1.out; omega) (by simp) ?_; intro v8 w8 hown8 hg8 hat8)
    have hb8 : Below w2.heap.size w2 w8 := ((Below.refl _ _).alloc (Nat.le_refl _) _).grown hg8 (by simp) (by intro k hk; cases hk; exact Nat.le_refl _)
    have hrow8 : w8.ownsRow w2.heap.size 5 1 v8 (headB b.length ++ b).length (bcells (headB b.length ++ b)) := by
      rw [← HH.out] at hown8
      rw [show bcells (headB b.length ++ b) = bcells (headB b.length) ++ bcells b by simp [bcells], List.length_append]
      exact hown8
    obtain ⟨hd, hhd⟩ : ∃ hd, headB b.length ++ b = hd := ⟨_, rfl⟩
    rw [hhd] at hrow8
    have HHd := Lib.hid hhd
    have HLh : Hid (hd.length ≤ 294) := Lib.hid (by rw [← hhd]; have := HL1.out; simp [headB]; omega)
    have HB8 := Lib.hid hb8
    have HR8 := Lib.hid hrow8
    clear hown8 hg8 hat8 hb8 hrow8 hhd
    go_wp2_with fail
    refine (lawSum_any B s v8 hd w8 (Bts.of_own HR8.out B) HS.out (by have := HLh.out; omega)).mono ?_
    rintro e w' ⟨rfl, hww⟩
    obtain rfl : w8 = w' := hww
    obtain ⟨t, ht⟩ : ∃ t, foldB s hd = t := ⟨_, rfl⟩
    rw [ht]
    have HTt := Lib.hid (show sumAt s b = t by rw [← ht, ← HHd.out]; rfl)
    clear ht
    obtain ⟨A8, c8, rfl, _, _⟩ := own_form HR8.out
    have hs4 : bcells (sumB t) = [.int .u8 ((t : Int) / 16777216 % 256), .int .u8 ((t : Int) / 65536 % 256), .int .u8 ((t : Int) / 256 % 256), .int .u8 ((t : Int) % 256)] := by simp [bcells, sumB, byteI_toNat]
    have HS4 := Lib.hid hs4
    clear hs4
    go_wp2_with (at_builtin; refine wpList_append_src _ rfl _ _ _ rfl w2.heap.size 5 i0 _ 1 1 Tryd.underlying22 hi0 hz0 hz1 hz2 rfl (by decide) _ hd.length (bcells hd) rfl (HR8.out.alloc _) (some ⟨w8.heap.size, 0, none⟩) 4 4 [.int .u8 ((t : Int) / 16777216 % 256), .int .u8 ((t : Int) / 65536 % 256), .int .u8 ((t : Int) / 256 % 256), .int .u8 ((t : Int) % 256)] rfl (src_four w8 _ _ _ _ _) (four_one _ _ _ _) (by have := HLh.out; unfold maxLen; omega) (by have := HLh.out; omega) (by have := HB8.out.size; simp; omega) ?_; intro v9 w9 hown9 hg9 hat9)
    go_ret2
    have hb9 : Below w2.heap.size w2 w9 := (HB8.out.alloc HB8.out.size _).grown hg9 (HB8.out.alloc HB8.out.size _).size (by intro k hk; exact (row_heap HR8.out hk).1)
    have hrow9 : w9.ownsRow w2.heap.size 5 1 v9 (recB s b).length (bcells (recB s b)) := by
      rw [← HS4.out] at hown9
      rw [show bcells (recB s b) = bcells hd ++ bcells (sumB t) by unfold recB; rw [HTt.out, HHd.out]; simp [bcells], show (recB s b).length = hd.length + 4 by unfold recB; rw [HHd.out, List.length_append]; rfl]
      exact hown9
    unfold recO
    rw [HN.out]
    have hbW2 : Below w.heap.size w w2 := (HB1.out.trans (HBW.out.mono HB1.out.size)).trans (HW2.out.mono (HB1.out.trans (HBW.out.mono HB1.out.size)).size)
    exact ⟨v9, rfl, ownsRow_base hrow9 hbW2.size, hbW2.trans (hb9.mono hbW2.size)⟩

end Go.Proofs.YtffigmciclopdaaDoor
