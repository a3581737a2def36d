/- The law's helpers over a log (layer 9): appends, gets, next. -/
import Derived.Test.YtjjhndhigkhkpaaLogE
namespace Go.Proofs.Ytjjhndhigkhkpaa
open Go Go.RowKit

set_option maxHeartbeats 400000 in
theorem appends_true (B b : Nat) (lv : Value) (ps : List (Ent × Value)) (k : ByteArray) (v : Value) (bs : List UInt8) (d n : Int) (m : Nat) (w : World) (h : LogRep w B b lv ps) (hk : k.size ≤ maxLen) (hb : Bts w B 5 v bs) (hc : chkE k bs.length n = 0) (hl : ps.length < 4194304) (hm : m = ps.length) :
    Calls Try.prog 10 #[.pointer (some ⟨b, 0, none⟩), .agg #[.string k, v, .int .u64 d, .int .u64 n], .int .u32 m] w fun e w' => e = .returned (.bool true) ∧
      ∃ lv' v', LogRep w' B b lv' (ps ++ [(⟨k, bs, d, n⟩, v')]) ∧ Only (logFp b lv) w w' ∧ (lv'.ownBlock = lv.ownBlock ∨ ∃ g, lv'.ownBlock = some g ∧ w.heap.size ≤ g) ∧ (∀ k, v'.ownBlock = some k → w.heap.size ≤ k) := by
  subst hm
  have HC := Lib.hid (fun o : Obj => logAppend_ok B b lv ps k v bs d n _ (h.alloc o) hk (hb.alloc o) hc hl)
  have hblt := h.blk.lt
  have HFp := Lib.hid (fun k hk => (h.fp_lt (k := k) hk).2)
  obtain ⟨A, cap, rfl⟩ := hb.form
  clear h hk hb hc hl
  go_enter Try.func10, Try.ntmps10
  go_wp2_with fail
  refine (HC.out _).mono ?_
  rintro e w1 ⟨rfl, lv', v', hr, ho, hrow, hval⟩
  have HR := Lib.hid hr
  have HO := Lib.hid ho
  have HRow := Lib.hid hrow
  have HVal := Lib.hid hval
  clear hr ho hrow hval
  go_wp2_with fail
  go_ret
  refine ⟨rfl, lv', v', HR.out, (((Only.refl (logFp b lv) w).alloc _).trans HO.out (fun _ _ h => h)), ?_, fun k hk => ?_⟩
  · rcases HRow.out with h | ⟨g, h1, h2⟩
    · exact .inl h
    · exact .inr ⟨g, h1, by simp at h2; omega⟩
  · have := HVal.out k hk
    simp at this
    omega

set_option maxHeartbeats 400000 in
theorem gets_true (B B2 b : Nat) (lv : Value) (ps : List (Ent × Value)) (i : Nat) (x : Ent) (xv v : Value) (w : World) (h : LogRep w B b lv ps) (hp : Has ps i x xv) (hb : Bts w B2 5 v x.val) (hl : x.val.length ≤ 1000000000) :
    Calls Try.prog 28 #[.pointer (some ⟨b, 0, none⟩), .int .u32 i, .agg #[.string x.key, v, .int .u64 x.dl, .int .u64 x.birth]] w fun e w' => e = .returned (.bool true) ∧ Below w.heap.size w w' := by
  have HC := Lib.hid (fun o : Obj => logGet_some B b lv ps i _ x xv (h.alloc o) hp hl)
  have HB := Lib.hid hb
  have hblt := h.blk.lt
  obtain ⟨A, cap, rfl⟩ := hb.form
  clear h hb hl hp
  go_enter Try.func28, Try.ntmps28
  go_wp2_with fail
  refine (HC.out _).mono ?_
  rintro e w1 ⟨v1, rfl, hown, hbel⟩
  obtain ⟨A1, c1, rfl, hx1, hx2⟩ := own_form hown
  clear hx1 hx2
  have b1 := (Blk.new w 31 _).below hbel
  have hz := b1.lt
  have HG := Lib.hid (below_own hbel)
  have l0 := b1.cell 0 _ rfl
  have l1 := b1.cell 1 _ rfl
  have l2 := b1.cell 2 _ rfl
  have l3 := b1.cell 3 _ rfl
  have HX := Lib.hid (Bts.of_own hown w.heap.size)
  have HY := Lib.hid ((HB.out.alloc _).below hbel)
  clear hown hbel b1
  go_wp2_with fail
  refine (refEqual_any w.heap.size B2 x x _ _ _ (HX.out.alloc _) (HY.out.alloc _)).mono ?_
  rintro e w2 ⟨rfl, hb2⟩
  have HG2 := Lib.hid (HG.out.trans (((below_own hb2)).mono HG.out.size))
  have hE : eqE x x = true := by simp [eqE]
  rw [hE]
  clear hb2
  go_wp2_with fail
  go_ret
  exact ⟨rfl, HG2.out⟩

set_option maxHeartbeats 400000 in
theorem next_some (B b : Nat) (lv : Value) (ps : List (Ent × Value)) (i j : Nat) (w : World) (h : LogRep w B b lv ps) (hij : i ≤ j) (hj : ∃ x v, Has ps j x v) (hno : ∀ k, i ≤ k → k < j → Hasnt ps k) :
    Calls Try.prog 25 #[.pointer (some ⟨b, 0, none⟩), .int .u32 i, .int .u32 j, .int .i64 0] w fun e w' => e = .returned (.bool true) ∧ w = w' := by
  have HC := Lib.hid (logNext_some B b lv ps i j w h hij hj hno)
  clear h hij hj hno
  go_enter Try.func25, Try.ntmps25
  go_wp2_with fail
  refine HC.out.mono ?_
  rintro e w1 ⟨rfl, rfl⟩
  go_wp2_with fail
  go_ret
  exact ⟨rfl, rfl⟩

set_option maxHeartbeats 400000 in
theorem next_none (B b : Nat) (lv : Value) (ps : List (Ent × Value)) (i : Nat) (w : World) (h : LogRep w B b lv ps) (h32 : (i : Int) ≤ 4294967295) (hno : ∀ k, i ≤ k → Hasnt ps k) :
    Calls Try.prog 25 #[.pointer (some ⟨b, 0, none⟩), .int .u32 i, .int .u32 0, .int .i64 9] w fun e w' => e = .returned (.bool true) ∧ w = w' := by
  have HC := Lib.hid (logNext_none B b lv ps i w h h32 hno)
  clear h h32 hno
  go_enter Try.func25, Try.ntmps25
  go_wp2_with fail
  refine HC.out.mono ?_
  rintro e w1 ⟨rfl, rfl⟩
  go_wp2_with fail
  go_ret
  exact ⟨rfl, rfl⟩

end Go.Proofs.Ytjjhndhigkhkpaa
