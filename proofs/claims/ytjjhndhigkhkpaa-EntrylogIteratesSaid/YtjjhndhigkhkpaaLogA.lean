/- The walks of a log's methods (layer 9). -/
import Derived.Test.YtjjhndhigkhkpaaLogM
import Derived.Deep.RegionHeldLaw
import Derived.Deep.RegionLaw
import Derived.Deep.AppendLies
import Derived.Deep.DrawnRows
import Derived.Deep.DeepCutAuto
namespace Go.Proofs.Ytjjhndhigkhkpaa
open Go Go.RowKit
attribute [local go_sem ↓] Go.wp_at_zero Go.wp_at_succ

set_option maxHeartbeats 400000 in
theorem logNew_any (w : World) :
    Calls Try.prog 9 #[] w fun e w' => e = .returned (.pointer (some ⟨w.heap.size, 0, none⟩)) ∧ w' = w.alloc (.cells #[.bool true, .slice none 0 0, .int .i64 0] 62) := by
  go_enter Try.func9, Try.ntmps9
  go_wp2
  go_ret
  exact ⟨rfl, rfl⟩

theorem logNew_rep (w : World) (B : Nat) (hB : B ≤ w.heap.size) : LogRep (w.alloc (.cells #[.bool true, .slice none 0 0, .int .i64 0] 62)) B w.heap.size (.slice none 0 0) [] :=
  ⟨Blk.new _ _ _, World.ownsRow_nil _ _ _ _, by simp, hB, by simp⟩

set_option maxHeartbeats 400000 in
theorem logZero_some (b : Nat) (lv : Value) (n : Int) (w : World) (h : Blk w b 62 #[.bool true, lv, .int .i64 n]) :
    Calls Try.prog 29 #[.pointer (some ⟨b, 0, none⟩)] w fun e w' => e = .returned (.bool false) ∧ w = w' := by
  have h0 := h.cell 0 _ rfl
  clear h
  go_enter Try.func29, Try.ntmps29
  go_wp2
  go_ret
  exact ⟨rfl, rfl⟩

set_option maxHeartbeats 400000 in
theorem logZero_nil (w : World) :
    Calls Try.prog 29 #[.pointer none] w fun e w' => e = .returned (.bool true) ∧ w = w' := by
  go_enter Try.func29, Try.ntmps29
  go_wp2
  go_ret
  exact ⟨rfl, rfl⟩

set_option maxHeartbeats 400000 in
theorem logZero_zero (b : Nat) (lv : Value) (n : Int) (w : World) (h : Blk w b 62 #[.bool false, lv, .int .i64 n]) :
    Calls Try.prog 29 #[.pointer (some ⟨b, 0, none⟩)] w fun e w' => e = .returned (.bool true) ∧ w = w' := by
  have h0 := h.cell 0 _ rfl
  clear h
  go_enter Try.func29, Try.ntmps29
  go_wp2
  go_ret
  exact ⟨rfl, rfl⟩

set_option maxHeartbeats 400000 in
theorem logLen_any (B b : Nat) (lv : Value) (ps : List (Ent × Value)) (w : World) (h : LogRep w B b lv ps) :
    Calls Try.prog 13 #[.pointer (some ⟨b, 0, none⟩)] w fun e w' => e = .returned (.int .i64 ps.length) ∧ w = w' := by
  obtain ⟨A, cap, rfl, _, _⟩ := own_form h.row
  have hl := h.len
  have h1 := h.blk.cell 1 _ rfl
  have HB := Lib.hid h.blk
  clear h
  go_enter Try.func13, Try.ntmps13
  go_wp2_with (go_at_call 29; refine (logZero_some _ _ _ _ HB.out).mono ?_; rintro e w' ⟨rfl, rfl⟩)
  go_ret
  exact ⟨rfl, rfl⟩

set_option maxHeartbeats 400000 in
theorem logLive_any (B b : Nat) (lv : Value) (ps : List (Ent × Value)) (w : World) (h : LogRep w B b lv ps) :
    Calls Try.prog 17 #[.pointer (some ⟨b, 0, none⟩)] w fun e w' => e = .returned (.int .i64 (liveN ps)) ∧ w = w' := by
  have h1 := h.blk.cell 2 _ rfl
  have HB := Lib.hid h.blk
  clear h
  go_enter Try.func17, Try.ntmps17
  go_wp2_with (go_at_call 29; refine (logZero_some _ _ _ _ HB.out).mono ?_; rintro e w' ⟨rfl, rfl⟩)
  go_ret
  exact ⟨rfl, rfl⟩

set_option maxHeartbeats 400000 in
theorem logAppend_err (B b : Nat) (lv : Value) (ps : List (Ent × Value)) (k : ByteArray) (v : Value) (bs : List UInt8) (d n : Int) (w : World) (h : LogRep w B b lv ps) (hk : k.size ≤ maxLen) (hb : Bts w B 5 v bs) (hc : chkE k bs.length n ≠ 0) :
    Calls Try.prog 11 #[.pointer (some ⟨b, 0, none⟩), .agg #[.string k, v, .int .u64 d, .int .u64 n]] w fun e w' => e = .returned (.tuple #[.int .u32 0, .int .i64 (chkE k bs.length n)]) ∧ Below w.heap.size w w' := by
  obtain ⟨A, cap, rfl⟩ := hb.form
  have HB := Lib.hid h.blk
  have HV := Lib.hid hb
  have HC := Lib.hid hc
  have hcv : (chkE k bs.length n == 0) = false := by simpa using hc
  have hne : b ≠ w.heap.size := Nat.ne_of_lt h.blk.lt
  have HK := Lib.hid hk
  clear h hb hc hk
  go_enter Try.func11, Try.ntmps11
  go_wp2_with (go_at_call 29; refine (logZero_some _ _ _ _ (HB.out.alloc _)).mono ?_; rintro e w' ⟨rfl, rfl⟩)
  refine (entryNew_err B _ _ bs _ _ _ HK.out (HV.out.alloc _) HC.out).mono ?_
  rintro e w1 ⟨rfl, h1⟩
  have HG := Lib.hid (below_own h1)
  clear h1
  go_wp2_with fail
  go_ret2
  exact ⟨rfl, HG.out.alloc HG.out.size _⟩

theorem append_close {B b : Nat} {lv lv3 v1 : Value} {ps : List (Ent × Value)} {k : ByteArray} {bs : List UInt8} {d n : Int} {w1 w3 : World} {X Y : Obj} {n0 : Nat}
    (hr : LogRep w1 B b lv ps) (ho : w1.ownsRow n0 5 1 v1 bs.length (bcells bs)) (hg : (((w1.alloc X).alloc Y).drew).grownBy w3 lv.ownBlock)
    (hown : w3.ownsRow B 31 4 lv3 (ps.length + 1) (ecs ps ++ [.string k, v1, .int .u64 d, .int .u64 n])) (hn : n ≠ 0) (hl : ps.length < 4194304) :
    LogRep ((w3.setCell ⟨b, 1, none⟩ lv3).setCell ⟨b, 2, none⟩ (.int .i64 ((liveN ps : Int) + 1))) B b lv3 (ps ++ [(⟨k, bs, d, n⟩, v1)]) ∧
      Only (logFp b lv) w1 ((w3.setCell ⟨b, 1, none⟩ lv3).setCell ⟨b, 2, none⟩ (.int .i64 ((liveN ps : Int) + 1))) := by
  have hbn : some b ≠ lv.ownBlock := fun e => by
    obtain ⟨_, cur, h2⟩ := row_block hr.row e.symm
    exact (hr.blk.ne_ h2 (by decide)) rfl
  have h13 : Only (fun k => lv.ownBlock = some k) w1 w3 := (((Only.refl _ w1).alloc X).alloc Y).drew.trans (Only.of_grown hg) (fun i _ h => h)
  have honly : Only (logFp b lv) w1 ((w3.setCell ⟨b, 1, none⟩ lv3).setCell ⟨b, 2, none⟩ (.int .i64 ((liveN ps : Int) + 1))) :=
    ((h13.mono (fun _ _ h => .inr h)).setCell (p := ⟨b, 1, none⟩) (.inl (.inl rfl)) _).setCell (p := ⟨b, 2, none⟩) (.inl (.inl rfl)) _
  have hb3 : Blk w3 b 62 #[.bool true, lv, .int .i64 (liveN ps : Int)] := hr.blk.only h13 (fun e => hbn e.symm)
  have h3n : lv3.ownBlock ≠ some b := fun e => by
    obtain ⟨_, cur, h2⟩ := row_block hown e
    exact (hb3.ne_ h2 (by decide)) rfl
  have hkeep := hr.keepB honly
  refine ⟨⟨?_, ?_, ?_, hr.base, by simp; omega⟩, honly⟩
  · have := (hb3.set_ 1 lv3).set_ 2 (.int .i64 ((liveN ps : Int) + 1))
    have e : liveN (ps ++ [(⟨k, bs, d, n⟩, v1)]) = liveN ps + 1 := liveN_snoc _ _ hn
    rw [e]
    exact this
  · have e : (ps ++ [((⟨k, bs, d, n⟩ : Ent), v1)]).length = ps.length + 1 := by simp
    rw [e, ecs_append]
    exact ownsRow_setCell_other (ownsRow_setCell_other hown (a := ⟨b, 1, none⟩) h3n _) (a := ⟨b, 2, none⟩) h3n _
  · intro p hp
    rcases List.mem_append.1 hp with hp | hp
    · exact (hr.vals p hp).keep hkeep
    · have : p = (⟨k, bs, d, n⟩, v1) := by simpa using hp
      subst this
      exact (Bts.of_own ho B).keep hkeep

set_option maxRecDepth 100000 in
set_option maxHeartbeats 1000000 in
theorem logAppend_ok (B b : Nat) (lv : Value) (ps : List (Ent × Value)) (k : ByteArray) (v : Value) (bs : List UInt8) (d n : Int) (w : World) (h : LogRep w B b lv ps) (hk : k.size ≤ maxLen) (hb : Bts w B 5 v bs) (hc : chkE k bs.length n = 0) (hl : ps.length < 4194304) :
    Calls Try.prog 11 #[.pointer (some ⟨b, 0, none⟩), .agg #[.string k, v, .int .u64 d, .int .u64 n]] w fun e w' => e = .returned (.tuple #[.int .u32 ps.length, .int .i64 0]) ∧
      ∃ lv' v', LogRep w' B b lv' (ps ++ [(⟨k, bs, d, n⟩, v')]) ∧ Only (logFp b lv) w w' ∧ (lv'.ownBlock = lv.ownBlock ∨ ∃ g, lv'.ownBlock = some g ∧ w.heap.size ≤ g) ∧ (∀ k, v'.ownBlock = some k → w.heap.size ≤ k) := by
  obtain ⟨A, cap, rfl⟩ := hb.form
  have HR := Lib.hid h
  have HV := Lib.hid hb
  have HC := Lib.hid hc
  have hlt : b < w.heap.size := h.blk.lt
  have HK := Lib.hid hk
  have hd : decide ((4194304 : Int) ≤ (ps.length : Int)) = false := decide_eq_false (by omega)
  have HLen := Lib.hid hl
  clear h hb hc hk hl
  obtain ⟨LA, lcap, rfl, hc1, hc2⟩ := own_form HR.out.row
  clear hc1 hc2
  go_enter Try.func11, Try.ntmps11
  go_wp2_with (go_at_call 29; refine (logZero_some _ _ _ _ (HR.out.blk.alloc _)).mono ?_; rintro e w' ⟨rfl, rfl⟩)
  refine (entryNew_ok B _ _ bs _ _ _ HK.out (HV.out.alloc _) HC.out).mono ?_
  rintro e w1 ⟨v1, rfl, hown, h1⟩
  obtain ⟨A1, c1, rfl, hc1, hc2⟩ := own_form hown
  clear hc1 hc2
  have HG := Lib.hid (below_own h1)
  have HR1 := Lib.hid (HR.out.below HG.out)
  have hlt1 := HR1.out.blk.lt
  have HO := Lib.hid hown
  have k0 := HR1.out.blk.cell 0 _ rfl
  have k1 := HR1.out.blk.cell 1 _ rfl
  have k2 := HR1.out.blk.cell 2 _ rfl
  clear h1 hown
  go_wp2_with fail
  have hbn : (Value.slice LA ps.length lcap).ownBlock ≠ some b := fun e => by
    obtain ⟨_, cur, h2⟩ := row_block HR1.out.row e
    exact (HR1.out.blk.ne_ h2 (by decide)) rfl
  have HBN := Lib.hid hbn
  have hnn : (Value.slice LA ps.length lcap).ownBlock ≠ some w1.heap.size := fun e => by
    obtain ⟨_, cur, h2⟩ := row_block HR1.out.row e
    have := lt_of_heap h2
    omega
  have HNN := Lib.hid hnn
  clear hbn hnn
  obtain ⟨i0, hi0, hz0, hz1, hz2⟩ := info_parts ent_info
  have HI := Lib.hid hi0
  have HZ0 := Lib.hid hz0
  have HZ1 := Lib.hid hz1
  have HZ2 := Lib.hid hz2
  clear hi0 hz0 hz1 hz2
  go_region_law
    ((refine step_append_src _ (by rfl) _ _ _ (by rfl) B 31 i0 _ 4 56 Try.underlying47 HI.out HZ0.out HZ1.out HZ2.out rfl (by decide) _ ps.length (ecs ps) (by rfl) ((HR1.out.row.alloc _).alloc _) (some ⟨w1.heap.size + 1, 0, none⟩) 1 1 [.string k, .slice A1 bs.length c1, .int .u64 d, .int .u64 n] (by rfl) (src_block (heap_alloc2_new _ _ _) rfl) (by simp [Value.oneCell']) (by have := HLen.out; unfold maxLen; omega) (by have := HLen.out; omega) (by have := HR1.out.base; simp; omega) ?_; intro v3 w3 hown3 hg3 hat3; have bb := (((HR1.out.blk.alloc _).alloc _).drew).grown hg3 (fun e => HBN.out e.symm); have bn := (((Blk.new w1 31 #[.string k, .slice A1 bs.length c1, .int .u64 d, .int .u64 n]).alloc _).drew).grown hg3 (fun e => HNN.out e.symm); obtain ⟨A3, c3, rfl, hx1, hx2⟩ := own_form hown3; clear hx1 hx2; have q0 := bb.cell 1 _ rfl; have q5 := bb.cell 2 _ rfl; have q6 := bb.frozen; have q1 := bn.cell 0 _ rfl; have q2 := bn.cell 1 _ rfl; have q3 := bn.cell 2 _ rfl; have q4 := bn.cell 3 _ rfl; have BB := Lib.hid bb; have HOwn3 := Lib.hid hown3; have HGr3 := Lib.hid hg3; have HAt3 := Lib.hid hat3; clear bb bn hown3 hg3 hat3))
  all_goals
    go_wp2
    go_ret2
    rw [IntWalk.wrap64_in ((liveN ps : Int) + 1) (by have := liveN_le ps; have := HLen.out; omega)]
    refine ⟨?_, _, _, (append_close HR1.out HO.out HGr3.out HOwn3.out (chkE_pos HC.out).2.1 HLen.out).1, ?_, ?_, fun k hk => by have := (row_block HO.out hk).1; simp at this; omega⟩
    · have e : wrap64 (ps.length : Int) % 4294967296 = ps.length := by
        have := HLen.out
        rw [IntWalk.wrap64_in _ (by omega)]; omega
      simp
      exact e
    · exact (Only.of_below HG.out).trans (append_close HR1.out HO.out HGr3.out HOwn3.out (chkE_pos HC.out).2.1 HLen.out).2 (fun _ _ h => h)
    · rcases HAt3.out with e | e
      · exact .inl e
      · exact .inr ⟨_, e, by have := HG.out.size; simp; omega⟩

end Go.Proofs.Ytjjhndhigkhkpaa
