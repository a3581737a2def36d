/- Layer 45: Recover, Read. -/
import Derived.Test.YtffigmciclopdaaDoorJouL
namespace Go.Proofs.YtffigmciclopdaaDoor
open Go Go.RowKit

/-- What Recover gives. -/
def RcvRet (bs : List UInt8) (w : World) (e : Ending) (w' : World) : Prop :=
  ∃ b dv ev ov ds es ps, e = .returned (.tuple #[.pointer (some ⟨b, 0, none⟩), .int .i64 (ds.length : Int)]) ∧ rcvd bs = (ds, es, ps.map Prod.fst) ∧ JRep w' w.heap.size b dv ev ov ds es ps ∧ (∀ k, jFp b dv ev ov k → w.heap.size ≤ k) ∧ (∀ p ∈ ps, ∀ k, p.2.ownBlock = some k → w.heap.size ≤ k) ∧ (∃ rest, bs = ds ++ rest) ∧ Below w.heap.size w w'

structure RcI (w wr : World) (bs : List UInt8) (dv ev ov : Value) (ds : List UInt8) (es : List Nat) (ps : List (OpV × Value)) (rest : List UInt8) : Prop where
  rep : JRep wr w.heap.size w.heap.size dv ev ov ds es ps
  below : Below w.heap.size w wr
  at_ : RcP bs ds es (ps.map Prod.fst) rest
  fresh : ∀ p ∈ ps, ∀ k, p.2.ownBlock = some k → w.heap.size ≤ k
theorem RcI.adv {w wr W : World} {bs : List UInt8} {dv ev ov : Value} {ds : List UInt8} {es : List Nat} {ps : List (OpV × Value)} {rest : List UInt8} (h : RcI w wr bs dv ev ov ds es ps rest) (hb : Below wr.heap.size wr W) : RcI w W bs dv ev ov ds es ps rest :=
  ⟨h.rep.below hb, h.below.trans (hb.mono h.below.size), h.at_, h.fresh⟩
theorem RcI.done {w wr : World} {bs : List UInt8} {dv ev ov : Value} {ds : List UInt8} {es : List Nat} {ps : List (OpV × Value)} {rest : List UInt8} (h : RcI w wr bs dv ev ov ds es ps rest) (hs : rcvd bs = (ds, es, ps.map Prod.fst)) :
    RcvRet bs w (.returned (.tuple #[.pointer (some ⟨w.heap.size, 0, none⟩), .int .i64 (ds.length : Int)])) wr :=
  ⟨_, dv, ev, ov, ds, es, ps, rfl, hs, h.rep, fun k hk => (h.rep.toJS.fp_lt hk).1, h.fresh, ⟨rest, h.at_.cut⟩, h.below⟩
theorem RcI.start (w : World) (bs : List UInt8) : RcI w (w.alloc (.cells #[.slice none 0 0, .slice none 0 0, .slice none 0 0] 35)) bs (.slice none 0 0) (.slice none 0 0) (.slice none 0 0) [] [] [] bs :=
  ⟨⟨⟨Blk.new _ _ _, World.ownsRow_nil _ _ _ _, World.ownsRow_nil _ _ _ _, World.ownsRow_nil _ _ _ _, fun p hp => by simp at hp, fun p hp => by simp at hp, Nat.le_refl _⟩, .inl rfl, by simp, rfl, by simp⟩, (Below.refl _ _).alloc (Nat.le_refl _) _, RcP.start bs, fun p hp => by simp at hp⟩

/-- How many bytes a journal at g has. -/
def dLen (w : World) (g : Nat) : Nat := match w.cell? ⟨g, 0, none⟩ with
  | some v => slLen v
  | none => 0

/-- What the middle of a round reads. -/
structure R7 (w W : World) (bs : List UInt8) (dv ev ov : Value) (ds : List UInt8) (es : List Nat) (ps : List (OpV × Value)) (rest : List UInt8) (vr vl : Value) (qs : List (OpV × Value)) : Prop where
  rc : RcI w W bs dv ev ov ds es ps rest
  rest_ : Bts W w.heap.size 5 vr rest
  ops : OpsAt W w.heap.size vl qs
  kg : KG W
theorem R7.adv {w W W2 : World} {bs : List UInt8} {dv ev ov : Value} {ds : List UInt8} {es : List Nat} {ps : List (OpV × Value)} {rest : List UInt8} {vr vl : Value} {qs : List (OpV × Value)} (h : R7 w W bs dv ev ov ds es ps rest vr vl qs) (hb : Below W.heap.size W W2) : R7 w W2 bs dv ev ov ds es ps rest vr vl qs :=
  ⟨h.rc.adv hb, h.rest_.below hb, h.ops.below hb, h.kg.below hb h.kg.1⟩
theorem OpsAt.nil (w : World) (B : Nat) : OpsAt w B (.slice none 0 0) [] := ⟨⟨none, 0, rfl, Nat.le_refl _, Nat.zero_le _, fun _ => rfl, fun h => by simp at h⟩, fun p hp => by simp at hp, fun p hp => by simp at hp⟩
theorem below_drewN (w : World) (n : Nat) : Below w.heap.size w (w.drewN n) := ⟨rfl, rfl, rfl, Nat.le_refl _, fun _ _ => rfl⟩

theorem okRec_long {s : Nat} {rest : List UInt8} {N : Nat} (hN : headN rest = N) (h : rest.length < N + 6 ∨ 4096 < N) : okRec s rest = none := by
  unfold okRec
  rw [hN, if_pos h]
theorem okRec_not1 {s : Nat} {rest : List UInt8} {N : Nat} {P : List UInt8} (hN : headN rest = N) (hP : (rest.take (2 + N)).drop 2 = P) (h : (rdOps P).length ≠ 1) : okRec s rest = none := by
  unfold okRec
  split
  · rfl
  · rw [hN, hP]
    split
    · rename_i o ho; rw [ho] at h; simp at h
    · rfl
theorem okRec_bad {s : Nat} {rest : List UInt8} {N : Nat} {P : List UInt8} {o : OpV} (hN : headN rest = N) (hP : (rest.take (2 + N)).drop 2 = P) (h : rdOps P = [o]) (h2 : ∀ r, recO s o = some r → r ≠ rest.take (N + 6)) : okRec s rest = none := by
  unfold okRec
  split
  · rfl
  · rw [hN, hP, h]
    dsimp only
    cases hr : recO s o with
    | none => rfl
    | some r => dsimp only; rw [if_neg (h2 r hr)]
theorem okRec_good {s : Nat} {rest : List UInt8} {N : Nat} {P r : List UInt8} {o : OpV} (hN : headN rest = N) (hP : (rest.take (2 + N)).drop 2 = P) (h : rdOps P = [o]) (hl : ¬ (rest.length < N + 6 ∨ 4096 < N)) (h2 : recO s o = some r) (h3 : r = rest.take (N + 6)) : okRec s rest = some (o, r) := by
  unfold okRec
  rw [hN, if_neg hl, hP, h]
  dsimp only
  rw [h2]
  dsimp only
  rw [if_pos h3]

theorem OpsAt.at0 {w : World} {B g off n cap : Nat} {o : OpV} {V : Value} {ps : List (OpV × Value)} (h : OpsAt w B (.slice (some ⟨g, off, none⟩) n cap) ((o, V) :: ps)) :
    w.cell? ⟨g, off, none⟩ = some (.int .i64 o.kind) ∧ w.cell? ⟨g, off + 1, none⟩ = some (.int .u64 o.ticks) ∧ w.cell? ⟨g, off + 2, none⟩ = some (.string o.key) ∧ w.cell? ⟨g, off + 3, none⟩ = some V ∧ w.cell? ⟨g, off + 4, none⟩ = some (.int .u64 o.ttl) ∧ w.cell? ⟨g, off + 5, none⟩ = some (.int .i64 o.count) ∧ w.cell? ⟨g, off + 6, none⟩ = some (.int .i64 o.bytes) ∧ w.cell? ⟨g, off + 7, none⟩ = some (.int .i64 o.cursor) ∧ w.cell? ⟨g, off + 8, none⟩ = some (.int .u64 o.birth) := by
  obtain ⟨gx, ox, ex, -, hz⟩ := h.at_ (i := 0) (p := (o, V)) rfl
  injection ex with ex
  injection ex with ex1 ex2
  subst ex1 ex2
  simpa only [Nat.zero_mul, Nat.add_zero] using hz

/-- A new record. -/
theorem RcI.step {w W W2 : World} {bs : List UInt8} {dv ev ov d2 e2 o2 V' : Value} {ds r : List UInt8} {es : List Nat} {ps : List (OpV × Value)} {rest : List UInt8} {o : OpV} (h : RcI w W bs dv ev ov ds es ps rest) (hk : okRec (sumL ds) rest = some (o, r)) (hf : ¬ (4096 ≤ es.length ∨ 1048576 < ds.length + r.length))
    (hr : JRep W2 w.heap.size w.heap.size d2 e2 o2 (ds ++ r) (es ++ [ds.length + r.length]) (ps ++ [(o, V')])) (ho : Only (jFp w.heap.size dv ev ov) W W2) (hV : ∀ k, V'.ownBlock = some k → W.heap.size ≤ k) :
    RcI w W2 bs d2 e2 o2 (ds ++ r) (es ++ [ds.length + r.length]) (ps ++ [(o, V')]) (rest.drop r.length) := by
  refine ⟨hr, h.below.trans (ho.below (fun i hi _ e => by have := (h.rep.toJS.fp_lt e).1; omega) h.below.size), ?_, fun p hp k hk => ?_⟩
  · rw [List.map_append]; exact h.at_.step hk hf
  · rcases List.mem_append.1 hp with hp | hp
    · exact h.fresh p hp k hk
    · have e := List.mem_singleton.1 hp
      subst e
      exact Nat.le_trans h.below.size (hV k hk)

theorem dLen_rep {w W : World} {bs : List UInt8} {dv ev ov : Value} {ds : List UInt8} {es : List Nat} {ps : List (OpV × Value)} {rest : List UInt8} (h : RcI w W bs dv ev ov ds es ps rest) : dLen W w.heap.size = ds.length := by
  obtain ⟨DA, dc, rfl, _, _⟩ := own_form h.rep.data
  unfold dLen
  rw [h.rep.blk.cell 0 _ rfl]
  rfl


set_option maxRecDepth 100000 in
set_option maxHeartbeats 4000000 in
theorem recover_any (B : Nat) (V : Value) (bs : List UInt8) (w : World) (hv : Bts w B 5 V bs) (hB : B ≤ w.heap.size) (hk : KG w) (hl : bs.length ≤ 1000000) :
    Calls Tryd.prog 28 #[V] w (RcvRet bs w) := by
  obtain ⟨A, cap, rfl⟩ := hv.form
  have HV := Lib.hid (hv.more hB)
  have HK := Lib.hid hk
  have hlI : (bs.length : Int) ≤ 1000000 := by omega
  have HSt := Lib.hid (RcI.start w bs)
  clear hv hB hk hl
  go_enter Tryd.func28, Tryd.ntmps28
  go_wp2_with fail
  go_step3
  go_wp2_with fail
  go_step3
  go_wp2_with fail
  go_loopw [] (fun wr => ∃ dv ev ov ds es ps rest, RcI w wr bs dv ev ov ds es ps rest) (fun wr => bs.length - dLen wr w.heap.size)
  case atStart => exact ⟨_, _, _, _, _, _, _, HSt.out⟩
  case round =>
    obtain ⟨dv, ev, ov, ds, es, ps, rest, hI⟩ := hrel
    have HI := Lib.hid hI
    obtain ⟨DA, dc, rfl, hdc, hdm⟩ := own_form hI.rep.data
    have x0 : wr.cell? ⟨w.heap.size, 0, none⟩ = some (.slice DA ds.length dc) := hI.rep.blk.cell 0 _ rfl
    have hcut := hI.at_.cut
    have hll : bs.length = ds.length + rest.length := by rw [hcut, List.length_append]
    have hbt : Bts wr w.heap.size 5 (sliced A ds.length bs.length cap 1) rest := by
      have := (HV.out.below hI.below).from_ ds.length (by omega)
      rwa [hcut, List.drop_left, ← hcut] at this
    obtain ⟨A', c', hA'⟩ := hbt.form
    rw [hA'] at hbt
    have HBt := Lib.hid hbt
    have hslr : ∀ w', (Instr.slice 22 (.slice A bs.length cap) (some (.int .i64 ds.length)) none none).run Tryd.prog w' = .ok (.slice A' rest.length c') w' := fun w' => by
      rw [run_slice_l w' 22 A bs.length cap Tryd.underlying22 .i64 _ (Int.natCast_nonneg _) (by omega)]
      rw [size_bytes, Int.toNat_natCast]
      exact congrArg (Result.ok · w') hA'
    have hllI : (rest.length : Int) ≤ 1000000 := by omega
    have hdxI : (ds.length : Int) ≤ (bs.length : Int) := by omega
    by_cases h2 : rest.length < 2
    · have h2I : (rest.length : Int) < 2 := by omega
      have HS := Lib.hid (okRec_nil (sumL ds) h2)
      clear hI hcut hbt  hA' hll x0
      have x0 := HI.out.rep.blk.cell 0 _ rfl
      go_wp2_with fail
      go_quiet (fail)
      go_wp2_with fail
      go_ret2
      exact (HI.out.adv (below_drewN _ _)).done (HI.out.at_.stop HS.out)
    · have h2I : ¬ (rest.length : Int) < 2 := by omega
      obtain ⟨x, hrx⟩ : ∃ x, rest[0]? = some x := ⟨_, List.getElem?_eq_getElem (by omega)⟩
      obtain ⟨y, hry⟩ : ∃ y, rest[1]? = some y := ⟨_, List.getElem?_eq_getElem (by omega)⟩
      obtain ⟨g, off, hAA, q0⟩ := hbt.cellAt hrx
      obtain ⟨g', off', hAA', q1⟩ := hbt.cellAt hry
      rw [hAA] at hAA'
      injection hAA' with hAA'
      injection hAA' with e1 e2
      subst e1 e2
      subst hAA
      rw [Nat.add_zero] at q0
      have h0I : (0 : Int) < (rest.length : Int) := by omega
      have h1I : (1 : Int) < (rest.length : Int) := by omega
      obtain ⟨N, hN⟩ : ∃ N, headN rest = N := ⟨_, rfl⟩
      have hNe : x.toNat * 256 + y.toNat = N := by
        rw [← hN]; unfold headN
        rw [List.getD_eq_getElem?_getD, List.getD_eq_getElem?_getD, hrx, hry]; rfl
      have hx := x.toNat_lt
      have hy := y.toNat_lt
      have hj := join_i64 x.toNat y.toNat (by omega) (by omega)
      rw [hNe] at hj
      have hN4 : (N : Int) ≤ 65535 := by omega
      have HNe := Lib.hid hNe
      clear hNe hrx hry hcut hA' hbt hI hll
      go_wp2_with fail
      go_quiet (fail)
      have HIq := Lib.hid (HI.out.adv (below_drewN wr nq))
      have HBq := Lib.hid (HBt.out.below (below_drewN wr nq))
      generalize wr.drewN nq = wq at HIq HBq ⊢
      clear q0 q1 x0
      by_cases h6 : rest.length < N + 6
      · have h6I : (rest.length : Int) < (N : Int) + 6 := by omega
        have HS := Lib.hid (okRec_long (s := sumL ds) hN (.inl h6))
        clear hN
        have x0 := HIq.out.rep.blk.cell 0 _ rfl
        go_wp2_with fail
        go_quiet (fail)
        go_wp2_with fail
        go_ret2
        exact (HIq.out.adv (below_drewN _ _)).done (HIq.out.at_.stop HS.out)
      · have h6I : ¬ (rest.length : Int) < (N : Int) + 6 := by omega
        obtain ⟨P, hP⟩ : ∃ P, (rest.take (2 + N)).drop 2 = P := ⟨_, rfl⟩
        have hPl : P.length = N := by rw [← hP, List.length_drop, List.length_take]; omega
        have hcc : rest.length ≤ c' := by
          obtain ⟨_, _, e3, hcc, _⟩ := HBq.out
          injection e3 with _ _ e5
          omega
        have hccI : (2 : Int) + (N : Int) ≤ (c' : Int) := by omega
        have hcc6 : (N : Int) + 6 ≤ (c' : Int) := by omega
        have hb2 := HBq.out.cut_ 2 (2 + N) (by omega) (by omega)
        have e2 : sliced (some ⟨g, off, none⟩) 2 (2 + N) c' 1 = .slice (some ⟨g, off + 2, none⟩) N (c' - 2) := by
          unfold sliced
          rw [if_neg (by omega), Option.map_some, add_plain, Nat.mul_one, Nat.add_sub_cancel_left]
        rw [hP, e2] at hb2
        have hb6 : ∀ W, Bts W w.heap.size 5 (.slice (some ⟨g, off, none⟩) rest.length c') rest → Bts W w.heap.size 5 (.slice (some ⟨g, off, none⟩) (N + 6) c') (rest.take (N + 6)) := fun W h => by
          have := h.cut_ 0 (N + 6) (by omega) (by omega)
          rw [List.drop_zero] at this
          have e6 : sliced (some ⟨g, off, none⟩) 0 (N + 6) c' 1 = .slice (some ⟨g, off, none⟩) (N + 6) c' := by
            unfold sliced
            rw [if_neg (by omega), Option.map_some, add_plain]; rfl
          rwa [e6] at this
        have HB6 := Lib.hid hb6
        have HPa := Lib.hid (parse_any w.heap.size (.slice (some ⟨g, off + 2, none⟩) N (c' - 2)) P wq hb2 HK.out.1 HIq.out.below.size (HK.out.below HIq.out.below HK.out.1))
        have HHd := Lib.hid hN
        have HPP := Lib.hid hP
        have HPl := Lib.hid hPl
        have HL6 := Lib.hid h6
        clear hN hP hPl hb2 hb6 hcc h6 e2
        go_wp2_with fail
        refine (HPa.out.mono ?_)
        intro e w1 hret
        unfold ParseRet at hret
        rw [HPl.out] at hret
        by_cases h4 : 4096 < N
        · rw [if_pos h4] at hret
          obtain ⟨rfl, hb1⟩ := hret
          have HS := Lib.hid (okRec_long (s := sumL ds) HHd.out (.inr h4))
          have H7 : Hid (R7 w w1 bs (.slice DA ds.length dc) ev ov ds es ps rest (.slice (some ⟨g, off, none⟩) rest.length c') (.slice none 0 0) []) := Lib.hid ⟨HIq.out.adv hb1, HBq.out.below hb1, OpsAt.nil _ _, (HK.out.below HIq.out.below HK.out.1).below hb1 (Nat.lt_of_lt_of_le HK.out.1 HIq.out.below.size)⟩
          clear hb1
          go_upto_region 7 with fail
          refine wp_region_noPanic ?_
          refine wp_region_held_drew (S := fun W => R7 w W bs (.slice DA ds.length dc) ev ov ds es ps rest (.slice (some ⟨g, off, none⟩) rest.length c') (.slice none 0 0) []) (by kernel_rfl) (H7.out.adv (Below.refl _ _).drew) (fun hHeld => ?_)
          refine wpAnyH_take (i := 0) (oi := ⟨_, _, _, _, _, _⟩) (v := ?_) rfl (by kernel_rfl) (by kernel_rfl) (by kernel_rfl) (fun _ _ _ h => h) (Or.inl ⟨by rfl, ?_⟩) (by assumption) ?_
          rotate_left 1
          · intro W hSw
            have x0 := hSw.rc.rep.blk.cell 0 _ rfl
            clear hSw
            go_simp
            try with_reducible rfl
          try simp only [Act.put, List.setIfInBounds_toArray, List.set_cons_zero, List.set_cons_succ]
          refine wpAnyH_take (i := 1) (oi := ⟨_, _, _, _, _, _⟩) (v := ?_) rfl (by kernel_rfl) (by kernel_rfl) (by kernel_rfl) (fun _ _ _ h => h) (Or.inl ⟨by rfl, ?_⟩) (by assumption) ?_
          rotate_left 1
          · intro W hSw
            have x0 := hSw.rc.rep.blk.cell 0 _ rfl
            clear hSw
            go_simp
            try with_reducible rfl
          try simp only [Act.put, List.setIfInBounds_toArray, List.set_cons_zero, List.set_cons_succ]
          refine wpAnyH_take (i := 2) (oi := ⟨_, _, _, _, _, _⟩) (v := ?_) rfl (by kernel_rfl) (by kernel_rfl) (by kernel_rfl) (fun _ _ _ h => h) (Or.inl ⟨by rfl, ?_⟩) (by assumption) ?_
          rotate_left 1
          · intro W hSw
            have x0 := hSw.rc.rep.blk.cell 0 _ rfl
            clear hSw
            go_simp
            try with_reducible rfl
          try simp only [Act.put, List.setIfInBounds_toArray, List.set_cons_zero, List.set_cons_succ]
          refine wpAnyH_take (i := 3) (oi := ⟨_, _, _, _, _, _⟩) rfl (by kernel_rfl) (by kernel_rfl) (by kernel_rfl) (fun _ _ _ h => h) (Or.inr ⟨by rfl, rfl⟩) (by assumption) ?_
          try simp only [Act.put, List.setIfInBounds_toArray, List.set_cons_zero, List.set_cons_succ]
          refine wpAnyH_take (i := 4) (oi := ⟨_, _, _, _, _, _⟩) rfl (by kernel_rfl) (by kernel_rfl) (by kernel_rfl) (fun _ _ _ h => h) (Or.inr ⟨by rfl, rfl⟩) (by assumption) ?_
          try simp only [Act.put, List.setIfInBounds_toArray, List.set_cons_zero, List.set_cons_succ]
          refine wpAnyH_take (i := 5) (oi := ⟨_, _, _, _, _, _⟩) rfl (by kernel_rfl) (by kernel_rfl) (by kernel_rfl) (fun _ _ _ h => h) (Or.inr ⟨by rfl, rfl⟩) (by assumption) ?_
          try simp only [Act.put, List.setIfInBounds_toArray, List.set_cons_zero, List.set_cons_succ]
          refine wpAnyH_take (i := 6) (oi := ⟨_, _, _, _, _, _⟩) (v := ?_) rfl (by kernel_rfl) (by kernel_rfl) (by kernel_rfl) (fun _ _ _ h => h) (Or.inl ⟨by rfl, ?_⟩) (by assumption) ?_
          rotate_left 1
          · intro W hSw
            have x0 := hSw.rc.rep.blk.cell 0 _ rfl
            clear hSw
            go_simp
            try with_reducible rfl
          try simp only [Act.put, List.setIfInBounds_toArray, List.set_cons_zero, List.set_cons_succ]
          refine wpAnyH_take (i := 7) (oi := ⟨_, _, _, _, _, _⟩) (v := ?_) rfl (by kernel_rfl) (by kernel_rfl) (by kernel_rfl) (fun _ _ _ h => h) (Or.inl ⟨by rfl, ?_⟩) (by assumption) ?_
          rotate_left 1
          · intro W hSw
            have x0 := hSw.rc.rep.blk.cell 0 _ rfl
            clear hSw
            go_simp
            try with_reducible rfl
          try simp only [Act.put, List.setIfInBounds_toArray, List.set_cons_zero, List.set_cons_succ]
          refine wpAnyH_take (i := 8) (oi := ⟨_, _, _, _, _, _⟩) rfl (by kernel_rfl) (by kernel_rfl) (by kernel_rfl) (fun _ _ _ h => h) (Or.inr ⟨by rfl, rfl⟩) (by assumption) ?_
          try simp only [Act.put, List.setIfInBounds_toArray, List.set_cons_zero, List.set_cons_succ]
          refine wpAnyH_take (i := 9) (oi := ⟨_, _, _, _, _, _⟩) rfl (by kernel_rfl) (by kernel_rfl) (by kernel_rfl) (fun _ _ _ h => h) (Or.inr ⟨by rfl, rfl⟩) (by assumption) ?_
          try simp only [Act.put, List.setIfInBounds_toArray, List.set_cons_zero, List.set_cons_succ]
          refine wpAnyH_take (i := 10) (oi := ⟨_, _, _, _, _, _⟩) rfl (by kernel_rfl) (by kernel_rfl) (by kernel_rfl) (fun _ _ _ h => h) (Or.inr ⟨by rfl, rfl⟩) (by assumption) ?_
          try simp only [Act.put, List.setIfInBounds_toArray, List.set_cons_zero, List.set_cons_succ]
          refine wpAnyH_take (i := 11) (oi := ⟨_, _, _, _, _, _⟩) rfl (by kernel_rfl) (by kernel_rfl) (by kernel_rfl) (fun _ _ _ h => h) (Or.inr ⟨by rfl, rfl⟩) (by assumption) ?_
          try simp only [Act.put, List.setIfInBounds_toArray, List.set_cons_zero, List.set_cons_succ]
          refine wpAnyH_take (i := 12) (oi := ⟨_, _, _, _, _, _⟩) rfl (by kernel_rfl) (by kernel_rfl) (by kernel_rfl) (fun _ _ _ h => h) (Or.inr ⟨by rfl, rfl⟩) (by assumption) ?_
          try simp only [Act.put, List.setIfInBounds_toArray, List.set_cons_zero, List.set_cons_succ]
          refine wpAnyH_take (i := 13) (oi := ⟨_, _, _, _, _, _⟩) rfl (by kernel_rfl) (by kernel_rfl) (by kernel_rfl) (fun _ _ _ h => h) (Or.inr ⟨by rfl, rfl⟩) (by assumption) ?_
          try simp only [Act.put, List.setIfInBounds_toArray, List.set_cons_zero, List.set_cons_succ]
          refine wpAnyH_take (i := 14) (oi := ⟨_, _, _, _, _, _⟩) rfl (by kernel_rfl) (by kernel_rfl) (by kernel_rfl) (fun _ _ _ h => h) (Or.inr ⟨by rfl, rfl⟩) (by assumption) ?_
          try simp only [Act.put, List.setIfInBounds_toArray, List.set_cons_zero, List.set_cons_succ]
          refine wpAnyH_take (i := 15) (oi := ⟨_, _, _, _, _, _⟩) rfl (by kernel_rfl) (by kernel_rfl) (by kernel_rfl) (fun _ _ _ h => h) (Or.inr ⟨by rfl, rfl⟩) (by assumption) ?_
          try simp only [Act.put, List.setIfInBounds_toArray, List.set_cons_zero, List.set_cons_succ]
          refine wpAnyH_take (i := 16) (oi := ⟨_, _, _, _, _, _⟩) rfl (by kernel_rfl) (by kernel_rfl) (by kernel_rfl) (fun _ _ _ h => h) (Or.inr ⟨by rfl, rfl⟩) (by assumption) ?_
          try simp only [Act.put, List.setIfInBounds_toArray, List.set_cons_zero, List.set_cons_succ]
          refine wpAnyH_take (i := 17) (oi := ⟨_, _, _, _, _, _⟩) rfl (by kernel_rfl) (by kernel_rfl) (by kernel_rfl) (fun _ _ _ h => h) (Or.inr ⟨by rfl, rfl⟩) (by assumption) ?_
          try simp only [Act.put, List.setIfInBounds_toArray, List.set_cons_zero, List.set_cons_succ]
          refine wpAnyH_take (i := 18) (oi := ⟨_, _, _, _, _, _⟩) rfl (by kernel_rfl) (by kernel_rfl) (by kernel_rfl) (fun _ _ _ h => h) (Or.inr ⟨by rfl, rfl⟩) (by assumption) ?_
          try simp only [Act.put, List.setIfInBounds_toArray, List.set_cons_zero, List.set_cons_succ]
          refine wpAnyH_take (i := 19) (oi := ⟨_, _, _, _, _, _⟩) rfl (by kernel_rfl) (by kernel_rfl) (by kernel_rfl) (fun _ _ _ h => h) (Or.inr ⟨by rfl, rfl⟩) (by assumption) ?_
          try simp only [Act.put, List.setIfInBounds_toArray, List.set_cons_zero, List.set_cons_succ]
          refine wpAnyH_take (i := 20) (oi := ⟨_, _, _, _, _, _⟩) (v := ?_) rfl (by kernel_rfl) (by kernel_rfl) (by kernel_rfl) (fun _ _ _ h => h) (Or.inl ⟨by rfl, ?_⟩) (by assumption) ?_
          rotate_left 1
          · intro W hSw
            have x0 := hSw.rc.rep.blk.cell 0 _ rfl
            clear hSw
            go_simp
            try with_reducible rfl
          try simp only [Act.put, List.setIfInBounds_toArray, List.set_cons_zero, List.set_cons_succ]
          refine wpAnyH_done (by kernel_rfl) ?_ _
          refine NoPanic.normal ?_
          have HI9 := Lib.hid hHeld.rc
          clear hHeld
          obtain ⟨w9, hw9⟩ : ∃ w9, w1.drew = w9 := ⟨_, rfl⟩
          rw [hw9] at HI9 ⊢
          clear hw9
          have x0 := HI9.out.rep.blk.cell 0 _ rfl
          go_wp2_with fail
          go_quiet (fail)
          go_wp2_with fail
          go_ret2
          exact (HI9.out.adv (below_drewN _ _)).done (HI9.out.at_.stop HS.out)
        · rw [if_neg h4] at hret
          obtain ⟨v8, qs, rfl, hmq, hq, hb1⟩ := hret
          rw [← HPP.out] at hmq
          obtain ⟨A8, c8, rfl⟩ := hq.at_.slice
          have H7 : Hid (R7 w w1 bs (.slice DA ds.length dc) ev ov ds es ps rest (.slice (some ⟨g, off, none⟩) rest.length c') (.slice A8 qs.length c8) qs) := Lib.hid ⟨HIq.out.adv hb1, HBq.out.below hb1, hq.at_, (HK.out.below HIq.out.below HK.out.1).below hb1 (Nat.lt_of_lt_of_le HK.out.1 HIq.out.below.size)⟩
          rw [HPP.out] at hmq
          have hql : qs.length = (rdOps P).length := by rw [← hmq, List.length_map]
          have hql2 : qs.length ≤ 65535 := by
            have := rdOps_len P.length P (Nat.le_refl _)
            have := HPl.out
            omega
          have hql3 : (qs.length : Int) ≤ 65535 := by omega
          clear hb1 hq
          by_cases h1 : qs.length = 1
          · obtain ⟨⟨o, VO⟩, rfl⟩ : ∃ p, qs = [p] := List.length_eq_one_iff.1 h1
            have ho : rdOps P = [o] := by rw [← hmq]; rfl
            have hvo := H7.out.ops.vals (o, VO) (by simp)
            have hto := H7.out.ops.wf (o, VO) (by simp)
            obtain ⟨VA, vc, eV⟩ := hvo.form
            dsimp only at hvo hto eV
            subst eV
            obtain ⟨g8, off8, rfl, _⟩ := H7.out.ops.at_ (i := 0) (p := (o, .slice VA o.val.length vc)) rfl
            have HTo := Lib.hid hto
            have HO := Lib.hid ho
            clear hmq hql hql2 hql3 h1 hvo hto ho
            have HEQ := Lib.hid (fun (W : World) (xs : List UInt8) (v : Value) (h1 : Bts W w.heap.size 5 v xs) (h2 : Bts W w.heap.size 5 (.slice (some ⟨g, off, none⟩) (N + 6) c') (rest.take (N + 6))) => bytesEqual_any _ _ _ _ _ _ W h1 h2)
            simp only [List.length_singleton]
            rw [List.length_singleton] at H7
            have hw6 : IntKind.i64.wrap ((N : Int) + 6) = (N : Int) + 6 := by rw [IntKind.wrap_i64 _]; omega
            have hw7 : (0 : Int) ≤ (N : Int) + 6 := by omega
            have hw8 : ((N : Int) + 6).toNat = N + 6 := by omega
            go_upto_region 7 with fail
            refine wp_region_noPanic ?_
            refine wp_region_held_drew (S := fun W => R7 w W bs (.slice DA ds.length dc) ev ov ds es ps rest (.slice (some ⟨g, off, none⟩) rest.length c') (.slice (some ⟨g8, off8, none⟩) 1 c8) [(o, .slice VA o.val.length vc)]) (by kernel_rfl) (H7.out.adv (Below.refl _ _).drew) (fun hHeld => ?_)
            refine wpAnyH_take (i := 0) (oi := ⟨_, _, _, _, _, _⟩) (v := ?_) rfl (by kernel_rfl) (by kernel_rfl) (by kernel_rfl) (fun _ _ _ h => h) (Or.inl ⟨by rfl, ?_⟩) (by assumption) ?_
            rotate_left 1
            · intro W hSw
              have x0 := hSw.rc.rep.blk.cell 0 _ rfl
              clear hSw
              go_simp
              try with_reducible rfl
            try simp only [Act.put, List.setIfInBounds_toArray, List.set_cons_zero, List.set_cons_succ]
            refine wpAnyH_take (i := 1) (oi := ⟨_, _, _, _, _, _⟩) (v := ?_) rfl (by kernel_rfl) (by kernel_rfl) (by kernel_rfl) (fun _ _ _ h => h) (Or.inl ⟨by rfl, ?_⟩) (by assumption) ?_
            rotate_left 1
            · intro W hSw
              have x0 := hSw.rc.rep.blk.cell 0 _ rfl
              clear hSw
              go_simp
              try with_reducible rfl
            try simp only [Act.put, List.setIfInBounds_toArray, List.set_cons_zero, List.set_cons_succ]
            refine wpAnyH_take (i := 2) (oi := ⟨_, _, _, _, _, _⟩) (v := ?_) rfl (by kernel_rfl) (by kernel_rfl) (by kernel_rfl) (fun _ _ _ h => h) (Or.inl ⟨by rfl, ?_⟩) (by assumption) ?_
            rotate_left 1
            · intro W hSw
              have x0 := hSw.rc.rep.blk.cell 0 _ rfl
              clear hSw
              go_simp
              try with_reducible rfl
            try simp only [Act.put, List.setIfInBounds_toArray, List.set_cons_zero, List.set_cons_succ]
            refine wpAnyH_take (i := 3) (oi := ⟨_, _, _, _, _, _⟩) (v := ?_) rfl (by kernel_rfl) (by kernel_rfl) (by kernel_rfl) (fun _ _ _ h => h) (Or.inl ⟨by rfl, ?_⟩) (by assumption) ?_
            rotate_left 1
            · intro W hSw
              have x0 := hSw.rc.rep.blk.cell 0 _ rfl
              clear hSw
              go_simp
              try with_reducible rfl
            try simp only [Act.put, List.setIfInBounds_toArray, List.set_cons_zero, List.set_cons_succ]
            refine wpAnyH_take (i := 4) (oi := ⟨_, _, _, _, _, _⟩) (v := ?_) rfl (by kernel_rfl) (by kernel_rfl) (by kernel_rfl) (fun _ _ _ h => h) (Or.inl ⟨by rfl, ?_⟩) (by assumption) ?_
            rotate_left 1
            · intro W hSw
              have x0 := hSw.rc.rep.blk.cell 0 _ rfl
              clear hSw
              go_simp
              try with_reducible rfl
            try simp only [Act.put, List.setIfInBounds_toArray, List.set_cons_zero, List.set_cons_succ]
            refine wpAnyH_take (i := 5) (oi := ⟨_, _, _, _, _, _⟩) (v := ?_) rfl (by kernel_rfl) (by kernel_rfl) (by kernel_rfl) (fun _ _ _ h => h) (Or.inl ⟨by rfl, ?_⟩) (by assumption) ?_
            rotate_left 1
            · intro W hSw
              have x0 := hSw.rc.rep.blk.cell 0 _ rfl
              clear hSw
              go_simp
              try with_reducible rfl
            try simp only [Act.put, List.setIfInBounds_toArray, List.set_cons_zero, List.set_cons_succ]
            refine wpAnyH_take (i := 6) (oi := ⟨_, _, _, _, _, _⟩) (v := ?_) rfl (by kernel_rfl) (by kernel_rfl) (by kernel_rfl) (fun _ _ _ h => h) (Or.inl ⟨by rfl, ?_⟩) (by assumption) ?_
            rotate_left 1
            · intro W hSw
              have x0 := hSw.rc.rep.blk.cell 0 _ rfl
              clear hSw
              go_simp
              try with_reducible rfl
            try simp only [Act.put, List.setIfInBounds_toArray, List.set_cons_zero, List.set_cons_succ]
            refine wpAnyH_take (i := 7) (oi := ⟨_, _, _, _, _, _⟩) (v := ?_) rfl (by kernel_rfl) (by kernel_rfl) (by kernel_rfl) (fun _ _ _ h => h) (Or.inl ⟨by rfl, ?_⟩) (by assumption) ?_
            rotate_left 1
            · intro W hSw
              have x0 := hSw.rc.rep.blk.cell 0 _ rfl
              clear hSw
              go_simp
              try with_reducible rfl
            try simp only [Act.put, List.setIfInBounds_toArray, List.set_cons_zero, List.set_cons_succ]
            refine wpAnyH_take (i := 8) (oi := ⟨_, _, _, _, _, _⟩) (v := ?_) rfl (by kernel_rfl) (by kernel_rfl) (by kernel_rfl) (fun _ _ _ h => h) (Or.inl ⟨by rfl, ?_⟩) (by assumption) ?_
            rotate_left 1
            · intro W hSw
              have x0 := hSw.rc.rep.blk.cell 0 _ rfl
              clear hSw
              go_simp
              try with_reducible rfl
            try simp only [Act.put, List.setIfInBounds_toArray, List.set_cons_zero, List.set_cons_succ]
            refine wpAnyH_take (i := 10) (oi := ⟨_, _, _, _, _, _⟩) (v := ?_) rfl (by kernel_rfl) (by kernel_rfl) (by kernel_rfl) (fun _ _ _ h => h) (Or.inl ⟨by rfl, ?_⟩) (by assumption) ?_
            rotate_left 1
            · intro W hSw
              have x0 := hSw.rc.rep.blk.cell 0 _ rfl
              clear hSw
              go_simp
              try with_reducible rfl
            try simp only [Act.put, List.setIfInBounds_toArray, List.set_cons_zero, List.set_cons_succ]
            refine wpAnyH_take (i := 11) (oi := ⟨_, _, _, _, _, _⟩) (v := ?_) rfl (by kernel_rfl) (by kernel_rfl) (by kernel_rfl) (fun _ _ _ h => h) (Or.inl ⟨by rfl, ?_⟩) (by assumption) ?_
            rotate_left 1
            · intro W hSw
              have x0 := hSw.rc.rep.blk.cell 0 _ rfl
              clear hSw
              go_simp
              try with_reducible rfl
            try simp only [Act.put, List.setIfInBounds_toArray, List.set_cons_zero, List.set_cons_succ]
            refine wpAnyH_take (i := 12) (oi := ⟨_, _, _, _, _, _⟩) (v := ?_) rfl (by kernel_rfl) (by kernel_rfl) (by kernel_rfl) (fun _ _ _ h => h) (Or.inl ⟨by rfl, ?_⟩) (by assumption) ?_
            rotate_left 1
            · intro W hSw
              obtain ⟨z0, z1, z2, z3, z4, z5, z6, z7, z8⟩ := hSw.ops.at0
              clear hSw
              go_simp
              try with_reducible rfl
            try simp only [Act.put, List.setIfInBounds_toArray, List.set_cons_zero, List.set_cons_succ]
            refine wpAnyH_take (i := 14) (oi := ⟨_, _, _, _, _, _⟩) (v := ?_) rfl (by kernel_rfl) (by kernel_rfl) (by kernel_rfl) (fun _ _ _ h => h) (Or.inl ⟨by rfl, ?_⟩) (by assumption) ?_
            rotate_left 1
            · intro W hSw
              have x0 := hSw.rc.rep.blk.cell 0 _ rfl
              clear hSw
              go_simp
              try with_reducible rfl
            try simp only [Act.put, List.setIfInBounds_toArray, List.set_cons_zero, List.set_cons_succ]
            refine wpAnyH_take (i := 15) (oi := ⟨_, _, _, _, _, _⟩) (v := ?_) rfl (by kernel_rfl) (by kernel_rfl) (by kernel_rfl) (fun _ _ _ h => h) (Or.inl ⟨by rfl, ?_⟩) (by assumption) ?_
            rotate_left 1
            · intro W hSw
              have x0 := hSw.rc.rep.blk.cell 0 _ rfl
              clear hSw
              go_simp
              try with_reducible rfl
            try simp only [Act.put, List.setIfInBounds_toArray, List.set_cons_zero, List.set_cons_succ]
            refine wpAnyH_take (i := 16) (oi := ⟨_, _, _, _, _, _⟩) (v := ?_) rfl (by kernel_rfl) (by kernel_rfl) (by kernel_rfl) (fun _ _ _ h => h) (Or.inl ⟨by rfl, ?_⟩) (by assumption) ?_
            rotate_left 1
            · intro W hSw
              have x0 := hSw.rc.rep.blk.cell 0 _ rfl
              clear hSw
              go_simp
              try with_reducible rfl
            try simp only [Act.put, List.setIfInBounds_toArray, List.set_cons_zero, List.set_cons_succ]
            refine wpAnyH_take (i := 17) (oi := ⟨_, _, _, _, _, _⟩) (v := ?_) rfl (by kernel_rfl) (by kernel_rfl) (by kernel_rfl) (fun _ _ _ h => h) (Or.inl ⟨by rfl, ?_⟩) (by assumption) ?_
            rotate_left 1
            · intro W hSw
              have x0 := hSw.rc.rep.blk.cell 0 _ rfl
              clear hSw
              go_simp
              try with_reducible rfl
            try simp only [Act.put, List.setIfInBounds_toArray, List.set_cons_zero, List.set_cons_succ]
            refine wpAnyH_ready (rs := [9]) (by kernel_rfl) (by simp) ?_
            refine AllReadyH.cons (o := ⟨_, _, _, _, _, _⟩) rfl (fun F hF => ?_) AllReadyH.nil
            go_simp
            refine (jSum_any _ _ _ ev ov ds es ps _ hHeld.rc.rep).mono ?_
            rintro e w2 ⟨rfl, hb2⟩
            have HI2 := Lib.hid (hHeld.adv hb2)
            clear hb2 hHeld
            go_wp2_with fail
            refine hF.out _ _ HI2.out (fun hHeld => ?_)
            clear hF F
            try simp only [Act.put, List.setIfInBounds_toArray, List.set_cons_zero, List.set_cons_succ]
            refine wpAnyH_ready (rs := [13]) (by kernel_rfl) (by simp) ?_
            refine AllReadyH.cons (o := ⟨_, _, _, _, _, _⟩) rfl (fun F hF => ?_) AllReadyH.nil
            go_simp
            refine (record_any w.heap.size (sumL ds) o (.slice VA o.val.length vc) _ (hHeld.ops.vals (o, .slice VA o.val.length vc) (by simp)) hHeld.kg HTo.out (sumL_lt ds)).mono ?_
            intro e w3 hret
            obtain ⟨xs, v3, rfl, hxs, hv3, hb3⟩ : ∃ xs v3, e = .returned v3 ∧ (recO (sumL ds) o = some xs ∨ (recO (sumL ds) o = none ∧ xs = [])) ∧ Bts w3 w.heap.size 5 v3 xs ∧ Below _ _ w3 := by
              cases hr : recO (sumL ds) o with
              | none =>
                rw [hr] at hret
                exact ⟨[], _, hret.1, .inr ⟨rfl, rfl⟩, Bts.nil _ _ _, hret.2⟩
              | some r =>
                rw [hr] at hret
                obtain ⟨v3, e3, ho3, hb3⟩ := hret
                exact ⟨r, v3, e3, .inl rfl, Bts.of_own ho3 _, hb3⟩
            have HI3 := Lib.hid (hHeld.adv hb3)
            have HV3 := Lib.hid hv3
            have HXs := Lib.hid hxs
            clear hb3 hHeld hret hv3 hxs
            go_wp2_with fail
            refine hF.out _ _ HI3.out (fun hHeld => ?_)
            clear hF F
            try simp only [Act.put, List.setIfInBounds_toArray, List.set_cons_zero, List.set_cons_succ]
            obtain ⟨q, hq⟩ : ∃ q, decide (xs = rest.take (N + 6)) = q := ⟨_, rfl⟩
            have HQ := Lib.hid hq
            have HEq := Lib.hid (HEQ.out _ xs v3 HV3.out (HB6.out _ hHeld.rest_))
            rw [hq] at HEq
            clear hq
            refine wpAnyH_ready (rs := [18]) (by kernel_rfl) (by simp) ?_
            refine AllReadyH.cons (o := ⟨_, _, _, _, _, _⟩) rfl (fun F hF => ?_) AllReadyH.nil
            go_simp
            refine HEq.out.mono ?_
            rintro e w4 ⟨rfl, rfl⟩
            have HI4 := Lib.hid hHeld
            clear hHeld HEq
            go_wp2_with fail
            refine hF.out _ _ HI4.out (fun hHeld => ?_)
            clear hF F
            try simp only [Act.put, List.setIfInBounds_toArray, List.set_cons_zero, List.set_cons_succ]
            cases q with
            | false =>
              refine wpAnyH_take (i := 19) (oi := ⟨_, _, _, _, _, _⟩) (v := ?_) rfl (by kernel_rfl) (by kernel_rfl) (by kernel_rfl) (fun _ _ _ h => h) (Or.inl ⟨by rfl, ?_⟩) (by assumption) ?_
              rotate_left 1
              · intro W hSw
                have x0 := hSw.rc.rep.blk.cell 0 _ rfl
                clear hSw
                go_simp
                try with_reducible rfl
              try simp only [Act.put, List.setIfInBounds_toArray, List.set_cons_zero, List.set_cons_succ]
              refine wpAnyH_take (i := 20) (oi := ⟨_, _, _, _, _, _⟩) (v := ?_) rfl (by kernel_rfl) (by kernel_rfl) (by kernel_rfl) (fun _ _ _ h => h) (Or.inl ⟨by rfl, ?_⟩) (by assumption) ?_
              rotate_left 1
              · intro W hSw
                have x0 := hSw.rc.rep.blk.cell 0 _ rfl
                clear hSw
                go_simp
                try with_reducible rfl
              try simp only [Act.put, List.setIfInBounds_toArray, List.set_cons_zero, List.set_cons_succ]
              refine wpAnyH_done (by kernel_rfl) ?_ _
              refine NoPanic.normal ?_
              have HI9 := Lib.hid hHeld.rc
              clear hHeld
              have hne : xs ≠ rest.take (N + 6) := by simpa using HQ.out
              have HS := Lib.hid (okRec_bad (s := sumL ds) HHd.out HPP.out HO.out (fun r hr => by
                rcases HXs.out with h | ⟨h, _⟩
                · rw [h] at hr; injection hr with hr; rw [← hr]; exact hne
                · rw [h] at hr; cases hr))
              clear hne
              have x0 := HI9.out.rep.blk.cell 0 _ rfl
              go_wp2_with fail
              go_quiet (fail)
              go_wp2_with fail
              go_ret2
              exact (HI9.out.adv (below_drewN _ _)).done (HI9.out.at_.stop HS.out)
            | true =>
              refine wpAnyH_take (i := 19) (oi := ⟨_, _, _, _, _, _⟩) (v := ?_) rfl (by kernel_rfl) (by kernel_rfl) (by kernel_rfl) (fun _ _ _ h => h) (Or.inl ⟨by rfl, ?_⟩) (by assumption) ?_
              rotate_left 1
              · intro W hSw
                have x0 := hSw.rc.rep.blk.cell 0 _ rfl
                clear hSw
                go_simp
                try with_reducible rfl
              try simp only [Act.put, List.setIfInBounds_toArray, List.set_cons_zero, List.set_cons_succ]
              refine wpAnyH_take (i := 20) (oi := ⟨_, _, _, _, _, _⟩) (v := ?_) rfl (by kernel_rfl) (by kernel_rfl) (by kernel_rfl) (fun _ _ _ h => h) (Or.inl ⟨by rfl, ?_⟩) (by assumption) ?_
              rotate_left 1
              · intro W hSw
                have x0 := hSw.rc.rep.blk.cell 0 _ rfl
                clear hSw
                go_simp
                try with_reducible rfl
              try simp only [Act.put, List.setIfInBounds_toArray, List.set_cons_zero, List.set_cons_succ]
              refine wpAnyH_done (by kernel_rfl) ?_ _
              refine NoPanic.normal ?_
              have H9 := Lib.hid hHeld
              clear hHeld
              have he : xs = rest.take (N + 6) := by simpa using HQ.out
              have hrec : recO (sumL ds) o = some xs := by
                rcases HXs.out with h | ⟨_, h⟩
                · exact h
                · exfalso
                  have hl := congrArg List.length he
                  rw [h, List.length_take, List.length_nil] at hl
                  have := HL6.out
                  omega
              have HRec := Lib.hid hrec
              have HG := Lib.hid (okRec_good (s := sumL ds) HHd.out HPP.out HO.out (by have := HL6.out; omega) hrec he)
              clear hrec he
              obtain ⟨z0, z1, z2, z3, z4, z5, z6, z7, z8⟩ := H9.out.ops.at0
              have HAp := Lib.hid (append_any w.heap.size w.heap.size _ ev ov ds es ps o (.slice VA o.val.length vc) _ H9.out.rc.rep (H9.out.ops.vals (o, .slice VA o.val.length vc) (by simp)) H9.out.kg HTo.out H9.out.rc.below.size)
              unfold opv opc at HAp
              go_wp2_with fail
              refine HAp.out.mono ?_
              intro e w5 hap
              unfold ApPost at hap
              rw [HRec.out] at hap
              dsimp only at hap
              by_cases hf : 4096 ≤ es.length ∨ 1048576 < ds.length + xs.length
              · rw [if_pos hf] at hap
                obtain ⟨rfl, hb5⟩ := hap
                have HI5 := Lib.hid (H9.out.rc.adv hb5)
                have HDn := Lib.hid (H9.out.rc.at_.full HG.out hf)
                clear hb5 z0 z1 z2 z3 z4 z5 z6 z7 z8
                have x0 := HI5.out.rep.blk.cell 0 _ rfl
                go_wp2_with fail
                go_quiet (fail)
                go_wp2_with fail
                go_ret2
                exact (HI5.out.adv (below_drewN _ _)).done HDn.out
              · rw [if_neg hf] at hap
                obtain ⟨rfl, d2, e2, o2, V', hr5, ho5, -, hV5⟩ := hap
                have HSt5 := Lib.hid (RcI.step H9.out.rc HG.out hf hr5 ho5 hV5)
                clear hr5 ho5 hV5 z0 z1 z2 z3 z4 z5 z6 z7 z8
                go_wp2_with fail
                go_roundw
                case rel => exact ⟨_, _, _, _, _, _, _, HSt5.out⟩
                case measure =>
                  rw [dLen_rep HSt5.out, dLen_rep HI.out]
                  have h7 := recO_len HRec.out
                  have hc := congrArg List.length HSt5.out.at_.cut
                  simp only [List.length_append] at hc ⊢
                  omega
          · have hs : okRec (sumL ds) rest = none := okRec_not1 HHd.out HPP.out (by omega)
            have h1B : ((qs.length : Int) != 1) = true := by rw [bne_iff_ne]; omega
            have HS := Lib.hid hs
            clear hs hmq hql hql2
            go_upto_region 7 with fail
            refine wp_region_noPanic ?_
            refine wp_region_held_drew (S := fun W => R7 w W bs (.slice DA ds.length dc) ev ov ds es ps rest (.slice (some ⟨g, off, none⟩) rest.length c') (.slice A8 qs.length c8) qs) (by kernel_rfl) (H7.out.adv (Below.refl _ _).drew) (fun hHeld => ?_)
            refine wpAnyH_take (i := 0) (oi := ⟨_, _, _, _, _, _⟩) (v := ?_) rfl (by kernel_rfl) (by kernel_rfl) (by kernel_rfl) (fun _ _ _ h => h) (Or.inl ⟨by rfl, ?_⟩) (by assumption) ?_
            rotate_left 1
            · intro W hSw
              have x0 := hSw.rc.rep.blk.cell 0 _ rfl
              clear hSw
              go_simp
              try with_reducible rfl
            try simp only [Act.put, List.setIfInBounds_toArray, List.set_cons_zero, List.set_cons_succ]
            refine wpAnyH_take (i := 1) (oi := ⟨_, _, _, _, _, _⟩) (v := ?_) rfl (by kernel_rfl) (by kernel_rfl) (by kernel_rfl) (fun _ _ _ h => h) (Or.inl ⟨by rfl, ?_⟩) (by assumption) ?_
            rotate_left 1
            · intro W hSw
              have x0 := hSw.rc.rep.blk.cell 0 _ rfl
              clear hSw
              go_simp
              try with_reducible rfl
            try simp only [Act.put, List.setIfInBounds_toArray, List.set_cons_zero, List.set_cons_succ]
            refine wpAnyH_take (i := 2) (oi := ⟨_, _, _, _, _, _⟩) (v := ?_) rfl (by kernel_rfl) (by kernel_rfl) (by kernel_rfl) (fun _ _ _ h => h) (Or.inl ⟨by rfl, ?_⟩) (by assumption) ?_
            rotate_left 1
            · intro W hSw
              have x0 := hSw.rc.rep.blk.cell 0 _ rfl
              clear hSw
              go_simp
              try with_reducible rfl
            try simp only [Act.put, List.setIfInBounds_toArray, List.set_cons_zero, List.set_cons_succ]
            refine wpAnyH_take (i := 3) (oi := ⟨_, _, _, _, _, _⟩) (v := ?_) rfl (by kernel_rfl) (by kernel_rfl) (by kernel_rfl) (fun _ _ _ h => h) (Or.inl ⟨by rfl, ?_⟩) (by assumption) ?_
            rotate_left 1
            · intro W hSw
              have x0 := hSw.rc.rep.blk.cell 0 _ rfl
              clear hSw
              go_simp
              try with_reducible rfl
            try simp only [Act.put, List.setIfInBounds_toArray, List.set_cons_zero, List.set_cons_succ]
            refine wpAnyH_take (i := 4) (oi := ⟨_, _, _, _, _, _⟩) (v := ?_) rfl (by kernel_rfl) (by kernel_rfl) (by kernel_rfl) (fun _ _ _ h => h) (Or.inl ⟨by rfl, ?_⟩) (by assumption) ?_
            rotate_left 1
            · intro W hSw
              have x0 := hSw.rc.rep.blk.cell 0 _ rfl
              clear hSw
              go_simp
              try with_reducible rfl
            try simp only [Act.put, List.setIfInBounds_toArray, List.set_cons_zero, List.set_cons_succ]
            refine wpAnyH_take (i := 5) (oi := ⟨_, _, _, _, _, _⟩) (v := ?_) rfl (by kernel_rfl) (by kernel_rfl) (by kernel_rfl) (fun _ _ _ h => h) (Or.inl ⟨by rfl, ?_⟩) (by assumption) ?_
            rotate_left 1
            · intro W hSw
              have x0 := hSw.rc.rep.blk.cell 0 _ rfl
              clear hSw
              go_simp
              try with_reducible rfl
            try simp only [Act.put, List.setIfInBounds_toArray, List.set_cons_zero, List.set_cons_succ]
            refine wpAnyH_take (i := 6) (oi := ⟨_, _, _, _, _, _⟩) (v := ?_) rfl (by kernel_rfl) (by kernel_rfl) (by kernel_rfl) (fun _ _ _ h => h) (Or.inl ⟨by rfl, ?_⟩) (by assumption) ?_
            rotate_left 1
            · intro W hSw
              have x0 := hSw.rc.rep.blk.cell 0 _ rfl
              clear hSw
              go_simp
              try with_reducible rfl
            try simp only [Act.put, List.setIfInBounds_toArray, List.set_cons_zero, List.set_cons_succ]
            refine wpAnyH_take (i := 7) (oi := ⟨_, _, _, _, _, _⟩) (v := ?_) rfl (by kernel_rfl) (by kernel_rfl) (by kernel_rfl) (fun _ _ _ h => h) (Or.inl ⟨by rfl, ?_⟩) (by assumption) ?_
            rotate_left 1
            · intro W hSw
              have x0 := hSw.rc.rep.blk.cell 0 _ rfl
              clear hSw
              go_simp
              try with_reducible rfl
            try simp only [Act.put, List.setIfInBounds_toArray, List.set_cons_zero, List.set_cons_succ]
            refine wpAnyH_take (i := 8) (oi := ⟨_, _, _, _, _, _⟩) rfl (by kernel_rfl) (by kernel_rfl) (by kernel_rfl) (fun _ _ _ h => h) (Or.inr ⟨by rfl, rfl⟩) (by assumption) ?_
            try simp only [Act.put, List.setIfInBounds_toArray, List.set_cons_zero, List.set_cons_succ]
            refine wpAnyH_take (i := 9) (oi := ⟨_, _, _, _, _, _⟩) rfl (by kernel_rfl) (by kernel_rfl) (by kernel_rfl) (fun _ _ _ h => h) (Or.inr ⟨by rfl, rfl⟩) (by assumption) ?_
            try simp only [Act.put, List.setIfInBounds_toArray, List.set_cons_zero, List.set_cons_succ]
            refine wpAnyH_take (i := 10) (oi := ⟨_, _, _, _, _, _⟩) rfl (by kernel_rfl) (by kernel_rfl) (by kernel_rfl) (fun _ _ _ h => h) (Or.inr ⟨by rfl, rfl⟩) (by assumption) ?_
            try simp only [Act.put, List.setIfInBounds_toArray, List.set_cons_zero, List.set_cons_succ]
            refine wpAnyH_take (i := 11) (oi := ⟨_, _, _, _, _, _⟩) rfl (by kernel_rfl) (by kernel_rfl) (by kernel_rfl) (fun _ _ _ h => h) (Or.inr ⟨by rfl, rfl⟩) (by assumption) ?_
            try simp only [Act.put, List.setIfInBounds_toArray, List.set_cons_zero, List.set_cons_succ]
            refine wpAnyH_take (i := 12) (oi := ⟨_, _, _, _, _, _⟩) rfl (by kernel_rfl) (by kernel_rfl) (by kernel_rfl) (fun _ _ _ h => h) (Or.inr ⟨by rfl, rfl⟩) (by assumption) ?_
            try simp only [Act.put, List.setIfInBounds_toArray, List.set_cons_zero, List.set_cons_succ]
            refine wpAnyH_take (i := 13) (oi := ⟨_, _, _, _, _, _⟩) rfl (by kernel_rfl) (by kernel_rfl) (by kernel_rfl) (fun _ _ _ h => h) (Or.inr ⟨by rfl, rfl⟩) (by assumption) ?_
            try simp only [Act.put, List.setIfInBounds_toArray, List.set_cons_zero, List.set_cons_succ]
            refine wpAnyH_take (i := 14) (oi := ⟨_, _, _, _, _, _⟩) rfl (by kernel_rfl) (by kernel_rfl) (by kernel_rfl) (fun _ _ _ h => h) (Or.inr ⟨by rfl, rfl⟩) (by assumption) ?_
            try simp only [Act.put, List.setIfInBounds_toArray, List.set_cons_zero, List.set_cons_succ]
            refine wpAnyH_take (i := 15) (oi := ⟨_, _, _, _, _, _⟩) rfl (by kernel_rfl) (by kernel_rfl) (by kernel_rfl) (fun _ _ _ h => h) (Or.inr ⟨by rfl, rfl⟩) (by assumption) ?_
            try simp only [Act.put, List.setIfInBounds_toArray, List.set_cons_zero, List.set_cons_succ]
            refine wpAnyH_take (i := 16) (oi := ⟨_, _, _, _, _, _⟩) rfl (by kernel_rfl) (by kernel_rfl) (by kernel_rfl) (fun _ _ _ h => h) (Or.inr ⟨by rfl, rfl⟩) (by assumption) ?_
            try simp only [Act.put, List.setIfInBounds_toArray, List.set_cons_zero, List.set_cons_succ]
            refine wpAnyH_take (i := 17) (oi := ⟨_, _, _, _, _, _⟩) rfl (by kernel_rfl) (by kernel_rfl) (by kernel_rfl) (fun _ _ _ h => h) (Or.inr ⟨by rfl, rfl⟩) (by assumption) ?_
            try simp only [Act.put, List.setIfInBounds_toArray, List.set_cons_zero, List.set_cons_succ]
            refine wpAnyH_take (i := 18) (oi := ⟨_, _, _, _, _, _⟩) rfl (by kernel_rfl) (by kernel_rfl) (by kernel_rfl) (fun _ _ _ h => h) (Or.inr ⟨by rfl, rfl⟩) (by assumption) ?_
            try simp only [Act.put, List.setIfInBounds_toArray, List.set_cons_zero, List.set_cons_succ]
            refine wpAnyH_take (i := 19) (oi := ⟨_, _, _, _, _, _⟩) rfl (by kernel_rfl) (by kernel_rfl) (by kernel_rfl) (fun _ _ _ h => h) (Or.inr ⟨by rfl, rfl⟩) (by assumption) ?_
            try simp only [Act.put, List.setIfInBounds_toArray, List.set_cons_zero, List.set_cons_succ]
            refine wpAnyH_take (i := 20) (oi := ⟨_, _, _, _, _, _⟩) (v := ?_) rfl (by kernel_rfl) (by kernel_rfl) (by kernel_rfl) (fun _ _ _ h => h) (Or.inl ⟨by rfl, ?_⟩) (by assumption) ?_
            rotate_left 1
            · intro W hSw
              have x0 := hSw.rc.rep.blk.cell 0 _ rfl
              clear hSw
              go_simp
              try with_reducible rfl
            try simp only [Act.put, List.setIfInBounds_toArray, List.set_cons_zero, List.set_cons_succ]
            refine wpAnyH_done (by kernel_rfl) ?_ _
            refine NoPanic.normal ?_
            have HI9 := Lib.hid hHeld.rc
            clear hHeld
            obtain ⟨w9, hw9⟩ : ∃ w9, w1.drew = w9 := ⟨_, rfl⟩
            rw [hw9] at HI9 ⊢
            clear hw9
            have x0 := HI9.out.rep.blk.cell 0 _ rfl
            go_wp2_with fail
            go_quiet (fail)
            go_wp2_with fail
            go_ret2
            exact (HI9.out.adv (below_drewN _ _)).done (HI9.out.at_.stop HS.out)

end Go.Proofs.YtffigmciclopdaaDoor
