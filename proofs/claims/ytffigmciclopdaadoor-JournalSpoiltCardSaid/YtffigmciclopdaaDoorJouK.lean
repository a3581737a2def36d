/- Layer 45: Copy. -/
import Derived.Test.YtffigmciclopdaaDoorJouJ
namespace Go.Proofs.YtffigmciclopdaaDoor
open Go Go.RowKit

/-- A new journal with the same records. -/
def CopyRet (B : Nat) (ds : List UInt8) (es : List Nat) (ps : List (OpV × Value)) (w : World) (e : Ending) (w' : World) : Prop :=
  ∃ b dv ev ov qs, e = .returned (.pointer (some ⟨b, 0, none⟩)) ∧ qs.map Prod.fst = ps.map Prod.fst ∧ JRep w' w.heap.size b dv ev ov ds es qs ∧ (∀ k, jFp b dv ev ov k → w.heap.size ≤ k) ∧ (∀ p ∈ qs, ∀ k, p.2.ownBlock = some k → w.heap.size ≤ k) ∧ Below w.heap.size w w'

theorem copy_done {w W : World} {B : Nat} {b : Nat} {dv ev ov d2 e2 o2 : Value} {ds : List UInt8} {es : List Nat} {ps qs : List (OpV × Value)} (h : JRep w B b dv ev ov ds es ps) (hW : Below w.heap.size w W)
    (hd : W.ownsRow w.heap.size 5 1 d2 ds.length (bcells ds)) (he : W.ownsRow w.heap.size 3 1 e2 es.length (ncs es)) {W2 : World} (hW2 : Below W.heap.size W W2)
    (hq : OpsNew W2 W.heap.size o2 qs) (hm : qs.map Prod.fst = ps.map Prod.fst) :
    CopyRet B ds es ps w (.returned (.pointer (some ⟨W2.heap.size, 0, none⟩))) (W2.alloc (.cells #[d2, e2, o2] 35)) := by
  have ha : Below W2.heap.size W2 (W2.alloc (.cells #[d2, e2, o2] 35)) := (Below.refl _ _).alloc (Nat.le_refl _) _
  have hq3 := (hq.base hW.size).below ha
  have hd3 := own_later (own_later hd hW2) ha
  have he3 := own_later (own_later he hW2) ha
  have hl : qs.length = ps.length := by have := congrArg List.length hm; simpa using this
  have hsz := hW.size
  have hsz2 := hW2.size
  refine ⟨_, d2, e2, o2, qs, rfl, hm, ⟨⟨Blk.new _ _ _, hd3, he3, hq3.row, fun p hp => ⟨Bts.of_own (hq3.vals p hp) _, fun g hg => ⟨?_, fun e => ?_⟩⟩, hq.wf, by omega⟩, h.dlen, h.dmax, by rw [h.elen, hl], h.emax⟩, fun k hk => ?_, fun p hp k hk => (row_heap (hq3.vals p hp) hk).1, ?_⟩
  · obtain ⟨_, cur, hc⟩ := row_heap (hq3.vals p hp) hg
    exact lt_of_heap hc
  · obtain ⟨_, cur, hc⟩ := row_heap hd e
    have h1 := lt_of_heap hc
    have h2 := (row_heap (hq.vals p hp) hg).1
    omega
  · rcases hk with rfl | hk | hk | hk
    · omega
    · exact (row_heap hd hk).1
    · exact (row_heap he hk).1
    · exact (row_heap hq3.row hk).1
  · exact (hW.trans (hW2.mono hsz)).trans (ha.mono (by omega))


set_option maxHeartbeats 2000000 in
theorem copy_any (B b : Nat) (dv ev ov : Value) (ds : List UInt8) (es : List Nat) (ps : List (OpV × Value)) (w : World) (h : JRep w B b dv ev ov ds es ps) (hB : B ≤ w.heap.size) (hs : ∀ p ∈ ps, p.1.val.length ≤ 1000000) :
    Calls Tryd.prog 20 #[.pointer (some ⟨b, 0, none⟩)] w (CopyRet B ds es ps w) := by
  obtain ⟨EA, ec, rfl, hec, hem⟩ := own_form h.ends
  have HR := Lib.hid h
  have HBs := Lib.hid hB
  have HSm := Lib.hid hs
  clear h hB hs
  go_enter Tryd.func20, Tryd.ntmps20
  go_upto_region 3 with fail
  refine wp_region_noPanic ?_
  refine wp_region_held_drew (S := fun W => JB w W B b dv (.slice EA es.length ec) ov ds es ps) (by kernel_rfl) ⟨HR.out.drew, (Below.refl _ _).drew⟩ (fun hHeld => ?_)
  refine wpAnyH_take (i := 0) (oi := ⟨_, _, _, _, _, _⟩) (v := ?_) rfl (by kernel_rfl) (by kernel_rfl) (by kernel_rfl) (fun _ _ _ h => h) (Or.inl ⟨by rfl, ?_⟩) (by assumption) ?_
  rotate_left 1
  · intro W hSw
    have x1 := hSw.rep.blk.cell 1 _ rfl
    clear hSw
    go_simp
    try with_reducible rfl
  try simp only [Act.put, List.setIfInBounds_toArray, List.set_cons_zero, List.set_cons_succ]
  refine wpAnyH_take (i := 2) (oi := ⟨_, _, _, _, _, _⟩) (v := ?_) rfl (by kernel_rfl) (by kernel_rfl) (by kernel_rfl) (fun _ _ _ h => h) (Or.inl ⟨by rfl, ?_⟩) (by assumption) ?_
  rotate_left 1
  · intro W hSw
    have x1 := hSw.rep.blk.cell 1 _ rfl
    clear hSw
    go_simp
    try with_reducible rfl
  try simp only [Act.put, List.setIfInBounds_toArray, List.set_cons_zero, List.set_cons_succ]
  refine wpAnyH_take (i := 3) (oi := ⟨_, _, _, _, _, _⟩) (v := ?_) rfl (by kernel_rfl) (by kernel_rfl) (by kernel_rfl) (fun _ _ _ h => h) (Or.inl ⟨by rfl, ?_⟩) (by assumption) ?_
  rotate_left 1
  · intro W hSw
    have x1 := hSw.rep.blk.cell 1 _ rfl
    clear hSw
    go_simp
    try with_reducible rfl
  try simp only [Act.put, List.setIfInBounds_toArray, List.set_cons_zero, List.set_cons_succ]
  refine wpAnyH_take (i := 4) (oi := ⟨_, _, _, _, _, _⟩) (v := ?_) rfl (by kernel_rfl) (by kernel_rfl) (by kernel_rfl) (fun _ _ _ h => h) (Or.inl ⟨by rfl, ?_⟩) (by assumption) ?_
  rotate_left 1
  · intro W hSw
    have x1 := hSw.rep.blk.cell 1 _ rfl
    clear hSw
    go_simp
    try with_reducible rfl
  try simp only [Act.put, List.setIfInBounds_toArray, List.set_cons_zero, List.set_cons_succ]
  refine wpAnyH_take (i := 5) (oi := ⟨_, _, _, _, _, _⟩) (v := ?_) rfl (by kernel_rfl) (by kernel_rfl) (by kernel_rfl) (fun _ _ _ h => h) (Or.inl ⟨by rfl, ?_⟩) (by assumption) ?_
  rotate_left 1
  · intro W hSw
    have x1 := hSw.rep.blk.cell 1 _ rfl
    clear hSw
    go_simp
    try with_reducible rfl
  try simp only [Act.put, List.setIfInBounds_toArray, List.set_cons_zero, List.set_cons_succ]
  refine wpAnyH_take (i := 7) (oi := ⟨_, _, _, _, _, _⟩) (v := ?_) rfl (by kernel_rfl) (by kernel_rfl) (by kernel_rfl) (fun _ _ _ h => h) (Or.inl ⟨by rfl, ?_⟩) (by assumption) ?_
  rotate_left 1
  · intro W hSw
    have x1 := hSw.rep.blk.cell 1 _ rfl
    clear hSw
    go_simp
    try with_reducible rfl
  try simp only [Act.put, List.setIfInBounds_toArray, List.set_cons_zero, List.set_cons_succ]
  refine wpAnyH_ready (rs := [1]) (by kernel_rfl) (by simp) ?_
  refine AllReadyH.cons (o := ⟨_, _, _, _, _, _⟩) rfl (fun F hF => ?_) AllReadyH.nil
  go_simp
  refine (jBytes_any B b dv _ ov ds es ps _ hHeld.rep).mono ?_
  rintro e w1 ⟨d2, rfl, hd2, hb1⟩
  obtain ⟨A1, c1, rfl, _, _⟩ := own_form hd2
  have HD := Lib.hid hd2
  have HI1 := Lib.hid (hHeld.adv hb1)
  clear hd2 hb1 hHeld
  go_wp2_with fail
  refine hF.out _ _ HI1.out (fun hHeld => ?_)
  clear hF F
  try simp only [Act.put, List.setIfInBounds_toArray, List.set_cons_zero, List.set_cons_succ]
  refine wpAnyH_ready (rs := [6]) (by kernel_rfl) (by simp) ?_
  refine AllReadyH.cons (o := ⟨_, _, _, _, _, _⟩) rfl (fun F hF => ?_) AllReadyH.nil
  go_simp
  refine (intsClone_any B _ es _ hHeld.rep.ends (by have := hHeld.rep.emax; omega)).mono ?_
  rintro e w2 ⟨e2, rfl, he2, hb2⟩
  obtain ⟨A2, c2, rfl, _, _⟩ := own_form he2
  have HD2 := Lib.hid (own_later HD.out hb2)
  have HE := Lib.hid he2
  have HSz := Lib.hid hHeld.below.size
  have HI2 := Lib.hid (hHeld.adv hb2)
  clear he2 hb2 hHeld HD
  go_wp2_with fail
  refine hF.out _ _ HI2.out (fun hHeld => ?_)
  clear hF F
  try simp only [Act.put, List.setIfInBounds_toArray, List.set_cons_zero, List.set_cons_succ]
  refine wpAnyH_ready (rs := [8]) (by kernel_rfl) (by simp) ?_
  refine AllReadyH.cons (o := ⟨_, _, _, _, _, _⟩) rfl (fun F hF => ?_) AllReadyH.nil
  go_simp
  refine (jOps_any B b dv _ ov ds es ps _ hHeld.rep (Nat.le_trans HBs.out hHeld.below.size) HSm.out).mono ?_
  rintro e w3 ⟨o2, qs, rfl, hm, hq, hb3⟩
  obtain ⟨A3, c3, rfl, _, _⟩ := own_form hq.row
  have HDone := Lib.hid (copy_done (B := B) HR.out HI2.out.below HD2.out (ownsRow_base HE.out HSz.out) hb3 hq hm)
  have HI3 := Lib.hid (hHeld.adv hb3)
  clear hb3 hq hm hHeld HD2 HE HSz
  go_wp2_with fail
  refine hF.out _ _ HI3.out (fun hHeld => ?_)
  clear hF F
  try simp only [Act.put, List.setIfInBounds_toArray, List.set_cons_zero, List.set_cons_succ]
  refine wpAnyH_take (i := 9) (oi := ⟨_, _, _, _, _, _⟩) (v := ?_) rfl (by kernel_rfl) (by kernel_rfl) (by kernel_rfl) (fun _ _ _ h => h) (Or.inl ⟨by rfl, ?_⟩) (by assumption) ?_
  rotate_left 1
  · intro W hSw
    have x1 := hSw.rep.blk.cell 1 _ rfl
    clear hSw
    go_simp
    try with_reducible rfl
  try simp only [Act.put, List.setIfInBounds_toArray, List.set_cons_zero, List.set_cons_succ]
  refine wpAnyH_ready (rs := [10]) (by kernel_rfl) (by simp) ?_
  refine AllReadyH.cons (o := ⟨_, _, _, _, _, _⟩) rfl (fun F hF => ?_) AllReadyH.nil
  go_simp
  refine hF.out _ _ (hHeld.adv ((Below.refl _ _).alloc (Nat.le_refl _) _)) (fun hHeld => ?_)
  clear hF F
  try simp only [Act.put, List.setIfInBounds_toArray, List.set_cons_zero, List.set_cons_succ]
  refine wpAnyH_take (i := 11) (oi := ⟨_, _, _, _, _, _⟩) (v := ?_) rfl (by kernel_rfl) (by kernel_rfl) (by kernel_rfl) (fun _ _ _ h => h) (Or.inl ⟨by rfl, ?_⟩) (by assumption) ?_
  rotate_left 1
  · intro W hSw
    have x1 := hSw.rep.blk.cell 1 _ rfl
    clear hSw
    go_simp
    try with_reducible rfl
  try simp only [Act.put, List.setIfInBounds_toArray, List.set_cons_zero, List.set_cons_succ]
  refine wpAnyH_done (by kernel_rfl) ?_ _
  refine NoPanic.normal ?_
  go_wp2_with fail
  go_ret
  exact HDone.out

end Go.Proofs.YtffigmciclopdaaDoor
