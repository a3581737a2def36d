/- Layer 45: Record, Copy. -/
import Derived.Test.YtffigmciclopdaaDoorJouI
namespace Go.Proofs.YtffigmciclopdaaDoor
open Go Go.RowKit

/-- Where the record with an index begins. -/
def fromE (es : List Nat) (i : Nat) : Nat := if i = 0 then 0 else es.getD (i - 1) 0

/-- A journal, and what lies below it is the call's world. -/
structure JB (w W : World) (B b : Nat) (dv ev ov : Value) (ds : List UInt8) (es : List Nat) (ps : List (OpV × Value)) : Prop where
  rep : JRep W B b dv ev ov ds es ps
  below : Below w.heap.size w W
theorem JB.adv {w W W' : World} {B b : Nat} {dv ev ov : Value} {ds : List UInt8} {es : List Nat} {ps : List (OpV × Value)} (h : JB w W B b dv ev ov ds es ps) (hb : Below W.heap.size W W') : JB w W' B b dv ev ov ds es ps :=
  ⟨h.rep.below hb, h.below.trans (hb.mono h.below.size)⟩
theorem JRep.endAt {w : World} {B b g n c : Nat} {dv ov : Value} {ds : List UInt8} {es : List Nat} {ps : List (OpV × Value)} (h : JRep w B b dv (.slice (some ⟨g, 0, none⟩) n c) ov ds es ps) {i x : Nat} (hi : es[i]? = some x) : w.cell? ⟨g, i, none⟩ = some (.int .i64 (x : Int)) := by
  have := h.ends.cells (g := g) rfl i (.int .i64 (x : Int)) (by simp [ncs, hi])
  rw [add_plain, Nat.zero_add] at this
  exact this

set_option maxHeartbeats 2000000 in
theorem record_none (B b : Nat) (dv ev ov : Value) (ds : List UInt8) (es : List Nat) (ps : List (OpV × Value)) (w : World) (h : JRep w B b dv ev ov ds es ps) (n : Int) (hn : n < 0 ∨ (es.length : Int) ≤ n) :
    Calls Tryd.prog 23 #[.pointer (some ⟨b, 0, none⟩), .int .i64 n] w fun e w' => e = .returned (.tuple #[.slice none 0 0, .int .i64 3]) ∧ w = w' := by
  obtain ⟨EA, ec, rfl, _, _⟩ := own_form h.ends
  have x1 : w.cell? ⟨b, 1, none⟩ = some (.slice EA es.length ec) := h.blk.cell 1 _ rfl
  clear h
  by_cases h0 : n < 0
  · clear hn
    go_enter Tryd.func23, Tryd.ntmps23
    go_wp2_with fail
    go_ret2
    exact ⟨rfl, rfl⟩
  · have hl : (es.length : Int) ≤ n := by omega
    clear hn
    go_enter Tryd.func23, Tryd.ntmps23
    go_wp2_with fail
    go_ret2
    exact ⟨rfl, rfl⟩

/-- A part of the bytes is handed back. -/
def RecordRet (bs : List UInt8) (w : World) (e : Ending) (w' : World) : Prop :=
  ∃ v, e = .returned (.tuple #[v, .int .i64 0]) ∧ w'.ownsRow w.heap.size 5 1 v bs.length (bcells bs) ∧ Below w.heap.size w w'



set_option maxHeartbeats 2000000 in
theorem record_ok (B b : Nat) (dv ev ov : Value) (ds : List UInt8) (es : List Nat) (ps : List (OpV × Value)) (w : World) (h : JRep w B b dv ev ov ds es ps) (i T : Nat) (hi : es[i]? = some T) (hF : fromE es i ≤ T) (hT : T ≤ ds.length) :
    Calls Tryd.prog 23 #[.pointer (some ⟨b, 0, none⟩), .int .i64 (i : Int)] w (RecordRet ((ds.take T).drop (fromE es i)) w) := by
  obtain ⟨DA, dc, rfl, hdc, hdm⟩ := own_form h.data
  have hil := (List.getElem?_eq_some_iff.1 hi).1
  have hf : ∃ g ec, ev = .slice (some ⟨g, 0, none⟩) es.length ec := by
    rcases h.ends.2 with ⟨_, h0⟩ | ⟨g, cap, cur, e, _⟩
    · omega
    · exact ⟨g, cap, e⟩
  obtain ⟨g, ec, rfl⟩ := hf
  have hem := h.emax
  have hdx := h.dmax
  have HR := Lib.hid h
  have HX := Lib.hid hi
  obtain ⟨Fr, hFr⟩ : ∃ Fr, fromE es i = Fr := ⟨_, rfl⟩
  rw [hFr] at hF ⊢
  have hcut : ∀ W, JRep W B b (.slice DA ds.length dc) (.slice (some ⟨g, 0, none⟩) es.length ec) ov ds es ps → Bts W B 5 (sliced DA Fr T dc 1) ((ds.take T).drop Fr) := fun W hW => (Bts.of_own hW.data B).cut_ _ _ hF hT
  have hcl : ((ds.take T).drop Fr).length ≤ 1000000000 := by rw [List.length_drop, List.length_take]; omega
  have HCut := Lib.hid hcut
  have HCl := Lib.hid hcl
  have x1 : w.cell? ⟨b, 1, none⟩ = some (.slice (some ⟨g, 0, none⟩) es.length ec) := h.blk.cell 1 _ rfl
  have hiI : (i : Int) < (es.length : Int) := by omega
  have heI : (es.length : Int) ≤ 4096 := by omega
  have hTI : (T : Int) ≤ (dc : Int) := by omega
  by_cases h0 : i = 0
  · subst h0
    obtain rfl : 0 = Fr := hFr
    have hne : ¬ es = [] := fun e => by rw [e] at hil; simp at hil
    have e0 : sliced DA 0 T dc 1 = .slice DA T dc := by
      unfold sliced
      cases DA with
      | none => simp
      | some a => simp [Addr.add]
    rw [e0, List.drop_zero] at HCut
    rw [List.drop_zero] at HCl ⊢
    clear h hi hF hcut hcl hdm hem hdx e0
    go_enter Tryd.func23, Tryd.ntmps23
    go_upto_region 8 with fail
    refine wp_region_noPanic ?_
    refine wp_region_held_drew (S := fun W => JB w W B b (.slice DA ds.length dc) (.slice (some ⟨g, 0, none⟩) es.length ec) ov ds es ps) (by kernel_rfl) ⟨HR.out.drew, (Below.refl _ _).drew⟩ (fun hHeld => ?_)
    refine wpAnyH_take (i := 0) (oi := ⟨_, _, _, _, _, _⟩) (v := ?_) rfl (by kernel_rfl) (by kernel_rfl) (by kernel_rfl) (fun _ _ _ h => h) (Or.inl ⟨by rfl, ?_⟩) (by assumption) ?_
    rotate_left 1
    · intro W hSw
      have x0 := hSw.rep.blk.cell 0 _ rfl; have x1 := hSw.rep.blk.cell 1 _ rfl; have x2 := hSw.rep.endAt HX.out; have x3 := hSw.rep.blk.frozen 0
      clear hSw
      go_simp
      try with_reducible rfl
    try simp only [Act.put, List.setIfInBounds_toArray, List.set_cons_zero, List.set_cons_succ]
    refine wpAnyH_take (i := 1) (oi := ⟨_, _, _, _, _, _⟩) (v := ?_) rfl (by kernel_rfl) (by kernel_rfl) (by kernel_rfl) (fun _ _ _ h => h) (Or.inl ⟨by rfl, ?_⟩) (by assumption) ?_
    rotate_left 1
    · intro W hSw
      have x0 := hSw.rep.blk.cell 0 _ rfl; have x1 := hSw.rep.blk.cell 1 _ rfl; have x2 := hSw.rep.endAt HX.out; have x3 := hSw.rep.blk.frozen 0
      clear hSw
      go_simp
      try with_reducible rfl
    try simp only [Act.put, List.setIfInBounds_toArray, List.set_cons_zero, List.set_cons_succ]
    refine wpAnyH_take (i := 2) (oi := ⟨_, _, _, _, _, _⟩) (v := ?_) rfl (by kernel_rfl) (by kernel_rfl) (by kernel_rfl) (fun _ _ _ h => h) (Or.inl ⟨by rfl, ?_⟩) (by assumption) ?_
    rotate_left 1
    · intro W hSw
      have x0 := hSw.rep.blk.cell 0 _ rfl; have x1 := hSw.rep.blk.cell 1 _ rfl; have x2 := hSw.rep.endAt HX.out; have x3 := hSw.rep.blk.frozen 0
      clear hSw
      go_simp
      try with_reducible rfl
    try simp only [Act.put, List.setIfInBounds_toArray, List.set_cons_zero, List.set_cons_succ]
    refine wpAnyH_take (i := 3) (oi := ⟨_, _, _, _, _, _⟩) (v := ?_) rfl (by kernel_rfl) (by kernel_rfl) (by kernel_rfl) (fun _ _ _ h => h) (Or.inl ⟨by rfl, ?_⟩) (by assumption) ?_
    rotate_left 1
    · intro W hSw
      have x0 := hSw.rep.blk.cell 0 _ rfl; have x1 := hSw.rep.blk.cell 1 _ rfl; have x2 := hSw.rep.endAt HX.out; have x3 := hSw.rep.blk.frozen 0
      clear hSw
      go_simp
      try with_reducible rfl
    try simp only [Act.put, List.setIfInBounds_toArray, List.set_cons_zero, List.set_cons_succ]
    refine wpAnyH_take (i := 4) (oi := ⟨_, _, _, _, _, _⟩) (v := ?_) rfl (by kernel_rfl) (by kernel_rfl) (by kernel_rfl) (fun _ _ _ h => h) (Or.inl ⟨by rfl, ?_⟩) (by assumption) ?_
    rotate_left 1
    · intro W hSw
      have x0 := hSw.rep.blk.cell 0 _ rfl; have x1 := hSw.rep.blk.cell 1 _ rfl; have x2 := hSw.rep.endAt HX.out; have x3 := hSw.rep.blk.frozen 0
      clear hSw
      go_simp
      try with_reducible rfl
    try simp only [Act.put, List.setIfInBounds_toArray, List.set_cons_zero, List.set_cons_succ]
    refine wpAnyH_take (i := 5) (oi := ⟨_, _, _, _, _, _⟩) (v := ?_) rfl (by kernel_rfl) (by kernel_rfl) (by kernel_rfl) (fun _ _ _ h => h) (Or.inl ⟨by rfl, ?_⟩) (by assumption) ?_
    rotate_left 1
    · intro W hSw
      have x0 := hSw.rep.blk.cell 0 _ rfl; have x1 := hSw.rep.blk.cell 1 _ rfl; have x2 := hSw.rep.endAt HX.out; have x3 := hSw.rep.blk.frozen 0
      clear hSw
      go_simp
      try with_reducible rfl
    try simp only [Act.put, List.setIfInBounds_toArray, List.set_cons_zero, List.set_cons_succ]
    refine wpAnyH_take (i := 6) (oi := ⟨_, _, _, _, _, _⟩) (v := ?_) rfl (by kernel_rfl) (by kernel_rfl) (by kernel_rfl) (fun _ _ _ h => h) (Or.inl ⟨by rfl, ?_⟩) (by assumption) ?_
    rotate_left 1
    · intro W hSw
      have x0 := hSw.rep.blk.cell 0 _ rfl; have x1 := hSw.rep.blk.cell 1 _ rfl; have x2 := hSw.rep.endAt HX.out; have x3 := hSw.rep.blk.frozen 0
      clear hSw
      go_simp
      try with_reducible rfl
    try simp only [Act.put, List.setIfInBounds_toArray, List.set_cons_zero, List.set_cons_succ]
    refine wpAnyH_take (i := 7) (oi := ⟨_, _, _, _, _, _⟩) (v := ?_) rfl (by kernel_rfl) (by kernel_rfl) (by kernel_rfl) (fun _ _ _ h => h) (Or.inl ⟨by rfl, ?_⟩) (by assumption) ?_
    rotate_left 1
    · intro W hSw
      have x0 := hSw.rep.blk.cell 0 _ rfl; have x1 := hSw.rep.blk.cell 1 _ rfl; have x2 := hSw.rep.endAt HX.out; have x3 := hSw.rep.blk.frozen 0
      clear hSw
      go_simp
      try with_reducible rfl
    try simp only [Act.put, List.setIfInBounds_toArray, List.set_cons_zero, List.set_cons_succ]
    refine wpAnyH_take (i := 8) (oi := ⟨_, _, _, _, _, _⟩) (v := ?_) rfl (by kernel_rfl) (by kernel_rfl) (by kernel_rfl) (fun _ _ _ h => h) (Or.inl ⟨by rfl, ?_⟩) (by assumption) ?_
    rotate_left 1
    · intro W hSw
      have x0 := hSw.rep.blk.cell 0 _ rfl; have x1 := hSw.rep.blk.cell 1 _ rfl; have x2 := hSw.rep.endAt HX.out; have x3 := hSw.rep.blk.frozen 0
      clear hSw
      go_simp
      try with_reducible rfl
    try simp only [Act.put, List.setIfInBounds_toArray, List.set_cons_zero, List.set_cons_succ]
    refine wpAnyH_take (i := 9) (oi := ⟨_, _, _, _, _, _⟩) (v := ?_) rfl (by kernel_rfl) (by kernel_rfl) (by kernel_rfl) (fun _ _ _ h => h) (Or.inl ⟨by rfl, ?_⟩) (by assumption) ?_
    rotate_left 1
    · intro W hSw
      have x0 := hSw.rep.blk.cell 0 _ rfl; have x1 := hSw.rep.blk.cell 1 _ rfl; have x2 := hSw.rep.endAt HX.out; have x3 := hSw.rep.blk.frozen 0
      clear hSw
      go_simp
      try with_reducible rfl
    try simp only [Act.put, List.setIfInBounds_toArray, List.set_cons_zero, List.set_cons_succ]
    refine wpAnyH_take (i := 10) (oi := ⟨_, _, _, _, _, _⟩) (v := ?_) rfl (by kernel_rfl) (by kernel_rfl) (by kernel_rfl) (fun _ _ _ h => h) (Or.inl ⟨by rfl, ?_⟩) (by assumption) ?_
    rotate_left 1
    · intro W hSw
      have x0 := hSw.rep.blk.cell 0 _ rfl; have x1 := hSw.rep.blk.cell 1 _ rfl; have x2 := hSw.rep.endAt HX.out; have x3 := hSw.rep.blk.frozen 0
      clear hSw
      go_simp
      try with_reducible rfl
    try simp only [Act.put, List.setIfInBounds_toArray, List.set_cons_zero, List.set_cons_succ]
    refine wpAnyH_take (i := 11) (oi := ⟨_, _, _, _, _, _⟩) (v := ?_) rfl (by kernel_rfl) (by kernel_rfl) (by kernel_rfl) (fun _ _ _ h => h) (Or.inl ⟨by rfl, ?_⟩) (by assumption) ?_
    rotate_left 1
    · intro W hSw
      have x0 := hSw.rep.blk.cell 0 _ rfl; have x1 := hSw.rep.blk.cell 1 _ rfl; have x2 := hSw.rep.endAt HX.out; have x3 := hSw.rep.blk.frozen 0
      clear hSw
      go_simp
      try with_reducible rfl
    try simp only [Act.put, List.setIfInBounds_toArray, List.set_cons_zero, List.set_cons_succ]
    refine wpAnyH_take (i := 12) (oi := ⟨_, _, _, _, _, _⟩) (v := ?_) rfl (by kernel_rfl) (by kernel_rfl) (by kernel_rfl) (fun _ _ _ h => h) (Or.inl ⟨by rfl, ?_⟩) (by assumption) ?_
    rotate_left 1
    · intro W hSw
      have x0 := hSw.rep.blk.cell 0 _ rfl; have x1 := hSw.rep.blk.cell 1 _ rfl; have x2 := hSw.rep.endAt HX.out; have x3 := hSw.rep.blk.frozen 0
      clear hSw
      go_simp
      try with_reducible rfl
    try simp only [Act.put, List.setIfInBounds_toArray, List.set_cons_zero, List.set_cons_succ]
    skip
    refine wpAnyH_ready (rs := [13]) (by kernel_rfl) (by simp) ?_
    refine AllReadyH.cons (o := ⟨_, _, _, _, _, _⟩) rfl (fun F hF => ?_) AllReadyH.nil
    go_simp
    refine (bytesClone_any B _ _ _ (HCut.out _ hHeld.rep) HCl.out).mono ?_
    rintro e w1 ⟨v1, rfl, ho1, hb1⟩
    have HO := Lib.hid ho1
    have HI1 := Lib.hid (hHeld.adv hb1)
    clear ho1 hb1 hHeld
    go_wp2_with fail
    refine hF.out _ _ HI1.out (fun hHeld => ?_)
    clear hF F
    try simp only [Act.put, List.setIfInBounds_toArray, List.set_cons_zero, List.set_cons_succ]
    refine wpAnyH_take (i := 14) (oi := ⟨_, _, _, _, _, _⟩) (v := ?_) rfl (by kernel_rfl) (by kernel_rfl) (by kernel_rfl) (fun _ _ _ h => h) (Or.inl ⟨by rfl, ?_⟩) (by assumption) ?_
    rotate_left 1
    · intro W hSw
      have x0 := hSw.rep.blk.cell 0 _ rfl; have x1 := hSw.rep.blk.cell 1 _ rfl; have x2 := hSw.rep.endAt HX.out; have x3 := hSw.rep.blk.frozen 0
      clear hSw
      go_simp
      try with_reducible rfl
    try simp only [Act.put, List.setIfInBounds_toArray, List.set_cons_zero, List.set_cons_succ]
    refine wpAnyH_take (i := 15) (oi := ⟨_, _, _, _, _, _⟩) (v := ?_) rfl (by kernel_rfl) (by kernel_rfl) (by kernel_rfl) (fun _ _ _ h => h) (Or.inl ⟨by rfl, ?_⟩) (by assumption) ?_
    rotate_left 1
    · intro W hSw
      have x0 := hSw.rep.blk.cell 0 _ rfl; have x1 := hSw.rep.blk.cell 1 _ rfl; have x2 := hSw.rep.endAt HX.out; have x3 := hSw.rep.blk.frozen 0
      clear hSw
      go_simp
      try with_reducible rfl
    try simp only [Act.put, List.setIfInBounds_toArray, List.set_cons_zero, List.set_cons_succ]
    refine wpAnyH_done (by kernel_rfl) ?_ _
    refine NoPanic.normal ?_
    go_wp2_with fail
    go_ret2
    exact ⟨_, rfl, HO.out, hHeld.below⟩
  · have hi0 : (0 : Int) < (i : Int) := by omega
    have hfr : es[i - 1]? = some Fr := by
      unfold fromE at hFr
      rw [if_neg h0] at hFr
      rw [List.getD_eq_getElem?_getD] at hFr
      rw [List.getElem?_eq_getElem (by omega)] at hFr ⊢
      simpa using hFr
    have x4 : w.cell? ⟨g, i - 1, none⟩ = some (.int .i64 (Fr : Int)) := h.endAt hfr
    have hsub : wrap64 ((i : Int) - 1) = ((i - 1 : Nat) : Int) := by unfold wrap64; omega
    obtain ⟨A', hA'⟩ : ∃ A', (if dc = Fr then DA else Option.map (fun x => x.add Fr) DA) = A' := ⟨_, rfl⟩
    have e0 : sliced DA Fr T dc 1 = .slice A' (T - Fr) (dc - Fr) := by
      unfold sliced
      rw [Nat.mul_one, hA']
    rw [e0] at HCut
    clear e0
    have hFI : (Fr : Int) ≤ (T : Int) := by omega
    have hi1 : ((i - 1 : Nat) : Int) < (es.length : Int) := by omega
    clear h hi hF hcut hcl hdm hem hdx hfr hFr
    go_enter Tryd.func23, Tryd.ntmps23
    go_upto_region 8 with fail
    refine wp_region_noPanic ?_
    refine wp_region_held_drew (S := fun W => JB w W B b (.slice DA ds.length dc) (.slice (some ⟨g, 0, none⟩) es.length ec) ov ds es ps) (by kernel_rfl) ⟨HR.out.drew, (Below.refl _ _).drew⟩ (fun hHeld => ?_)
    refine wpAnyH_take (i := 0) (oi := ⟨_, _, _, _, _, _⟩) (v := ?_) rfl (by kernel_rfl) (by kernel_rfl) (by kernel_rfl) (fun _ _ _ h => h) (Or.inl ⟨by rfl, ?_⟩) (by assumption) ?_
    rotate_left 1
    · intro W hSw
      have x0 := hSw.rep.blk.cell 0 _ rfl; have x1 := hSw.rep.blk.cell 1 _ rfl; have x2 := hSw.rep.endAt HX.out; have x3 := hSw.rep.blk.frozen 0
      clear hSw
      go_simp
      try with_reducible rfl
    try simp only [Act.put, List.setIfInBounds_toArray, List.set_cons_zero, List.set_cons_succ]
    refine wpAnyH_take (i := 1) (oi := ⟨_, _, _, _, _, _⟩) (v := ?_) rfl (by kernel_rfl) (by kernel_rfl) (by kernel_rfl) (fun _ _ _ h => h) (Or.inl ⟨by rfl, ?_⟩) (by assumption) ?_
    rotate_left 1
    · intro W hSw
      have x0 := hSw.rep.blk.cell 0 _ rfl; have x1 := hSw.rep.blk.cell 1 _ rfl; have x2 := hSw.rep.endAt HX.out; have x3 := hSw.rep.blk.frozen 0
      clear hSw
      go_simp
      try with_reducible rfl
    try simp only [Act.put, List.setIfInBounds_toArray, List.set_cons_zero, List.set_cons_succ]
    refine wpAnyH_take (i := 2) (oi := ⟨_, _, _, _, _, _⟩) (v := ?_) rfl (by kernel_rfl) (by kernel_rfl) (by kernel_rfl) (fun _ _ _ h => h) (Or.inl ⟨by rfl, ?_⟩) (by assumption) ?_
    rotate_left 1
    · intro W hSw
      have x0 := hSw.rep.blk.cell 0 _ rfl; have x1 := hSw.rep.blk.cell 1 _ rfl; have x2 := hSw.rep.endAt HX.out; have x3 := hSw.rep.blk.frozen 0
      clear hSw
      go_simp
      try with_reducible rfl
    try simp only [Act.put, List.setIfInBounds_toArray, List.set_cons_zero, List.set_cons_succ]
    refine wpAnyH_take (i := 3) (oi := ⟨_, _, _, _, _, _⟩) (v := ?_) rfl (by kernel_rfl) (by kernel_rfl) (by kernel_rfl) (fun _ _ _ h => h) (Or.inl ⟨by rfl, ?_⟩) (by assumption) ?_
    rotate_left 1
    · intro W hSw
      have x0 := hSw.rep.blk.cell 0 _ rfl; have x1 := hSw.rep.blk.cell 1 _ rfl; have x2 := hSw.rep.endAt HX.out; have x3 := hSw.rep.blk.frozen 0
      clear hSw
      go_simp
      try with_reducible rfl
    try simp only [Act.put, List.setIfInBounds_toArray, List.set_cons_zero, List.set_cons_succ]
    refine wpAnyH_take (i := 4) (oi := ⟨_, _, _, _, _, _⟩) (v := ?_) rfl (by kernel_rfl) (by kernel_rfl) (by kernel_rfl) (fun _ _ _ h => h) (Or.inl ⟨by rfl, ?_⟩) (by assumption) ?_
    rotate_left 1
    · intro W hSw
      have x0 := hSw.rep.blk.cell 0 _ rfl; have x1 := hSw.rep.blk.cell 1 _ rfl; have x2 := hSw.rep.endAt HX.out; have x3 := hSw.rep.blk.frozen 0
      clear hSw
      go_simp
      try with_reducible rfl
    try simp only [Act.put, List.setIfInBounds_toArray, List.set_cons_zero, List.set_cons_succ]
    refine wpAnyH_take (i := 5) (oi := ⟨_, _, _, _, _, _⟩) (v := ?_) rfl (by kernel_rfl) (by kernel_rfl) (by kernel_rfl) (fun _ _ _ h => h) (Or.inl ⟨by rfl, ?_⟩) (by assumption) ?_
    rotate_left 1
    · intro W hSw
      have x0 := hSw.rep.blk.cell 0 _ rfl; have x1 := hSw.rep.blk.cell 1 _ rfl; have x2 := hSw.rep.endAt HX.out; have x3 := hSw.rep.blk.frozen 0
      clear hSw
      go_simp
      try with_reducible rfl
    try simp only [Act.put, List.setIfInBounds_toArray, List.set_cons_zero, List.set_cons_succ]
    refine wpAnyH_take (i := 6) (oi := ⟨_, _, _, _, _, _⟩) (v := ?_) rfl (by kernel_rfl) (by kernel_rfl) (by kernel_rfl) (fun _ _ _ h => h) (Or.inl ⟨by rfl, ?_⟩) (by assumption) ?_
    rotate_left 1
    · intro W hSw
      have x0 := hSw.rep.blk.cell 0 _ rfl; have x1 := hSw.rep.blk.cell 1 _ rfl; have x2 := hSw.rep.endAt HX.out; have x3 := hSw.rep.blk.frozen 0
      clear hSw
      go_simp
      try with_reducible rfl
    try simp only [Act.put, List.setIfInBounds_toArray, List.set_cons_zero, List.set_cons_succ]
    refine wpAnyH_take (i := 7) (oi := ⟨_, _, _, _, _, _⟩) (v := ?_) rfl (by kernel_rfl) (by kernel_rfl) (by kernel_rfl) (fun _ _ _ h => h) (Or.inl ⟨by rfl, ?_⟩) (by assumption) ?_
    rotate_left 1
    · intro W hSw
      have x0 := hSw.rep.blk.cell 0 _ rfl; have x1 := hSw.rep.blk.cell 1 _ rfl; have x2 := hSw.rep.endAt HX.out; have x3 := hSw.rep.blk.frozen 0
      clear hSw
      go_simp
      try with_reducible rfl
    try simp only [Act.put, List.setIfInBounds_toArray, List.set_cons_zero, List.set_cons_succ]
    refine wpAnyH_take (i := 8) (oi := ⟨_, _, _, _, _, _⟩) (v := ?_) rfl (by kernel_rfl) (by kernel_rfl) (by kernel_rfl) (fun _ _ _ h => h) (Or.inl ⟨by rfl, ?_⟩) (by assumption) ?_
    rotate_left 1
    · intro W hSw
      have x0 := hSw.rep.blk.cell 0 _ rfl; have x1 := hSw.rep.blk.cell 1 _ rfl; have x2 := hSw.rep.endAt HX.out; have x3 := hSw.rep.blk.frozen 0
      clear hSw
      go_simp
      try with_reducible rfl
    try simp only [Act.put, List.setIfInBounds_toArray, List.set_cons_zero, List.set_cons_succ]
    refine wpAnyH_take (i := 9) (oi := ⟨_, _, _, _, _, _⟩) (v := ?_) rfl (by kernel_rfl) (by kernel_rfl) (by kernel_rfl) (fun _ _ _ h => h) (Or.inl ⟨by rfl, ?_⟩) (by assumption) ?_
    rotate_left 1
    · intro W hSw
      have x0 := hSw.rep.blk.cell 0 _ rfl; have x1 := hSw.rep.blk.cell 1 _ rfl; have x2 := hSw.rep.endAt HX.out; have x3 := hSw.rep.blk.frozen 0
      clear hSw
      go_simp
      try with_reducible rfl
    try simp only [Act.put, List.setIfInBounds_toArray, List.set_cons_zero, List.set_cons_succ]
    refine wpAnyH_take (i := 10) (oi := ⟨_, _, _, _, _, _⟩) (v := ?_) rfl (by kernel_rfl) (by kernel_rfl) (by kernel_rfl) (fun _ _ _ h => h) (Or.inl ⟨by rfl, ?_⟩) (by assumption) ?_
    rotate_left 1
    · intro W hSw
      have x0 := hSw.rep.blk.cell 0 _ rfl; have x1 := hSw.rep.blk.cell 1 _ rfl; have x2 := hSw.rep.endAt HX.out; have x3 := hSw.rep.blk.frozen 0
      clear hSw
      go_simp
      try with_reducible rfl
    try simp only [Act.put, List.setIfInBounds_toArray, List.set_cons_zero, List.set_cons_succ]
    refine wpAnyH_take (i := 11) (oi := ⟨_, _, _, _, _, _⟩) (v := ?_) rfl (by kernel_rfl) (by kernel_rfl) (by kernel_rfl) (fun _ _ _ h => h) (Or.inl ⟨by rfl, ?_⟩) (by assumption) ?_
    rotate_left 1
    · intro W hSw
      have x0 := hSw.rep.blk.cell 0 _ rfl; have x1 := hSw.rep.blk.cell 1 _ rfl; have x2 := hSw.rep.endAt HX.out; have x3 := hSw.rep.blk.frozen 0
      clear hSw
      go_simp
      try with_reducible rfl
    try simp only [Act.put, List.setIfInBounds_toArray, List.set_cons_zero, List.set_cons_succ]
    refine wpAnyH_take (i := 12) (oi := ⟨_, _, _, _, _, _⟩) (v := ?_) rfl (by kernel_rfl) (by kernel_rfl) (by kernel_rfl) (fun _ _ _ h => h) (Or.inl ⟨by rfl, ?_⟩) (by assumption) ?_
    rotate_left 1
    · intro W hSw
      have x0 := hSw.rep.blk.cell 0 _ rfl; have x1 := hSw.rep.blk.cell 1 _ rfl; have x2 := hSw.rep.endAt HX.out; have x3 := hSw.rep.blk.frozen 0
      clear hSw
      go_simp
      try with_reducible rfl
    try simp only [Act.put, List.setIfInBounds_toArray, List.set_cons_zero, List.set_cons_succ]
    skip
    refine wpAnyH_ready (rs := [13]) (by kernel_rfl) (by simp) ?_
    refine AllReadyH.cons (o := ⟨_, _, _, _, _, _⟩) rfl (fun F hF => ?_) AllReadyH.nil
    go_simp
    refine (bytesClone_any B _ _ _ (HCut.out _ hHeld.rep) HCl.out).mono ?_
    rintro e w1 ⟨v1, rfl, ho1, hb1⟩
    have HO := Lib.hid ho1
    have HI1 := Lib.hid (hHeld.adv hb1)
    clear ho1 hb1 hHeld
    go_wp2_with fail
    refine hF.out _ _ HI1.out (fun hHeld => ?_)
    clear hF F
    try simp only [Act.put, List.setIfInBounds_toArray, List.set_cons_zero, List.set_cons_succ]
    refine wpAnyH_take (i := 14) (oi := ⟨_, _, _, _, _, _⟩) (v := ?_) rfl (by kernel_rfl) (by kernel_rfl) (by kernel_rfl) (fun _ _ _ h => h) (Or.inl ⟨by rfl, ?_⟩) (by assumption) ?_
    rotate_left 1
    · intro W hSw
      have x0 := hSw.rep.blk.cell 0 _ rfl; have x1 := hSw.rep.blk.cell 1 _ rfl; have x2 := hSw.rep.endAt HX.out; have x3 := hSw.rep.blk.frozen 0
      clear hSw
      go_simp
      try with_reducible rfl
    try simp only [Act.put, List.setIfInBounds_toArray, List.set_cons_zero, List.set_cons_succ]
    refine wpAnyH_take (i := 15) (oi := ⟨_, _, _, _, _, _⟩) (v := ?_) rfl (by kernel_rfl) (by kernel_rfl) (by kernel_rfl) (fun _ _ _ h => h) (Or.inl ⟨by rfl, ?_⟩) (by assumption) ?_
    rotate_left 1
    · intro W hSw
      have x0 := hSw.rep.blk.cell 0 _ rfl; have x1 := hSw.rep.blk.cell 1 _ rfl; have x2 := hSw.rep.endAt HX.out; have x3 := hSw.rep.blk.frozen 0
      clear hSw
      go_simp
      try with_reducible rfl
    try simp only [Act.put, List.setIfInBounds_toArray, List.set_cons_zero, List.set_cons_succ]
    refine wpAnyH_done (by kernel_rfl) ?_ _
    refine NoPanic.normal ?_
    go_wp2_with fail
    go_ret2
    exact ⟨_, rfl, HO.out, hHeld.below⟩

end Go.Proofs.YtffigmciclopdaaDoor
