/- Law 45's right: Read and Recover return what reads says, and keep no hold of the bytes. -/
import Derived.Test.YtffigmciclopdaaDoorJouW
namespace Go.Proofs.YtffigmciclopdaaDoor
open Go Go.RowKit

/-- Bytes of the call's own that are being written over. -/
def Sp (w0 w : World) (base n : Nat) (v : Value) : Prop :=
  ∃ xs, w.ownsRow base 5 1 v n xs ∧ (∀ j, j < n → ∃ z, xs[j]? = some (.int .u8 z)) ∧ Only (fun j => v.ownBlock = some j) w0 w
theorem Sp.start {w : World} {base : Nat} {v : Value} {bs : List UInt8} (h : w.ownsRow base 5 1 v bs.length (bcells bs)) : Sp w w base bs.length v :=
  ⟨_, h, fun j hj => ⟨_, by simp [bcells, hj]; rfl⟩, Only.refl _ _⟩
theorem Sp.cell {w0 w : World} {base n c m : Nat} {A : Option Addr} (h : Sp w0 w base n (.slice A n c)) (hm : m < n) : ∃ g z, A = some ⟨g, 0, none⟩ ∧ w.cell? ⟨g, m, none⟩ = some (.int .u8 z) ∧ w.frozen? ⟨g, m, none⟩ = false ∧ n ≤ c ∧ g < w.heap.size := by
  obtain ⟨xs, ho, hx, _⟩ := h
  obtain ⟨z, hz⟩ := hx m hm
  have hf := ho.form (by omega)
  obtain ⟨g, cap, e, _, hg⟩ := hf
  injection e with e1 _ e3
  subst e1 e3
  have hc := ho.cellAt m (by omega)
  have hcc : n ≤ c := by
    obtain ⟨_, _, e2, h2, _⟩ := own_form ho
    injection e2 with _ _ e2
    omega
  obtain ⟨_, cur, hh⟩ := row_heap ho (k := g) rfl
  exact ⟨g, z, rfl, by rw [hc]; exact hz, ho.frozenAt m, hcc, lt_of_heap hh⟩
theorem Sp.step {w0 w : World} {base n c m g : Nat} (h : Sp w0 w base n (.slice (some ⟨g, 0, none⟩) n c)) (z : Int) : Sp w0 (w.setCell ⟨g, m, none⟩ (.int .u8 z)) base n (.slice (some ⟨g, 0, none⟩) n c) := by
  obtain ⟨xs, ho, hx, hy⟩ := h
  refine ⟨_, (ho.stored m _).1, fun i hi => ?_, Only.setCell (S := fun j => (Value.slice (some ⟨g, 0, none⟩) n c).ownBlock = some j) hy (p := ⟨g, m, none⟩) (.inl rfl) _⟩
  by_cases e : m = i
  · subst e
    have : m < xs.length := by
      obtain ⟨z', hz'⟩ := hx m hi
      exact (List.getElem?_eq_some_iff.1 hz').1
    exact ⟨_, List.getElem?_set_self this⟩
  · rw [List.getElem?_set_ne e]; exact hx i hi

theorem JRep.onlyV {S : Nat → Prop} {w w' : World} {B b : Nat} {dv ev ov : Value} {ds : List UInt8} {es : List Nat} {ps : List (OpV × Value)} (h : JRep w B b dv ev ov ds es ps) (ho : Only S w w') (hS : ∀ k, jFp b dv ev ov k → ¬ S k) (hv : ∀ p ∈ ps, ∀ k, p.2.ownBlock = some k → ¬ S k) : JRep w' B b dv ev ov ds es ps :=
  ⟨⟨h.blk.only ho (hS b (.inl rfl)), ownsRow_only h.data ho (fun k hk => hS k (.inr (.inl hk))), ownsRow_only h.ends ho (fun k hk => hS k (.inr (.inr (.inl hk)))), ownsRow_only h.ops ho (fun k hk => hS k (.inr (.inr (.inr hk)))),
    fun p hp => ⟨(h.vals p hp).1.only ho (fun g hg => hv p hp g hg), fun g hg => ⟨Nat.lt_of_lt_of_le ((h.vals p hp).2 g hg).1 ho.size, ((h.vals p hp).2 g hg).2⟩⟩, h.wf, h.base⟩, h.dlen, h.dmax, h.elen, h.emax⟩

theorem rcv_all (Q : OpV → Prop) (hP : ∀ s rest o r, okRec s rest = some (o, r) → Q o) : ∀ (f : Nat) (ds : List UInt8) (es : List Nat) (os : List OpV) (rest : List UInt8), (∀ o ∈ os, Q o) → ∀ o ∈ (rcv f ds es os rest).2.2, Q o
  | 0, ds, es, os, rest, h, o, ho => h o ho
  | f + 1, ds, es, os, rest, h, o, ho => by
    cases hk : okRec (sumL ds) rest with
    | none => simp only [rcv, hk] at ho; exact h o ho
    | some p =>
      obtain ⟨o', r⟩ := p
      simp only [rcv, hk] at ho
      split at ho
      · exact h o ho
      · refine rcv_all Q hP f _ _ _ _ (fun x hx => ?_) o ho
        rcases List.mem_append.1 hx with hx | hx
        · exact h x hx
        · rw [List.mem_singleton.1 hx]; exact hP _ _ _ _ hk
theorem rcvd_small (bs : List UInt8) : ∀ o ∈ (rcvd bs).2.2, o.val.length ≤ 255 :=
  rcv_all (fun o => o.val.length ≤ 255) (fun _ _ _ _ h => (recO_small (okRec_some h).1).2) _ _ _ _ _ (fun o ho => by simp at ho)

theorem Bts.onlyP {S : Nat → Prop} {w w' : World} {B U : Nat} {v : Value} {bs : List UInt8} (h : Bts w B U v bs) (k : Only S w w') (hn : 0 < bs.length → ∀ g, v.ownBlock = some g → ¬ S g) : Bts w' B U v bs := by
  rcases Nat.eq_zero_or_pos bs.length with h0 | h0
  · obtain ⟨A, cap, hv, hl, hm, hnn, hr⟩ := h
    exact ⟨A, cap, hv, hl, hm, hnn, fun hp => by omega⟩
  · exact h.only k (hn h0)

/-- What is held may be more than is asked for. -/
theorem wpAnyH_weaken {P : Program} {md : Region.Mode} {ops : Array Oper} {Q : Exit → Act → World → Prop} {S S2 : World → Prop} (hs : ∀ w, S2 w → S w) :
    ∀ (fuel : Nat) (listed : Array Bool) (a : Act) (w : World), wpAnyH P md ops Q S2 fuel listed a w → wpAnyH P md ops Q S fuel listed a w
  | 0, _, _, _, h => h
  | fuel + 1, _, _, _, h => ⟨h.1, fun i hi => wpOp_mono (fun a' w' h' => ⟨hs _ h'.1, wpAnyH_weaken hs fuel _ a' w' h'.2⟩) (h.2 i hi)⟩

/-- What right works with. -/
structure RtI (w W : World) (V vo vw vl : Value) (b Bw Bl Bj : Nat) (dv ev ov : Value) (bs ds : List UInt8) (es : List Nat) (pw pl pj : List (OpV × Value)) : Prop where
  arg : Bts W w.heap.size 5 V bs
  own : W.ownsRow w.heap.size 5 1 vo bs.length (bcells bs)
  want : OpsAt W Bw vw pw
  read : OpsAt W Bl vl pl
  rep : JRep W Bj b dv ev ov ds es pj
  base : Bj ≤ W.heap.size
  below : Below w.heap.size w W
theorem RtI.adv {w W W2 : World} {V vo vw vl : Value} {b Bw Bl Bj : Nat} {dv ev ov : Value} {bs ds : List UInt8} {es : List Nat} {pw pl pj : List (OpV × Value)} (h : RtI w W V vo vw vl b Bw Bl Bj dv ev ov bs ds es pw pl pj) (hb : Below W.heap.size W W2) : RtI w W2 V vo vw vl b Bw Bl Bj dv ev ov bs ds es pw pl pj :=
  ⟨h.arg.below hb, own_later h.own hb, h.want.below hb, h.read.below hb, h.rep.below hb, Nat.le_trans h.base hb.size, h.below.trans (hb.mono h.below.size)⟩

/-- A journal's bytes and some others. -/
structure RtB (w W : World) (V : Value) (b Bj : Nat) (dv ev ov : Value) (bs ds : List UInt8) (es : List Nat) (pj : List (OpV × Value)) : Prop where
  arg : Bts W w.heap.size 5 V bs
  rep : JRep W Bj b dv ev ov ds es pj
  below : Below w.heap.size w W
theorem RtB.adv {w W W2 : World} {V : Value} {b Bj : Nat} {dv ev ov : Value} {bs ds : List UInt8} {es : List Nat} {pj : List (OpV × Value)} (h : RtB w W V b Bj dv ev ov bs ds es pj) (hb : Below W.heap.size W W2) : RtB w W2 V b Bj dv ev ov bs ds es pj :=
  ⟨h.arg.below hb, h.rep.below hb, h.below.trans (hb.mono h.below.size)⟩



set_option maxRecDepth 100000 in
set_option maxHeartbeats 4000000 in
theorem right_any (B : Nat) (V : Value) (bs : List UInt8) (w : World) (hv : Bts w B 5 V bs) (hB : B ≤ w.heap.size) (hk : KG w) (hl : bs.length ≤ 1000000) :
    Calls Tryd.prog 9 #[V] w fun e w' => e = .returned (.bool true) ∧ Below w.heap.size w w' := by
  obtain ⟨i0, hi0, hz0, hz1, hz2⟩ := info_parts u8_info
  obtain ⟨A, cap, rfl⟩ := hv.form
  have hVb : ∀ k, (Value.slice A bs.length cap).ownBlock = some k → 0 < bs.length → k < w.heap.size := by
    intro k hk h0
    obtain ⟨A', cap', e, _, _, _, hr⟩ := hv
    injection e with e1 _ _
    obtain ⟨g, off, hA, hg, _⟩ := hr h0
    rw [e1, hA] at hk
    injection hk with hk
    rw [← hk]; exact hg
  have HVb := Lib.hid hVb
  have HV := Lib.hid (hv.more hB)
  have HK := Lib.hid hk
  have hlI : (bs.length : Int) ≤ 1000000 := by omega
  have HL := Lib.hid hl
  have HCc : Hid (bs.length ≤ cap) := Lib.hid (by
    obtain ⟨_, _, e3, hcc, _⟩ := hv
    injection e3 with _ _ e5
    omega)
  clear hv hB hk hl hVb
  go_enter Tryd.func9, Tryd.ntmps9
  go_wp2_with (at_builtin; refine wpList_append_src _ rfl _ _ _ rfl w.heap.size 5 i0 _ 1 1 Tryd.underlying22 hi0 hz0 hz1 hz2 rfl (by decide) _ 0 [] rfl (World.ownsRow_nil _ _ _ _) A bs.length cap (bcells bs) rfl HV.out.src_at.2 (bcells_one _) (by have := HL.out; unfold maxLen; omega) (by have := HL.out; omega) (Nat.le_refl _) ?_; intro v1 w1 hown hg hat)
  have hb1 : Below w.heap.size w w1 := (Below.refl _ _).grown hg (Nat.le_refl _) (by intro k hk; cases hk)
  have hown1 : w1.ownsRow w.heap.size 5 1 v1 bs.length (bcells bs) := by simpa using hown
  obtain ⟨OA, oc, rfl, _, _⟩ := own_form hown1
  have HO1 := Lib.hid hown1
  have HB1 := Lib.hid hb1
  have HV1 := Lib.hid (HV.out.below hb1)
  have HK1 := Lib.hid (HK.out.below hb1 HK.out.1)
  clear hown hg hat hb1 hown1
  refine (reads_any w.heap.size (.slice A bs.length cap) bs w1 HV1.out HB1.out.size HK1.out HL.out).mono ?_
  rintro e w2 ⟨vw, ds, es, pw, rfl, hrc, how, ⟨rest, hcut⟩, hb2⟩
  have HC := Lib.hid hrc
  have HW2 := Lib.hid how.at_
  have HO2 := Lib.hid (own_later HO1.out hb2)
  have HB2 := Lib.hid (HB1.out.trans (hb2.mono HB1.out.size))
  have HV2 := Lib.hid (HV1.out.below hb2)
  have HK2 := Lib.hid (HK1.out.below hb2 HK1.out.1)
  have HCut := Lib.hid hcut
  obtain ⟨WA, wc, rfl⟩ := how.at_.slice
  clear hrc how hcut hb2 HO1 HB1 HV1 HK1
  go_wp2_with fail
  refine (read_all_any w.heap.size (.slice OA bs.length oc) bs w2 (Bts.of_own HO2.out _) HB2.out.size HK2.out HL.out).mono ?_
  rintro e w3 ⟨vl, pl, he, hml, hql, hb3⟩
  rw [HC.out] at he hml
  dsimp only at he hml
  subst he
  have HW3 := Lib.hid (HW2.out.below hb3)
  have HL3 := Lib.hid hql
  have HML := Lib.hid hml
  have HO3 := Lib.hid (own_later HO2.out hb3)
  have HB3 := Lib.hid (HB2.out.trans (hb3.mono HB2.out.size))
  have HV3 := Lib.hid (HV2.out.below hb3)
  have HK3 := Lib.hid (HK2.out.below hb3 HK2.out.1)
  obtain ⟨LA, lc, rfl⟩ := hql.slice
  clear hml hql hb3 HW2 HO2 HB2 HV2 HK2
  go_wp2_with fail
  refine (recover_any w.heap.size (.slice OA bs.length oc) bs w3 (Bts.of_own HO3.out _) HB3.out.size HK3.out HL.out).mono ?_
  rintro e w4 ⟨b, dv, ev, ov, ds', es', pj, he, hrc, hrep, hfp, hfr, -, hb4⟩
  rw [HC.out] at hrc
  injection hrc with hr1 hr2
  injection hr2 with hr2 hr3
  subst hr1 hr2 he
  have HI4 : Hid (RtI w w4 (.slice A bs.length cap) (.slice OA bs.length oc) (.slice WA pw.length wc) (.slice LA pl.length lc) b w1.heap.size w2.heap.size w3.heap.size dv ev ov bs ds es pw pl pj) := Lib.hid
    ⟨HV3.out.below hb4, own_later HO3.out hb4, HW3.out.below hb4, HL3.out.below hb4, hrep, hb4.size, HB3.out.trans (hb4.mono HB3.out.size)⟩
  have HMJ := Lib.hid hr3
  have HSep : Hid (∀ k, (Value.slice OA bs.length oc).ownBlock = some k → (0 < bs.length → (Value.slice A bs.length cap).ownBlock ≠ some k) ∧ ¬ jFp b dv ev ov k ∧ ∀ p ∈ pj, p.2.ownBlock ≠ some k) := Lib.hid fun k hk => by
    obtain ⟨h1, cur, h2⟩ := row_heap HO3.out hk
    have h3 := lt_of_heap h2
    refine ⟨fun h0 e => by have := HVb.out k e h0; omega, fun e => by have := hfp k e; omega, fun p hp e => by have := hfr p hp k e; omega⟩
  have hpj : pj.length ≤ 4096 := by have := hrep.elen; have := hrep.emax; omega
  have hlw : pw.length = pj.length := by have := congrArg List.length hr3; simpa using this
  have hll : pl.length = pw.length := by have := congrArg List.length HML.out; simpa using this.symm
  have HPj := Lib.hid hpj
  have HLw := Lib.hid hlw
  have HLl := Lib.hid hll
  have hdsl : ds.length ≤ bs.length := by rw [HCut.out, List.length_append]; omega
  have hdsI : (ds.length : Int) ≤ (bs.length : Int) := by omega
  have hdcI : (ds.length : Int) ≤ (cap : Int) := by have := HCc.out; omega
  have HDs := Lib.hid hdsl
  clear hr3 hrep hfp hfr hb4 HW3 HL3 HO3 HB3 HV3 hpj hlw hll hdsl
  have HTk : Hid (∀ W, Bts W w.heap.size 5 (.slice A bs.length cap) bs → Bts W w.heap.size 5 (.slice A ds.length cap) ds) := Lib.hid (fun W h => by
    have := h.upto ds.length HDs.out
    rwa [show bs.take ds.length = ds by rw [HCut.out, List.take_left]] at this)
  go_upto_region 5 with fail
  refine wp_region_noPanic ?_
  refine wp_region_held_drew (S := fun W => RtI w W (.slice A bs.length cap) (.slice OA bs.length oc) (.slice WA pw.length wc) (.slice LA pl.length lc) b w1.heap.size w2.heap.size w3.heap.size dv ev ov bs ds es pw pl pj) (by kernel_rfl) (HI4.out.adv (Below.refl _ _).drew) (fun hHeld => ?_)
  refine wpAnyH_take (i := 0) (oi := ⟨_, _, _, _, _, _⟩) (v := ?_) rfl (by kernel_rfl) (by kernel_rfl) (by kernel_rfl) (fun _ _ _ h => h) (Or.inl ⟨by rfl, ?_⟩) (by assumption) ?_
  rotate_left 1
  · intro W hSw
    have cb := (Bts.of_own hSw.own 0).string (P := Tryd.prog) 22 9 Tryd.underlying22 Tryd.underlying5 Tryd.underlying9; have c1 := hSw.arg.string (P := Tryd.prog) 22 9 Tryd.underlying22 Tryd.underlying5 Tryd.underlying9
    clear hSw
    go_simp
    try with_reducible rfl
  try simp only [Act.put, List.setIfInBounds_toArray, List.set_cons_zero, List.set_cons_succ]
  refine wpAnyH_take (i := 1) (oi := ⟨_, _, _, _, _, _⟩) (v := ?_) rfl (by kernel_rfl) (by kernel_rfl) (by kernel_rfl) (fun _ _ _ h => h) (Or.inl ⟨by rfl, ?_⟩) (by assumption) ?_
  rotate_left 1
  · intro W hSw
    have cb := (Bts.of_own hSw.own 0).string (P := Tryd.prog) 22 9 Tryd.underlying22 Tryd.underlying5 Tryd.underlying9; have c1 := hSw.arg.string (P := Tryd.prog) 22 9 Tryd.underlying22 Tryd.underlying5 Tryd.underlying9
    clear hSw
    go_simp
    try with_reducible rfl
  try simp only [Act.put, List.setIfInBounds_toArray, List.set_cons_zero, List.set_cons_succ]
  refine wpAnyH_take (i := 2) (oi := ⟨_, _, _, _, _, _⟩) (v := ?_) rfl (by kernel_rfl) (by kernel_rfl) (by kernel_rfl) (fun _ _ _ h => h) (Or.inl ⟨by rfl, ?_⟩) (by assumption) ?_
  rotate_left 1
  · intro W hSw
    have cb := (Bts.of_own hSw.own 0).string (P := Tryd.prog) 22 9 Tryd.underlying22 Tryd.underlying5 Tryd.underlying9; have c1 := hSw.arg.string (P := Tryd.prog) 22 9 Tryd.underlying22 Tryd.underlying5 Tryd.underlying9
    clear hSw
    go_simp
    try with_reducible rfl
  try simp only [Act.put, List.setIfInBounds_toArray, List.set_cons_zero, List.set_cons_succ]
  refine wpAnyH_take (i := 3) (oi := ⟨_, _, _, _, _, _⟩) (v := ?_) rfl (by kernel_rfl) (by kernel_rfl) (by kernel_rfl) (fun _ _ _ h => h) (Or.inl ⟨by rfl, ?_⟩) (by assumption) ?_
  rotate_left 1
  · intro W hSw
    have cb := (Bts.of_own hSw.own 0).string (P := Tryd.prog) 22 9 Tryd.underlying22 Tryd.underlying5 Tryd.underlying9; have c1 := hSw.arg.string (P := Tryd.prog) 22 9 Tryd.underlying22 Tryd.underlying5 Tryd.underlying9
    clear hSw
    go_simp
    try with_reducible rfl
  try simp only [Act.put, List.setIfInBounds_toArray, List.set_cons_zero, List.set_cons_succ]
  refine wpAnyH_take (i := 4) (oi := ⟨_, _, _, _, _, _⟩) (v := ?_) rfl (by kernel_rfl) (by kernel_rfl) (by kernel_rfl) (fun _ _ _ h => h) (Or.inl ⟨by rfl, ?_⟩) (by assumption) ?_
  rotate_left 1
  · intro W hSw
    have cb := (Bts.of_own hSw.own 0).string (P := Tryd.prog) 22 9 Tryd.underlying22 Tryd.underlying5 Tryd.underlying9; have c1 := hSw.arg.string (P := Tryd.prog) 22 9 Tryd.underlying22 Tryd.underlying5 Tryd.underlying9
    clear hSw
    go_simp
    try with_reducible rfl
  try simp only [Act.put, List.setIfInBounds_toArray, List.set_cons_zero, List.set_cons_succ]
  refine wpAnyH_take (i := 5) (oi := ⟨_, _, _, _, _, _⟩) (v := ?_) rfl (by kernel_rfl) (by kernel_rfl) (by kernel_rfl) (fun _ _ _ h => h) (Or.inl ⟨by rfl, ?_⟩) (by assumption) ?_
  rotate_left 1
  · intro W hSw
    have cb := (Bts.of_own hSw.own 0).string (P := Tryd.prog) 22 9 Tryd.underlying22 Tryd.underlying5 Tryd.underlying9; have c1 := hSw.arg.string (P := Tryd.prog) 22 9 Tryd.underlying22 Tryd.underlying5 Tryd.underlying9
    clear hSw
    go_simp
    try with_reducible rfl
  try simp only [Act.put, List.setIfInBounds_toArray, List.set_cons_zero, List.set_cons_succ]
  refine wpAnyH_take (i := 6) (oi := ⟨_, _, _, _, _, _⟩) (v := ?_) rfl (by kernel_rfl) (by kernel_rfl) (by kernel_rfl) (fun _ _ _ h => h) (Or.inl ⟨by rfl, ?_⟩) (by assumption) ?_
  rotate_left 1
  · intro W hSw
    have cb := (Bts.of_own hSw.own 0).string (P := Tryd.prog) 22 9 Tryd.underlying22 Tryd.underlying5 Tryd.underlying9; have c1 := hSw.arg.string (P := Tryd.prog) 22 9 Tryd.underlying22 Tryd.underlying5 Tryd.underlying9
    clear hSw
    go_simp
    try with_reducible rfl
  try simp only [Act.put, List.setIfInBounds_toArray, List.set_cons_zero, List.set_cons_succ]
  refine wpAnyH_take (i := 7) (oi := ⟨_, _, _, _, _, _⟩) (v := ?_) rfl (by kernel_rfl) (by kernel_rfl) (by kernel_rfl) (fun _ _ _ h => h) (Or.inl ⟨by rfl, ?_⟩) (by assumption) ?_
  rotate_left 1
  · intro W hSw
    have cb := (Bts.of_own hSw.own 0).string (P := Tryd.prog) 22 9 Tryd.underlying22 Tryd.underlying5 Tryd.underlying9; have c1 := hSw.arg.string (P := Tryd.prog) 22 9 Tryd.underlying22 Tryd.underlying5 Tryd.underlying9
    clear hSw
    go_simp
    try with_reducible rfl
  try simp only [Act.put, List.setIfInBounds_toArray, List.set_cons_zero, List.set_cons_succ]
  refine wpAnyH_ready (rs := [8]) (by kernel_rfl) (by simp) ?_
  refine AllReadyH.cons (o := ⟨_, _, _, _, _, _⟩) rfl (fun F hF => ?_) AllReadyH.nil
  go_simp
  refine (opsEqual_any _ _ _ _ pl pw _ hHeld.read hHeld.want (by have := HPj.out; have := HLw.out; have := HLl.out; omega) (by have := HPj.out; have := HLw.out; omega)).mono ?_
  rintro e w5 ⟨⟨q, rfl, hq⟩, hb5⟩
  obtain rfl : q = true := hq.2 HML.out.symm
  have HI5 := Lib.hid (hHeld.adv hb5)
  clear hq hb5 hHeld
  go_wp2_with fail
  refine hF.out _ _ HI5.out (fun hHeld => ?_)
  clear hF F
  try simp only [Act.put, List.setIfInBounds_toArray, List.set_cons_zero, List.set_cons_succ]
  refine wpAnyH_take (i := 9) (oi := ⟨_, _, _, _, _, _⟩) (v := ?_) rfl (by kernel_rfl) (by kernel_rfl) (by kernel_rfl) (fun _ _ _ h => h) (Or.inl ⟨by rfl, ?_⟩) (by assumption) ?_
  rotate_left 1
  · intro W hSw
    have cb := (Bts.of_own hSw.own 0).string (P := Tryd.prog) 22 9 Tryd.underlying22 Tryd.underlying5 Tryd.underlying9; have c1 := hSw.arg.string (P := Tryd.prog) 22 9 Tryd.underlying22 Tryd.underlying5 Tryd.underlying9
    clear hSw
    go_simp
    try with_reducible rfl
  try simp only [Act.put, List.setIfInBounds_toArray, List.set_cons_zero, List.set_cons_succ]
  refine wpAnyH_take (i := 10) (oi := ⟨_, _, _, _, _, _⟩) (v := ?_) rfl (by kernel_rfl) (by kernel_rfl) (by kernel_rfl) (fun _ _ _ h => h) (Or.inl ⟨by rfl, ?_⟩) (by assumption) ?_
  rotate_left 1
  · intro W hSw
    have cb := (Bts.of_own hSw.own 0).string (P := Tryd.prog) 22 9 Tryd.underlying22 Tryd.underlying5 Tryd.underlying9; have c1 := hSw.arg.string (P := Tryd.prog) 22 9 Tryd.underlying22 Tryd.underlying5 Tryd.underlying9
    clear hSw
    go_simp
    try with_reducible rfl
  try simp only [Act.put, List.setIfInBounds_toArray, List.set_cons_zero, List.set_cons_succ]
  refine wpAnyH_take (i := 11) (oi := ⟨_, _, _, _, _, _⟩) (v := ?_) rfl (by kernel_rfl) (by kernel_rfl) (by kernel_rfl) (fun _ _ _ h => h) (Or.inl ⟨by rfl, ?_⟩) (by assumption) ?_
  rotate_left 1
  · intro W hSw
    have cb := (Bts.of_own hSw.own 0).string (P := Tryd.prog) 22 9 Tryd.underlying22 Tryd.underlying5 Tryd.underlying9; have c1 := hSw.arg.string (P := Tryd.prog) 22 9 Tryd.underlying22 Tryd.underlying5 Tryd.underlying9
    clear hSw
    go_simp
    try with_reducible rfl
  try simp only [Act.put, List.setIfInBounds_toArray, List.set_cons_zero, List.set_cons_succ]
  refine wpAnyH_take (i := 12) (oi := ⟨_, _, _, _, _, _⟩) (v := ?_) rfl (by kernel_rfl) (by kernel_rfl) (by kernel_rfl) (fun _ _ _ h => h) (Or.inl ⟨by rfl, ?_⟩) (by assumption) ?_
  rotate_left 1
  · intro W hSw
    have cb := (Bts.of_own hSw.own 0).string (P := Tryd.prog) 22 9 Tryd.underlying22 Tryd.underlying5 Tryd.underlying9; have c1 := hSw.arg.string (P := Tryd.prog) 22 9 Tryd.underlying22 Tryd.underlying5 Tryd.underlying9
    clear hSw
    go_simp
    try with_reducible rfl
  try simp only [Act.put, List.setIfInBounds_toArray, List.set_cons_zero, List.set_cons_succ]
  refine wpAnyH_take (i := 13) (oi := ⟨_, _, _, _, _, _⟩) (v := ?_) rfl (by kernel_rfl) (by kernel_rfl) (by kernel_rfl) (fun _ _ _ h => h) (Or.inl ⟨by rfl, ?_⟩) (by assumption) ?_
  rotate_left 1
  · intro W hSw
    have cb := (Bts.of_own hSw.own 0).string (P := Tryd.prog) 22 9 Tryd.underlying22 Tryd.underlying5 Tryd.underlying9; have c1 := hSw.arg.string (P := Tryd.prog) 22 9 Tryd.underlying22 Tryd.underlying5 Tryd.underlying9
    clear hSw
    go_simp
    try with_reducible rfl
  try simp only [Act.put, List.setIfInBounds_toArray, List.set_cons_zero, List.set_cons_succ]
  refine wpAnyH_take (i := 14) (oi := ⟨_, _, _, _, _, _⟩) (v := ?_) rfl (by kernel_rfl) (by kernel_rfl) (by kernel_rfl) (fun _ _ _ h => h) (Or.inl ⟨by rfl, ?_⟩) (by assumption) ?_
  rotate_left 1
  · intro W hSw
    have cb := (Bts.of_own hSw.own 0).string (P := Tryd.prog) 22 9 Tryd.underlying22 Tryd.underlying5 Tryd.underlying9; have c1 := hSw.arg.string (P := Tryd.prog) 22 9 Tryd.underlying22 Tryd.underlying5 Tryd.underlying9
    clear hSw
    go_simp
    try with_reducible rfl
  try simp only [Act.put, List.setIfInBounds_toArray, List.set_cons_zero, List.set_cons_succ]
  refine wpAnyH_take (i := 15) (oi := ⟨_, _, _, _, _, _⟩) (v := ?_) rfl (by kernel_rfl) (by kernel_rfl) (by kernel_rfl) (fun _ _ _ h => h) (Or.inl ⟨by rfl, ?_⟩) (by assumption) ?_
  rotate_left 1
  · intro W hSw
    have cb := (Bts.of_own hSw.own 0).string (P := Tryd.prog) 22 9 Tryd.underlying22 Tryd.underlying5 Tryd.underlying9; have c1 := hSw.arg.string (P := Tryd.prog) 22 9 Tryd.underlying22 Tryd.underlying5 Tryd.underlying9
    clear hSw
    go_simp
    try with_reducible rfl
  try simp only [Act.put, List.setIfInBounds_toArray, List.set_cons_zero, List.set_cons_succ]
  refine wpAnyH_take (i := 16) (oi := ⟨_, _, _, _, _, _⟩) (v := ?_) rfl (by kernel_rfl) (by kernel_rfl) (by kernel_rfl) (fun _ _ _ h => h) (Or.inl ⟨by rfl, ?_⟩) (by assumption) ?_
  rotate_left 1
  · intro W hSw
    have cb := (Bts.of_own hSw.own 0).string (P := Tryd.prog) 22 9 Tryd.underlying22 Tryd.underlying5 Tryd.underlying9; have c1 := hSw.arg.string (P := Tryd.prog) 22 9 Tryd.underlying22 Tryd.underlying5 Tryd.underlying9
    clear hSw
    go_simp
    try with_reducible rfl
  try simp only [Act.put, List.setIfInBounds_toArray, List.set_cons_zero, List.set_cons_succ]
  refine wpAnyH_take (i := 17) (oi := ⟨_, _, _, _, _, _⟩) (v := ?_) rfl (by kernel_rfl) (by kernel_rfl) (by kernel_rfl) (fun _ _ _ h => h) (Or.inl ⟨by rfl, ?_⟩) (by assumption) ?_
  rotate_left 1
  · intro W hSw
    have cb := (Bts.of_own hSw.own 0).string (P := Tryd.prog) 22 9 Tryd.underlying22 Tryd.underlying5 Tryd.underlying9; have c1 := hSw.arg.string (P := Tryd.prog) 22 9 Tryd.underlying22 Tryd.underlying5 Tryd.underlying9
    clear hSw
    go_simp
    try with_reducible rfl
  try simp only [Act.put, List.setIfInBounds_toArray, List.set_cons_zero, List.set_cons_succ]
  refine wpAnyH_take (i := 18) (oi := ⟨_, _, _, _, _, _⟩) (v := ?_) rfl (by kernel_rfl) (by kernel_rfl) (by kernel_rfl) (fun _ _ _ h => h) (Or.inl ⟨by rfl, ?_⟩) (by assumption) ?_
  rotate_left 1
  · intro W hSw
    have cb := (Bts.of_own hSw.own 0).string (P := Tryd.prog) 22 9 Tryd.underlying22 Tryd.underlying5 Tryd.underlying9; have c1 := hSw.arg.string (P := Tryd.prog) 22 9 Tryd.underlying22 Tryd.underlying5 Tryd.underlying9
    clear hSw
    go_simp
    try with_reducible rfl
  try simp only [Act.put, List.setIfInBounds_toArray, List.set_cons_zero, List.set_cons_succ]
  refine wpAnyH_take (i := 19) (oi := ⟨_, _, _, _, _, _⟩) (v := ?_) rfl (by kernel_rfl) (by kernel_rfl) (by kernel_rfl) (fun _ _ _ h => h) (Or.inl ⟨by rfl, ?_⟩) (by assumption) ?_
  rotate_left 1
  · intro W hSw
    have cb := (Bts.of_own hSw.own 0).string (P := Tryd.prog) 22 9 Tryd.underlying22 Tryd.underlying5 Tryd.underlying9; have c1 := hSw.arg.string (P := Tryd.prog) 22 9 Tryd.underlying22 Tryd.underlying5 Tryd.underlying9
    clear hSw
    go_simp
    try with_reducible rfl
  try simp only [Act.put, List.setIfInBounds_toArray, List.set_cons_zero, List.set_cons_succ]
  refine wpAnyH_take (i := 20) (oi := ⟨_, _, _, _, _, _⟩) (v := ?_) rfl (by kernel_rfl) (by kernel_rfl) (by kernel_rfl) (fun _ _ _ h => h) (Or.inl ⟨by rfl, ?_⟩) (by assumption) ?_
  rotate_left 1
  · intro W hSw
    have cb := (Bts.of_own hSw.own 0).string (P := Tryd.prog) 22 9 Tryd.underlying22 Tryd.underlying5 Tryd.underlying9; have c1 := hSw.arg.string (P := Tryd.prog) 22 9 Tryd.underlying22 Tryd.underlying5 Tryd.underlying9
    clear hSw
    go_simp
    try with_reducible rfl
  try simp only [Act.put, List.setIfInBounds_toArray, List.set_cons_zero, List.set_cons_succ]
  refine wpAnyH_take (i := 21) (oi := ⟨_, _, _, _, _, _⟩) (v := ?_) rfl (by kernel_rfl) (by kernel_rfl) (by kernel_rfl) (fun _ _ _ h => h) (Or.inl ⟨by rfl, ?_⟩) (by assumption) ?_
  rotate_left 1
  · intro W hSw
    have cb := (Bts.of_own hSw.own 0).string (P := Tryd.prog) 22 9 Tryd.underlying22 Tryd.underlying5 Tryd.underlying9; have c1 := hSw.arg.string (P := Tryd.prog) 22 9 Tryd.underlying22 Tryd.underlying5 Tryd.underlying9
    clear hSw
    go_simp
    try with_reducible rfl
  try simp only [Act.put, List.setIfInBounds_toArray, List.set_cons_zero, List.set_cons_succ]
  refine wpAnyH_take (i := 22) (oi := ⟨_, _, _, _, _, _⟩) (v := ?_) rfl (by kernel_rfl) (by kernel_rfl) (by kernel_rfl) (fun _ _ _ h => h) (Or.inl ⟨by rfl, ?_⟩) (by assumption) ?_
  rotate_left 1
  · intro W hSw
    have cb := (Bts.of_own hSw.own 0).string (P := Tryd.prog) 22 9 Tryd.underlying22 Tryd.underlying5 Tryd.underlying9; have c1 := hSw.arg.string (P := Tryd.prog) 22 9 Tryd.underlying22 Tryd.underlying5 Tryd.underlying9
    clear hSw
    go_simp
    try with_reducible rfl
  try simp only [Act.put, List.setIfInBounds_toArray, List.set_cons_zero, List.set_cons_succ]
  refine wpAnyH_take (i := 23) (oi := ⟨_, _, _, _, _, _⟩) (v := ?_) rfl (by kernel_rfl) (by kernel_rfl) (by kernel_rfl) (fun _ _ _ h => h) (Or.inl ⟨by rfl, ?_⟩) (by assumption) ?_
  rotate_left 1
  · intro W hSw
    have cb := (Bts.of_own hSw.own 0).string (P := Tryd.prog) 22 9 Tryd.underlying22 Tryd.underlying5 Tryd.underlying9; have c1 := hSw.arg.string (P := Tryd.prog) 22 9 Tryd.underlying22 Tryd.underlying5 Tryd.underlying9
    clear hSw
    go_simp
    try with_reducible rfl
  try simp only [Act.put, List.setIfInBounds_toArray, List.set_cons_zero, List.set_cons_succ]
  refine wpAnyH_take (i := 24) (oi := ⟨_, _, _, _, _, _⟩) (v := ?_) rfl (by kernel_rfl) (by kernel_rfl) (by kernel_rfl) (fun _ _ _ h => h) (Or.inl ⟨by rfl, ?_⟩) (by assumption) ?_
  rotate_left 1
  · intro W hSw
    have cb := (Bts.of_own hSw.own 0).string (P := Tryd.prog) 22 9 Tryd.underlying22 Tryd.underlying5 Tryd.underlying9; have c1 := hSw.arg.string (P := Tryd.prog) 22 9 Tryd.underlying22 Tryd.underlying5 Tryd.underlying9
    clear hSw
    go_simp
    try with_reducible rfl
  try simp only [Act.put, List.setIfInBounds_toArray, List.set_cons_zero, List.set_cons_succ]
  refine wpAnyH_take (i := 25) (oi := ⟨_, _, _, _, _, _⟩) (v := ?_) rfl (by kernel_rfl) (by kernel_rfl) (by kernel_rfl) (fun _ _ _ h => h) (Or.inl ⟨by rfl, ?_⟩) (by assumption) ?_
  rotate_left 1
  · intro W hSw
    have cb := (Bts.of_own hSw.own 0).string (P := Tryd.prog) 22 9 Tryd.underlying22 Tryd.underlying5 Tryd.underlying9; have c1 := hSw.arg.string (P := Tryd.prog) 22 9 Tryd.underlying22 Tryd.underlying5 Tryd.underlying9
    clear hSw
    go_simp
    try with_reducible rfl
  try simp only [Act.put, List.setIfInBounds_toArray, List.set_cons_zero, List.set_cons_succ]
  refine wpAnyH_take (i := 26) (oi := ⟨_, _, _, _, _, _⟩) (v := ?_) rfl (by kernel_rfl) (by kernel_rfl) (by kernel_rfl) (fun _ _ _ h => h) (Or.inl ⟨by rfl, ?_⟩) (by assumption) ?_
  rotate_left 1
  · intro W hSw
    have cb := (Bts.of_own hSw.own 0).string (P := Tryd.prog) 22 9 Tryd.underlying22 Tryd.underlying5 Tryd.underlying9; have c1 := hSw.arg.string (P := Tryd.prog) 22 9 Tryd.underlying22 Tryd.underlying5 Tryd.underlying9
    clear hSw
    go_simp
    try with_reducible rfl
  try simp only [Act.put, List.setIfInBounds_toArray, List.set_cons_zero, List.set_cons_succ]
  refine wpAnyH_take (i := 28) (oi := ⟨_, _, _, _, _, _⟩) (v := ?_) rfl (by kernel_rfl) (by kernel_rfl) (by kernel_rfl) (fun _ _ _ h => h) (Or.inl ⟨by rfl, ?_⟩) (by assumption) ?_
  rotate_left 1
  · intro W hSw
    have cb := (Bts.of_own hSw.own 0).string (P := Tryd.prog) 22 9 Tryd.underlying22 Tryd.underlying5 Tryd.underlying9; have c1 := hSw.arg.string (P := Tryd.prog) 22 9 Tryd.underlying22 Tryd.underlying5 Tryd.underlying9
    clear hSw
    go_simp
    try with_reducible rfl
  try simp only [Act.put, List.setIfInBounds_toArray, List.set_cons_zero, List.set_cons_succ]
  refine wpAnyH_ready (rs := [27]) (by kernel_rfl) (by simp) ?_
  refine AllReadyH.cons (o := ⟨_, _, _, _, _, _⟩) rfl (fun F hF => ?_) AllReadyH.nil
  go_simp
  refine (jOps_any _ _ _ _ _ _ _ _ _ hHeld.rep hHeld.base (fun p hp => by
    have h1 : p.1 ∈ (rcvd bs).2.2 := by rw [HC.out]; show p.1 ∈ pw.map Prod.fst; rw [HMJ.out]; exact List.mem_map_of_mem hp
    have := rcvd_small bs p.1 h1
    omega)).mono ?_
  rintro e w6 ⟨v6, q6, rfl, hm6, hq6, hb6⟩
  have HI6 := Lib.hid (hHeld.adv hb6)
  have HQ6 := Lib.hid hq6
  have HM6 := Lib.hid hm6
  obtain ⟨A6, c6, rfl, _, _⟩ := own_form hq6.row
  have HL6 : Hid (q6.length = pj.length) := Lib.hid (by have := congrArg List.length hm6; simpa using this)
  clear hm6 hq6 hb6 hHeld
  go_wp2_with fail
  refine hF.out _ _ HI6.out (fun hHeld => ?_)
  clear hF F
  try simp only [Act.put, List.setIfInBounds_toArray, List.set_cons_zero, List.set_cons_succ]
  refine wpAnyH_ready (rs := [29]) (by kernel_rfl) (by simp) ?_
  refine AllReadyH.cons (o := ⟨_, _, _, _, _, _⟩) rfl (fun F hF => ?_) AllReadyH.nil
  go_simp
  refine (opsEqual_any 0 _ _ _ q6 pw _ HQ6.out.at_ hHeld.want (by have := HPj.out; have := HL6.out; omega) (by have := HPj.out; have := HLw.out; omega)).mono ?_
  rintro e w7 ⟨⟨q, rfl, hq⟩, hb7⟩
  obtain rfl : q = true := hq.2 (HM6.out.trans HMJ.out.symm)
  have HI7 := Lib.hid (hHeld.adv hb7)
  clear hq hb7 hHeld HQ6 HM6 HL6
  go_wp2_with fail
  refine hF.out _ _ HI7.out (fun hHeld => ?_)
  clear hF F
  try simp only [Act.put, List.setIfInBounds_toArray, List.set_cons_zero, List.set_cons_succ]
  refine wpAnyH_take (i := 30) (oi := ⟨_, _, _, _, _, _⟩) (v := ?_) rfl (by kernel_rfl) (by kernel_rfl) (by kernel_rfl) (fun _ _ _ h => h) (Or.inl ⟨by rfl, ?_⟩) (by assumption) ?_
  rotate_left 1
  · intro W hSw
    have cb := (Bts.of_own hSw.own 0).string (P := Tryd.prog) 22 9 Tryd.underlying22 Tryd.underlying5 Tryd.underlying9; have c1 := hSw.arg.string (P := Tryd.prog) 22 9 Tryd.underlying22 Tryd.underlying5 Tryd.underlying9
    clear hSw
    go_simp
    try with_reducible rfl
  try simp only [Act.put, List.setIfInBounds_toArray, List.set_cons_zero, List.set_cons_succ]
  refine wpAnyH_take (i := 31) (oi := ⟨_, _, _, _, _, _⟩) (v := ?_) rfl (by kernel_rfl) (by kernel_rfl) (by kernel_rfl) (fun _ _ _ h => h) (Or.inl ⟨by rfl, ?_⟩) (by assumption) ?_
  rotate_left 1
  · intro W hSw
    have cb := (Bts.of_own hSw.own 0).string (P := Tryd.prog) 22 9 Tryd.underlying22 Tryd.underlying5 Tryd.underlying9; have c1 := hSw.arg.string (P := Tryd.prog) 22 9 Tryd.underlying22 Tryd.underlying5 Tryd.underlying9
    clear hSw
    go_simp
    try with_reducible rfl
  try simp only [Act.put, List.setIfInBounds_toArray, List.set_cons_zero, List.set_cons_succ]
  refine wpAnyH_take (i := 32) (oi := ⟨_, _, _, _, _, _⟩) (v := ?_) rfl (by kernel_rfl) (by kernel_rfl) (by kernel_rfl) (fun _ _ _ h => h) (Or.inl ⟨by rfl, ?_⟩) (by assumption) ?_
  rotate_left 1
  · intro W hSw
    have cb := (Bts.of_own hSw.own 0).string (P := Tryd.prog) 22 9 Tryd.underlying22 Tryd.underlying5 Tryd.underlying9; have c1 := hSw.arg.string (P := Tryd.prog) 22 9 Tryd.underlying22 Tryd.underlying5 Tryd.underlying9
    clear hSw
    go_simp
    try with_reducible rfl
  try simp only [Act.put, List.setIfInBounds_toArray, List.set_cons_zero, List.set_cons_succ]
  refine wpAnyH_take (i := 33) (oi := ⟨_, _, _, _, _, _⟩) (v := ?_) rfl (by kernel_rfl) (by kernel_rfl) (by kernel_rfl) (fun _ _ _ h => h) (Or.inl ⟨by rfl, ?_⟩) (by assumption) ?_
  rotate_left 1
  · intro W hSw
    have cb := (Bts.of_own hSw.own 0).string (P := Tryd.prog) 22 9 Tryd.underlying22 Tryd.underlying5 Tryd.underlying9; have c1 := hSw.arg.string (P := Tryd.prog) 22 9 Tryd.underlying22 Tryd.underlying5 Tryd.underlying9
    clear hSw
    go_simp
    try with_reducible rfl
  try simp only [Act.put, List.setIfInBounds_toArray, List.set_cons_zero, List.set_cons_succ]
  refine wpAnyH_take (i := 36) (oi := ⟨_, _, _, _, _, _⟩) (v := ?_) rfl (by kernel_rfl) (by kernel_rfl) (by kernel_rfl) (fun _ _ _ h => h) (Or.inl ⟨by rfl, ?_⟩) (by assumption) ?_
  rotate_left 1
  · intro W hSw
    have cb := (Bts.of_own hSw.own 0).string (P := Tryd.prog) 22 9 Tryd.underlying22 Tryd.underlying5 Tryd.underlying9; have c1 := hSw.arg.string (P := Tryd.prog) 22 9 Tryd.underlying22 Tryd.underlying5 Tryd.underlying9
    clear hSw
    go_simp
    try with_reducible rfl
  try simp only [Act.put, List.setIfInBounds_toArray, List.set_cons_zero, List.set_cons_succ]
  refine wpAnyH_take (i := 37) (oi := ⟨_, _, _, _, _, _⟩) (v := ?_) rfl (by kernel_rfl) (by kernel_rfl) (by kernel_rfl) (fun _ _ _ h => h) (Or.inl ⟨by rfl, ?_⟩) (by assumption) ?_
  rotate_left 1
  · intro W hSw
    have cb := (Bts.of_own hSw.own 0).string (P := Tryd.prog) 22 9 Tryd.underlying22 Tryd.underlying5 Tryd.underlying9; have c1 := hSw.arg.string (P := Tryd.prog) 22 9 Tryd.underlying22 Tryd.underlying5 Tryd.underlying9
    clear hSw
    go_simp
    try with_reducible rfl
  try simp only [Act.put, List.setIfInBounds_toArray, List.set_cons_zero, List.set_cons_succ]
  refine wpAnyH_take (i := 38) (oi := ⟨_, _, _, _, _, _⟩) (v := ?_) rfl (by kernel_rfl) (by kernel_rfl) (by kernel_rfl) (fun _ _ _ h => h) (Or.inl ⟨by rfl, ?_⟩) (by assumption) ?_
  rotate_left 1
  · intro W hSw
    have cb := (Bts.of_own hSw.own 0).string (P := Tryd.prog) 22 9 Tryd.underlying22 Tryd.underlying5 Tryd.underlying9; have c1 := hSw.arg.string (P := Tryd.prog) 22 9 Tryd.underlying22 Tryd.underlying5 Tryd.underlying9
    clear hSw
    go_simp
    try with_reducible rfl
  try simp only [Act.put, List.setIfInBounds_toArray, List.set_cons_zero, List.set_cons_succ]
  refine wpAnyH_take (i := 39) (oi := ⟨_, _, _, _, _, _⟩) (v := ?_) rfl (by kernel_rfl) (by kernel_rfl) (by kernel_rfl) (fun _ _ _ h => h) (Or.inl ⟨by rfl, ?_⟩) (by assumption) ?_
  rotate_left 1
  · intro W hSw
    have c1 := (HTk.out _ hSw.arg).string (P := Tryd.prog) 22 9 Tryd.underlying22 Tryd.underlying5 Tryd.underlying9
    clear hSw
    go_simp
    try with_reducible rfl
  try simp only [Act.put, List.setIfInBounds_toArray, List.set_cons_zero, List.set_cons_succ]
  refine wpAnyH_ready (rs := [34]) (by kernel_rfl) (by simp) ?_
  refine AllReadyH.cons (o := ⟨_, _, _, _, _, _⟩) rfl (fun F hF => ?_) AllReadyH.nil
  go_simp
  refine (jBytes_any _ _ _ _ _ _ _ _ _ hHeld.rep).mono ?_
  rintro e w8 ⟨v8, rfl, ho8, hb8⟩
  have HI8 := Lib.hid (hHeld.adv hb8)
  have HO8 := Lib.hid ho8
  obtain ⟨A8, c8, rfl, _, _⟩ := own_form ho8
  clear hb8 ho8 hHeld
  go_wp2_with fail
  refine hF.out _ _ HI8.out (fun hHeld => ?_)
  clear hF F
  try simp only [Act.put, List.setIfInBounds_toArray, List.set_cons_zero, List.set_cons_succ]
  refine wpAnyH_weaken (S2 := fun W => RtI w W (.slice A bs.length cap) (.slice OA bs.length oc) (.slice WA pw.length wc) (.slice LA pl.length lc) b w1.heap.size w2.heap.size w3.heap.size dv ev ov bs ds es pw pl pj ∧ W.ownsRow w7.heap.size 5 1 (.slice A8 ds.length c8) ds.length (bcells ds)) (fun W h => h.1) _ _ _ _ ?_
  have hHeld2 : RtI w w8 (.slice A bs.length cap) (.slice OA bs.length oc) (.slice WA pw.length wc) (.slice LA pl.length lc) b w1.heap.size w2.heap.size w3.heap.size dv ev ov bs ds es pw pl pj ∧ w8.ownsRow w7.heap.size 5 1 (.slice A8 ds.length c8) ds.length (bcells ds) := ⟨hHeld, HO8.out⟩
  refine wpAnyH_take (i := 35) (oi := ⟨_, _, _, _, _, _⟩) (v := ?_) rfl (by kernel_rfl) (by kernel_rfl) (by kernel_rfl) (fun _ _ _ h => h) (Or.inl ⟨by rfl, ?_⟩) (by assumption) ?_
  rotate_left 1
  · intro W hSw
    have cb := (Bts.of_own hSw.2 0).string (P := Tryd.prog) 22 9 Tryd.underlying22 Tryd.underlying5 Tryd.underlying9; have c1 := (HTk.out _ hSw.1.arg).string (P := Tryd.prog) 22 9 Tryd.underlying22 Tryd.underlying5 Tryd.underlying9
    clear hSw
    go_simp
    try with_reducible rfl
  try simp only [Act.put, List.setIfInBounds_toArray, List.set_cons_zero, List.set_cons_succ]
  refine wpAnyH_take (i := 40) (oi := ⟨_, _, _, _, _, _⟩) (v := ?_) rfl (by kernel_rfl) (by kernel_rfl) (by kernel_rfl) (fun _ _ _ h => h) (Or.inl ⟨by rfl, ?_⟩) (by assumption) ?_
  rotate_left 1
  · intro W hSw
    have cb := (Bts.of_own hSw.2 0).string (P := Tryd.prog) 22 9 Tryd.underlying22 Tryd.underlying5 Tryd.underlying9; have c1 := (HTk.out _ hSw.1.arg).string (P := Tryd.prog) 22 9 Tryd.underlying22 Tryd.underlying5 Tryd.underlying9
    clear hSw
    go_simp
    try with_reducible rfl
  try simp only [Act.put, List.setIfInBounds_toArray, List.set_cons_zero, List.set_cons_succ]
  refine wpAnyH_take (i := 41) (oi := ⟨_, _, _, _, _, _⟩) (v := ?_) rfl (by kernel_rfl) (by kernel_rfl) (by kernel_rfl) (fun _ _ _ h => h) (Or.inl ⟨by rfl, ?_⟩) (by assumption) ?_
  rotate_left 1
  · intro W hSw
    have cb := (Bts.of_own hSw.2 0).string (P := Tryd.prog) 22 9 Tryd.underlying22 Tryd.underlying5 Tryd.underlying9; have c1 := (HTk.out _ hSw.1.arg).string (P := Tryd.prog) 22 9 Tryd.underlying22 Tryd.underlying5 Tryd.underlying9
    clear hSw
    go_simp
    try with_reducible rfl
  try simp only [Act.put, List.setIfInBounds_toArray, List.set_cons_zero, List.set_cons_succ]
  refine wpAnyH_done (by kernel_rfl) ?_ _
  refine NoPanic.normal ?_
  have HI9 := Lib.hid hHeld2.1
  clear hHeld hHeld2 HI4 HI5 HI6 HI7 HO8 HI8
  have HSp := Lib.hid (Sp.start HI9.out.own)
  go_wp2_with fail
  go_loopw [10] (fun i wr => ∃ m : Nat, m ≤ bs.length ∧ i = .int .i64 m ∧ Sp w8 wr w.heap.size bs.length (.slice OA bs.length oc)) (fun i _ => bs.length - (intOf i).toNat)
  case atStart => exact ⟨0, by omega, rfl, HSp.out⟩
  case round =>
    obtain ⟨m, hm, rfl, hsp⟩ := hrel
    by_cases hml : m < bs.length
    · obtain ⟨g, z, rfl, hgc, hfz, hcc, hgl⟩ := hsp.cell hml
      have HW := Lib.hid hsp
      have hmI : (m : Int) < (bs.length : Int) := by omega
      have hcI : (bs.length : Int) ≤ (oc : Int) := by omega
      clear hsp hcc
      go_wp2_with fail
      go_roundw
      case rel => exact ⟨m + 1, by omega, by go_num, HW.out.step _⟩
      case measure => simp [intOf]; omega
    · obtain rfl : m = bs.length := by omega
      obtain ⟨_, _, _, hon⟩ := hsp
      have HB9 : Hid (RtB w wr (.slice A bs.length cap) b w3.heap.size dv ev ov bs ds es pj) := Lib.hid
        ⟨HI9.out.arg.onlyP hon (fun h0 k hk hs => (HSep.out k hs).1 h0 hk), HI9.out.rep.onlyV hon (fun k hk hs => (HSep.out k hs).2.1 hk) (fun p hp k hk hs => (HSep.out k hs).2.2 p hp hk),
          HI9.out.below.trans (hon.below (fun i hi _ e => by have := (row_heap HI9.out.own e).1; omega) HI9.out.below.size)⟩
      clear hon hml
      go_upto_region 11 with fail
      refine wp_region_noPanic ?_
      refine wp_region_held_drew (S := fun W => RtB w W (.slice A bs.length cap) b w3.heap.size dv ev ov bs ds es pj) (by kernel_rfl) (HB9.out.adv (Below.refl _ _).drew) (fun hHeld => ?_)
      refine wpAnyH_take (i := 0) (oi := ⟨_, _, _, _, _, _⟩) (v := ?_) rfl (by kernel_rfl) (by kernel_rfl) (by kernel_rfl) (fun _ _ _ h => h) (Or.inl ⟨by rfl, ?_⟩) (by assumption) ?_
      rotate_left 1
      · intro W hSw
        have c1 := (HTk.out _ hSw.arg).string (P := Tryd.prog) 22 9 Tryd.underlying22 Tryd.underlying5 Tryd.underlying9
        clear hSw
        go_simp
        try with_reducible rfl
      try simp only [Act.put, List.setIfInBounds_toArray, List.set_cons_zero, List.set_cons_succ]
      refine wpAnyH_take (i := 3) (oi := ⟨_, _, _, _, _, _⟩) (v := ?_) rfl (by kernel_rfl) (by kernel_rfl) (by kernel_rfl) (fun _ _ _ h => h) (Or.inl ⟨by rfl, ?_⟩) (by assumption) ?_
      rotate_left 1
      · intro W hSw
        have c1 := (HTk.out _ hSw.arg).string (P := Tryd.prog) 22 9 Tryd.underlying22 Tryd.underlying5 Tryd.underlying9
        clear hSw
        go_simp
        try with_reducible rfl
      try simp only [Act.put, List.setIfInBounds_toArray, List.set_cons_zero, List.set_cons_succ]
      refine wpAnyH_take (i := 4) (oi := ⟨_, _, _, _, _, _⟩) (v := ?_) rfl (by kernel_rfl) (by kernel_rfl) (by kernel_rfl) (fun _ _ _ h => h) (Or.inl ⟨by rfl, ?_⟩) (by assumption) ?_
      rotate_left 1
      · intro W hSw
        have c1 := (HTk.out _ hSw.arg).string (P := Tryd.prog) 22 9 Tryd.underlying22 Tryd.underlying5 Tryd.underlying9
        clear hSw
        go_simp
        try with_reducible rfl
      try simp only [Act.put, List.setIfInBounds_toArray, List.set_cons_zero, List.set_cons_succ]
      refine wpAnyH_take (i := 5) (oi := ⟨_, _, _, _, _, _⟩) (v := ?_) rfl (by kernel_rfl) (by kernel_rfl) (by kernel_rfl) (fun _ _ _ h => h) (Or.inl ⟨by rfl, ?_⟩) (by assumption) ?_
      rotate_left 1
      · intro W hSw
        have c1 := (HTk.out _ hSw.arg).string (P := Tryd.prog) 22 9 Tryd.underlying22 Tryd.underlying5 Tryd.underlying9
        clear hSw
        go_simp
        try with_reducible rfl
      try simp only [Act.put, List.setIfInBounds_toArray, List.set_cons_zero, List.set_cons_succ]
      refine wpAnyH_take (i := 6) (oi := ⟨_, _, _, _, _, _⟩) (v := ?_) rfl (by kernel_rfl) (by kernel_rfl) (by kernel_rfl) (fun _ _ _ h => h) (Or.inl ⟨by rfl, ?_⟩) (by assumption) ?_
      rotate_left 1
      · intro W hSw
        have c1 := (HTk.out _ hSw.arg).string (P := Tryd.prog) 22 9 Tryd.underlying22 Tryd.underlying5 Tryd.underlying9
        clear hSw
        go_simp
        try with_reducible rfl
      try simp only [Act.put, List.setIfInBounds_toArray, List.set_cons_zero, List.set_cons_succ]
      refine wpAnyH_ready (rs := [1]) (by kernel_rfl) (by simp) ?_
      refine AllReadyH.cons (o := ⟨_, _, _, _, _, _⟩) rfl (fun F hF => ?_) AllReadyH.nil
      go_simp
      refine (jBytes_any _ _ _ _ _ _ _ _ _ hHeld.rep).mono ?_
      rintro e w9 ⟨v9, rfl, ho9, hb9⟩
      have HB10 := Lib.hid (hHeld.adv hb9)
      have HO9 := Lib.hid ho9
      obtain ⟨A9, c9, rfl, _, _⟩ := own_form ho9
      obtain ⟨base9, hbase9⟩ : ∃ n, (World.drew wr).heap.size = n := ⟨_, rfl⟩
      rw [hbase9] at HO9
      clear hb9 ho9 hHeld hbase9
      go_wp2_with fail
      refine hF.out _ _ HB10.out (fun hHeld => ?_)
      clear hF F
      try simp only [Act.put, List.setIfInBounds_toArray, List.set_cons_zero, List.set_cons_succ]
      refine wpAnyH_weaken (S2 := fun W => RtB w W (.slice A bs.length cap) b w3.heap.size dv ev ov bs ds es pj ∧ W.ownsRow base9 5 1 (.slice A9 ds.length c9) ds.length (bcells ds)) (fun W h => h.1) _ _ _ _ ?_
      have hHeld2 : RtB w w9 (.slice A bs.length cap) b w3.heap.size dv ev ov bs ds es pj ∧ w9.ownsRow base9 5 1 (.slice A9 ds.length c9) ds.length (bcells ds) := ⟨hHeld, HO9.out⟩
      refine wpAnyH_take (i := 2) (oi := ⟨_, _, _, _, _, _⟩) (v := ?_) rfl (by kernel_rfl) (by kernel_rfl) (by kernel_rfl) (fun _ _ _ h => h) (Or.inl ⟨by rfl, ?_⟩) (by assumption) ?_
      rotate_left 1
      · intro W hSw
        have cb := (Bts.of_own hSw.2 0).string (P := Tryd.prog) 22 9 Tryd.underlying22 Tryd.underlying5 Tryd.underlying9
        clear hSw
        go_simp
        try with_reducible rfl
      try simp only [Act.put, List.setIfInBounds_toArray, List.set_cons_zero, List.set_cons_succ]
      refine wpAnyH_take (i := 7) (oi := ⟨_, _, _, _, _, _⟩) (v := ?_) rfl (by kernel_rfl) (by kernel_rfl) (by kernel_rfl) (fun _ _ _ h => h) (Or.inl ⟨by rfl, ?_⟩) (by assumption) ?_
      rotate_left 1
      · intro W hSw
        have cb := (Bts.of_own hSw.2 0).string (P := Tryd.prog) 22 9 Tryd.underlying22 Tryd.underlying5 Tryd.underlying9
        clear hSw
        go_simp
        try with_reducible rfl
      try simp only [Act.put, List.setIfInBounds_toArray, List.set_cons_zero, List.set_cons_succ]
      refine wpAnyH_take (i := 8) (oi := ⟨_, _, _, _, _, _⟩) (v := ?_) rfl (by kernel_rfl) (by kernel_rfl) (by kernel_rfl) (fun _ _ _ h => h) (Or.inl ⟨by rfl, ?_⟩) (by assumption) ?_
      rotate_left 1
      · intro W hSw
        have cb := (Bts.of_own hSw.2 0).string (P := Tryd.prog) 22 9 Tryd.underlying22 Tryd.underlying5 Tryd.underlying9
        clear hSw
        go_simp
        try with_reducible rfl
      try simp only [Act.put, List.setIfInBounds_toArray, List.set_cons_zero, List.set_cons_succ]
      refine wpAnyH_done (by kernel_rfl) ?_ _
      refine NoPanic.normal ?_
      have HE := Lib.hid hHeld.below
      clear hHeld hHeld2 HB10 HB9
      go_wp2_with fail
      go_ret
      exact ⟨rfl, HE.out⟩

end Go.Proofs.YtffigmciclopdaaDoor
