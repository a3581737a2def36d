/- The reference's arena's calls (layer 13) against the plain lists. -/
import Derived.Test.YtookfhmghchkjaaRsK
namespace Go.Proofs.Ytookfhmghchkjaa
open Go Go.RowKit

/-- An arena of the reference after a call at w: its cells' bytes are old ones, or new ones of their own. -/
def RNx (w w' : World) (B m : Nat) (most : Int) (st : PSt) (vs : List (List UInt8 × Value)) (av : Value) : Prop :=
  ∃ cv bv uv fv ks vs' us fr, av = .agg #[.int .i64 most, cv, bv, uv, fv] ∧ RRep w' B cv bv uv fv ks vs' us fr ∧ RSync m st ks (vs'.map Prod.fst) us fr ∧ (∀ x ∈ vs', x ∈ vs ∨ ∀ g, x.2.ownBlock = some g → w.heap.size ≤ g)

section
variable {V0 B m m' : Nat} {most : Int} {cv bv uv fv v : Value} {bs : List UInt8} {ks : List (Int × Int)} {vs : List (List UInt8 × Value)} {us : List Bool} {fr : List (Int × Int)} {w : World} {st : PSt}

theorem RNx.same {w' : World} (h : RRep w' B cv bv uv fv ks vs us fr) (hs : RSync m st ks (vs.map Prod.fst) us fr) : RNx w w' B m most st vs (.agg #[.int .i64 most, cv, bv, uv, fv]) :=
  ⟨cv, bv, uv, fv, ks, vs, us, fr, rfl, h, hs, fun _ hx => .inl hx⟩
theorem RNx.of_res {ks' : List (Int × Int)} {bss' : List (List UInt8)} {us' : List Bool} {fr' : List (Int × Int)} {mk : Value → Value} {e : Ending} {w' : World} {st' : PSt} (h : RRes w most ks' bss' us' fr' mk e w') (hs : RSync m st' ks' bss' us' fr') (hB : B ≤ w.heap.size) :
    ∃ av, e = .returned (mk av) ∧ RNx w w' B m most st' vs av ∧ Below w.heap.size w w' := by
  obtain ⟨cv', bv', uv', fv', vs', rfl, h1, h2, h3, h4⟩ := h
  exact ⟨_, rfl, ⟨cv', bv', uv', fv', ks', vs', us', fr', rfl, h1.base hB, by rw [h2]; exact hs, fun x hx => .inr (h3 x hx)⟩, h4⟩

theorem RSync.lens (hs : RSync m st ks (vs.map Prod.fst) us fr) (hm : m ≤ 1000) : ks.length ≤ 1000 ∧ us.length = ks.length ∧ vs.length = ks.length ∧ fr.length ≤ 1000 := by
  have h1 := hs.lb
  rw [List.length_map] at h1
  exact ⟨Nat.le_trans hs.lm hm, hs.lu, h1, Nat.le_trans hs.fm hm⟩
theorem RSync.vbytes (hs : RSync m st ks (vs.map Prod.fst) us fr) (hw : PWf m' st) : ∀ x ∈ vs, x.1.length ≤ 65536 := fun x hx => hs.bytes hw _ (List.mem_map_of_mem hx)

theorem fr_last {a : Nat} {n : Nat} (hf : (st a).fr = (st a).fr.dropLast ++ [n]) : (st a).fr.reverse.map (fun n : Nat => (n : Int)) = (n : Int) :: (st a).fr.dropLast.reverse.map (fun n : Nat => (n : Int)) := by
  rw [hf, List.dropLast_concat, List.reverse_append]
  simp

/-- Put, when it succeeds. -/
theorem rput_ok (h : RRep w B cv bv uv fv ks vs us fr) (hs : RSync m st ks (vs.map Prod.fst) us fr) (hw : PWf m' st) (hm : m ≤ 1000) (hmo : 0 ≤ most ∧ most ≤ 1099511627776) (hv : Bts w V0 5 v bs) (hp : (pput most st bs).2.2.1 = 0) :
    ∃ ks' bss' us' fr', RSync (m + 1) (pput most st bs).2.2.2 ks' bss' us' fr' ∧ (∀ W, RRep W B cv bv uv fv ks vs us fr → Bts W V0 5 v bs →
      Calls Try.prog 35 #[.agg #[.int .i64 most, cv, bv, uv, fv], v] W (RRes W most ks' bss' us' fr' (fun a => .tuple #[a, .agg #[.int .i64 (pput most st bs).1, .int .i64 (pput most st bs).2.1], .int .i64 0]))) := by
  obtain ⟨hl, hp⟩ := pput_ok hp
  have hn := hs.lens hm
  have hk : classN bs.length < 13 := by have := classN_le hl; omega
  rcases hp with ⟨hf, hall, e⟩ | ⟨n, hf, e⟩
  · rw [e]
    have hfr : fFr (classN bs.length : Int) fr = [] := by rw [hs.free _ hk, hf]; rfl
    have hc := hs.cnt _ hk
    refine ⟨_, _, _, _, hs.new hw hk bs, fun W hR hV => ?_⟩
    have := refPut_new B most cv bv uv fv v bs ks vs us fr W hR hV hl hn hs.classes (hs.vbytes hw) _ rfl hfr (by rw [hs.all]; exact hall) hmo
    rw [hc] at this
    exact this
  · rw [e]
    have hmem : n ∈ (st (classN bs.length)).fr := by rw [hf]; simp
    obtain ⟨i, hi⟩ := hs.ex _ n hk (hw.frlt hk hmem)
    refine ⟨_, _, _, _, (hs.reuse hw hk hf hi bs).mono (Nat.le_succ m), fun W hR hV => ?_⟩
    exact refPut_free B most cv bv uv fv v bs ks vs us fr W hR hV hl hn (hs.vbytes hw) _ rfl n _ (by rw [hs.free _ hk, fr_last hf]) i hi (fun j hj => hs.uniq j i _ hj hi)

theorem rput_err (hs : RSync m st ks (vs.map Prod.fst) us fr) (hw : PWf m' st) (hm : m ≤ 1000) (hmo : 0 ≤ most ∧ most ≤ 1099511627776) (hp : (pput most st bs).2.2.1 ≠ 0) (W : World) (hR : RRep W B cv bv uv fv ks vs us fr) (hV : Bts W V0 5 v bs) :
    Calls Try.prog 35 #[.agg #[.int .i64 most, cv, bv, uv, fv], v] W fun e w' => e = .returned (.tuple #[.agg #[.int .i64 most, cv, bv, uv, fv], .agg #[.int .i64 0, .int .i64 0], .int .i64 (pput most st bs).2.2.1]) ∧ Below W.heap.size W w' := by
  obtain ⟨_, hp⟩ := pput_no hp
  have hn := hs.lens hm
  rcases hp with ⟨e, hl⟩ | ⟨e, hl, hf, hall⟩
  · rw [e]
    exact refPut_long B most cv bv uv fv v bs ks vs us fr W hR hV hl
  · rw [e]
    have hk : classN bs.length < 13 := by have := classN_le hl; omega
    exact refPut_full B most cv bv uv fv v bs ks vs us fr W hR hV hl hn hs.classes (hs.vbytes hw) _ rfl (by rw [hs.free _ hk, getLast_none hf]; rfl) (by rw [hs.all]; exact hall) hmo

theorem rput_any (h : RRep w B cv bv uv fv ks vs us fr) (hB : B ≤ w.heap.size) (hs : RSync m st ks (vs.map Prod.fst) us fr) (hw : PWf m' st) (hm : m ≤ 1000) (hmo : 0 ≤ most ∧ most ≤ 1099511627776) (hv : Bts w V0 5 v bs) :
    Calls Try.prog 35 #[.agg #[.int .i64 most, cv, bv, uv, fv], v] w fun e w' => ∃ av, e = .returned (.tuple #[av, .agg #[.int .i64 (pput most st bs).1, .int .i64 (pput most st bs).2.1], .int .i64 (pput most st bs).2.2.1]) ∧ RNx w w' B (m + 2) most (pput most st bs).2.2.2 vs av ∧ Below w.heap.size w w' := by
  by_cases hp : (pput most st bs).2.2.1 = 0
  · obtain ⟨ks', bss', us', fr', h1, h2⟩ := rput_ok h hs hw hm hmo hv hp
    refine (h2 w h hv).mono fun e w' he => ?_
    obtain ⟨av, e1, e2, e3⟩ := RNx.of_res (vs := vs) he (h1.mono (Nat.le_succ _)) hB
    exact ⟨av, by rw [e1, hp], e2, e3⟩
  · refine (rput_err hs hw hm hmo hp w h hv).mono ?_
    rintro e w' ⟨rfl, hb⟩
    obtain ⟨e, _⟩ := pput_no hp
    exact ⟨_, by rw [e], by rw [e]; exact RNx.same (h.below hb) (hs.mono (by omega)), hb⟩

theorem rrel_any (h : RRep w B cv bv uv fv ks vs us fr) (hB : B ≤ w.heap.size) (hs : RSync m st ks (vs.map Prod.fst) us fr) (hw : PWf m' st) (hm : m ≤ 1000) (K N : Int) :
    Calls Try.prog 37 #[.agg #[.int .i64 most, cv, bv, uv, fv], .agg #[.int .i64 K, .int .i64 N]] w fun e w' => ∃ av, e = .returned (.tuple #[av, .int .i64 (pfree st K N).1]) ∧ RNx w w' B (m + 2) most (pfree st K N).2 vs av ∧ Below w.heap.size w w' := by
  have hn := hs.lens hm
  cases hp : phas st K N with
  | none =>
    have e : pfree st K N = (9, st) := by unfold pfree; rw [hp]
    rw [e]
    refine (refRel_none B most K N cv bv uv fv ks vs us fr w h ⟨hn.1, hn.2.1⟩ (hs.has_none hp)).mono ?_
    rintro e w' ⟨rfl, hb⟩
    exact ⟨_, rfl, RNx.same (h.below hb) (hs.mono (by omega)), hb⟩
  | some bs =>
    obtain ⟨i, hat, _, hi⟩ := hs.has_some hp
    obtain ⟨k, n, rfl, rfl, hk, hc⟩ := phas_some hp
    rw [pfree_other hk hc]
    refine (refRel_some B most k n cv bv uv fv ks vs us fr w h hn (hs.vbytes hw) i hat).mono fun e w' he => ?_
    exact RNx.of_res he ((hs.free1 hw hk hi hc).mono (Nat.le_succ _)) hB

theorem pput_keeps {most : Int} {st : PSt} {bs : List UInt8} {m' : Nat} (hw : PWf m' st) {k n : Nat} (hk : k < 13) {b0 : List UInt8} (hc : (st k).cs[n]? = some (b0, true)) (h0 : (pput most st bs).2.2.1 = 0) : ((pput most st bs).2.2.2 k).cs[n]? = some (b0, true) := by
  obtain ⟨hl, hp⟩ := pput_ok h0
  have hk2 : classN bs.length < 13 := by have := classN_le hl; omega
  rcases hp with ⟨_, _, e⟩ | ⟨q, hf, e⟩
  · rw [e]
    dsimp only
    by_cases e2 : k = classN bs.length
    · rw [e2, pupd_same]
      dsimp only
      rw [← e2, List.getElem?_append_left (List.getElem?_eq_some_iff.1 hc).1]
      exact hc
    · rw [pupd_other st _ e2]; exact hc
  · rw [e]
    dsimp only
    by_cases e2 : k = classN bs.length
    · rw [e2, pupd_same]
      dsimp only
      rw [← e2]
      have hq : (st k).cs[q]? = some ([], false) := by rw [e2]; exact hw.fr _ hk2 q (by rw [hf]; simp)
      have hne : q ≠ n := fun e => by
        subst e
        rw [hc] at hq
        injection hq with hq
        injection hq with _ hq
        cases hq
      rw [List.getElem?_set_ne hne]; exact hc
    · rw [pupd_other st _ e2]; exact hc

theorem rswap_any (h : RRep w B cv bv uv fv ks vs us fr) (hB : B ≤ w.heap.size) (hs : RSync m st ks (vs.map Prod.fst) us fr) (hw : PWf m' st) (hm : m + 1 ≤ 1000) (hmo : 0 ≤ most ∧ most ≤ 1099511627776) (hv : Bts w V0 5 v bs) (K N : Int) :
    Calls Try.prog 38 #[.agg #[.int .i64 most, cv, bv, uv, fv], .agg #[.int .i64 K, .int .i64 N], v] w fun e w' => ∃ av, e = .returned (.tuple #[av, .agg #[.int .i64 (pswap most st K N bs).1, .int .i64 (pswap most st K N bs).2.1], .int .i64 (pswap most st K N bs).2.2.1]) ∧ RNx w w' B (m + 2) most (pswap most st K N bs).2.2.2 vs av ∧ Below w.heap.size w w' := by
  have hn := hs.lens (show m ≤ 1000 by omega)
  cases hp : phas st K N with
  | none =>
    have e : pswap most st K N bs = (0, 0, 9, st) := by unfold pswap; rw [hp]
    rw [e]
    refine (refSwap_none B most K N cv bv uv fv v bs ks vs us fr w h hv hn (hs.has_none hp)).mono ?_
    rintro e w' ⟨rfl, hb⟩
    exact ⟨_, rfl, RNx.same (h.below hb) (hs.mono (by omega)), hb⟩
  | some b0 =>
    obtain ⟨i, hat, _, hi⟩ := hs.has_some hp
    have hu := (rAt_is hat).2
    obtain ⟨k, n, rfl, rfl, hk, hc⟩ := phas_some hp
    by_cases hcl : bs.length ≤ 65536 ∧ (classN bs.length : Int) = k
    · have e : pswap most st k n bs = ((k : Int), (n : Int), 0, pupd st k ⟨(st k).cs.set n (bs, true), (st k).fr⟩) := by
        unfold pswap; rw [hp]; dsimp only; rw [if_pos hcl]; simp
      rw [e]
      refine (refSwap_same B most k n cv bv uv fv v bs ks vs us fr w h hv hn (hs.vbytes hw) i hat hcl.1 hcl.2).mono fun e w' he => ?_
      exact RNx.of_res he ((hs.put1 hk hi bs hc hu).mono (by omega)) hB
    · have hcls : 65536 < bs.length ∨ (bs.length ≤ 65536 ∧ (classN bs.length : Int) ≠ k) := by
        by_cases hl : bs.length ≤ 65536
        · exact .inr ⟨hl, fun e => hcl ⟨hl, e⟩⟩
        · exact .inl (by omega)
      by_cases h0 : (pput most st bs).2.2.1 = 0
      · have e : pswap most st k n bs = ((pput most st bs).1, (pput most st bs).2.1, 0, (pfree (pput most st bs).2.2.2 k n).2) := by
          unfold pswap; rw [hp]; dsimp only; rw [if_neg hcl, if_pos h0]
        rw [e]
        obtain ⟨ks', bss', us', fr', h1, h2⟩ := rput_ok h hs hw (by omega) hmo hv h0
        have hw2 := hw.put most bs
        have hc2 := pput_keeps hw hk hc h0
        have hp2 : phas (pput most st bs).2.2.2 k n = some b0 := by rw [phas_of hk hc2]; rfl
        obtain ⟨i2, hat2, _, hi2⟩ := h1.has_some hp2
        have hlm := h1.lm
        have hfm := h1.fm
        refine (refSwap_put B most k n _ _ cv bv uv fv v bs ks ks' vs bss' us us' fr fr' w h hv hn i hat hcls h2 ⟨by omega, h1.lu, h1.lb, by omega⟩ (h1.bytes hw2) i2 hat2).mono fun e w' he => ?_
        rw [pfree_other hk hc2]
        exact RNx.of_res he (h1.free1 hw2 hk hi2 hc2) hB
      · have e : pswap most st k n bs = (0, 0, (pput most st bs).2.2.1, st) := by
          unfold pswap; rw [hp]; dsimp only; rw [if_neg hcl, if_neg h0]
        rw [e]
        refine (refSwap_err B most k n _ cv bv uv fv v bs ks vs us fr w h hv hn i hat hcls h0 (fun W hR hV => rput_err hs hw (by omega) hmo h0 W hR hV)).mono ?_
        rintro e w' ⟨rfl, hb⟩
        exact ⟨_, rfl, RNx.same (h.below hb) (hs.mono (by omega)), hb⟩

theorem rget_none (h : RRep w B cv bv uv fv ks vs us fr) (hs : RSync m st ks (vs.map Prod.fst) us fr) (hm : m ≤ 1000) {K N : Int} (hp : phas st K N = none) :
    Calls Try.prog 36 #[.agg #[.int .i64 most, cv, bv, uv, fv], .agg #[.int .i64 K, .int .i64 N]] w fun e w' => e = .returned (.tuple #[.slice none 0 0, .int .i64 9]) ∧ Below w.heap.size w w' :=
  refGet_none B most K N cv bv uv fv ks vs us fr w h hs.lu (hs.lens hm).1 (hs.has_none hp)
theorem rget_some (h : RRep w B cv bv uv fv ks vs us fr) (hs : RSync m st ks (vs.map Prod.fst) us fr) (hm : m ≤ 1000) {K N : Int} (hp : phas st K N = some bs) :
    Calls Try.prog 36 #[.agg #[.int .i64 most, cv, bv, uv, fv], .agg #[.int .i64 K, .int .i64 N]] w fun e w' => ∃ v, e = .returned (.tuple #[v, .int .i64 0]) ∧ Bts w' 0 5 v bs ∧ Below w.heap.size w w' := by
  obtain ⟨i, hat, hb, _⟩ := hs.has_some hp
  have hn := hs.lens hm
  rw [List.getElem?_map] at hb
  cases hx : vs[i]? with
  | none => rw [hx] at hb; cases hb
  | some x =>
    rw [hx] at hb
    simp at hb
    subst hb
    refine (refGet_some B most K N cv bv uv fv ks vs us fr w h hn.2.1 hn.2.2.1 hn.1 i x hat hx).mono ?_
    rintro e w' ⟨rfl, hbl⟩
    exact ⟨x.2, rfl, (h.vals x (List.mem_of_getElem? hx)).below hbl, hbl⟩
end

end Go.Proofs.Ytookfhmghchkjaa
