/- The walk of JournalAppends. -/
import Derived.Test.YtffigmciclopdaaDoorJouZ
import Derived.Test.YtffigmciclopdaaDoorJouZA
namespace Go.Proofs.YtffigmciclopdaaDoor
open Go Go.RowKit

/-- What filled leaves, for is. -/
theorem FlI.is {w W : World} {v6 v7 v8 dv ev ov v : Value} {ds : List UInt8} {es : List Nat} {ps pw pj : List (OpV × Value)} {m : Nat} (h : FlI w W v6 v7 v8 dv ev ov ds es pw ds es pj) (hp : FlP ps ds es pw pj m) (ha : OpsAt w w.heap.size v ps) (hs : ∀ p ∈ ps, p.1.val.length ≤ 1000) :
    IsH W w.heap.size w.heap.size w.heap.size w.heap.size dv ev ov v6 v7 ds es pj pw := by
  have hav := ha.below h.below
  refine ⟨h.rep, h.below.size, OpsAt.of_own h.ops (fun p hp2 => hav.vals p (hp.sub p hp2)) (fun p hp2 => hav.wf p (hp.sub p hp2)), h.ends, hp.same, hp.mono, fun p hp2 => ?_⟩
  have h1 : p.1 ∈ pw.map Prod.fst := by rw [← hp.same]; exact List.mem_map_of_mem hp2
  obtain ⟨q, hq, e⟩ := List.mem_map.1 h1
  have := hs q (hp.sub q hq)
  rw [← e]
  omega

/-- A journal that has been written to, beside what has come in. -/
theorem IsH.only {w W : World} {B b Bl Be : Nat} {dv ev ov vl ve : Value} {ds : List UInt8} {es : List Nat} {pj pw : List (OpV × Value)} (h : IsH w B b Bl Be dv ev ov vl ve ds es pj pw) {S : Nat → Prop} (ho : Only S w W) (h1 : JRep W B b dv ev ov ds es pj) (h2 : OpsAt W Bl vl pw) (h3 : W.ownsRow Be 3 1 ve es.length (ncs es)) : IsH W B b Bl Be dv ev ov vl ve ds es pj pw :=
  ⟨h1, Nat.le_trans h.base ho.size, h2, h3, h.same, h.mono, h.small⟩

set_option maxRecDepth 100000 in
set_option maxHeartbeats 4000000 in
theorem appends_walk (v : Value) (ps : List (OpV × Value)) (w : World) (ha : OpsAt w w.heap.size v ps) (hks : ∀ q ∈ ps, q.1.key.size ≤ maxLen) (hk : KG w) :
    Calls Tryd.prog 6 #[v] w fun e w' => e = .returned (.bool true) ∧ Below w.heap.size w w' := by
  have HF := Lib.hid (few_any w.heap.size v ps 30 w ha (by decide) hks)
  have HA := Lib.hid ha
  have HK := Lib.hid hk
  clear ha hks hk
  go_enter Tryd.func6, Tryd.ntmps6
  go_wp2_with fail
  refine HF.out.mono ?_
  rintro e w1 ⟨⟨q, rfl, hq⟩, hb1⟩
  have HB1 := Lib.hid hb1
  have HK1 := Lib.hid (HK.out.below hb1 HK.out.1)
  have HA1 := Lib.hid (HA.out.below hb1)
  cases q with
  | false =>
    clear hq hb1
    go_wp2_with fail
    refine (known_true _ HK1.out).mono ?_
    rintro e w2 ⟨rfl, hb2⟩
    have HB2 := Lib.hid (HB1.out.trans (hb2.mono HB1.out.size))
    clear hb2
    go_wp2_with fail
    go_ret
    exact ⟨rfl, HB2.out⟩
  | true =>
    obtain ⟨hl, hli⟩ := hq rfl
    have hsm : ∀ p ∈ ps, p.1.val.length ≤ 1000 := fun p hp => by
      have := hli p hp
      unfold lightO at this
      have := of_decide_eq_true this
      omega
    have hA1' : OpsAt w1 w1.heap.size v ps := ⟨HA1.out.form, fun p hp => (HA1.out.vals p hp).more HB1.out.size, HA1.out.wf⟩
    have HA1' := Lib.hid hA1'
    have HSm := Lib.hid hsm
    have HLn := Lib.hid hl
    have HFl := Lib.hid (filled_any v ps w1 hA1' HK1.out hl hsm)
    clear hq hb1 hl hli hsm hA1' HF
    go_wp2_with fail
    refine HFl.out.mono ?_
    rintro e w2 ⟨v6, v7, v8, dv, ev, ov, ds, es, pw, pj, rfl, hI, hP⟩
    have HI := Lib.hid hI
    have HP := Lib.hid hP
    have HIs := Lib.hid (hI.is hP HA1'.out HSm.out)
    have hes : es.length ≤ 30 := by have := hP.cnt; have := HLn.out; omega
    have hpe : pw.length = es.length := by
      have h1 := hI.rep.elen
      have h2 := congrArg List.length hP.same
      simp at h2; omega
    have hdl : ds.length ≤ 8940 := by have := hP.dl; have := HLn.out; omega
    have HEs := Lib.hid hes
    have HPe := Lib.hid hpe
    have HDl := Lib.hid hdl
    have HB2 := Lib.hid (HB1.out.trans (hI.below.mono HB1.out.size))
    obtain ⟨A6, c6, rfl, _, _⟩ := own_form hI.ops
    obtain ⟨A7, c7, rfl, _, _⟩ := own_form hI.ends
    clear hI hP hes hpe hdl
    go_wp2_with fail
    refine (is_any _ _ _ _ _ _ _ _ _ _ _ _ _ _ HIs.out).mono ?_
    rintro e w3 ⟨rfl, hb3⟩
    have HI3 := Lib.hid (HI.out.adv hb3)
    have HIs3 := Lib.hid (HIs.out.below hb3)
    have HB3 := Lib.hid (HB2.out.trans (hb3.mono HB2.out.size))
    clear hb3
    go_wp2_with fail
    refine (copy_any _ _ _ _ _ _ _ _ _ HIs3.out.rep HIs3.out.base HIs3.out.small).mono ?_
    rintro e w4 ⟨cb, cd, ce, co, cj, rfl, hcm, hcr, hcf, hcv, hb4⟩
    have HI4 := Lib.hid (HI3.out.adv hb4)
    have HB4 := Lib.hid (HB3.out.trans (hb4.mono HB3.out.size))
    have HIs4 := Lib.hid (HIs3.out.below hb4)
    have HCm := Lib.hid hcm
    have HCr := Lib.hid hcr
    have HCf := Lib.hid hcf
    have HCv := Lib.hid hcv
    have HS4 := Lib.hid hb4.size
    clear hcm hcr hcf hcv hb4
    go_wp2_with fail
    refine (adv_any _).mono ?_
    rintro e w5 ⟨rfl, hb5⟩
    have HI5 := Lib.hid (HI4.out.adv hb5)
    have HB5 := Lib.hid (HB4.out.trans (hb5.mono HB4.out.size))
    have HIs5 := Lib.hid (HIs4.out.below hb5)
    have HCr5 := Lib.hid (HCr.out.below hb5)
    have HS45 := Lib.hid hb5.size
    clear hb5
    unfold opv opc advO
    go_wp2_with fail
    refine (append_any _ _ dv ev ov ds es pj advO (.slice none 0 0) w5 HI5.out.rep (Bts.nil _ _ _) (HK.out.below HB5.out HK.out.1) (by decide) HI5.out.below.size).mono ?_
    intro e w6 hap
    unfold ApPost at hap
    have hra : recO (sumL ds) advO = some (recB (sumL ds) [9]) := by unfold recO; rw [k_adv]; rfl
    have hrl : (recB (sumL ds) [9]).length = 7 := recB_len _ [9]
    rw [hra] at hap
    dsimp only at hap
    rw [if_neg (by have := HEs.out; have := HDl.out; omega)] at hap
    obtain ⟨rfl, d2, e2, o2, V', hr6, ho6, hf6, hV6⟩ := hap
    have hnot : ∀ k, w3.heap.size ≤ k → ¬ jFp w1.heap.size dv ev ov k := fun k hk e => by
      have := (HI3.out.rep.toJS.fp_lt e).2; omega
    have HCr6 := Lib.hid (HCr5.out.onlyV ho6 (fun k hk => hnot k (HCf.out k hk)) (fun p hp k hk => hnot k (HCv.out p hp k hk)))
    have HB6 : Hid (Below w.heap.size w w6) := Lib.hid (HB5.out.trans (ho6.below (fun i hi _ e => by have := (HI5.out.rep.toJS.fp_lt e).1; have := HB1.out.size; omega) HB5.out.size))
    have hbw6 : Below w1.heap.size w1 w6 := HI5.out.below.trans (ho6.below (fun i hi _ e => by have := (HI5.out.rep.toJS.fp_lt e).1; omega) HI5.out.below.size)
    have hav := HA1'.out.below hbw6
    have HIc : Hid (IsH w6 w3.heap.size cb w1.heap.size w1.heap.size cd ce co (.slice A6 pw.length c6) (.slice A7 es.length c7) ds es cj pw) := Lib.hid
      ⟨HCr6.out, Nat.le_trans HS4.out (Nat.le_trans HS45.out ho6.size), OpsAt.of_own (ownsRow_only HI5.out.ops ho6 (fun k hk => (HI5.out.sep k (.inl hk)).1)) (fun p hp2 => hav.vals p (HP.out.sub p hp2)) (fun p hp2 => hav.wf p (HP.out.sub p hp2)), ownsRow_only HI5.out.ends ho6 (fun k hk => (HI5.out.sep k (.inr (.inl hk))).1), HCm.out.trans HIs.out.same, HIs.out.mono, fun p hp => by
        have h1 : p.1 ∈ pj.map Prod.fst := by rw [← HCm.out]; exact List.mem_map_of_mem hp
        obtain ⟨q, hq, e⟩ := List.mem_map.1 h1
        rw [← e]; exact HIs.out.small q hq⟩
    have HR6 := Lib.hid hr6
    clear hr6 ho6 hf6 hV6 hnot hbw6 hav hra hrl
    have hpI : (pw.length : Int) ≤ 30 := by have := HEs.out; have := HPe.out; omega
    go_wp2_with fail
    refine (jLen_any _ _ _ _ _ _ _ _ _ HR6.out).mono ?_
    rintro e w7 ⟨he, hw7⟩
    subst hw7
    rw [List.length_append, List.length_singleton, ← HPe.out] at he
    subst he
    go_wp2_with fail
    refine (is_any _ _ _ _ _ _ _ _ _ _ _ _ _ _ HIc.out).mono ?_
    rintro e w8 ⟨rfl, hb8⟩
    have HB8 := Lib.hid (HB6.out.trans (hb8.mono HB6.out.size))
    clear hb8
    go_wp2_with fail
    refine (known_true _ (HK.out.below HB8.out HK.out.1)).mono ?_
    rintro e w9 ⟨rfl, hb9⟩
    have HB9 := Lib.hid (HB8.out.trans (hb9.mono HB8.out.size))
    clear hb9
    go_wp2_with fail
    go_ret
    exact ⟨rfl, HB9.out⟩

end Go.Proofs.YtffigmciclopdaaDoor
