/- The walk of JournalSpoilt. -/
import Derived.Test.YtffigmciclopdaaDoorJouZ
import Derived.Test.YtffigmciclopdaaDoorJouX
namespace Go.Proofs.YtffigmciclopdaaDoor
open Go Go.RowKit

/-- What the last region reads: the journal's bytes and some others. -/
structure SpI (w W : World) (base : Nat) (vb vm : Value) (bb mm : List UInt8) : Prop where
  bytes : W.ownsRow base 5 1 vb bb.length (bcells bb)
  more : Bts W w.heap.size 5 vm mm
  kg : KG W
  below : Below w.heap.size w W
theorem SpI.adv {w W W2 : World} {base : Nat} {vb vm : Value} {bb mm : List UInt8} (h : SpI w W base vb vm bb mm) (hb : Below W.heap.size W W2) : SpI w W2 base vb vm bb mm :=
  ⟨own_later h.bytes hb, h.more.below hb, h.kg.below hb h.kg.1, h.below.trans (hb.mono h.below.size)⟩

theorem u16_wf {z : Int} (h : (Lit.int .u16 z).wf = true) : 0 ≤ z ∧ z ≤ 65535 := by
  have h1 : IntKind.u16.min = 0 := rfl
  have h2 : IntKind.u16.max = 65535 := rfl
  simp [Lit.wf, h1, h2] at h
  omega

set_option maxRecDepth 100000 in
set_option maxHeartbeats 4000000 in
theorem spoilt_walk (v : Value) (ps : List (OpV × Value)) (a l : Int) (vm : Value) (mm : List UInt8) (w : World) (ha : OpsAt w w.heap.size v ps) (hks : ∀ q ∈ ps, q.1.key.size ≤ maxLen) (hwa : (Lit.int .u16 a).wf = true) (hwl : (Lit.int .u16 l).wf = true) (hm : Bts w w.heap.size 5 vm mm) (hk : KG w) :
    Calls Tryd.prog 4 #[v, .int .u16 a, .int .u16 l, vm] w fun e w' => e = .returned (.bool true) ∧ Below w.heap.size w w' := by
  obtain ⟨i0, hi0, hz0, hz1, hz2⟩ := info_parts u8_info
  have hmm := hm.le
  unfold maxLen at hmm
  obtain ⟨MA, mc, rfl⟩ := hm.form
  have HM := Lib.hid hm
  have HF := Lib.hid (few_any w.heap.size v ps 30 w ha (by decide) hks)
  have HA := Lib.hid ha
  have HK := Lib.hid hk
  have hua := u16_wf hwa
  have hul := u16_wf hwl
  obtain ⟨an, rfl⟩ : ∃ n : Nat, a = n := ⟨a.toNat, by omega⟩
  obtain ⟨ln, rfl⟩ : ∃ n : Nat, l = n := ⟨l.toNat, by omega⟩
  have haI : (an : Int) ≤ 65535 := hua.2
  have hlI : (ln : Int) ≤ 65535 := hul.2
  clear ha hks hk hm hwa hwl hua hul
  go_enter Tryd.func4, Tryd.ntmps4
  go_wp2_with fail
  refine HF.out.mono ?_
  rintro e w1 ⟨⟨q, rfl, hq⟩, hb1⟩
  have HB1 := Lib.hid hb1
  have HK1 := Lib.hid (HK.out.below hb1 HK.out.1)
  have HA1 := Lib.hid (HA.out.below hb1)
  have HQ := Lib.hid hq
  by_cases hgo : q = true ∧ mm.length ≤ 100
  · obtain ⟨rfl, hml⟩ := hgo
    obtain ⟨hl, hli⟩ := HQ.out rfl
    have hsm : ∀ p ∈ ps, p.1.val.length ≤ 1000 := fun p hp => by
      have := hli p hp
      unfold lightO at this
      have := of_decide_eq_true this
      omega
    have hA1' : OpsAt w1 w1.heap.size v ps := ⟨HA1.out.form, fun p hp => (HA1.out.vals p hp).more HB1.out.size, HA1.out.wf⟩
    have HFl := Lib.hid (filled_any v ps w1 hA1' HK1.out hl hsm)
    have HLn := Lib.hid hl
    have HMl := Lib.hid hml
    have hmI : ¬ (100 : Int) < (mm.length : Int) := by omega
    clear hq hb1 hl hli hsm hA1' HF HQ hml
    go_wp2_with fail
    refine HFl.out.mono ?_
    rintro e w2 ⟨v6, v7, v8, dv, ev, ov, ds, es, pw, pj, rfl, hI, hP⟩
    have hdl : ds.length ≤ 8940 := by have := hP.dl; have := HLn.out; omega
    have HDl := Lib.hid hdl
    have HR2 := Lib.hid hI.rep
    have HB2 := Lib.hid (HB1.out.trans (hI.below.mono HB1.out.size))
    clear hI hP hdl HFl
    go_wp2_with fail
    refine (jBytes_any _ _ _ _ _ _ _ _ _ HR2.out).mono ?_
    rintro e w3 ⟨v3, rfl, ho3, hb3⟩
    have HB3 := Lib.hid (HB2.out.trans (hb3.mono HB2.out.size))
    obtain ⟨BA, bc, rfl, hbc, _⟩ := own_form ho3
    obtain ⟨D, hD⟩ : ∃ D, ds.length = D := ⟨_, rfl⟩
    have HI3 : Hid (SpI w w3 w2.heap.size (.slice BA D bc) (.slice MA mm.length mc) ds mm) := Lib.hid (hD ▸ ⟨ho3, HM.out.below HB3.out, HK.out.below HB3.out HK.out.1, HB3.out⟩)
    have hDI : (D : Int) ≤ 8940 := by have := HDl.out; omega
    rw [hD] at hbc ⊢
    have HD := Lib.hid hD
    clear ho3 hb3 hD
    go_upto_region 9 with fail
    obtain ⟨Fn, hFn, hFD⟩ : ∃ Fn : Nat, (an : Int) % ((D : Int) + 1) = (Fn : Int) ∧ Fn ≤ D := ⟨an % (D + 1), by simp, Nat.le_of_lt_succ (Nat.mod_lt _ (Nat.succ_pos _))⟩
    rw [hFn, wrap64_id ((Fn : Int) + (ln : Int)) (by omega) (by omega)]
    obtain ⟨T, hT, hFT, hTD⟩ : ∃ T : Nat, min (D : Int) ((Fn : Int) + (ln : Int)) = (T : Int) ∧ Fn ≤ T ∧ T ≤ D := ⟨min D (Fn + ln), by omega, by omega, by omega⟩
    rw [hT]
    have hF1 : (Fn : Int) ≤ (bc : Int) := by omega
    have hT1 : (T : Int) ≤ (D : Int) := by omega
    have hT2 : (T : Int) ≤ (bc : Int) := by omega
    have HFD := Lib.hid hFD
    have HTD := Lib.hid hTD
    have HFT := Lib.hid hFT
    obtain ⟨A', hA'⟩ : ∃ A', (if bc = T then BA else Option.map (fun x => x.add T) BA) = A' := ⟨_, rfl⟩
    have HA' := Lib.hid hA'
    have HC1 : Hid (∀ W, W.ownsRow w2.heap.size 5 1 (.slice BA D bc) ds.length (bcells ds) → Bts W 0 5 (.slice BA Fn bc) (ds.take Fn)) := Lib.hid (fun W h => (Bts.of_own h 0).upto Fn (by omega))
    have HC2 : Hid (∀ W, W.ownsRow w2.heap.size 5 1 (.slice BA D bc) ds.length (bcells ds) → Bts W 0 5 (.slice A' (D - T) (bc - T)) (ds.drop T)) := Lib.hid (fun W h => by
      have := (Bts.of_own h 0).from_ T hTD
      have e0 : sliced BA T D bc 1 = .slice A' (D - T) (bc - T) := by
        unfold sliced
        rw [Nat.mul_one, hA']
      rwa [e0] at this)
    clear hFn hFD hT hFT hTD hA'
    refine wp_region_noPanic ?_
    refine wp_region_held_drew (S := fun W => SpI w W w2.heap.size (.slice BA D bc) (.slice MA mm.length mc) ds mm) (by kernel_rfl) (HI3.out.adv (Below.refl _ _).drew) (fun hHeld => ?_)
    obtain ⟨W3, hW3⟩ : ∃ W3, w3.drew = W3 := ⟨_, rfl⟩
    rw [hW3] at hHeld ⊢
    have H3 := Lib.hid hHeld
    clear hW3
    refine wpAnyH_take (i := 0) (oi := ⟨_, _, _, _, _, _⟩) (v := ?_) rfl (by kernel_rfl) (by kernel_rfl) (by kernel_rfl) (fun _ _ _ h => h) (Or.inl ⟨by rfl, ?_⟩) (by assumption) ?_
    rotate_left 1
    · intro W hSw
      skip
      clear hSw
      go_simp
      try with_reducible rfl
    try simp only [Act.put, List.setIfInBounds_toArray, List.set_cons_zero, List.set_cons_succ]
    refine wpAnyH_take (i := 1) (oi := ⟨_, _, _, _, _, _⟩) (v := ?_) rfl (by kernel_rfl) (by kernel_rfl) (by kernel_rfl) (fun _ _ _ h => h) (Or.inl ⟨by rfl, ?_⟩) (by assumption) ?_
    rotate_left 1
    · intro W hSw
      skip
      clear hSw
      go_simp
      try with_reducible rfl
    try simp only [Act.put, List.setIfInBounds_toArray, List.set_cons_zero, List.set_cons_succ]
    refine wpAnyH_take (i := 2) (oi := ⟨_, _, _, _, _, _⟩) (v := ?_) rfl (by kernel_rfl) (by kernel_rfl) (by kernel_rfl) (fun _ _ _ h => h) (Or.inl ⟨by rfl, ?_⟩) (by assumption) ?_
    rotate_left 1
    · intro W hSw
      skip
      clear hSw
      go_simp
      try with_reducible rfl
    try simp only [Act.put, List.setIfInBounds_toArray, List.set_cons_zero, List.set_cons_succ]
    refine wpAnyH_take (i := 4) (oi := ⟨_, _, _, _, _, _⟩) (v := ?_) rfl (by kernel_rfl) (by kernel_rfl) (by kernel_rfl) (fun _ _ _ h => h) (Or.inl ⟨by rfl, ?_⟩) (by assumption) ?_
    rotate_left 1
    · intro W hSw
      skip
      clear hSw
      go_simp
      try with_reducible rfl
    try simp only [Act.put, List.setIfInBounds_toArray, List.set_cons_zero, List.set_cons_succ]
    refine wpAnyH_take (i := 6) (oi := ⟨_, _, _, _, _, _⟩) (v := ?_) rfl (by kernel_rfl) (by kernel_rfl) (by kernel_rfl) (fun _ _ _ h => h) (Or.inl ⟨by rfl, ?_⟩) (by assumption) ?_
    rotate_left 1
    · intro W hSw
      skip
      clear hSw
      go_simp
      try with_reducible rfl
    try simp only [Act.put, List.setIfInBounds_toArray, List.set_cons_zero, List.set_cons_succ]
    refine wpAnyH_take (i := 7) (oi := ⟨_, _, _, _, _, _⟩) (v := ?_) rfl (by kernel_rfl) (by kernel_rfl) (by kernel_rfl) (fun _ _ _ h => h) (Or.inl ⟨by rfl, ?_⟩) (by assumption) ?_
    rotate_left 1
    · intro W hSw
      skip
      clear hSw
      go_simp
      try with_reducible rfl
    try simp only [Act.put, List.setIfInBounds_toArray, List.set_cons_zero, List.set_cons_succ]
    refine wpAnyH_take (i := 8) (oi := ⟨_, _, _, _, _, _⟩) (v := ?_) rfl (by kernel_rfl) (by kernel_rfl) (by kernel_rfl) (fun _ _ _ h => h) (Or.inl ⟨by rfl, ?_⟩) (by assumption) ?_
    rotate_left 1
    · intro W hSw
      have hA' := HA'.out
      clear hSw
      go_simp
      try with_reducible rfl
    try simp only [Act.put, List.setIfInBounds_toArray, List.set_cons_zero, List.set_cons_succ]
    refine wpAnyH_ready (rs := [3]) (by kernel_rfl) (by simp) ?_
    refine AllReadyH.cons (o := ⟨_, _, _, _, _, _⟩) rfl (fun F hF => ?_) AllReadyH.nil
    have hF1l : (ds.take Fn).length = Fn := by rw [List.length_take]; have := HD.out; have := HFD.out; omega
    have HF1l := Lib.hid hF1l
    have hs1 := (HC1.out W3 H3.out.bytes).src_at.2
    rw [hF1l] at hs1
    refine step_append_src _ rfl (.const (.slice none 0 0)) (.tmp 49) 22 rfl W3.heap.size 5 i0 _ 1 1 Tryd.underlying22 hi0 hz0 hz1 hz2 rfl (by decide) _ 0 [] rfl (World.ownsRow_nil _ _ _ _) BA Fn bc (bcells (ds.take Fn)) rfl hs1 (bcells_one _) (by have := HFD.out; unfold maxLen; omega) (by have := HFD.out; omega) (Nat.le_refl _) ?_
    intro v4 w4 hown4 hg4 hat4
    have hown4 := own_zero hown4
    have hb4 := below_nil hg4
    have HI4 := Lib.hid (H3.out.adv hb4)
    have HO4 := Lib.hid hown4
    have HB4 := Lib.hid hb4
    clear hown4 hg4 hat4 hb4 hHeld hs1 hF1l
    refine hF.out _ _ HI4.out (fun hHeld => ?_)
    clear hF F
    try simp only [Act.put, List.setIfInBounds_toArray, List.set_cons_zero, List.set_cons_succ]
    refine wpAnyH_ready (rs := [5]) (by kernel_rfl) (by simp) ?_
    refine AllReadyH.cons (o := ⟨_, _, _, _, _, _⟩) rfl (fun F hF => ?_) AllReadyH.nil
    refine step_append_src _ rfl (.tmp 50) (.tmp 51) 22 rfl W3.heap.size 5 i0 _ 1 1 Tryd.underlying22 hi0 hz0 hz1 hz2 rfl (by decide) _ Fn (bcells (ds.take Fn)) rfl HO4.out MA mm.length mc (bcells mm) rfl HI4.out.more.src_at.2 (bcells_one _) (by have := HFD.out; have := HMl.out; unfold maxLen; omega) (by have := HFD.out; have := HMl.out; omega) HB4.out.size ?_
    intro v5 w5 hown5 hg5 hat5
    have hb5 : Below W3.heap.size W3 w5 := HB4.out.grown hg5 HB4.out.size (fun k hk => (row_heap HO4.out hk).1)
    have HI5 := Lib.hid (H3.out.adv hb5)
    have HO5 := Lib.hid hown5
    have HB5 := Lib.hid hb5
    clear hown5 hg5 hat5 hb5 hHeld HI4
    refine hF.out _ _ HI5.out (fun hHeld => ?_)
    clear hF F
    try simp only [Act.put, List.setIfInBounds_toArray, List.set_cons_zero, List.set_cons_succ]
    refine wpAnyH_ready (rs := [9]) (by kernel_rfl) (by simp) ?_
    refine AllReadyH.cons (o := ⟨_, _, _, _, _, _⟩) rfl (fun F hF => ?_) AllReadyH.nil
    have hF2l : (ds.drop T).length = D - T := by rw [List.length_drop]; have := HD.out; omega
    have hs2 := (HC2.out w5 HI5.out.bytes).src_at.2
    rw [hF2l] at hs2
    refine step_append_src _ rfl (.tmp 52) (.tmp 55) 22 rfl W3.heap.size 5 i0 _ 1 1 Tryd.underlying22 hi0 hz0 hz1 hz2 rfl (by decide) _ (Fn + mm.length) (bcells (ds.take Fn) ++ bcells mm) rfl HO5.out A' (D - T) (bc - T) (bcells (ds.drop T)) rfl hs2 (bcells_one _) (by have := HFD.out; have := HMl.out; unfold maxLen; omega) (by have := HFD.out; have := HMl.out; omega) HB5.out.size ?_
    intro v6 w6 hown6 hg6 hat6
    have hb6 : Below W3.heap.size W3 w6 := HB5.out.grown hg6 HB5.out.size (fun k hk => (row_heap HO5.out hk).1)
    obtain ⟨R, hR⟩ : ∃ R, ds.take Fn ++ mm ++ ds.drop T = R := ⟨_, rfl⟩
    have hRl : R.length = Fn + mm.length + (D - T) := by rw [← hR, List.length_append, List.length_append, HF1l.out, hF2l]
    have hown6' : w6.ownsRow W3.heap.size 5 1 v6 R.length (bcells R) := by
      rw [hRl, ← hR, show bcells (ds.take Fn ++ mm ++ ds.drop T) = bcells (ds.take Fn) ++ bcells mm ++ bcells (ds.drop T) by simp [bcells]]
      exact hown6
    have HI6 := Lib.hid (H3.out.adv hb6)
    have HO6 := Lib.hid hown6'
    have HRl : Hid (R.length ≤ 20000) := Lib.hid (by have := HFD.out; have := HMl.out; omega)
    clear hown6 hown6' hg6 hat6 hb6 hHeld HI5 hs2 hF2l hR hRl
    refine hF.out _ _ HI6.out (fun hHeld => ?_)
    clear hF F
    try simp only [Act.put, List.setIfInBounds_toArray, List.set_cons_zero, List.set_cons_succ]
    refine wpAnyH_ready (rs := [10]) (by kernel_rfl) (by simp) ?_
    refine AllReadyH.cons (o := ⟨_, _, _, _, _, _⟩) rfl (fun F hF => ?_) AllReadyH.nil
    go_simp
    refine (right_any _ _ R _ (Bts.of_own HO6.out w6.heap.size) (Nat.le_refl _) HI6.out.kg (by have := HRl.out; omega)).mono ?_
    rintro e w7 ⟨rfl, hb7⟩
    have HI7 := Lib.hid (hHeld.adv hb7)
    clear hb7 hHeld HI6
    go_wp2_with fail
    refine hF.out _ _ HI7.out (fun hHeld => ?_)
    clear hF F
    try simp only [Act.put, List.setIfInBounds_toArray, List.set_cons_zero, List.set_cons_succ]
    refine wpAnyH_take (i := 11) (oi := ⟨_, _, _, _, _, _⟩) (v := ?_) rfl (by kernel_rfl) (by kernel_rfl) (by kernel_rfl) (fun _ _ _ h => h) (Or.inl ⟨by rfl, ?_⟩) (by assumption) ?_
    rotate_left 1
    · intro W hSw
      skip
      clear hSw
      go_simp
      try with_reducible rfl
    try simp only [Act.put, List.setIfInBounds_toArray, List.set_cons_zero, List.set_cons_succ]
    refine wpAnyH_ready (rs := [12]) (by kernel_rfl) (by simp) ?_
    refine AllReadyH.cons (o := ⟨_, _, _, _, _, _⟩) rfl (fun F hF => ?_) AllReadyH.nil
    go_simp
    refine (known_true _ HI7.out.kg).mono ?_
    rintro e w8 ⟨rfl, hb8⟩
    have HI8 := Lib.hid (hHeld.adv hb8)
    clear hb8 hHeld HI7
    go_wp2_with fail
    refine hF.out _ _ HI8.out (fun hHeld => ?_)
    clear hF F
    try simp only [Act.put, List.setIfInBounds_toArray, List.set_cons_zero, List.set_cons_succ]
    refine wpAnyH_take (i := 13) (oi := ⟨_, _, _, _, _, _⟩) (v := ?_) rfl (by kernel_rfl) (by kernel_rfl) (by kernel_rfl) (fun _ _ _ h => h) (Or.inl ⟨by rfl, ?_⟩) (by assumption) ?_
    rotate_left 1
    · intro W hSw
      skip
      clear hSw
      go_simp
      try with_reducible rfl
    try simp only [Act.put, List.setIfInBounds_toArray, List.set_cons_zero, List.set_cons_succ]
    refine wpAnyH_take (i := 14) (oi := ⟨_, _, _, _, _, _⟩) (v := ?_) rfl (by kernel_rfl) (by kernel_rfl) (by kernel_rfl) (fun _ _ _ h => h) (Or.inl ⟨by rfl, ?_⟩) (by assumption) ?_
    rotate_left 1
    · intro W hSw
      skip
      clear hSw
      go_simp
      try with_reducible rfl
    try simp only [Act.put, List.setIfInBounds_toArray, List.set_cons_zero, List.set_cons_succ]
    refine wpAnyH_done (by kernel_rfl) ?_ _
    refine NoPanic.normal ?_
    have HE := Lib.hid hHeld.below
    clear hHeld HI8
    go_wp2_with fail
    go_ret
    exact ⟨rfl, HE.out⟩
  · cases q with
    | false =>
      clear hq hb1 hgo
      go_wp2_with fail
      refine (known_true _ HK1.out).mono ?_
      rintro e w2 ⟨rfl, hb2⟩
      have HB2 := Lib.hid (HB1.out.trans (hb2.mono HB1.out.size))
      clear hb2
      go_wp2_with fail
      go_ret
      exact ⟨rfl, HB2.out⟩
    | true =>
      have hmI : (100 : Int) < (mm.length : Int) := by
        have : ¬ mm.length ≤ 100 := fun h => hgo ⟨rfl, h⟩
        omega
      clear hq hb1 hgo
      go_wp2_with fail
      refine (known_true _ HK1.out).mono ?_
      rintro e w2 ⟨rfl, hb2⟩
      have HB2 := Lib.hid (HB1.out.trans (hb2.mono HB1.out.size))
      clear hb2
      go_wp2_with fail
      go_ret
      exact ⟨rfl, HB2.out⟩

end Go.Proofs.YtffigmciclopdaaDoor
