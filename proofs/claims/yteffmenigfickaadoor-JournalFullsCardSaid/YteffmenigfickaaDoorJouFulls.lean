/- The walk of JournalFulls. -/
import Derived.Test.YteffmenigfickaaDoorJouFP
namespace Go.Proofs.YteffmenigfickaaDoor
open Go Go.RowKit

/-- Where the loop stands. -/
structure FuI (w W : World) (v4 dv ev ov : Value) (es : List Nat) (pj : List (OpV × Value)) (m : Nat) : Prop where
  fl : FlI w W (.slice none 0 0) (.slice none 0 0) v4 dv ev ov (fulD m) [] [] (fulD (min m 4096)) es pj
  el : es.length = min m 4096
  kg : KG W
theorem FuI.adv {w W W2 : World} {v4 dv ev ov : Value} {es : List Nat} {pj : List (OpV × Value)} {m : Nat} (h : FuI w W v4 dv ev ov es pj m) (hb : Below W.heap.size W W2) : FuI w W2 v4 dv ev ov es pj m := ⟨h.fl.adv hb, h.el, h.kg.below hb h.kg.1⟩

/-- Behind the journal's record, ahead of the list's. -/
structure FuP (w W : World) (v4 dv ev ov : Value) (es : List Nat) (pj : List (OpV × Value)) (m : Nat) : Prop where
  fl : FlI w W (.slice none 0 0) (.slice none 0 0) v4 dv ev ov (fulD m) [] [] (fulD (min (m + 1) 4096)) es pj
  el : es.length = min (m + 1) 4096
  kg : KG W

theorem read_ful (m K P L : Nat) (A4 : Option Addr) (c4 : Nat) (w : World) (hm : m ≤ 4098) (hK : K = 7 * min m 4096) (hP : P = min m 4096) (hL : (fulD m).length = L) (hb : Bts w w.heap.size 5 (.slice A4 L c4) (fulD m)) (hk : KG w) :
    Calls Tryd.prog 15 #[.slice A4 L c4] w fun e w' => (∃ LA lc, e = .returned (.tuple #[.slice LA P lc, .int .i64 (K : Int)])) ∧ Below w.heap.size w w' := by
  obtain ⟨es, os, hrc, hol⟩ := ful_rcvd m hm
  have h7 := fulD_len (min m 4096)
  refine (read_all_any w.heap.size (.slice A4 L c4) (fulD m) w hb (Nat.le_refl _) hk (by have := fulD_len m; omega)).mono fun e w1 h => ?_
  obtain ⟨vl, pl, he, hml, hql, hb⟩ := h
  generalize rcvd (fulD m) = R at hrc he hml
  obtain ⟨r1, r2, r3⟩ := R
  injection hrc with e1 e2
  injection e2 with e2 e3
  dsimp only at he hml
  have hr1 : r1.length = K := by rw [e1, h7, hK]
  have hr3 : pl.length = P := by
    have := congrArg List.length hml
    rw [List.length_map, e3, hol] at this
    omega
  obtain ⟨LA, lc, rfl⟩ := hql.slice
  rw [hr1, hr3] at he
  exact ⟨⟨LA, lc, he⟩, hb⟩



set_option maxRecDepth 100000 in
set_option maxHeartbeats 4000000 in
theorem fulls_walk (a : Int) (w : World) (hwf : (Lit.int .i64 a).wf = true) (hk : KG w) :
    Calls Tryd.prog 4 #[.int .i64 a] w fun e w' => e = .returned (.bool true) ∧ Below w.heap.size w w' := by
  obtain ⟨i0, hi0, hz0, hz1, hz2⟩ := info_parts u8_info
  have HK := Lib.hid hk
  clear hk hwf
  by_cases hin : 4094 ≤ a ∧ a ≤ 4098
  · obtain ⟨N, rfl⟩ : ∃ N : Nat, a = N := ⟨a.toNat, by omega⟩
    obtain ⟨hn1, hn2⟩ := hin
    have HSt := Lib.hid (FlI.start w)
    have HK0 : Hid (KG (w.alloc (.cells #[.slice none 0 0, .slice none 0 0, .slice none 0 0] 35))) := Lib.hid (HK.out.below ((Below.refl _ _).alloc (Nat.le_refl _) _) HK.out.1)
    go_enter Tryd.func4, Tryd.ntmps4
    go_wp2_with fail
    go_loopw [4, 5, 6] (fun x4 x5 i wr => ∃ m : Nat, ∃ dv ev ov es pj, m ≤ N ∧ i = .int .i64 m ∧ x5 = .int .u32 (sumL (fulD m)) ∧ FuI w wr x4 dv ev ov es pj m) (fun _ _ i _ => N - (intOf i).toNat)
    case atStart => exact ⟨0, _, _, _, [], [], by omega, rfl, rfl, HSt.out, rfl, HK0.out⟩
    case round =>
      obtain ⟨m, dv, ev, ov, es, pj, hm, rfl, rfl, hI⟩ := hrel
      obtain ⟨A4, c4, rfl, hc4, _⟩ := own_form hI.fl.all
      have HI := Lib.hid hI
      clear hI
      by_cases hml : m < N
      · have hmI : (m : Int) < (N : Int) := by omega
        go_wp2_with fail
        refine (adv_any _).mono ?_
        rintro e w1 ⟨rfl, hb1⟩
        have HI1 := Lib.hid (HI.out.adv hb1)
        clear hb1
        unfold opv opc advO
        go_wp2_with fail
        refine (lawRecord_any w.heap.size (sumL (fulD m)) advO (.slice none 0 0) _ (Bts.nil _ _ _) HI1.out.kg (by decide) (sumL_lt _)).mono ?_
        rw [fulD_rec m]
        rintro e w2 ⟨v2, rfl, ho2, hb2⟩
        obtain ⟨r, hr⟩ : ∃ r, recB (sumL (fulD m)) [9] = r := ⟨_, rfl⟩
        have HR := Lib.hid hr
        rw [hr] at ho2
        have hrl : r.length = 7 := by rw [← hr]; exact recB_len _ [9]
        obtain ⟨RA, rc, rfl, hrc, _⟩ := own_form ho2
        have HI2 := Lib.hid (HI1.out.adv hb2)
        have HO2 := Lib.hid ho2
        have HRl := Lib.hid hrl
        clear ho2 hb2 hr hrl
        go_wp2_with fail
        refine (adv_any _).mono ?_
        rintro e w3 ⟨rfl, hb3⟩
        have HI3 := Lib.hid (HI2.out.adv hb3)
        have HO3 := Lib.hid (own_later HO2.out hb3)
        clear hb3
        unfold opv opc advO
        go_wp2_with fail
        by_cases h6 : m < 4096
        · have h6I : (m : Int) < 4096 := by omega
          have hmin : min m 4096 = m := by omega
          have hfl := HI3.out.fl
          rw [hmin] at hfl
          have hel := HI3.out.el
          rw [hmin] at hel
          have HFl := Lib.hid hfl
          have HEl := Lib.hid hel
          clear hfl hel hmin
          refine (append_any w.heap.size w.heap.size dv ev ov (fulD m) es pj advO (.slice none 0 0) w3 HFl.out.rep (Bts.nil _ _ _) HI3.out.kg (by decide) HFl.out.below.size).mono ?_
          intro e w4 hap
          unfold ApPost at hap
          rw [fulD_rec m, HR.out] at hap
          dsimp only at hap
          rw [if_neg (by have := HEl.out; have := HRl.out; have := fulD_len m; omega)] at hap
          obtain ⟨rfl, d2, e2, o2, V', hr4, ho4, hf4, hV4⟩ := hap
          have hfl4 := HFl.out.append hr4 ho4 hf4 hV4
          have hmin2 : min (m + 1) 4096 = m + 1 := by omega
          have HF4 : Hid (FuP w w4 (.slice A4 (fulD m).length c4) d2 e2 o2 (es ++ [(fulD m).length + r.length]) (pj ++ [(advO, V')]) m) := Lib.hid ⟨by rw [hmin2]; show FlI _ _ _ _ _ _ _ _ _ _ _ (fulD m ++ recB (sumL (fulD m)) [9]) _ _; rw [HR.out]; exact hfl4, by rw [hmin2]; simp [HEl.out], HI3.out.kg.only ho4 (fun e => by have := (HFl.out.rep.toJS.fp_lt e).1; have := HK.out.1; omega)⟩
          have HO4 := Lib.hid (ownsRow_only HO3.out ho4 (fun k hk e => by
            have h1 := (row_heap HO3.out hk).1
            have h2 := (HI1.out.fl.rep.toJS.fp_lt e).2
            omega))
          clear hr4 ho4 hf4 hV4 hfl4 hmin2
          have hlr1 : (7 : Int) ≤ (r.length : Int) := by have := HRl.out; omega
          have hlr2 : (r.length : Int) ≤ 298 := by have := HRl.out; omega
          have hlr3 : (r.length : Int) - 4 ≤ (rc : Int) := by omega
          have HSum := sum_rec_any w.heap.size (fulD m) r advO RA rc w4 ((fulD_rec m).trans (congrArg some HR.out)) (Lib.hid ((Bts.of_own HO4.out _).upto (r.length - 4) (by omega)))
          have hlr4 : ((r.length : Int) - 4).toNat = r.length - 4 := by omega
          go_wp2_with fail
          refine HSum.out.mono ?_
          rintro e w5 ⟨rfl, hw5⟩
          subst hw5
          clear hlr1 hlr2 hlr3 hlr4
          go_wp2_with (at_builtin; go_loud (refine wpList_append_src _ rfl _ _ _ rfl w.heap.size 5 i0 _ 1 1 Tryd.underlying24 hi0 hz0 hz1 hz2 rfl (by decide) _ (fulD m).length (bcells (fulD m)) rfl HF4.out.fl.all RA r.length rc (bcells r) rfl (Bts.of_own HO4.out 0).src_at.2 (bcells_one _) (by have := HRl.out; have := fulD_len m; unfold maxLen; omega) (by have := HRl.out; have := fulD_len m; omega) HF4.out.fl.below.size ?_; intro v9 w9 hown9 hg9 hat9))
          have HI9 := Lib.hid (HF4.out.fl.growAll hg9 hown9 hat9)
          have HK9 : Hid (KG w9) := Lib.hid (HK.out.below HI9.out.below HK.out.1)
          have HStep : Hid (fulD (m + 1) = fulD m ++ r) := Lib.hid (by rw [← HR.out, fulD_succ])
          have HI10 := HI9
          rw [← HStep.out] at HI10
          clear hown9 hg9 hat9
          go_roundw
          case rel => exact ⟨m + 1, _, _, _, _, _, by omega, by go_num, by rw [← HStep.out], HI10.out, HF4.out.el, HK9.out⟩
          case measure => simp [intOf]; omega
        · have h6I : ¬ (m : Int) < 4096 := by omega
          obtain ⟨Q, hQ⟩ : ∃ Q, Q = 4096 := ⟨_, rfl⟩
          have hmin : min m 4096 = Q := by omega
          have HQ := Lib.hid hQ
          have hfl := HI3.out.fl
          rw [hmin] at hfl
          have hel := HI3.out.el
          rw [hmin] at hel
          have HFl := Lib.hid hfl
          have HEl := Lib.hid hel
          clear hfl hel hmin
          refine (append_any w.heap.size w.heap.size dv ev ov (fulD Q) es pj advO (.slice none 0 0) w3 HFl.out.rep (Bts.nil _ _ _) HI3.out.kg (by decide) HFl.out.below.size).mono ?_
          intro e w4 hap
          unfold ApPost at hap
          rw [fulD_rec Q] at hap
          dsimp only at hap
          rw [if_pos (by have := HEl.out; have := HQ.out; omega)] at hap
          obtain ⟨rfl, hb4⟩ := hap
          have hmin2 : min (m + 1) 4096 = Q := by omega
          have HF4 : Hid (FuP w w4 (.slice A4 (fulD m).length c4) dv ev ov es pj m) := Lib.hid ⟨by rw [hmin2]; exact HFl.out.adv hb4, by rw [hmin2]; exact HEl.out, HI3.out.kg.below hb4 HI3.out.kg.1⟩
          have HO4 := Lib.hid (own_later HO3.out hb4)
          clear hb4 hmin2 hQ
          have hlr1 : (7 : Int) ≤ (r.length : Int) := by have := HRl.out; omega
          have hlr2 : (r.length : Int) ≤ 298 := by have := HRl.out; omega
          have hlr3 : (r.length : Int) - 4 ≤ (rc : Int) := by omega
          have HSum := sum_rec_any w.heap.size (fulD m) r advO RA rc w4 ((fulD_rec m).trans (congrArg some HR.out)) (Lib.hid ((Bts.of_own HO4.out _).upto (r.length - 4) (by omega)))
          have hlr4 : ((r.length : Int) - 4).toNat = r.length - 4 := by omega
          go_wp2_with fail
          refine HSum.out.mono ?_
          rintro e w5 ⟨rfl, hw5⟩
          subst hw5
          clear hlr1 hlr2 hlr3 hlr4
          go_wp2_with (at_builtin; go_loud (refine wpList_append_src _ rfl _ _ _ rfl w.heap.size 5 i0 _ 1 1 Tryd.underlying24 hi0 hz0 hz1 hz2 rfl (by decide) _ (fulD m).length (bcells (fulD m)) rfl HF4.out.fl.all RA r.length rc (bcells r) rfl (Bts.of_own HO4.out 0).src_at.2 (bcells_one _) (by have := HRl.out; have := fulD_len m; unfold maxLen; omega) (by have := HRl.out; have := fulD_len m; omega) HF4.out.fl.below.size ?_; intro v9 w9 hown9 hg9 hat9))
          have HI9 := Lib.hid (HF4.out.fl.growAll hg9 hown9 hat9)
          have HK9 : Hid (KG w9) := Lib.hid (HK.out.below HI9.out.below HK.out.1)
          have HStep : Hid (fulD (m + 1) = fulD m ++ r) := Lib.hid (by rw [← HR.out, fulD_succ])
          have HI10 := HI9
          rw [← HStep.out] at HI10
          clear hown9 hg9 hat9
          go_roundw
          case rel => exact ⟨m + 1, _, _, _, _, _, by omega, by go_num, by rw [← HStep.out], HI10.out, HF4.out.el, HK9.out⟩
          case measure => simp [intOf]; omega
      · obtain rfl : m = N := by omega
        obtain ⟨L, hL⟩ : ∃ L, (fulD m).length = L := ⟨_, rfl⟩
        have HL7 : Hid (L = 7 * m) := Lib.hid (by rw [← hL, fulD_len])
        obtain ⟨K, hK⟩ : ∃ K, K = 7 * min m 4096 := ⟨_, rfl⟩
        obtain ⟨P, hP⟩ : ∃ P, P = min m 4096 := ⟨_, rfl⟩
        have HRd := Lib.hid (read_ful m K P L A4 c4 wr (by omega) hK hP hL (hL ▸ Bts.of_own HI.out.fl.all _) HI.out.kg)
        rw [hL]
        have HL := Lib.hid hL
        have HKk := Lib.hid hK
        have HPp := Lib.hid hP
        clear hL hK hP
        go_wp2_with fail
        refine HRd.out.mono ?_
        rintro e w1 ⟨⟨LA, lc, rfl⟩, hb1⟩
        have HI1 := Lib.hid (HI.out.adv hb1)
        clear hb1
        go_upto_region 15 with fail
        go_wp2_with fail
        refine (get_any _).mono ?_
        rintro e w2 ⟨rfl, hb2⟩
        have HI2 := Lib.hid (HI1.out.adv hb2)
        clear hb2
        unfold opv opc getO
        go_wp2_with fail
        by_cases h6 : m < 4096
        · have hmin : min m 4096 = m := by omega
          have hfl := HI2.out.fl
          rw [hmin] at hfl
          have hel := HI2.out.el
          rw [hmin] at hel
          have HFl := Lib.hid hfl
          have HEl := Lib.hid hel
          clear hfl hel
          refine (append_any w.heap.size w.heap.size dv ev ov (fulD m) es pj getO (.slice none 0 0) w2 HFl.out.rep (Bts.nil _ _ _) HI2.out.kg (by decide) HFl.out.below.size).mono ?_
          intro e w3 hap
          unfold ApPost at hap
          obtain ⟨r, hr⟩ : ∃ r, recB (sumL (fulD m)) [0, 1, 97] = r := ⟨_, rfl⟩
          have hrl : r.length = 9 := by rw [← hr]; exact recB_len _ _
          rw [fulD_get, hr] at hap
          dsimp only at hap
          rw [if_neg (by have := HEl.out; have := fulD_len m; omega)] at hap
          obtain ⟨rfl, d2, e2, o2, V', hr3, ho3, -, -⟩ := hap
          have hdl : (fulD m ++ r).length = L + 9 := by rw [List.length_append, HL.out, hrl]
          have HDl := Lib.hid hdl
          have HR3 := Lib.hid hr3
          have HB3 : Hid (Below w.heap.size w w3) := Lib.hid (HFl.out.below.trans (ho3.below (fun i hi _ e => by have := (HFl.out.rep.toJS.fp_lt e).1; omega) HFl.out.below.size))
          have hPm : P = m := by rw [HPp.out]; exact hmin
          have hKL : K = L := by rw [HKk.out, hmin, HL7.out]
          subst hPm hKL
          have hmn : min (P : Int) 4096 = (P : Int) := by omega
          obtain ⟨D, hD⟩ : ∃ D, (fulD P ++ r).length = D := ⟨_, rfl⟩
          have hDK : D = K + 9 := by rw [← hD]; exact hdl
          have hmn2 : min (K : Int) (D : Int) = (K : Int) := by omega
          have hKI : (K : Int) ≤ 1000000 := by have := HL7.out; omega
          have hDI : (D : Int) ≤ 1000000 := by have := HL7.out; omega
          have hdec : decide ((4096 : Int) ≤ (P : Int)) = false := decide_eq_false (by omega)
          have HD := Lib.hid hD
          clear hr3 ho3 hr hrl hdl hmin hDK hD
          go_wp2_with fail
          refine (jBytes_any _ _ _ _ _ _ _ _ _ HR3.out).mono ?_
          rintro e w4 ⟨v4, rfl, ho4, hb4⟩
          have HB4 := Lib.hid (HB3.out.trans (hb4.mono HB3.out.size))
          rw [HD.out] at ho4
          obtain ⟨B4, b4, rfl, _, _⟩ := own_form ho4
          clear ho4 hb4
          go_wp2_with fail
          refine (known_true _ (HK.out.below HB4.out HK.out.1)).mono ?_
          rintro e w5 ⟨rfl, hb5⟩
          have HB5 := Lib.hid (HB4.out.trans (hb5.mono HB4.out.size))
          clear hb5
          go_wp2_with fail
          go_ret
          exact ⟨rfl, HB5.out⟩
        · have hmin : min m 4096 = P := HPp.out.symm
          have hP4 : P = 4096 := by have := HPp.out; omega
          have HP4 := Lib.hid hP4
          have hfl := HI2.out.fl
          rw [hmin] at hfl
          have hel := HI2.out.el
          rw [hmin] at hel
          have HFl := Lib.hid hfl
          have HEl := Lib.hid hel
          clear hfl hel
          refine (append_any w.heap.size w.heap.size dv ev ov (fulD P) es pj getO (.slice none 0 0) w2 HFl.out.rep (Bts.nil _ _ _) HI2.out.kg (by decide) HFl.out.below.size).mono ?_
          intro e w3 hap
          unfold ApPost at hap
          rw [fulD_get] at hap
          dsimp only at hap
          rw [if_pos (by have := HEl.out; have := HP4.out; omega)] at hap
          obtain ⟨rfl, hb3⟩ := hap
          have HFl3 := Lib.hid (HFl.out.adv hb3)
          have h6I : (4096 : Int) ≤ (m : Int) := by omega
          have hmn : min (m : Int) 4096 = (P : Int) := by omega
          obtain ⟨D, hD⟩ : ∃ D, (fulD P).length = D := ⟨_, rfl⟩
          have hDK : D = K := by rw [← hD, fulD_len, HKk.out, hmin]
          subst hDK
          have hmn2 : min (L : Int) (D : Int) = (D : Int) := by have := HL7.out; have := HKk.out; omega
          have hLI : (L : Int) ≤ 1000000 := by have := HL7.out; omega
          have hDI : (D : Int) ≤ 1000000 := by have := HL7.out; omega
          have HD := Lib.hid hD
          clear hb3 hD hmin hP4
          go_wp2_with fail
          refine (jBytes_any _ _ _ _ _ _ _ _ _ HFl3.out.rep).mono ?_
          rintro e w4 ⟨v4, rfl, ho4, hb4⟩
          have HB4 := Lib.hid (HFl3.out.below.trans (hb4.mono HFl3.out.below.size))
          rw [HD.out] at ho4
          obtain ⟨B4, b4, rfl, _, _⟩ := own_form ho4
          clear ho4 hb4
          go_wp2_with fail
          refine (known_true _ (HK.out.below HB4.out HK.out.1)).mono ?_
          rintro e w5 ⟨rfl, hb5⟩
          have HB5 := Lib.hid (HB4.out.trans (hb5.mono HB4.out.size))
          clear hb5
          go_wp2_with fail
          go_ret
          exact ⟨rfl, HB5.out⟩
  · have hin2 : a < 4094 ∨ 4098 < a := by omega
    by_cases h1 : a < 4094
    · clear hin hin2
      go_enter Tryd.func4, Tryd.ntmps4
      go_wp2_with fail
      refine (known_true _ HK.out).mono ?_
      rintro e w2 ⟨rfl, hb⟩
      have HB2 := Lib.hid hb
      clear hb
      go_wp2_with fail
      go_ret
      exact ⟨rfl, HB2.out⟩
    · have h2 : 4098 < a := by omega
      clear hin hin2
      go_enter Tryd.func4, Tryd.ntmps4
      go_wp2_with fail
      refine (known_true _ HK.out).mono ?_
      rintro e w2 ⟨rfl, hb⟩
      have HB2 := Lib.hid hb
      clear hb
      go_wp2_with fail
      go_ret
      exact ⟨rfl, HB2.out⟩

end Go.Proofs.YteffmenigfickaaDoor
