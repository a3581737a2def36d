/- The walk of SlabHolds. -/
import Derived.Test.YtookfhmghchkjaaSlabHoldsM
import Derived.Test.YtookfhmghchkjaaSlabW
import Derived.Deep.RegionHeld3
import Derived.Deep.CutBlock
import Derived.Deep.DeepCutAuto
import Derived.BigQuiet
import Derived.WalkArith
namespace Go.Proofs.Ytookfhmghchkjaa
open Go Go.RowKit
attribute [local go_sem ↓] Go.wp_at_zero Go.wp_at_succ

theorem pswap_no {most : Int} {st st' : PSt} {K0 N0 K N er : Int} {bs : List UInt8} (h : pswap most st K0 N0 bs = (K, N, er, st')) (he : er ≠ 0) : K = 0 ∧ N = 0 ∧ st' = st := by
  unfold pswap at h
  cases hp : phas st K0 N0 with
  | none =>
    rw [hp] at h
    dsimp only at h
    injection h with h1 h
    injection h with h2 h
    injection h with _ h
    exact ⟨h1.symm, h2.symm, h.symm⟩
  | some old =>
    rw [hp] at h
    dsimp only at h
    split at h
    · injection h with h1 h
      injection h with h2 h
      injection h with h _
      exact absurd h.symm he
    · split at h
      · injection h with h1 h
        injection h with h2 h
        injection h with h _
        exact absurd h.symm he
      · injection h with h1 h
        injection h with h2 h
        injection h with _ h
        exact ⟨h1.symm, h2.symm, h.symm⟩

theorem wf_small {K N : Int} {m : Nat} (h1 : 0 ≤ K) (h2 : K < 13) (h3 : 0 ≤ N) (h4 : N ≤ m) (h5 : m ≤ 1000) : wfK (K, N) := by
  refine ⟨WalkArith.wf_i64 (by dsimp only; omega), WalkArith.wf_i64 (by dsimp only; omega)⟩

theorem cost_len : ∀ {L : List ME}, (∀ x ∈ L, x.2.length ≤ csize x.1.1.toNat ∧ csize x.1.1.toNat ≤ 2 * x.2.length + 16) → L.length ≤ cost L
  | [], _ => by simp [cost]
  | x :: L, h => by
    have h1 := cost_len (L := L) (fun y hy => h y (List.mem_cons_of_mem _ hy))
    have h2 := csize_pos x.1.1.toNat
    simp only [cost, List.map_cons, List.sum_cons, List.length_cons] at h1 ⊢
    omega


set_option maxRecDepth 100000 in
set_option maxHeartbeats 4000000 in


theorem holds_walk (most : Int) (v : Value) (ls : List ActS) (w : World) (h : Acts w w.heap.size v ls) :
    Calls Try.prog 4 #[.int .i64 most, v] w fun e w' => e = .returned (.bool true) ∧ Below w.heap.size w w' := by
  have HA := Lib.hid h
  obtain ⟨A, cap, rfl, hc1, hc2, _⟩ := h.row
  have hn : (ls.length : Int) ≤ 9223372036854775807 := by unfold maxLen at hc2; omega
  clear h hc2
  go_enter Try.func4, Try.ntmps4
  go_wp2_with fail
  refine (few_any _ _ _ _ HA.out).mono ?_
  rintro e w' ⟨rfl, rfl⟩
  cases hs : fewB ls with
  | false =>
    go_wp2_with fail
    refine (known_true _).mono ?_
    rintro e w9 ⟨rfl, hb9⟩
    have HG := Lib.hid hb9
    clear hb9
    go_wp2_with fail
    go_ret
    exact ⟨rfl, HG.out⟩
  | true =>
    have hsm := fewB_is hs
    have HS := Lib.hid hsm
    have hl60 := hsm.1
    clear hs hsm
    by_cases hm0 : most < 0
    · go_wp2_with fail
      refine (known_true _).mono ?_
      rintro e w9 ⟨rfl, hb9⟩
      have HG := Lib.hid hb9
      clear hb9
      go_wp2_with fail
      go_ret
      exact ⟨rfl, HG.out⟩
    · by_cases hm1 : 1099511627776 < most
      · go_wp2_with fail
        refine (known_true _).mono ?_
        rintro e w9 ⟨rfl, hb9⟩
        have HG := Lib.hid hb9
        clear hb9
        go_wp2_with fail
        go_ret
        exact ⟨rfl, HG.out⟩
      · have h0 : 0 ≤ most := by omega
        have h1 : most ≤ 1099511627776 := by omega
        go_wp2_with fail
        refine (slabNew_ok most h0 h1 _).mono ?_
        rintro e w1 ⟨rfl, hw1⟩
        have hsz1 : w1.heap.size = w.heap.size + 1 := by rw [hw1]; simp
        have hmm := @run_makeMap Try.prog 36 w1
        obtain ⟨w2, hw2⟩ : ∃ w2, w1.alloc (.map #[] 0) = w2 := ⟨_, rfl⟩
        rw [hw2, hsz1] at hmm
        have HI1 : Hid (HInv w w2 0 most (.slice A ls.length cap) ls p0 []) := Lib.hid (by
          have hb1 : Below w.heap.size w w1 := hw1 ▸ (Below.refl w.heap.size w).alloc (Nat.le_refl _) _
          have hb2 : Below w1.heap.size w1 w2 := hw2 ▸ (Below.refl w1.heap.size w1).alloc (Nat.le_refl _) _
          have hr : ARep w1 w.heap.size w.heap.size most p0 := ⟨sh0, hw1 ▸ slabNew_rep w w.heap.size (Nat.le_refl _) most, sh0_is⟩
          exact ⟨hr.below hb2, p0_wf, Fits.nil most h0, hsz1 ▸ hw2 ▸ MRep.made w1, (HA.out.below hb1).below hb2, hb1.trans (hb2.mono (by omega))⟩)
        clear hw1 hw2 hsz1
        go_wp2_with fail
        clear hmm
        go_loopw [53] (fun i wr => ∃ (k : Nat) (st : PSt) (L : List ME), k ≤ ls.length ∧ i = .int .i64 k ∧ HInv w wr k most (.slice A ls.length cap) ls st L) (fun i _ => ls.length - (intOf i).toNat)
        case atStart => exact ⟨0, p0, [], by omega, rfl, HI1.out⟩
        case round =>
          obtain ⟨k, st, L, hk, rfl, hinv⟩ := hrel
          have HI := Lib.hid hinv
          clear hinv HI1
          by_cases hkl : k < ls.length
          · obtain ⟨a, ha⟩ : ∃ a, ls[k]? = some a := ⟨_, List.getElem?_eq_getElem hkl⟩
            obtain ⟨b, off, cap', e, _, hbB, c0, c1, c2, c3, hao⟩ := HI.out.acts.at_ ha
            injection e with e1 el e3
            clear el
            subst e1 e3
            obtain ⟨A', vc, hv'⟩ := hao.val.form
            rw [hv'] at c3
            have hklI : (k : Int) < (ls.length : Int) := by omega
            have hcI : (ls.length : Int) ≤ (cap : Int) := by omega
            have HV' := Lib.hid hv'
            have HWK : Hid (wfK (a.K, a.N)) := Lib.hid ⟨hao.wk, hao.wn⟩
            have hasm := HS.out.2 a (List.mem_of_getElem? ha)
            have HVa := Lib.hid (HV'.out ▸ hao.val.alloc (.cells #[.int .i64 a.what, .int .i64 a.K, .int .i64 a.N, .slice A' a.bs.length vc] 41) : Bts _ _ _ _ _)
            have HI0 := Lib.hid (HI.out.alloc (.cells #[.int .i64 a.what, .int .i64 a.K, .int .i64 a.N, .slice A' a.bs.length vc] 41))
            have HBA := Lib.hid (Blk.new wr 41 #[.int .i64 a.what, .int .i64 a.K, .int .i64 a.N, .slice A' a.bs.length vc])
            have hk60 : k < 60 := by omega
            have hlk := HI0.out.map.look HWK.out
            rw [HI0.out.fits.get] at hlk
            simp only [keyV, strV] at hlk
            obtain ⟨old, is, hois⟩ : ∃ old is, (old, is) = ((phas st a.K a.N).getD [], (phas st a.K a.N).isSome) := ⟨_, _, rfl⟩
            injection hois with ho1 ho2
            rw [← ho1, ← ho2] at hlk
            have HO1 := Lib.hid ho1
            have HO2 := Lib.hid ho2
            clear hv' ha hao ho1 ho2
            go_upto_block 2 with fail
            clear c0 c1 c2 c3 hlk
            go_cut [53, 65] (fun i _ wc => i = .int .i64 k ∧ ∃ (st' : PSt) (L' : List ME), HInv w wc (k + 1) most (.slice (some ⟨b, off, none⟩) ls.length cap) ls st' L')
            case first =>
              by_cases hw0 : a.what = 0
              · rw [hw0] at HI0 HBA HVa
                go_wp2_with fail
                have HP := aPut k w.heap.size w.heap.size most st _ a.bs _ HI0.out.rep HI0.out.wf (by omega) HVa.out
                have hwf := HI0.out.wf.put most a.bs
                obtain ⟨K, N, er, st', hp⟩ := pput_er (most := most) (st := st) a.bs
                rw [hp] at HP hwf
                refine HP.mono ?_
                rintro e w2 ⟨rfl, hr2, hk2, hb2⟩
                have HM2 := Lib.hid (HI0.out.call hr2 hwf hk2 hb2)
                have bA2 := hk2.blk HBA.out (by decide) (by decide) (by decide)
                have HVb := Lib.hid ((HVa.out.keep hk2.u8).alloc (.cells #[.int .i64 K, .int .i64 N] 38))
                have hw12 : wr.heap.size < w2.heap.size := bA2.lt
                have q2 := bA2.cell 3 _ rfl
                clear HP hr2 hk2 hb2 hwf
                by_cases he : er = 0
                · subst he
                  obtain ⟨hnone, hf, b1, b2, b3, b4⟩ := HI0.out.fits.put HI0.out.wf hp
                  have hwk := wf_small b1 b2 b3 b4 (by omega)
                  have HM2a := Lib.hid (HM2.out.alloc (.cells #[.int .i64 K, .int .i64 N] 38))
                  have hg : mget L (K, N) = none := by rw [HI0.out.fits.get]; exact hnone
                  have hlk := HM2a.out.map.look hwk
                  rw [hg] at hlk
                  simp only [keyV, strV, Option.getD_none, Option.isSome_none] at hlk
                  have cv := HVb.out.string (P := Try.prog) 39 9 Try.underlying39 Try.underlying5 Try.underlying9
                  obtain ⟨w3, hmu, hm3, ht3⟩ := HM2a.out.map.put hwk hg a.bs
                  have HI3 := Lib.hid ((HM2a.out.turn hm3 ht3).inv hf)
                  simp only [keyV, strV] at hmu
                  clear hp hnone hf b1 b2 b3 b4 hwk hg hm3 ht3 bA2
                  go_wp2_with fail
                  go_meet
                  case rel => exact ⟨rfl, _, _, HI3.out⟩
                · have hst : st' = st := by
                    have := (pput_no (most := most) (st := st) (bs := a.bs) (by rw [hp]; exact he)).1
                    rw [hp] at this
                    injection this with _ this
                    injection this with _ this
                    injection this with _ this
                  subst hst
                  have HI3 := Lib.hid ((HM2.out.inv HI0.out.fits).alloc (.cells #[.int .i64 K, .int .i64 N] 38))
                  have hcv : (er == 0) = false := by simpa using he
                  clear hp bA2
                  go_wp2_with fail
                  go_meet
                  case rel => exact ⟨rfl, _, _, HI3.out⟩
              · by_cases hw2 : a.what = 2
                · rw [hw2] at HI0 HBA HVa
                  go_wp2_with fail
                  have HP := aFree k w.heap.size w.heap.size most st a.K a.N _ HI0.out.rep HI0.out.wf (by omega)
                  have hwf := HI0.out.wf.free a.K a.N
                  cases hph : phas st a.K a.N with
                  | none =>
                    have e : pfree st a.K a.N = (9, st) := by unfold pfree; rw [hph]
                    rw [e] at HP hwf
                    have his : is = false := by rw [HO2.out, hph]; rfl
                    refine HP.mono ?_
                    rintro e w2 ⟨rfl, hr2, hk2, hb2⟩
                    have HM2 := Lib.hid (HI0.out.call hr2 (hwf.mono (Nat.le_succ _)) hk2 hb2)
                    have bA2 := hk2.blk HBA.out (by decide) (by decide) (by decide)
                    have q1 := bA2.cell 1 _ rfl
                    have q2 := bA2.cell 2 _ rfl
                    obtain ⟨w3, hdl, hm3, ht3⟩ := HM2.out.map.del HWK.out
                    rw [mdel_other (mget_none (by rw [HI0.out.fits.get]; exact hph))] at hm3
                    have HI3 := Lib.hid ((HM2.out.turn hm3 ht3).inv HI0.out.fits)
                    simp only [keyV] at hdl
                    subst his
                    clear HP hr2 hk2 hb2 hwf hph hm3 ht3 bA2
                    go_wp2_with fail
                    go_meet
                    case rel => exact ⟨rfl, _, _, HI3.out⟩
                  | some obs =>
                    have e : (pfree st a.K a.N).1 = 0 := by unfold pfree; rw [hph]
                    rw [e] at HP
                    have his : is = true := by rw [HO2.out, hph]; rfl
                    refine HP.mono ?_
                    rintro e w2 ⟨rfl, hr2, hk2, hb2⟩
                    have HM2 := Lib.hid (HI0.out.call hr2 (hwf.mono (Nat.le_succ _)) hk2 hb2)
                    have bA2 := hk2.blk HBA.out (by decide) (by decide) (by decide)
                    have q1 := bA2.cell 1 _ rfl
                    have q2 := bA2.cell 2 _ rfl
                    obtain ⟨w3, hdl, hm3, ht3⟩ := HM2.out.map.del HWK.out
                    have HI3 := Lib.hid ((HM2.out.turn hm3 ht3).inv (HI0.out.fits.free HI0.out.wf hph))
                    simp only [keyV] at hdl
                    subst his
                    clear HP hr2 hk2 hb2 hwf hph hm3 ht3 bA2
                    go_wp2_with fail
                    go_meet
                    case rel => exact ⟨rfl, _, _, HI3.out⟩
                · by_cases hw3 : a.what = 3
                  · rw [hw3] at HI0 HBA HVa
                    go_wp2_with fail
                    have HP := aSwap k w.heap.size w.heap.size most st a.K a.N _ a.bs _ HI0.out.rep HI0.out.wf (by omega) HVa.out
                    have hwf := HI0.out.wf.swap most a.K a.N a.bs
                    obtain ⟨K, N, er, st', hp⟩ := pswap_er (most := most) (st := st) a.K a.N a.bs
                    rw [hp] at HP hwf
                    refine HP.mono ?_
                    rintro e w2 ⟨rfl, hr2, hk2, hb2⟩
                    have HM2 := Lib.hid (HI0.out.call hr2 hwf hk2 hb2)
                    have bA2 := hk2.blk HBA.out (by decide) (by decide) (by decide)
                    have hw12 : wr.heap.size < w2.heap.size := bA2.lt
                    have HM2a := Lib.hid (HM2.out.alloc (.cells #[.int .i64 K, .int .i64 N] 38))
                    have HVb := Lib.hid ((HVa.out.keep hk2.u8).alloc (.cells #[.int .i64 K, .int .i64 N] 38))
                    have HBb := Lib.hid (bA2.alloc (.cells #[.int .i64 K, .int .i64 N] 38))
                    have HBc := Lib.hid (Blk.new w2 38 #[.int .i64 K, .int .i64 N])
                    have q1 := bA2.cell 1 _ rfl
                    have q2 := bA2.cell 2 _ rfl
                    clear HP hr2 hk2 hb2 hwf bA2
                    by_cases he : er = 0
                    · subst he
                      obtain ⟨hsome, hnone, hf, b1, b2, b3, b4⟩ := HI0.out.fits.swap HI0.out.wf hp
                      have hwk := wf_small b1 b2 b3 b4 (by omega)
                      have his : is = true := by rw [HO2.out, hsome]
                      subst his
                      obtain ⟨w3, hdl, hm3, ht3⟩ := HM2a.out.map.del HWK.out
                      have HM3 := Lib.hid (HM2a.out.turn hm3 ht3)
                      have hS : ∀ i, i = w.heap.size + 1 → w.heap.size ≤ i ∧ ∀ c t fr, (w2.alloc (.cells #[.int .i64 K, .int .i64 N] 38)).heap[i]? ≠ some (.cells c t fr) := fun i e => by
                        subst e
                        obtain ⟨es, clock, hb⟩ := ht3.was
                        exact ⟨by omega, fun c t fr e2 => by rw [hb] at e2; cases e2⟩
                      have nA : ¬ wr.heap.size = w.heap.size + 1 := fun e => by have := HI.out.lt; omega
                      have nC : ¬ w2.heap.size = w.heap.size + 1 := fun e => by have := HI.out.lt; omega
                      have bA3 := HBb.out.only ht3.only nA
                      have bC3 := HBc.out.only ht3.only nC
                      have HV3 := Lib.hid (HVb.out.keep (keepB_others (B := w.heap.size) ht3.only hS))
                      have q3 := bC3.cell 0 _ rfl
                      have q4 := bC3.cell 1 _ rfl
                      have q5 := bA3.cell 3 _ rfl
                      have hlk := HM3.out.map.look hwk
                      rw [hnone] at hlk
                      simp only [keyV, strV, Option.getD_none, Option.isSome_none] at hlk
                      have cv := HV3.out.string (P := Try.prog) 39 9 Try.underlying39 Try.underlying5 Try.underlying9
                      obtain ⟨w4, hmu, hm4, ht4⟩ := HM3.out.map.put hwk hnone a.bs
                      have HI4 := Lib.hid ((HM3.out.turn hm4 ht4).inv hf)
                      simp only [keyV, strV] at hmu
                      simp only [keyV] at hdl
                      clear hp hsome hnone hf b1 b2 b3 b4 hwk hm3 ht3 hm4 ht4 nA nC hS bA3 bC3
                      go_wp2_with fail
                      go_meet
                      case rel => exact ⟨rfl, _, _, HI4.out⟩
                    · obtain ⟨rfl, rfl, rfl⟩ := pswap_no hp he
                      have hcv : (er != 0) = true := by simpa using he
                      have HI3 := Lib.hid (HM2a.out.inv HI0.out.fits)
                      clear hp
                      cases hph : phas st' a.K a.N with
                      | none =>
                        have his : is = false := by rw [HO2.out, hph]; rfl
                        subst his
                        clear hph
                        go_wp2_with fail
                        go_meet
                        case rel => exact ⟨rfl, _, _, HI3.out⟩
                      | some obs =>
                        have his : is = true := by rw [HO2.out, hph]; rfl
                        have hold : old = obs := by rw [HO1.out, hph]; rfl
                        subst his hold
                        have HG := Lib.hid (gets_some (k + 1) w.heap.size w.heap.size most st' a.K a.N old _ HI3.out.rep HI3.out.wf hph)
                        clear hph
                        go_wp2_with fail
                        refine HG.out.mono ?_
                        rintro e w3 ⟨rfl, hb3⟩
                        have HI4 := Lib.hid (HI3.out.adv hb3)
                        clear hb3
                        go_wp2_with fail
                        go_meet
                        case rel => exact ⟨rfl, _, _, HI4.out⟩
                  · go_wp2_with fail
                    go_meet
                    case rel => exact ⟨rfl, _, _, HI0.out.more⟩
            case rest =>
              obtain ⟨rfl, st2, L2, hinv2⟩ := hcut
              clear HI0 HBA HVa HI HV' HWK HO1 HO2
              have HI := Lib.hid hinv2
              clear hinv2
              obtain ⟨cl, hrg, hR⟩ := HI.out.map.range
              obtain ⟨wi, hwi⟩ : ∃ wi, wc.alloc (.mapIter (some (w.heap.size + 1)) cl #[] cl) = wi := ⟨_, rfl⟩
              rw [hwi] at hrg hR
              have HIi := Lib.hid (hwi ▸ HI.out.alloc _)
              have HR := Lib.hid hR
              obtain ⟨r, hr⟩ : ∃ r, wc.heap.size = r := ⟨_, rfl⟩
              have hrw : w.heap.size ≤ r := by have := HI.out.lt; omega
              rw [hr] at hrg HR
              clear hwi hR HI hr
              obtain ⟨hl1, hl2, hl3, hl4, hl5⟩ := HIi.out.fits.law
              go_wp2_with fail
              go_loopw [21] (fun hv wr2 => ∃ todo : List ME, hv = .int .i64 ((sumL L2 - sumL todo : Nat) : Int) ∧ sumL todo ≤ sumL L2 ∧ (∀ x ∈ todo, x ∈ L2) ∧ HInv w wr2 (k + 1) most (.slice (some ⟨b, off, none⟩) ls.length cap) ls st2 L2 ∧ MRange wr2 (w.heap.size + 1) r L2 todo) (fun _ wr2 => wr2.rangeLeft (w.heap.size + 1) r)
              case atStart => exact ⟨L2, by simp, Nat.le_refl _, fun x hx => hx, HIi.out, HR.out⟩
              case round =>
                obtain ⟨todo, rfl, hle, hsub, hinv3, hr3⟩ := hrel
                have HI3 := Lib.hid hinv3
                have HR3 := Lib.hid hr3
                clear hinv3 hr3 HIi HR hrg
                rcases HR3.out.next with ⟨rfl, hnx⟩ | ⟨j, x, w4, hx, hnx, hR4, _, ho4, _, _, hen⟩
                · rw [show sumL ([] : List ME) = 0 from rfl, Nat.sub_zero]
                  have hll := HI3.out.map.len
                  go_wp2_with fail
                  refine (aUsed (k + 1) w.heap.size w.heap.size most st2 _ HI3.out.rep HI3.out.wf (by omega)).mono ?_
                  rintro e w5 ⟨rfl, hb5⟩
                  rw [hl1]
                  have HI5 := Lib.hid (HI3.out.adv hb5)
                  have hll := HI5.out.map.len
                  have hg1 : ¬ ((pused st2 13 : Nat) : Int) < ((sumL L2 : Nat) : Int) := by omega
                  have hg2 : ¬ ((pall st2 13 : Nat) : Int) < ((pused st2 13 : Nat) : Int) := by omega
                  have hg3 : ¬ most < ((pall st2 13 : Nat) : Int) := by omega
                  have hg4 : ((sumL L2 : Nat) : Int) ≤ 1099511627776 := by omega
                  have hg5 : ((L2.length : Nat) : Int) ≤ 1099511627776 := by
                    have := cost_len HI5.out.fits.fit
                    have := HI5.out.fits.used
                    omega
                  have hg6 : ¬ 2 * ((sumL L2 : Nat) : Int) + 16 * ((L2.length : Nat) : Int) < ((pused st2 13 : Nat) : Int) := by omega
                  have hg7 : (0 : Int) ≤ ((sumL L2 : Nat) : Int) := by omega
                  have hg8 : (0 : Int) ≤ ((L2.length : Nat) : Int) := by omega
                  clear hb5
                  go_wp2_with fail
                  go_roundw
                  case rel => exact ⟨k + 1, st2, L2, by omega, by go_num, HI5.out⟩
                  case measure => simp [intOf]; omega
                · obtain ⟨⟨K, N⟩, bs⟩ := x
                  have hin : ((K, N), bs) ∈ L2 := hsub _ (List.mem_of_getElem? hx)
                  have hph := (HI3.out.fits.mem K N bs).1 hin
                  have hse := sumL_erase hx
                  have hlen : (todo.eraseIdx j).length < todo.length := by
                    have := (List.getElem?_eq_some_iff.1 hx).1
                    rw [List.length_eraseIdx_of_lt this]
                    omega
                  have HI4 := Lib.hid (HI3.out.step HR3.out hrw ho4)
                  have HI4a := Lib.hid (HI4.out.alloc (.cells #[.int .i64 K, .int .i64 N] 38))
                  have HR4 := Lib.hid (hR4.alloc (.cells #[.int .i64 K, .int .i64 N] 38))
                  have HG := Lib.hid (gets_some (k + 1) w.heap.size w.heap.size most st2 K N bs _ HI4a.out.rep HI4a.out.wf hph)
                  simp only [keyV, strV] at hnx hen
                  have HLE := Lib.hid hlen
                  have HSE := Lib.hid hse
                  have HX := Lib.hid hsub
                  have hg1 : ((sumL L2 - sumL todo : Nat) : Int) ≤ 1099511627776 := by omega
                  have hg2 : (bs.length : Int) ≤ 1099511627776 := by dsimp only at hse; omega
                  have hle2 := HSE.out
                  clear hin hph hse hlen hx hR4 ho4 hsub
                  go_wp2_with fail
                  refine HG.out.mono ?_
                  rintro e w6 ⟨rfl, hb6⟩
                  have HI6 := Lib.hid (HI4a.out.adv hb6)
                  have HR6 := Lib.hid (HR4.out.below hb6)
                  clear hb6 hnx hen
                  go_wp2_with fail
                  go_roundw
                  case rel => exact ⟨todo.eraseIdx j, by (try dsimp only at hle2); go_num, by omega, fun y hy => HX.out y (List.mem_of_mem_eraseIdx hy), HI6.out, HR6.out⟩
                  case measure => rw [HR6.out.left_eq, HR3.out.left_eq]; exact HLE.out
          · obtain rfl : k = ls.length := by omega
            go_wp2_with fail
            refine (known_true _).mono ?_
            rintro e w9 ⟨rfl, hb9⟩
            have HG := Lib.hid (HI.out.below.trans (hb9.mono HI.out.below.size))
            clear hb9
            go_wp2_with fail
            go_ret
            exact ⟨rfl, HG.out⟩

end Go.Proofs.Ytookfhmghchkjaa
