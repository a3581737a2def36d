/- Law 45's helper few. -/
import Derived.Test.YtffigmciclopdaaDoorJouP
namespace Go.Proofs.YtffigmciclopdaaDoor
open Go Go.RowKit

def FewRet (ps : List (OpV × Value)) (most : Nat) (w : World) (e : Ending) (w' : World) : Prop :=
  (∃ r, e = .returned (.bool r) ∧ (r = true → ps.length ≤ most ∧ ∀ p ∈ ps, lightO p.1 = true)) ∧ Below w.heap.size w w'

set_option maxRecDepth 100000 in
set_option maxHeartbeats 4000000 in
theorem few_any (B : Nat) (v : Value) (ps : List (OpV × Value)) (most : Nat) (w : World) (ha : OpsAt w B v ps) (hm : most ≤ 1000) (hks : ∀ p ∈ ps, p.1.key.size ≤ maxLen) :
    Calls Tryd.prog 10 #[v, .int .i64 (most : Int)] w (FewRet ps most w) := by
  have hlm : ps.length ≤ maxLen := by obtain ⟨_, _, _, h1, h2, _⟩ := ha.form; omega
  unfold maxLen at hlm
  obtain ⟨A, cap, rfl⟩ := ha.slice
  have HA := Lib.hid ha
  have HKs := Lib.hid hks
  clear hks
  have hmI : (most : Int) ≤ 1000 := by omega
  obtain ⟨n, hn⟩ : ∃ n, ps.length = n := ⟨_, rfl⟩
  rw [hn] at HA hlm ⊢
  have HN := Lib.hid hn
  have hnI : (n : Int) ≤ 9223372036854775807 := by omega
  clear ha hn
  go_enter Tryd.func10, Tryd.ntmps10
  go_wp2_with fail
  go_loopw [5] (fun i wr => ∃ (m : Nat), m ≤ n ∧ m ≤ most ∧ i = .int .i64 m ∧ (∀ j p, j < m → ps[j]? = some p → lightO p.1 = true) ∧ Below w.heap.size w wr) (fun i _ => n - (intOf i).toNat)
  case atStart => exact ⟨0, by omega, by omega, rfl, fun j p h => by omega, Below.refl _ _⟩
  case round =>
    obtain ⟨m, hm1, hm2, rfl, hj, hb⟩ := hrel
    have HJ := Lib.hid hj
    have HB := Lib.hid hb
    clear hj hb
    by_cases h1 : m < n
    · have h1I : (m : Int) < (n : Int) := by omega
      by_cases h2 : m < most
      · have h2I : (m : Int) < (most : Int) := by omega
        obtain ⟨⟨o, V⟩, hp⟩ : ∃ p, ps[m]? = some p := ⟨_, List.getElem?_eq_getElem (by have := HN.out; omega)⟩
        have hI := HA.out.below HB.out
        have hv := hI.vals _ (List.mem_of_getElem? hp)
        obtain ⟨VA, vc, e1⟩ := hv.form
        dsimp only at hv e1
        subst e1
        obtain ⟨ga, oa, rfl, hga, -⟩ := hI.at_ hp
        obtain ⟨z0, z1, z2, z3, z4, z5, z6, z7, z8⟩ := hI.atI hp
        have HP := Lib.hid hp
        have HC := Lib.hid (light_any o VA vc wr (HKs.out _ (List.mem_of_getElem? hp)) hv.le)
        unfold opv opc at HC
        clear hp hv hI
        go_wp2_with fail
        refine HC.out.mono ?_
        rintro e w4 ⟨he4, hb4⟩
        have HB4 := Lib.hid (HB.out.trans (hb4.mono HB.out.size))
        clear hb4 z0 z1 z2 z3 z4 z5 z6 z7 z8
        cases hq : lightO o with
        | false =>
          rw [hq] at he4
          subst he4
          clear hq
          go_wp2_with fail
          go_ret
          exact ⟨⟨false, rfl, fun h => by cases h⟩, HB4.out⟩
        | true =>
          have HL := Lib.hid hq
          rw [hq] at he4
          subst he4
          clear hq
          go_wp2_with fail
          go_roundw
          case rel =>
            refine ⟨m + 1, by omega, by omega, by go_num, fun j p hj hp => ?_, HB4.out⟩
            by_cases e : j = m
            · subst e
              rw [HP.out] at hp
              injection hp with hp
              subst hp
              exact HL.out
            · exact HJ.out j p (by omega) hp
          case measure => simp [intOf]; omega
      · have h2I : ¬ (m : Int) < (most : Int) := by omega
        have h3I : ¬ (n : Int) ≤ (most : Int) := by omega
        go_wp2_with fail
        go_ret
        exact ⟨⟨false, rfl, fun h => by cases h⟩, HB.out⟩
    · obtain rfl : m = n := by omega
      have h1I : ¬ (m : Int) < (m : Int) := by omega
      have h3I : (m : Int) ≤ (most : Int) := by omega
      go_wp2_with fail
      go_ret
      refine ⟨⟨true, rfl, fun _ => ⟨by have := HN.out; omega, fun p hp => ?_⟩⟩, HB.out⟩
      obtain ⟨i, hi, hpi⟩ := List.getElem_of_mem hp
      exact HJ.out i p (by have := HN.out; omega) (by rw [List.getElem?_eq_getElem hi, hpi])

end Go.Proofs.YtffigmciclopdaaDoor
