/- Law 45's examples: the walk of known. -/
import Derived.Test.YtffigmciclopdaaDoorJouR
namespace Go.Proofs.YtffigmciclopdaaDoor
open Go Go.RowKit

theorem OpsAt.lit {w : World} {B g n : Nat} {ps : List (OpV × Value)} (h : Blk w g 43 (ocs ps).toArray) (hn : n = ps.length) (hm : ps.length ≤ 100) (hv : ∀ p ∈ ps, Bts w B 5 p.2 p.1.val) (hw : ∀ p ∈ ps, 0 ≤ p.1.ticks) : OpsAt w B (.slice (some ⟨g, 0, none⟩) n n) ps := by
  subst hn
  refine OpsAt.of_own (base := 0) ⟨by rw [ocs_length], .inr ⟨g, _, _, rfl, Nat.zero_le _, h, Nat.le_refl _, by unfold maxLen; omega, ?_, ?_⟩⟩ hv hw
  · simp [ocs_length]
  · rw [← ocs_length]; simp

/-- The examples' operations. -/
def kl2 : List (OpV × Value) := [(getO, .slice none 0 0), (advO, .slice none 0 0)]
theorem kl2_bts {w : World} {B : Nat} {p : OpV × Value} (hp : p ∈ kl2) : Bts w B 5 p.2 p.1.val := by
  simp only [kl2, List.mem_cons, List.not_mem_nil, or_false] at hp
  rcases hp with rfl | rfl <;> exact Bts.nil _ _ _
theorem kl2_wf : ∀ p ∈ kl2, 0 ≤ p.1.ticks := by
  intro p hp
  simp only [kl2, List.mem_cons, List.not_mem_nil, or_false] at hp
  rcases hp with rfl | rfl <;> decide
def kl1 : List (OpV × Value) := [(getO, .slice none 0 0)]
theorem kl1_bts {w : World} {B : Nat} {p : OpV × Value} (hp : p ∈ kl1) : Bts w B 5 p.2 p.1.val := by
  simp only [kl1, List.mem_cons, List.not_mem_nil, or_false] at hp
  rcases hp with rfl; exact Bts.nil _ _ _
theorem kl1_wf : ∀ p ∈ kl1, 0 ≤ p.1.ticks := by
  intro p hp
  simp only [kl1, List.mem_cons, List.not_mem_nil, or_false] at hp
  rcases hp with rfl; decide

theorem Bts.upto {w : World} {B U : Nat} {A : Option Addr} {n cap : Nat} {bs : List UInt8} (h : Bts w B U (.slice A n cap) bs) (u : Nat) (hu : u ≤ n) : Bts w B U (.slice A u cap) (bs.take u) := by
  obtain ⟨A', cap', e, hl, hc, hn, hr⟩ := h
  injection e with e1 e2 e3
  subst e1 e2 e3
  refine ⟨A, cap, by simp [Nat.min_eq_left hu], by simp; omega, hc, fun h0 => by have := hn h0; simp; omega, fun hp => ?_⟩
  obtain ⟨b, off, hA, hb, ht, hx⟩ := hr (by simp at hp; omega)
  refine ⟨b, off, hA, hb, ht, fun i hi => ?_⟩
  simp at hi
  rw [hx i (by omega)]
  simp


set_option maxRecDepth 100000 in
set_option maxHeartbeats 4000000 in
theorem known_true (w : World) (hk : KG w) : Calls Tryd.prog 8 #[] w fun e w' => e = .returned (.bool true) ∧ Below w.heap.size w w' := by
  have H0 := Lib.hid hk.1
  have K0 := Lib.hid (Kj.start w hk)
  clear hk
  go_enter Tryd.func8, Tryd.ntmps8
  go_wp2_with fail
  refine (jSum_any _ _ _ _ _ _ _ _ _ K0.out.rep).mono ?_
  rintro e w1 ⟨he, hb⟩
  rw [k_sum0] at he
  subst he
  have K1 := Lib.hid (K0.out.adv hb)
  clear hb
  go_wp2_with fail
  refine (get_any _).mono ?_
  rintro e w2 ⟨rfl, hb⟩
  have K2 := Lib.hid (K1.out.adv hb)
  clear hb
  go_wp2_with fail
  refine (append_any w.heap.size w.heap.size _ _ _ _ _ _ getO (.slice none 0 0) _ K2.out.rep (Bts.nil _ _ _) K2.out.kg (by decide) K2.out.below.size).mono ?_
  intro e w3 hap
  unfold ApPost at hap
  rw [k_r1] at hap
  dsimp only at hap
  rw [if_neg (by decide)] at hap
  obtain ⟨rfl, d3, e3, o3, V1, hr, ho, -, -⟩ := hap
  have K3 : Hid (Kj w w3 d3 e3 o3 kr1 [9] [(getO, V1)]) := Lib.hid (K2.out.next hr ho H0.out)
  clear hr ho K0 K1 K2
  go_wp2_with fail
  refine (append_any w.heap.size w.heap.size _ _ _ _ _ _ zeroO (.slice none 0 0) _ K3.out.rep (Bts.nil _ _ _) K3.out.kg (by decide) K3.out.below.size).mono ?_
  intro e w4 hap
  unfold ApPost at hap
  rw [k_zero] at hap
  dsimp only at hap
  obtain ⟨rfl, hb⟩ := hap
  have K4 := Lib.hid (K3.out.adv hb)
  clear hb K3
  go_wp2_with fail
  refine (adv_any _).mono ?_
  rintro e w5 ⟨rfl, hb⟩
  have K5 := Lib.hid (K4.out.adv hb)
  clear hb
  go_wp2_with fail
  refine (append_any w.heap.size w.heap.size _ _ _ _ _ _ advO (.slice none 0 0) _ K5.out.rep (Bts.nil _ _ _) K5.out.kg (by decide) K5.out.below.size).mono ?_
  intro e w6 hap
  unfold ApPost at hap
  rw [k_r2] at hap
  dsimp only at hap
  rw [if_neg (by decide)] at hap
  obtain ⟨rfl, d6, e6, o6, V2, hr, ho, -, -⟩ := hap
  have K6 : Hid (Kj w w6 d6 e6 o6 kr [9, 16] [(getO, V1), (advO, V2)]) := Lib.hid (K5.out.next hr ho H0.out)
  clear hr ho K4 K5
  go_wp2_with fail
  refine (jLen_any _ _ _ _ _ _ _ _ _ K6.out.rep).mono ?_
  rintro e w7 ⟨he, rfl⟩
  rw [show ([9, 16] : List Nat).length = 2 from rfl] at he
  subst he
  go_wp2_with fail
  refine (jOps_any _ _ _ _ _ _ _ _ _ K6.out.rep K6.out.below.size (by intro p hp; simp only [List.mem_cons, List.not_mem_nil, or_false] at hp; rcases hp with rfl | rfl <;> exact Nat.zero_le _)).mono ?_
  rintro e w8 ⟨v8, qs8, rfl, hm8, hq8, hb⟩
  have K8 := Lib.hid (K6.out.adv hb)
  have HQ8 := Lib.hid hq8
  have HM8 := Lib.hid hm8
  obtain ⟨A8, c8, rfl, _, _⟩ := own_form hq8.row
  clear hb hq8 hm8
  go_wp2_with fail
  refine (get_any _).mono ?_
  rintro e w9 ⟨rfl, hb⟩
  have K9 := Lib.hid (K8.out.adv hb)
  have HQ9 := Lib.hid (HQ8.out.below hb)
  clear hb
  go_wp2_with fail
  refine (adv_any _).mono ?_
  rintro e w10 ⟨rfl, hb⟩
  have K10 := Lib.hid (K9.out.adv hb)
  have HQ10 := Lib.hid (HQ9.out.below hb)
  clear hb K8 K9 HQ8 HQ9
  unfold opv opc
  go_wp2_with fail
  have hbk := Blk.new w10 43 (ocs kl2).toArray
  obtain ⟨w11, hw11⟩ : ∃ w11, w10.alloc (.cells (ocs kl2).toArray 43) = w11 := ⟨_, rfl⟩
  have hb11 : Below w10.heap.size w10 w11 := hw11 ▸ (Below.refl _ _).alloc (Nat.le_refl _) _
  rw [hw11] at hbk
  have K11 := Lib.hid (K10.out.adv hb11)
  have HQ11 := Lib.hid (HQ10.out.below hb11)
  have HL11 : Hid (OpsAt w11 w.heap.size (.slice (some ⟨w10.heap.size, 0, none⟩) 2 2) kl2) := Lib.hid (OpsAt.lit hbk rfl (by decide) (fun p hp => kl2_bts hp) kl2_wf)
  refine ((hw11 : w10.alloc _ = w11) ▸ (opsEqual_any w.heap.size w.heap.size _ _ _ _ w11 (HQ11.out.at_) HL11.out (by have := congrArg List.length HM8.out; rw [List.length_map] at this; rw [this]; show 2 ≤ 1000000; decide) (by decide))).mono ?_
  clear hbk hb11 K10 HQ10
  rintro e w12 ⟨⟨r, rfl, hr⟩, hb⟩
  obtain rfl : r = true := hr.2 (HM8.out.trans rfl)
  rw [hw11] at hb
  have K12 := Lib.hid (K11.out.adv hb)
  clear hr hb hw11 HL11 HQ11
  go_wp2_with fail
  refine (jBytes_any _ _ _ _ _ _ _ _ _ K12.out.rep).mono ?_
  rintro e w13 ⟨v13, rfl, ho, hb⟩
  have K13 := Lib.hid (K12.out.adv hb)
  rw [show kr.length = 16 from rfl] at ho
  have HB13 := Lib.hid ho
  obtain ⟨A13, c13, rfl, _, _⟩ := own_form ho
  clear ho hb K11 K12
  go_wp2_with fail
  refine (record_ok _ _ _ _ _ _ _ _ _ K13.out.rep 0 9 rfl (by decide) (by decide)).mono ?_
  rintro e w14 ⟨v14, rfl, ho, hb⟩
  have K14 := Lib.hid (K13.out.adv hb)
  have HB14 := Lib.hid (own_later HB13.out hb)
  rw [show (kr.take 9).drop (fromE [9, 16] 0) = kr1 from rfl, show kr1.length = 9 from rfl] at ho
  have HR14 := Lib.hid ho
  obtain ⟨A14, c14, rfl, _, _⟩ := own_form ho
  clear ho hb K13 HB13
  go_wp2_with fail
  refine (record_ok _ _ _ _ _ _ _ _ _ K14.out.rep 1 16 rfl (by decide) (by decide)).mono ?_
  rintro e w15 ⟨v15, rfl, ho, hb⟩
  have K15 := Lib.hid (K14.out.adv hb)
  have HB15 := Lib.hid (own_later HB14.out hb)
  have HR15 := Lib.hid (own_later HR14.out hb)
  rw [show (kr.take 16).drop (fromE [9, 16] 1) = kr2 from rfl, show kr2.length = 7 from rfl] at ho
  have HS15 := Lib.hid ho
  obtain ⟨A15, c15, rfl, _, _⟩ := own_form ho
  clear ho hb K14 HB14 HR14
  go_wp2_with fail
  refine (record_none _ _ _ _ _ _ _ _ _ K15.out.rep 2 (.inr (by decide))).mono ?_
  rintro e w16 ⟨rfl, rfl⟩
  have cb := (Bts.of_own (bs := kr) HB15.out 0).string (P := Tryd.prog) 22 9 Tryd.underlying22 Tryd.underlying5 Tryd.underlying9
  have c1 := (Bts.of_own (bs := kr1) HR15.out 0).string (P := Tryd.prog) 22 9 Tryd.underlying22 Tryd.underlying5 Tryd.underlying9
  have c2 := (Bts.of_own (bs := kr2) HS15.out 0).string (P := Tryd.prog) 22 9 Tryd.underlying22 Tryd.underlying5 Tryd.underlying9
  have hs1 : (({ data := kr1.toArray } ++ { data := kr2.toArray } : ByteArray).toList == kr) = true := by kernel_rfl
  have hs2 : ¬ 9223372036854775807 < kr1.length + kr2.length := by decide
  go_wp2_with fail
  clear hs1 hs2 cb c1 c2
  refine (read_all_any 0 _ kr _ (Bts.of_own (bs := kr) HB15.out 0) (Nat.zero_le _) K15.out.kg (by decide)).mono ?_
  rintro e w17 ⟨v17, p17, he, hm, hq, hb⟩
  rw [k_rd] at he hm
  dsimp only at he hm
  rw [show kr.length = 16 from rfl] at he
  subst he
  have K17 := Lib.hid (K15.out.adv hb)
  have HB17 := Lib.hid (own_later HB15.out hb)
  have HQ17 := Lib.hid hq
  have HM17 := Lib.hid hm
  obtain ⟨A17, c17, rfl⟩ := hq.slice
  clear hb hq hm K15 HB15 HR15 HS15 K6 HM8
  go_wp2_with fail
  refine (read_all_any 0 _ (kr.take 15) _ ((Bts.of_own (bs := kr) HB17.out 0).upto 15 (by decide)) (Nat.zero_le _) K17.out.kg (by decide)).mono ?_
  rintro e w18 ⟨v18, p18, he, hm, hq, hb⟩
  rw [k_rd1] at he hm
  dsimp only at he hm
  rw [show kr1.length = 9 from rfl] at he
  subst he
  have K18 := Lib.hid (K17.out.adv hb)
  have HQ18 := Lib.hid (HQ17.out.below hb)
  have HT18 := Lib.hid hq
  have HM18 := Lib.hid hm
  obtain ⟨A18, c18, rfl⟩ := hq.slice
  clear hb hq hm K17 HB17 HQ17
  go_wp2_with fail
  refine (read_all_any 0 _ [] _ (Bts.nil _ _ _) (Nat.zero_le _) K18.out.kg (by decide)).mono ?_
  rintro e w19 ⟨v19, p19, he, hm, hq, hb⟩
  rw [k_rd0] at he hm
  dsimp only at he hm
  obtain rfl : p19 = [] := by simpa using hm.symm
  rw [show ([] : List UInt8).length = 0 from rfl] at he
  subst he
  have K19 := Lib.hid (K18.out.adv hb)
  have HQ19 := Lib.hid (HQ18.out.below hb)
  have HT19 := Lib.hid (HT18.out.below hb)
  obtain ⟨A19, c19, rfl⟩ := hq.slice
  clear hb hq hm K18 HQ18 HT18
  go_wp2_with fail
  refine (get_any _).mono ?_
  rintro e w20 ⟨rfl, hb⟩
  have K20 := Lib.hid (K19.out.adv hb)
  have HQ20 := Lib.hid (HQ19.out.below hb)
  have HT20 := Lib.hid (HT19.out.below hb)
  clear hb K19 HQ19 HT19
  go_wp2_with fail
  refine (adv_any _).mono ?_
  rintro e w21 ⟨rfl, hb⟩
  have K21 := Lib.hid (K20.out.adv hb)
  have HQ21 := Lib.hid (HQ20.out.below hb)
  have HT21 := Lib.hid (HT20.out.below hb)
  clear hb K20 HQ20 HT20
  unfold opv opc
  go_wp2_with fail
  have hbk := Blk.new w21 43 (ocs kl2).toArray
  obtain ⟨w22, hw22⟩ : ∃ w22, w21.alloc (.cells (ocs kl2).toArray 43) = w22 := ⟨_, rfl⟩
  have hb22 : Below w21.heap.size w21 w22 := hw22 ▸ (Below.refl _ _).alloc (Nat.le_refl _) _
  rw [hw22] at hbk
  have K22 := Lib.hid (K21.out.adv hb22)
  have HQ22 := Lib.hid (HQ21.out.below hb22)
  have HT22 := Lib.hid (HT21.out.below hb22)
  have HL22 : Hid (OpsAt w22 w.heap.size (.slice (some ⟨w21.heap.size, 0, none⟩) 2 2) kl2) := Lib.hid (OpsAt.lit hbk rfl (by decide) (fun p hp => kl2_bts hp) kl2_wf)
  have hl17 : p17.length = 2 := by have := congrArg List.length HM17.out; rw [List.length_map] at this; exact this.symm
  have hl18 : p18.length = 1 := by have := congrArg List.length HM18.out; rw [List.length_map] at this; exact this.symm
  have HL17 := Lib.hid hl17
  have HL18 := Lib.hid hl18
  clear hl17 hl18
  refine ((hw22 : w21.alloc _ = w22) ▸ (opsEqual_any _ w.heap.size _ _ _ _ w22 HQ22.out HL22.out (by rw [HL17.out]; decide) (by decide))).mono ?_
  clear hbk hb22 K21 HQ21 HT21
  rintro e w23 ⟨⟨r, rfl, hr⟩, hb⟩
  obtain rfl : r = true := hr.2 (HM17.out.symm.trans rfl)
  rw [hw22] at hb
  have K23 := Lib.hid (K22.out.adv hb)
  have HT23 := Lib.hid (HT22.out.below hb)
  clear hr hb hw22 HL22 HQ22 HT22 K22
  go_wp2_with fail
  refine (get_any _).mono ?_
  rintro e w24 ⟨rfl, hb⟩
  have K24 := Lib.hid (K23.out.adv hb)
  have HT24 := Lib.hid (HT23.out.below hb)
  clear hb K23 HT23
  unfold opv opc
  go_wp2_with fail
  have hbk := Blk.new w24 43 (ocs kl1).toArray
  obtain ⟨w25, hw25⟩ : ∃ w25, w24.alloc (.cells (ocs kl1).toArray 43) = w25 := ⟨_, rfl⟩
  have hb25 : Below w24.heap.size w24 w25 := hw25 ▸ (Below.refl _ _).alloc (Nat.le_refl _) _
  rw [hw25] at hbk
  have K25 := Lib.hid (K24.out.adv hb25)
  have HT25 := Lib.hid (HT24.out.below hb25)
  have HL25 : Hid (OpsAt w25 w.heap.size (.slice (some ⟨w24.heap.size, 0, none⟩) 1 1) kl1) := Lib.hid (OpsAt.lit hbk rfl (by decide) (fun p hp => kl1_bts hp) kl1_wf)
  refine ((hw25 : w24.alloc _ = w25) ▸ (opsEqual_any _ w.heap.size _ _ _ _ w25 HT25.out HL25.out (by rw [HL18.out]; decide) (by decide))).mono ?_
  clear hbk hb25 K24 HT24
  rintro e w26 ⟨⟨r, rfl, hr⟩, hb⟩
  obtain rfl : r = true := hr.2 (HM18.out.symm.trans rfl)
  rw [hw25] at hb
  have K26 := Lib.hid (K25.out.adv hb)
  clear hr hb hw25 HL25 HT25 K25
  go_wp2_with fail
  go_ret
  exact ⟨rfl, K26.out.below⟩

end Go.Proofs.YtffigmciclopdaaDoor
