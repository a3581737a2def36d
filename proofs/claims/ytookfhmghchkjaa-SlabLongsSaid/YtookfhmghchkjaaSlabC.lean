/- The walks of layer 13's functions: at, Get. -/
import Derived.Test.YtookfhmghchkjaaSlabB
namespace Go.Proofs.Ytookfhmghchkjaa
open Go Go.RowKit
attribute [local go_sem ↓] Go.wp_at_zero Go.wp_at_succ

/-- The used cell of a number in a class, if there is one. -/
def hasC (sh : Nat → ShV) (K N : Int) : Option CelV :=
  if 0 ≤ K ∧ K < 13 ∧ 0 ≤ N then
    match (sh K.toNat).cs[N.toNat]? with
    | some c => if c.used = true then some c else none
    | none => none
  else none

theorem hasC_nat (sh : Nat → ShV) {k n : Nat} (hk : k < 13) {c : CelV} (hc : (sh k).cs[n]? = some c) (hu : c.used = true) : hasC sh k n = some c := by
  unfold hasC
  rw [if_pos (by omega)]
  simp [hc, hu]
theorem hasC_some {sh : Nat → ShV} {K N : Int} {c : CelV} (h : hasC sh K N = some c) : ∃ k n : Nat, K = k ∧ N = n ∧ k < 13 ∧ (sh k).cs[n]? = some c ∧ c.used = true := by
  unfold hasC at h
  split at h
  · rename_i hr
    refine ⟨K.toNat, N.toNat, by omega, by omega, by omega, ?_⟩
    split at h
    · rename_i d hd
      split at h
      · injection h with h
        subst h
        exact ⟨hd, by assumption⟩
      · cases h
    · cases h
  · cases h
theorem hasC_none {sh : Nat → ShV} {K N : Int} (h : hasC sh K N = none) : K < 0 ∨ 13 ≤ K ∨ N < 0 ∨ ∃ k n : Nat, K = k ∧ N = n ∧ k < 13 ∧ ((sh k).cs.length ≤ n ∨ ∃ c, (sh k).cs[n]? = some c ∧ c.used = false) := by
  unfold hasC at h
  split at h
  · rename_i hr
    refine .inr (.inr (.inr ⟨K.toNat, N.toNat, by omega, by omega, by omega, ?_⟩))
    split at h
    · rename_i d hd
      split at h
      · cases h
      · exact .inr ⟨d, hd, by simpa using ‹¬ d.used = true›⟩
    · rename_i hd
      exact .inl (List.getElem?_eq_none_iff.1 hd)
  · rename_i hr
    by_cases h1 : K < 0
    · exact .inl h1
    · by_cases h2 : 13 ≤ K
      · exact .inr (.inl h2)
      · exact .inr (.inr (.inl (by omega)))



set_option maxRecDepth 100000 in
set_option maxHeartbeats 1000000 in
theorem slabat_none (B b : Nat) (most : Int) (sh : Nat → ShV) (K N : Int) (w : World) (h : SRep w B b most sh) (hn : hasC sh K N = none) :
    Calls Try.prog 33 #[.pointer (some ⟨b, 0, none⟩), .agg #[.int .i64 K, .int .i64 N]] w fun e w' => e = .returned (.tuple #[.pointer none, .int .i64 9]) ∧ Below w.heap.size w w' := by
  have hx := hasC_none hn
  have HR := Lib.hid h
  clear hn h
  by_cases h1 : K < 0
  · obtain ⟨wa, hwa⟩ : ∃ wa, w.alloc (.cells #[.int .i64 K, .int .i64 N] 38) = wa := ⟨_, rfl⟩
    have hba : Below w.heap.size w wa := hwa ▸ (Below.refl _ _).alloc (Nat.le_refl _) _
    have hbx : Blk wa w.heap.size 38 #[.int .i64 K, .int .i64 N] := hwa ▸ Blk.new _ _ _
    have HRa := Lib.hid (HR.out.below hba)
    have y0 : wa.cell? ⟨w.heap.size, 0, none⟩ = some (.int .i64 K) := hbx.cell 0 _ rfl
    have y1 : wa.cell? ⟨w.heap.size, 1, none⟩ = some (.int .i64 N) := hbx.cell 1 _ rfl
    have HBl := Lib.hid (fun m : Nat => (⟨hba.os, hba.tape, hba.output, hba.size, hba.block⟩ : Below w.heap.size w (wa.drewN m)))
    clear hba hbx
    clear hx
    have hd : decide (K < 0) = true := decide_eq_true h1
    go_enter Try.func33, Try.ntmps33
    go_upto_region 1 with fail
    try rw [hwa]
    clear hwa
    go_wp2_with fail
    refine HRa.out.zero.mono ?_
    rintro e w' ⟨rfl, hw⟩
    subst hw
    go_upto_region 3 with fail
    go_quiet (fail)
    go_wp2_with fail
    go_ret2
    exact ⟨rfl, HBl.out _⟩
  by_cases h2 : 13 ≤ K
  · obtain ⟨wa, hwa⟩ : ∃ wa, w.alloc (.cells #[.int .i64 K, .int .i64 N] 38) = wa := ⟨_, rfl⟩
    have hba : Below w.heap.size w wa := hwa ▸ (Below.refl _ _).alloc (Nat.le_refl _) _
    have hbx : Blk wa w.heap.size 38 #[.int .i64 K, .int .i64 N] := hwa ▸ Blk.new _ _ _
    have HRa := Lib.hid (HR.out.below hba)
    have y0 : wa.cell? ⟨w.heap.size, 0, none⟩ = some (.int .i64 K) := hbx.cell 0 _ rfl
    have y1 : wa.cell? ⟨w.heap.size, 1, none⟩ = some (.int .i64 N) := hbx.cell 1 _ rfl
    have HBl := Lib.hid (fun m : Nat => (⟨hba.os, hba.tape, hba.output, hba.size, hba.block⟩ : Below w.heap.size w (wa.drewN m)))
    clear hba hbx
    clear hx
    have hd : decide (K < 0) = false := decide_eq_false h1
    have hd2 : decide (13 ≤ K) = true := decide_eq_true h2
    go_enter Try.func33, Try.ntmps33
    go_upto_region 1 with fail
    try rw [hwa]
    clear hwa
    go_wp2_with fail
    refine HRa.out.zero.mono ?_
    rintro e w' ⟨rfl, hw⟩
    subst hw
    go_upto_region 3 with fail
    go_quiet (fail)
    go_wp2_with fail
    go_ret2
    exact ⟨rfl, HBl.out _⟩
  by_cases h3 : N < 0
  · obtain ⟨wa, hwa⟩ : ∃ wa, w.alloc (.cells #[.int .i64 K, .int .i64 N] 38) = wa := ⟨_, rfl⟩
    have hba : Below w.heap.size w wa := hwa ▸ (Below.refl _ _).alloc (Nat.le_refl _) _
    have hbx : Blk wa w.heap.size 38 #[.int .i64 K, .int .i64 N] := hwa ▸ Blk.new _ _ _
    have HRa := Lib.hid (HR.out.below hba)
    have y0 : wa.cell? ⟨w.heap.size, 0, none⟩ = some (.int .i64 K) := hbx.cell 0 _ rfl
    have y1 : wa.cell? ⟨w.heap.size, 1, none⟩ = some (.int .i64 N) := hbx.cell 1 _ rfl
    have HBl := Lib.hid (fun m : Nat => (⟨hba.os, hba.tape, hba.output, hba.size, hba.block⟩ : Below w.heap.size w (wa.drewN m)))
    clear hba hbx
    clear hx
    have hd : decide (K < 0) = false := decide_eq_false h1
    have hd2 : decide (13 ≤ K) = false := decide_eq_false h2
    have hd3 : decide (N < 0) = true := decide_eq_true h3
    go_enter Try.func33, Try.ntmps33
    go_upto_region 1 with fail
    try rw [hwa]
    clear hwa
    go_wp2_with fail
    refine HRa.out.zero.mono ?_
    rintro e w' ⟨rfl, hw⟩
    subst hw
    go_upto_region 3 with fail
    go_quiet (fail)
    go_wp2_with fail
    go_ret2
    exact ⟨rfl, HBl.out _⟩
  obtain ⟨k, n, rfl, rfl, hk, hx⟩ : ∃ k n : Nat, K = k ∧ N = n ∧ k < 13 ∧ ((sh k).cs.length ≤ n ∨ ∃ c, (sh k).cs[n]? = some c ∧ c.used = false) := by
    rcases hx with hx | hx | hx | hx
    · omega
    · omega
    · omega
    · exact hx
  clear h1 h2 h3
  obtain ⟨wa, hwa⟩ : ∃ wa, w.alloc (.cells #[.int .i64 k, .int .i64 n] 38) = wa := ⟨_, rfl⟩
  have hba : Below w.heap.size w wa := hwa ▸ (Below.refl _ _).alloc (Nat.le_refl _) _
  have hbx : Blk wa w.heap.size 38 #[.int .i64 k, .int .i64 n] := hwa ▸ Blk.new _ _ _
  have HRa := Lib.hid (HR.out.below hba)
  have y0 : wa.cell? ⟨w.heap.size, 0, none⟩ = some (.int .i64 k) := hbx.cell 0 _ rfl
  have y1 : wa.cell? ⟨w.heap.size, 1, none⟩ = some (.int .i64 n) := hbx.cell 1 _ rfl
  have HBl := Lib.hid (fun m : Nat => (⟨hba.os, hba.tape, hba.output, hba.size, hba.block⟩ : Below w.heap.size w (wa.drewN m)))
  clear hba hbx
  have hkI : (k : Int) < 13 := by omega
  have hk0 : ¬ (k : Int) < 0 := by omega
  have hn0 : ¬ (n : Int) < 0 := by omega
  have hd1 : decide ((k : Int) < 0) = false := decide_eq_false hk0
  have hd3 : decide ((n : Int) < 0) = false := decide_eq_false hn0
  have hkd : decide (13 ≤ (k : Int)) = false := decide_eq_false (by omega)
  have x0 := HRa.out.cv hk
  obtain ⟨CA, cc, hcv, hc1, _⟩ := own_form (HRa.out.cells k hk)
  rw [hcv] at x0
  rcases hx with hx | ⟨c, hc, hu⟩
  · have hnI : ((sh k).cs.length : Int) ≤ (n : Int) := by omega
    have hnd : decide ((sh k).cs.length ≤ n) = true := decide_eq_true hx
    clear hcv
    go_enter Try.func33, Try.ntmps33
    go_upto_region 1 with fail
    try rw [hwa]
    clear hwa
    go_wp2_with fail
    refine HRa.out.zero.mono ?_
    rintro e w' ⟨rfl, hw⟩
    subst hw
    go_upto_region 3 with fail
    go_quiet (fail)
    go_wp2_with fail
    go_ret2
    exact ⟨rfl, HBl.out _⟩
  · obtain ⟨g, cap, e, hg, hcap, c0, c1, _⟩ := HRa.out.at_ hk hc
    rw [hcv] at e
    injection e with e1 _ e3
    subst e1 e3
    rw [hu] at c1
    obtain ⟨hnl, _⟩ := List.getElem?_eq_some_iff.1 hc
    have hnI : (n : Int) < ((sh k).cs.length : Int) := by omega
    have hcI : ((sh k).cs.length : Int) ≤ (cc : Int) := by omega
    have hnd : decide ((sh k).cs.length ≤ n) = false := decide_eq_false (by omega)
    clear hcv hc hu c0
    go_enter Try.func33, Try.ntmps33
    go_upto_region 1 with fail
    try rw [hwa]
    clear hwa
    go_wp2_with fail
    refine HRa.out.zero.mono ?_
    rintro e w' ⟨rfl, hw⟩
    subst hw
    go_upto_region 3 with fail
    go_quiet (fail)
    go_wp2_with fail
    go_quiet (fail)
    go_wp2_with fail
    go_ret2
    exact ⟨rfl, HBl.out _⟩

set_option maxRecDepth 100000 in
set_option maxHeartbeats 1000000 in
theorem slabat_ok (B b : Nat) (most : Int) (sh : Nat → ShV) (k n : Nat) (c : CelV) (w : World) (h : SRep w B b most sh) (hk : k < 13) (hc : (sh k).cs[n]? = some c) (hu : c.used = true) (g cap : Nat) (hcv : (sh k).cv = .slice (some ⟨g, 0, none⟩) (sh k).cs.length cap) :
    Calls Try.prog 33 #[.pointer (some ⟨b, 0, none⟩), .agg #[.int .i64 k, .int .i64 n]] w fun e w' => e = .returned (.tuple #[.pointer (some ⟨g, n * 2, none⟩), .int .i64 0]) ∧ Below w.heap.size w w' := by
  have HR := Lib.hid h
  clear h
  obtain ⟨wa, hwa⟩ : ∃ wa, w.alloc (.cells #[.int .i64 k, .int .i64 n] 38) = wa := ⟨_, rfl⟩
  have hba : Below w.heap.size w wa := hwa ▸ (Below.refl _ _).alloc (Nat.le_refl _) _
  have hbx : Blk wa w.heap.size 38 #[.int .i64 k, .int .i64 n] := hwa ▸ Blk.new _ _ _
  have HRa := Lib.hid (HR.out.below hba)
  have y0 : wa.cell? ⟨w.heap.size, 0, none⟩ = some (.int .i64 k) := hbx.cell 0 _ rfl
  have y1 : wa.cell? ⟨w.heap.size, 1, none⟩ = some (.int .i64 n) := hbx.cell 1 _ rfl
  have HBl := Lib.hid (fun m : Nat => (⟨hba.os, hba.tape, hba.output, hba.size, hba.block⟩ : Below w.heap.size w (wa.drewN m)))
  clear hba hbx
  have hkI : (k : Int) < 13 := by omega
  have hk0 : ¬ (k : Int) < 0 := by omega
  have hn0 : ¬ (n : Int) < 0 := by omega
  have hd1 : decide ((k : Int) < 0) = false := decide_eq_false hk0
  have hd3 : decide ((n : Int) < 0) = false := decide_eq_false hn0
  have hkd : decide (13 ≤ (k : Int)) = false := decide_eq_false (by omega)
  have x0 := HRa.out.cv hk
  obtain ⟨g', cap', e, hg, hcap, c0, c1, _⟩ := HRa.out.at_ hk hc
  rw [hcv] at e x0
  injection e with e1 _ e3
  injection e1 with e1
  injection e1 with e1
  subst e1 e3
  rw [hu] at c1
  obtain ⟨hnl, _⟩ := List.getElem?_eq_some_iff.1 hc
  have hnI : (n : Int) < ((sh k).cs.length : Int) := by omega
  have hcI : ((sh k).cs.length : Int) ≤ (cap : Int) := by omega
  have hnd : decide ((sh k).cs.length ≤ n) = false := decide_eq_false (by omega)
  clear hcv hc hu c0
  go_enter Try.func33, Try.ntmps33
  go_upto_region 1 with fail
  try rw [hwa]
  clear hwa
  go_wp2_with fail
  refine HRa.out.zero.mono ?_
  rintro e w' ⟨rfl, hw⟩
  subst hw
  go_upto_region 3 with fail
  go_quiet (fail)
  go_wp2_with fail
  go_quiet (fail)
  go_wp2_with fail
  go_ret2
  exact ⟨rfl, HBl.out _⟩

end Go.Proofs.Ytookfhmghchkjaa
