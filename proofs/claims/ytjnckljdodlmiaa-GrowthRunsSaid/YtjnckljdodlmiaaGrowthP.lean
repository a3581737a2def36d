/- Plain facts for the theorem of stage 8. No program in sight. -/
import Derived.Test.YtjnckljdodlmiaaGrowthN
namespace Go.Proofs.Ytjnckljdodlmiaa
open Go

theorem lpowI_mono {x y : Int} (h0 : 1 ≤ x) (h : x ≤ y) (h1 : y ≤ 1099511627776) : lpowI x ≤ lpowI y := by
  have := lpow_mono (x := x.toNat) (y := y.toNat) (by omega) (by omega) (by omega)
  unfold lpowI
  omega

/-- A power of two below a number has a double that is at most the number's lowest power. -/
theorem lpowI_double {x : Int} {k : Nat} (h0 : 1 ≤ x) (h1 : x ≤ 1099511627776) (h : ((2 ^ k : Nat) : Int) < x) : ((2 ^ (k + 1) : Nat) : Int) ≤ lpowI x := by
  have hg := (lpowI_range x h0 h1).1
  unfold lpowI at *
  obtain ⟨j, hj⟩ := lpow_is x.toNat
  rw [hj] at hg ⊢
  have : 2 ^ k < 2 ^ j := by omega
  have hkj : k < j := (Nat.pow_lt_pow_iff_right (by decide)).1 this
  have : 2 ^ (k + 1) ≤ 2 ^ j := Nat.pow_le_pow_right (by decide) hkj
  omega

/-- What Insert says, in one shape. -/
structure InsOk (g l t pg : Int) (r : Bool) : Prop where
  valid : validB pg = true
  room : l + (if r then 0 else t) < 7 * pg
  bound : 8 * g ≤ lpowI (4 * min l 7340032 + 16) → 8 * pg ≤ lpowI (4 * min (l + 1) 7340032 + 16)

theorem ins_cases {g l t : Int} (hv : validB g = true) (hl : 0 ≤ l) (ht : 0 ≤ t) (hlt : l + t ≤ 8 * g) :
    (∃ pg r, insS g l t = (pg, r, 0) ∧ InsOk g l t pg r) ∨ (insS g l t = (0, false, 7) ∧ 7 * g ≤ l ∧ 1048576 ≤ g) := by
  obtain ⟨hg1, hg2⟩ := validB_range hv
  have hc : chkS g l t = 0 := by unfold chkS; rw [hv, if_pos rfl, if_pos (by omega)]
  have hm : lpowI (4 * min l 7340032 + 16) ≤ lpowI (4 * min (l + 1) 7340032 + 16) := lpowI_mono (by omega) (by omega) (by omega)
  by_cases h1 : l + t < 7 * g
  · exact .inl ⟨g, false, by unfold insS; rw [if_neg (by simp [hc]), if_pos h1], hv, by simpa using h1, fun h => by omega⟩
  · by_cases h2 : 2 * l ≤ 7 * g
    · exact .inl ⟨g, true, by unfold insS; rw [if_neg (by simp [hc]), if_neg h1, if_pos h2], hv, by simp; omega, fun h => by omega⟩
    · by_cases h3 : g < 1048576
      · refine .inl ⟨2 * g, true, by unfold insS; rw [if_neg (by simp [hc]), if_neg h1, if_neg h2, if_pos h3], by rw [validB_twice hv]; simp [h3], by simp; omega, fun h => ?_⟩
        obtain ⟨k, hk, rfl⟩ := (validB_iff g).1 hv
        have hk2 : k < 20 := by
          rcases Nat.lt_or_ge k 20 with h2 | h2
          · exact h2
          · have : 2 ^ 20 ≤ 2 ^ k := Nat.pow_le_pow_right (by decide) h2
            omega
        have hk3 : 2 ^ k ≤ 2 ^ 19 := Nat.pow_le_pow_right (by decide) (by omega)
        have e : ((2 ^ (k + 3) : Nat) : Int) = 8 * ((2 ^ k : Nat) : Int) := by rw [Nat.pow_add]; omega
        have e2 : ((2 ^ (k + 3 + 1) : Nat) : Int) = 16 * ((2 ^ k : Nat) : Int) := by rw [Nat.pow_succ, Nat.pow_add]; omega
        have := lpowI_double (x := 4 * min (l + 1) 7340032 + 16) (k := k + 3) (by omega) (by omega) (by omega)
        omega
      · by_cases h4 : l < 7 * g
        · exact .inl ⟨g, true, by unfold insS; rw [if_neg (by simp [hc]), if_neg h1, if_neg h2, if_neg h3, if_pos h4], hv, by simpa using h4, fun h => by omega⟩
        · exact .inr ⟨by unfold insS; rw [if_neg (by simp [hc]), if_neg h1, if_neg h2, if_neg h3, if_neg h4], by omega, by omega⟩

/-- What Remove says, in one shape. -/
structure RemOk (g l t pg : Int) (r : Bool) : Prop where
  room : l + t < 8 * g → l + (if r then 0 else t) < 8 * pg
  valid : validB pg = true
  enough : l ≤ 8 * pg
  bound : l ≤ 7340032 → 8 * pg ≤ lpowI (4 * min l 7340032 + 16)

theorem lpowI_eighth {x : Int} (h0 : 16 ≤ x) (h1 : x ≤ 1099511627776) : ∃ k : Nat, lpowI x = 8 * ((2 ^ k : Nat) : Int) := by
  have hg := (lpowI_range x (by omega) h1).1
  unfold lpowI at *
  obtain ⟨j, hj⟩ := lpow_is x.toNat
  rw [hj] at hg ⊢
  have h3 : 3 ≤ j := by
    rcases Nat.lt_or_ge j 3 with h | h
    · have : 2 ^ j ≤ 2 ^ 3 := Nat.pow_le_pow_right (by decide) (by omega)
      omega
    · exact h
  refine ⟨j - 3, ?_⟩
  have : 2 ^ j = 2 ^ (j - 3) * 2 ^ 3 := by rw [← Nat.pow_add]; congr 1; omega
  omega

theorem rem_cases {g l t : Int} (hv : validB g = true) (hl : 0 ≤ l) (ht : 0 ≤ t) (hlt : l + t ≤ 8 * g) :
    ∃ pg r, remS g l t = (pg, r, 0) ∧ RemOk g l t pg r := by
  obtain ⟨hg1, hg2⟩ := validB_range hv
  have hc : chkS g l t = 0 := by unfold chkS; rw [hv, if_pos rfl, if_pos (by omega)]
  by_cases h1 : l ≤ 7340032 ∧ lpowI (4 * l + 16) < 8 * g
  · refine ⟨lpowI (4 * l + 16) / 8, true, by unfold remS; rw [if_neg (by simp [hc]), if_pos h1], ?_⟩
    obtain ⟨k, hk⟩ := lpowI_eighth (x := 4 * l + 16) (by omega) (by omega)
    have hr := (lpowI_range (4 * l + 16) (by omega) (by omega)).1
    have hm : min l 7340032 = l := by omega
    rw [hk]
    rw [hk] at h1 hr
    have hk2 : k < 21 := by
      rcases Nat.lt_or_ge k 21 with h2 | h2
      · exact h2
      · have : 2 ^ 21 ≤ 2 ^ k := Nat.pow_le_pow_right (by decide) h2
        omega
    exact ⟨fun _ => by rw [if_pos rfl]; omega, (validB_iff _).2 ⟨k, hk2, by omega⟩, by omega, fun _ => by rw [hm, hk]; omega⟩
  · refine ⟨g, false, by unfold remS; rw [if_neg (by simp [hc]), if_neg h1], fun h => by simpa using h, hv, by omega, fun h => ?_⟩
    have hm : min l 7340032 = l := by omega
    rw [hm]
    omega

theorem groups_ok {m : Int} (h0 : 0 ≤ m) (h1 : m ≤ 7340032) : ∃ n, grpS m = (n, 0) ∧ limS n = (7 * n, 0) ∧ m ≤ 7 * n ∧ 1 ≤ n ∧ n ≤ 1048576 := by
  refine ⟨lpowI (max 1 ((m + 7 - 1) / 7)), by unfold grpS; rw [if_pos ⟨h0, h1⟩], ?_⟩
  have hr := lpowI_range (max 1 ((m + 7 - 1) / 7)) (by omega) (by omega)
  have hx : max 1 ((m + 7 - 1) / 7) ≤ ((2 ^ 20 : Nat) : Int) := by omega
  have hle : lpowI (max 1 ((m + 7 - 1) / 7)) ≤ ((2 ^ 20 : Nat) : Int) := by
    unfold lpowI
    have := lpow_least (x := (max 1 ((m + 7 - 1) / 7)).toNat) (j := 20) (by omega) (by omega) (by omega)
    omega
  have hv : validB (lpowI (max 1 ((m + 7 - 1) / 7))) = true := by
    obtain ⟨j, hj⟩ := lpow_is (max 1 ((m + 7 - 1) / 7)).toNat
    refine (validB_iff _).2 ⟨j, ?_, by unfold lpowI; rw [hj]⟩
    unfold lpowI at hle
    rw [hj] at hle
    rcases Nat.lt_or_ge j 21 with h2 | h2
    · exact h2
    · have : 2 ^ 21 ≤ 2 ^ j := Nat.pow_le_pow_right (by decide) h2
      omega
  exact ⟨by unfold limS; rw [hv, if_pos rfl], by omega, by omega, by omega⟩

/-- The numbers of an index that has been built by at most k steps. -/
structure RunInv (k : Nat) (g l t : Int) : Prop where
  valid : validB g = true
  live0 : 0 ≤ l
  live : l ≤ k
  tombs : 0 ≤ t
  room : l + t < 8 * g
  bound : 8 * g ≤ lpowI (4 * l + 16)

theorem RunInv.start : RunInv 0 1 0 0 := ⟨by decide, by decide, by decide, by decide, by decide, by decide +kernel⟩

theorem RunInv.skip {k : Nat} {g l t : Int} (h : RunInv k g l t) : RunInv (k + 1) g l t := ⟨h.valid, h.live0, by have := h.live; omega, h.tombs, h.room, h.bound⟩

theorem RunInv.ins {k : Nat} {g l t : Int} (h : RunInv k g l t) (hk : k < 300) :
    ∃ pg r, insS g l t = (pg, r, 0) ∧ 1 ≤ pg ∧ pg ≤ 1048576 ∧ ∀ t', 0 ≤ t' → t' ≤ (if r then 0 else t) → RunInv (k + 1) pg (l + 1) t' := by
  have hl := h.live
  have h0 := h.live0
  have ht := h.tombs
  have hr := h.room
  rcases ins_cases h.valid h0 ht (by omega) with ⟨pg, r, hI, ho⟩ | ⟨hI, h7, h8⟩
  · obtain ⟨hp1, hp2⟩ := validB_range ho.valid
    refine ⟨pg, r, hI, hp1, hp2, fun t' ht0 ht1 => ⟨ho.valid, by omega, by omega, ht0, ?_, ?_⟩⟩
    · have := ho.room
      omega
    · have hb := ho.bound
      rw [show min l 7340032 = l from by omega, show min (l + 1) 7340032 = l + 1 from by omega] at hb
      exact hb h.bound
  · omega

theorem RunInv.rem {k : Nat} {g l t : Int} (h : RunInv k g l t) (hk : k < 300) (hl : 0 < l) (t' : Int) (ht0 : 0 ≤ t') (ht1 : t' ≤ t + 1) :
    ∃ pg r, remS g (l - 1) t' = (pg, r, 0) ∧ 1 ≤ pg ∧ pg ≤ 1048576 ∧ RunInv (k + 1) pg (l - 1) (if r then 0 else t') := by
  have hk := h.live
  have hr := h.room
  obtain ⟨pg, r, hR, ho⟩ := rem_cases (g := g) (l := l - 1) (t := t') h.valid (by omega) ht0 (by omega)
  obtain ⟨hp1, hp2⟩ := validB_range ho.valid
  refine ⟨pg, r, hR, hp1, hp2, ho.valid, by omega, by omega, by cases r <;> simp <;> omega, ho.room (by omega), ?_⟩
  have hb := ho.bound (by omega)
  rw [show min (l - 1) 7340032 = l - 1 from by omega] at hb
  exact hb

theorem RunInv.most {k : Nat} {g l t : Int} (h : RunInv k g l t) (hk : k ≤ 300) : ∃ most, bndS l = (most, 0) ∧ 8 * g ≤ most ∧ most ≤ 1000000000 := by
  have hk := h.live
  have h0 := h.live0
  have hr := lpowI_range (4 * l + 16) (by omega) (by omega)
  exact ⟨lpowI (4 * l + 16), by unfold bndS; rw [if_pos (by omega)], h.bound, by omega⟩

end Go.Proofs.Ytjnckljdodlmiaa
