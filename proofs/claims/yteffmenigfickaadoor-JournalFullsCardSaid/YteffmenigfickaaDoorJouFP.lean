/- JournalFulls: records of Advances, in plain words. -/
import Derived.Test.YteffmenigfickaaDoorJouY
namespace Go.Proofs.YteffmenigfickaaDoor
open Go Go.RowKit

/-- Records of Advances. -/
def fulD : Nat → List UInt8
  | 0 => []
  | k + 1 => fulD k ++ recB (sumL (fulD k)) [9]
theorem fulD_succ (k : Nat) : fulD (k + 1) = fulD k ++ recB (sumL (fulD k)) [9] := rfl
theorem fulD_len : ∀ k, (fulD k).length = 7 * k
  | 0 => rfl
  | k + 1 => by simp only [fulD, List.length_append, fulD_len k, recB_len]; simp; omega
theorem fulD_rec (k : Nat) : recO (sumL (fulD k)) advO = some (recB (sumL (fulD k)) [9]) := by
  unfold recO
  rw [k_adv]; rfl
theorem fulD_get (s : Nat) : recO s getO = some (recB s [0, 1, 97]) := by
  unfold recO
  rw [k_get]; rfl
theorem fulD_more : ∀ (d k : Nat), ∃ rest, fulD (k + d) = fulD k ++ rest
  | 0, k => ⟨[], by simp⟩
  | d + 1, k => by
    obtain ⟨rest, h⟩ := fulD_more d k
    refine ⟨rest ++ recB (sumL (fulD (k + d))) [9], ?_⟩
    show fulD (k + d) ++ _ = _
    conv => lhs; lhs; rw [h]
    rw [List.append_assoc]
    rfl
theorem rd_adv : rdOps [9] = [advO] := by kernel_rfl
theorem okRec_adv (s : Nat) (rest : List UInt8) : okRec s (recB s [9] ++ rest) = some (advO, recB s [9]) := by
  have hl : (recB s [9]).length = 7 := recB_len s [9]
  obtain ⟨t, htt⟩ : ∃ t, sumB (sumAt s [9]) = t := ⟨_, rfl⟩
  have e : recB s [9] = headB 1 ++ [9] ++ t := by unfold recB; rw [htt]; rfl
  have e1 : headB 1 = [0, 1] := by decide
  have ht : (recB s [9] ++ rest).take (1 + 6) = recB s [9] := List.take_left' hl
  refine okRec_good (N := 1) (P := [9]) ?_ ?_ rd_adv ?_ ?_ ht.symm
  · rw [e, e1]; simp [headN]
  · rw [e, e1]; rfl
  · rw [List.length_append, hl]; omega
  · unfold recO; rw [k_adv]; rfl

theorem ful_at : ∀ (k many : Nat), k ≤ many → k ≤ 4096 → many ≤ 4098 → ∃ es os rest, RcP (fulD many) (fulD k) es os rest ∧ es.length = k ∧ os.length = k
  | 0, many, _, _, _ => ⟨[], [], fulD many, RcP.start _, rfl, rfl⟩
  | k + 1, many, h, h4, hm => by
    obtain ⟨es, os, rest, hp, h1, h2⟩ := ful_at k many (by omega) (by omega) hm
    obtain ⟨r2, hr2⟩ := fulD_more (many - (k + 1)) (k + 1)
    have e : k + 1 + (many - (k + 1)) = many := by omega
    rw [e] at hr2
    have hc := hp.cut
    have hrest : rest = recB (sumL (fulD k)) [9] ++ r2 := by
      rw [hr2] at hc
      simp only [fulD, List.append_assoc] at hc
      exact (List.append_cancel_left hc).symm
    have hk : okRec (sumL (fulD k)) rest = some (advO, recB (sumL (fulD k)) [9]) := by rw [hrest]; exact okRec_adv _ _
    have hl : (recB (sumL (fulD k)) [9]).length = 7 := recB_len _ [9]
    refine ⟨_, _, _, hp.step hk (by rw [h1, hl, fulD_len]; omega), ?_, ?_⟩
    · simp [h1]
    · simp [h2]

/-- What is read of them. -/
theorem ful_rcvd (many : Nat) (hm : many ≤ 4098) : ∃ es os, rcvd (fulD many) = (fulD (min many 4096), es, os) ∧ os.length = min many 4096 := by
  obtain ⟨es, os, rest, hp, h1, h2⟩ := ful_at (min many 4096) many (by omega) (by omega) hm
  refine ⟨es, os, ?_, h2⟩
  by_cases h : many ≤ 4096
  · have e : min many 4096 = many := by omega
    rw [e] at hp ⊢
    have hr : rest = [] := by
      have := congrArg List.length hp.cut
      rw [List.length_append] at this
      exact List.length_eq_zero_iff.1 (by omega)
    exact hp.stop (okRec_nil _ (by rw [hr]; decide))
  · have e : min many 4096 = 4096 := by omega
    rw [e] at hp h1 ⊢
    obtain ⟨r2, hr2⟩ := fulD_more (many - 4097) 4097
    have e2 : 4097 + (many - 4097) = many := by omega
    rw [e2] at hr2
    have hc := hp.cut
    have hrest : rest = recB (sumL (fulD 4096)) [9] ++ r2 := by
      rw [hr2] at hc
      have e3 : fulD 4097 = fulD 4096 ++ recB (sumL (fulD 4096)) [9] := rfl
      rw [e3, List.append_assoc] at hc
      exact (List.append_cancel_left hc).symm
    have hk : okRec (sumL (fulD 4096)) rest = some (advO, recB (sumL (fulD 4096)) [9]) := by rw [hrest]; exact okRec_adv _ _
    exact hp.full hk (.inl (by omega))

end Go.Proofs.YteffmenigfickaaDoor
