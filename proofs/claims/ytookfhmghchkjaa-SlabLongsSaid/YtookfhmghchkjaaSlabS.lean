/- What an arena keeps through its calls. No program in sight. -/
import Derived.Test.YtookfhmghchkjaaSlabQ
namespace Go.Proofs.Ytookfhmghchkjaa
open Go Go.RowKit

theorem PWf.mono {m m' : Nat} {st : PSt} (h : PWf m st) (hm : m ≤ m') : PWf m' st := ⟨fun k hk => Nat.le_trans (h.len k hk) hm, h.fr, h.nodup, h.bs⟩

theorem PWf.upd {m : Nat} {st : PSt} {k : Nat} {s : PSh} (h : PWf m st) (hl : s.cs.length ≤ m) (hf : ∀ n ∈ s.fr, s.cs[n]? = some ([], false)) (hn : s.fr.Nodup) (hb : ∀ c ∈ s.cs, c.1.length ≤ csize k) : PWf m (pupd st k s) := by
  refine ⟨fun j hj => ?_, fun j hj => ?_, fun j hj => ?_, fun j hj => ?_⟩ <;> by_cases e : j = k
  · subst e; rw [pupd_same]; exact hl
  · rw [pupd_other st s e]; exact h.len j hj
  · subst e; rw [pupd_same]; exact hf
  · rw [pupd_other st s e]; exact h.fr j hj
  · subst e; rw [pupd_same]; exact hn
  · rw [pupd_other st s e]; exact h.nodup j hj
  · subst e; rw [pupd_same]; exact hb
  · rw [pupd_other st s e]; exact h.bs j hj

theorem PWf.put {m : Nat} {st : PSt} (h : PWf m st) (most : Int) (bs : List UInt8) : PWf (m + 1) (pput most st bs).2.2.2 := by
  unfold pput
  by_cases hl : 65536 < bs.length
  · rw [if_pos hl]; exact h.mono (by omega)
  · rw [if_neg hl]
    have hk : classN bs.length < 13 := by have := classN_le (n := bs.length) (by omega); omega
    have hfit := classN_fit (n := bs.length) (by omega)
    cases hg : (st (classN bs.length)).fr.getLast? with
    | some n =>
      have hfr := getLast_some hg
      have hnd := h.nodup _ hk
      rw [hfr] at hnd
      have hnd2 := List.nodup_append.1 hnd
      dsimp only
      refine (h.mono (Nat.le_succ m)).upd (by rw [List.length_set]; exact Nat.le_succ_of_le (h.len _ hk)) (fun j hj => ?_) hnd2.1 (fun c hc => ?_)
      · have hne : n ≠ j := fun e => hnd2.2.2 j hj n (by simp) e.symm
        rw [List.getElem?_set_ne hne]
        exact h.fr _ hk j (by rw [hfr]; exact List.mem_append_left _ hj)
      · rcases List.mem_or_eq_of_mem_set hc with hc | rfl
        · exact h.bs _ hk c hc
        · exact hfit
    | none =>
      dsimp only
      by_cases hf : most < (pall st 13 : Int) + (csize (classN bs.length) : Int)
      · rw [if_pos hf]; exact h.mono (by omega)
      · rw [if_neg hf]
        dsimp only
        refine (h.mono (Nat.le_succ m)).upd (by have := h.len _ hk; simp; omega) (fun j hj => ?_) (h.nodup _ hk) (fun c hc => ?_)
        · have h1 := h.fr _ hk j hj
          rw [List.getElem?_append_left (List.getElem?_eq_some_iff.1 h1).1]
          exact h1
        · rcases List.mem_append.1 hc with hc | hc
          · exact h.bs _ hk c hc
          · simp at hc; subst hc; exact hfit

theorem PWf.free {m : Nat} {st : PSt} (h : PWf m st) (K N : Int) : PWf m (pfree st K N).2 := by
  cases hp : phas st K N with
  | none => unfold pfree; rw [hp]; exact h
  | some bs =>
    obtain ⟨k, n, rfl, rfl, hk, hc⟩ := phas_some hp
    rw [pfree_other hk hc]
    dsimp only
    obtain ⟨hnl, _⟩ := List.getElem?_eq_some_iff.1 hc
    have hnf : n ∉ (st k).fr := fun hn => by
      have := h.fr k hk n hn
      rw [hc] at this
      simp at this
    refine h.upd (by rw [List.length_set]; exact h.len k hk) (fun j hj => ?_) ?_ (fun c hc => ?_)
    · rcases List.mem_append.1 hj with hj | hj
      · have hne : n ≠ j := fun e => hnf (e ▸ hj)
        rw [List.getElem?_set_ne hne]
        exact h.fr k hk j hj
      · simp at hj
        subst hj
        rw [List.getElem?_set_self hnl]
    · refine List.nodup_append.2 ⟨h.nodup k hk, by simp, fun a ha b hb => ?_⟩
      simp at hb
      subst hb
      exact fun e => hnf (e ▸ ha)
    · rcases List.mem_or_eq_of_mem_set hc with hc | rfl
      · exact h.bs k hk c hc
      · exact Nat.zero_le _

theorem PWf.swap {m : Nat} {st : PSt} (h : PWf m st) (most : Int) (K N : Int) (bs : List UInt8) : PWf (m + 1) (pswap most st K N bs).2.2.2 := by
  cases hp : phas st K N with
  | none => unfold pswap; rw [hp]; exact h.mono (by omega)
  | some b0 =>
    unfold pswap
    rw [hp]
    dsimp only
    by_cases hin : bs.length ≤ 65536 ∧ (classN bs.length : Int) = K
    · rw [if_pos hin]
      obtain ⟨k, n, rfl, rfl, hk, hc⟩ := phas_some hp
      have hfit := classN_fit hin.1
      have hck : classN bs.length = k := by omega
      rw [hck] at hfit
      dsimp only
      rw [Int.toNat_natCast, Int.toNat_natCast]
      refine (h.mono (Nat.le_succ m)).upd (by rw [List.length_set]; exact Nat.le_succ_of_le (h.len k hk)) (fun j hj => ?_) (h.nodup k hk) (fun c hc => ?_)
      · have h1 := h.fr k hk j hj
        have hne : n ≠ j := fun e => by rw [← e, hc] at h1; simp at h1
        rw [List.getElem?_set_ne hne]
        exact h1
      · rcases List.mem_or_eq_of_mem_set hc with hc | rfl
        · exact h.bs k hk c hc
        · exact hfit
    · rw [if_neg hin]
      by_cases h0 : (pput most st bs).2.2.1 = 0
      · rw [if_pos h0]
        exact (h.put most bs).free K N
      · rw [if_neg h0]
        exact h.mono (by omega)

/-- A new arena. -/
def p0 : PSt := fun _ => ⟨[], []⟩
theorem p0_wf : PWf 0 p0 := ⟨fun _ _ => Nat.le_refl _, fun _ _ n hn => (by cases hn), fun _ _ => List.nodup_nil, fun _ _ c hc => (by cases hc)⟩
theorem sh0_is : SIs sh0 p0 := fun _ _ => ⟨rfl, rfl⟩

end Go.Proofs.Ytookfhmghchkjaa
