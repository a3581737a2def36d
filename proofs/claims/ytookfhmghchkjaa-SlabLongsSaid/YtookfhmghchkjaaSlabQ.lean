/- An arena as plain lists, further: Swap, Get, Used, Frees; the law's helpers. -/
import Derived.Test.YtookfhmghchkjaaSlabP
namespace Go.Proofs.Ytookfhmghchkjaa
open Go Go.RowKit
attribute [local go_sem ↓] Go.wp_at_zero Go.wp_at_succ

theorem phas_some {st : PSt} {K N : Int} {bs : List UInt8} (h : phas st K N = some bs) : ∃ k n : Nat, K = k ∧ N = n ∧ k < 13 ∧ (st k).cs[n]? = some (bs, true) := by
  unfold phas at h
  split at h
  · rename_i hr
    refine ⟨K.toNat, N.toNat, by omega, by omega, by omega, ?_⟩
    split at h
    · rename_i b hb
      injection h with h
      subst h
      exact hb
    · cases h
  · cases h

theorem pput_no {most : Int} {st : PSt} {bs : List UInt8} (h : (pput most st bs).2.2.1 ≠ 0) : pput most st bs = (0, 0, (pput most st bs).2.2.1, st) ∧ ((pput most st bs).2.2.1 = 5 ∧ 65536 < bs.length ∨ (pput most st bs).2.2.1 = 7 ∧ bs.length ≤ 65536 ∧ (st (classN bs.length)).fr.getLast? = none ∧ most < (pall st 13 : Int) + (csize (classN bs.length) : Int)) := by
  unfold pput at h ⊢
  by_cases hl : 65536 < bs.length
  · rw [if_pos hl]; exact ⟨rfl, .inl ⟨rfl, hl⟩⟩
  · rw [if_neg hl] at h ⊢
    cases hg : (st (classN bs.length)).fr.getLast? with
    | some n => rw [hg] at h; exact absurd rfl h
    | none =>
      rw [hg] at h
      dsimp only at h ⊢
      by_cases hf : most < (pall st 13 : Int) + (csize (classN bs.length) : Int)
      · rw [if_pos hf]; exact ⟨rfl, .inr ⟨rfl, by omega, rfl, hf⟩⟩
      · rw [if_neg hf] at h; exact absurd rfl h

theorem getLast_none {fr : List Nat} (h : fr.getLast? = none) : fr = [] := by
  cases fr with
  | nil => rfl
  | cons x l => rw [List.getLast?_eq_some_getLast (by simp)] at h; cases h

theorem pput_ok {most : Int} {st : PSt} {bs : List UInt8} (h : (pput most st bs).2.2.1 = 0) : bs.length ≤ 65536 ∧ (((st (classN bs.length)).fr = [] ∧ (pall st 13 : Int) + (csize (classN bs.length) : Int) ≤ most ∧ pput most st bs = ((classN bs.length : Int), ((st (classN bs.length)).cs.length : Int), 0, pupd st (classN bs.length) ⟨(st (classN bs.length)).cs ++ [(bs, true)], (st (classN bs.length)).fr⟩)) ∨
    ∃ n : Nat, (st (classN bs.length)).fr = (st (classN bs.length)).fr.dropLast ++ [n] ∧ pput most st bs = ((classN bs.length : Int), (n : Int), 0, pupd st (classN bs.length) ⟨(st (classN bs.length)).cs.set n (bs, true), (st (classN bs.length)).fr.dropLast⟩)) := by
  unfold pput at h ⊢
  by_cases hl : 65536 < bs.length
  · rw [if_pos hl] at h; cases h
  · rw [if_neg hl] at h ⊢
    refine ⟨by omega, ?_⟩
    cases hg : (st (classN bs.length)).fr.getLast? with
    | some n => exact .inr ⟨n, getLast_some hg, rfl⟩
    | none =>
      rw [hg] at h
      dsimp only at h ⊢
      by_cases hf : most < (pall st 13 : Int) + (csize (classN bs.length) : Int)
      · rw [if_pos hf] at h; cases h
      · rw [if_neg hf]; exact .inl ⟨getLast_none hg, by omega, rfl⟩

theorem pfree_other {st : PSt} {k n : Nat} {bs : List UInt8} (hk : k < 13) (h : (st k).cs[n]? = some (bs, true)) : pfree st k n = (0, pupd st k ⟨(st k).cs.set n ([], false), (st k).fr ++ [n]⟩) := by
  have e : phas st k n = some bs := by
    unfold phas
    rw [if_pos (by omega)]
    simp [h]
  unfold pfree
  rw [e]; rfl

theorem fSwap (m B b : Nat) (most : Int) (sh : Nat → ShV) (st : PSt) (K N : Int) (v : Value) (bs : List UInt8) (w : World) (hr : SRep w B b most sh) (hi : SIs sh st) (hw : PWf m st) (hm : m ≤ 1000) (hv : Bts w B 5 v bs) :
    Calls Try.prog 17 #[.pointer (some ⟨b, 0, none⟩), .agg #[.int .i64 K, .int .i64 N], v] w (FPost B b most sh (.tuple #[.agg #[.int .i64 (pswap most st K N bs).1, .int .i64 (pswap most st K N bs).2.1], .int .i64 (pswap most st K N bs).2.2.1]) (pswap most st K N bs).2.2.2 w) := by
  have hs := hi.small hw hm
  have hh := hi.has K N
  cases hc : hasC sh K N with
  | none =>
    rw [hc] at hh
    have e : pswap most st K N bs = (0, 0, 9, st) := by unfold pswap; rw [← hh]; rfl
    rw [e]
    refine (slabSwap_none B b most sh K N v bs w hr hv hc).mono ?_
    rintro e w' ⟨rfl, hb⟩
    exact FPost.same hr hi hb
  | some c =>
    rw [hc] at hh
    obtain ⟨k, n, rfl, rfl, hk, hcn, hu⟩ := hasC_some hc
    have hpn : (st k).cs[n]? = some (c.bs, true) := by
      rw [← (hi k hk).1, List.getElem?_map, hcn]
      simp [CelV.bare, hu]
    have e : pswap most st k n bs = if bs.length ≤ 65536 ∧ (classN bs.length : Int) = (k : Int) then ((k : Int), (n : Int), 0, pupd st k ⟨(st k).cs.set n (bs, true), (st k).fr⟩)
      else if (pput most st bs).2.2.1 = 0 then ((pput most st bs).1, (pput most st bs).2.1, 0, (pfree (pput most st bs).2.2.2 k n).2) else (0, 0, (pput most st bs).2.2.1, st) := by
      unfold pswap; rw [← hh]; rfl
    rw [e]
    by_cases hin : bs.length ≤ 65536 ∧ (classN bs.length : Int) = (k : Int)
    · rw [if_pos hin]
      refine (slabSwap_in B b most sh k n c v bs w hr hk hcn hu hv hin.1 (by omega)).mono ?_
      rintro e w' ⟨rfl, v', h1, h2, h3⟩
      refine ⟨rfl, _, h1, hi.upd ?_ (hi k hk).2, h2, fp_grow hk (fun g h => .inl h) (fun g h => .inl h), ValsOk.upd (vals_set h3)⟩
      rw [List.map_set, (hi k hk).1]; rfl
    · rw [if_neg hin]
      by_cases hp : (pput most st bs).2.2.1 = 0
      · rw [if_pos hp]
        obtain ⟨hl, hcase⟩ := pput_ok hp
        have hne : classN bs.length ≠ k := fun e => hin ⟨hl, by omega⟩
        have hk2 : classN bs.length < 13 := by have := classN_le hl; omega
        have hok : PutOk most sh (classN bs.length) := by
          rcases hcase with ⟨h1, h2, _⟩ | ⟨n2, h1, _⟩
          · exact .inl ⟨by rw [(hi _ hk2).2]; exact h1, by rw [hi.all]; exact h2⟩
          · exact .inr ⟨_, n2, by rw [(hi _ hk2).2]; exact h1, by rw [hi.len hk2]; exact hw.frlt hk2 (by rw [h1]; simp)⟩
        refine (slabSwap_out B b most sh k n c v bs w hr hs hk hcn hu hv hl _ rfl hne hok).mono ?_
        rintro e w' ⟨n2, s2, fv', rfl, h1, ⟨v', hv', h2⟩, h3, h4, h5, h6⟩
        have hp2 : pput most st bs = ((classN bs.length : Int), (n2 : Int), 0, pupd st (classN bs.length) ⟨s2.cs.map CelV.bare, s2.fr⟩) := by
          rcases hcase with ⟨g1, _, g3⟩ | ⟨n3, g1, g3⟩
          · rcases h2 with ⟨q1, q2, q3, q4⟩ | ⟨q1, _⟩
            · rw [g3, q2, q3, q4, hi.len hk2, List.map_append, (hi _ hk2).1, g1]; rfl
            · rw [(hi _ hk2).2, g1] at q1; simp at q1
          · rcases h2 with ⟨q1, _⟩ | ⟨q1, q2, q3⟩
            · rw [(hi _ hk2).2, g1] at q1; simp at q1
            · rw [(hi _ hk2).2] at q1
              have q4 := q1.symm.trans g1
              have q5 : s2.fr = (st (classN bs.length)).fr.dropLast ∧ n2 = n3 := by
                have := List.append_inj' q4 rfl
                exact ⟨this.1, by simpa using this.2⟩
              rw [g3, q3, List.map_set, (hi _ hk2).1, ← q5.1, ← q5.2]; rfl
        rw [hp2]
        dsimp only
        have hpn2 : (pupd st (classN bs.length) ⟨s2.cs.map CelV.bare, s2.fr⟩ k).cs[n]? = some (c.bs, true) := by rw [pupd_other st _ (fun e => hne e.symm)]; exact hpn
        rw [pfree_other hk hpn2]
        refine ⟨rfl, _, h1, ?_, h3, fun j hj => ?_, ?_⟩
        rotate_left
        · rcases fp_grow (n := w.heap.size) hk (fun g h => .inl (by rw [upd_other sh s2 (fun e => hne e.symm)]; exact h)) (fun g h => by rw [upd_other sh s2 (fun e => hne e.symm)]; exact h6 g h) j hj with hj | hj
          · exact fp_grow hk2 (fun g h => h4 g h) (fun g h => .inl (h5 g h)) j hj
          · exact .inr hj
        · refine (ValsOk.upd (n := w.heap.size) (sh := sh) (k := classN bs.length) (s := s2) ?_).trans (Nat.le_refl _) (ValsOk.upd ?_)
          · rcases h2 with ⟨_, _, q, _⟩ | ⟨_, _, q⟩
            · rw [q]; exact vals_snoc hv'
            · rw [q]; exact vals_set hv'
          · rw [upd_other sh s2 (fun e => hne e.symm)]
            exact vals_set (fun g h => by cases h)
        refine (hi.upd rfl rfl).upd ?_ ?_
        · rw [pupd_other st _ (fun e => hne e.symm), List.map_set, (hi k hk).1]; rfl
        · rw [pupd_other st _ (fun e => hne e.symm), (hi k hk).2]
      · rw [if_neg hp]
        obtain ⟨hq, hcase⟩ := pput_no hp
        have hno : PutNo most sh bs = some (pput most st bs).2.2.1 := by
          unfold PutNo
          rcases hcase with ⟨h1, h2⟩ | ⟨h1, h2, h3, h4⟩
          · rw [if_pos h2, h1]
          · have hk2 : classN bs.length < 13 := by have := classN_le h2; omega
            rw [if_neg (by omega), if_pos ⟨by rw [(hi _ hk2).2]; exact getLast_none h3, by rw [hi.all]; exact h4⟩, h1]
        refine (slabSwap_no B b most sh k n c v bs w hr hs hk hcn hu hv (fun hl e => hin ⟨hl, by omega⟩) _ hno).mono ?_
        rintro e w' ⟨rfl, hb⟩
        exact FPost.same hr hi hb

theorem aSwap (m B b : Nat) (most : Int) (st : PSt) (K N : Int) (v : Value) (bs : List UInt8) (w : World) (h : ARep w B b most st) (hw : PWf m st) (hm : m ≤ 1000) (hv : Bts w B 5 v bs) :
    Calls Try.prog 17 #[.pointer (some ⟨b, 0, none⟩), .agg #[.int .i64 K, .int .i64 N], v] w (APost B b most (.tuple #[.agg #[.int .i64 (pswap most st K N bs).1, .int .i64 (pswap most st K N bs).2.1], .int .i64 (pswap most st K N bs).2.2.1]) (pswap most st K N bs).2.2.2 w) := by
  obtain ⟨sh, hr, hi⟩ := h
  exact (fSwap m B b most sh st K N v bs w hr hi hw hm hv).mono fun e w' h => h.a hr

theorem aGet_none (B b : Nat) (most : Int) (st : PSt) (K N : Int) (w : World) (h : ARep w B b most st) (hn : phas st K N = none) :
    Calls Try.prog 34 #[.pointer (some ⟨b, 0, none⟩), .agg #[.int .i64 K, .int .i64 N]] w fun e w' => e = .returned (.tuple #[.slice none 0 0, .int .i64 9]) ∧ Below w.heap.size w w' := by
  obtain ⟨sh, hr, hi⟩ := h
  have hh := hi.has K N
  rw [hn] at hh
  exact slabGet_none B b most sh K N w hr (Option.map_eq_none_iff.1 hh)

theorem aGet_some (m B b : Nat) (most : Int) (st : PSt) (K N : Int) (bs : List UInt8) (w : World) (h : ARep w B b most st) (hw : PWf m st) (hn : phas st K N = some bs) :
    Calls Try.prog 34 #[.pointer (some ⟨b, 0, none⟩), .agg #[.int .i64 K, .int .i64 N]] w fun e w' => ∃ v, e = .returned (.tuple #[v, .int .i64 0]) ∧ w'.ownsRow w.heap.size 5 1 v bs.length (bcells bs) ∧ Below w.heap.size w w' := by
  obtain ⟨sh, hr, hi⟩ := h
  obtain ⟨k, n, rfl, rfl, hk, hc⟩ := phas_some hn
  obtain ⟨d, hd, rfl, h2⟩ := hi.at_ hk hc
  have h3 := hw.bs k hk _ (List.mem_of_getElem? hc)
  have h4 := (csize_le hk).2
  exact slabGet_ok B b most sh k n d w hr hk hd h2 (by dsimp only at h3; omega)

theorem aUsed (m B b : Nat) (most : Int) (st : PSt) (w : World) (h : ARep w B b most st) (hw : PWf m st) (hm : m ≤ 1000) :
    Calls Try.prog 19 #[.pointer (some ⟨b, 0, none⟩)] w fun e w' => e = .returned (.tuple #[.int .i64 (pused st 13), .int .i64 (pall st 13), .int .i64 (pheld st 13)]) ∧ Below w.heap.size w w' := by
  obtain ⟨sh, hr, hi⟩ := h
  have := slabUsed_any B b most sh w hr (hi.small hw hm)
  rw [hi.used, hi.all, hi.held] at this
  exact this

theorem aFrees (m B b : Nat) (most : Int) (st : PSt) (k : Nat) (w : World) (h : ARep w B b most st) (hw : PWf m st) (hm : m ≤ 1000) (hk : k < 13) :
    Calls Try.prog 22 #[.pointer (some ⟨b, 0, none⟩), .int .i64 k] w fun e w' => ∃ v, e = .returned (.tuple #[v, .int .i64 0]) ∧ w'.ownsRow w.heap.size 3 1 v (st k).fr.length (ics (st k).fr.reverse) ∧ Below w.heap.size w w' := by
  obtain ⟨sh, hr, hi⟩ := h
  have := slabFrees_ok B b most sh k w hr (hi.small hw hm) hk
  rw [(hi k hk).2] at this
  exact this

end Go.Proofs.Ytookfhmghchkjaa
