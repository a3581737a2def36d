/- The law's map beside the arena, as a plain list of (cell, bytes): what it adds up to. No program in sight. -/
import Derived.Test.YtookfhmghchkjaaSlabS
namespace Go.Proofs.Ytookfhmghchkjaa
open Go Go.RowKit

abbrev ME := (Int × Int) × List UInt8
def sumL (L : List ME) : Nat := (L.map fun x => x.2.length).sum
def cost (L : List ME) : Nat := (L.map fun x => csize x.1.1.toNat).sum
def mget (L : List ME) (k : Int × Int) : Option (List UInt8) := (L.find? fun x => decide (x.1 = k)).map Prod.snd
def mdel (L : List ME) (k : Int × Int) : List ME := L.filter fun x => decide (x.1 ≠ k)

theorem mget_some {L : List ME} {k : Int × Int} {bs : List UInt8} (h : mget L k = some bs) : (k, bs) ∈ L := by
  unfold mget at h
  cases hf : L.find? fun x => decide (x.1 = k) with
  | none => rw [hf] at h; cases h
  | some x =>
    rw [hf] at h
    simp at h
    have h1 := List.mem_of_find?_eq_some hf
    have h2 := List.find?_some hf
    simp at h2
    rw [← h, ← h2]
    exact h1
theorem mget_none {L : List ME} {k : Int × Int} (h : mget L k = none) : ∀ x ∈ L, x.1 ≠ k := fun x hx e => by
  unfold mget at h
  rw [Option.map_eq_none_iff, List.find?_eq_none] at h
  exact h x hx (by simp [e])
theorem mget_mem {L : List ME} (hn : (L.map Prod.fst).Nodup) {k : Int × Int} {bs : List UInt8} (h : (k, bs) ∈ L) : mget L k = some bs := by
  cases hg : mget L k with
  | none => exact absurd rfl (mget_none hg _ h)
  | some cs =>
    have h2 := mget_some hg
    have : ∀ {L : List ME}, (L.map Prod.fst).Nodup → (k, bs) ∈ L → (k, cs) ∈ L → cs = bs := by
      intro L
      induction L with
      | nil => intro _ h; cases h
      | cons x L ih =>
        intro hn h1 h2
        rw [List.map_cons, List.nodup_cons] at hn
        rcases List.mem_cons.1 h1 with h1 | h1 <;> rcases List.mem_cons.1 h2 with h2 | h2
        · rw [← h1] at h2; injection h2
        · exact absurd (List.mem_map.2 ⟨(k, cs), h2, by rw [← h1]⟩) hn.1
        · exact absurd (List.mem_map.2 ⟨(k, bs), h1, by rw [← h2]⟩) hn.1
        · exact ih hn.2 h1 h2
    rw [this hn h h2]

theorem sumTo_pupd (st : PSt) (k : Nat) (s : PSh) (f : Nat → PSh → Nat) : ∀ m, (k < m → sumTo (fun j => f j (pupd st k s j)) m + f k (st k) = sumTo (fun j => f j (st j)) m + f k s) ∧ (m ≤ k → sumTo (fun j => f j (pupd st k s j)) m = sumTo (fun j => f j (st j)) m)
  | 0 => ⟨fun h => by omega, fun _ => rfl⟩
  | m + 1 => by
    obtain ⟨h1, h2⟩ := sumTo_pupd st k s f m
    refine ⟨fun h => ?_, fun h => ?_⟩
    · simp only [sumTo]
      rcases Nat.lt_or_ge k m with h3 | h3
      · have := h1 h3
        rw [pupd_other st s (show m ≠ k by omega)]
        omega
      · obtain rfl : m = k := by omega
        have := h2 (Nat.le_refl _)
        rw [pupd_same]
        omega
    · simp only [sumTo]
      rw [h2 (by omega), pupd_other st s (show m ≠ k by omega)]

theorem pused_upd (st : PSt) {k : Nat} (hk : k < 13) (s : PSh) : pused (pupd st k s) 13 + csize k * ((st k).cs.length - (st k).fr.length) = pused st 13 + csize k * (s.cs.length - s.fr.length) :=
  (sumTo_pupd st k s (fun j x => csize j * (x.cs.length - x.fr.length)) 13).1 hk
theorem pheld_upd (st : PSt) {k : Nat} (hk : k < 13) (s : PSh) : pheld (pupd st k s) 13 + pheldL (st k).cs = pheld st 13 + pheldL s.cs :=
  (sumTo_pupd st k s (fun _ x => pheldL x.cs) 13).1 hk
theorem pall_upd (st : PSt) {k : Nat} (hk : k < 13) (s : PSh) : pall (pupd st k s) 13 + csize k * (st k).cs.length = pall st 13 + csize k * s.cs.length :=
  (sumTo_pupd st k s (fun j x => csize j * x.cs.length) 13).1 hk

theorem pheldL_set : ∀ {cs : List (List UInt8 × Bool)} {n : Nat} {c : List UInt8 × Bool} (d : List UInt8 × Bool), cs[n]? = some c → pheldL (cs.set n d) + c.1.length = pheldL cs + d.1.length
  | [], n, c, d, h => by simp at h
  | x :: cs, 0, c, d, h => by
    simp at h
    subst h
    simp [pheldL]
    omega
  | x :: cs, n + 1, c, d, h => by
    have := pheldL_set (cs := cs) (n := n) (c := c) d (by simpa using h)
    simp [pheldL] at this ⊢
    omega

/-- The map holds what the arena holds. -/
structure Fits (most : Int) (st : PSt) (L : List ME) : Prop where
  mem : ∀ K N bs, ((K, N), bs) ∈ L ↔ phas st K N = some bs
  nodup : (L.map Prod.fst).Nodup
  used : pused st 13 = cost L
  held : pheld st 13 = sumL L
  fit : ∀ x ∈ L, x.2.length ≤ csize x.1.1.toNat ∧ csize x.1.1.toNat ≤ 2 * x.2.length + 16
  all : (pall st 13 : Int) ≤ most

theorem Fits.get {most : Int} {st : PSt} {L : List ME} (h : Fits most st L) (K N : Int) : mget L (K, N) = phas st K N := by
  cases hp : phas st K N with
  | some bs => exact mget_mem h.nodup ((h.mem K N bs).2 hp)
  | none =>
    cases hg : mget L (K, N) with
    | none => rfl
    | some bs => rw [(h.mem K N bs).1 (mget_some hg)] at hp; cases hp

theorem cost_le : ∀ {L : List ME}, (∀ x ∈ L, x.2.length ≤ csize x.1.1.toNat ∧ csize x.1.1.toNat ≤ 2 * x.2.length + 16) → sumL L ≤ cost L ∧ cost L ≤ 2 * sumL L + 16 * L.length
  | [], _ => by simp [cost, sumL]
  | x :: L, h => by
    have h1 := cost_le (L := L) (fun y hy => h y (List.mem_cons_of_mem _ hy))
    have h2 := h x List.mem_cons_self
    simp only [cost, sumL, List.map_cons, List.sum_cons, List.length_cons] at h1 ⊢
    omega

theorem pused_le_all (st : PSt) : pused st 13 ≤ pall st 13 := sumTo_le (fun k _ => Nat.mul_le_mul_left _ (Nat.sub_le _ _)) 13 (Nat.le_refl _)

/-- What the law checks at the end of each call. -/
theorem Fits.law {most : Int} {st : PSt} {L : List ME} (h : Fits most st L) : pheld st 13 = sumL L ∧ sumL L ≤ pused st 13 ∧ pused st 13 ≤ pall st 13 ∧ (pall st 13 : Int) ≤ most ∧ pused st 13 ≤ 2 * sumL L + 16 * L.length := by
  have := cost_le h.fit
  refine ⟨h.held, by rw [h.used]; exact this.1, pused_le_all st, h.all, by rw [h.used]; exact this.2⟩

theorem mdel_other {L : List ME} {k : Int × Int} (h : ∀ x ∈ L, x.1 ≠ k) : mdel L k = L := List.filter_eq_self.2 (fun x hx => by simpa using h x hx)
theorem mdel_sums : ∀ {L : List ME} {k : Int × Int} {bs : List UInt8}, (L.map Prod.fst).Nodup → (k, bs) ∈ L → cost (mdel L k) + csize k.1.toNat = cost L ∧ sumL (mdel L k) + bs.length = sumL L ∧ (mdel L k).length + 1 = L.length
  | [], _, _, _, h => by cases h
  | x :: L, k, bs, hn, h => by
    rw [List.map_cons, List.nodup_cons] at hn
    by_cases e : x.1 = k
    · have ho : ∀ y ∈ L, y.1 ≠ k := fun y hy e2 => hn.1 (List.mem_map.2 ⟨y, hy, by rw [e2, e]⟩)
      have hx : x = (k, bs) := by
        rcases List.mem_cons.1 h with h | h
        · exact h.symm
        · exact absurd rfl (ho _ h)
      have h1 : mdel (x :: L) k = L := by
        have : mdel (x :: L) k = mdel L k := by simp [mdel, e]
        rw [this, mdel_other ho]
      rw [h1, hx]
      simp [cost, sumL]
      omega
    · have h2 : (k, bs) ∈ L := by
        rcases List.mem_cons.1 h with h | h
        · exact absurd (by rw [← h]) e
        · exact h
      have ih := mdel_sums (L := L) hn.2 h2
      have h1 : mdel (x :: L) k = x :: mdel L k := by simp [mdel, e]
      rw [h1]
      simp only [cost, sumL, List.map_cons, List.sum_cons, List.length_cons] at ih ⊢
      omega

theorem mem_mdel {L : List ME} {k : Int × Int} {x : ME} : x ∈ mdel L k ↔ x ∈ L ∧ x.1 ≠ k := by simp [mdel]
theorem nodup_mdel {L : List ME} (k : Int × Int) (h : (L.map Prod.fst).Nodup) : ((mdel L k).map Prod.fst).Nodup := h.sublist (List.Sublist.map _ List.filter_sublist)

theorem phas_at (st : PSt) {k : Nat} (n : Nat) (hk : k < 13) : phas st k n = match (st k).cs[n]? with | some (bs, true) => some bs | _ => none := by
  unfold phas
  rw [if_pos ⟨by omega, by omega, by omega⟩]
  simp only [Int.toNat_natCast]
  rfl

theorem phas_neg {st : PSt} {K N : Int} (h : ¬ (0 ≤ K ∧ K < 13 ∧ 0 ≤ N)) : phas st K N = none := by unfold phas; rw [if_neg h]

/-- A cell that is no cell of class k is as it was. -/
theorem phas_upd {st st' : PSt} {k n : Nat} (hk : k < 13) (ho : ∀ j, j ≠ k → st' j = st j) (hs : ∀ i, i ≠ n → (st' k).cs[i]? = (st k).cs[i]?) {K N : Int} (hne : ¬ (K = k ∧ N = n)) : phas st' K N = phas st K N := by
  by_cases hr : 0 ≤ K ∧ K < 13 ∧ 0 ≤ N
  · obtain ⟨k', rfl⟩ := Int.eq_ofNat_of_zero_le hr.1
    obtain ⟨n', rfl⟩ := Int.eq_ofNat_of_zero_le hr.2.2
    have hk' : k' < 13 := by omega
    show phas st' (k' : Int) (n' : Int) = phas st (k' : Int) (n' : Int)
    rw [phas_at st' n' hk', phas_at st n' hk']
    by_cases e : k' = k
    · subst e
      rw [hs n' (fun e => hne ⟨rfl, by rw [e]⟩)]
    · rw [ho k' e]
  · rw [phas_neg hr, phas_neg hr]

theorem csize_pos (k : Nat) : 0 < csize k := Nat.mul_pos (by decide) (Nat.pow_pos (by decide))

theorem classN_small {n : Nat} (h : n ≤ 65536) : csize (classN n) ≤ 2 * n + 16 := by
  cases hc : classN n with
  | zero => simp [csize]
  | succ j =>
    have h1 : csize j < n := by
      rcases Nat.lt_or_ge (csize j) n with h2 | h2
      · exact h2
      · have := classN_least h h2; omega
    rw [csize_succ]; omega

/-- After a put. -/
theorem Fits.put {m : Nat} {most : Int} {st st' : PSt} {L : List ME} (h : Fits most st L) (hw : PWf m st) {bs : List UInt8} {K N : Int} (hp : pput most st bs = (K, N, 0, st')) : phas st K N = none ∧ Fits most st' (L ++ [((K, N), bs)]) ∧ 0 ≤ K ∧ K < 13 ∧ 0 ≤ N ∧ N ≤ m := by
  have he : (pput most st bs).2.2.1 = 0 := by rw [hp]
  obtain ⟨hl, hc⟩ := pput_ok he
  have hk : classN bs.length < 13 := by have := classN_le (n := bs.length) hl; omega
  have hfit := classN_fit (n := bs.length) hl
  have hsm := classN_small hl
  have hlen := hw.len _ hk
  have hcp := csize_pos (classN bs.length)
  have hfl := hw.frlen hk
  -- the two ways alike: class k, number n
  have key : ∀ (n : Nat) (s : PSh), K = (classN bs.length : Nat) → N = n → st' = pupd st (classN bs.length) s → (st (classN bs.length)).cs[n]? = none ∨ (st (classN bs.length)).cs[n]? = some ([], false) → s.cs[n]? = some (bs, true) → (∀ i, i ≠ n → s.cs[i]? = (st (classN bs.length)).cs[i]?) →
      s.cs.length - s.fr.length = (st (classN bs.length)).cs.length - (st (classN bs.length)).fr.length + 1 → pheldL s.cs = pheldL (st (classN bs.length)).cs + bs.length → (pall st' 13 : Int) ≤ most → n ≤ m → phas st K N = none ∧ Fits most st' (L ++ [((K, N), bs)]) ∧ 0 ≤ K ∧ K < 13 ∧ 0 ≤ N ∧ N ≤ m := by
    intro n s hK hN hst h1 h2 h3 h4 h5 h6 h7
    subst hK hN
    have hnone : phas st (classN bs.length : Nat) n = none := by
      rw [phas_at st n hk]
      rcases h1 with h1 | h1 <;> rw [h1]
    refine ⟨hnone, ⟨fun K N cs => ?_, ?_, ?_, ?_, fun x hx => ?_, h6⟩, by omega, by omega, by omega, by omega⟩
    · rw [List.mem_append, List.mem_singleton]
      by_cases e : K = (classN bs.length : Nat) ∧ N = n
      · obtain ⟨rfl, rfl⟩ := e
        have : phas st' (classN bs.length : Nat) n = some bs := by rw [phas_at st' n hk, hst, pupd_same, h2]
        rw [this]
        constructor
        · rintro (hm | hm)
          · rw [(h.mem _ _ _).1 hm] at hnone; cases hnone
          · injection hm with _ hm; rw [hm]
        · intro hm
          injection hm with hm
          right; rw [hm]
      · rw [phas_upd (st := st) (st' := st') (k := classN bs.length) (n := n) hk (fun j hj => by rw [hst, pupd_other st s hj]) (fun i hi => by rw [hst, pupd_same]; exact h3 i hi) e, ← h.mem]
        constructor
        · rintro (hm | hm)
          · exact hm
          · injection hm with hm _
            injection hm with hm1 hm2
            exact absurd ⟨hm1, hm2⟩ e
        · exact .inl
    · rw [List.map_append, List.nodup_append]
      refine ⟨h.nodup, by simp, fun a ha b hb e => ?_⟩
      simp at hb
      subst hb
      obtain ⟨x, hx, hxa⟩ := List.mem_map.1 ha
      obtain ⟨⟨x1, x2⟩, x3⟩ := x
      rw [e] at hxa
      injection hxa with e1 e2
      subst e1 e2
      rw [(h.mem _ _ _).1 hx] at hnone
      cases hnone
    · have := pused_upd st hk s
      rw [← hst, h4, Nat.mul_add] at this
      have hu := h.used
      simp [cost] at hu ⊢
      omega
    · have := pheld_upd st hk s
      rw [← hst, h5] at this
      have hu := h.held
      simp [sumL] at hu ⊢
      omega
    · rw [List.mem_append, List.mem_singleton] at hx
      rcases hx with hx | rfl
      · exact h.fit x hx
      · exact ⟨by simpa using hfit, by simpa using hsm⟩
  rcases hc with ⟨hfr, hmost, e⟩ | ⟨n, hfr, e⟩
  · rw [e] at hp
    injection hp with hK hp
    injection hp with hN hp
    injection hp with _ hp
    refine key (st (classN bs.length)).cs.length _ hK.symm hN.symm hp.symm (.inl (List.getElem?_eq_none (Nat.le_refl _))) ?_ (fun i hi => ?_) ?_ ?_ ?_ hlen
    · show ((st (classN bs.length)).cs ++ [(bs, true)])[(st (classN bs.length)).cs.length]? = _
      rw [List.getElem?_append_right (Nat.le_refl _)]; simp
    · show ((st (classN bs.length)).cs ++ [(bs, true)])[i]? = _
      rcases Nat.lt_or_ge i (st (classN bs.length)).cs.length with hi2 | hi2
      · rw [List.getElem?_append_left hi2]
      · rw [List.getElem?_append_right hi2, List.getElem?_eq_none hi2, List.getElem?_eq_none (by simp; omega)]
    · simp [hfr]
    · simp [pheldL]
    · have := pall_upd st hk (⟨(st (classN bs.length)).cs ++ [(bs, true)], (st (classN bs.length)).fr⟩ : PSh)
      rw [hp] at this
      simp [Nat.mul_add] at this
      omega
  · rw [e] at hp
    injection hp with hK hp
    injection hp with hN hp
    injection hp with _ hp
    have hat := hw.fr _ hk n (by rw [hfr]; simp)
    obtain ⟨hnl, _⟩ := List.getElem?_eq_some_iff.1 hat
    have hfrl : (st (classN bs.length)).fr.length = (st (classN bs.length)).fr.dropLast.length + 1 := by
      have := congrArg List.length hfr
      rw [List.length_append] at this
      exact this
    refine key n _ hK.symm hN.symm hp.symm (.inr hat) ?_ (fun i hi => ?_) ?_ ?_ ?_ (by omega)
    · show ((st (classN bs.length)).cs.set n (bs, true))[n]? = _
      rw [List.getElem?_set_self hnl]
    · show ((st (classN bs.length)).cs.set n (bs, true))[i]? = _
      rw [List.getElem?_set_ne (Ne.symm hi)]
    · show ((st (classN bs.length)).cs.set n (bs, true)).length - (st (classN bs.length)).fr.dropLast.length = _
      rw [List.length_set]; omega
    · have := pheldL_set (bs, true) hat
      simpa using this
    · have := pall_upd st hk (⟨(st (classN bs.length)).cs.set n (bs, true), (st (classN bs.length)).fr.dropLast⟩ : PSh)
      rw [hp] at this
      simp at this
      have := h.all
      omega

/-- After Free of a used cell. -/
theorem Fits.free {m : Nat} {most : Int} {st : PSt} {L : List ME} (h : Fits most st L) (hw : PWf m st) {K N : Int} {bs : List UInt8} (hp : phas st K N = some bs) : Fits most (pfree st K N).2 (mdel L (K, N)) := by
  obtain ⟨k, n, rfl, rfl, hk, hc⟩ := phas_some hp
  rw [pfree_other hk hc]
  dsimp only
  obtain ⟨hnl, _⟩ := List.getElem?_eq_some_iff.1 hc
  have hin := (h.mem _ _ _).2 hp
  obtain ⟨s1, s2, s3⟩ := mdel_sums h.nodup hin
  have hfl := hw.frlen hk
  have hnf : n ∉ (st k).fr := fun hn => by
    have := hw.fr k hk n hn
    rw [hc] at this
    simp at this
  have hfl2 : (st k).fr.length < (st k).cs.length := by
    have := nodup_bound (st k).cs.length (n :: (st k).fr) (List.nodup_cons.2 ⟨hnf, hw.nodup k hk⟩) (fun x hx => by
      rcases List.mem_cons.1 hx with rfl | hx
      · exact hnl
      · exact hw.frlt hk hx)
    simp at this
    omega
  refine ⟨fun K N cs => ?_, nodup_mdel _ h.nodup, ?_, ?_, fun x hx => h.fit x (mem_mdel.1 hx).1, ?_⟩
  · rw [mem_mdel]
    by_cases e : K = k ∧ N = n
    · obtain ⟨rfl, rfl⟩ := e
      rw [phas_at _ n hk, pupd_same]
      show _ ↔ (match ((st k).cs.set n ([], false))[n]? with | some (bs, true) => some bs | _ => none) = some cs
      rw [List.getElem?_set_self hnl]
      simp
    · rw [phas_upd (st := st) (k := k) (n := n) hk (fun j hj => pupd_other st _ hj) (fun i hi => by
        rw [pupd_same]
        show ((st k).cs.set n ([], false))[i]? = _
        rw [List.getElem?_set_ne (Ne.symm hi)]) e, ← h.mem]
      exact ⟨fun hm => hm.1, fun hm => ⟨hm, fun e2 => by
        injection e2 with e3 e4
        exact e ⟨e3, e4⟩⟩⟩
  · have := pused_upd st hk (⟨(st k).cs.set n ([], false), (st k).fr ++ [n]⟩ : PSh)
    simp only [List.length_set, List.length_append, List.length_singleton] at this
    have e : (st k).cs.length - (st k).fr.length = (st k).cs.length - ((st k).fr.length + 1) + 1 := by omega
    rw [e, Nat.mul_add] at this
    have hu := h.used
    simp only [Int.toNat_natCast] at s1
    omega
  · have := pheld_upd st hk (⟨(st k).cs.set n ([], false), (st k).fr ++ [n]⟩ : PSh)
    have h3 := pheldL_set ([], false) hc
    have hu := h.held
    simp only [List.length_nil] at h3
    dsimp only at this h3
    omega
  · have := pall_upd st hk (⟨(st k).cs.set n ([], false), (st k).fr ++ [n]⟩ : PSh)
    simp only [List.length_set] at this
    have := h.all
    omega

/-- After a swap. -/
theorem Fits.swap {m : Nat} {most : Int} {st st' : PSt} {L : List ME} (h : Fits most st L) (hw : PWf m st) {K0 N0 : Int} {bs : List UInt8} {K N : Int} (hp : pswap most st K0 N0 bs = (K, N, 0, st')) :
    (phas st K0 N0).isSome = true ∧ mget (mdel L (K0, N0)) (K, N) = none ∧ Fits most st' (mdel L (K0, N0) ++ [((K, N), bs)]) ∧ 0 ≤ K ∧ K < 13 ∧ 0 ≤ N ∧ N ≤ m := by
  cases hh : phas st K0 N0 with
  | none =>
    unfold pswap at hp
    rw [hh] at hp
    injection hp with _ hp
    injection hp with _ hp
    injection hp with hp _
    cases hp
  | some old =>
    refine ⟨rfl, ?_⟩
    have hnin : ∀ x ∈ mdel L (K0, N0), x.1 ≠ (K0, N0) := fun x hx => (mem_mdel.1 hx).2
    unfold pswap at hp
    rw [hh] at hp
    dsimp only at hp
    by_cases hs : bs.length ≤ 65536 ∧ (classN bs.length : Int) = K0
    · rw [if_pos hs] at hp
      injection hp with hK hp
      injection hp with hN hp
      injection hp with _ hp
      subst hK hN
      obtain ⟨k, n, e1, rfl, hk, hc⟩ := phas_some hh
      obtain ⟨hl, hs⟩ := hs
      have hkk : classN bs.length = k := by omega
      subst e1
      simp only [Int.toNat_natCast] at hp
      obtain ⟨hnl, _⟩ := List.getElem?_eq_some_iff.1 hc
      have hin := (h.mem _ _ _).2 hh
      obtain ⟨s1, s2, s3⟩ := mdel_sums h.nodup hin
      have hlen := hw.len k hk
      have hg : mget (mdel L ((k : Int), (n : Int))) ((k : Int), (n : Int)) = none := by
        cases hg : mget (mdel L ((k : Int), (n : Int))) ((k : Int), (n : Int)) with
        | none => rfl
        | some cs => exact absurd rfl (hnin _ (mget_some hg))
      refine ⟨hg, ⟨fun K N cs => ?_, ?_, ?_, ?_, fun x hx => ?_, ?_⟩, by omega, by omega, by omega, by omega⟩
      · rw [List.mem_append, List.mem_singleton, mem_mdel, ← hp]
        by_cases e : K = k ∧ N = n
        · obtain ⟨rfl, rfl⟩ := e
          rw [phas_at _ n hk, pupd_same]
          show _ ↔ (match ((st k).cs.set n (bs, true))[n]? with | some (bs, true) => some bs | _ => none) = some cs
          rw [List.getElem?_set_self hnl]
          simp
          exact eq_comm
        · rw [phas_upd (st := st) (k := k) (n := n) hk (fun j hj => pupd_other st _ hj) (fun i hi => by
            rw [pupd_same]
            show ((st k).cs.set n (bs, true))[i]? = _
            rw [List.getElem?_set_ne (Ne.symm hi)]) e, ← h.mem]
          have hne2 : ((K, N) : Int × Int) ≠ ((k : Int), (n : Int)) := fun e2 => by
            injection e2 with e3 e4
            exact e ⟨e3, e4⟩
          constructor
          · rintro (hm | hm)
            · exact hm.1
            · injection hm with hm _; exact absurd hm hne2
          · exact fun hm => .inl ⟨hm, hne2⟩
      · rw [List.map_append, List.nodup_append]
        refine ⟨nodup_mdel _ h.nodup, by simp, fun a ha b hb e => ?_⟩
        simp at hb
        subst hb
        obtain ⟨x, hx, hxa⟩ := List.mem_map.1 ha
        exact hnin x hx (hxa.trans e)
      · have := pused_upd st hk (⟨(st k).cs.set n (bs, true), (st k).fr⟩ : PSh)
        simp only [List.length_set] at this
        rw [← hp]
        have hu := h.used
        simp [cost] at hu s1 ⊢
        omega
      · have := pheld_upd st hk (⟨(st k).cs.set n (bs, true), (st k).fr⟩ : PSh)
        have h3 := pheldL_set (bs, true) hc
        rw [← hp]
        have hu := h.held
        simp [sumL] at hu s2 ⊢
        simp at h3 this
        omega
      · rw [List.mem_append, List.mem_singleton] at hx
        rcases hx with hx | rfl
        · exact h.fit x (mem_mdel.1 hx).1
        · have h1 := classN_fit hl
          have h2 := classN_small hl
          rw [hkk] at h1 h2
          exact ⟨by simpa using h1, by simpa using h2⟩
      · have := pall_upd st hk (⟨(st k).cs.set n (bs, true), (st k).fr⟩ : PSh)
        simp only [List.length_set] at this
        rw [← hp]
        have := h.all
        omega
    · rw [if_neg hs] at hp
      by_cases he : (pput most st bs).2.2.1 = 0
      · rw [if_pos he] at hp
        injection hp with hK hp
        injection hp with hN hp
        injection hp with _ hp
        obtain ⟨hn, hf, b1, b2, b3, b4⟩ := h.put hw (K := K) (N := N) (bs := bs) (st' := (pput most st bs).2.2.2) (by rw [← hK, ← hN, ← he])
        have hne : ((K, N) : Int × Int) ≠ (K0, N0) := fun e => by
          injection e with e1 e2
          rw [e1, e2, hh] at hn
          cases hn
        have hwp := hw.put most bs
        have h0 : phas (pput most st bs).2.2.2 K0 N0 = some old := (hf.mem _ _ _).1 (List.mem_append_left _ ((h.mem _ _ _).2 hh))
        have hfin := hf.free hwp h0
        rw [← hp]
        have e : mdel (L ++ [((K, N), bs)]) (K0, N0) = mdel L (K0, N0) ++ [((K, N), bs)] := by
          unfold mdel
          rw [List.filter_append]
          congr 1
          simp
          intro e1 e2
          exact hne (by rw [e1, e2])
        rw [e] at hfin
        refine ⟨?_, hfin, b1, b2, b3, b4⟩
        cases hg : mget (mdel L (K0, N0)) (K, N) with
        | none => rfl
        | some cs =>
          have := (h.mem _ _ _).1 (mem_mdel.1 (mget_some hg)).1
          rw [this] at hn
          cases hn
      · rw [if_neg he] at hp
        injection hp with _ hp
        injection hp with _ hp
        injection hp with hp _
        exact absurd hp he

theorem Fits.nil (most : Int) (h : 0 ≤ most) : Fits most p0 [] := by
  refine ⟨fun K N bs => ?_, by simp, rfl, rfl, by simp, (by show ((0 : Nat) : Int) ≤ most; omega)⟩
  constructor
  · intro h; cases h
  · intro h
    obtain ⟨k, n, _, _, _, hc⟩ := phas_some h
    simp [p0] at hc

end Go.Proofs.Ytookfhmghchkjaa
