/- The reference's arena against the plain lists (layer 13). No program in sight. -/
import Derived.Test.YtookfhmghchkjaaRsJ
import Derived.Test.YtookfhmghchkjaaSlabU
namespace Go.Proofs.Ytookfhmghchkjaa
open Go Go.RowKit

def fHeldB (l : List (List UInt8 × Bool)) : Nat := (l.map fun x => if x.2 then x.1.length else 0).sum
theorem fHeld_b : ∀ (vs : List (List UInt8 × Value)) (us : List Bool), fHeld (List.zip vs us) = fHeldB (List.zip (vs.map Prod.fst) us)
  | [], us => rfl
  | v :: vs, [] => rfl
  | v :: vs, u :: us => by
    have := fHeld_b vs us
    simp only [fHeld, fHeldB, List.map_cons, List.zip_cons_cons, List.sum_cons] at this ⊢
    omega

theorem sum_set {α : Type} (f : α → Nat) : ∀ {l : List α} {i : Nat} {x : α} (y : α), l[i]? = some x → ((l.set i y).map f).sum + f x = (l.map f).sum + f y
  | [], i, x, y, h => by simp at h
  | z :: l, 0, x, y, h => by
    simp at h
    subst h
    simp
    omega
  | z :: l, i + 1, x, y, h => by
    have := sum_set f (l := l) (i := i) (x := x) y (by simpa using h)
    simp at this ⊢
    omega
theorem set_same {α : Type} : ∀ {l : List α} {i : Nat} {x : α}, l[i]? = some x → l.set i x = l
  | [], i, x, h => by simp at h
  | z :: l, 0, x, h => by simp at h; subst h; rfl
  | z :: l, i + 1, x, h => by simp [set_same (l := l) (i := i) (x := x) (by simpa using h)]
theorem zip_set2 {α β : Type} : ∀ (a : List α) (b : List β) (i : Nat) (x : α) (y : β), List.zip (a.set i x) (b.set i y) = (List.zip a b).set i (x, y)
  | [], b, i, x, y => by simp
  | a :: l, [], i, x, y => by simp
  | a :: l, b :: r, 0, x, y => by simp
  | a :: l, b :: r, i + 1, x, y => by simp [zip_set2 l r i x y]

structure RSync (m : Nat) (st : PSt) (ks : List (Int × Int)) (bss : List (List UInt8)) (us : List Bool) (fr : List (Int × Int)) : Prop where
  lb : bss.length = ks.length
  lu : us.length = ks.length
  lm : ks.length ≤ m
  fm : fr.length ≤ m
  at_ : ∀ (i : Nat) (x : Int × Int), ks[i]? = some x → ∃ a b : Nat, x = ((a : Int), (b : Int)) ∧ a < 13 ∧ ∃ bs u, bss[i]? = some bs ∧ us[i]? = some u ∧ (st a).cs[b]? = some (bs, u)
  ex : ∀ a b : Nat, a < 13 → b < (st a).cs.length → ∃ i : Nat, ks[i]? = some ((a : Int), (b : Int))
  uniq : ∀ (i j : Nat) (x : Int × Int), ks[i]? = some x → ks[j]? = some x → i = j
  cnt : ∀ a : Nat, a < 13 → cntK a ks = (st a).cs.length
  all : fAll ks = pall st 13
  used : fUsed (List.zip ks us) = pused st 13
  held : fHeldB (List.zip bss us) = pheld st 13
  free : ∀ a : Nat, a < 13 → fFr a fr = (st a).fr.reverse.map fun n : Nat => (n : Int)

theorem RSync.nil : RSync 0 p0 [] [] [] [] := by
  refine ⟨rfl, rfl, Nat.le_refl _, Nat.le_refl _, fun i x h => by simp at h, fun a b _ h => ?_, fun i j x h => by simp at h, fun a _ => rfl, rfl, rfl, rfl, fun a _ => rfl⟩
  exact absurd h (by simp [p0])
theorem RSync.mono {m m' : Nat} {st : PSt} {ks : List (Int × Int)} {bss : List (List UInt8)} {us : List Bool} {fr : List (Int × Int)} (h : RSync m st ks bss us fr) (hm : m ≤ m') : RSync m' st ks bss us fr :=
  ⟨h.lb, h.lu, Nat.le_trans h.lm hm, Nat.le_trans h.fm hm, h.at_, h.ex, h.uniq, h.cnt, h.all, h.used, h.held, h.free⟩

section
variable {m : Nat} {st : PSt} {ks : List (Int × Int)} {bss : List (List UInt8)} {us : List Bool} {fr : List (Int × Int)}
theorem RSync.has_none (h : RSync m st ks bss us fr) {K N : Int} (hp : phas st K N = none) : rAt ks us (K, N) = none := by
  refine rAt_none fun j hj ⟨h1, h2⟩ => ?_
  obtain ⟨a, b, e, ha, bs, u, hb, hu, hc⟩ := h.at_ j _ h1
  injection e with e1 e2
  subst e1 e2
  rw [h2] at hu
  injection hu with hu
  subst hu
  unfold phas at hp
  rw [if_pos (by omega)] at hp
  simp [hc] at hp
theorem RSync.has_some (h : RSync m st ks bss us fr) {K N : Int} {bs : List UInt8} (hp : phas st K N = some bs) : ∃ i, rAt ks us (K, N) = some i ∧ bss[i]? = some bs ∧ ks[i]? = some (K, N) := by
  obtain ⟨k, n, rfl, rfl, hk, hc⟩ := phas_some hp
  obtain ⟨i, hi⟩ := h.ex k n hk (List.getElem?_eq_some_iff.1 hc).1
  obtain ⟨a, b, e, ha, bs', u, hb, hu, hc'⟩ := h.at_ i _ hi
  injection e with e1 e2
  have e1 : k = a := by omega
  have e2 : n = b := by omega
  subst e1 e2
  rw [hc] at hc'
  injection hc' with hc'
  injection hc' with h1 h2
  subst h1 h2
  refine ⟨i, rAt_some hi hu (fun j hj ⟨h1, _⟩ => ?_), hb, hi⟩
  have := h.uniq i j _ hi h1
  omega
theorem phas_of {st : PSt} {a b : Nat} {bs : List UInt8} {u : Bool} (ha : a < 13) (hc : (st a).cs[b]? = some (bs, u)) : phas st a b = if u then some bs else none := by
  unfold phas
  rw [if_pos (by omega)]
  simp only [Int.toNat_natCast, hc]
  cases u <;> rfl
theorem RSync.bytes (h : RSync m st ks bss us fr) {m' : Nat} (hw : PWf m' st) : ∀ x ∈ bss, x.length ≤ 65536 := by
  intro x hx
  obtain ⟨i, hi⟩ := List.getElem?_of_mem hx
  obtain ⟨hl, hv⟩ := List.getElem?_eq_some_iff.1 hi
  obtain ⟨a, b, e, ha, bs, u, hb, hu, hc⟩ := h.at_ i _ (List.getElem?_eq_getElem (by have := h.lb; omega))
  rw [hi] at hb
  injection hb with hb
  subst hb
  exact Nat.le_trans (hw.bs a ha _ (List.mem_of_getElem? hc)) (csize_le ha).2
theorem RSync.classes (h : RSync m st ks bss us fr) : ∀ k ∈ ks, 0 ≤ k.1 ∧ k.1 < 13 := by
  intro x hx
  obtain ⟨i, hi⟩ := List.getElem?_of_mem hx
  obtain ⟨a, b, e, ha, _⟩ := h.at_ i _ hi
  subst e
  dsimp only
  omega

/-- A new cell. -/
theorem RSync.new (h : RSync m st ks bss us fr) {m' : Nat} (hw : PWf m' st) {a : Nat} (ha : a < 13) (bs : List UInt8) : RSync (m + 1) (pupd st a ⟨(st a).cs ++ [(bs, true)], (st a).fr⟩) (ks ++ [((a : Int), ((st a).cs.length : Int))]) (bss ++ [bs]) (us ++ [true]) fr := by
  have hlb := h.lb
  have hlu := h.lu
  have hfl := hw.frlen ha
  have old : ∀ i : Nat, i < ks.length → (ks ++ [((a : Int), ((st a).cs.length : Int))])[i]? = ks[i]? := fun i hi => List.getElem?_append_left hi
  have hat : ∀ (i : Nat) (x : Int × Int), (ks ++ [((a : Int), ((st a).cs.length : Int))])[i]? = some x → ks[i]? = some x ∨ (i = ks.length ∧ x = ((a : Int), ((st a).cs.length : Int))) := by
    intro i x hi
    obtain ⟨hl, hv⟩ := List.getElem?_eq_some_iff.1 hi
    rw [List.length_append, List.length_singleton] at hl
    by_cases e : i < ks.length
    · rw [old i e] at hi; exact .inl hi
    · have e : i = ks.length := by omega
      subst e
      rw [List.getElem?_append_right (Nat.le_refl _)] at hi
      simp at hi
      exact .inr ⟨rfl, hi.symm⟩
  have nex : ∀ i : Nat, ks[i]? ≠ some ((a : Int), ((st a).cs.length : Int)) := by
    intro i hi
    obtain ⟨a', b', e, _, bs', u', _, _, hc⟩ := h.at_ i _ hi
    injection e with e1 e2
    have e1 : a = a' := by omega
    have e2 : (st a).cs.length = b' := by omega
    subst e1 e2
    simp at hc
  refine ⟨by simp; omega, by simp; omega, by simp; exact h.lm, Nat.le_trans h.fm (by omega), fun i x hi => ?_, fun c d hc hd => ?_, fun i j x hi hj => ?_, fun c hc => ?_, ?_, ?_, ?_, fun c hc => ?_⟩
  · rcases hat i x hi with hi' | ⟨rfl, rfl⟩
    · obtain ⟨a', b', e, ha', bs', u', hb', hu', hc'⟩ := h.at_ i x hi'
      have hil := (List.getElem?_eq_some_iff.1 hi').1
      refine ⟨a', b', e, ha', bs', u', by rw [List.getElem?_append_left (by omega)]; exact hb', by rw [List.getElem?_append_left (by omega)]; exact hu', ?_⟩
      by_cases e : a' = a
      · subst e; rw [pupd_same]; dsimp only; rw [List.getElem?_append_left (List.getElem?_eq_some_iff.1 hc').1]; exact hc'
      · rw [pupd_other st _ e]; exact hc'
    · refine ⟨a, _, rfl, ha, bs, true, by rw [← hlb]; simp, by rw [← hlu]; simp, by rw [pupd_same]; simp⟩
  · by_cases e : c = a
    · subst e
      rw [pupd_same] at hd
      simp at hd
      by_cases e : d < (st c).cs.length
      · obtain ⟨i, hi⟩ := h.ex c d hc e
        exact ⟨i, by rw [old i (List.getElem?_eq_some_iff.1 hi).1]; exact hi⟩
      · obtain rfl : d = (st c).cs.length := by omega
        exact ⟨ks.length, by simp⟩
    · rw [pupd_other st _ e] at hd
      obtain ⟨i, hi⟩ := h.ex c d hc hd
      exact ⟨i, by rw [old i (List.getElem?_eq_some_iff.1 hi).1]; exact hi⟩
  · rcases hat i x hi with h1 | ⟨h1, h2⟩ <;> rcases hat j x hj with h3 | ⟨h3, h4⟩
    · exact h.uniq i j x h1 h3
    · subst h4; exact absurd h1 (nex i)
    · subst h2; exact absurd h3 (nex j)
    · omega
  · rw [cntK_snoc, h.cnt c hc]
    by_cases e : c = a
    · subst e; rw [pupd_same, if_pos rfl]; simp
    · rw [pupd_other st _ e, if_neg (by intro e2; dsimp only at e2; omega)]; rfl
  · have := pall_upd st ha (⟨(st a).cs ++ [(bs, true)], (st a).fr⟩ : PSh)
    rw [List.length_append, List.length_singleton, Nat.mul_add] at this
    have h2 := h.all
    simp [fAll] at h2 ⊢
    omega
  · have := pused_upd st ha (⟨(st a).cs ++ [(bs, true)], (st a).fr⟩ : PSh)
    dsimp only at this
    rw [List.length_append, List.length_singleton, show (st a).cs.length + 1 - (st a).fr.length = ((st a).cs.length - (st a).fr.length) + 1 by omega, Nat.mul_add] at this
    have h2 := h.used
    rw [List.zip_append hlu.symm]
    simp [fUsed] at h2 ⊢
    omega
  · have := pheld_upd st ha (⟨(st a).cs ++ [(bs, true)], (st a).fr⟩ : PSh)
    have h2 := h.held
    rw [List.zip_append (by omega)]
    simp [fHeldB, pheldL] at h2 this ⊢
    omega
  · rw [h.free c hc]
    by_cases e : c = a
    · subst e; rw [pupd_same]
    · rw [pupd_other st _ e]

/-- One cell, and what is free, is another one. -/
theorem RSync.cell (h : RSync m st ks bss us fr) {a b i : Nat} (ha : a < 13) (hi : ks[i]? = some ((a : Int), (b : Int))) {bs bs' : List UInt8} {u u' : Bool} (hc : (st a).cs[b]? = some (bs, u)) {f' : List Nat} {fr' : List (Int × Int)} {m' : Nat} (hm : m ≤ m')
    (hfm : fr'.length ≤ m') (hfr : ∀ c : Nat, c < 13 → fFr c fr' = (if c = a then f' else (st c).fr).reverse.map fun n : Nat => (n : Int))
    (hU : (if u' then csize a else 0) + csize a * ((st a).cs.length - (st a).fr.length) = (if u then csize a else 0) + csize a * ((st a).cs.length - f'.length))
    (hH : (if u' then bs'.length else 0) + bs.length = (if u then bs.length else 0) + bs'.length) :
    RSync m' (pupd st a ⟨(st a).cs.set b (bs', u'), f'⟩) ks (bss.set i bs') (us.set i u') fr' := by
  have hlb := h.lb
  have hlu := h.lu
  have hil := (List.getElem?_eq_some_iff.1 hi).1
  obtain ⟨a1, b1, e, _, bs1, u1, hb1, hu1, hc1⟩ := h.at_ i _ hi
  injection e with e1 e2
  have e1 : a = a1 := by omega
  have e2 : b = b1 := by omega
  subst e1 e2
  rw [hc] at hc1
  injection hc1 with hc1
  injection hc1 with e1 e2
  subst e1 e2
  have hlen : ∀ c, (pupd st a ⟨(st a).cs.set b (bs', u'), f'⟩ c).cs.length = (st c).cs.length := fun c => by
    by_cases e : c = a
    · subst e; rw [pupd_same]; simp
    · rw [pupd_other st _ e]
  refine ⟨by simp; omega, by simp; omega, Nat.le_trans h.lm hm, hfm, fun j x hj => ?_, fun c d hc' hd => h.ex c d hc' (by rw [hlen] at hd; exact hd), h.uniq, fun c hc' => by rw [hlen]; exact h.cnt c hc', ?_, ?_, ?_, fun c hc' => ?_⟩
  · by_cases e : j = i
    · subst e
      rw [hi] at hj
      injection hj with hj
      subst hj
      refine ⟨a, b, rfl, ha, bs', u', by rw [List.getElem?_set_self (by omega)], by rw [List.getElem?_set_self (by omega)], ?_⟩
      rw [pupd_same]
      exact List.getElem?_set_self (List.getElem?_eq_some_iff.1 hc).1
    · obtain ⟨a2, b2, rfl, ha2, bs2, u2, hb2, hu2, hc2⟩ := h.at_ j x hj
      refine ⟨a2, b2, rfl, ha2, bs2, u2, by rw [List.getElem?_set_ne (Ne.symm e)]; exact hb2, by rw [List.getElem?_set_ne (Ne.symm e)]; exact hu2, ?_⟩
      by_cases e2 : a2 = a
      · subst e2
        rw [pupd_same]
        dsimp only
        have : b ≠ b2 := fun e3 => by subst e3; exact e (h.uniq j i _ hj hi)
        rw [List.getElem?_set_ne this]; exact hc2
      · rw [pupd_other st _ e2]; exact hc2
  · have := pall_upd st ha (⟨(st a).cs.set b (bs', u'), f'⟩ : PSh)
    rw [List.length_set] at this
    have := h.all
    omega
  · have h1 := pused_upd st ha (⟨(st a).cs.set b (bs', u'), f'⟩ : PSh)
    dsimp only at h1
    rw [List.length_set] at h1
    have h2 := h.used
    have h3 := sum_set (fun x : (Int × Int) × Bool => if x.2 then csize x.1.1.toNat else 0) (((a : Int), (b : Int)), u') (zip_at hi hu1)
    rw [← zip_set2, set_same hi] at h3
    simp only [Int.toNat_natCast] at h3
    simp only [fUsed] at h2 ⊢
    omega
  · have h1 := pheld_upd st ha (⟨(st a).cs.set b (bs', u'), f'⟩ : PSh)
    have h4 := pheldL_set (bs', u') hc
    have h2 := h.held
    have h3 := sum_set (fun x : List UInt8 × Bool => if x.2 then x.1.length else 0) (bs', u') (zip_at hb1 hu1)
    rw [← zip_set2] at h3
    simp only [fHeldB] at h2 ⊢
    dsimp only at h1 h3 h4
    omega
  · rw [hfr c hc']
    by_cases e : c = a
    · subst e; rw [pupd_same, if_pos rfl]
    · rw [pupd_other st _ e, if_neg e]

/-- What is free, one less. -/
theorem fFr_notC {fr : List (Int × Int)} {k : Int} {n : Int} (c : Int) : fFr c (fr.filter (notC (k, n))) = if c = k then (fFr c fr).filter (fun x => decide (x ≠ n)) else fFr c fr := by
  unfold fFr
  rw [List.filter_filter]
  by_cases e : c = k
  · subst e
    rw [if_pos rfl, List.filter_reverse, List.filter_map, List.filter_filter]
    congr 2
    apply List.filter_congr
    intro x hx
    by_cases h1 : x.1 = c
    · by_cases h2 : x.2 = n
      · have : x = (c, n) := by ext <;> simp [h1, h2]
        simp [notC, this]
      · have : x ≠ (c, n) := fun e => h2 (by rw [e])
        simp [notC, this, h1, h2]
    · simp [h1]
  · rw [if_neg e]
    congr 2
    apply List.filter_congr
    intro x hx
    by_cases h1 : x.1 = c
    · have : x ≠ (k, n) := fun e2 => e (by rw [← h1, e2])
      simp [notC, this, h1]
    · simp [h1]
theorem fFr_snoc (c : Int) (fr : List (Int × Int)) (k n : Int) : fFr c (fr ++ [(k, n)]) = if k = c then n :: fFr c fr else fFr c fr := by
  unfold fFr
  rw [List.filter_append]
  by_cases e : k = c
  · rw [if_pos e]; simp [e]
  · rw [if_neg e]; simp [e]

theorem RSync.reuse (h : RSync m st ks bss us fr) {m' : Nat} (hw : PWf m' st) {a n i : Nat} (ha : a < 13) (hf : (st a).fr = (st a).fr.dropLast ++ [n]) (hi : ks[i]? = some ((a : Int), (n : Int))) (bs : List UInt8) :
    RSync m (pupd st a ⟨(st a).cs.set n (bs, true), (st a).fr.dropLast⟩) ks (bss.set i bs) (us.set i true) (fr.filter (notC ((a : Int), (n : Int)))) := by
  have hmem : n ∈ (st a).fr := by rw [hf]; simp
  have hnd := hw.nodup a ha
  have hfl := hw.frlen ha
  have hlen : (st a).fr.length = (st a).fr.dropLast.length + 1 := by
    have := congrArg List.length hf
    rwa [List.length_append, List.length_singleton] at this
  refine h.cell ha hi (hw.fr a ha n hmem) (Nat.le_refl _) (Nat.le_trans (List.length_filter_le _ _) h.fm) (fun c hc => ?_) ?_ ?_
  · rw [fFr_notC, h.free c hc]
    by_cases e : c = a
    · subst e
      rw [if_pos rfl, if_pos rfl]
      rw [hf] at hnd ⊢
      rw [List.dropLast_concat]
      rw [List.reverse_append]
      simp only [List.reverse_cons, List.reverse_nil, List.nil_append, List.singleton_append, List.map_cons]
      rw [List.filter_cons_of_neg (by simp), List.filter_eq_self]
      intro x hx
      obtain ⟨y, hy, rfl⟩ := List.mem_map.1 hx
      have hy2 : y ≠ n := fun e => by
        subst e
        rw [List.nodup_append] at hnd
        exact hnd.2.2 y (List.mem_reverse.1 hy) y (by simp) rfl
      simp only [decide_eq_true_eq]
      omega
    · rw [if_neg (by omega), if_neg e]
  · rw [if_pos rfl, if_neg (by decide), hlen, show (st a).cs.length - (st a).fr.dropLast.length = ((st a).cs.length - ((st a).fr.dropLast.length + 1)) + 1 by omega, Nat.mul_add]
    omega
  · simp

theorem RSync.free1 (h : RSync m st ks bss us fr) {m' : Nat} (hw : PWf m' st) {a n i : Nat} (ha : a < 13) (hi : ks[i]? = some ((a : Int), (n : Int))) {bs : List UInt8} (hc : (st a).cs[n]? = some (bs, true)) :
    RSync (m + 1) (pupd st a ⟨(st a).cs.set n ([], false), (st a).fr ++ [n]⟩) ks (bss.set i []) (us.set i false) (fr ++ [((a : Int), (n : Int))]) := by
  have hfl : (st a).fr.length + 1 ≤ (st a).cs.length := by
    have h1 := nodup_bound (st a).cs.length ((st a).fr ++ [n]) (by
      rw [List.nodup_append]
      refine ⟨hw.nodup a ha, by simp, fun x hx y hy e => ?_⟩
      simp at hy
      subst e hy
      have := hw.fr a ha _ hx
      rw [hc] at this
      injection this with this
      injection this with _ this
      cases this) (fun x hx => by
      rcases List.mem_append.1 hx with hx | hx
      · exact hw.frlt ha hx
      · simp at hx
        subst hx
        exact (List.getElem?_eq_some_iff.1 hc).1)
    simpa using h1
  refine h.cell ha hi hc (by omega) (by simp; exact h.fm) (fun c hc' => ?_) ?_ ?_
  · rw [fFr_snoc, h.free c hc']
    by_cases e : c = a
    · subst e; simp
    · rw [if_neg (by omega), if_neg e]
  · rw [if_neg (by decide), if_pos rfl, List.length_append, List.length_singleton, show (st a).cs.length - (st a).fr.length = ((st a).cs.length - ((st a).fr.length + 1)) + 1 by omega, Nat.mul_add]
    omega
  · simp

theorem RSync.put1 (h : RSync m st ks bss us fr) {a n i : Nat} (ha : a < 13) (hi : ks[i]? = some ((a : Int), (n : Int))) {bs0 : List UInt8} (bs : List UInt8) (hc : (st a).cs[n]? = some (bs0, true)) (hu : us[i]? = some true) :
    RSync m (pupd st a ⟨(st a).cs.set n (bs, true), (st a).fr⟩) ks (bss.set i bs) us fr := by
  have := h.cell ha hi hc (u' := true) (bs' := bs) (f' := (st a).fr) (fr' := fr) (Nat.le_refl m) h.fm (fun c hc' => by
    rw [h.free c hc']
    by_cases e : c = a
    · subst e; rw [if_pos rfl]
    · rw [if_neg e]) rfl (by simp; omega)
  rwa [set_same hu] at this
end

end Go.Proofs.Ytookfhmghchkjaa
