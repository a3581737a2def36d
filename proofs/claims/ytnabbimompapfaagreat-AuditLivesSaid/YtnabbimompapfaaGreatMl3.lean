/- AudRQ, AudRR -/
import Derived.Test.YtnabbimompapfaaGreatMl2
namespace Go.Proofs.YtnabbimompapfaaGreat
open Go Go.RowKit
theorem expire_gone {s : PJ} {t : Int} {x : EntV} (hb : (s.L.map EntV.birth).Pairwise (· < ·)) (hx : x ∈ s.L) (hd : dueP x.dl t = true) : expireP (goneP s x.birth) t = expireP s t := by
 have hinj := pair_inj hb
 unfold expireP goneP
 dsimp only
 congr 1
 ·rw [List.filter_filter]
  refine List.filter_congr fun e he => ?_
  by_cases h : e.birth = x.birth
  ·rw [hinj e he x hx h, hd]; simp
  ·simp [h]
 ·rw [List.filter_filter]
  refine List.filter_congr fun c _ => ?_
  by_cases h : c = x.birth
  ·subst h
   have : (s.L.any fun e => decide (e.birth = x.birth) && dueP e.dl t) = true := List.any_eq_true.2 ⟨x, hx, by simp [hd]⟩
   rw [this]; simp
  ·have : ((s.L.filter fun e => decide (e.birth ≠ x.birth)).any fun e => decide (e.birth = c) && dueP e.dl t) = (s.L.any fun e => decide (e.birth = c) && dueP e.dl t) := by
    rw [Bool.eq_iff_iff, List.any_eq_true, List.any_eq_true]
    constructor
    ·rintro ⟨e, he, h2⟩; exact ⟨e, (List.mem_filter.1 he).1, h2⟩
    ·rintro ⟨e, he, h2⟩
     refine ⟨e, List.mem_filter.2 ⟨he, ?_⟩, h2⟩
     rw [Bool.and_eq_true, decide_eq_true_eq] at h2
     rw [decide_eq_true_eq, h2.1]; exact h
   rw [this]; simp [h]
theorem expire_none {s : PJ} {t : Int} (h : ∀ e ∈ s.L, dueP e.dl t = false) : expireP s t = { s with now := t } := by
 have h1 : (s.L.filter fun e => !dueP e.dl t) = s.L := List.filter_eq_self.2 (fun e he => by rw [h e he]; rfl)
 have h2 : (s.U.filter fun b => !(s.L.any fun e => decide (e.birth = b) && dueP e.dl t)) = s.U := List.filter_eq_self.2 (fun b _ => by
  have : (s.L.any fun e => decide (e.birth = b) && dueP e.dl t) = false := by
   rw [List.any_eq_false]; intro e he; rw [h e he]; simp
  rw [this]; rfl)
 unfold expireP
 rw [h1, h2]
theorem strip_eq {x y : EvV} (h : y = x) (xs ys : List EvV) : stripP (x :: xs) (y :: ys) = stripP xs ys := by rw [stripP, if_pos h]
theorem strip_ne {x y : EvV} (h : ¬ y = x) (xs ys : List EvV) : stripP (x :: xs) (y :: ys) = none := by rw [stripP, if_neg h]
def sLen : Value → Nat
 |.slice _ n _ => n
 |_ => 0
def FirstD (t : Int) (ps : List (EntV × Value)) (m : Nat) (f : Int) : Prop :=
 (f = -1 ∧ ∀ j p, j < m → ps[j]? = some p → dueP p.1.dl t = false) ∨
 ∃ (k : Nat) (p : EntV × Value), f = k ∧ k < m ∧ ps[k]? = some p ∧ dueP p.1.dl t = true ∧ ∀ j q, j < m → ps[j]? = some q → dueP q.1.dl t = true → before p.1 q.1 = true
section
variable {t : Int} {ps : List (EntV × Value)} {m : Nat} {f : Int} {e : EntV × Value}
theorem FirstD.skip (h : FirstD t ps m f) (he : ps[m]? = some e) (hd : dueP e.1.dl t = false) : FirstD t ps (m + 1) f := by
 rcases h with ⟨h1, h2⟩ | ⟨k, p, h1, h2, h3, h4, h5⟩
 ·refine .inl ⟨h1, fun j p hj hp => ?_⟩
  rcases (by omega : j < m ∨ j = m) with h | rfl
  ·exact h2 j p h hp
  ·rw [he] at hp; cases hp; exact hd
 ·refine .inr ⟨k, p, h1, by omega, h3, h4, fun j q hj hq hqd => ?_⟩
  rcases (by omega : j < m ∨ j = m) with h | rfl
  ·exact h5 j q h hq hqd
  ·rw [he] at hq; cases hq; rw [hd] at hqd; cases hqd
theorem FirstD.fresh (h : FirstD t ps m (-1)) (he : ps[m]? = some e) (hd : dueP e.1.dl t = true) : FirstD t ps (m + 1) m := by
 rcases h with ⟨_, h2⟩ | ⟨k, p, h1, _⟩
 ·refine .inr ⟨m, e, rfl, by omega, he, hd, fun j q hj hq hqd => ?_⟩
  rcases (by omega : j < m ∨ j = m) with h | rfl
  ·rw [h2 j q h hq] at hqd; cases hqd
  ·rw [he] at hq; cases hq
   have := before_total e.1 e.1; simpa using this
 ·omega
theorem FirstD.better {k : Nat} {p : EntV × Value} (h : FirstD t ps m k) (hp : ps[k]? = some p) (he : ps[m]? = some e) (hd : dueP e.1.dl t = true) (hb : before p.1 e.1 = false) : FirstD t ps (m + 1) m := by
 rcases h with ⟨h1, _⟩ | ⟨k', p', h1, h2, h3, h4, h5⟩
 ·omega
 ·have : k' = k := by omega
  subst this
  rw [hp] at h3; cases h3
  have hep : before e.1 p.1 = true := by have := before_total p.1 e.1; rw [hb] at this; simpa using this
  refine .inr ⟨m, e, rfl, by omega, he, hd, fun j q hj hq hqd => ?_⟩
  rcases (by omega : j < m ∨ j = m) with h | rfl
  ·exact before_trans _ _ _ hep (h5 j q h hq hqd)
  ·rw [he] at hq; cases hq
   have := before_total e.1 e.1; simpa using this
theorem FirstD.stays {k : Nat} {p : EntV × Value} (h : FirstD t ps m k) (hp : ps[k]? = some p) (he : ps[m]? = some e) (hb : before p.1 e.1 = true) : FirstD t ps (m + 1) k := by
 rcases h with ⟨h1, _⟩ | ⟨k', p', h1, h2, h3, h4, h5⟩
 ·omega
 ·have : k' = k := by omega
  subst this
  rw [hp] at h3; cases h3
  refine .inr ⟨k', p, rfl, by omega, hp, h4, fun j q hj hq hqd => ?_⟩
  rcases (by omega : j < m ∨ j = m) with h | rfl
  ·exact h5 j q h hq hqd
  ·rw [he] at hq; cases hq; exact hb
end
structure ExI (w W : World) (B Bv g : Nat) (pv : Nat → Int) (s : PJ) (t : Int) (xs : List (EvV × Value)) (N : Nat) (lv vL vU : Value) (s1 : PJ) (ps1 : List (EntV × Value)) (xs1 : List (EvV × Value)) : Prop where
 k : KRep W B g vL vU pv s1 ps1
 ev : EvsAt W Bv lv xs1
 now : s1.now = s.now
 exp : expireP s1 t = expireP s t
 str : stripP (dueE s1 t) (xs1.map Prod.fst) = stripP (dueE s t) (xs.map Prod.fst)
 asc : (s1.L.map EntV.birth).Pairwise (· < ·)
 un : s1.U.length ≤ 100000
 pn : ps1.length ≤ N
 only : Only (fun k => k = g) w W
theorem ExI.adv {w W W2 : World} {B Bv g : Nat} {pv : Nat → Int} {s : PJ} {t : Int} {xs : List (EvV × Value)} {N : Nat} {lv vL vU : Value} {s1 : PJ} {ps1 : List (EntV × Value)} {xs1 : List (EvV × Value)} (h : ExI w W B Bv g pv s t xs N lv vL vU s1 ps1 xs1) (hb : Below W.heap.size W W2) : ExI w W2 B Bv g pv s t xs N lv vL vU s1 ps1 xs1 :=
 ⟨h.k.below hb, h.ev.below hb, h.now, h.exp, h.str, h.asc, h.un, h.pn, h.only.trans (Only.of_below (S := fun _ => False) hb) (fun _ _ e => e.elim)⟩
theorem ExI.next {w W W2 : World} {B Bv g : Nat} {pv : Nat → Int} {s : PJ} {t : Int} {xs : List (EvV × Value)} {N : Nat} {lv lv2 vL vU vL2 vU2 : Value} {s1 : PJ} {ps1 : List (EntV × Value)} {xs1 xs2 : List (EvV × Value)} {b : Int} {k : Nat} (h : ExI w W B Bv g pv s t xs N lv vL vU s1 ps1 xs1) (hk : KRep W2 B g vL2 vU2 pv (goneP s1 b) (ps1.eraseIdx k)) (hon : Only (fun k => k = g) W W2)
  (hev : EvsAt W Bv lv2 xs2) (hx : expireP (goneP s1 b) t = expireP s t) (hst : stripP (dueE (goneP s1 b) t) (xs2.map Prod.fst) = stripP (dueE s t) (xs.map Prod.fst)) (hBv : Bv ≤ B) (hg : B ≤ g) : ExI w W2 B Bv g pv s t xs N lv2 vL2 vU2 (goneP s1 b) (ps1.eraseIdx k) xs2 := by
 obtain ⟨cs, hb, _⟩ := h.k.blk
 exact ⟨hk, hev.keep (KeepB.of_blk hb (by decide) (Nat.le_trans hBv hg) hon), h.now, hx, hst, h.asc.sublist (List.filter_sublist.map _), Nat.le_trans (List.length_filter_le _ _) h.un, Nat.le_trans (List.length_eraseIdx_le ..) h.pn, h.only.trans hon (fun _ _ h => h)⟩
def ExRet (B Bv g : Nat) (pv : Nat → Int) (s : PJ) (t : Int) (xs : List (EvV × Value)) (N : Nat) (w : World) (e : Ending) (w' : World) : Prop :=
 ∃ lv ok, e = .returned (.tuple #[lv, .bool ok]) ∧ Only (fun k => k = g) w w' ∧
  (stripP (dueE s t) (xs.map Prod.fst) = none → ok = false) ∧
  ∀ l1, stripP (dueE s t) (xs.map Prod.fst) = some l1 → ok = noExp l1 ∧ ∃ xs' vL vU ps', xs'.map Prod.fst = l1 ∧ EvsAt w' Bv lv xs' ∧ KRep w' B g vL vU pv { expireP s t with now := s.now } ps' ∧ ps'.length ≤ N
set_option maxRecDepth 100000 in
set_option maxHeartbeats 8000000 in
theorem kExpire_any (B Bv g : Nat) (vL vU : Value) (pv : Nat → Int) (s : PJ) (ps : List (EntV × Value)) (t : Int) (lv : Value) (xs : List (EvV × Value)) (w : World) (h : KRep w B g vL vU pv s ps) (hl : EvsAt w Bv lv xs) (hBv : Bv ≤ B) (hn : ps.length ≤ 100000) (hu : s.U.length ≤ 100000) (hB : B ≤ w.heap.size) (hasc : (s.L.map EntV.birth).Pairwise (· < ·)) :
  Calls Tryz.prog 28 #[.pointer (some ⟨g, 0, none⟩), lv, .int .u64 t] w (ExRet B Bv g pv s t xs ps.length w) := by
 have HI0 : Hid (ExI w w B Bv g pv s t xs ps.length lv vL vU s ps xs) := zH ⟨h, hl, rfl, rfl, rfl, hasc, hu, zN _, Only.refl _ _⟩
 obtain ⟨LA, lc0, rfl⟩ := hl.slice
 have HN := zH hn
 have HBs := zH hB
 have HBv := zH hBv
 have HgB := zH h.base
 clear h hl hn hu hB hasc hBv
 go_enter Tryz.func28, Tryz.ntmps28
 go_wp2_with fail
 go_loopw [1] (fun l wr => ∃ vL1 vU1 s1 ps1 xs1, ExI w wr B Bv g pv s t xs ps.length l vL1 vU1 s1 ps1 xs1) (fun l _ => sLen l)
 case atStart => exact ⟨_, _, _, _, _, HI0.out⟩
 case round =>
  obtain ⟨vL1, vU1, s1, ps1, xs1, hi⟩ := hrel
  obtain ⟨w1, hw1⟩ : ∃ w1, w1 = wr := ⟨_, rfl⟩
  subst hw1
  have HI := zH hi
  obtain ⟨LA1, lc1, rfl, hlc1, _⟩ := hi.ev.cap
  obtain ⟨LA, lc, rfl, hlc, _⟩ := own_form hi.k.L
  have hpn : ps1.length ≤ 100000 := Nat.le_trans hi.pn HN.out
  have HG0 : Hid (GnX w1 w1 B g (.slice LA ps1.length lc) vU1 pv s1 ps1) := zH ⟨hi.k, zL _ _⟩
  have HC7 : Hid (∀ W, KRep W B g (.slice LA ps1.length lc) vU1 pv s1 ps1 → W.cell? ⟨g, 7, none⟩ = some (.slice LA ps1.length lc)) := zH (fun W hW => hW.cell 7 (by omega))
  have hnI : (ps1.length : Int) ≤ 100000 := by omega
  have hlcI : (ps1.length : Int) ≤ (lc : Int) := by omega
  clear hi hlc1 hlc hpn
  go_wp2_with fail
  go_loopw [8, 9] (fun f i wr => ∃ (m : Nat) (f1 : Int), m ≤ ps1.length ∧ i = .int .i64 m ∧ f = .int .i64 f1 ∧ FirstD t ps1 m f1 ∧ GnX w1 wr B g (.slice LA ps1.length lc) vU1 pv s1 ps1) (fun _ i _ => ps1.length - (intOf i).toNat)
  case atStart => exact ⟨0, -1, by omega, rfl, rfl, .inl ⟨rfl, fun j p hj => by omega⟩, HG0.out⟩
  case round =>
   obtain ⟨m, f1, hm, rfl, rfl, hf, hg⟩ := hrel
   have HF1 := zH hf
   have HG := zH hg
   have x7 : World.cell? wr ⟨g, 7, none⟩ = some (.slice LA ps1.length lc) := HC7.out _ hg.k
   by_cases hml : m < ps1.length
   ·obtain ⟨p, hp⟩ : ∃ p, ps1[m]? = some p := ⟨_, List.getElem?_eq_getElem hml⟩
    have hmI : (m : Int) < (ps1.length : Int) := by omega
    obtain ⟨gL, rfl⟩ : ∃ gL, LA = some ⟨gL, 0, none⟩ := by
     rcases hg.k.L.2 with ⟨_, h0⟩ | ⟨q, c, cur, eq, _⟩
     ·omega
     ·injection eq with eq _ _
      exact ⟨q, eq⟩
    have HP := zH hp
    have HVp := zH (hg.k.vals p (List.mem_of_getElem? hp)).form
    obtain ⟨q, hq⟩ : ∃ q, dueP p.1.dl t = q := ⟨_, rfl⟩
    have HQ := zH hq
    have HD := zH (fun W => hq ▸ refDue_any p.1.dl t W)
    clear hp hf hg hq
    cases q with
    |false =>
     go_upto_region 5 with fail
     refine wp_region_noPanic ?_
     refine wp_region_held_drew (S := fun W => GnX w1 W B g (.slice (some ⟨gL, 0, none⟩) ps1.length lc) vU1 pv s1 ps1) (by kernel_rfl) (HG.out.adv (zL _ _).drew) (fun hHeld => ?_)
     obtain ⟨W3, hW3⟩ : ∃ W3, wr.drew = W3 := ⟨_, rfl⟩
     rw [hW3] at hHeld ⊢
     have H3 := zH hHeld
     clear hW3
     refine tk 0 (v := ?_) ?_ ?_
     rotate_left 1
     ·intro W hSw
      have x7 := HC7.out _ hSw.k; obtain ⟨y0, y1, y2, y3⟩ := hSw.k.entAt HP.out
      clear hSw
      go_simp
      try with_reducible rfl
     try dsimp only [zS, zB, zC]
     refine tk 1 (v := ?_) ?_ ?_
     rotate_left 1
     ·intro W hSw
      have x7 := HC7.out _ hSw.k; obtain ⟨y0, y1, y2, y3⟩ := hSw.k.entAt HP.out
      clear hSw
      go_simp
      try with_reducible rfl
     try dsimp only [zS, zB, zC]
     refine tk 2 (v := ?_) ?_ ?_
     rotate_left 1
     ·intro W hSw
      have x7 := HC7.out _ hSw.k; obtain ⟨y0, y1, y2, y3⟩ := hSw.k.entAt HP.out
      clear hSw
      go_simp
      try with_reducible rfl
     try dsimp only [zS, zB, zC]
     refine tk 3 (v := ?_) ?_ ?_
     rotate_left 1
     ·intro W hSw
      have x7 := HC7.out _ hSw.k; obtain ⟨y0, y1, y2, y3⟩ := hSw.k.entAt HP.out
      clear hSw
      go_simp
      try with_reducible rfl
     try dsimp only [zS, zB, zC]
     refine tk 4 (v := ?_) ?_ ?_
     rotate_left 1
     ·intro W hSw
      have x7 := HC7.out _ hSw.k; obtain ⟨y0, y1, y2, y3⟩ := hSw.k.entAt HP.out
      clear hSw
      go_simp
      try with_reducible rfl
     try dsimp only [zS, zB, zC]
     refine tk 5 (v := ?_) ?_ ?_
     rotate_left 1
     ·intro W hSw
      have x7 := HC7.out _ hSw.k; obtain ⟨y0, y1, y2, y3⟩ := hSw.k.entAt HP.out
      clear hSw
      go_simp
      try with_reducible rfl
     try dsimp only [zS, zB, zC]
     refine tk 6 (v := ?_) ?_ ?_
     rotate_left 1
     ·intro W hSw
      have x7 := HC7.out _ hSw.k; obtain ⟨y0, y1, y2, y3⟩ := hSw.k.entAt HP.out
      clear hSw
      go_simp
      try with_reducible rfl
     try dsimp only [zS, zB, zC]
     refine tk 7 (v := ?_) ?_ ?_
     rotate_left 1
     ·intro W hSw
      have x7 := HC7.out _ hSw.k; obtain ⟨y0, y1, y2, y3⟩ := hSw.k.entAt HP.out
      clear hSw
      go_simp
      try with_reducible rfl
     try dsimp only [zS, zB, zC]
     refine tk 8 (v := ?_) ?_ ?_
     rotate_left 1
     ·intro W hSw
      have x7 := HC7.out _ hSw.k; obtain ⟨y0, y1, y2, y3⟩ := hSw.k.entAt HP.out
      clear hSw
      go_simp
      try with_reducible rfl
     try dsimp only [zS, zB, zC]
     refine wpAnyH_ready (rs := [9]) (by kernel_rfl) (by simp) ?_
     refine AllReadyH.cons (o := ⟨_, _, _, _, _, _⟩) rfl (fun F hF => ?_) AllReadyH.nil
     go_simp
     refine (HD.out W3).mono ?_
     rintro e2 w4 ⟨rfl, hw4⟩
     subst hw4
     go_wp2_with fail
     refine hF.out _ _ H3.out (fun hHeld => ?_)
     clear hF F
     try simp only [Act.put, zA, zB, zC]
     refine tk 10 (v := ?_) ?_ ?_
     rotate_left 1
     ·intro W hSw
      skip
      clear hSw
      go_simp
      try with_reducible rfl
     try dsimp only [zS, zB, zC]
     refine sk 11 ?_
     try dsimp only [zS, zB, zC]
     refine sk 12 ?_
     try dsimp only [zS, zB, zC]
     refine sk 13 ?_
     try dsimp only [zS, zB, zC]
     refine sk 14 ?_
     try dsimp only [zS, zB, zC]
     refine sk 15 ?_
     try dsimp only [zS, zB, zC]
     refine sk 16 ?_
     try dsimp only [zS, zB, zC]
     refine sk 17 ?_
     try dsimp only [zS, zB, zC]
     refine sk 18 ?_
     try dsimp only [zS, zB, zC]
     refine sk 19 ?_
     try dsimp only [zS, zB, zC]
     refine sk 20 ?_
     try dsimp only [zS, zB, zC]
     refine sk 21 ?_
     try dsimp only [zS, zB, zC]
     refine sk 22 ?_
     try dsimp only [zS, zB, zC]
     refine sk 23 ?_
     try dsimp only [zS, zB, zC]
     refine sk 24 ?_
     try dsimp only [zS, zB, zC]
     refine sk 25 ?_
     try dsimp only [zS, zB, zC]
     refine sk 26 ?_
     try dsimp only [zS, zB, zC]
     refine sk 27 ?_
     try dsimp only [zS, zB, zC]
     refine sk 28 ?_
     try dsimp only [zS, zB, zC]
     refine sk 29 ?_
     try dsimp only [zS, zB, zC]
     refine tk 30 (v := ?_) ?_ ?_
     rotate_left 1
     ·intro W hSw
      skip
      clear hSw
      go_simp
      try with_reducible rfl
     try dsimp only [zS, zB, zC]
     refine wpAnyH_done (by kernel_rfl) ?_ _
     refine NoPanic.normal ?_
     go_wp2_with fail
     go_roundw
     case rel => exact ⟨m + 1, f1, by omega, by go_num, rfl, HF1.out.skip HP.out HQ.out, hHeld⟩
     case measure => simp [intOf]; omega
    |true =>
     rcases HF1.out with ⟨hf1, hf2⟩ | ⟨k, pk, hk1, hk2, hk3, hk4, hk5⟩
     ·subst hf1
      clear hf2
      go_upto_region 5 with fail
      refine wp_region_noPanic ?_
      refine wp_region_held_drew (S := fun W => GnX w1 W B g (.slice (some ⟨gL, 0, none⟩) ps1.length lc) vU1 pv s1 ps1) (by kernel_rfl) (HG.out.adv (zL _ _).drew) (fun hHeld => ?_)
      obtain ⟨W3, hW3⟩ : ∃ W3, wr.drew = W3 := ⟨_, rfl⟩
      rw [hW3] at hHeld ⊢
      have H3 := zH hHeld
      clear hW3
      refine tk 0 (v := ?_) ?_ ?_
      rotate_left 1
      ·intro W hSw
       have x7 := HC7.out _ hSw.k; obtain ⟨y0, y1, y2, y3⟩ := hSw.k.entAt HP.out
       clear hSw
       go_simp
       try with_reducible rfl
      try dsimp only [zS, zB, zC]
      refine tk 1 (v := ?_) ?_ ?_
      rotate_left 1
      ·intro W hSw
       have x7 := HC7.out _ hSw.k; obtain ⟨y0, y1, y2, y3⟩ := hSw.k.entAt HP.out
       clear hSw
       go_simp
       try with_reducible rfl
      try dsimp only [zS, zB, zC]
      refine tk 2 (v := ?_) ?_ ?_
      rotate_left 1
      ·intro W hSw
       have x7 := HC7.out _ hSw.k; obtain ⟨y0, y1, y2, y3⟩ := hSw.k.entAt HP.out
       clear hSw
       go_simp
       try with_reducible rfl
      try dsimp only [zS, zB, zC]
      refine tk 3 (v := ?_) ?_ ?_
      rotate_left 1
      ·intro W hSw
       have x7 := HC7.out _ hSw.k; obtain ⟨y0, y1, y2, y3⟩ := hSw.k.entAt HP.out
       clear hSw
       go_simp
       try with_reducible rfl
      try dsimp only [zS, zB, zC]
      refine tk 4 (v := ?_) ?_ ?_
      rotate_left 1
      ·intro W hSw
       have x7 := HC7.out _ hSw.k; obtain ⟨y0, y1, y2, y3⟩ := hSw.k.entAt HP.out
       clear hSw
       go_simp
       try with_reducible rfl
      try dsimp only [zS, zB, zC]
      refine tk 5 (v := ?_) ?_ ?_
      rotate_left 1
      ·intro W hSw
       have x7 := HC7.out _ hSw.k; obtain ⟨y0, y1, y2, y3⟩ := hSw.k.entAt HP.out
       clear hSw
       go_simp
       try with_reducible rfl
      try dsimp only [zS, zB, zC]
      refine tk 6 (v := ?_) ?_ ?_
      rotate_left 1
      ·intro W hSw
       have x7 := HC7.out _ hSw.k; obtain ⟨y0, y1, y2, y3⟩ := hSw.k.entAt HP.out
       clear hSw
       go_simp
       try with_reducible rfl
      try dsimp only [zS, zB, zC]
      refine tk 7 (v := ?_) ?_ ?_
      rotate_left 1
      ·intro W hSw
       have x7 := HC7.out _ hSw.k; obtain ⟨y0, y1, y2, y3⟩ := hSw.k.entAt HP.out
       clear hSw
       go_simp
       try with_reducible rfl
      try dsimp only [zS, zB, zC]
      refine tk 8 (v := ?_) ?_ ?_
      rotate_left 1
      ·intro W hSw
       have x7 := HC7.out _ hSw.k; obtain ⟨y0, y1, y2, y3⟩ := hSw.k.entAt HP.out
       clear hSw
       go_simp
       try with_reducible rfl
      try dsimp only [zS, zB, zC]
      refine wpAnyH_ready (rs := [9]) (by kernel_rfl) (by simp) ?_
      refine AllReadyH.cons (o := ⟨_, _, _, _, _, _⟩) rfl (fun F hF => ?_) AllReadyH.nil
      go_simp
      refine (HD.out W3).mono ?_
      rintro e2 w4 ⟨rfl, hw4⟩
      subst hw4
      go_wp2_with fail
      refine hF.out _ _ H3.out (fun hHeld => ?_)
      clear hF F
      try simp only [Act.put, zA, zB, zC]
      refine tk 10 (v := ?_) ?_ ?_
      rotate_left 1
      ·intro W hSw
       skip
       clear hSw
       go_simp
       try with_reducible rfl
      try dsimp only [zS, zB, zC]
      refine tk 11 (v := ?_) ?_ ?_
      rotate_left 1
      ·intro W hSw
       skip
       clear hSw
       go_simp
       try with_reducible rfl
      try dsimp only [zS, zB, zC]
      refine tk 12 (v := ?_) ?_ ?_
      rotate_left 1
      ·intro W hSw
       skip
       clear hSw
       go_simp
       try with_reducible rfl
      try dsimp only [zS, zB, zC]
      refine tk 13 (v := ?_) ?_ ?_
      rotate_left 1
      ·intro W hSw
       skip
       clear hSw
       go_simp
       try with_reducible rfl
      try dsimp only [zS, zB, zC]
      refine sk 14 ?_
      try dsimp only [zS, zB, zC]
      refine sk 15 ?_
      try dsimp only [zS, zB, zC]
      refine sk 16 ?_
      try dsimp only [zS, zB, zC]
      refine sk 17 ?_
      try dsimp only [zS, zB, zC]
      refine sk 18 ?_
      try dsimp only [zS, zB, zC]
      refine sk 19 ?_
      try dsimp only [zS, zB, zC]
      refine sk 20 ?_
      try dsimp only [zS, zB, zC]
      refine sk 21 ?_
      try dsimp only [zS, zB, zC]
      refine sk 22 ?_
      try dsimp only [zS, zB, zC]
      refine sk 23 ?_
      try dsimp only [zS, zB, zC]
      refine sk 24 ?_
      try dsimp only [zS, zB, zC]
      refine sk 25 ?_
      try dsimp only [zS, zB, zC]
      refine sk 26 ?_
      try dsimp only [zS, zB, zC]
      refine sk 27 ?_
      try dsimp only [zS, zB, zC]
      refine sk 28 ?_
      try dsimp only [zS, zB, zC]
      refine tk 29 (v := ?_) ?_ ?_
      rotate_left 1
      ·intro W hSw
       skip
       clear hSw
       go_simp
       try with_reducible rfl
      try dsimp only [zS, zB, zC]
      refine tk 30 (v := ?_) ?_ ?_
      rotate_left 1
      ·intro W hSw
       skip
       clear hSw
       go_simp
       try with_reducible rfl
      try dsimp only [zS, zB, zC]
      refine wpAnyH_done (by kernel_rfl) ?_ _
      refine NoPanic.normal ?_
      go_wp2_with fail
      go_roundw
      case rel => exact ⟨m + 1, (m : Int), by omega, by go_num, rfl, HF1.out.fresh HP.out HQ.out, hHeld⟩
      case measure => simp [intOf]; omega
     ·subst hk1
      have HK := zH hk3
      have HKl : Hid (k < ps1.length) := zH (by omega)
      have hkI : (k : Int) < (ps1.length : Int) := by omega
      have hk0 : ¬ (k : Int) < 0 := by omega
      have HVk := zH (HG.out.k.vals pk (List.mem_of_getElem? hk3)).form
      clear hk2 hk3 hk4 hk5
      go_upto_region 5 with fail
      refine wp_region_noPanic ?_
      refine wp_region_held_drew (S := fun W => GnX w1 W B g (.slice (some ⟨gL, 0, none⟩) ps1.length lc) vU1 pv s1 ps1) (by kernel_rfl) (HG.out.adv (zL _ _).drew) (fun hHeld => ?_)
      obtain ⟨W3, hW3⟩ : ∃ W3, wr.drew = W3 := ⟨_, rfl⟩
      rw [hW3] at hHeld ⊢
      have H3 := zH hHeld
      clear hW3
      refine tk 0 (v := ?_) ?_ ?_
      rotate_left 1
      ·intro W hSw
       have x7 := HC7.out _ hSw.k; obtain ⟨y0, y1, y2, y3⟩ := hSw.k.entAt HP.out
       clear hSw
       go_simp
       try with_reducible rfl
      try dsimp only [zS, zB, zC]
      refine tk 1 (v := ?_) ?_ ?_
      rotate_left 1
      ·intro W hSw
       have x7 := HC7.out _ hSw.k; obtain ⟨y0, y1, y2, y3⟩ := hSw.k.entAt HP.out
       clear hSw
       go_simp
       try with_reducible rfl
      try dsimp only [zS, zB, zC]
      refine tk 2 (v := ?_) ?_ ?_
      rotate_left 1
      ·intro W hSw
       have x7 := HC7.out _ hSw.k; obtain ⟨y0, y1, y2, y3⟩ := hSw.k.entAt HP.out
       clear hSw
       go_simp
       try with_reducible rfl
      try dsimp only [zS, zB, zC]
      refine tk 3 (v := ?_) ?_ ?_
      rotate_left 1
      ·intro W hSw
       have x7 := HC7.out _ hSw.k; obtain ⟨y0, y1, y2, y3⟩ := hSw.k.entAt HP.out
       clear hSw
       go_simp
       try with_reducible rfl
      try dsimp only [zS, zB, zC]
      refine tk 4 (v := ?_) ?_ ?_
      rotate_left 1
      ·intro W hSw
       have x7 := HC7.out _ hSw.k; obtain ⟨y0, y1, y2, y3⟩ := hSw.k.entAt HP.out
       clear hSw
       go_simp
       try with_reducible rfl
      try dsimp only [zS, zB, zC]
      refine tk 5 (v := ?_) ?_ ?_
      rotate_left 1
      ·intro W hSw
       have x7 := HC7.out _ hSw.k; obtain ⟨y0, y1, y2, y3⟩ := hSw.k.entAt HP.out
       clear hSw
       go_simp
       try with_reducible rfl
      try dsimp only [zS, zB, zC]
      refine tk 6 (v := ?_) ?_ ?_
      rotate_left 1
      ·intro W hSw
       have x7 := HC7.out _ hSw.k; obtain ⟨y0, y1, y2, y3⟩ := hSw.k.entAt HP.out
       clear hSw
       go_simp
       try with_reducible rfl
      try dsimp only [zS, zB, zC]
      refine tk 7 (v := ?_) ?_ ?_
      rotate_left 1
      ·intro W hSw
       have x7 := HC7.out _ hSw.k; obtain ⟨y0, y1, y2, y3⟩ := hSw.k.entAt HP.out
       clear hSw
       go_simp
       try with_reducible rfl
      try dsimp only [zS, zB, zC]
      refine tk 8 (v := ?_) ?_ ?_
      rotate_left 1
      ·intro W hSw
       have x7 := HC7.out _ hSw.k; obtain ⟨y0, y1, y2, y3⟩ := hSw.k.entAt HP.out
       clear hSw
       go_simp
       try with_reducible rfl
      try dsimp only [zS, zB, zC]
      refine wpAnyH_ready (rs := [9]) (by kernel_rfl) (by simp) ?_
      refine AllReadyH.cons (o := ⟨_, _, _, _, _, _⟩) rfl (fun F hF => ?_) AllReadyH.nil
      go_simp
      refine (HD.out W3).mono ?_
      rintro e2 w4 ⟨rfl, hw4⟩
      subst hw4
      go_wp2_with fail
      refine hF.out _ _ H3.out (fun hHeld => ?_)
      clear hF F
      try simp only [Act.put, zA, zB, zC]
      refine tk 10 (v := ?_) ?_ ?_
      rotate_left 1
      ·intro W hSw
       skip
       clear hSw
       go_simp
       try with_reducible rfl
      try dsimp only [zS, zB, zC]
      refine tk 11 (v := ?_) ?_ ?_
      rotate_left 1
      ·intro W hSw
       skip
       clear hSw
       go_simp
       try with_reducible rfl
      try dsimp only [zS, zB, zC]
      refine tk 12 (v := ?_) ?_ ?_
      rotate_left 1
      ·intro W hSw
       skip
       clear hSw
       go_simp
       try with_reducible rfl
      try dsimp only [zS, zB, zC]
      refine tk 13 (v := ?_) ?_ ?_
      rotate_left 1
      ·intro W hSw
       skip
       clear hSw
       go_simp
       try with_reducible rfl
      try dsimp only [zS, zB, zC]
      refine tk 14 (v := ?_) ?_ ?_
      rotate_left 1
      ·intro W hSw
       have x7 := HC7.out _ hSw.k; obtain ⟨y0, y1, y2, y3⟩ := hSw.k.entAt HP.out
       clear hSw
       go_simp
       try with_reducible rfl
      try dsimp only [zS, zB, zC]
      refine tk 15 (v := ?_) ?_ ?_
      rotate_left 1
      ·intro W hSw
       have x7 := HC7.out _ hSw.k; obtain ⟨y0, y1, y2, y3⟩ := hSw.k.entAt HP.out
       clear hSw
       go_simp
       try with_reducible rfl
      try dsimp only [zS, zB, zC]
      refine tk 16 (v := ?_) ?_ ?_
      rotate_left 1
      ·intro W hSw
       have x7 := HC7.out _ hSw.k; obtain ⟨y0, y1, y2, y3⟩ := hSw.k.entAt HP.out
       clear hSw
       go_simp
       try with_reducible rfl
      try dsimp only [zS, zB, zC]
      refine tk 17 (v := ?_) ?_ ?_
      rotate_left 1
      ·intro W hSw
       have x7 := HC7.out _ hSw.k; obtain ⟨y0, y1, y2, y3⟩ := hSw.k.entAt HP.out
       clear hSw
       go_simp
       try with_reducible rfl
      try dsimp only [zS, zB, zC]
      refine tk 18 (v := ?_) ?_ ?_
      rotate_left 1
      ·intro W hSw
       have x7 := HC7.out _ hSw.k; obtain ⟨y0, y1, y2, y3⟩ := hSw.k.entAt HP.out
       clear hSw
       go_simp
       try with_reducible rfl
      try dsimp only [zS, zB, zC]
      refine tk 19 (v := ?_) ?_ ?_
      rotate_left 1
      ·intro W hSw
       have x7 := HC7.out _ hSw.k; obtain ⟨y0, y1, y2, y3⟩ := hSw.k.entAt HP.out
       clear hSw
       go_simp
       try with_reducible rfl
      try dsimp only [zS, zB, zC]
      refine tk 20 (v := ?_) ?_ ?_
      rotate_left 1
      ·intro W hSw
       have x7 := HC7.out _ hSw.k; obtain ⟨y0, y1, y2, y3⟩ := hSw.k.entAt HP.out
       clear hSw
       go_simp
       try with_reducible rfl
      try dsimp only [zS, zB, zC]
      refine tk 21 (v := ?_) ?_ ?_
      rotate_left 1
      ·intro W hSw
       have x7 := HC7.out _ hSw.k; obtain ⟨z0, z1, z2, z3⟩ := hSw.k.entAt HK.out
       clear hSw
       go_simp
       try with_reducible rfl
      try dsimp only [zS, zB, zC]
      refine tk 22 (v := ?_) ?_ ?_
      rotate_left 1
      ·intro W hSw
       have x7 := HC7.out _ hSw.k; obtain ⟨z0, z1, z2, z3⟩ := hSw.k.entAt HK.out
       clear hSw
       go_simp
       try with_reducible rfl
      try dsimp only [zS, zB, zC]
      refine tk 23 (v := ?_) ?_ ?_
      rotate_left 1
      ·intro W hSw
       have x7 := HC7.out _ hSw.k; obtain ⟨z0, z1, z2, z3⟩ := hSw.k.entAt HK.out
       clear hSw
       go_simp
       try with_reducible rfl
      try dsimp only [zS, zB, zC]
      refine tk 24 (v := ?_) ?_ ?_
      rotate_left 1
      ·intro W hSw
       have x7 := HC7.out _ hSw.k; obtain ⟨z0, z1, z2, z3⟩ := hSw.k.entAt HK.out
       clear hSw
       go_simp
       try with_reducible rfl
      try dsimp only [zS, zB, zC]
      refine tk 25 (v := ?_) ?_ ?_
      rotate_left 1
      ·intro W hSw
       have x7 := HC7.out _ hSw.k; obtain ⟨z0, z1, z2, z3⟩ := hSw.k.entAt HK.out
       clear hSw
       go_simp
       try with_reducible rfl
      try dsimp only [zS, zB, zC]
      refine tk 26 (v := ?_) ?_ ?_
      rotate_left 1
      ·intro W hSw
       have x7 := HC7.out _ hSw.k; obtain ⟨z0, z1, z2, z3⟩ := hSw.k.entAt HK.out
       clear hSw
       go_simp
       try with_reducible rfl
      try dsimp only [zS, zB, zC]
      refine tk 27 (v := ?_) ?_ ?_
      rotate_left 1
      ·intro W hSw
       have x7 := HC7.out _ hSw.k; obtain ⟨z0, z1, z2, z3⟩ := hSw.k.entAt HK.out
       clear hSw
       go_simp
       try with_reducible rfl
      try dsimp only [zS, zB, zC]
      refine wpAnyH_ready (rs := [28]) (by kernel_rfl) (by simp) ?_
      refine AllReadyH.cons (o := ⟨_, _, _, _, _, _⟩) rfl (fun F hF => ?_) AllReadyH.nil
      go_simp
      refine (refBefore_any p.1 pk.1 p.2 pk.2 W3 (by obtain ⟨A, c, e⟩ := HVp.out; exact ⟨A, _, c, e⟩) (by obtain ⟨A, c, e⟩ := HVk.out; exact ⟨A, _, c, e⟩)).mono ?_
      rintro e2 w5 ⟨rfl, hb5⟩
      have H5 := zH (H3.out.adv hb5)
      clear hb5 hHeld
      go_wp2_with fail
      refine hF.out _ _ H5.out (fun hHeld => ?_)
      clear hF F
      try simp only [Act.put, zA, zB, zC]
      obtain ⟨bq, hbq⟩ : ∃ bq, before pk.1 p.1 = bq := ⟨_, rfl⟩
      have HBq := zH hbq
      rw [hbq]
      clear hbq
      cases bq with
      |false =>
       refine tk 29 (v := ?_) ?_ ?_
       rotate_left 1
       ·intro W hSw
        skip
        clear hSw
        go_simp
        try with_reducible rfl
       try dsimp only [zS, zB, zC]
       refine tk 30 (v := ?_) ?_ ?_
       rotate_left 1
       ·intro W hSw
        skip
        clear hSw
        go_simp
        try with_reducible rfl
       try dsimp only [zS, zB, zC]
       refine wpAnyH_done (by kernel_rfl) ?_ _
       refine NoPanic.normal ?_
       go_wp2_with fail
       go_roundw
       case rel => exact ⟨m + 1, (m : Int), by omega, by go_num, rfl, HF1.out.better HK.out HP.out HQ.out HBq.out, hHeld⟩
       case measure => simp [intOf]; omega
      |true =>
       refine tk 29 (v := ?_) ?_ ?_
       rotate_left 1
       ·intro W hSw
        skip
        clear hSw
        go_simp
        try with_reducible rfl
       try dsimp only [zS, zB, zC]
       refine tk 30 (v := ?_) ?_ ?_
       rotate_left 1
       ·intro W hSw
        skip
        clear hSw
        go_simp
        try with_reducible rfl
       try dsimp only [zS, zB, zC]
       refine wpAnyH_done (by kernel_rfl) ?_ _
       refine NoPanic.normal ?_
       go_wp2_with fail
       go_roundw
       case rel => exact ⟨m + 1, (k : Int), by omega, by go_num, rfl, HF1.out.stays HK.out HP.out HBq.out, hHeld⟩
       case measure => simp [intOf]; omega
   ·obtain rfl : m = ps1.length := by omega
    clear hf hg
    have HE := zH (HI.out.adv HG.out.below)
    rcases HF1.out with ⟨hf1, hf2⟩ | ⟨k, pk, hk1, hk2, hk3, hk4, hk5⟩
    ·subst hf1
     have hnd : ∀ e ∈ s1.L, dueP e.dl t = false := fun e he => by
      rw [← HI.out.k.map] at he
      obtain ⟨p, hp, rfl⟩ := List.mem_map.1 he
      obtain ⟨j, hj⟩ := List.getElem?_of_mem hp
      exact hf2 j p (List.getElem?_eq_some_iff.1 hj).1 hj
     have HStr : Hid (stripP (dueE s t) (xs.map Prod.fst) = some (xs1.map Prod.fst)) := zH (by
      rw [← HI.out.str, dueE_eq, dueL_none hnd]; rfl)
     have HSt : Hid (({ expireP s t with now := s.now } : PJ) = s1) := zH (by
      rw [← HI.out.exp, ← HI.out.now, expire_none hnd])
     clear hf2 hnd
     go_wp2_with fail
     refine (kNone_any Bv _ xs1 wr HE.out.ev).mono ?_
     rintro e2 w4 ⟨rfl, hw4⟩
     subst hw4
     go_wp2_with fail
     refine bodyPost_ret (v := .tuple #[.slice LA1 xs1.length lc1, .bool (noExp (xs1.map Prod.fst))]) (by simp [results, Tryz.results28, go_sem]) rfl ?_
     refine ⟨_, _, rfl, HE.out.only, fun h => (by rw [HStr.out] at h; cases h), fun l1 h => ?_⟩
     rw [HStr.out] at h
     cases h
     exact ⟨rfl, xs1, _, _, ps1, rfl, HE.out.ev, by rw [HSt.out]; exact HE.out.k, HI.out.pn⟩
    ·subst hk1
     have hkI : (k : Int) < (ps1.length : Int) := by omega
     have hk0 : ¬ (k : Int) < 0 := by omega
     have HK := zH hk3
     have hxL : pk.1 ∈ s1.L := by rw [← HI.out.k.map]; exact List.mem_map_of_mem (List.mem_of_getElem? hk3)
     have HDl : Hid (dueL s1.L t = pk.1 :: dueL (s1.L.filter fun e => decide (e.birth ≠ pk.1.birth)) t) := zH (dueL_first HI.out.asc hxL hk4 (fun e he hd => by
      rw [← HI.out.k.map] at he
      obtain ⟨p, hp, rfl⟩ := List.mem_map.1 he
      obtain ⟨j, hj⟩ := List.getElem?_of_mem hp
      exact hk5 j p (List.getElem?_eq_some_iff.1 hj).1 hj hd))
     have HXp : Hid (expireP (goneP s1 pk.1.birth) t = expireP s t) := zH (by rw [expire_gone HI.out.asc hxL hk4]; exact HI.out.exp)
     obtain ⟨gL, rfl⟩ : ∃ gL, LA = some ⟨gL, 0, none⟩ := by
      rcases HE.out.k.L.2 with ⟨_, h0⟩ | ⟨q, c, cur, eq, _⟩
      ·omega
      ·injection eq with eq _ _
       exact ⟨q, eq⟩
     have HVk := zH (HE.out.k.vals pk (List.mem_of_getElem? hk3)).form
     have hb1 := HE.out.ev
     clear hk2 hk3 hk4 hk5 hxL
     have HL1 : Hid (∀ y ys, xs1 = y :: ys → True) := zH (fun _ _ _ => trivial)
     go_wp2_with fail
     refine wp_region_noPanic ?_
     refine wp_region_held_drew (S := fun W => ExI w W B Bv g pv s t xs ps.length (.slice LA1 xs1.length lc1) (.slice (some ⟨gL, 0, none⟩) ps1.length lc) vU1 s1 ps1 xs1) (by kernel_rfl) (HE.out.adv (zL _ _).drew) (fun hHeld => ?_)
     obtain ⟨W3, hW3⟩ : ∃ W3, wr.drew = W3 := ⟨_, rfl⟩
     rw [hW3] at hHeld ⊢
     have H3 := zH hHeld
     clear hW3 hb1 HL1
     cases xs1 with
     |nil =>
      have HStr : Hid (stripP (dueE s t) (xs.map Prod.fst) = none) := zH (by
       rw [← HI.out.str, dueE_eq, HDl.out]; rfl)
      refine tk 0 (v := ?_) ?_ ?_
      rotate_left 1
      ·intro W hSw
       skip
       clear hSw
       go_simp
       try with_reducible rfl
      try dsimp only [zS, zB, zC]
      refine tk 1 (v := ?_) ?_ ?_
      rotate_left 1
      ·intro W hSw
       skip
       clear hSw
       go_simp
       try with_reducible rfl
      try dsimp only [zS, zB, zC]
      refine tk 2 (v := ?_) ?_ ?_
      rotate_left 1
      ·intro W hSw
       skip
       clear hSw
       go_simp
       try with_reducible rfl
      try dsimp only [zS, zB, zC]
      refine tk 3 (v := ?_) ?_ ?_
      rotate_left 1
      ·intro W hSw
       skip
       clear hSw
       go_simp
       try with_reducible rfl
      try dsimp only [zS, zB, zC]
      refine sk 4 ?_
      try dsimp only [zS, zB, zC]
      refine sk 5 ?_
      try dsimp only [zS, zB, zC]
      refine sk 6 ?_
      try dsimp only [zS, zB, zC]
      refine sk 7 ?_
      try dsimp only [zS, zB, zC]
      refine sk 8 ?_
      try dsimp only [zS, zB, zC]
      refine sk 9 ?_
      try dsimp only [zS, zB, zC]
      refine sk 10 ?_
      try dsimp only [zS, zB, zC]
      refine sk 11 ?_
      try dsimp only [zS, zB, zC]
      refine sk 12 ?_
      try dsimp only [zS, zB, zC]
      refine sk 13 ?_
      try dsimp only [zS, zB, zC]
      refine sk 14 ?_
      try dsimp only [zS, zB, zC]
      refine sk 15 ?_
      try dsimp only [zS, zB, zC]
      refine sk 16 ?_
      try dsimp only [zS, zB, zC]
      refine sk 17 ?_
      try dsimp only [zS, zB, zC]
      refine tk 18 (v := ?_) ?_ ?_
      rotate_left 1
      ·intro W hSw
       skip
       clear hSw
       go_simp
       try with_reducible rfl
      try dsimp only [zS, zB, zC]
      refine wpAnyH_done (by kernel_rfl) ?_ _
      refine NoPanic.normal ?_
      go_wp2_with fail
      refine bodyPost_ret (v := .tuple #[.slice none 0 0, .bool false]) (by simp [results, Tryz.results28, go_sem]) rfl ?_
      exact ⟨_, _, rfl, hHeld.only, fun _ => rfl, fun l1 h => (by rw [HStr.out] at h; cases h)⟩
     |cons y ys =>
      obtain ⟨y, V⟩ := y
      have HVy := zH (H3.out.ev.vals (y, V) (List.mem_cons_self ..)).form
      obtain ⟨qe, offe, hA1, -⟩ := H3.out.ev.at_ (i := 0) (p := (y, V)) rfl
      subst hA1
      have hl0 : ¬ ((((y, V) :: ys : List (EvV × Value)).length : Int) == 0) = true := by simp; omega
      have hl1 : (0 : Int) < (((y, V) :: ys : List (EvV × Value)).length : Int) := by rw [List.length_cons]; omega
      refine tk 0 (v := ?_) ?_ ?_
      rotate_left 1
      ·intro W hSw
       skip
       clear hSw
       go_simp
       try with_reducible rfl
      try dsimp only [zS, zB, zC]
      refine tk 1 (v := ?_) ?_ ?_
      rotate_left 1
      ·intro W hSw
       skip
       clear hSw
       go_simp
       try with_reducible rfl
      try dsimp only [zS, zB, zC]
      refine tk 2 (v := ?_) ?_ ?_
      rotate_left 1
      ·intro W hSw
       skip
       clear hSw
       go_simp
       try with_reducible rfl
      try dsimp only [zS, zB, zC]
      refine tk 3 (v := ?_) ?_ ?_
      rotate_left 1
      ·intro W hSw
       skip
       clear hSw
       go_simp
       try with_reducible rfl
      try dsimp only [zS, zB, zC]
      refine tk 4 (v := ?_) ?_ ?_
      rotate_left 1
      ·intro W hSw
       have x7 : W.cell? ⟨g, 7, none⟩ = some (.slice (some ⟨gL, 0, none⟩) ps1.length lc) := hSw.k.cell 7 (by omega); obtain ⟨z0, z1, z2, z3⟩ := hSw.k.entAt HK.out; obtain ⟨_, _, hEq, -, c0, c1, c2, c3, c4, c5⟩ := hSw.ev.at_ (i := 0) (p := (y, V)) rfl; cases hEq; simp only [Nat.zero_mul, Nat.add_zero] at c0 c1 c2 c3 c4 c5
       clear hSw
       go_simp
       try with_reducible rfl
      try dsimp only [zS, zB, zC]
      refine tk 5 (v := ?_) ?_ ?_
      rotate_left 1
      ·intro W hSw
       have x7 : W.cell? ⟨g, 7, none⟩ = some (.slice (some ⟨gL, 0, none⟩) ps1.length lc) := hSw.k.cell 7 (by omega); obtain ⟨z0, z1, z2, z3⟩ := hSw.k.entAt HK.out; obtain ⟨_, _, hEq, -, c0, c1, c2, c3, c4, c5⟩ := hSw.ev.at_ (i := 0) (p := (y, V)) rfl; cases hEq; simp only [Nat.zero_mul, Nat.add_zero] at c0 c1 c2 c3 c4 c5
       clear hSw
       go_simp
       try with_reducible rfl
      try dsimp only [zS, zB, zC]
      refine tk 6 (v := ?_) ?_ ?_
      rotate_left 1
      ·intro W hSw
       have x7 : W.cell? ⟨g, 7, none⟩ = some (.slice (some ⟨gL, 0, none⟩) ps1.length lc) := hSw.k.cell 7 (by omega); obtain ⟨z0, z1, z2, z3⟩ := hSw.k.entAt HK.out; obtain ⟨_, _, hEq, -, c0, c1, c2, c3, c4, c5⟩ := hSw.ev.at_ (i := 0) (p := (y, V)) rfl; cases hEq; simp only [Nat.zero_mul, Nat.add_zero] at c0 c1 c2 c3 c4 c5
       clear hSw
       go_simp
       try with_reducible rfl
      try dsimp only [zS, zB, zC]
      refine tk 7 (v := ?_) ?_ ?_
      rotate_left 1
      ·intro W hSw
       have x7 : W.cell? ⟨g, 7, none⟩ = some (.slice (some ⟨gL, 0, none⟩) ps1.length lc) := hSw.k.cell 7 (by omega); obtain ⟨z0, z1, z2, z3⟩ := hSw.k.entAt HK.out; obtain ⟨_, _, hEq, -, c0, c1, c2, c3, c4, c5⟩ := hSw.ev.at_ (i := 0) (p := (y, V)) rfl; cases hEq; simp only [Nat.zero_mul, Nat.add_zero] at c0 c1 c2 c3 c4 c5
       clear hSw
       go_simp
       try with_reducible rfl
      try dsimp only [zS, zB, zC]
      refine tk 8 (v := ?_) ?_ ?_
      rotate_left 1
      ·intro W hSw
       have x7 : W.cell? ⟨g, 7, none⟩ = some (.slice (some ⟨gL, 0, none⟩) ps1.length lc) := hSw.k.cell 7 (by omega); obtain ⟨z0, z1, z2, z3⟩ := hSw.k.entAt HK.out; obtain ⟨_, _, hEq, -, c0, c1, c2, c3, c4, c5⟩ := hSw.ev.at_ (i := 0) (p := (y, V)) rfl; cases hEq; simp only [Nat.zero_mul, Nat.add_zero] at c0 c1 c2 c3 c4 c5
       clear hSw
       go_simp
       try with_reducible rfl
      try dsimp only [zS, zB, zC]
      refine tk 9 (v := ?_) ?_ ?_
      rotate_left 1
      ·intro W hSw
       have x7 : W.cell? ⟨g, 7, none⟩ = some (.slice (some ⟨gL, 0, none⟩) ps1.length lc) := hSw.k.cell 7 (by omega); obtain ⟨z0, z1, z2, z3⟩ := hSw.k.entAt HK.out; obtain ⟨_, _, hEq, -, c0, c1, c2, c3, c4, c5⟩ := hSw.ev.at_ (i := 0) (p := (y, V)) rfl; cases hEq; simp only [Nat.zero_mul, Nat.add_zero] at c0 c1 c2 c3 c4 c5
       clear hSw
       go_simp
       try with_reducible rfl
      try dsimp only [zS, zB, zC]
      refine tk 10 (v := ?_) ?_ ?_
      rotate_left 1
      ·intro W hSw
       have x7 : W.cell? ⟨g, 7, none⟩ = some (.slice (some ⟨gL, 0, none⟩) ps1.length lc) := hSw.k.cell 7 (by omega); obtain ⟨z0, z1, z2, z3⟩ := hSw.k.entAt HK.out; obtain ⟨_, _, hEq, -, c0, c1, c2, c3, c4, c5⟩ := hSw.ev.at_ (i := 0) (p := (y, V)) rfl; cases hEq; simp only [Nat.zero_mul, Nat.add_zero] at c0 c1 c2 c3 c4 c5
       clear hSw
       go_simp
       try with_reducible rfl
      try dsimp only [zS, zB, zC]
      refine tk 11 (v := ?_) ?_ ?_
      rotate_left 1
      ·intro W hSw
       have x7 : W.cell? ⟨g, 7, none⟩ = some (.slice (some ⟨gL, 0, none⟩) ps1.length lc) := hSw.k.cell 7 (by omega); obtain ⟨z0, z1, z2, z3⟩ := hSw.k.entAt HK.out; obtain ⟨_, _, hEq, -, c0, c1, c2, c3, c4, c5⟩ := hSw.ev.at_ (i := 0) (p := (y, V)) rfl; cases hEq; simp only [Nat.zero_mul, Nat.add_zero] at c0 c1 c2 c3 c4 c5
       clear hSw
       go_simp
       try with_reducible rfl
      try dsimp only [zS, zB, zC]
      refine tk 12 (v := ?_) ?_ ?_
      rotate_left 1
      ·intro W hSw
       have x7 : W.cell? ⟨g, 7, none⟩ = some (.slice (some ⟨gL, 0, none⟩) ps1.length lc) := hSw.k.cell 7 (by omega); obtain ⟨z0, z1, z2, z3⟩ := hSw.k.entAt HK.out; obtain ⟨_, _, hEq, -, c0, c1, c2, c3, c4, c5⟩ := hSw.ev.at_ (i := 0) (p := (y, V)) rfl; cases hEq; simp only [Nat.zero_mul, Nat.add_zero] at c0 c1 c2 c3 c4 c5
       clear hSw
       go_simp
       try with_reducible rfl
      try dsimp only [zS, zB, zC]
      refine tk 13 (v := ?_) ?_ ?_
      rotate_left 1
      ·intro W hSw
       have x7 : W.cell? ⟨g, 7, none⟩ = some (.slice (some ⟨gL, 0, none⟩) ps1.length lc) := hSw.k.cell 7 (by omega); obtain ⟨z0, z1, z2, z3⟩ := hSw.k.entAt HK.out; obtain ⟨_, _, hEq, -, c0, c1, c2, c3, c4, c5⟩ := hSw.ev.at_ (i := 0) (p := (y, V)) rfl; cases hEq; simp only [Nat.zero_mul, Nat.add_zero] at c0 c1 c2 c3 c4 c5
       clear hSw
       go_simp
       try with_reducible rfl
      try dsimp only [zS, zB, zC]
      refine tk 14 (v := ?_) ?_ ?_
      rotate_left 1
      ·intro W hSw
       have x7 : W.cell? ⟨g, 7, none⟩ = some (.slice (some ⟨gL, 0, none⟩) ps1.length lc) := hSw.k.cell 7 (by omega); obtain ⟨z0, z1, z2, z3⟩ := hSw.k.entAt HK.out; obtain ⟨_, _, hEq, -, c0, c1, c2, c3, c4, c5⟩ := hSw.ev.at_ (i := 0) (p := (y, V)) rfl; cases hEq; simp only [Nat.zero_mul, Nat.add_zero] at c0 c1 c2 c3 c4 c5
       clear hSw
       go_simp
       try with_reducible rfl
      try dsimp only [zS, zB, zC]
      obtain ⟨VA, vc, hVk⟩ := HVk.out
      obtain ⟨YA, yc, hVy⟩ := HVy.out
      dsimp only at hVy
      subst hVy
      refine wpAnyH_ready (rs := [15]) (by kernel_rfl) (by simp) ?_
      refine AllReadyH.cons (o := ⟨_, _, _, _, _, _⟩) rfl (fun F hF => ?_) AllReadyH.nil
      go_simp
      rw [if_neg (show ¬ ((ys.length : Int) + 1 = 0) by omega)]
      refine (kEvent_any 1 pk.1 VA pk.1.val.length vc t W3).mono ?_
      rintro e2 w5 ⟨rfl, hb5⟩
      have H5 := zH (H3.out.adv hb5)
      clear hb5 hHeld
      go_wp2_with fail
      refine hF.out _ _ H5.out (fun hHeld => ?_)
      clear hF F
      try simp only [Act.put, zA, zB, zC]
      refine wpAnyH_ready (rs := [16]) (by kernel_rfl) (by simp) ?_
      refine AllReadyH.cons (o := ⟨_, _, _, _, _, _⟩) rfl (fun F hF => ?_) AllReadyH.nil
      go_simp
      have hV5 := H5.out.k.vals pk (List.mem_of_getElem? HK.out)
      rw [hVk] at hV5
      refine (kSame_any Bv B y (eventP 1 pk.1 t) _ _ w5 (H5.out.ev.vals _ (List.mem_cons_self ..)) hV5).mono ?_
      rintro e2 w6 ⟨rfl, hb6⟩
      have H6 := zH (H5.out.adv hb6)
      clear hb6 hHeld hV5
      go_wp2_with fail
      refine hF.out _ _ H6.out (fun hHeld => ?_)
      clear hF F
      try simp only [Act.put, zA, zB, zC]
      by_cases hye : y = eventP 1 pk.1 t
      ·have hyd : decide (y = eventP 1 pk.1 t) = true := decide_eq_true hye
       rw [hyd]
       have HStr : Hid (stripP (dueE s t) (xs.map Prod.fst) = stripP (dueE (goneP s1 pk.1.birth) t) (ys.map Prod.fst)) := zH (by
        rw [← HI.out.str, dueE_eq, HDl.out, dueE_eq]
        exact strip_eq hye _ _)
       clear hye hyd
       refine tk 17 (v := ?_) ?_ ?_
       rotate_left 1
       ·intro W hSw
        skip
        clear hSw
        go_simp
        try with_reducible rfl
       try dsimp only [zS, zB, zC]
       refine tk 18 (v := ?_) ?_ ?_
       rotate_left 1
       ·intro W hSw
        skip
        clear hSw
        go_simp
        try with_reducible rfl
       try dsimp only [zS, zB, zC]
       refine wpAnyH_done (by kernel_rfl) ?_ _
       refine NoPanic.normal ?_
       have HT : Hid (EvsAt w6 Bv (.slice (if lc1 = 1 then some ⟨qe, offe, none⟩ else some ⟨qe, offe + 6, none⟩) ys.length (lc1 - 1)) ys) := zH (by
        obtain ⟨b', off', e1, e2, e3, e4⟩ := H6.out.ev.tail
        cases e1
        exact e4)
       have HG7 := zH (kGone_any B g _ _ pv s1 ps1 k pk w6 H6.out.k HK.out (Nat.le_trans H6.out.pn HN.out) H6.out.un (Nat.le_trans HBs.out H6.out.only.size) H6.out.asc)
       clear hHeld
       by_cases hc1 : lc1 = 1
       ·have HT1 : Hid (EvsAt w6 Bv (.slice (some ⟨qe, offe, none⟩) ys.length 0) ys) := zH (by have := HT.out; rw [hc1] at this; exact this)
        go_wp2_with fail
        refine HG7.out.mono ?_
        rintro e2 w7 ⟨vL', vU', rfl, hk7, hon7⟩
        have HI7 := zH (ExI.next H6.out hk7 hon7 HT1.out HXp.out HStr.out.symm HBv.out HgB.out)
        clear hk7 hon7
        go_wp2_with fail
        go_roundw
        case rel => exact ⟨_, _, _, _, _, HI7.out⟩
        case measure => simp [sLen]
       ·have HT1 : Hid (EvsAt w6 Bv (.slice (some ⟨qe, offe + 6, none⟩) ys.length (lc1 - 1)) ys) := zH (by have := HT.out; rwa [if_neg hc1] at this)
        go_wp2_with fail
        refine HG7.out.mono ?_
        rintro e2 w7 ⟨vL', vU', rfl, hk7, hon7⟩
        have HI7 := zH (ExI.next H6.out hk7 hon7 HT1.out HXp.out HStr.out.symm HBv.out HgB.out)
        clear hk7 hon7
        go_wp2_with fail
        go_roundw
        case rel => exact ⟨_, _, _, _, _, HI7.out⟩
        case measure => simp [sLen]
      ·have hyd : decide (y = eventP 1 pk.1 t) = false := decide_eq_false hye
       rw [hyd]
       have HStr : Hid (stripP (dueE s t) (xs.map Prod.fst) = none) := zH (by
        rw [← HI.out.str, dueE_eq, HDl.out]
        exact strip_ne hye _ _)
       clear hye hyd
       refine tk 17 (v := ?_) ?_ ?_
       rotate_left 1
       ·intro W hSw
        skip
        clear hSw
        go_simp
        try with_reducible rfl
       try dsimp only [zS, zB, zC]
       refine tk 18 (v := ?_) ?_ ?_
       rotate_left 1
       ·intro W hSw
        skip
        clear hSw
        go_simp
        try with_reducible rfl
       try dsimp only [zS, zB, zC]
       refine wpAnyH_done (by kernel_rfl) ?_ _
       refine NoPanic.normal ?_
       go_wp2_with fail
       refine bodyPost_ret (v := .tuple #[.slice none 0 0, .bool false]) (by simp [results, Tryz.results28, go_sem]) rfl ?_
       exact ⟨_, _, rfl, hHeld.only, fun _ => rfl, fun l1 h => (by rw [HStr.out] at h; cases h)⟩
end Go.Proofs.YtnabbimompapfaaGreat
namespace Go.Proofs.YtnabbimompapfaaGreat
open Go Go.RowKit
def evcs (xs : List (EvV × Value)) : List Value := xs.flatMap fun p => (evc p.1 p.2).toList
theorem evcs_length (xs : List (EvV × Value)) : (evcs xs).length = xs.length * 6 := by
 induction xs with
 |nil => rfl
 |cons p xs ih =>
  have : (evcs (p :: xs)).length = 6 + (evcs xs).length := by simp [evcs, evc]; omega
  rw [this, ih, List.length_cons]; omega
theorem evcs_append (xs ys : List (EvV × Value)) : evcs (xs ++ ys) = evcs xs ++ evcs ys := by simp [evcs]
theorem evcs_one1 (x : EvV) (V : Value) : evcs [(x, V)] = [.int .i64 x.kind, .string x.key, V, .int .u64 x.birth, .int .u64 x.dl, .int .u64 x.at_] := by simp [evcs, evc]
theorem evcs_at : ∀ (xs : List (EvV × Value)) (i j : Nat) (p : EvV × Value), xs[i]? = some p → j < 6 → (evcs xs)[i * 6 + j]? = (evc p.1 p.2)[j]?
 |[], i, j, p, h, _ => by simp at h
 |q :: xs, 0, j, p, h, hj => by
  have e : q = p := by simpa using h
  subst e
  show ((evc q.1 q.2).toList ++ evcs xs)[0 * 6 + j]? = _
  rw [List.getElem?_append_left (by simp [evc]; omega)]
  simp
 |q :: xs, i + 1, j, p, h, hj => by
  show ((evc q.1 q.2).toList ++ evcs xs)[(i + 1) * 6 + j]? = _
  rw [List.getElem?_append_right (by simp [evc]; omega)]
  have e2 : (i + 1) * 6 + j - (evc q.1 q.2).toList.length = i * 6 + j := by simp [evc]; omega
  rw [e2]
  exact evcs_at xs i j p (by simpa using h) hj
theorem Bts.up2 {w : World} {B B' U : Nat} {v : Value} {bs : List UInt8} (h : Bts w B U v bs) (hB : B ≤ B') : Bts w B' U v bs := by
 obtain ⟨A, cap, h1, h2, h3, h4, h5⟩ := h
 refine ⟨A, cap, h1, h2, h3, h4, fun h0 => ?_⟩
 obtain ⟨b, off, e1, e2, e3, e4⟩ := h5 h0
 exact ⟨b, off, e1, e2, e3.imp (fun h => by omega) (fun h => h), e4⟩
theorem EvsAt.of_own {w : World} {base B : Nat} {v : Value} {xs : List (EvV × Value)} (h : w.ownsRow base 49 6 v xs.length (evcs xs)) (hB : w.heap.size ≤ B) (hv : ∀ p ∈ xs, Bts w B 5 p.2 p.1.val) : EvsAt w B v xs := by
 refine ⟨?_, hv⟩
 obtain ⟨A, cap, rfl, h1, h2⟩ := own_form h
 rcases h.2 with ⟨e, h0⟩ | ⟨g, cap', cur, e, hg, hh, _⟩
 ·injection e with e1 e2 e3
  exact ⟨A, cap, rfl, h1, h2, fun _ => h0, fun h => by omega⟩
 ·injection e with e1 e2 e3
  subst e1
  refine ⟨_, cap, rfl, h1, h2, (fun h => by cases h), fun h0 => ⟨g, 0, rfl, ⟨lt_of_heap hh, Nat.lt_of_lt_of_le (lt_of_heap hh) hB⟩, fun i p hi j u hu => ?_⟩⟩
  have hj : j < 6 := by have := (Array.getElem?_eq_some_iff.1 hu).1; simpa [evc] using this
  have := h.cells (g := g) rfl (i * 6 + j) u ((evcs_at xs i j p hi hj).trans hu)
  rw [add_plain] at this
  exact this
theorem idx_find {ps : List (EntV × Value)} {L : List EntV} (h : ps.map Prod.fst = L) (k : ByteArray) :
  (findP L k = none ∧ idxI (fun p : EntV × Value => decide (p.1.key = k)) ps = -1) ∨ ∃ (j : Nat) (p : EntV × Value), ps[j]? = some p ∧ findP L k = some p.1 ∧ idxI (fun p : EntV × Value => decide (p.1.key = k)) ps = (j : Int) ∧ p.1.key = k := by
 subst h
 unfold findP
 rw [List.find?_map]
 have e : (ps.find? ((fun e : EntV => decide (e.key = k)) ∘ Prod.fst)) = ps.find? (fun p => decide (p.1.key = k)) := rfl
 rw [e]
 cases hf : ps.findIdx? (fun p : EntV × Value => decide (p.1.key = k)) with
 |none =>
  left
  refine ⟨?_, by unfold idxI; rw [hf]⟩
  have := List.findIdx?_eq_none_iff.1 hf
  rw [List.find?_eq_none.2 (fun x hx => by rw [this x hx]; decide)]; rfl
 |some j =>
  right
  obtain ⟨hl, hp, hj⟩ := List.findIdx?_eq_some_iff_getElem.1 hf
  refine ⟨j, ps[j], List.getElem?_eq_getElem hl, ?_, by unfold idxI; rw [hf], by simpa using hp⟩
  have : ps.find? (fun p : EntV × Value => decide (p.1.key = k)) = some ps[j] := by
   rw [List.find?_eq_some_iff_getElem]
   exact ⟨hp, j, hl, rfl, fun k hk => by have := hj k hk; simpa using this⟩
  rw [this]; rfl
theorem evI_info : (Tryz.prog.info? 49).map (fun i => (i.zero, i.size, i.bytes)) = some (some (.agg #[.int .i64 0, .string ⟨#[]⟩, .slice none 0 0, .int .u64 0, .int .u64 0, .int .u64 0]), 6, 72) := by kernel_rfl
theorem src_ev (w : World) (x : EvV) (V : Value) : Src (w.alloc (.cells #[.int .i64 x.kind, .string x.key, V, .int .u64 x.birth, .int .u64 x.dl, .int .u64 x.at_] 49)) 6 (some ⟨w.heap.size, 0, none⟩) 1 (evcs [(x, V)]) := by
 refine ⟨by rw [evcs_one1]; rfl, (fun h => by cases h), fun a ha j v hu => ?_⟩
 cases ha
 rw [add_plain, Nat.zero_add]
 refine (Blk.new w _ _).cell j v ?_
 rw [evcs_one1] at hu
 simpa using hu
theorem evcs_cell (xs : List (EvV × Value)) (h : ∀ p ∈ xs, ∃ A n c, p.2 = .slice A n c) : ∀ u ∈ evcs xs, u.oneCell' = true := by
 intro u hu
 simp only [evcs, List.mem_flatMap] at hu
 obtain ⟨p, hp, hu⟩ := hu
 obtain ⟨A, n, c, e⟩ := h p hp
 simp only [evc, e, List.mem_cons, List.not_mem_nil, or_false] at hu
 rcases hu with rfl | rfl | rfl | rfl | rfl | rfl <;> rfl
def OwnEv (s : PJ) (o : OpV) (w : World) (e : Ending) (w' : World) : Prop :=
 ∃ v xs, e = .returned v ∧ EvsAt w' w'.heap.size v xs ∧ xs.map Prod.fst = ownE s o ∧ Below w.heap.size w w'
theorem OwnEv.nil {s : PJ} {o : OpV} {w w' : World} (hb : Below w.heap.size w w') (h : ownE s o = []) : OwnEv s o w (.returned (.slice none 0 0)) w' :=
 ⟨_, [], rfl, ⟨⟨none, 0, rfl, zN _, Nat.zero_le _, fun _ => rfl, fun h => by simp at h⟩, by simp⟩, by rw [h]; rfl, hb⟩
theorem below_grown1 {w w' : World} {o : Obj} (hg : (w.alloc o).grownBy w' none) : Below w.heap.size w w' :=
 ((zL _ _).alloc (zN _) _).grown hg (by simp) (fun k hk => by cases hk)
def evsOf (k t : Int) (ps : List (EntV × Value)) : List (EvV × Value) := ps.map fun p => (eventP k p.1 t, p.2)
theorem evsOf_append (k t : Int) (ps qs : List (EntV × Value)) : evsOf k t (ps ++ qs) = evsOf k t ps ++ evsOf k t qs := by simp [evsOf]
set_option maxHeartbeats 4000000 in
set_option maxRecDepth 100000 in
theorem kOwn_any (B g : Nat) (vL vU : Value) (pv : Nat → Int) (s : PJ) (ps : List (EntV × Value)) (o : OpV) (A : Option Addr) (n c : Nat) (w : World) (h : KRep w B g vL vU pv s ps) (hn : ps.length ≤ 100000) (hB : B ≤ w.heap.size) :
  Calls Tryz.prog 29 #[.pointer (some ⟨g, 0, none⟩), opv o (.slice A n c), .int .u64 s.now] w (OwnEv s o w) := by
 obtain ⟨i0, hi0, hz0, hz1, hz2⟩ := info_parts evI_info
 have HFi := zH (fun ob => kFind_any B g vL vU pv s ps o.key (w.alloc ob) (h.below ((zL _ _).alloc (zN _) _)) hn)
 have HX : Hid (RtX w (w.alloc (.cells (opc o (.slice A n c)) 43)) B g vL vU pv s ps o (.slice A n c)) := zH ⟨h.below ((zL _ _).alloc (zN _) _), Blk.new _ _ _, (zL _ _).alloc (zN _) _⟩
 have HIx := zH (idx_find h.map o.key)
 unfold opv
 unfold opc at HX ⊢
 have HH := zH h
 have HBs := zH hB
 have hnI : (ps.length : Int) ≤ 100000 := by omega
 obtain ⟨LA, lc, rfl, hlc, _⟩ := own_form h.L
 have hlcI : (ps.length : Int) ≤ (lc : Int) := by omega
 have HN := zH hn
 clear h hB hn hlc
 obtain ⟨i, hi⟩ : ∃ i, idxI (fun p : EntV × Value => decide (p.1.key = o.key)) ps = i := ⟨_, rfl⟩
 rw [hi] at HFi HIx
 clear hi
 by_cases k7 : o.kind = 7
 ·have HS := zH (show ownE s o = s.L.map fun e => eventP 5 e s.now by unfold ownE; rw [if_pos k7])
  have q1 : (o.kind == 1) = false := by simp [k7]
  have q2 : (o.kind == 2) = false := by simp [k7]
  have q6 : (o.kind == 6) = false := by simp [k7]
  have q7 : (o.kind == 7) = true := by simp [k7]
  clear k7
  go_enter Tryz.func29, Tryz.ntmps29
  go_wp2_with fail
  refine (HFi.out _).mono ?_
  rintro e w1 ⟨rfl, hw⟩
  subst hw
  obtain ⟨W0, hW0⟩ : ∃ W0, w.alloc (.cells #[.int .i64 o.kind, .int .u64 o.ticks, .string o.key, .slice A n c, .int .u64 o.ttl, .int .i64 o.count, .int .i64 o.bytes, .int .i64 o.cursor, .int .u64 o.birth] 43) = W0 := ⟨_, rfl⟩
  rw [hW0] at HX ⊢
  clear hW0 HFi HIx
  obtain ⟨z0, z2, z3, z4, z7⟩ := op_cells' HX.out.box
  have x7 : W0.cell? ⟨g, 7, none⟩ = some (.slice LA ps.length lc) := HX.out.k.cell 7 (by omega)
  go_wp2_with fail
  clear x7 z0 z2 z3 z4 z7
  go_loopw [7, 9] (fun v i wr => ∃ m : Nat, m ≤ ps.length ∧ i = .int .i64 m ∧ wr.ownsRow w.heap.size 49 6 v m (evcs (evsOf 5 s.now (ps.take m))) ∧ Below w.heap.size w wr) (fun _ i _ => ps.length - (intOf i).toNat)
  case atStart => exact ⟨0, by omega, rfl, World.ownsRow_nil _ _ _ _, HX.out.below⟩
  case round =>
   obtain ⟨m, hm, rfl, hown, hbl⟩ := hrel
   have hx := HH.out.below hbl
   have x7 : World.cell? wr ⟨g, 7, none⟩ = some (.slice LA ps.length lc) := hx.cell 7 (by omega)
   have HW := zH hown
   have HBl := zH hbl
   obtain ⟨OA, oc, rfl, _, _⟩ := own_form hown
   by_cases hml : m < ps.length
   ·obtain ⟨⟨ev, V⟩, hj⟩ : ∃ p, ps[m]? = some p := ⟨_, List.getElem?_eq_getElem hml⟩
    obtain ⟨VA, vc, hV⟩ := (hx.vals _ (List.mem_of_getElem? hj)).form
    dsimp only at hV
    subst hV
    have HJ := zH hj
    have hj0 : (0 : Int) ≤ (m : Int) := by omega
    have hjI : (m : Int) < (ps.length : Int) := by omega
    obtain ⟨gL, rfl⟩ : ∃ gL, LA = some ⟨gL, 0, none⟩ := by
     rcases hx.L.2 with ⟨_, h0⟩ | ⟨q, c, cur, eq, _⟩
     ·omega
     ·injection eq with eq _ _
      exact ⟨q, eq⟩
    obtain ⟨y0, y1, y2, y3⟩ := hx.entAt hj
    dsimp only at y0 y1 y2 y3
    clear hown hx hj hbl
    go_wp2_with fail
    refine (kEvent_any 5 ev VA ev.val.length vc s.now wr).mono ?_
    rintro e w1 ⟨rfl, hb1⟩
    have HB1 := zH (HBl.out.trans (hb1.mono HBl.out.size))
    have HO1 := zH (own_later' HW.out hb1)
    clear hb1 x7 y0 y1 y2 y3
    unfold evv evc eventP
    dsimp only
    go_wp2_with (at_builtin; go_loud (refine wpList_append_src _ rfl _ _ _ rfl w.heap.size 49 i0 _ 6 72 Tryz.underlying44 hi0 hz0 hz1 hz2 rfl (by decide) _ m (evcs (evsOf 5 s.now (ps.take m))) rfl (own_later' HO1.out ((zL _ _).alloc (zN _) _)) (some ⟨w1.heap.size, 0, none⟩) 1 1 (evcs [(eventP 5 ev s.now, .slice VA ev.val.length vc)]) rfl (src_ev w1 (eventP 5 ev s.now) _) (evcs_cell _ (fun p hp => by rw [List.mem_singleton.1 hp]; exact ⟨_, _, _, rfl⟩)) (by have := HN.out; unfold maxLen; omega) (by have := HN.out; omega) (by have := HB1.out.size; simp; omega) ?_; intro v2 w2 hown2 hg2 hat2; have HB2 : Hid (Below w.heap.size w w2) := zH ((HB1.out.alloc HB1.out.size _).grown hg2 (HB1.out.alloc HB1.out.size _).size (fun k hk => (row_heap' HO1.out hk).1)); have HO2 : Hid (w2.ownsRow w.heap.size 49 6 v2 (m + 1) (evcs (evsOf 5 s.now (ps.take (m + 1))))) := zH (by rw [List.take_add_one, HJ.out, Option.toList_some, evsOf_append, evcs_append]; exact hown2); obtain ⟨A2, c2, rfl, _, _⟩ := own_form hown2; clear hown2 hg2 hat2))
    go_roundw
    case rel => exact ⟨m + 1, by omega, by go_num, HO2.out, HB2.out⟩
    case measure => simp [intOf]; omega
   ·obtain rfl : m = ps.length := by omega
    clear hown hx hbl
    go_wp2_with fail
    go_ret
    refine ⟨_, evsOf 5 s.now ps, rfl, EvsAt.of_own (base := w.heap.size) ?_ (zN _) (fun p hp => ?_), ?_, HBl.out⟩
    ·have := HW.out
     rw [List.take_length] at this
     rw [show (evsOf 5 s.now ps).length = ps.length by simp [evsOf]]
     exact this
    ·obtain ⟨q, hq, rfl⟩ := List.mem_map.1 hp
     exact ((HH.out.below HBl.out).vals q hq).up2 (Nat.le_trans HBs.out HBl.out.size)
    ·rw [HS.out, ← HH.out.map]
     simp [evsOf]
 ·rcases HIx.out with ⟨h1, h2⟩ | ⟨j, ⟨ev, V⟩, hj, h1, h2, h3⟩
  ·subst h2
   have HS := zH (show ownE s o = [] by unfold ownE; rw [if_neg k7, h1])
   have q7 : (o.kind == 7) = false := by simp [k7]
   clear h1
   by_cases k1 : o.kind = 1
   ·have q1 : (o.kind == 1) = true := by simp [k1]
    have q2 : (o.kind == 2) = false := by simp [k1]
    have q6 : (o.kind == 6) = false := by simp [k1]
    have q7 : (o.kind == 7) = false := by simp [k1]
    clear k7 k1
    go_enter Tryz.func29, Tryz.ntmps29
    go_wp2_with fail
    refine (HFi.out _).mono ?_
    rintro e w1 ⟨rfl, hw⟩
    subst hw
    obtain ⟨W0, hW0⟩ : ∃ W0, w.alloc (.cells #[.int .i64 o.kind, .int .u64 o.ticks, .string o.key, .slice A n c, .int .u64 o.ttl, .int .i64 o.count, .int .i64 o.bytes, .int .i64 o.cursor, .int .u64 o.birth] 43) = W0 := ⟨_, rfl⟩
    rw [hW0] at HX ⊢
    clear hW0 HFi HIx
    obtain ⟨z0, z2, z3, z4, z7⟩ := op_cells' HX.out.box
    clear HH HBs
    go_wp2_with fail
    go_ret
    exact OwnEv.nil HX.out.below HS.out
   ·by_cases k2 : o.kind = 2
    ·have q1 : (o.kind == 1) = false := by simp [k2]
     have q2 : (o.kind == 2) = true := by simp [k2]
     have q6 : (o.kind == 6) = false := by simp [k2]
     have q7 : (o.kind == 7) = false := by simp [k2]
     clear k7 k1 k2
     go_enter Tryz.func29, Tryz.ntmps29
     go_wp2_with fail
     refine (HFi.out _).mono ?_
     rintro e w1 ⟨rfl, hw⟩
     subst hw
     obtain ⟨W0, hW0⟩ : ∃ W0, w.alloc (.cells #[.int .i64 o.kind, .int .u64 o.ticks, .string o.key, .slice A n c, .int .u64 o.ttl, .int .i64 o.count, .int .i64 o.bytes, .int .i64 o.cursor, .int .u64 o.birth] 43) = W0 := ⟨_, rfl⟩
     rw [hW0] at HX ⊢
     clear hW0 HFi HIx
     obtain ⟨z0, z2, z3, z4, z7⟩ := op_cells' HX.out.box
     clear HH HBs
     go_wp2_with fail
     go_ret
     exact OwnEv.nil HX.out.below HS.out
    ·by_cases k6 : o.kind = 6
     ·have q1 : (o.kind == 1) = false := by simp [k6]
      have q2 : (o.kind == 2) = false := by simp [k6]
      have q6 : (o.kind == 6) = true := by simp [k6]
      have q7 : (o.kind == 7) = false := by simp [k6]
      clear k7 k1 k2 k6
      go_enter Tryz.func29, Tryz.ntmps29
      go_wp2_with fail
      refine (HFi.out _).mono ?_
      rintro e w1 ⟨rfl, hw⟩
      subst hw
      obtain ⟨W0, hW0⟩ : ∃ W0, w.alloc (.cells #[.int .i64 o.kind, .int .u64 o.ticks, .string o.key, .slice A n c, .int .u64 o.ttl, .int .i64 o.count, .int .i64 o.bytes, .int .i64 o.cursor, .int .u64 o.birth] 43) = W0 := ⟨_, rfl⟩
      rw [hW0] at HX ⊢
      clear hW0 HFi HIx
      obtain ⟨z0, z2, z3, z4, z7⟩ := op_cells' HX.out.box
      clear HH HBs
      go_wp2_with fail
      go_ret
      exact OwnEv.nil HX.out.below HS.out
     ·have q1 : (o.kind == 1) = false := by simp [k1]
      have q2 : (o.kind == 2) = false := by simp [k2]
      have q6 : (o.kind == 6) = false := by simp [k6]
      clear k7 k1 k2 k6
      go_enter Tryz.func29, Tryz.ntmps29
      go_wp2_with fail
      refine (HFi.out _).mono ?_
      rintro e w1 ⟨rfl, hw⟩
      subst hw
      obtain ⟨W0, hW0⟩ : ∃ W0, w.alloc (.cells #[.int .i64 o.kind, .int .u64 o.ticks, .string o.key, .slice A n c, .int .u64 o.ttl, .int .i64 o.count, .int .i64 o.bytes, .int .i64 o.cursor, .int .u64 o.birth] 43) = W0 := ⟨_, rfl⟩
      rw [hW0] at HX ⊢
      clear hW0 HFi HIx
      obtain ⟨z0, z2, z3, z4, z7⟩ := op_cells' HX.out.box
      clear HH HBs
      go_wp2_with fail
      go_ret
      exact OwnEv.nil HX.out.below HS.out
  ·subst h2
   have hS : ownE s o = if o.kind = 1 ∨ o.kind = 2 then [eventP 3 ev s.now] else if o.kind = 6 then [eventP 4 ev s.now] else [] := by unfold ownE; rw [if_neg k7, h1]
   obtain ⟨VA, vc, hV⟩ := (HH.out.vals _ (List.mem_of_getElem? hj)).form
   dsimp only at hV
   subst hV
   have HJ := zH hj
   have hj0 : (0 : Int) ≤ (j : Int) := by omega
   have hjI : (j : Int) < (ps.length : Int) := by have := (List.getElem?_eq_some_iff.1 hj).1; omega
   obtain ⟨gL, rfl⟩ : ∃ gL, LA = some ⟨gL, 0, none⟩ := by
    rcases HH.out.L.2 with ⟨_, h0⟩ | ⟨q, c, cur, eq, _⟩
    ·omega
    ·injection eq with eq _ _
     exact ⟨q, eq⟩
   have q7 : (o.kind == 7) = false := by simp [k7]
   clear h1 h3 hj
   by_cases k1 : o.kind = 1
   ·have HS := zH (hS.trans (if_pos (.inl k1)))
    have q1 : (o.kind == 1) = true := by simp [k1]
    have q2 : (o.kind == 2) = false := by simp [k1]
    have q6 : (o.kind == 6) = false := by simp [k1]
    have q7 : (o.kind == 7) = false := by simp [k1]
    clear k7 k1 hS
    go_enter Tryz.func29, Tryz.ntmps29
    go_wp2_with fail
    refine (HFi.out _).mono ?_
    rintro e w1 ⟨rfl, hw⟩
    subst hw
    obtain ⟨W0, hW0⟩ : ∃ W0, w.alloc (.cells #[.int .i64 o.kind, .int .u64 o.ticks, .string o.key, .slice A n c, .int .u64 o.ttl, .int .i64 o.count, .int .i64 o.bytes, .int .i64 o.cursor, .int .u64 o.birth] 43) = W0 := ⟨_, rfl⟩
    rw [hW0] at HX ⊢
    clear hW0 HFi HIx
    obtain ⟨z0, z2, z3, z4, z7⟩ := op_cells' HX.out.box
    have x7 : W0.cell? ⟨g, 7, none⟩ = some (.slice (some ⟨gL, 0, none⟩) ps.length lc) := HX.out.k.cell 7 (by omega)
    obtain ⟨y0, y1, y2, y3⟩ := HX.out.k.entAt HJ.out
    dsimp only at y0 y1 y2 y3
    go_wp2_with fail
    refine (kEvent_any 3 ev VA ev.val.length vc s.now W0).mono ?_
    rintro e w1 ⟨rfl, hb1⟩
    have HX1 := zH (HX.out.adv hb1)
    have HBt : Hid (Bts w1 B 5 (.slice VA ev.val.length vc) ev.val) := zH (HX1.out.k.vals _ (List.mem_of_getElem? HJ.out))
    have HB1 := zH HX1.out.below
    clear hb1 x7 y0 y1 y2 y3 z0 z2 z3 z4 z7
    unfold evv evc eventP
    dsimp only
    go_wp2_with (at_builtin; go_loud (refine wpList_append_src _ rfl _ _ _ rfl w1.heap.size 49 i0 _ 6 72 Tryz.underlying44 hi0 hz0 hz1 hz2 rfl (by decide) _ 0 [] rfl (World.ownsRow_nil _ _ _ _) (some ⟨w1.heap.size, 0, none⟩) 1 1 (evcs [(eventP 3 ev s.now, .slice VA ev.val.length vc)]) rfl (src_ev w1 (eventP 3 ev s.now) _) (evcs_cell _ (fun p hp => by rw [List.mem_singleton.1 hp]; exact ⟨_, _, _, rfl⟩)) (by unfold maxLen; omega) (by omega) (by simp) ?_; intro v2 w2 hown2 hg2 hat2; have HG2 := zH (below_grown1 hg2); have HO2 : Hid (w2.ownsRow w1.heap.size 49 6 v2 [(eventP 3 ev s.now, Value.slice VA ev.val.length vc)].length (evcs [(eventP 3 ev s.now, .slice VA ev.val.length vc)])) := zH hown2; obtain ⟨A2, c2, rfl, _, _⟩ := own_form hown2; clear hown2 hg2 hat2))
    go_ret
    exact ⟨_, _, rfl, EvsAt.of_own HO2.out (zN _) (fun p hp => by rw [List.mem_singleton.1 hp]; exact (HBt.out.below HG2.out).up2 (Nat.le_trans HBs.out (Nat.le_trans HB1.out.size HG2.out.size))), by rw [HS.out]; rfl, HB1.out.trans (HG2.out.mono HB1.out.size)⟩
   ·by_cases k2 : o.kind = 2
    ·have HS := zH (hS.trans (if_pos (.inr k2)))
     have q1 : (o.kind == 1) = false := by simp [k2]
     have q2 : (o.kind == 2) = true := by simp [k2]
     have q6 : (o.kind == 6) = false := by simp [k2]
     have q7 : (o.kind == 7) = false := by simp [k2]
     clear k7 k1 k2 hS
     go_enter Tryz.func29, Tryz.ntmps29
     go_wp2_with fail
     refine (HFi.out _).mono ?_
     rintro e w1 ⟨rfl, hw⟩
     subst hw
     obtain ⟨W0, hW0⟩ : ∃ W0, w.alloc (.cells #[.int .i64 o.kind, .int .u64 o.ticks, .string o.key, .slice A n c, .int .u64 o.ttl, .int .i64 o.count, .int .i64 o.bytes, .int .i64 o.cursor, .int .u64 o.birth] 43) = W0 := ⟨_, rfl⟩
     rw [hW0] at HX ⊢
     clear hW0 HFi HIx
     obtain ⟨z0, z2, z3, z4, z7⟩ := op_cells' HX.out.box
     have x7 : W0.cell? ⟨g, 7, none⟩ = some (.slice (some ⟨gL, 0, none⟩) ps.length lc) := HX.out.k.cell 7 (by omega)
     obtain ⟨y0, y1, y2, y3⟩ := HX.out.k.entAt HJ.out
     dsimp only at y0 y1 y2 y3
     go_wp2_with fail
     refine (kEvent_any 3 ev VA ev.val.length vc s.now W0).mono ?_
     rintro e w1 ⟨rfl, hb1⟩
     have HX1 := zH (HX.out.adv hb1)
     have HBt : Hid (Bts w1 B 5 (.slice VA ev.val.length vc) ev.val) := zH (HX1.out.k.vals _ (List.mem_of_getElem? HJ.out))
     have HB1 := zH HX1.out.below
     clear hb1 x7 y0 y1 y2 y3 z0 z2 z3 z4 z7
     unfold evv evc eventP
     dsimp only
     go_wp2_with (at_builtin; go_loud (refine wpList_append_src _ rfl _ _ _ rfl w1.heap.size 49 i0 _ 6 72 Tryz.underlying44 hi0 hz0 hz1 hz2 rfl (by decide) _ 0 [] rfl (World.ownsRow_nil _ _ _ _) (some ⟨w1.heap.size, 0, none⟩) 1 1 (evcs [(eventP 3 ev s.now, .slice VA ev.val.length vc)]) rfl (src_ev w1 (eventP 3 ev s.now) _) (evcs_cell _ (fun p hp => by rw [List.mem_singleton.1 hp]; exact ⟨_, _, _, rfl⟩)) (by unfold maxLen; omega) (by omega) (by simp) ?_; intro v2 w2 hown2 hg2 hat2; have HG2 := zH (below_grown1 hg2); have HO2 : Hid (w2.ownsRow w1.heap.size 49 6 v2 [(eventP 3 ev s.now, Value.slice VA ev.val.length vc)].length (evcs [(eventP 3 ev s.now, .slice VA ev.val.length vc)])) := zH hown2; obtain ⟨A2, c2, rfl, _, _⟩ := own_form hown2; clear hown2 hg2 hat2))
     go_ret
     exact ⟨_, _, rfl, EvsAt.of_own HO2.out (zN _) (fun p hp => by rw [List.mem_singleton.1 hp]; exact (HBt.out.below HG2.out).up2 (Nat.le_trans HBs.out (Nat.le_trans HB1.out.size HG2.out.size))), by rw [HS.out]; rfl, HB1.out.trans (HG2.out.mono HB1.out.size)⟩
    ·by_cases k6 : o.kind = 6
     ·have HS := zH (hS.trans ((if_neg (by omega)).trans (if_pos k6)))
      have q1 : (o.kind == 1) = false := by simp [k6]
      have q2 : (o.kind == 2) = false := by simp [k6]
      have q6 : (o.kind == 6) = true := by simp [k6]
      have q7 : (o.kind == 7) = false := by simp [k6]
      clear k7 k1 k2 k6 hS
      go_enter Tryz.func29, Tryz.ntmps29
      go_wp2_with fail
      refine (HFi.out _).mono ?_
      rintro e w1 ⟨rfl, hw⟩
      subst hw
      obtain ⟨W0, hW0⟩ : ∃ W0, w.alloc (.cells #[.int .i64 o.kind, .int .u64 o.ticks, .string o.key, .slice A n c, .int .u64 o.ttl, .int .i64 o.count, .int .i64 o.bytes, .int .i64 o.cursor, .int .u64 o.birth] 43) = W0 := ⟨_, rfl⟩
      rw [hW0] at HX ⊢
      clear hW0 HFi HIx
      obtain ⟨z0, z2, z3, z4, z7⟩ := op_cells' HX.out.box
      have x7 : W0.cell? ⟨g, 7, none⟩ = some (.slice (some ⟨gL, 0, none⟩) ps.length lc) := HX.out.k.cell 7 (by omega)
      obtain ⟨y0, y1, y2, y3⟩ := HX.out.k.entAt HJ.out
      dsimp only at y0 y1 y2 y3
      go_wp2_with fail
      refine (kEvent_any 4 ev VA ev.val.length vc s.now W0).mono ?_
      rintro e w1 ⟨rfl, hb1⟩
      have HX1 := zH (HX.out.adv hb1)
      have HBt : Hid (Bts w1 B 5 (.slice VA ev.val.length vc) ev.val) := zH (HX1.out.k.vals _ (List.mem_of_getElem? HJ.out))
      have HB1 := zH HX1.out.below
      clear hb1 x7 y0 y1 y2 y3 z0 z2 z3 z4 z7
      unfold evv evc eventP
      dsimp only
      go_wp2_with (at_builtin; go_loud (refine wpList_append_src _ rfl _ _ _ rfl w1.heap.size 49 i0 _ 6 72 Tryz.underlying44 hi0 hz0 hz1 hz2 rfl (by decide) _ 0 [] rfl (World.ownsRow_nil _ _ _ _) (some ⟨w1.heap.size, 0, none⟩) 1 1 (evcs [(eventP 4 ev s.now, .slice VA ev.val.length vc)]) rfl (src_ev w1 (eventP 4 ev s.now) _) (evcs_cell _ (fun p hp => by rw [List.mem_singleton.1 hp]; exact ⟨_, _, _, rfl⟩)) (by unfold maxLen; omega) (by omega) (by simp) ?_; intro v2 w2 hown2 hg2 hat2; have HG2 := zH (below_grown1 hg2); have HO2 : Hid (w2.ownsRow w1.heap.size 49 6 v2 [(eventP 4 ev s.now, Value.slice VA ev.val.length vc)].length (evcs [(eventP 4 ev s.now, .slice VA ev.val.length vc)])) := zH hown2; obtain ⟨A2, c2, rfl, _, _⟩ := own_form hown2; clear hown2 hg2 hat2))
      go_ret
      exact ⟨_, _, rfl, EvsAt.of_own HO2.out (zN _) (fun p hp => by rw [List.mem_singleton.1 hp]; exact (HBt.out.below HG2.out).up2 (Nat.le_trans HBs.out (Nat.le_trans HB1.out.size HG2.out.size))), by rw [HS.out]; rfl, HB1.out.trans (HG2.out.mono HB1.out.size)⟩
     ·have HS := zH (hS.trans ((if_neg (by omega)).trans (if_neg k6)))
      have q1 : (o.kind == 1) = false := by simp [k1]
      have q2 : (o.kind == 2) = false := by simp [k2]
      have q6 : (o.kind == 6) = false := by simp [k6]
      clear k7 k1 k2 k6 hS
      go_enter Tryz.func29, Tryz.ntmps29
      go_wp2_with fail
      refine (HFi.out _).mono ?_
      rintro e w1 ⟨rfl, hw⟩
      subst hw
      obtain ⟨W0, hW0⟩ : ∃ W0, w.alloc (.cells #[.int .i64 o.kind, .int .u64 o.ticks, .string o.key, .slice A n c, .int .u64 o.ttl, .int .i64 o.count, .int .i64 o.bytes, .int .i64 o.cursor, .int .u64 o.birth] 43) = W0 := ⟨_, rfl⟩
      rw [hW0] at HX ⊢
      clear hW0 HFi HIx
      obtain ⟨z0, z2, z3, z4, z7⟩ := op_cells' HX.out.box
      clear HH HBs
      go_wp2_with fail
      go_ret
      exact OwnEv.nil HX.out.below HS.out
end Go.Proofs.YtnabbimompapfaaGreat
