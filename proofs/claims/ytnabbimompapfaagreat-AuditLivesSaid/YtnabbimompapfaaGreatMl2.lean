/- AudRC, AudRD, AudRE, AudRF, AudRG, AudRH, AudRI, AudRJ, AudRK, AudRL, AudRM, AudRN, AudRO, AudRP -/
import Derived.Test.YtnabbimompapfaaGreatMl1
import Derived.Deep.DeepCutAuto
import Derived.Deep.Cut
import Derived.Deep.RegionHeld3
import Derived.RegionTactic
namespace Go.Proofs.YtnabbimompapfaaGreat
open Go Go.RowKit
theorem kcell_open (s : PJ) (vL vU : Value) (pv : Nat → Int) (i : Nat) (hi : i < 64) : kcell s vL vU pv (9 + i) = .bool (openAt s.pl i) := by
 unfold kcell
 rw [if_neg (by omega), if_neg (by omega), if_neg (by omega), if_neg (by omega), if_neg (by omega), if_neg (by omega), if_neg (by omega), if_neg (by omega), if_neg (by omega), if_pos (by omega), Nat.add_sub_cancel_left]
theorem kcell_place (s : PJ) (vL vU : Value) (pv : Nat → Int) (i : Nat) : kcell s vL vU pv (73 + i) = .int .u64 (pv i) := by
 unfold kcell
 rw [if_neg (by omega), if_neg (by omega), if_neg (by omega), if_neg (by omega), if_neg (by omega), if_neg (by omega), if_neg (by omega), if_neg (by omega), if_neg (by omega), if_neg (by omega), Nat.add_sub_cancel_left]
theorem openP_some (pl : List (Option Int)) (c : Int) (h0 : 0 ≤ c) : (openP pl c).isSome = openAt pl c.toNat := by
 unfold openP openAt
 rw [if_neg (by omega), List.getD_eq_getElem?_getD]
theorem openP_out (pl : List (Option Int)) (c : Int) (hp : pl.length = 64) (h : c < 0 ∨ 64 ≤ c) : openP pl c = none := by
 unfold openP
 split
 ·rfl
 ·rw [List.getD_eq_getElem?_getD, List.getElem?_eq_none (by omega)]; rfl
set_option maxHeartbeats 2000000 in
theorem kOpen_any (B g : Nat) (vL vU : Value) (pv : Nat → Int) (s : PJ) (ps : List (EntV × Value)) (c : Int) (w : World) (h : KRep w B g vL vU pv s ps) (hp : s.pl.length = 64) :
  Calls Tryz.prog 51 #[.pointer (some ⟨g, 0, none⟩), .int .i64 c] w fun e w' => e = .returned (.bool (openP s.pl c).isSome) ∧ w = w' := by
 by_cases h0 : 0 ≤ c
 ·by_cases h1 : c < 64
  ·obtain ⟨i, rfl⟩ : ∃ i : Nat, c = i := ⟨c.toNat, by omega⟩
   have hi : i < 64 := by omega
   have hs := openP_some s.pl (i : Int) h0
   rw [Int.toNat_natCast] at hs
   rw [hs]
   have xo := h.cell (9 + i) (by omega)
   rw [kcell_open _ _ _ _ i hi] at xo
   generalize openAt s.pl i = b at xo ⊢
   clear h hp hs
   go_enter Tryz.func51, Tryz.ntmps51
   go_wp2_with fail
   go_ret
   exact ⟨rfl, rfl⟩
  ·have hs := openP_out s.pl c hp (.inr (by omega))
   rw [hs]
   have hd : decide (c < 64) = false := decide_eq_false h1
   clear h hp hs
   go_enter Tryz.func51, Tryz.ntmps51
   go_wp2_with fail
   go_ret
   exact ⟨rfl, rfl⟩
 ·have hs := openP_out s.pl c hp (.inl (by omega))
  rw [hs]
  have hd : decide (0 ≤ c) = false := decide_eq_false h0
  clear h hp hs
  go_enter Tryz.func51, Tryz.ntmps51
  go_wp2_with fail
  go_ret
  exact ⟨rfl, rfl⟩
theorem freeP_at {pl : List (Option Int)} {m : Nat} (hp : pl.length = 64) (hm : m < 64) (ho : openAt pl m = false) (hj : ∀ j, j < m → openAt pl j = true) : freeP pl = m := by
 have hf : pl.findIdx? (fun x => x.isNone) = some m := by
  rw [List.findIdx?_eq_some_iff_getElem]
  refine ⟨by omega, ?_, fun j hjm => ?_⟩
  ·unfold openAt at ho
   rw [List.getElem?_eq_getElem (by omega)] at ho
   simpa using ho
  ·have := hj j hjm
   unfold openAt at this
   rw [List.getElem?_eq_getElem (by omega)] at this
   have h2 : pl[j].isSome = true := by simpa using this
   simpa [Option.isSome_iff_ne_none] using h2
 unfold freeP
 rw [hf]; rfl
theorem freeP_full {pl : List (Option Int)} (hp : pl.length = 64) (hj : ∀ j, j < 64 → openAt pl j = true) : freeP pl = 64 := by
 have hf : pl.findIdx? (fun x => x.isNone) = none := by
  rw [List.findIdx?_eq_none_iff]
  intro x hx
  obtain ⟨j, hjx⟩ := List.getElem?_of_mem hx
  have hjl := (List.getElem?_eq_some_iff.1 hjx).1
  have := hj j (by omega)
  unfold openAt at this
  rw [hjx] at this
  simpa using this
 unfold freeP
 rw [hf]; rfl
set_option maxHeartbeats 2000000 in
theorem kFree_any (B g : Nat) (vL vU : Value) (pv : Nat → Int) (s : PJ) (ps : List (EntV × Value)) (w : World) (h : KRep w B g vL vU pv s ps) (hp : s.pl.length = 64) :
  Calls Tryz.prog 50 #[.pointer (some ⟨g, 0, none⟩)] w fun e w' => e = .returned (.int .i64 (freeP s.pl : Int)) ∧ w = w' := by
 have HC : Hid (∀ i, i < 64 → w.cell? ⟨g, 9 + i, none⟩ = some (.bool (openAt s.pl i))) := zH (fun i hi => by
  have := h.cell (9 + i) (by omega)
  rwa [kcell_open _ _ _ _ i hi] at this)
 have HP := zH hp
 clear h hp
 go_enter Tryz.func50, Tryz.ntmps50
 go_wp2_with fail
 go_loopw [3] (fun i wr => ∃ m : Nat, m ≤ 64 ∧ i = .int .i64 m ∧ (∀ j, j < m → openAt s.pl j = true) ∧ wr = w) (fun i _ => 64 - (intOf i).toNat)
 case atStart => exact ⟨0, by omega, rfl, fun j hj => by omega, rfl⟩
 case round =>
  obtain ⟨m, hm, rfl, hj, hww⟩ := hrel
  obtain rfl : w = wr := hww.symm
  have HJ := zH hj
  clear hj
  by_cases hml : m < 64
  ·have hmI : (m : Int) < 64 := by omega
   have xo := HC.out m hml
   obtain ⟨b, hb⟩ : ∃ b, openAt s.pl m = b := ⟨_, rfl⟩
   rw [hb] at xo
   have HBb := zH hb
   clear hb
   cases b with
   |false =>
    go_wp2_with fail
    go_ret
    exact ⟨by rw [freeP_at HP.out hml HBb.out HJ.out]; rfl, rfl⟩
   |true =>
    go_wp2_with fail
    go_roundw
    case rel => exact ⟨m + 1, by omega, by go_num, fun j hj => by
      rcases (by omega : j < m ∨ j = m) with h1 | h1
      ·exact HJ.out j h1
      ·rw [h1]; exact HBb.out, trivial⟩
    case measure => simp [intOf]; omega
  ·obtain rfl : m = 64 := by omega
   go_wp2_with fail
   go_ret
   exact ⟨by rw [freeP_full HP.out HJ.out]; rfl, rfl⟩
def aftB (b t : Int) (p : EntV × Value) : Bool := decide (b < p.1.birth) && !dueP p.1.dl t
theorem idxI_at {α : Type} {p : α → Bool} {l : List α} {m : Nat} {x : α} (hx : l[m]? = some x) (hp : p x = true) (hj : ∀ (j : Nat) (y : α), j < m → l[j]? = some y → p y = false) : idxI p l = (m : Int) := by
 unfold idxI
 have hf : l.findIdx? p = some m := by
  rw [List.findIdx?_eq_some_iff_getElem]
  obtain ⟨hl, he⟩ := List.getElem?_eq_some_iff.1 hx
  refine ⟨hl, by rw [he]; exact hp, fun j hjm => ?_⟩
  rw [hj j l[j] hjm (List.getElem?_eq_getElem (by omega))]; decide
 rw [hf]
theorem idxI_none {α : Type} {p : α → Bool} {l : List α} (hj : ∀ (j : Nat) (y : α), l[j]? = some y → p y = false) : idxI p l = -1 := by
 unfold idxI
 have hf : l.findIdx? p = none := by
  rw [List.findIdx?_eq_none_iff]
  intro y hy
  obtain ⟨j, hjy⟩ := List.getElem?_of_mem hy
  exact hj j y hjy
 rw [hf]
set_option maxHeartbeats 2000000 in
theorem kAfter_any (B g : Nat) (vL vU : Value) (pv : Nat → Int) (s : PJ) (ps : List (EntV × Value)) (b t : Int) (w : World) (h : KRep w B g vL vU pv s ps) (hn : ps.length ≤ 100000) :
  Calls Tryz.prog 52 #[.pointer (some ⟨g, 0, none⟩), .int .u64 b, .int .u64 t] w fun e w' => e = .returned (.int .i64 (idxI (aftB b t) ps)) ∧ w = w' := by
 obtain ⟨LA, lc, rfl, hlc, _⟩ := own_form h.L
 have x7 : w.cell? ⟨g, 7, none⟩ = some (.slice LA ps.length lc) := h.cell 7 (by omega)
 have HH := zH h
 obtain ⟨n, hn2⟩ : ∃ n, ps.length = n := ⟨_, rfl⟩
 have HN := zH hn2
 rw [hn2] at x7 hlc hn HH
 have hnI : (n : Int) ≤ 100000 := by omega
 have hlcI : (n : Int) ≤ (lc : Int) := by omega
 clear h hn2
 go_enter Tryz.func52, Tryz.ntmps52
 go_wp2_with fail
 go_loopw [7] (fun i wr => ∃ m : Nat, m ≤ n ∧ i = .int .i64 m ∧ (∀ j p, j < m → ps[j]? = some p → aftB b t p = false) ∧ wr = w) (fun i _ => n - (intOf i).toNat)
 case atStart => exact ⟨0, by omega, rfl, fun j p hj => by omega, rfl⟩
 case round =>
  obtain ⟨m, hm, rfl, hj, hww⟩ := hrel
  obtain rfl : w = wr := hww.symm
  have HJ := zH hj
  clear hj
  by_cases hml : m < n
  ·obtain ⟨⟨e, V⟩, hp⟩ : ∃ p, ps[m]? = some p := ⟨_, List.getElem?_eq_getElem (by rw [HN.out]; exact hml)⟩
   have hmI : (m : Int) < (n : Int) := by omega
   obtain ⟨gL, rfl⟩ : ∃ gL, LA = some ⟨gL, 0, none⟩ := by
    rcases HH.out.L.2 with ⟨_, h0⟩ | ⟨q, c, cur, eq, _⟩
    ·rw [HN.out] at h0; omega
    ·injection eq with eq _ _
     exact ⟨q, eq⟩
   obtain ⟨y0, y1, y2, y3⟩ := HH.out.entAt hp
   have HP := zH hp
   clear hp
   by_cases hb : b < e.birth
   ·obtain ⟨q, hq⟩ : ∃ q, dueP e.dl t = q := ⟨_, rfl⟩
    have HQ : Hid (aftB b t (e, V) = !q) := zH (by unfold aftB; rw [decide_eq_true hb]; dsimp only; rw [hq]; rfl)
    have HD := zH (hq ▸ refDue_any e.dl t w)
    clear hq
    go_wp2_with fail
    refine HD.out.mono ?_
    rintro e2 w2 ⟨rfl, hw2⟩
    subst hw2
    cases q with
    |false =>
     go_wp2_with fail
     go_ret
     exact ⟨by rw [idxI_at HP.out HQ.out HJ.out]; rfl, rfl⟩
    |true =>
     go_wp2_with fail
     go_roundw
     case rel => exact ⟨m + 1, by omega, by go_num, fun j p hj hp => by
       rcases (by omega : j < m ∨ j = m) with h1 | h1
       ·exact HJ.out j p h1 hp
       ·subst h1
        rw [HP.out] at hp
        injection hp with hp
        rw [← hp]; exact HQ.out, trivial⟩
     case measure => simp [intOf]; omega
   ·have hd : decide (b < e.birth) = false := decide_eq_false hb
    have HQ : Hid (aftB b t (e, V) = false) := zH (by unfold aftB; dsimp only; rw [hd]; rfl)
    go_wp2_with fail
    go_roundw
    case rel => exact ⟨m + 1, by omega, by go_num, fun j p hj hp => by
      rcases (by omega : j < m ∨ j = m) with h1 | h1
      ·exact HJ.out j p h1 hp
      ·subst h1
       rw [HP.out] at hp
       injection hp with hp
       rw [← hp]; exact HQ.out, trivial⟩
    case measure => simp [intOf]; omega
  ·obtain rfl : m = n := by omega
   go_wp2_with fail
   go_ret
   exact ⟨by rw [idxI_none (fun j y hj => HJ.out j y (by have := (List.getElem?_eq_some_iff.1 hj).1; rw [HN.out] at this; exact this) hj)]; rfl, rfl⟩
end Go.Proofs.YtnabbimompapfaaGreat
namespace Go.Proofs.YtnabbimompapfaaGreat
open Go Go.RowKit
set_option maxHeartbeats 2000000 in
theorem kSame_any (B1 B2 : Nat) (x y : EvV) (v u : Value) (w : World) (hv : Bts w B1 5 v x.val) (hu : Bts w B2 5 u y.val) :
  Calls Tryz.prog 30 #[evv x v, evv y u] w fun e w' => e = .returned (.bool (decide (x = y))) ∧ Below w.heap.size w w' := by
 have cv := fun o1 o2 => ((hv.alloc o1).alloc o2).string (P := Tryz.prog) 37 9 Tryz.underlying37 Tryz.underlying5 Tryz.underlying9
 have cu := fun o1 o2 => ((hu.alloc o1).alloc o2).string (P := Tryz.prog) 37 9 Tryz.underlying37 Tryz.underlying5 Tryz.underlying9
 obtain ⟨A, cap, rfl⟩ := hv.form
 obtain ⟨A2, cap2, rfl⟩ := hu.form
 unfold evv evc
 clear hv hu
 obtain ⟨q1, k1, b1, n1, d1, t1⟩ := x
 obtain ⟨q2, k2, b2, n2, d2, t2⟩ := y
 dsimp only at *
 by_cases h0 : q1 = q2
 ·have g0 : (q1 == q2) = true := by simp [h0]
  by_cases h1 : k1 = k2
  ·have g1 : (k1.toList == k2.toList) = true := by rw [key_eq]; simp [h1]
   by_cases h2 : b1 = b2
   ·have g2 : (b1 == b2) = true := by simp [h2]
    by_cases h3 : n1 = n2
    ·have g3 : (n1 == n2) = true := by simp [h3]
     by_cases h4 : d1 = d2
     ·have g4 : (d1 == d2) = true := by simp [h4]
      by_cases h5 : t1 = t2
      ·have g5 : (t1 == t2) = true := by simp [h5]
       have HS := zH (show decide ((⟨q1, k1, b1, n1, d1, t1⟩ : EvV) = ⟨q2, k2, b2, n2, d2, t2⟩) = true by simp [h0, h1, h2, h3, h4, h5])
       clear h0 h1 h2 h3 h4 h5
       go_enter Tryz.func30, Tryz.ntmps30
       go_wp2_with fail
       go_ret
       first | exact ⟨by rw [HS.out]; rfl, below_two _ _ _⟩ | exact ⟨rfl, below_two _ _ _⟩
      ·have g5 : (t1 == t2) = false := by simp [h5]
       have HS := zH (show decide ((⟨q1, k1, b1, n1, d1, t1⟩ : EvV) = ⟨q2, k2, b2, n2, d2, t2⟩) = false by simp [h5])
       clear h5 h0 h1 h2 h3 h4
       go_enter Tryz.func30, Tryz.ntmps30
       go_wp2_with fail
       go_ret
       first | exact ⟨by rw [HS.out]; rfl, below_two _ _ _⟩ | exact ⟨rfl, below_two _ _ _⟩
     ·have g4 : (d1 == d2) = false := by simp [h4]
      have HS := zH (show decide ((⟨q1, k1, b1, n1, d1, t1⟩ : EvV) = ⟨q2, k2, b2, n2, d2, t2⟩) = false by simp [h4])
      clear h4 h0 h1 h2 h3
      go_enter Tryz.func30, Tryz.ntmps30
      go_wp2_with fail
      go_ret
      first | exact ⟨by rw [HS.out]; rfl, below_two _ _ _⟩ | exact ⟨rfl, below_two _ _ _⟩
    ·have g3 : (n1 == n2) = false := by simp [h3]
     have HS := zH (show decide ((⟨q1, k1, b1, n1, d1, t1⟩ : EvV) = ⟨q2, k2, b2, n2, d2, t2⟩) = false by simp [h3])
     clear h3 h0 h1 h2
     go_enter Tryz.func30, Tryz.ntmps30
     go_wp2_with fail
     go_ret
     first | exact ⟨by rw [HS.out]; rfl, below_two _ _ _⟩ | exact ⟨rfl, below_two _ _ _⟩
   ·have g2 : (b1 == b2) = false := by simp [h2]
    have HS := zH (show decide ((⟨q1, k1, b1, n1, d1, t1⟩ : EvV) = ⟨q2, k2, b2, n2, d2, t2⟩) = false by simp [h2])
    clear h2 h0 h1
    go_enter Tryz.func30, Tryz.ntmps30
    go_wp2_with fail
    go_ret
    first | exact ⟨by rw [HS.out]; rfl, below_two _ _ _⟩ | exact ⟨rfl, below_two _ _ _⟩
  ·have g1 : (k1.toList == k2.toList) = false := by rw [key_eq]; simp [h1]
   have HS := zH (show decide ((⟨q1, k1, b1, n1, d1, t1⟩ : EvV) = ⟨q2, k2, b2, n2, d2, t2⟩) = false by simp [h1])
   clear h1 h0
   go_enter Tryz.func30, Tryz.ntmps30
   go_wp2_with fail
   go_ret
   first | exact ⟨by rw [HS.out]; rfl, below_two _ _ _⟩ | exact ⟨rfl, below_two _ _ _⟩
 ·have g0 : (q1 == q2) = false := by simp [h0]
  have HS := zH (show decide ((⟨q1, k1, b1, n1, d1, t1⟩ : EvV) = ⟨q2, k2, b2, n2, d2, t2⟩) = false by simp [h0])
  clear h0
  go_enter Tryz.func30, Tryz.ntmps30
  go_wp2_with fail
  go_ret
  first | exact ⟨by rw [HS.out]; rfl, below_two _ _ _⟩ | exact ⟨rfl, below_two _ _ _⟩
set_option maxHeartbeats 2000000 in
theorem kEvent_any (k : Int) (x : EntV) (A : Option Addr) (n c : Nat) (t : Int) (w : World) :
  Calls Tryz.prog 55 #[.int .i64 k, entv x (.slice A n c), .int .u64 t] w fun e w' => e = .returned (evv (eventP k x t) (.slice A n c)) ∧ Below w.heap.size w w' := by
 unfold entv entc
 go_enter Tryz.func55, Tryz.ntmps55
 go_wp2_with fail
 refine bodyPost_ret (v := evv (eventP k x t) (.slice A n c)) (by simp [results, Tryz.results55, go_sem, evv, evc, eventP]) rfl ⟨rfl, ?_⟩
 exact below_two _ _ _
theorem u64_info : (Tryz.prog.info? 22).map (fun i => (i.zero, i.size, i.bytes)) = some (some (.int .u64 0), 1, 8) := by kernel_rfl
theorem ucs_one (l : List Int) : ∀ u ∈ ucs l, u.oneCell' = true := by
 intro u hu
 simp only [ucs, List.mem_map] at hu
 obtain ⟨x, _, rfl⟩ := hu
 rfl
theorem src_one (w : World) (e : TypeId) (u : Value) : Src (w.alloc (.cells #[u] e)) 1 (some ⟨w.heap.size, 0, none⟩) 1 [u] := by
 refine ⟨rfl, (fun h => by cases h), fun a ha j v hu => ?_⟩
 cases ha
 rw [add_plain, Nat.zero_add]
 exact (Blk.new w e #[u]).cell j v (by simpa using hu)
theorem row_heap' {w : World} {base : Nat} {e : TypeId} {size : Nat} {v : Value} {n : Nat} {xs : List Value} (h : w.ownsRow base e size v n xs) {k : Nat} (hk : v.ownBlock = some k) : base ≤ k ∧ ∃ cur, w.heap[k]? = some (.cells cur e (0, 0)) := by
 rcases h.2 with ⟨rfl, _⟩ | ⟨g, cap, cur, rfl, hg, hh, _⟩
 ·cases hk
 ·cases hk; exact ⟨hg, cur, hh⟩
def URow (w : World) (base : Nat) (l : List Int) (e : Ending) (w0 : World) : Prop := ∃ v, e = .returned v ∧ w.ownsRow base 22 1 v l.length (ucs l) ∧ Below w0.heap.size w0 w
set_option maxRecDepth 100000 in
set_option maxHeartbeats 2000000 in
theorem kWithout_any (B : Nat) (v : Value) (l : List Int) (b : Int) (w : World) (h : w.ownsRow B 22 1 v l.length (ucs l)) (hn : l.length ≤ 100000) :
  Calls Tryz.prog 77 #[v, .int .u64 b] w fun e w' => URow w' w.heap.size (l.filter fun x => decide (x ≠ b)) e w := by
 obtain ⟨i0, hi0, hz0, hz1, hz2⟩ := info_parts u64_info
 obtain ⟨A, cap, rfl, hc, _⟩ := own_form h
 have HH := zH h
 have hlI : (l.length : Int) ≤ 100000 := by omega
 have HN := zH hn
 have hcI : (l.length : Int) ≤ (cap : Int) := by omega
 clear h hn
 go_enter Tryz.func77, Tryz.ntmps77
 go_wp2_with fail
 go_loopw [5, 6] (fun o i wr => ∃ m : Nat, m ≤ l.length ∧ i = .int .i64 m ∧ wr.ownsRow w.heap.size 22 1 o ((l.take m).filter fun x => decide (x ≠ b)).length (ucs ((l.take m).filter fun x => decide (x ≠ b))) ∧ Below w.heap.size w wr) (fun _ i _ => l.length - (intOf i).toNat)
 case atStart => exact ⟨0, by omega, rfl, World.ownsRow_nil _ _ _ _, zL _ _⟩
 case round =>
  obtain ⟨m, hm, rfl, ho, hb⟩ := hrel
  obtain ⟨OA, oc, rfl, _, _⟩ := own_form ho
  have HO := zH ho
  have HB := zH hb
  have hrow := own_later' HH.out hb
  clear ho hb
  by_cases hml : m < l.length
  ·obtain ⟨x, hx⟩ : ∃ x, l[m]? = some x := ⟨_, List.getElem?_eq_getElem hml⟩
   have hmI : (m : Int) < (l.length : Int) := by omega
   obtain ⟨q, rfl⟩ : ∃ q, A = some ⟨q, 0, none⟩ := by
    rcases hrow.2 with ⟨_, h0⟩ | ⟨q, c, cur, eq, _⟩
    ·omega
    ·injection eq with eq _ _
     exact ⟨q, eq⟩
   have x0 := hrow.cells (g := q) rfl m (.int .u64 x) (by simp [ucs, hx])
   rw [add_plain, Nat.zero_add] at x0
   have ht : l.take (m + 1) = l.take m ++ [x] := by rw [List.take_add_one, hx]; rfl
   have HT := zH ht
   have hfl : ((l.take m).filter fun x => decide (x ≠ b)).length ≤ 100000 := by
    have h1 := List.length_filter_le (fun x => decide (x ≠ b)) (l.take m)
    rw [List.length_take] at h1
    have := HN.out
    omega
   have HFl := zH hfl
   clear ht hx hrow hfl
   by_cases hxb : x = b
   ·have hne : (x != b) = false := by simp [hxb]
    have HE := zH (show (l.take (m + 1)).filter (fun x => decide (x ≠ b)) = (l.take m).filter (fun x => decide (x ≠ b)) by rw [HT.out, List.filter_append]; simp [hxb])
    clear hxb
    go_wp2_with fail
    go_roundw
    case rel => exact ⟨m + 1, by omega, by go_num, by rw [HE.out]; exact HO.out, HB.out⟩
    case measure => simp [intOf]; omega
   ·have hne : (x != b) = true := by simp [hxb]
    have HE := zH (show (l.take (m + 1)).filter (fun x => decide (x ≠ b)) = (l.take m).filter (fun x => decide (x ≠ b)) ++ [x] by rw [HT.out, List.filter_append]; simp [hxb])
    clear hxb
    go_wp2_with (at_builtin; go_loud (refine wpList_append_src _ rfl _ _ _ rfl w.heap.size 22 i0 _ 1 8 Tryz.underlying57 hi0 hz0 hz1 hz2 rfl (by decide) _ ((l.take m).filter fun x => decide (x ≠ b)).length (ucs ((l.take m).filter fun x => decide (x ≠ b))) rfl (own_later' HO.out ((zL _ _).alloc (zN _) _)) (some ⟨wr.heap.size, 0, none⟩) 1 1 [.int .u64 x] rfl (src_one wr _ _) (ucs_one [x]) (by have := HFl.out; unfold maxLen; omega) (by have := HFl.out; omega) (by have := HB.out.size; simp; omega) ?_; intro v8 w8 hown8 hg8 hat8))
    have HR8 : Hid (w8.ownsRow w.heap.size 22 1 v8 ((l.take (m + 1)).filter fun x => decide (x ≠ b)).length (ucs ((l.take (m + 1)).filter fun x => decide (x ≠ b)))) := zH (by
     rw [HE.out, List.length_append, show ucs ((l.take m).filter (fun x => decide (x ≠ b)) ++ [x]) = ucs ((l.take m).filter fun x => decide (x ≠ b)) ++ [.int .u64 x] by simp [ucs]]
     exact hown8)
    have HB8 : Hid (Below w.heap.size w w8) := zH ((HB.out.alloc HB.out.size _).grown hg8 (HB.out.alloc HB.out.size _).size (fun k hk => (row_heap' HO.out hk).1))
    clear hown8 hg8 hat8
    go_roundw
    case rel => exact ⟨m + 1, by omega, by go_num, HR8.out, HB8.out⟩
    case measure => simp [intOf]; omega
  ·obtain rfl : m = l.length := by omega
   clear hrow
   simp only [List.take_length] at HO ⊢
   go_wp2_with fail
   go_ret
   exact ⟨_, rfl, HO.out, HB.out⟩
end Go.Proofs.YtnabbimompapfaaGreat
namespace Go.Proofs.YtnabbimompapfaaGreat
open Go Go.RowKit
structure EvsAt (w : World) (B : Nat) (v : Value) (xs : List (EvV × Value)) : Prop where
 form : ∃ A cap, v = .slice A xs.length cap ∧ xs.length ≤ cap ∧ cap ≤ maxLen ∧ (A = none → xs.length = 0) ∧
  (0 < xs.length → ∃ b off, A = some ⟨b, off, none⟩ ∧ (b < w.heap.size ∧ b < B) ∧ ∀ i p, xs[i]? = some p → ∀ j u, (evc p.1 p.2)[j]? = some u → w.cell? ⟨b, off + (i * 6 + j), none⟩ = some u)
 vals : ∀ p ∈ xs, Bts w B 5 p.2 p.1.val
section
variable {w w' : World} {B : Nat} {v : Value} {xs : List (EvV × Value)}
theorem EvsAt.keep (h : EvsAt w B v xs) (hb : KeepB B 5 w w') : EvsAt w' B v xs := by
 obtain ⟨⟨A, cap, e, h1, h2, h3, h4⟩, h5⟩ := h
 refine ⟨⟨A, cap, e, h1, h2, h3, fun hp => ?_⟩, fun p hp => (h5 p hp).keep hb⟩
 obtain ⟨b, off, hA, hlt, hc⟩ := h4 hp
 refine ⟨b, off, hA, ⟨Nat.lt_of_lt_of_le hlt.1 hb.1, hlt.2⟩, fun i p hi j u hu => ?_⟩
 rw [World.cell?_of_block (w := w) (a := ⟨b, off + (i * 6 + j), none⟩) (hb.2 b hlt.1 (.inl hlt.2))]
 exact hc i p hi j u hu
theorem EvsAt.below (h : EvsAt w B v xs) (hb : Below w.heap.size w w') : EvsAt w' B v xs := h.keep (KeepB.of_below hb)
theorem EvsAt.tail {A : Option Addr} {n cap : Nat} {x : EvV × Value} {xs : List (EvV × Value)} (h : EvsAt w B (.slice A n cap) (x :: xs)) :
  ∃ b off, A = some ⟨b, off, none⟩ ∧ n = xs.length + 1 ∧ n ≤ cap ∧ EvsAt w B (.slice (if cap = 1 then some ⟨b, off, none⟩ else some ⟨b, off + 6, none⟩) (n - 1) (cap - 1)) xs := by
 obtain ⟨⟨A', cap', e, h1, h2, h3, h4⟩, h5⟩ := h
 injection e with e1 e2 e3
 subst e1 e3
 rw [List.length_cons] at e2 h1
 obtain ⟨b, off, hA, hlt, hc⟩ := h4 (by simp)
 refine ⟨b, off, hA, e2, by omega, ⟨⟨_, cap - 1, by rw [e2]; rfl, by omega, by omega, (fun h => by split at h <;> cases h), fun hp => ?_⟩, fun p hp => h5 p (List.mem_cons_of_mem _ hp)⟩⟩
 have hc1 : ¬ cap = 1 := by omega
 refine ⟨b, off + 6, by rw [if_neg hc1], hlt, fun i p hi j u hu => ?_⟩
 have := hc (i + 1) p (by simpa using hi) j u hu
 rw [show off + ((i + 1) * 6 + j) = off + 6 + (i * 6 + j) by omega] at this
 exact this
theorem EvsAt.slice (h : EvsAt w B v xs) : ∃ A cap, v = .slice A xs.length cap := by obtain ⟨⟨A, cap, e, _⟩, _⟩ := h; exact ⟨A, cap, e⟩
theorem EvsAt.cap (h : EvsAt w B v xs) : ∃ A cap, v = .slice A xs.length cap ∧ xs.length ≤ cap ∧ cap ≤ maxLen := by obtain ⟨⟨A, cap, e, h1, h2, _⟩, _⟩ := h; exact ⟨A, cap, e, h1, h2⟩
theorem EvsAt.at_ {A : Option Addr} {n cap : Nat} (h : EvsAt w B (.slice A n cap) xs) {i : Nat} {p : EvV × Value} (hi : xs[i]? = some p) : ∃ b off, A = some ⟨b, off, none⟩ ∧ (b < w.heap.size ∧ b < B) ∧
  w.cell? ⟨b, off + i * 6, none⟩ = some (.int .i64 p.1.kind) ∧ w.cell? ⟨b, off + i * 6 + 1, none⟩ = some (.string p.1.key) ∧ w.cell? ⟨b, off + i * 6 + 2, none⟩ = some p.2 ∧ w.cell? ⟨b, off + i * 6 + 3, none⟩ = some (.int .u64 p.1.birth) ∧ w.cell? ⟨b, off + i * 6 + 4, none⟩ = some (.int .u64 p.1.dl) ∧ w.cell? ⟨b, off + i * 6 + 5, none⟩ = some (.int .u64 p.1.at_) := by
 obtain ⟨⟨A', cap', e, h1, h2, h3, h4⟩, h5⟩ := h
 injection e with e1 e2 e3
 subst e1
 have hl := (List.getElem?_eq_some_iff.1 hi).1
 obtain ⟨b, off, hA, hlt, hc⟩ := h4 (by omega)
 exact ⟨b, off, hA, hlt, hc i p hi 0 _ rfl, hc i p hi 1 _ rfl, hc i p hi 2 _ rfl, hc i p hi 3 _ rfl, hc i p hi 4 _ rfl, hc i p hi 5 _ rfl⟩
end
set_option maxHeartbeats 2000000 in
theorem kNone_any (B : Nat) (v : Value) (xs : List (EvV × Value)) (w : World) (h : EvsAt w B v xs) :
  Calls Tryz.prog 27 #[v] w fun e w' => e = .returned (.bool (noExp (xs.map Prod.fst))) ∧ w = w' := by
 obtain ⟨A, cap, rfl, hc, hm⟩ := h.cap
 have HH := zH h
 unfold maxLen at hm
 obtain ⟨n, hn2⟩ : ∃ n, xs.length = n := ⟨_, rfl⟩
 have HN := zH hn2
 rw [hn2] at HH hc ⊢
 have hnI : (n : Int) ≤ 9223372036854775807 := by omega
 have hcI : (n : Int) ≤ (cap : Int) := by omega
 clear h hn2 hm
 go_enter Tryz.func27, Tryz.ntmps27
 go_wp2_with fail
 go_loopw [3] (fun i wr => ∃ m : Nat, m ≤ n ∧ i = .int .i64 m ∧ (∀ j p, j < m → xs[j]? = some p → p.1.kind ≠ 1) ∧ wr = w) (fun i _ => n - (intOf i).toNat)
 case atStart => exact ⟨0, by omega, rfl, fun j p hj => by omega, rfl⟩
 case round =>
  obtain ⟨m, hm, rfl, hj, hww⟩ := hrel
  obtain rfl : w = wr := hww.symm
  have HJ := zH hj
  clear hj
  by_cases hml : m < n
  ·obtain ⟨⟨x, V⟩, hp⟩ : ∃ p, xs[m]? = some p := ⟨_, List.getElem?_eq_getElem (by rw [HN.out]; exact hml)⟩
   have hmI : (m : Int) < (n : Int) := by omega
   obtain ⟨q, off, rfl, -, y0, -⟩ := HH.out.at_ hp
   have HP := zH hp
   clear hp
   by_cases hk : x.kind = 1
   ·have hkb : (x.kind == 1) = true := by simp [hk]
    have HS : Hid (noExp (xs.map Prod.fst) = false) := zH (by
     unfold noExp
     rw [List.all_eq_false]
     exact ⟨x, List.mem_map.2 ⟨(x, V), List.mem_of_getElem? HP.out, rfl⟩, by simp [hk]⟩)
    clear hk
    go_wp2_with fail
    go_ret
    first | exact ⟨by rw [HS.out]; rfl, rfl⟩ | exact ⟨rfl, rfl⟩
   ·have hkb : (x.kind == 1) = false := by simp [hk]
    have HK := zH hk
    clear hk
    go_wp2_with fail
    go_roundw
    case rel => exact ⟨m + 1, by omega, by go_num, fun j p hj hp => by
      rcases (by omega : j < m ∨ j = m) with h1 | h1
      ·exact HJ.out j p h1 hp
      ·subst h1
       rw [HP.out] at hp
       injection hp with hp
       rw [← hp]; exact HK.out, trivial⟩
    case measure => simp [intOf]; omega
  ·obtain rfl : m = n := by omega
   have HS : Hid (noExp (xs.map Prod.fst) = true) := zH (by
    unfold noExp
    rw [List.all_eq_true]
    intro x hx
    obtain ⟨p, hp, rfl⟩ := List.mem_map.1 hx
    obtain ⟨j, hj⟩ := List.getElem?_of_mem hp
    have hjl := (List.getElem?_eq_some_iff.1 hj).1
    have := HJ.out j p (by rw [HN.out] at hjl; exact hjl) hj
    simpa using this)
   go_wp2_with fail
   go_ret
   first | exact ⟨by rw [HS.out]; rfl, rfl⟩ | exact ⟨rfl, rfl⟩
theorem costP_snoc (L : List EntV) (e : EntV) : costP (L ++ [e]) = costP L + costE e := by simp [costP]
theorem foldl_add : ∀ (l : List Int) (a : Int), l.foldl (· + ·) a = a + l.foldl (· + ·) 0
 |[], a => by simp
 |x :: l, a => by
  rw [List.foldl_cons, List.foldl_cons, foldl_add l (a + x), foldl_add l (0 + x)]; omega
theorem costP_cons (L : List EntV) (e : EntV) : costP (e :: L) = costE e + costP L := by
 unfold costP
 rw [List.map_cons, List.foldl_cons, foldl_add]; omega
theorem costP_bound : ∀ {L : List EntV}, (∀ e ∈ L, e.key.size ≤ 250 ∧ e.val.length ≤ 65536) → 0 ≤ costP L ∧ costP L ≤ 65834 * (L.length : Int)
 |[], _ => ⟨by decide, by decide⟩
 |e :: L, h => by
  have h1 := costP_bound (L := L) (fun x hx => h x (List.mem_cons_of_mem _ hx))
  have h2 := h e (List.mem_cons_self ..)
  rw [costP_cons, List.length_cons]
  unfold costE
  omega
set_option maxRecDepth 100000 in
set_option maxHeartbeats 2000000 in
theorem kCost_any (B g : Nat) (vL vU : Value) (pv : Nat → Int) (s : PJ) (ps : List (EntV × Value)) (w : World) (h : KRep w B g vL vU pv s ps) (hn : ps.length ≤ 100000) (hb : ∀ e ∈ s.L, e.key.size ≤ 250 ∧ e.val.length ≤ 65536) :
  Calls Tryz.prog 34 #[.pointer (some ⟨g, 0, none⟩)] w fun e w' => e = .returned (.int .i64 (costP s.L)) ∧ Below w.heap.size w w' := by
 obtain ⟨LA, lc, rfl, hlc, _⟩ := own_form h.L
 have HH := zH h
 have hmap := h.map
 have hbs : ∀ p ∈ ps, p.1.key.size ≤ 250 ∧ p.1.val.length ≤ 65536 := fun p hp => hb p.1 (by rw [← hmap]; exact List.mem_map_of_mem hp)
 have HBs := zH hbs
 rw [← hmap]
 obtain ⟨n, hn2⟩ : ∃ n, ps.length = n := ⟨_, rfl⟩
 have HN := zH hn2
 rw [hn2] at hlc hn HH
 have hnI : (n : Int) ≤ 100000 := by omega
 have hlcI : (n : Int) ≤ (lc : Int) := by omega
 clear h hn2 hb hmap hbs
 go_enter Tryz.func34, Tryz.ntmps34
 go_wp2_with fail
 go_loopw [3, 4] (fun c i wr => ∃ m : Nat, m ≤ n ∧ i = .int .i64 m ∧ c = .int .i64 (costP ((ps.take m).map Prod.fst)) ∧ KRep wr B g (.slice LA n lc) vU pv s ps ∧ Below w.heap.size w wr) (fun _ i _ => n - (intOf i).toNat)
 case atStart => exact ⟨0, by omega, rfl, rfl, HH.out, zL _ _⟩
 case round =>
  obtain ⟨m, hm, rfl, rfl, hk, hbl⟩ := hrel
  have HK := zH hk
  have HB := zH hbl
  have x7 : World.cell? wr ⟨g, 7, none⟩ = some (.slice LA n lc) := hk.cell 7 (by omega)
  clear hbl
  by_cases hml : m < n
  ·obtain ⟨⟨e, V⟩, hp⟩ : ∃ p, ps[m]? = some p := ⟨_, List.getElem?_eq_getElem (by rw [HN.out]; exact hml)⟩
   have hmI : (m : Int) < (n : Int) := by omega
   obtain ⟨gL, rfl⟩ : ∃ gL, LA = some ⟨gL, 0, none⟩ := by
    rcases hk.L.2 with ⟨_, h0⟩ | ⟨q, c, cur, eq, _⟩
    ·rw [HN.out] at h0; omega
    ·injection eq with eq _ _
     exact ⟨q, eq⟩
   obtain ⟨y0, y1, y2, y3⟩ := hk.entAt hp
   obtain ⟨VA, vc, hV⟩ := (hk.vals _ (List.mem_of_getElem? hp)).form
   dsimp only at hV
   subst hV
   have hbe := HBs.out _ (List.mem_of_getElem? hp)
   dsimp only at hbe
   have hk1 : (e.key.size : Int) ≤ 250 := by omega
   have hv1 : (e.val.length : Int) ≤ 65536 := by omega
   have hcb := costP_bound (L := (ps.take m).map Prod.fst) (fun x hx => by
    obtain ⟨p, hp2, rfl⟩ := List.mem_map.1 hx
    exact HBs.out p (List.mem_of_mem_take hp2))
   have hcl : ((ps.take m).map Prod.fst).length ≤ 100000 := by rw [List.length_map, List.length_take]; omega
   obtain ⟨C, hC⟩ : ∃ C, costP ((ps.take m).map Prod.fst) = C := ⟨_, rfl⟩
   have HS : Hid (costP ((ps.take (m + 1)).map Prod.fst) = C + 48 + (e.key.size : Int) + (e.val.length : Int)) := zH (by
    rw [List.take_add_one, hp, List.map_append, Option.toList_some, List.map_singleton, costP_snoc, hC]
    show C + costE e = _
    unfold costE; omega)
   rw [hC] at hcb ⊢
   have hC1 : C ≤ 6583400000 := by omega
   have hC0 : 0 ≤ C := hcb.1
   clear hp hk hcb hcl hC hbe
   go_wp2_with fail
   go_quiet (fail)
   have HKq := zH (HK.out.below ⟨rfl, rfl, rfl, zN _, fun _ _ => rfl⟩ : KRep (wr.drewN nq) B g (.slice (some ⟨gL, 0, none⟩) n lc) vU pv s ps)
   have HBq : Hid (Below w.heap.size w (wr.drewN nq)) := zH (HB.out.trans ⟨rfl, rfl, rfl, zN _, fun _ _ => rfl⟩)
   generalize wr.drewN nq = wq at HKq HBq ⊢
   clear x7 y0 y1 y2 y3
   go_wp2_with fail
   go_roundw
   case rel => exact ⟨m + 1, by omega, by go_num, by rw [HS.out], HKq.out, HBq.out⟩
   case measure => simp [intOf]; omega
  ·obtain rfl : m = n := by omega
   clear hk
   go_wp2_with fail
   go_ret
   refine ⟨?_, HB.out⟩
   have : ps.take m = ps := List.take_of_length_le (by rw [HN.out]; exact zN _)
   rw [this]; rfl
end Go.Proofs.YtnabbimompapfaaGreat
namespace Go.Proofs.YtnabbimompapfaaGreat
open Go Go.RowKit
def refB (o : OpV) (e : Int) : Bool := decide (e ≠ 0 ∧ ¬ (o.kind = 12 ∧ e = 14) ∧ ¬ (o.kind = 11 ∧ e = 7) ∧ ¬ ((o.kind = 13 ∨ o.kind = 14) ∧ e = 9))
set_option maxHeartbeats 4000000 in
theorem kRefused_any (o : OpV) (A : Option Addr) (n c : Nat) (e : Int) (w : World) :
  Calls Tryz.prog 26 #[opv o (.slice A n c), .int .i64 e] w fun en w' => en = .returned (.bool (refB o e)) ∧ Below w.heap.size w w' := by
 unfold opv opc
 by_cases h0 : e = 0
 ·subst h0
  have HS := zH (show refB o 0 = false by unfold refB; simp)
  go_enter Tryz.func26, Tryz.ntmps26
  go_wp2_with fail
  go_ret
  first | exact ⟨by rw [HS.out]; rfl, (zL _ _).alloc (zN _) _⟩ | exact ⟨rfl, (zL _ _).alloc (zN _) _⟩
 ·have g0 : (e == 0) = false := by simp [h0]
  by_cases k12 : o.kind = 12
  ·have q12 : (o.kind == 12) = true := by simp [k12]
   have q11 : (o.kind == 11) = false := by simp [k12]
   have q13 : (o.kind == 13) = false := by simp [k12]
   have q14 : (o.kind == 14) = false := by simp [k12]
   by_cases h14 : e = 14
   ·have HS := zH (show refB o e = false by unfold refB; simp [k12, h14])
    have g14 : (e == 14) = true := by simp [h14]
    clear h0 k12 h14
    go_enter Tryz.func26, Tryz.ntmps26
    go_wp2_with fail
    go_ret
    first | exact ⟨by rw [HS.out]; rfl, (zL _ _).alloc (zN _) _⟩ | exact ⟨rfl, (zL _ _).alloc (zN _) _⟩
   ·have HS := zH (show refB o e = true by unfold refB; simp [k12, h14, h0])
    have g14 : (e == 14) = false := by simp [h14]
    clear h0 k12 h14
    go_enter Tryz.func26, Tryz.ntmps26
    go_wp2_with fail
    go_ret
    first | exact ⟨by rw [HS.out]; rfl, (zL _ _).alloc (zN _) _⟩ | exact ⟨rfl, (zL _ _).alloc (zN _) _⟩
  ·have q12 : (o.kind == 12) = false := by simp [k12]
   by_cases k11 : o.kind = 11
   ·have q11 : (o.kind == 11) = true := by simp [k11]
    have q13 : (o.kind == 13) = false := by simp [k11]
    have q14 : (o.kind == 14) = false := by simp [k11]
    by_cases h7 : e = 7
    ·have HS := zH (show refB o e = false by unfold refB; simp [k11, h7])
     have g7 : (e == 7) = true := by simp [h7]
     clear h0 k12 k11 h7
     go_enter Tryz.func26, Tryz.ntmps26
     go_wp2_with fail
     go_ret
     first | exact ⟨by rw [HS.out]; rfl, (zL _ _).alloc (zN _) _⟩ | exact ⟨rfl, (zL _ _).alloc (zN _) _⟩
    ·have HS := zH (show refB o e = true by unfold refB; simp [k11, h7, h0])
     have g7 : (e == 7) = false := by simp [h7]
     clear h0 k12 k11 h7
     go_enter Tryz.func26, Tryz.ntmps26
     go_wp2_with fail
     go_ret
     first | exact ⟨by rw [HS.out]; rfl, (zL _ _).alloc (zN _) _⟩ | exact ⟨rfl, (zL _ _).alloc (zN _) _⟩
   ·have q11 : (o.kind == 11) = false := by simp [k11]
    by_cases k13 : o.kind = 13
    ·have q13 : (o.kind == 13) = true := by simp [k13]
     by_cases h9 : e = 9
     ·have HS := zH (show refB o e = false by unfold refB; simp [k13, h9])
      have g9 : (e == 9) = true := by simp [h9]
      clear h0 k12 k11 k13 h9
      go_enter Tryz.func26, Tryz.ntmps26
      go_wp2_with fail
      go_ret
      first | exact ⟨by rw [HS.out]; rfl, (zL _ _).alloc (zN _) _⟩ | exact ⟨rfl, (zL _ _).alloc (zN _) _⟩
     ·have HS := zH (show refB o e = true by unfold refB; simp [k13, h9, h0])
      have g9 : (e == 9) = false := by simp [h9]
      clear h0 k12 k11 k13 h9
      go_enter Tryz.func26, Tryz.ntmps26
      go_wp2_with fail
      go_ret
      first | exact ⟨by rw [HS.out]; rfl, (zL _ _).alloc (zN _) _⟩ | exact ⟨rfl, (zL _ _).alloc (zN _) _⟩
    ·have q13 : (o.kind == 13) = false := by simp [k13]
     by_cases k14 : o.kind = 14
     ·have q14 : (o.kind == 14) = true := by simp [k14]
      by_cases h9 : e = 9
      ·have HS := zH (show refB o e = false by unfold refB; simp [k14, h9])
       have g9 : (e == 9) = true := by simp [h9]
       clear h0 k12 k11 k13 k14 h9
       go_enter Tryz.func26, Tryz.ntmps26
       go_wp2_with fail
       go_ret
       first | exact ⟨by rw [HS.out]; rfl, (zL _ _).alloc (zN _) _⟩ | exact ⟨rfl, (zL _ _).alloc (zN _) _⟩
      ·have HS := zH (show refB o e = true by unfold refB; simp [k14, h9, h0])
       have g9 : (e == 9) = false := by simp [h9]
       clear h0 k12 k11 k13 k14 h9
       go_enter Tryz.func26, Tryz.ntmps26
       go_wp2_with fail
       go_ret
       first | exact ⟨by rw [HS.out]; rfl, (zL _ _).alloc (zN _) _⟩ | exact ⟨rfl, (zL _ _).alloc (zN _) _⟩
     ·have q14 : (o.kind == 14) = false := by simp [k14]
      have HS := zH (show refB o e = true by unfold refB; simp [k12, k11, k13, k14, h0])
      clear h0 k12 k11 k13 k14
      go_enter Tryz.func26, Tryz.ntmps26
      go_wp2_with fail
      go_ret
      first | exact ⟨by rw [HS.out]; rfl, (zL _ _).alloc (zN _) _⟩ | exact ⟨rfl, (zL _ _).alloc (zN _) _⟩
theorem refB_right (s : PJ) (o : OpV) (t : Int) : refB o (rightP s o t) = refusedP o (rightP s o t) := by
 have key : (rightP s o t = 0) ∨ (o.kind = 1 ∨ o.kind = 2 ∨ o.kind = 3 ∨ o.kind = 4 ∨ o.kind = 5 ∨ o.kind = 6) ∨ o.kind = 8 ∨ (o.kind = 11 ∧ rightP s o t = 7) ∨ (o.kind = 12 ∧ (rightP s o t = 9 ∨ rightP s o t = 14)) ∨ ((o.kind = 13 ∨ o.kind = 14) ∧ rightP s o t = 9) := by
  by_cases h1 : o.kind = 1 ∨ o.kind = 2 ∨ o.kind = 3 ∨ o.kind = 4 ∨ o.kind = 5 ∨ o.kind = 6
  ·exact .inr (.inl h1)
  ·by_cases h8 : o.kind = 8
   ·exact .inr (.inr (.inl h8))
   ·by_cases h11 : o.kind = 11
    ·unfold rightP
     rw [if_neg h1, if_neg h8, if_pos h11]
     split
     ·exact .inr (.inr (.inr (.inl ⟨h11, rfl⟩)))
     ·exact .inl rfl
    ·by_cases h12 : o.kind = 12 ∨ o.kind = 13 ∨ o.kind = 14
     ·unfold rightP
      rw [if_neg h1, if_neg h8, if_neg h11, if_pos h12]
      split
      ·rcases h12 with h | h | h
       ·exact .inr (.inr (.inr (.inr (.inl ⟨h, .inl rfl⟩))))
       ·exact .inr (.inr (.inr (.inr (.inr ⟨.inl h, rfl⟩))))
       ·exact .inr (.inr (.inr (.inr (.inr ⟨.inr h, rfl⟩))))
      ·split
       ·rename_i h; exact .inr (.inr (.inr (.inr (.inl ⟨h.1, .inr rfl⟩))))
       ·exact .inl rfl
     ·unfold rightP
      rw [if_neg h1, if_neg h8, if_neg h11, if_neg h12]
      exact .inl rfl
 unfold refB refusedP
 generalize rightP s o t = e at key ⊢
 rw [Bool.eq_iff_iff, decide_eq_true_eq, decide_eq_true_eq]
 omega
end Go.Proofs.YtnabbimompapfaaGreat
namespace Go.Proofs.YtnabbimompapfaaGreat
open Go Go.RowKit
theorem Only.set1 (w : World) (g i : Nat) (u : Value) : Only (fun k => k = g) w (w.setCell ⟨g, i, none⟩ u) := Only.setCell (S := fun k => k = g) (Only.refl _ _) (p := ⟨g, i, none⟩) (.inl rfl) _
theorem KeepB.of_blk {B U g t : Nat} {w w' : World} {cs : Array Value} (hb : Blk w g t cs) (ht : t ≠ U) (hg : B ≤ g) (ho : Only (fun k => k = g) w w') : KeepB B U w w' :=
 KeepB.of_only ho fun k _ e => ⟨by omega, fun c fr h => by
  subst e
  exact hb.ne_ h ht rfl⟩
theorem blk_differs {w : World} {base g t : Nat} {e : TypeId} {n m : Nat} {v : Value} {cs : Array Value} {xs : List Value} (hb : Blk w g t cs) (h : w.ownsRow base e n v m xs) (hne : t ≠ e) : ¬ v.ownBlock = some g := by
 intro hk
 obtain ⟨_, cur, hc⟩ := row_heap' h hk
 exact hb.ne_ hc hne rfl
theorem KRep.frozen8 {w : World} {B g : Nat} {vL vU : Value} {pv : Nat → Int} {s : PJ} {ps : List (EntV × Value)} (h : KRep w B g vL vU pv s ps) : w.frozen? ⟨g, 8, none⟩ = false := by
 obtain ⟨cs, h1, _⟩ := h.blk
 exact h1.frozen 8
theorem KRep.setU {w : World} {B g : Nat} {vL vU : Value} {pv : Nat → Int} {s : PJ} {ps : List (EntV × Value)} (h : KRep w B g vL vU pv s ps) {vU' : Value} {U' : List Int} (ho : w.ownsRow B 22 1 vU' U'.length (ucs U')) :
  KRep (w.setCell ⟨g, 8, none⟩ vU') B g vL vU' pv { s with U := U' } ps := by
 obtain ⟨cs, hb, hc⟩ := h.blk
 have hon := Only.set1 w g 8 vU'
 have hkb := KeepB.of_blk (U := 5) hb (by decide) h.base hon
 refine ⟨⟨_, hb.set_ 8 vU', fun i hi => ?_⟩, ownsRow_only h.L hon (fun k hk e => by subst e; exact blk_differs hb h.L (by decide) hk), ownsRow_only ho hon (fun k hk e => by subst e; exact blk_differs hb ho (by decide) hk), h.map, fun p hp => (h.vals p hp).keep hkb, h.place, h.base⟩
 have hci := hc i hi
 have hsz := (Array.getElem?_eq_some_iff.1 hci).1
 rw [Array.getElem?_setIfInBounds]
 by_cases h8 : 8 = i
 ·subst h8
  rw [if_pos rfl, if_pos hsz]
  rfl
 ·rw [if_neg h8, hci]
  unfold kcell
  by_cases h9 : i = 8
  ·exact absurd h9.symm h8
  ·simp only [if_neg h9]
def UseRet (B g : Nat) (vL : Value) (pv : Nat → Int) (s : PJ) (ps : List (EntV × Value)) (w : World) (e : Ending) (w' : World) : Prop :=
 ∃ vU', e = .returned (.tuple #[]) ∧ KRep w' B g vL vU' pv s ps ∧ Only (fun k => k = g) w w'
set_option maxRecDepth 100000 in
set_option maxHeartbeats 2000000 in
theorem kUse_any (B g : Nat) (vL vU : Value) (pv : Nat → Int) (s : PJ) (ps : List (EntV × Value)) (b : Int) (w : World) (h : KRep w B g vL vU pv s ps) (hn : s.U.length ≤ 100000) (hB : B ≤ w.heap.size) :
  Calls Tryz.prog 58 #[.pointer (some ⟨g, 0, none⟩), .int .u64 b] w (UseRet B g vL pv (useP s b) ps w) := by
 obtain ⟨i0, hi0, hz0, hz1, hz2⟩ := info_parts u64_info
 have HW := zH (kWithout_any B vU s.U b w h.U hn)
 obtain ⟨UA, uc, rfl, _, _⟩ := own_form h.U
 have x8 : w.cell? ⟨g, 8, none⟩ = some (.slice UA s.U.length uc) := h.cell 8 (by omega)
 have HH := zH h
 have HN := zH hn
 have HBs := zH hB
 clear h hn hB
 go_enter Tryz.func58, Tryz.ntmps58
 go_wp2_with fail
 refine HW.out.mono ?_
 rintro e w1 ⟨v1, rfl, ho1, hb1⟩
 obtain ⟨A1, c1, rfl, _, _⟩ := own_form ho1
 have HO1 := zH ho1
 have HB1 := zH hb1
 have hfl : (s.U.filter fun x => decide (x ≠ b)).length ≤ 100000 := Nat.le_trans (List.length_filter_le _ _) HN.out
 have HFl := zH hfl
 obtain ⟨F, hF⟩ : ∃ F, (s.U.filter fun x => decide (x ≠ b)) = F := ⟨_, rfl⟩
 have HFe := zH hF
 rw [hF] at HO1 HFl ⊢
 clear ho1 hb1 hfl hF x8
 go_wp2_with (at_builtin; go_loud (refine wpList_append_src _ rfl _ _ _ rfl w.heap.size 22 i0 _ 1 8 Tryz.underlying57 hi0 hz0 hz1 hz2 rfl (by decide) _ F.length (ucs F) rfl (own_later' HO1.out ((zL _ _).alloc (zN _) _)) (some ⟨w1.heap.size, 0, none⟩) 1 1 [.int .u64 b] rfl (src_one w1 _ _) (ucs_one [b]) (by have := HFl.out; unfold maxLen; omega) (by have := HFl.out; omega) (by have := HB1.out.size; simp; omega) ?_; intro v2 w2 hown2 hg2 hat2; have HB2 : Hid (Below w.heap.size w w2) := zH ((HB1.out.alloc HB1.out.size _).grown hg2 (HB1.out.alloc HB1.out.size _).size (fun k hk => (row_heap' HO1.out hk).1)); have HO2 := zH hown2; have HK2 := zH (HH.out.below HB2.out); have xk := HK2.out.cell 8 (by omega); have xf := HK2.out.frozen8; obtain ⟨A2, c2, rfl, _, _⟩ := own_form hown2; clear hown2 hg2 hat2))
 refine bodyPost_end (v := .tuple #[]) (results_none rfl _ _ _) rfl ⟨.slice A2 (F.length + 1) c2, rfl, ?_, ?_⟩
 ·have hrow : w2.ownsRow B 22 1 (.slice A2 (F.length + 1) c2) (F ++ [b]).length (ucs (F ++ [b])) := by
   rw [List.length_append, List.length_singleton, show ucs (F ++ [b]) = ucs F ++ [.int .u64 b] by simp [ucs]]
   exact ownsRow_base HO2.out HBs.out
  rw [show useP s b = { s with U := F ++ [b] } by rw [← HFe.out]; rfl]
  exact HK2.out.setU hrow
 ·exact (Only.of_below (S := fun k => k = g) HB2.out).setCell (p := ⟨g, 8, none⟩) (.inl rfl) _
end Go.Proofs.YtnabbimompapfaaGreat
namespace Go.Proofs.YtnabbimompapfaaGreat
open Go Go.RowKit
set_option maxHeartbeats 4000000 in
theorem kRight_none (B g : Nat) (vL vU : Value) (pv : Nat → Int) (s : PJ) (ps : List (EntV × Value)) (o : OpV) (A : Option Addr) (n c : Nat) (t : Int) (w : World)
  (h1 : ¬ (o.kind = 1 ∨ o.kind = 2 ∨ o.kind = 3 ∨ o.kind = 4 ∨ o.kind = 5 ∨ o.kind = 6)) (h8 : o.kind ≠ 8) (h11 : o.kind ≠ 11) (h12 : ¬ (o.kind = 12 ∨ o.kind = 13 ∨ o.kind = 14)) :
  Calls Tryz.prog 25 #[.pointer (some ⟨g, 0, none⟩), opv o (.slice A n c), .int .u64 t] w fun e w' => e = .returned (.int .i64 (rightP s o t)) ∧ Below w.heap.size w w' := by
 have HS := zH (show rightP s o t = 0 by unfold rightP; rw [if_neg h1, if_neg h8, if_neg h11, if_neg h12])
 have q1 : (o.kind == 1) = false := by rw [beq_eq_false_iff_ne]; omega
 have q2 : (o.kind == 2) = false := by rw [beq_eq_false_iff_ne]; omega
 have q3 : (o.kind == 3) = false := by rw [beq_eq_false_iff_ne]; omega
 have q4 : (o.kind == 4) = false := by rw [beq_eq_false_iff_ne]; omega
 have q5 : (o.kind == 5) = false := by rw [beq_eq_false_iff_ne]; omega
 have q6 : (o.kind == 6) = false := by rw [beq_eq_false_iff_ne]; omega
 have q8 : (o.kind == 8) = false := by rw [beq_eq_false_iff_ne]; omega
 have q11 : (o.kind == 11) = false := by rw [beq_eq_false_iff_ne]; omega
 have q12 : (o.kind == 12) = false := by rw [beq_eq_false_iff_ne]; omega
 have q13 : (o.kind == 13) = false := by rw [beq_eq_false_iff_ne]; omega
 have q14 : (o.kind == 14) = false := by rw [beq_eq_false_iff_ne]; omega
 unfold opv opc
 clear h1 h8 h11 h12
 go_enter Tryz.func25, Tryz.ntmps25
 go_wp2_with fail
 go_ret
 first | exact ⟨by rw [HS.out]; rfl, (zL _ _).alloc (zN _) _⟩ | exact ⟨rfl, (zL _ _).alloc (zN _) _⟩
set_option maxHeartbeats 4000000 in
theorem kRight_open (B g : Nat) (vL vU : Value) (pv : Nat → Int) (s : PJ) (ps : List (EntV × Value)) (o : OpV) (A : Option Addr) (n c : Nat) (t : Int) (w : World) (h : KRep w B g vL vU pv s ps) (hp : s.pl.length = 64) (h11 : o.kind = 11) :
  Calls Tryz.prog 25 #[.pointer (some ⟨g, 0, none⟩), opv o (.slice A n c), .int .u64 t] w fun e w' => e = .returned (.int .i64 (rightP s o t)) ∧ Below w.heap.size w w' := by
 have HF := zH (fun ob => kFree_any B g vL vU pv s ps (w.alloc ob) (h.below ((zL _ _).alloc (zN _) _)) hp)
 unfold opv opc
 by_cases hf : freeP s.pl = 64
 ·have HS := zH (show rightP s o t = 7 by unfold rightP; simp [h11, hf])
  rw [hf] at HF
  rw [h11]
  clear h hp h11 hf
  go_enter Tryz.func25, Tryz.ntmps25
  go_wp2_with fail
  refine (HF.out _).mono ?_
  rintro e w1 ⟨rfl, hw⟩
  subst hw
  go_wp2_with fail
  go_ret
  first | exact ⟨by rw [HS.out]; rfl, (zL _ _).alloc (zN _) _⟩ | exact ⟨rfl, (zL _ _).alloc (zN _) _⟩
 ·have HS := zH (show rightP s o t = 0 by unfold rightP; simp [h11, hf])
  have hfb : ((freeP s.pl : Int) == 64) = false := by rw [beq_eq_false_iff_ne]; omega
  rw [h11]
  clear h hp h11 hf
  go_enter Tryz.func25, Tryz.ntmps25
  go_wp2_with fail
  refine (HF.out _).mono ?_
  rintro e w1 ⟨rfl, hw⟩
  subst hw
  go_wp2_with fail
  go_ret
  first | exact ⟨by rw [HS.out]; rfl, (zL _ _).alloc (zN _) _⟩ | exact ⟨rfl, (zL _ _).alloc (zN _) _⟩
end Go.Proofs.YtnabbimompapfaaGreat
namespace Go.Proofs.YtnabbimompapfaaGreat
open Go Go.RowKit
structure RtX (w W : World) (B g : Nat) (vL vU : Value) (pv : Nat → Int) (s : PJ) (ps : List (EntV × Value)) (o : OpV) (V : Value) : Prop where
 k : KRep W B g vL vU pv s ps
 box : Blk W w.heap.size 43 (opc o V)
 below : Below w.heap.size w W
theorem RtX.adv {w W W2 : World} {B g : Nat} {vL vU : Value} {pv : Nat → Int} {s : PJ} {ps : List (EntV × Value)} {o : OpV} {V : Value} (h : RtX w W B g vL vU pv s ps o V) (hb : Below W.heap.size W W2) : RtX w W2 B g vL vU pv s ps o V :=
 ⟨h.k.below hb, h.box.below hb, h.below.trans (hb.mono h.below.size)⟩
theorem openP_idx {pl : List (Option Int)} {c b : Int} (h : openP pl c = some b) : ∃ i : Nat, c = i ∧ i < pl.length ∧ pl[i]? = some (some b) := by
 unfold openP at h
 split at h
 ·cases h
 ·rw [List.getD_eq_getElem?_getD] at h
  refine ⟨c.toNat, by omega, ?_, ?_⟩
  ·rcases Nat.lt_or_ge c.toNat pl.length with h1 | h1
   ·exact h1
   ·rw [List.getElem?_eq_none h1] at h; cases h
  ·cases hp : pl[c.toNat]? with
   |none => rw [hp] at h; cases h
   |some x => rw [hp] at h; simp at h; rw [h]
theorem op_cells' {W : World} {g : Nat} {a : OpV} {V : Value} (h : Blk W g 43 (opc a V)) : W.cell? ⟨g, 0, none⟩ = some (.int .i64 a.kind) ∧ W.cell? ⟨g, 2, none⟩ = some (.string a.key) ∧ W.cell? ⟨g, 3, none⟩ = some V ∧ W.cell? ⟨g, 4, none⟩ = some (.int .u64 a.ttl) ∧ W.cell? ⟨g, 7, none⟩ = some (.int .i64 a.cursor) :=
 ⟨h.cell 0 _ rfl, h.cell 2 _ rfl, h.cell 3 _ rfl, h.cell 4 _ rfl, h.cell 7 _ rfl⟩
set_option maxHeartbeats 4000000 in
theorem kRight_cur (B g : Nat) (vL vU : Value) (pv : Nat → Int) (s : PJ) (ps : List (EntV × Value)) (o : OpV) (A : Option Addr) (n c : Nat) (t : Int) (w : World) (h : KRep w B g vL vU pv s ps) (hp : s.pl.length = 64) (hk : o.kind = 13 ∨ o.kind = 14) :
  Calls Tryz.prog 25 #[.pointer (some ⟨g, 0, none⟩), opv o (.slice A n c), .int .u64 t] w fun e w' => e = .returned (.int .i64 (rightP s o t)) ∧ Below w.heap.size w w' := by
 obtain ⟨q, hq⟩ : ∃ q, (openP s.pl o.cursor).isSome = q := ⟨_, rfl⟩
 have HOp := zH (fun ob => hq ▸ kOpen_any B g vL vU pv s ps o.cursor (w.alloc ob) (h.below ((zL _ _).alloc (zN _) _)) hp)
 have HX : Hid (RtX w (w.alloc (.cells (opc o (.slice A n c)) 43)) B g vL vU pv s ps o (.slice A n c)) := zH ⟨h.below ((zL _ _).alloc (zN _) _), Blk.new _ _ _, (zL _ _).alloc (zN _) _⟩
 have q1 : (o.kind == 1) = false := by rw [beq_eq_false_iff_ne]; omega
 have q2 : (o.kind == 2) = false := by rw [beq_eq_false_iff_ne]; omega
 have q3 : (o.kind == 3) = false := by rw [beq_eq_false_iff_ne]; omega
 have q4 : (o.kind == 4) = false := by rw [beq_eq_false_iff_ne]; omega
 have q5 : (o.kind == 5) = false := by rw [beq_eq_false_iff_ne]; omega
 have q6 : (o.kind == 6) = false := by rw [beq_eq_false_iff_ne]; omega
 have q8 : (o.kind == 8) = false := by rw [beq_eq_false_iff_ne]; omega
 have q11 : (o.kind == 11) = false := by rw [beq_eq_false_iff_ne]; omega
 have q12 : (o.kind == 12) = false := by rw [beq_eq_false_iff_ne]; omega
 have HR : Hid (rightP s o t = if q then 0 else 9) := zH (by
  unfold rightP
  rw [if_neg (by omega), if_neg (by omega), if_neg (by omega), if_pos (by omega)]
  cases ho : openP s.pl o.cursor with
  |none => rw [ho] at hq; rw [← hq]; rfl
  |some b => rw [ho] at hq; rw [← hq]; dsimp only; rw [if_neg (by omega)]; rfl)
 have HKd := zH hk
 unfold opv
 unfold opc at HX ⊢
 clear h hp hq hk
 cases q with
 |false =>
  have HS := zH (show rightP s o t = 9 by rw [HR.out]; rfl)
  by_cases k13 : o.kind = 13
  ·have q13 : (o.kind == 13) = true := by simp [k13]
   clear k13
   go_enter Tryz.func25, Tryz.ntmps25
   go_wp2_with fail
   refine (HOp.out _).mono ?_
   rintro e w1 ⟨rfl, hw⟩
   subst hw
   go_wp2_with fail
   go_ret
   first | exact ⟨by rw [HS.out]; rfl, (zL _ _).alloc (zN _) _⟩ | exact ⟨rfl, (zL _ _).alloc (zN _) _⟩
  ·have q13 : (o.kind == 13) = false := by simp [k13]
   have q14 : (o.kind == 14) = true := by have := HKd.out; rw [beq_iff_eq]; omega
   clear k13
   go_enter Tryz.func25, Tryz.ntmps25
   go_wp2_with fail
   refine (HOp.out _).mono ?_
   rintro e w1 ⟨rfl, hw⟩
   subst hw
   go_wp2_with fail
   go_ret
   first | exact ⟨by rw [HS.out]; rfl, (zL _ _).alloc (zN _) _⟩ | exact ⟨rfl, (zL _ _).alloc (zN _) _⟩
 |true =>
  have HS := zH (show rightP s o t = 0 by rw [HR.out]; rfl)
  by_cases k13 : o.kind = 13
  ·have q13 : (o.kind == 13) = true := by simp [k13]
   clear k13
   go_enter Tryz.func25, Tryz.ntmps25
   go_wp2_with fail
   refine (HOp.out _).mono ?_
   rintro e w1 ⟨rfl, hw⟩
   subst hw
   go_upto_region 28 with fail
   obtain ⟨W0, hW0⟩ : ∃ W0, w.alloc (.cells #[.int .i64 o.kind, .int .u64 o.ticks, .string o.key, .slice A n c, .int .u64 o.ttl, .int .i64 o.count, .int .i64 o.bytes, .int .i64 o.cursor, .int .u64 o.birth] 43) = W0 := ⟨_, rfl⟩
   rw [hW0] at HX ⊢
   clear hW0
   refine wp_region_noPanic ?_
   refine wp_region_held_drew (S := fun W => RtX w W B g vL vU pv s ps o (.slice A n c)) (by kernel_rfl) (RtX.adv HX.out (zL _ _).drew) (fun hHeld => ?_)
   refine tk 0 (v := ?_) ?_ ?_
   rotate_left 1
   ·intro W hSw
    obtain ⟨z0, z2, z3, z4, z7⟩ := op_cells' hSw.box
    clear hSw
    go_simp
    try with_reducible rfl
   try dsimp only [zS, zB, zC]
   refine tk 1 (v := ?_) ?_ ?_
   rotate_left 1
   ·intro W hSw
    obtain ⟨z0, z2, z3, z4, z7⟩ := op_cells' hSw.box
    clear hSw
    go_simp
    try with_reducible rfl
   try dsimp only [zS, zB, zC]
   refine tk 2 (v := ?_) ?_ ?_
   rotate_left 1
   ·intro W hSw
    obtain ⟨z0, z2, z3, z4, z7⟩ := op_cells' hSw.box
    clear hSw
    go_simp
    try with_reducible rfl
   try dsimp only [zS, zB, zC]
   refine tk 3 (v := ?_) ?_ ?_
   rotate_left 1
   ·intro W hSw
    obtain ⟨z0, z2, z3, z4, z7⟩ := op_cells' hSw.box
    clear hSw
    go_simp
    try with_reducible rfl
   try dsimp only [zS, zB, zC]
   refine sk 4 ?_
   try dsimp only [zS, zB, zC]
   refine sk 5 ?_
   try dsimp only [zS, zB, zC]
   refine sk 6 ?_
   try dsimp only [zS, zB, zC]
   refine sk 7 ?_
   try dsimp only [zS, zB, zC]
   refine sk 8 ?_
   try dsimp only [zS, zB, zC]
   refine sk 9 ?_
   try dsimp only [zS, zB, zC]
   refine sk 10 ?_
   try dsimp only [zS, zB, zC]
   refine sk 11 ?_
   try dsimp only [zS, zB, zC]
   refine sk 12 ?_
   try dsimp only [zS, zB, zC]
   refine sk 13 ?_
   try dsimp only [zS, zB, zC]
   refine sk 14 ?_
   try dsimp only [zS, zB, zC]
   refine tk 15 (v := ?_) ?_ ?_
   rotate_left 1
   ·intro W hSw
    obtain ⟨z0, z2, z3, z4, z7⟩ := op_cells' hSw.box
    clear hSw
    go_simp
    try with_reducible rfl
   try dsimp only [zS, zB, zC]
   refine wpAnyH_done (by kernel_rfl) ?_ _
   refine NoPanic.normal ?_
   have HE := zH hHeld.below
   clear hHeld
   go_wp2_with fail
   go_ret
   first | exact ⟨by rw [HS.out]; rfl, HE.out⟩ | exact ⟨rfl, HE.out⟩
  ·have q13 : (o.kind == 13) = false := by simp [k13]
   have q14 : (o.kind == 14) = true := by have := HKd.out; rw [beq_iff_eq]; omega
   clear k13
   go_enter Tryz.func25, Tryz.ntmps25
   go_wp2_with fail
   refine (HOp.out _).mono ?_
   rintro e w1 ⟨rfl, hw⟩
   subst hw
   go_upto_region 28 with fail
   obtain ⟨W0, hW0⟩ : ∃ W0, w.alloc (.cells #[.int .i64 o.kind, .int .u64 o.ticks, .string o.key, .slice A n c, .int .u64 o.ttl, .int .i64 o.count, .int .i64 o.bytes, .int .i64 o.cursor, .int .u64 o.birth] 43) = W0 := ⟨_, rfl⟩
   rw [hW0] at HX ⊢
   clear hW0
   refine wp_region_noPanic ?_
   refine wp_region_held_drew (S := fun W => RtX w W B g vL vU pv s ps o (.slice A n c)) (by kernel_rfl) (RtX.adv HX.out (zL _ _).drew) (fun hHeld => ?_)
   refine tk 0 (v := ?_) ?_ ?_
   rotate_left 1
   ·intro W hSw
    obtain ⟨z0, z2, z3, z4, z7⟩ := op_cells' hSw.box
    clear hSw
    go_simp
    try with_reducible rfl
   try dsimp only [zS, zB, zC]
   refine tk 1 (v := ?_) ?_ ?_
   rotate_left 1
   ·intro W hSw
    obtain ⟨z0, z2, z3, z4, z7⟩ := op_cells' hSw.box
    clear hSw
    go_simp
    try with_reducible rfl
   try dsimp only [zS, zB, zC]
   refine tk 2 (v := ?_) ?_ ?_
   rotate_left 1
   ·intro W hSw
    obtain ⟨z0, z2, z3, z4, z7⟩ := op_cells' hSw.box
    clear hSw
    go_simp
    try with_reducible rfl
   try dsimp only [zS, zB, zC]
   refine tk 3 (v := ?_) ?_ ?_
   rotate_left 1
   ·intro W hSw
    obtain ⟨z0, z2, z3, z4, z7⟩ := op_cells' hSw.box
    clear hSw
    go_simp
    try with_reducible rfl
   try dsimp only [zS, zB, zC]
   refine sk 4 ?_
   try dsimp only [zS, zB, zC]
   refine sk 5 ?_
   try dsimp only [zS, zB, zC]
   refine sk 6 ?_
   try dsimp only [zS, zB, zC]
   refine sk 7 ?_
   try dsimp only [zS, zB, zC]
   refine sk 8 ?_
   try dsimp only [zS, zB, zC]
   refine sk 9 ?_
   try dsimp only [zS, zB, zC]
   refine sk 10 ?_
   try dsimp only [zS, zB, zC]
   refine sk 11 ?_
   try dsimp only [zS, zB, zC]
   refine sk 12 ?_
   try dsimp only [zS, zB, zC]
   refine sk 13 ?_
   try dsimp only [zS, zB, zC]
   refine sk 14 ?_
   try dsimp only [zS, zB, zC]
   refine tk 15 (v := ?_) ?_ ?_
   rotate_left 1
   ·intro W hSw
    obtain ⟨z0, z2, z3, z4, z7⟩ := op_cells' hSw.box
    clear hSw
    go_simp
    try with_reducible rfl
   try dsimp only [zS, zB, zC]
   refine wpAnyH_done (by kernel_rfl) ?_ _
   refine NoPanic.normal ?_
   have HE := zH hHeld.below
   clear hHeld
   go_wp2_with fail
   go_ret
   first | exact ⟨by rw [HS.out]; rfl, HE.out⟩ | exact ⟨rfl, HE.out⟩
end Go.Proofs.YtnabbimompapfaaGreat
namespace Go.Proofs.YtnabbimompapfaaGreat
open Go Go.RowKit
theorem idx_after {ps : List (EntV × Value)} {L : List EntV} (h : ps.map Prod.fst = L) (b t : Int) :
  (afterP L b t = none ∧ idxI (aftB b t) ps = -1) ∨ ∃ (j : Nat) (p : EntV × Value), ps[j]? = some p ∧ afterP L b t = some p.1 ∧ idxI (aftB b t) ps = (j : Int) := by
 subst h
 unfold afterP
 rw [List.find?_map]
 have e : (ps.find? ((fun e : EntV => decide (b < e.birth) && !dueP e.dl t) ∘ Prod.fst)) = ps.find? (aftB b t) := rfl
 rw [e]
 cases hf : ps.findIdx? (aftB b t) with
 |none =>
  left
  refine ⟨?_, by unfold idxI; rw [hf]⟩
  have := List.findIdx?_eq_none_iff.1 hf
  rw [List.find?_eq_none.2 (fun x hx => by rw [this x hx]; decide)]; rfl
 |some j =>
  right
  obtain ⟨hl, hp, hj⟩ := List.findIdx?_eq_some_iff_getElem.1 hf
  refine ⟨j, ps[j], List.getElem?_eq_getElem hl, ?_, by unfold idxI; rw [hf]⟩
  have : ps.find? (aftB b t) = some ps[j] := by
   rw [List.find?_eq_some_iff_getElem]
   exact ⟨hp, j, hl, rfl, fun k hk => by have := hj k hk; simpa using this⟩
  rw [this]; rfl
set_option maxRecDepth 100000 in
set_option maxHeartbeats 4000000 in
theorem kRight_next (B g : Nat) (vL vU : Value) (pv : Nat → Int) (s : PJ) (ps : List (EntV × Value)) (o : OpV) (A : Option Addr) (n c : Nat) (t : Int) (w : World) (h : KRep w B g vL vU pv s ps) (hp : s.pl.length = 64) (hn : ps.length ≤ 100000) (hk : o.kind = 12) :
  Calls Tryz.prog 25 #[.pointer (some ⟨g, 0, none⟩), opv o (.slice A n c), .int .u64 t] w fun e w' => e = .returned (.int .i64 (rightP s o t)) ∧ Below w.heap.size w w' := by
 have hHO := fun ob => kOpen_any B g vL vU pv s ps o.cursor (w.alloc ob) (h.below ((zL _ _).alloc (zN _) _)) hp
 have HX : Hid (RtX w (w.alloc (.cells (opc o (.slice A n c)) 43)) B g vL vU pv s ps o (.slice A n c)) := zH ⟨h.below ((zL _ _).alloc (zN _) _), Blk.new _ _ _, (zL _ _).alloc (zN _) _⟩
 have HKd := zH hk
 unfold opv
 unfold opc at HX ⊢
 cases ho : openP s.pl o.cursor with
 |none =>
  rw [ho] at hHO
  have HOp := zH hHO
  have HS := zH (show rightP s o t = 9 by unfold rightP; simp [hk, ho])
  rw [hk]
  clear h hp hn hk hHO ho HX
  go_enter Tryz.func25, Tryz.ntmps25
  go_wp2_with fail
  refine (HOp.out _).mono ?_
  rintro e w1 ⟨rfl, hw⟩
  subst hw
  go_wp2_with fail
  go_ret
  first | exact ⟨by rw [HS.out]; rfl, (zL _ _).alloc (zN _) _⟩ | exact ⟨rfl, (zL _ _).alloc (zN _) _⟩
 |some b =>
  rw [ho] at hHO
  have HOp := zH hHO
  obtain ⟨i, hi, hil, hpi⟩ := openP_idx ho
  have HCi := zH hi
  have hpv := h.place i b hpi
  have HPl : Hid (∀ W, KRep W B g vL vU pv s ps → W.cell? ⟨g, 73 + i, none⟩ = some (.int .u64 b)) := zH (fun W hW => by
   have := hW.cell (73 + i) (by omega)
   rw [kcell_place, hpv] at this
   exact this)
  have HN := zH hn
  have hi64 : (i : Int) < 64 := by omega
  obtain ⟨x, hx⟩ : ∃ x, idxI (aftB b t) ps = x := ⟨_, rfl⟩
  have HXi := zH hx
  have hR : rightP s o t = if x < 0 then 14 else 0 := by
   unfold rightP
   simp only [hk, ho]
   rcases idx_after h.map b t with ⟨h1, h2⟩ | ⟨j, p, _, h1, h2⟩
   ·rw [h1]; rw [← hx, h2]; rfl
   ·rw [h1]; rw [← hx, h2]
    rw [if_neg (show ¬ ((j : Int) < 0) by omega)]; rfl
  have HR := zH hR
  rw [hk]
  rw [hk, hi] at HX
  rw [hi] at HOp ⊢
  clear h hp hn hk hHO ho hi hil hpi hpv hx hR
  go_enter Tryz.func25, Tryz.ntmps25
  go_wp2_with fail
  refine (HOp.out _).mono ?_
  rintro e w1 ⟨rfl, hw⟩
  subst hw
  go_upto_region 28 with fail
  obtain ⟨W0, hW0⟩ : ∃ W0, w.alloc (.cells #[.int .i64 12, .int .u64 o.ticks, .string o.key, .slice A n c, .int .u64 o.ttl, .int .i64 o.count, .int .i64 o.bytes, .int .i64 (i : Int), .int .u64 o.birth] 43) = W0 := ⟨_, rfl⟩
  rw [hW0] at HX ⊢
  clear hW0
  refine wp_region_noPanic ?_
  refine wp_region_held_drew (S := fun W => RtX w W B g vL vU pv s ps o (.slice A n c)) (by kernel_rfl) (RtX.adv HX.out (zL _ _).drew) (fun hHeld => ?_)
  refine tk 0 (v := ?_) ?_ ?_
  rotate_left 1
  ·intro W hSw
   obtain ⟨z0, z2, z3, z4, z7⟩ := op_cells' hSw.box; rw [HKd.out] at z0; rw [HCi.out] at z7; have xp := HPl.out _ hSw.k
   clear hSw
   go_simp
   try with_reducible rfl
  try dsimp only [zS, zB, zC]
  refine tk 1 (v := ?_) ?_ ?_
  rotate_left 1
  ·intro W hSw
   obtain ⟨z0, z2, z3, z4, z7⟩ := op_cells' hSw.box; rw [HKd.out] at z0; rw [HCi.out] at z7; have xp := HPl.out _ hSw.k
   clear hSw
   go_simp
   try with_reducible rfl
  try dsimp only [zS, zB, zC]
  refine tk 2 (v := ?_) ?_ ?_
  rotate_left 1
  ·intro W hSw
   obtain ⟨z0, z2, z3, z4, z7⟩ := op_cells' hSw.box; rw [HKd.out] at z0; rw [HCi.out] at z7; have xp := HPl.out _ hSw.k
   clear hSw
   go_simp
   try with_reducible rfl
  try dsimp only [zS, zB, zC]
  refine tk 3 (v := ?_) ?_ ?_
  rotate_left 1
  ·intro W hSw
   obtain ⟨z0, z2, z3, z4, z7⟩ := op_cells' hSw.box; rw [HKd.out] at z0; rw [HCi.out] at z7; have xp := HPl.out _ hSw.k
   clear hSw
   go_simp
   try with_reducible rfl
  try dsimp only [zS, zB, zC]
  refine tk 4 (v := ?_) ?_ ?_
  rotate_left 1
  ·intro W hSw
   obtain ⟨z0, z2, z3, z4, z7⟩ := op_cells' hSw.box; rw [HKd.out] at z0; rw [HCi.out] at z7; have xp := HPl.out _ hSw.k
   clear hSw
   go_simp
   try with_reducible rfl
  try dsimp only [zS, zB, zC]
  refine tk 5 (v := ?_) ?_ ?_
  rotate_left 1
  ·intro W hSw
   obtain ⟨z0, z2, z3, z4, z7⟩ := op_cells' hSw.box; rw [HKd.out] at z0; rw [HCi.out] at z7; have xp := HPl.out _ hSw.k
   clear hSw
   go_simp
   try with_reducible rfl
  try dsimp only [zS, zB, zC]
  refine tk 6 (v := ?_) ?_ ?_
  rotate_left 1
  ·intro W hSw
   obtain ⟨z0, z2, z3, z4, z7⟩ := op_cells' hSw.box; rw [HKd.out] at z0; rw [HCi.out] at z7; have xp := HPl.out _ hSw.k
   clear hSw
   go_simp
   try with_reducible rfl
  try dsimp only [zS, zB, zC]
  refine tk 7 (v := ?_) ?_ ?_
  rotate_left 1
  ·intro W hSw
   obtain ⟨z0, z2, z3, z4, z7⟩ := op_cells' hSw.box; rw [HKd.out] at z0; rw [HCi.out] at z7; have xp := HPl.out _ hSw.k
   clear hSw
   go_simp
   try with_reducible rfl
  try dsimp only [zS, zB, zC]
  refine tk 8 (v := ?_) ?_ ?_
  rotate_left 1
  ·intro W hSw
   obtain ⟨z0, z2, z3, z4, z7⟩ := op_cells' hSw.box; rw [HKd.out] at z0; rw [HCi.out] at z7; have xp := HPl.out _ hSw.k
   clear hSw
   go_simp
   try with_reducible rfl
  try dsimp only [zS, zB, zC]
  refine tk 9 (v := ?_) ?_ ?_
  rotate_left 1
  ·intro W hSw
   obtain ⟨z0, z2, z3, z4, z7⟩ := op_cells' hSw.box; rw [HKd.out] at z0; rw [HCi.out] at z7; have xp := HPl.out _ hSw.k
   clear hSw
   go_simp
   try with_reducible rfl
  try dsimp only [zS, zB, zC]
  refine tk 10 (v := ?_) ?_ ?_
  rotate_left 1
  ·intro W hSw
   obtain ⟨z0, z2, z3, z4, z7⟩ := op_cells' hSw.box; rw [HKd.out] at z0; rw [HCi.out] at z7; have xp := HPl.out _ hSw.k
   clear hSw
   go_simp
   try with_reducible rfl
  try dsimp only [zS, zB, zC]
  refine tk 11 (v := ?_) ?_ ?_
  rotate_left 1
  ·intro W hSw
   obtain ⟨z0, z2, z3, z4, z7⟩ := op_cells' hSw.box; rw [HKd.out] at z0; rw [HCi.out] at z7; have xp := HPl.out _ hSw.k
   clear hSw
   go_simp
   try with_reducible rfl
  try dsimp only [zS, zB, zC]
  refine tk 12 (v := ?_) ?_ ?_
  rotate_left 1
  ·intro W hSw
   obtain ⟨z0, z2, z3, z4, z7⟩ := op_cells' hSw.box; rw [HKd.out] at z0; rw [HCi.out] at z7; have xp := HPl.out _ hSw.k
   clear hSw
   go_simp
   try with_reducible rfl
  try dsimp only [zS, zB, zC]
  refine wpAnyH_ready (rs := [13]) (by kernel_rfl) (by simp) ?_
  refine AllReadyH.cons (o := ⟨_, _, _, _, _, _⟩) rfl (fun F hF => ?_) AllReadyH.nil
  go_simp
  refine (kAfter_any B g vL vU pv s ps b t _ hHeld.k HN.out).mono ?_
  rintro e w2 ⟨rfl, hw2⟩
  subst hw2
  rw [HXi.out]
  have HX2 := zH hHeld
  clear hHeld
  go_wp2_with fail
  refine hF.out _ _ HX2.out (fun hHeld => ?_)
  clear hF F
  try simp only [Act.put, zA, zB, zC]
  by_cases hx0 : x < 0
  ·have HS := zH (show rightP s o t = 14 by rw [HR.out, if_pos hx0])
   refine tk 14 (v := ?_) ?_ ?_
   rotate_left 1
   ·intro W hSw
    obtain ⟨z0, z2, z3, z4, z7⟩ := op_cells' hSw.box; rw [HKd.out] at z0; rw [HCi.out] at z7; have xp := HPl.out _ hSw.k
    clear hSw
    go_simp
    try with_reducible rfl
   try dsimp only [zS, zB, zC]
   refine tk 15 (v := ?_) ?_ ?_
   rotate_left 1
   ·intro W hSw
    obtain ⟨z0, z2, z3, z4, z7⟩ := op_cells' hSw.box; rw [HKd.out] at z0; rw [HCi.out] at z7; have xp := HPl.out _ hSw.k
    clear hSw
    go_simp
    try with_reducible rfl
   try dsimp only [zS, zB, zC]
   refine wpAnyH_done (by kernel_rfl) ?_ _
   refine NoPanic.normal ?_
   have HE := zH hHeld.below
   clear hHeld HX2
   go_wp2_with fail
   go_ret
   first | exact ⟨by rw [HS.out]; rfl, HE.out⟩ | exact ⟨rfl, HE.out⟩
  ·have HS := zH (show rightP s o t = 0 by rw [HR.out, if_neg hx0])
   have hxd : decide (x < 0) = false := decide_eq_false hx0
   refine tk 14 (v := ?_) ?_ ?_
   rotate_left 1
   ·intro W hSw
    obtain ⟨z0, z2, z3, z4, z7⟩ := op_cells' hSw.box; rw [HKd.out] at z0; rw [HCi.out] at z7; have xp := HPl.out _ hSw.k
    clear hSw
    go_simp
    try with_reducible rfl
   try dsimp only [zS, zB, zC]
   refine tk 15 (v := ?_) ?_ ?_
   rotate_left 1
   ·intro W hSw
    obtain ⟨z0, z2, z3, z4, z7⟩ := op_cells' hSw.box; rw [HKd.out] at z0; rw [HCi.out] at z7; have xp := HPl.out _ hSw.k
    clear hSw
    go_simp
    try with_reducible rfl
   try dsimp only [zS, zB, zC]
   refine wpAnyH_done (by kernel_rfl) ?_ _
   refine NoPanic.normal ?_
   have HE := zH hHeld.below
   clear hHeld HX2
   go_wp2_with fail
   go_ret
   first | exact ⟨by rw [HS.out]; rfl, HE.out⟩ | exact ⟨rfl, HE.out⟩
end Go.Proofs.YtnabbimompapfaaGreat
namespace Go.Proofs.YtnabbimompapfaaGreat
open Go Go.RowKit
set_option maxHeartbeats 4000000 in
theorem kRight_k3 (B g : Nat) (vL vU : Value) (pv : Nat → Int) (s : PJ) (ps : List (EntV × Value)) (o : OpV) (A : Option Addr) (n c : Nat) (t : Int) (w : World) (hks : o.key.size ≤ maxLen) (hk : o.kind = 3) :
  Calls Tryz.prog 25 #[.pointer (some ⟨g, 0, none⟩), opv o (.slice A n c), .int .u64 t] w fun e w' => e = .returned (.int .i64 (rightP s o t)) ∧ Below w.heap.size w w' := by
 have HKs := zH hks
 unfold opv opc
 cases hko : keyB o.key with
 |false =>
  have HKo := zH hko
  have hko2 : keyOK o.key = false := hko
  have HS := zH (show rightP s o t = 2 by unfold rightP; simp [hk, hko2])
  rw [hk]
  clear hks hk hko hko2
  go_enter Tryz.func25, Tryz.ntmps25
  go_wp2_with fail
  refine (refValidKey_any _ _ HKs.out).mono ?_
  rw [HKo.out]
  rintro e w1 ⟨rfl, hw⟩
  subst hw
  go_wp2_with fail
  go_ret
  first | exact ⟨by rw [HS.out]; rfl, (zL _ _).alloc (zN _) _⟩ | exact ⟨rfl, (zL _ _).alloc (zN _) _⟩
 |true =>
  have HKo := zH hko
  have hko2 : keyOK o.key = true := hko
  have HS := zH (show rightP s o t = 0 by unfold rightP; simp [hk, hko2])
  rw [hk]
  clear hks hk hko hko2
  go_enter Tryz.func25, Tryz.ntmps25
  go_wp2_with fail
  refine (refValidKey_any _ _ HKs.out).mono ?_
  rw [HKo.out]
  rintro e w1 ⟨rfl, hw⟩
  subst hw
  go_wp2_with fail
  go_ret
  first | exact ⟨by rw [HS.out]; rfl, (zL _ _).alloc (zN _) _⟩ | exact ⟨rfl, (zL _ _).alloc (zN _) _⟩
set_option maxHeartbeats 4000000 in
theorem kRight_k4 (B g : Nat) (vL vU : Value) (pv : Nat → Int) (s : PJ) (ps : List (EntV × Value)) (o : OpV) (A : Option Addr) (n c : Nat) (t : Int) (w : World) (hks : o.key.size ≤ maxLen) (hk : o.kind = 4) :
  Calls Tryz.prog 25 #[.pointer (some ⟨g, 0, none⟩), opv o (.slice A n c), .int .u64 t] w fun e w' => e = .returned (.int .i64 (rightP s o t)) ∧ Below w.heap.size w w' := by
 have HKs := zH hks
 unfold opv opc
 cases hko : keyB o.key with
 |false =>
  have HKo := zH hko
  have hko2 : keyOK o.key = false := hko
  have HS := zH (show rightP s o t = 2 by unfold rightP; simp [hk, hko2])
  rw [hk]
  clear hks hk hko hko2
  go_enter Tryz.func25, Tryz.ntmps25
  go_wp2_with fail
  refine (refValidKey_any _ _ HKs.out).mono ?_
  rw [HKo.out]
  rintro e w1 ⟨rfl, hw⟩
  subst hw
  go_wp2_with fail
  go_ret
  first | exact ⟨by rw [HS.out]; rfl, (zL _ _).alloc (zN _) _⟩ | exact ⟨rfl, (zL _ _).alloc (zN _) _⟩
 |true =>
  have HKo := zH hko
  have hko2 : keyOK o.key = true := hko
  have HS := zH (show rightP s o t = 0 by unfold rightP; simp [hk, hko2])
  rw [hk]
  clear hks hk hko hko2
  go_enter Tryz.func25, Tryz.ntmps25
  go_wp2_with fail
  refine (refValidKey_any _ _ HKs.out).mono ?_
  rw [HKo.out]
  rintro e w1 ⟨rfl, hw⟩
  subst hw
  go_wp2_with fail
  go_ret
  first | exact ⟨by rw [HS.out]; rfl, (zL _ _).alloc (zN _) _⟩ | exact ⟨rfl, (zL _ _).alloc (zN _) _⟩
set_option maxHeartbeats 4000000 in
theorem kRight_k6 (B g : Nat) (vL vU : Value) (pv : Nat → Int) (s : PJ) (ps : List (EntV × Value)) (o : OpV) (A : Option Addr) (n c : Nat) (t : Int) (w : World) (hks : o.key.size ≤ maxLen) (hk : o.kind = 6) :
  Calls Tryz.prog 25 #[.pointer (some ⟨g, 0, none⟩), opv o (.slice A n c), .int .u64 t] w fun e w' => e = .returned (.int .i64 (rightP s o t)) ∧ Below w.heap.size w w' := by
 have HKs := zH hks
 unfold opv opc
 cases hko : keyB o.key with
 |false =>
  have HKo := zH hko
  have hko2 : keyOK o.key = false := hko
  have HS := zH (show rightP s o t = 2 by unfold rightP; simp [hk, hko2])
  rw [hk]
  clear hks hk hko hko2
  go_enter Tryz.func25, Tryz.ntmps25
  go_wp2_with fail
  refine (refValidKey_any _ _ HKs.out).mono ?_
  rw [HKo.out]
  rintro e w1 ⟨rfl, hw⟩
  subst hw
  go_wp2_with fail
  go_ret
  first | exact ⟨by rw [HS.out]; rfl, (zL _ _).alloc (zN _) _⟩ | exact ⟨rfl, (zL _ _).alloc (zN _) _⟩
 |true =>
  have HKo := zH hko
  have hko2 : keyOK o.key = true := hko
  have HS := zH (show rightP s o t = 0 by unfold rightP; simp [hk, hko2])
  rw [hk]
  clear hks hk hko hko2
  go_enter Tryz.func25, Tryz.ntmps25
  go_wp2_with fail
  refine (refValidKey_any _ _ HKs.out).mono ?_
  rw [HKo.out]
  rintro e w1 ⟨rfl, hw⟩
  subst hw
  go_wp2_with fail
  go_ret
  first | exact ⟨by rw [HS.out]; rfl, (zL _ _).alloc (zN _) _⟩ | exact ⟨rfl, (zL _ _).alloc (zN _) _⟩
set_option maxHeartbeats 4000000 in
theorem kRight_k5 (B g : Nat) (vL vU : Value) (pv : Nat → Int) (s : PJ) (ps : List (EntV × Value)) (o : OpV) (A : Option Addr) (n c : Nat) (t : Int) (w : World) (hks : o.key.size ≤ maxLen) (hk : o.kind = 5) :
  Calls Tryz.prog 25 #[.pointer (some ⟨g, 0, none⟩), opv o (.slice A n c), .int .u64 t] w fun e w' => e = .returned (.int .i64 (rightP s o t)) ∧ Below w.heap.size w w' := by
 have HKs := zH hks
 unfold opv opc
 cases hko : keyB o.key with
 |false =>
  have HKo := zH hko
  have hko2 : keyOK o.key = false := hko
  have HS := zH (show rightP s o t = 2 by unfold rightP; simp [hk, hko2])
  rw [hk]
  clear hks hk hko hko2
  go_enter Tryz.func25, Tryz.ntmps25
  go_wp2_with fail
  refine (refValidKey_any _ _ HKs.out).mono ?_
  rw [HKo.out]
  rintro e w1 ⟨rfl, hw⟩
  subst hw
  go_wp2_with fail
  go_ret
  first | exact ⟨by rw [HS.out]; rfl, (zL _ _).alloc (zN _) _⟩ | exact ⟨rfl, (zL _ _).alloc (zN _) _⟩
 |true =>
  have HKo := zH hko
  have hko2 : keyOK o.key = true := hko
  by_cases ht : o.ttl = 0
  ·have HS := zH (show rightP s o t = 2 by unfold rightP; simp [hk, hko2, ht])
   have htb : (o.ttl == 0) = true := by simp [ht]
   rw [hk]
   clear hks hk hko hko2 ht
   go_enter Tryz.func25, Tryz.ntmps25
   go_wp2_with fail
   refine (refValidKey_any _ _ HKs.out).mono ?_
   rw [HKo.out]
   rintro e w1 ⟨rfl, hw⟩
   subst hw
   go_wp2_with fail
   go_ret
   first | exact ⟨by rw [HS.out]; rfl, (zL _ _).alloc (zN _) _⟩ | exact ⟨rfl, (zL _ _).alloc (zN _) _⟩
  ·have HS := zH (show rightP s o t = 0 by unfold rightP; simp [hk, hko2, ht])
   have htb : (o.ttl == 0) = false := by simp [ht]
   rw [hk]
   clear hks hk hko hko2 ht
   go_enter Tryz.func25, Tryz.ntmps25
   go_wp2_with fail
   refine (refValidKey_any _ _ HKs.out).mono ?_
   rw [HKo.out]
   rintro e w1 ⟨rfl, hw⟩
   subst hw
   go_wp2_with fail
   go_ret
   first | exact ⟨by rw [HS.out]; rfl, (zL _ _).alloc (zN _) _⟩ | exact ⟨rfl, (zL _ _).alloc (zN _) _⟩
set_option maxRecDepth 100000 in
set_option maxHeartbeats 4000000 in
theorem kRight_k1 (B g : Nat) (vL vU : Value) (pv : Nat → Int) (s : PJ) (ps : List (EntV × Value)) (o : OpV) (A : Option Addr) (c : Nat) (t : Int) (w : World) (h : KRep w B g vL vU pv s ps) (hks : o.key.size ≤ maxLen) (hvl : o.val.length ≤ maxLen) (hk : o.kind = 1) :
  Calls Tryz.prog 25 #[.pointer (some ⟨g, 0, none⟩), opv o (.slice A o.val.length c), .int .u64 t] w fun e w' => e = .returned (.int .i64 (rightP s o t)) ∧ Below w.heap.size w w' := by
 unfold maxLen at hvl
 have HKs := zH hks
 unfold opv opc
 cases hko : keyB o.key with
 |false =>
  have HKo := zH hko
  have hko2 : keyOK o.key = false := hko
  have HS := zH (show rightP s o t = 2 by unfold rightP; simp [hk, hko2])
  rw [hk]
  clear h hks hk hko hko2
  go_enter Tryz.func25, Tryz.ntmps25
  go_wp2_with fail
  refine (refValidKey_any _ _ HKs.out).mono ?_
  rw [HKo.out]
  rintro e w1 ⟨rfl, hw⟩
  subst hw
  go_wp2_with fail
  go_ret
  first | exact ⟨by rw [HS.out]; rfl, (zL _ _).alloc (zN _) _⟩ | exact ⟨rfl, (zL _ _).alloc (zN _) _⟩
 |true =>
  have HKo := zH hko
  have hko2 : keyOK o.key = true := hko
  by_cases hl : 65536 < o.val.length
  ·have HS := zH (show rightP s o t = 5 by unfold rightP; simp [hk, hko2, hl])
   have hlI : (65536 : Int) < (o.val.length : Int) := by omega
   rw [hk]
   clear h hks hk hko hko2 hl
   go_enter Tryz.func25, Tryz.ntmps25
   go_wp2_with fail
   refine (refValidKey_any _ _ HKs.out).mono ?_
   rw [HKo.out]
   rintro e w1 ⟨rfl, hw⟩
   subst hw
   go_wp2_with fail
   go_ret
   first | exact ⟨by rw [HS.out]; rfl, (zL _ _).alloc (zN _) _⟩ | exact ⟨rfl, (zL _ _).alloc (zN _) _⟩
  ·have hlI : (o.val.length : Int) ≤ 65536 := by omega
   have hkI : (o.key.size : Int) ≤ 250 := by unfold keyOK at hko2; have := of_decide_eq_true hko2; omega
   have x1 : ∀ ob, (w.alloc ob).cell? ⟨g, 1, none⟩ = some (.int .i64 s.cfg.bytes) := fun ob => (h.below ((zL _ _).alloc (zN _) ob)).cell 1 (by omega)
   by_cases hb : s.cfg.bytes < 48 + (o.key.size : Int) + (o.val.length : Int)
   ·have HS := zH (show rightP s o t = 12 by unfold rightP; simp [hk, hko2, hl, hb])
    rw [hk]
    clear h hks hk hko hko2 hl
    go_enter Tryz.func25, Tryz.ntmps25
    go_wp2_with fail
    refine (refValidKey_any _ _ HKs.out).mono ?_
    rw [HKo.out]
    rintro e w1 ⟨rfl, hw⟩
    subst hw
    go_wp2_with fail
    have x1w := x1 (.cells #[.int .i64 1, .int .u64 o.ticks, .string o.key, .slice A o.val.length c, .int .u64 o.ttl, .int .i64 o.count, .int .i64 o.bytes, .int .i64 o.cursor, .int .u64 o.birth] 43)
    go_quiet (fail)
    go_wp2_with fail
    go_ret
    exact ⟨by rw [HS.out]; rfl, ((zL _ _).alloc (zN _) _).trans ⟨rfl, rfl, rfl, by simp [World.drewN], fun _ _ => rfl⟩⟩
   ·have HS := zH (show rightP s o t = 0 by unfold rightP; simp [hk, hko2, hl, hb])
    have hbd : decide (s.cfg.bytes < 48 + (o.key.size : Int) + (o.val.length : Int)) = false := decide_eq_false hb
    rw [hk]
    clear h hks hk hko hko2 hl
    go_enter Tryz.func25, Tryz.ntmps25
    go_wp2_with fail
    refine (refValidKey_any _ _ HKs.out).mono ?_
    rw [HKo.out]
    rintro e w1 ⟨rfl, hw⟩
    subst hw
    go_wp2_with fail
    have x1w := x1 (.cells #[.int .i64 1, .int .u64 o.ticks, .string o.key, .slice A o.val.length c, .int .u64 o.ttl, .int .i64 o.count, .int .i64 o.bytes, .int .i64 o.cursor, .int .u64 o.birth] 43)
    go_quiet (fail)
    go_wp2_with fail
    go_ret
    exact ⟨by rw [HS.out]; rfl, ((zL _ _).alloc (zN _) _).trans ⟨rfl, rfl, rfl, by simp [World.drewN], fun _ _ => rfl⟩⟩
end Go.Proofs.YtnabbimompapfaaGreat
namespace Go.Proofs.YtnabbimompapfaaGreat
open Go Go.RowKit
set_option maxRecDepth 100000 in
set_option maxHeartbeats 4000000 in
theorem kRight_k2 (B g : Nat) (vL vU : Value) (pv : Nat → Int) (s : PJ) (ps : List (EntV × Value)) (o : OpV) (A : Option Addr) (c : Nat) (t : Int) (w : World) (h : KRep w B g vL vU pv s ps) (hks : o.key.size ≤ maxLen) (hvl : o.val.length ≤ maxLen) (hk : o.kind = 2) :
  Calls Tryz.prog 25 #[.pointer (some ⟨g, 0, none⟩), opv o (.slice A o.val.length c), .int .u64 t] w fun e w' => e = .returned (.int .i64 (rightP s o t)) ∧ Below w.heap.size w w' := by
 unfold maxLen at hvl
 have HKs := zH hks
 unfold opv opc
 cases hko : keyB o.key with
 |false =>
  have HKo := zH hko
  have hko2 : keyOK o.key = false := hko
  have HS := zH (show rightP s o t = 2 by unfold rightP; simp [hk, hko2])
  rw [hk]
  clear h hks hk hko hko2
  go_enter Tryz.func25, Tryz.ntmps25
  go_wp2_with fail
  refine (refValidKey_any _ _ HKs.out).mono ?_
  rw [HKo.out]
  rintro e w1 ⟨rfl, hw⟩
  subst hw
  go_wp2_with fail
  go_ret
  first | exact ⟨by rw [HS.out]; rfl, (zL _ _).alloc (zN _) _⟩ | exact ⟨rfl, (zL _ _).alloc (zN _) _⟩
 |true =>
  have HKo := zH hko
  have hko2 : keyOK o.key = true := hko
  by_cases ht : o.ttl = 0
  ·have HS := zH (show rightP s o t = 2 by unfold rightP; simp [hk, hko2, ht])
   have htb : (o.ttl == 0) = true := by simp [ht]
   rw [hk]
   clear h hks hk hko hko2 ht
   go_enter Tryz.func25, Tryz.ntmps25
   go_wp2_with fail
   refine (refValidKey_any _ _ HKs.out).mono ?_
   rw [HKo.out]
   rintro e w1 ⟨rfl, hw⟩
   subst hw
   go_wp2_with fail
   go_ret
   first | exact ⟨by rw [HS.out]; rfl, (zL _ _).alloc (zN _) _⟩ | exact ⟨rfl, (zL _ _).alloc (zN _) _⟩
  ·have htb : (o.ttl == 0) = false := by simp [ht]
   by_cases hl : 65536 < o.val.length
   ·have HS := zH (show rightP s o t = 5 by unfold rightP; simp [hk, hko2, ht, hl])
    have hlI : (65536 : Int) < (o.val.length : Int) := by omega
    rw [hk]
    clear h hks hk hko hko2 hl
    go_enter Tryz.func25, Tryz.ntmps25
    go_wp2_with fail
    refine (refValidKey_any _ _ HKs.out).mono ?_
    rw [HKo.out]
    rintro e w1 ⟨rfl, hw⟩
    subst hw
    go_wp2_with fail
    go_ret
    first | exact ⟨by rw [HS.out]; rfl, (zL _ _).alloc (zN _) _⟩ | exact ⟨rfl, (zL _ _).alloc (zN _) _⟩
   ·have hlI : (o.val.length : Int) ≤ 65536 := by omega
    have hkI : (o.key.size : Int) ≤ 250 := by unfold keyOK at hko2; have := of_decide_eq_true hko2; omega
    have x1 : ∀ ob, (w.alloc ob).cell? ⟨g, 1, none⟩ = some (.int .i64 s.cfg.bytes) := fun ob => (h.below ((zL _ _).alloc (zN _) ob)).cell 1 (by omega)
    by_cases hb : s.cfg.bytes < 48 + (o.key.size : Int) + (o.val.length : Int)
    ·have HS := zH (show rightP s o t = 12 by unfold rightP; simp [hk, hko2, ht, hl, hb])
     rw [hk]
     clear h hks hk hko hko2 hl
     go_enter Tryz.func25, Tryz.ntmps25
     go_wp2_with fail
     refine (refValidKey_any _ _ HKs.out).mono ?_
     rw [HKo.out]
     rintro e w1 ⟨rfl, hw⟩
     subst hw
     go_wp2_with fail
     have x1w := x1 (.cells #[.int .i64 2, .int .u64 o.ticks, .string o.key, .slice A o.val.length c, .int .u64 o.ttl, .int .i64 o.count, .int .i64 o.bytes, .int .i64 o.cursor, .int .u64 o.birth] 43)
     go_quiet (fail)
     go_wp2_with fail
     go_ret
     exact ⟨by rw [HS.out]; rfl, ((zL _ _).alloc (zN _) _).trans ⟨rfl, rfl, rfl, by simp [World.drewN], fun _ _ => rfl⟩⟩
    ·have HS := zH (show rightP s o t = 0 by unfold rightP; simp [hk, hko2, ht, hl, hb])
     have hbd : decide (s.cfg.bytes < 48 + (o.key.size : Int) + (o.val.length : Int)) = false := decide_eq_false hb
     rw [hk]
     clear h hks hk hko hko2 hl
     go_enter Tryz.func25, Tryz.ntmps25
     go_wp2_with fail
     refine (refValidKey_any _ _ HKs.out).mono ?_
     rw [HKo.out]
     rintro e w1 ⟨rfl, hw⟩
     subst hw
     go_wp2_with fail
     have x1w := x1 (.cells #[.int .i64 2, .int .u64 o.ticks, .string o.key, .slice A o.val.length c, .int .u64 o.ttl, .int .i64 o.count, .int .i64 o.bytes, .int .i64 o.cursor, .int .u64 o.birth] 43)
     go_quiet (fail)
     go_wp2_with fail
     go_ret
     exact ⟨by rw [HS.out]; rfl, ((zL _ _).alloc (zN _) _).trans ⟨rfl, rfl, rfl, by simp [World.drewN], fun _ _ => rfl⟩⟩
end Go.Proofs.YtnabbimompapfaaGreat
namespace Go.Proofs.YtnabbimompapfaaGreat
open Go Go.RowKit
set_option maxRecDepth 100000 in
set_option maxHeartbeats 4000000 in
theorem kRight_k8 (B g : Nat) (vL vU : Value) (pv : Nat → Int) (s : PJ) (ps : List (EntV × Value)) (o : OpV) (A : Option Addr) (n c : Nat) (t : Int) (w : World) (h : KRep w B g vL vU pv s ps) (hk : o.kind = 8) :
  Calls Tryz.prog 25 #[.pointer (some ⟨g, 0, none⟩), opv o (.slice A n c), .int .u64 t] w fun e w' => e = .returned (.int .i64 (rightP s o t)) ∧ Below w.heap.size w w' := by
 have HS := zH (show rightP s o t = cfgP { s.cfg with count := o.count, bytes := o.bytes } by unfold rightP; simp [hk])
 have hx : ∀ ob i, i < 137 → (w.alloc ob).cell? ⟨g, i, none⟩ = some (kcell s vL vU pv i) := fun ob i hi => (h.below ((zL _ _).alloc (zN _) ob)).cell i hi
 obtain ⟨W0, hW0⟩ : ∃ W0, w.alloc (.cells (opc o (.slice A n c)) 43) = W0 := ⟨_, rfl⟩
 have hb0 : Below w.heap.size w W0 := hW0 ▸ (zL _ _).alloc (zN _) _
 have hbx : Blk W0 w.heap.size 43 (opc o (.slice A n c)) := hW0 ▸ Blk.new _ _ _
 have x0 : W0.cell? ⟨g, 0, none⟩ = some (.int .i64 s.cfg.count) := hW0 ▸ hx _ 0 (by omega)
 have x1 : W0.cell? ⟨g, 1, none⟩ = some (.int .i64 s.cfg.bytes) := hW0 ▸ hx _ 1 (by omega)
 have x2 : W0.cell? ⟨g, 2, none⟩ = some (.int .i64 s.cfg.prot) := hW0 ▸ hx _ 2 (by omega)
 have x3 : W0.cell? ⟨g, 3, none⟩ = some (.int .u64 s.cfg.seed) := hW0 ▸ hx _ 3 (by omega)
 have x4 : W0.cell? ⟨g, 4, none⟩ = some (.bool s.cfg.same) := hW0 ▸ hx _ 4 (by omega)
 have HB0 := zH hb0
 have HBx := zH hbx
 have z0 : W0.cell? ⟨w.heap.size, 0, none⟩ = some (.int .i64 8) := hk ▸ hbx.cell 0 _ rfl
 unfold opv
 unfold opc at hW0 ⊢
 rw [hk] at hW0 ⊢
 clear h hx hb0 hbx
 go_enter Tryz.func25, Tryz.ntmps25
 go_upto_region 1 with fail
 try rw [hW0]
 clear hW0
 go_upto_region 18 with fail
 have hc := Blk.new W0 24 (cfgc s.cfg)
 unfold cfgc at hc
 obtain ⟨W1, hW1⟩ : ∃ W1, W0.alloc (.cells #[.int .i64 s.cfg.count, .int .i64 s.cfg.bytes, .int .i64 s.cfg.prot, .int .u64 s.cfg.seed, .bool s.cfg.same] 24) = W1 := ⟨_, rfl⟩
 rw [hW1] at hc
 have hb1 : Below W0.heap.size W0 W1 := hW1 ▸ (zL _ _).alloc (zN _) _
 have hbo := HBx.out.below hb1
 try rw [hW1]
 clear hW1 x0 x1 x2 x3 x4 z0
 have y5 : W1.cell? ⟨w.heap.size, 5, none⟩ = some (.int .i64 o.count) := hbo.cell 5 _ rfl
 have y6 : W1.cell? ⟨w.heap.size, 6, none⟩ = some (.int .i64 o.bytes) := hbo.cell 6 _ rfl
 have d0 : W1.cell? ⟨W0.heap.size, 0, none⟩ = some (.int .i64 s.cfg.count) := hc.cell 0 _ rfl
 have d1 : W1.cell? ⟨W0.heap.size, 1, none⟩ = some (.int .i64 s.cfg.bytes) := hc.cell 1 _ rfl
 have hne : ¬ w.heap.size = W0.heap.size := by have := HBx.out.lt; omega
 have f0 := hc.frozen
 have hlt : w.heap.size < W0.heap.size := HBx.out.lt
 have HC := zH hc
 have HB1 := zH hb1
 clear hc hb1 hbo
 go_region
 have h2 := ((HC.out.set_ 0 (.int .i64 o.count)).set_ 1 (.int .i64 o.bytes)).drew
 have hb2 : Below w.heap.size w ((W1.setCell ⟨W0.heap.size, 0, none⟩ (.int .i64 o.count)).setCell ⟨W0.heap.size, 1, none⟩ (.int .i64 o.bytes)).drew := (((HB0.out.trans (HB1.out.mono HB0.out.size)).setCell (p := ⟨W0.heap.size, 0, none⟩) (by dsimp only; omega) _).setCell (p := ⟨W0.heap.size, 1, none⟩) (by dsimp only; omega) _).drew
 obtain ⟨W2, hW2⟩ : ∃ W2, ((W1.setCell ⟨W0.heap.size, 0, none⟩ (.int .i64 o.count)).setCell ⟨W0.heap.size, 1, none⟩ (.int .i64 o.bytes)).drew = W2 := ⟨_, rfl⟩
 rw [hW2] at h2 hb2 ⊢
 clear hW2 y5 y6 d0 d1 f0
 have e0 : W2.cell? ⟨W0.heap.size, 0, none⟩ = some (.int .i64 o.count) := h2.cell 0 _ rfl
 have e1 : W2.cell? ⟨W0.heap.size, 1, none⟩ = some (.int .i64 o.bytes) := h2.cell 1 _ rfl
 have e2 : W2.cell? ⟨W0.heap.size, 2, none⟩ = some (.int .i64 s.cfg.prot) := h2.cell 2 _ rfl
 have e3 : W2.cell? ⟨W0.heap.size, 3, none⟩ = some (.int .u64 s.cfg.seed) := h2.cell 3 _ rfl
 have e4 : W2.cell? ⟨W0.heap.size, 4, none⟩ = some (.bool s.cfg.same) := h2.cell 4 _ rfl
 have HB2 := zH hb2
 clear h2 hb2
 go_wp2_with fail
 refine (refCfg_any { s.cfg with count := o.count, bytes := o.bytes } W2).mono ?_
 rintro e w3 ⟨rfl, hb3⟩
 have HB3 := zH (HB2.out.trans (hb3.mono HB2.out.size))
 clear hb3
 go_wp2_with fail
 go_ret
 exact ⟨by rw [HS.out]; rfl, HB3.out⟩
end Go.Proofs.YtnabbimompapfaaGreat
namespace Go.Proofs.YtnabbimompapfaaGreat
open Go Go.RowKit
theorem kRight_any (B g : Nat) (vL vU : Value) (pv : Nat → Int) (s : PJ) (ps : List (EntV × Value)) (o : OpV) (A : Option Addr) (c : Nat) (t : Int) (w : World) (h : KRep w B g vL vU pv s ps) (hp : s.pl.length = 64) (hn : ps.length ≤ 100000) (hks : o.key.size ≤ maxLen) (hvl : o.val.length ≤ maxLen) :
  Calls Tryz.prog 25 #[.pointer (some ⟨g, 0, none⟩), opv o (.slice A o.val.length c), .int .u64 t] w fun e w' => e = .returned (.int .i64 (rightP s o t)) ∧ Below w.heap.size w w' := by
 by_cases k1 : o.kind = 1
 ·exact kRight_k1 B g vL vU pv s ps o A c t w h hks hvl k1
 ·by_cases k2 : o.kind = 2
  ·exact kRight_k2 B g vL vU pv s ps o A c t w h hks hvl k2
  ·by_cases k3 : o.kind = 3
   ·exact kRight_k3 B g vL vU pv s ps o A _ c t w hks k3
   ·by_cases k4 : o.kind = 4
    ·exact kRight_k4 B g vL vU pv s ps o A _ c t w hks k4
    ·by_cases k5 : o.kind = 5
     ·exact kRight_k5 B g vL vU pv s ps o A _ c t w hks k5
     ·by_cases k6 : o.kind = 6
      ·exact kRight_k6 B g vL vU pv s ps o A _ c t w hks k6
      ·by_cases k8 : o.kind = 8
       ·exact kRight_k8 B g vL vU pv s ps o A _ c t w h k8
       ·by_cases k11 : o.kind = 11
        ·exact kRight_open B g vL vU pv s ps o A _ c t w h hp k11
        ·by_cases k12 : o.kind = 12
         ·exact kRight_next B g vL vU pv s ps o A _ c t w h hp hn k12
         ·by_cases k13 : o.kind = 13 ∨ o.kind = 14
          ·exact kRight_cur B g vL vU pv s ps o A _ c t w h hp k13
          ·exact kRight_none B g vL vU pv s ps o A _ c t w (by omega) k8 k11 (by omega)
end Go.Proofs.YtnabbimompapfaaGreat
namespace Go.Proofs.YtnabbimompapfaaGreat
open Go Go.RowKit
structure GnX (w W : World) (B g : Nat) (vL vU : Value) (pv : Nat → Int) (s : PJ) (ps : List (EntV × Value)) : Prop where
 k : KRep W B g vL vU pv s ps
 below : Below w.heap.size w W
theorem GnX.adv {w W W2 : World} {B g : Nat} {vL vU : Value} {pv : Nat → Int} {s : PJ} {ps : List (EntV × Value)} (h : GnX w W B g vL vU pv s ps) (hb : Below W.heap.size W W2) : GnX w W2 B g vL vU pv s ps :=
 ⟨h.k.below hb, h.below.trans (hb.mono h.below.size)⟩
theorem entI_info : (Tryz.prog.info? 40).map (fun i => (i.zero, i.size, i.bytes)) = some (some (.agg #[.string ⟨#[]⟩, .slice none 0 0, .int .u64 0, .int .u64 0]), 4, 56) := by kernel_rfl
theorem ecs_take (ps : List (EntV × Value)) (i : Nat) (h : i ≤ ps.length) : (ecs ps).take (i * 4) = ecs (ps.take i) := by
 have e : ecs ps = ecs (ps.take i) ++ ecs (ps.drop i) := by rw [← ecs_append, List.take_append_drop]
 rw [e]
 exact List.take_left' (by rw [ecs_length, List.length_take, Nat.min_eq_left h])
theorem ecs_drop (ps : List (EntV × Value)) (i : Nat) (h : i ≤ ps.length) : (ecs ps).drop (i * 4) = ecs (ps.drop i) := by
 have e : ecs ps = ecs (ps.take i) ++ ecs (ps.drop i) := by rw [← ecs_append, List.take_append_drop]
 rw [e]
 exact List.drop_left' (by rw [ecs_length, List.length_take, Nat.min_eq_left h])
theorem ecs_one (ps : List (EntV × Value)) (h : ∀ p ∈ ps, ∃ A n c, p.2 = .slice A n c) : ∀ u ∈ ecs ps, u.oneCell' = true := by
 intro u hu
 simp only [ecs, List.mem_flatMap] at hu
 obtain ⟨p, hp, hu⟩ := hu
 obtain ⟨A, n, c, e⟩ := h p hp
 simp only [e, List.mem_cons, List.not_mem_nil, or_false] at hu
 rcases hu with rfl | rfl | rfl | rfl <;> rfl
theorem row_src {w : World} {base : Nat} {e : TypeId} {gL n cap : Nat} {ps : List (EntV × Value)} (h : w.ownsRow base e 4 (.slice (some ⟨gL, 0, none⟩) n cap) n (ecs ps)) (hn : n = ps.length) (a m : Nat) (hm : a + m ≤ n) :
  Src w 4 (some ⟨gL, a * 4, none⟩) m (ecs ((ps.drop a).take m)) := by
 subst hn
 refine ⟨by rw [ecs_length, List.length_take, List.length_drop, Nat.min_eq_left (by omega)], (fun h => by cases h), fun q hq j u hu => ?_⟩
 injection hq with hq
 subst hq
 have hj := (List.getElem?_eq_some_iff.1 hu).1
 rw [ecs_length, List.length_take, List.length_drop, Nat.min_eq_left (by omega)] at hj
 rw [← ecs_take _ _ (by rw [List.length_drop]; omega), List.getElem?_take, if_pos hj, ← ecs_drop _ _ (by omega), List.getElem?_drop] at hu
 have := h.cells (g := gL) rfl (a * 4 + j) u hu
 rw [add_plain, Nat.zero_add] at this
 rw [add_plain]
 exact this
theorem erase_filter {α : Type} {f : α → Int} : ∀ {l : List α} {i : Nat} {x : α}, (l.map f).Pairwise (· < ·) → l[i]? = some x → l.eraseIdx i = l.filter fun e => decide (f e ≠ f x)
 |[], i, x, _, h => by simp at h
 |y :: l, 0, x, hp, h => by
  have e : y = x := by simpa using h
  subst e
  rw [List.map_cons, List.pairwise_cons] at hp
  rw [List.eraseIdx_cons_zero, List.filter_cons_of_neg (by simp)]
  symm
  refine List.filter_eq_self.2 fun e he => ?_
  have := hp.1 (f e) (List.mem_map_of_mem he)
  rw [decide_eq_true_eq]; omega
 |y :: l, i + 1, x, hp, h => by
  have h' : l[i]? = some x := by simpa using h
  rw [List.map_cons, List.pairwise_cons] at hp
  have := hp.1 (f x) (List.mem_map_of_mem (List.mem_of_getElem? h'))
  rw [List.eraseIdx_cons_succ, List.filter_cons_of_pos (by rw [decide_eq_true_eq]; omega), erase_filter hp.2 h']
theorem map_erase {α β : Type} (f : α → β) : ∀ (l : List α) (i : Nat), (l.eraseIdx i).map f = (l.map f).eraseIdx i
 |[], _ => by simp
 |x :: l, 0 => by simp
 |x :: l, i + 1 => by simp [map_erase f l i]
theorem KRep.frozen {w : World} {B g : Nat} {vL vU : Value} {pv : Nat → Int} {s : PJ} {ps : List (EntV × Value)} (h : KRep w B g vL vU pv s ps) (i : Nat) : w.frozen? ⟨g, i, none⟩ = false := by
 obtain ⟨cs, h1, _⟩ := h.blk
 exact h1.frozen i
theorem KRep.setL {w : World} {B g : Nat} {vL vU : Value} {pv : Nat → Int} {s : PJ} {ps : List (EntV × Value)} (h : KRep w B g vL vU pv s ps) {vL' : Value} {L' : List EntV} {ps' : List (EntV × Value)} (ho : w.ownsRow B 40 4 vL' ps'.length (ecs ps')) (hm : ps'.map Prod.fst = L') (hv : ∀ p ∈ ps', Bts w B 5 p.2 p.1.val) :
  KRep (w.setCell ⟨g, 7, none⟩ vL') B g vL' vU pv { s with L := L' } ps' := by
 obtain ⟨cs, hb, hc⟩ := h.blk
 have hon := Only.set1 w g 7 vL'
 have hkb := KeepB.of_blk (U := 5) hb (by decide) h.base hon
 refine ⟨⟨_, hb.set_ 7 vL', fun i hi => ?_⟩, ownsRow_only ho hon (fun k hk e => by subst e; exact blk_differs hb ho (by decide) hk), ownsRow_only h.U hon (fun k hk e => by subst e; exact blk_differs hb h.U (by decide) hk), hm, fun p hp => (hv p hp).keep hkb, h.place, h.base⟩
 have hci := hc i hi
 have hsz := (Array.getElem?_eq_some_iff.1 hci).1
 rw [Array.getElem?_setIfInBounds]
 by_cases h8 : 7 = i
 ·subst h8
  rw [if_pos rfl, if_pos hsz]
  rfl
 ·rw [if_neg h8, hci]
  unfold kcell
  by_cases h9 : i = 7
  ·exact absurd h9.symm h8
  ·simp only [if_neg h9]
def KOut (B g : Nat) (pv : Nat → Int) (s : PJ) (ps : List (EntV × Value)) (w : World) (e : Ending) (w' : World) : Prop :=
 ∃ vL' vU', e = .returned (.tuple #[]) ∧ KRep w' B g vL' vU' pv s ps ∧ Only (fun k => k = g) w w'
set_option maxRecDepth 100000 in
set_option maxHeartbeats 4000000 in
theorem kGone_any (B g : Nat) (vL vU : Value) (pv : Nat → Int) (s : PJ) (ps : List (EntV × Value)) (i : Nat) (p : EntV × Value) (w : World) (h : KRep w B g vL vU pv s ps) (hi : ps[i]? = some p) (hn : ps.length ≤ 100000) (hu : s.U.length ≤ 100000) (hB : B ≤ w.heap.size) (hasc : (s.L.map EntV.birth).Pairwise (· < ·)) :
  Calls Tryz.prog 56 #[.pointer (some ⟨g, 0, none⟩), .int .i64 (i : Int)] w (KOut B g pv (goneP s p.1.birth) (ps.eraseIdx i) w) := by
 obtain ⟨j0, kj0, jz0, jz1, jz2⟩ := info_parts entI_info
 have HW := zH (fun W (hW : KRep W B g vL vU pv s ps) => kWithout_any B vU s.U p.1.birth W hW.U hu)
 obtain ⟨LA, lc, rfl, hlc, _⟩ := own_form h.L
 obtain ⟨UA, uc, rfl, huc, _⟩ := own_form h.U
 have hil := (List.getElem?_eq_some_iff.1 hi).1
 obtain ⟨gL, rfl⟩ : ∃ gL, LA = some ⟨gL, 0, none⟩ := by
  rcases h.L.2 with ⟨_, h0⟩ | ⟨q, c, cur, eq, _⟩
  ·omega
  ·injection eq with eq _ _
   exact ⟨q, eq⟩
 have HH := zH h
 have HC7 : Hid (∀ W vU2 s2, KRep W B g (.slice (some ⟨gL, 0, none⟩) ps.length lc) vU2 pv s2 ps → W.cell? ⟨g, 7, none⟩ = some (.slice (some ⟨gL, 0, none⟩) ps.length lc)) := zH (fun W _ _ hW => hW.cell 7 (by omega))
 have HC8 : Hid (∀ W, KRep W B g (.slice (some ⟨gL, 0, none⟩) ps.length lc) (.slice UA s.U.length uc) pv s ps → W.cell? ⟨g, 8, none⟩ = some (.slice UA s.U.length uc)) := zH (fun W hW => hW.cell 8 (by omega))
 have HCe : Hid (∀ W, KRep W B g (.slice (some ⟨gL, 0, none⟩) ps.length lc) (.slice UA s.U.length uc) pv s ps → W.cell? ⟨gL, i * 4 + 3, none⟩ = some (.int .u64 p.1.birth)) := zH (fun W hW => (hW.entAt hi).2.2.2)
 have hiI : (i : Int) < (ps.length : Int) := by omega
 have hnI : (ps.length : Int) ≤ 100000 := by omega
 have hlcI : (ps.length : Int) ≤ (lc : Int) := by omega
 have HU := zH hu
 have HIl := zH hil
 have HN := zH hn
 have HI := zH hi
 have HBs := zH hB
 have HA := zH hasc
 have HLc := zH hlc
 have HX : Hid (GnX w w B g (.slice (some ⟨gL, 0, none⟩) ps.length lc) (.slice UA s.U.length uc) pv s ps) := zH ⟨h, zL _ _⟩
 clear h hi hn hu hil hB hasc hlc
 go_enter Tryz.func56, Tryz.ntmps56
 go_upto_region 0 with fail
 refine wp_region_noPanic ?_
 refine wp_region_till [16] (fun W => GnX w W B g (.slice (some ⟨gL, 0, none⟩) ps.length lc) (.slice UA s.U.length uc) pv s ps) (fun _ => True) (by kernel_rfl) trivial (HX.out.adv (zL _ _).drew) (fun hTill => ?_)
 refine tt 0 (v := ?_) ?_ ?_
 rotate_left 1
 ·intro W hSw
  have x7 := HC7.out _ _ _ hSw.2.k; have x8 := HC8.out _ hSw.2.k; have y3 := HCe.out _ hSw.2.k
  clear hSw
  go_simp
  try with_reducible rfl
 try dsimp only [zS, zB, zC]
 clear hTill
 intro hTill
 refine tt 1 (v := ?_) ?_ ?_
 rotate_left 1
 ·intro W hSw
  have x7 := HC7.out _ _ _ hSw.2.k; have x8 := HC8.out _ hSw.2.k; have y3 := HCe.out _ hSw.2.k
  clear hSw
  go_simp
  try with_reducible rfl
 try dsimp only [zS, zB, zC]
 clear hTill
 intro hTill
 refine tt 2 (v := ?_) ?_ ?_
 rotate_left 1
 ·intro W hSw
  have x7 := HC7.out _ _ _ hSw.2.k; have x8 := HC8.out _ hSw.2.k; have y3 := HCe.out _ hSw.2.k
  clear hSw
  go_simp
  try with_reducible rfl
 try dsimp only [zS, zB, zC]
 clear hTill
 intro hTill
 refine tt 3 (v := ?_) ?_ ?_
 rotate_left 1
 ·intro W hSw
  have x7 := HC7.out _ _ _ hSw.2.k; have x8 := HC8.out _ hSw.2.k; have y3 := HCe.out _ hSw.2.k
  clear hSw
  go_simp
  try with_reducible rfl
 try dsimp only [zS, zB, zC]
 clear hTill
 intro hTill
 refine tt 4 (v := ?_) ?_ ?_
 rotate_left 1
 ·intro W hSw
  have x7 := HC7.out _ _ _ hSw.2.k; have x8 := HC8.out _ hSw.2.k; have y3 := HCe.out _ hSw.2.k
  clear hSw
  go_simp
  try with_reducible rfl
 try dsimp only [zS, zB, zC]
 clear hTill
 intro hTill
 refine tt 5 (v := ?_) ?_ ?_
 rotate_left 1
 ·intro W hSw
  have x7 := HC7.out _ _ _ hSw.2.k; have x8 := HC8.out _ hSw.2.k; have y3 := HCe.out _ hSw.2.k
  clear hSw
  go_simp
  try with_reducible rfl
 try dsimp only [zS, zB, zC]
 clear hTill
 intro hTill
 refine tt 6 (v := ?_) ?_ ?_
 rotate_left 1
 ·intro W hSw
  have x7 := HC7.out _ _ _ hSw.2.k; have x8 := HC8.out _ hSw.2.k; have y3 := HCe.out _ hSw.2.k
  clear hSw
  go_simp
  try with_reducible rfl
 try dsimp only [zS, zB, zC]
 clear hTill
 intro hTill
 refine tt 7 (v := ?_) ?_ ?_
 rotate_left 1
 ·intro W hSw
  have x7 := HC7.out _ _ _ hSw.2.k; have x8 := HC8.out _ hSw.2.k; have y3 := HCe.out _ hSw.2.k
  clear hSw
  go_simp
  try with_reducible rfl
 try dsimp only [zS, zB, zC]
 clear hTill
 intro hTill
 refine tt 8 (v := ?_) ?_ ?_
 rotate_left 1
 ·intro W hSw
  have x7 := HC7.out _ _ _ hSw.2.k; have x8 := HC8.out _ hSw.2.k; have y3 := HCe.out _ hSw.2.k
  clear hSw
  go_simp
  try with_reducible rfl
 try dsimp only [zS, zB, zC]
 clear hTill
 intro hTill
 refine tt 9 (v := ?_) ?_ ?_
 rotate_left 1
 ·intro W hSw
  have x7 := HC7.out _ _ _ hSw.2.k; have x8 := HC8.out _ hSw.2.k; have y3 := HCe.out _ hSw.2.k
  clear hSw
  go_simp
  try with_reducible rfl
 try dsimp only [zS, zB, zC]
 clear hTill
 intro hTill
 refine tt 10 (v := ?_) ?_ ?_
 rotate_left 1
 ·intro W hSw
  have x7 := HC7.out _ _ _ hSw.2.k; have x8 := HC8.out _ hSw.2.k; have y3 := HCe.out _ hSw.2.k
  clear hSw
  go_simp
  try with_reducible rfl
 try dsimp only [zS, zB, zC]
 clear hTill
 intro hTill
 refine tt 11 (v := ?_) ?_ ?_
 rotate_left 1
 ·intro W hSw
  have x7 := HC7.out _ _ _ hSw.2.k; have x8 := HC8.out _ hSw.2.k; have y3 := HCe.out _ hSw.2.k
  clear hSw
  go_simp
  try with_reducible rfl
 try dsimp only [zS, zB, zC]
 clear hTill
 intro hTill
 refine tt 12 (v := ?_) ?_ ?_
 rotate_left 1
 ·intro W hSw
  have x7 := HC7.out _ _ _ hSw.2.k; have x8 := HC8.out _ hSw.2.k; have y3 := HCe.out _ hSw.2.k
  clear hSw
  go_simp
  try with_reducible rfl
 try dsimp only [zS, zB, zC]
 clear hTill
 intro hTill
 have HX0 : Hid (GnX w w.drew B g (.slice (some ⟨gL, 0, none⟩) ps.length lc) (.slice UA s.U.length uc) pv s ps) := zH (HX.out.adv (zL _ _).drew)
 clear hTill
 generalize w.drew = w0 at HX0 ⊢
 refine wpTill.only (i := 13) (o := ⟨_, _, _, _, _, _⟩) (by kernel_rfl) rfl (fun F hF => ?_)
 go_simp
 refine (HW.out w0 HX0.out.k).mono ?_
 rintro e w1 ⟨v1, rfl, ho1, hb1⟩
 have HX1 := zH (HX0.out.adv hb1)
 have HO1 : Hid (w1.ownsRow B 22 1 v1 (s.U.filter fun x => decide (x ≠ p.1.birth)).length (ucs (s.U.filter fun x => decide (x ≠ p.1.birth)))) := zH (ownsRow_base ho1 (Nat.le_trans HBs.out HX0.out.below.size))
 obtain ⟨A1, c1, rfl, _, _⟩ := own_form ho1
 obtain ⟨Fl, hFl⟩ : ∃ Fl, (s.U.filter fun x => decide (x ≠ p.1.birth)) = Fl := ⟨_, rfl⟩
 have HFe := zH hFl
 rw [hFl] at HO1 ⊢
 clear ho1 hb1 hFl
 go_wp2_with fail
 refine hF.out _ _ (Till.of trivial HX1.out) (fun hTill => ?_)
 clear hF F
 try simp only [Act.put, zA, zB, zC]
 refine ts 14 (v := ?_) ?_ ?_
 rotate_left 1
 ·intro W hSw
  skip
  clear hSw
  go_simp
  try with_reducible rfl
 try dsimp only [zS, zB, zC]
 clear hTill
 intro hTill
 refine ts 15 (v := ?_) ?_ ?_
 rotate_left 1
 ·intro W hSw
  skip
  clear hSw
  go_simp
  try with_reducible rfl
 try dsimp only [zS, zB, zC]
 clear hTill
 intro hTill
 have x8 := HC8.out _ HX1.out.k
 have f8 := HX1.out.k.frozen 8
 refine wpTill.only (i := 16) (o := ⟨_, _, _, _, _, _⟩) (by kernel_rfl) rfl (fun F hF => ?_)
 go_simp
 have HK2 := zH (HX1.out.k.setU HO1.out)
 have HOn2 : Hid (Only (fun k => k = g) w (w1.setCell ⟨g, 8, none⟩ (.slice A1 Fl.length c1))) := zH ((Only.of_below (S := fun k => k = g) HX1.out.below).setCell (p := ⟨g, 8, none⟩) (.inl rfl) _)
 refine hF.out _ _ (Till.stored trivial (by kernel_rfl)) (fun hTill => ?_)
 clear hF F x8 f8
 try simp only [Act.put, zA, zB, zC]
 refine wpTill.done (by kernel_rfl) ?_
 try refine NoPanic.normal ?_
 clear hTill HX1 HX0 HX HH HW HC8 HCe
 generalize w1.setCell ⟨g, 8, none⟩ (.slice A1 Fl.length c1) = w2 at HK2 HOn2 ⊢
 go_upto_region 1 with fail
 refine wp_region_noPanic ?_
 have HX2 : Hid (GnX w2 w2.drew B g (.slice (some ⟨gL, 0, none⟩) ps.length lc) (.slice A1 Fl.length c1) pv { s with U := Fl } ps) := zH ⟨HK2.out.below (zL _ _).drew, (zL _ _).drew⟩
 refine wp_region_till [18] (fun W => GnX w2 W B g (.slice (some ⟨gL, 0, none⟩) ps.length lc) (.slice A1 Fl.length c1) pv { s with U := Fl } ps) (fun _ => True) (by kernel_rfl) trivial HX2.out (fun hTill => ?_)
 generalize w2.drew = w3 at HX2 hTill ⊢
 have hi1 : i ≤ lc := by have := HIl.out; have := HLc.out; omega
 have hi2 : i + 1 ≤ ps.length := HIl.out
 have hi3 : ps.length ≤ lc := HLc.out
 have hi4 : i + 1 ≤ lc := by omega
 have HWr : Hid (IntKind.i64.wrap ((i : Int) + 1) = (i : Int) + 1 ∧ ((i : Int) + 1).toNat = i + 1) := zH ⟨by rw [IntKind.wrap_i64 _]; omega, by omega⟩
 have hi6 : (0 : Int) ≤ (i : Int) + 1 := by omega
 have hi5 : (i : Int) + 1 ≤ (ps.length : Int) := by omega
 refine ts 0 (v := ?_) ?_ ?_
 rotate_left 1
 ·intro W hSw
  skip
  clear hSw
  go_simp
  try with_reducible rfl
 try dsimp only [zS, zB, zC]
 clear hTill
 intro hTill
 refine ts 1 (v := ?_) ?_ ?_
 rotate_left 1
 ·intro W hSw
  skip
  clear hSw
  go_simp
  try with_reducible rfl
 try dsimp only [zS, zB, zC]
 clear hTill
 intro hTill
 refine ts 2 (v := ?_) ?_ ?_
 rotate_left 1
 ·intro W hSw
  skip
  clear hSw
  go_simp
  try with_reducible rfl
 try dsimp only [zS, zB, zC]
 clear hTill
 intro hTill
 refine ts 3 (v := ?_) ?_ ?_
 rotate_left 1
 ·intro W hSw
  skip
  clear hSw
  go_simp
  try with_reducible rfl
 try dsimp only [zS, zB, zC]
 clear hTill
 intro hTill
 refine tt 4 (v := ?_) ?_ ?_
 rotate_left 1
 ·intro W hSw
  have x7 := HC7.out _ _ _ hSw.2.k
  clear hSw
  go_simp
  try with_reducible rfl
 try dsimp only [zS, zB, zC]
 clear hTill
 intro hTill
 refine ts 5 (v := ?_) ?_ ?_
 rotate_left 1
 ·intro W hSw
  skip
  clear hSw
  go_simp
  try with_reducible rfl
 try dsimp only [zS, zB, zC]
 clear hTill
 intro hTill
 refine ts 6 (v := ?_) ?_ ?_
 rotate_left 1
 ·intro W hSw
  skip
  clear hSw
  go_simp
  try with_reducible rfl
 try dsimp only [zS, zB, zC]
 clear hTill
 intro hTill
 refine ts 8 (v := ?_) ?_ ?_
 rotate_left 1
 ·intro W hSw
  skip
  clear hSw
  go_simp
  try with_reducible rfl
 try dsimp only [zS, zB, zC]
 clear hTill
 intro hTill
 refine ts 9 (v := ?_) ?_ ?_
 rotate_left 1
 ·intro W hSw
  skip
  clear hSw
  go_simp
  try with_reducible rfl
 try dsimp only [zS, zB, zC]
 clear hTill
 intro hTill
 refine ts 10 (v := ?_) ?_ ?_
 rotate_left 1
 ·intro W hSw
  skip
  clear hSw
  go_simp
  try with_reducible rfl
 try dsimp only [zS, zB, zC]
 clear hTill
 intro hTill
 refine tt 11 (v := ?_) ?_ ?_
 rotate_left 1
 ·intro W hSw
  have x7 := HC7.out _ _ _ hSw.2.k
  clear hSw
  go_simp
  try with_reducible rfl
 try dsimp only [zS, zB, zC]
 clear hTill
 intro hTill
 refine ts 12 (v := ?_) ?_ ?_
 rotate_left 1
 ·intro W hSw
  skip
  clear hSw
  go_simp
  try with_reducible rfl
 try dsimp only [zS, zB, zC]
 clear hTill
 intro hTill
 refine ts 13 (v := ?_) ?_ ?_
 rotate_left 1
 ·intro W hSw
  have hwr := HWr.out.1
  clear hSw
  go_simp
  try with_reducible rfl
 try dsimp only [zS, zB, zC]
 clear hTill
 intro hTill
 refine ts 14 (v := ?_) ?_ ?_
 rotate_left 1
 ·intro W hSw
  have hwr := HWr.out.2
  clear hSw
  go_simp
  try with_reducible rfl
 try dsimp only [zS, zB, zC]
 clear hTill
 intro hTill
 have HSa : Hid (∀ W s2 vU2, KRep W B g (.slice (some ⟨gL, 0, none⟩) ps.length lc) vU2 pv s2 ps → Src W 4 (some ⟨gL, 0, none⟩) i (ecs (ps.take i))) := zH (fun W _ _ hW => by
  have := row_src hW.L rfl 0 i (by omega)
  rwa [List.drop_zero, Nat.zero_mul] at this)
 have HSb : Hid (∀ W s2 vU2, KRep W B g (.slice (some ⟨gL, 0, none⟩) ps.length lc) vU2 pv s2 ps → Src W 4 (if lc = i + 1 then (some ⟨gL, 0, none⟩ : Option Addr) else some ⟨gL, (i + 1) * 4, none⟩) (ps.length - (i + 1)) (ecs (ps.drop (i + 1)))) := zH (fun W _ _ hW => by
  split
  ·rename_i hl
   have e0 : ps.length - (i + 1) = 0 := by omega
   have e1 : ps.drop (i + 1) = [] := List.drop_eq_nil_of_le (by omega)
   rw [e0, e1]
   exact ⟨rfl, (fun _ => rfl), fun q _ j u hu => by simp [ecs] at hu⟩
  ·have := row_src hW.L rfl (i + 1) (ps.length - (i + 1)) (by omega)
   rw [List.take_of_length_le (by rw [List.length_drop]; exact zN _)] at this
   exact this)
 have HOn : Hid (∀ qs : List (EntV × Value), (∀ q ∈ qs, q ∈ ps) → ∀ u ∈ ecs qs, u.oneCell' = true) := zH (fun qs hq => ecs_one qs (fun q hm => by
  obtain ⟨A, c, e⟩ := (HK2.out.vals q (hq q hm)).form
  exact ⟨A, _, c, e⟩))
 generalize (if lc = i + 1 then (some ⟨gL, 0, none⟩ : Option Addr) else some ⟨gL, (i + 1) * 4, none⟩) = A14 at HSb ⊢
 have HB3 : Hid (B ≤ w3.heap.size) := zH (Nat.le_trans HBs.out (Nat.le_trans HOn2.out.size HX2.out.below.size))
 refine wpTill.only (i := 7) (o := ⟨_, _, _, _, _, _⟩) (by kernel_rfl) rfl (fun F hF => ?_)
 refine step_append_src _ rfl (.const (.slice none 0 0)) (.tmp 26) 33 rfl w3.heap.size 40 j0 _ 4 56 Tryz.underlying33 kj0 jz0 jz1 jz2 rfl (by decide) _ 0 [] rfl (World.ownsRow_nil _ _ _ _) (some ⟨gL, 0, none⟩) i lc (ecs (ps.take i)) rfl (HSa.out _ _ _ HX2.out.k) (HOn.out _ (fun q hq => List.mem_of_mem_take hq)) (by have := HN.out; unfold maxLen; omega) (by have := HN.out; omega) (zN _) ?_
 intro v7 w7 hown7 hg7 hat7
 have hb7 : Below w3.heap.size w3 w7 := (zL _ _).grown hg7 (zN _) (fun k hk => by cases hk)
 have HX7 := zH (HX2.out.adv hb7)
 have HO7 := zH hown7
 have HB7 := zH hb7
 obtain ⟨A7, c7, rfl, _, _⟩ := own_form hown7
 clear hown7 hg7 hat7 hb7
 refine hF.out _ _ (Till.of trivial HX7.out) (fun hTill => ?_)
 clear hF F
 try simp only [Act.put, zA, zB, zC]
 refine wpTill.only (i := 15) (o := ⟨_, _, _, _, _, _⟩) (by kernel_rfl) rfl (fun F hF => ?_)
 refine step_append_src _ rfl (.tmp 27) (.tmp 34) 33 rfl w3.heap.size 40 j0 _ 4 56 Tryz.underlying33 kj0 jz0 jz1 jz2 rfl (by decide) _ (0 + i) ([] ++ ecs (ps.take i)) rfl HO7.out A14 (ps.length - (i + 1)) (lc - (i + 1)) (ecs (ps.drop (i + 1))) rfl (HSb.out _ _ _ HX7.out.k) (HOn.out _ (fun q hq => List.mem_of_mem_drop hq)) (by have := HN.out; unfold maxLen; omega) (by have := HN.out; omega) HB7.out.size ?_
 intro v9 w9 hown9 hg9 hat9
 have hb9 : Below w3.heap.size w3 w9 := HB7.out.grown hg9 HB7.out.size (fun k hk => (row_heap' HO7.out hk).1)
 have HX9 := zH (HX2.out.adv hb9)
 have HO9 : Hid (w9.ownsRow B 40 4 v9 (ps.eraseIdx i).length (ecs (ps.eraseIdx i))) := zH (by
  have h := ownsRow_base hown9 HB3.out
  rw [List.nil_append, ← ecs_append, ← List.eraseIdx_eq_take_drop_succ] at h
  have e : 0 + i + (ps.length - (i + 1)) = (ps.eraseIdx i).length := by rw [List.length_eraseIdx, if_pos HIl.out]; omega
  rw [e] at h
  exact h)
 obtain ⟨A9, c9, rfl, _, _⟩ := own_form HO9.out
 clear hown9 hg9 hat9 hb9
 refine hF.out _ _ (Till.of trivial HX9.out) (fun hTill => ?_)
 clear hF F
 try simp only [Act.put, zA, zB, zC]
 refine ts 16 (v := ?_) ?_ ?_
 rotate_left 1
 ·intro W hSw
  skip
  clear hSw
  go_simp
  try with_reducible rfl
 try dsimp only [zS, zB, zC]
 clear hTill
 intro hTill
 refine ts 17 (v := ?_) ?_ ?_
 rotate_left 1
 ·intro W hSw
  skip
  clear hSw
  go_simp
  try with_reducible rfl
 try dsimp only [zS, zB, zC]
 clear hTill
 intro hTill
 have x7 := HC7.out _ _ _ HX9.out.k
 have f7 := HX9.out.k.frozen 7
 refine wpTill.only (i := 18) (o := ⟨_, _, _, _, _, _⟩) (by kernel_rfl) rfl (fun F hF => ?_)
 go_simp
 have HK10 : Hid (KRep (w9.setCell ⟨g, 7, none⟩ (.slice A9 (ps.eraseIdx i).length c9)) B g (.slice A9 (ps.eraseIdx i).length c9) (.slice A1 Fl.length c1) pv (goneP s p.1.birth) (ps.eraseIdx i)) := zH (by
  have h := HX9.out.k.setL HO9.out rfl (fun q hq => HX9.out.k.vals q (List.mem_of_mem_eraseIdx hq))
  have e : (ps.eraseIdx i).map Prod.fst = s.L.filter fun e => decide (e.birth ≠ p.1.birth) := by
   rw [← HK2.out.map] at HA
   rw [← HK2.out.map]
   show _ = (ps.map Prod.fst).filter _
   rw [map_erase]
   exact erase_filter HA.out (by rw [List.getElem?_map, HI.out]; rfl)
  rw [e] at h
  have e2 : goneP s p.1.birth = { { s with U := Fl } with L := s.L.filter fun e => decide (e.birth ≠ p.1.birth) } := by rw [← HFe.out]; rfl
  rw [e2]
  exact h)
 have HOn10 : Hid (Only (fun k => k = g) w (w9.setCell ⟨g, 7, none⟩ (.slice A9 (ps.eraseIdx i).length c9))) := zH ((HOn2.out.trans (Only.of_below (S := fun k => k = g) HX9.out.below) (fun _ _ h => h)).setCell (p := ⟨g, 7, none⟩) (.inl rfl) _)
 refine hF.out _ _ (Till.stored trivial (by kernel_rfl)) (fun hTill => ?_)
 clear hF F x7 f7
 try simp only [Act.put, zA, zB, zC]
 refine wpTill.done (by kernel_rfl) ?_
 try refine NoPanic.normal ?_
 clear hTill
 generalize w9.setCell ⟨g, 7, none⟩ (.slice A9 (ps.eraseIdx i).length c9) = w10 at HK10 HOn10 ⊢
 refine bodyPost_end (v := .tuple #[]) (results_none rfl _ _ _) rfl ⟨_, _, rfl, HK10.out, HOn10.out⟩
end Go.Proofs.YtnabbimompapfaaGreat
namespace Go.Proofs.YtnabbimompapfaaGreat
open Go Go.RowKit
set_option maxHeartbeats 2000000 in
theorem refBefore_any (a b : EntV) (va vb : Value) (w : World) (hva : ∃ A n c, va = .slice A n c) (hvb : ∃ A n c, vb = .slice A n c) :
  Calls Tryz.prog 54 #[entv a va, entv b vb] w fun e w' => e = .returned (.bool (!before b a)) ∧ Below w.heap.size w w' := by
 obtain ⟨A, n, c, rfl⟩ := hva
 obtain ⟨A2, n2, c2, rfl⟩ := hvb
 unfold entv entc
 by_cases h : a.dl = b.dl
 ·have hd : (a.dl == b.dl) = true := by simp [h]
  have HS := zH (show (!before b a) = decide (a.birth < b.birth) by
   unfold before
   rw [← decide_not, decide_eq_decide]; omega)
  clear h
  go_enter Tryz.func54, Tryz.ntmps54
  go_wp2_with fail
  go_ret
  exact ⟨by rw [HS.out]; rfl, below_two _ _ _⟩
 ·have hd : (a.dl == b.dl) = false := by simp [h]
  have HS := zH (show (!before b a) = decide (a.dl < b.dl) by
   unfold before
   rw [← decide_not, decide_eq_decide]; omega)
  clear h
  go_enter Tryz.func54, Tryz.ntmps54
  go_wp2_with fail
  go_ret
  exact ⟨by rw [HS.out]; rfl, below_two _ _ _⟩
set_option maxHeartbeats 2000000 in
theorem refEqual_any (B1 B2 : Nat) (x y : EntV) (v u : Value) (w : World) (hv : Bts w B1 5 v x.val) (hu : Bts w B2 5 u y.val) :
  Calls Tryz.prog 20 #[entv x v, entv y u] w fun e w' => e = .returned (.bool (decide (x = y))) ∧ Below w.heap.size w w' := by
 have cv := fun o1 o2 => ((hv.alloc o1).alloc o2).string (P := Tryz.prog) 37 9 Tryz.underlying37 Tryz.underlying5 Tryz.underlying9
 have cu := fun o1 o2 => ((hu.alloc o1).alloc o2).string (P := Tryz.prog) 37 9 Tryz.underlying37 Tryz.underlying5 Tryz.underlying9
 obtain ⟨A, cap, rfl⟩ := hv.form
 obtain ⟨A2, cap2, rfl⟩ := hu.form
 unfold entv entc
 clear hv hu
 obtain ⟨k1, b1, d1, n1⟩ := x
 obtain ⟨k2, b2, d2, n2⟩ := y
 dsimp only at *
 by_cases h1 : k1 = k2
 ·have g1 : (k1.toList == k2.toList) = true := by rw [key_eq]; simp [h1]
  by_cases h2 : b1 = b2
  ·have g2 : (b1 == b2) = true := by simp [h2]
   by_cases h4 : d1 = d2
   ·have g4 : (d1 == d2) = true := by simp [h4]
    by_cases h3 : n1 = n2
    ·have g3 : (n1 == n2) = true := by simp [h3]
     have HS := zH (show decide ((⟨k1, b1, d1, n1⟩ : EntV) = ⟨k2, b2, d2, n2⟩) = true by simp [h1, h2, h3, h4])
     clear h1 h2 h3 h4
     go_enter Tryz.func20, Tryz.ntmps20
     go_wp2_with fail
     go_ret
     first | exact ⟨by rw [HS.out]; rfl, below_two _ _ _⟩ | exact ⟨rfl, below_two _ _ _⟩
    ·have g3 : (n1 == n2) = false := by simp [h3]
     have HS := zH (show decide ((⟨k1, b1, d1, n1⟩ : EntV) = ⟨k2, b2, d2, n2⟩) = false by simp [h3])
     clear h3 h1 h2 h4
     go_enter Tryz.func20, Tryz.ntmps20
     go_wp2_with fail
     go_ret
     first | exact ⟨by rw [HS.out]; rfl, below_two _ _ _⟩ | exact ⟨rfl, below_two _ _ _⟩
   ·have g4 : (d1 == d2) = false := by simp [h4]
    have HS := zH (show decide ((⟨k1, b1, d1, n1⟩ : EntV) = ⟨k2, b2, d2, n2⟩) = false by simp [h4])
    clear h4 h1 h2
    go_enter Tryz.func20, Tryz.ntmps20
    go_wp2_with fail
    go_ret
    first | exact ⟨by rw [HS.out]; rfl, below_two _ _ _⟩ | exact ⟨rfl, below_two _ _ _⟩
  ·have g2 : (b1 == b2) = false := by simp [h2]
   have HS := zH (show decide ((⟨k1, b1, d1, n1⟩ : EntV) = ⟨k2, b2, d2, n2⟩) = false by simp [h2])
   clear h2 h1
   go_enter Tryz.func20, Tryz.ntmps20
   go_wp2_with fail
   go_ret
   first | exact ⟨by rw [HS.out]; rfl, below_two _ _ _⟩ | exact ⟨rfl, below_two _ _ _⟩
 ·have g1 : (k1.toList == k2.toList) = false := by rw [key_eq]; simp [h1]
  have HS := zH (show decide ((⟨k1, b1, d1, n1⟩ : EntV) = ⟨k2, b2, d2, n2⟩) = false by simp [h1])
  clear h1
  go_enter Tryz.func20, Tryz.ntmps20
  go_wp2_with fail
  go_ret
  first | exact ⟨by rw [HS.out]; rfl, below_two _ _ _⟩ | exact ⟨rfl, below_two _ _ _⟩
end Go.Proofs.YtnabbimompapfaaGreat
