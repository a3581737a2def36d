/- AudRP, AudRQ, AudRR, AudRS, AudRT, AudRU, AudRV, AudRW, AudRX, AudRXa, AudRXb, AudRXc, AudRXd, AudRY, AudRZ, AudQ, AudQB, AudSA, AudSB, AudJA -/
import Derived.Test.YtnabbimompapfaaMf2
import Derived.RegionTactic
import Derived.Test.YtnabbimompapfaaMf1
import Derived.Deep.DeepCutAuto
import Derived.Deep.Cut
import Derived.Deep.RegionHeld3
import Derived.BigQuiet
import Derived.Deep.QuietTactic
namespace Go.Proofs.Ytnabbimompapfaa
open Go Go.RowKit
set_option maxHeartbeats 2000000 in
theorem refEqual_any (B1 B2 : Nat) (x y : EntV) (v u : Value) (w : World) (hv : Bts w B1 5 v x.val) (hu : Bts w B2 5 u y.val) :
  Calls Try.prog 14 #[entv x v, entv y u] w fun e w' => e = .returned (.bool (decide (x = y))) ∧ Below w.heap.size w w' := by
 have cv := fun o1 o2 => ((hv.alloc o1).alloc o2).string (P := Try.prog) 27 9 Try.underlying27 Try.underlying5 Try.underlying9
 have cu := fun o1 o2 => ((hu.alloc o1).alloc o2).string (P := Try.prog) 27 9 Try.underlying27 Try.underlying5 Try.underlying9
 obtain ⟨A, cap, rfl⟩ := hv.form
 obtain ⟨A2, cap2, rfl⟩ := hu.form
 unfold entv entc
 clear hv hu
 obtain ⟨k1, b1, d1, n1⟩ := x
 obtain ⟨k2, b2, d2, n2⟩ := y
 dsimp only at *
 by_cases h1 : k1 = k2
 ·have g1 : (k1.toList == k2.toList) = true := by rw [key_eq]; simp [h1]
  by_cases h2 : b1 = b2
  ·have g2 : (b1 == b2) = true := by simp [h2]
   by_cases h4 : d1 = d2
   ·have g4 : (d1 == d2) = true := by simp [h4]
    by_cases h3 : n1 = n2
    ·have g3 : (n1 == n2) = true := by simp [h3]
     have HS := zH (show decide ((⟨k1, b1, d1, n1⟩ : EntV) = ⟨k2, b2, d2, n2⟩) = true by simp [h1, h2, h3, h4])
     clear h1 h2 h3 h4
     go_enter Try.func14, Try.ntmps14
     go_wp2_with fail
     go_ret
     first | exact ⟨by rw [HS.out]; rfl, below_two _ _ _⟩ | exact ⟨rfl, below_two _ _ _⟩
    ·have g3 : (n1 == n2) = false := by simp [h3]
     have HS := zH (show decide ((⟨k1, b1, d1, n1⟩ : EntV) = ⟨k2, b2, d2, n2⟩) = false by simp [h3])
     clear h3 h1 h2 h4
     go_enter Try.func14, Try.ntmps14
     go_wp2_with fail
     go_ret
     first | exact ⟨by rw [HS.out]; rfl, below_two _ _ _⟩ | exact ⟨rfl, below_two _ _ _⟩
   ·have g4 : (d1 == d2) = false := by simp [h4]
    have HS := zH (show decide ((⟨k1, b1, d1, n1⟩ : EntV) = ⟨k2, b2, d2, n2⟩) = false by simp [h4])
    clear h4 h1 h2
    go_enter Try.func14, Try.ntmps14
    go_wp2_with fail
    go_ret
    first | exact ⟨by rw [HS.out]; rfl, below_two _ _ _⟩ | exact ⟨rfl, below_two _ _ _⟩
  ·have g2 : (b1 == b2) = false := by simp [h2]
   have HS := zH (show decide ((⟨k1, b1, d1, n1⟩ : EntV) = ⟨k2, b2, d2, n2⟩) = false by simp [h2])
   clear h2 h1
   go_enter Try.func14, Try.ntmps14
   go_wp2_with fail
   go_ret
   first | exact ⟨by rw [HS.out]; rfl, below_two _ _ _⟩ | exact ⟨rfl, below_two _ _ _⟩
 ·have g1 : (k1.toList == k2.toList) = false := by rw [key_eq]; simp [h1]
  have HS := zH (show decide ((⟨k1, b1, d1, n1⟩ : EntV) = ⟨k2, b2, d2, n2⟩) = false by simp [h1])
  clear h1
  go_enter Try.func14, Try.ntmps14
  go_wp2_with fail
  go_ret
  first | exact ⟨by rw [HS.out]; rfl, below_two _ _ _⟩ | exact ⟨rfl, below_two _ _ _⟩
end Go.Proofs.Ytnabbimompapfaa
namespace Go.Proofs.Ytnabbimompapfaa
open Go Go.RowKit
theorem expire_gone {s : PJ} {t : Int} {x : EntV} (hb : (s.L.map EntV.birth).Pairwise (· < ·)) (hx : x ∈ s.L) (hd : dueP x.dl t = true) : expireP (goneP s x.birth) t = expireP s t := by
 have hinj := pair_inj hb
 unfold expireP goneP
 dsimp only
 congr 1
 ·rw [List.filter_filter]
  refine List.filter_congr fun e he => ?_
  by_cases h : e.birth = x.birth
  ·rw [hinj e he x hx h, hd]; simp
  ·simp [h]
 ·rw [List.filter_filter]
  refine List.filter_congr fun c _ => ?_
  by_cases h : c = x.birth
  ·subst h
   have : (s.L.any fun e => decide (e.birth = x.birth) && dueP e.dl t) = true := List.any_eq_true.2 ⟨x, hx, by simp [hd]⟩
   rw [this]; simp
  ·have : ((s.L.filter fun e => decide (e.birth ≠ x.birth)).any fun e => decide (e.birth = c) && dueP e.dl t) = (s.L.any fun e => decide (e.birth = c) && dueP e.dl t) := by
    rw [Bool.eq_iff_iff, List.any_eq_true, List.any_eq_true]
    constructor
    ·rintro ⟨e, he, h2⟩; exact ⟨e, (List.mem_filter.1 he).1, h2⟩
    ·rintro ⟨e, he, h2⟩
     refine ⟨e, List.mem_filter.2 ⟨he, ?_⟩, h2⟩
     rw [Bool.and_eq_true, decide_eq_true_eq] at h2
     rw [decide_eq_true_eq, h2.1]; exact h
   rw [this]; simp [h]
theorem expire_none {s : PJ} {t : Int} (h : ∀ e ∈ s.L, dueP e.dl t = false) : expireP s t = { s with now := t } := by
 have h1 : (s.L.filter fun e => !dueP e.dl t) = s.L := List.filter_eq_self.2 (fun e he => by rw [h e he]; rfl)
 have h2 : (s.U.filter fun b => !(s.L.any fun e => decide (e.birth = b) && dueP e.dl t)) = s.U := List.filter_eq_self.2 (fun b _ => by
  have : (s.L.any fun e => decide (e.birth = b) && dueP e.dl t) = false := by
   rw [List.any_eq_false]; intro e he; rw [h e he]; simp
  rw [this]; rfl)
 unfold expireP
 rw [h1, h2]
theorem strip_eq {x y : EvV} (h : y = x) (xs ys : List EvV) : stripP (x :: xs) (y :: ys) = stripP xs ys := by rw [stripP, if_pos h]
theorem strip_ne {x y : EvV} (h : ¬ y = x) (xs ys : List EvV) : stripP (x :: xs) (y :: ys) = none := by rw [stripP, if_neg h]
def sLen : Value → Nat
 |.slice _ n _ => n
 |_ => 0
def FirstD (t : Int) (ps : List (EntV × Value)) (m : Nat) (f : Int) : Prop :=
 (f = -1 ∧ ∀ j p, j < m → ps[j]? = some p → dueP p.1.dl t = false) ∨
 ∃ (k : Nat) (p : EntV × Value), f = k ∧ k < m ∧ ps[k]? = some p ∧ dueP p.1.dl t = true ∧ ∀ j q, j < m → ps[j]? = some q → dueP q.1.dl t = true → before p.1 q.1 = true
section
variable {t : Int} {ps : List (EntV × Value)} {m : Nat} {f : Int} {e : EntV × Value}
theorem FirstD.skip (h : FirstD t ps m f) (he : ps[m]? = some e) (hd : dueP e.1.dl t = false) : FirstD t ps (m + 1) f := by
 rcases h with ⟨h1, h2⟩ | ⟨k, p, h1, h2, h3, h4, h5⟩
 ·refine .inl ⟨h1, fun j p hj hp => ?_⟩
  rcases (by omega : j < m ∨ j = m) with h | rfl
  ·exact h2 j p h hp
  ·rw [he] at hp; cases hp; exact hd
 ·refine .inr ⟨k, p, h1, by omega, h3, h4, fun j q hj hq hqd => ?_⟩
  rcases (by omega : j < m ∨ j = m) with h | rfl
  ·exact h5 j q h hq hqd
  ·rw [he] at hq; cases hq; rw [hd] at hqd; cases hqd
theorem FirstD.fresh (h : FirstD t ps m (-1)) (he : ps[m]? = some e) (hd : dueP e.1.dl t = true) : FirstD t ps (m + 1) m := by
 rcases h with ⟨_, h2⟩ | ⟨k, p, h1, _⟩
 ·refine .inr ⟨m, e, rfl, by omega, he, hd, fun j q hj hq hqd => ?_⟩
  rcases (by omega : j < m ∨ j = m) with h | rfl
  ·rw [h2 j q h hq] at hqd; cases hqd
  ·rw [he] at hq; cases hq
   have := before_total e.1 e.1; simpa using this
 ·omega
theorem FirstD.better {k : Nat} {p : EntV × Value} (h : FirstD t ps m k) (hp : ps[k]? = some p) (he : ps[m]? = some e) (hd : dueP e.1.dl t = true) (hb : before p.1 e.1 = false) : FirstD t ps (m + 1) m := by
 rcases h with ⟨h1, _⟩ | ⟨k', p', h1, h2, h3, h4, h5⟩
 ·omega
 ·have : k' = k := by omega
  subst this
  rw [hp] at h3; cases h3
  have hep : before e.1 p.1 = true := by have := before_total p.1 e.1; rw [hb] at this; simpa using this
  refine .inr ⟨m, e, rfl, by omega, he, hd, fun j q hj hq hqd => ?_⟩
  rcases (by omega : j < m ∨ j = m) with h | rfl
  ·exact before_trans _ _ _ hep (h5 j q h hq hqd)
  ·rw [he] at hq; cases hq
   have := before_total e.1 e.1; simpa using this
theorem FirstD.stays {k : Nat} {p : EntV × Value} (h : FirstD t ps m k) (hp : ps[k]? = some p) (he : ps[m]? = some e) (hb : before p.1 e.1 = true) : FirstD t ps (m + 1) k := by
 rcases h with ⟨h1, _⟩ | ⟨k', p', h1, h2, h3, h4, h5⟩
 ·omega
 ·have : k' = k := by omega
  subst this
  rw [hp] at h3; cases h3
  refine .inr ⟨k', p, rfl, by omega, hp, h4, fun j q hj hq hqd => ?_⟩
  rcases (by omega : j < m ∨ j = m) with h | rfl
  ·exact h5 j q h hq hqd
  ·rw [he] at hq; cases hq; exact hb
end
end Go.Proofs.Ytnabbimompapfaa
namespace Go.Proofs.Ytnabbimompapfaa
open Go Go.RowKit
def evcs (xs : List (EvV × Value)) : List Value := xs.flatMap fun p => (evc p.1 p.2).toList
theorem evcs_length (xs : List (EvV × Value)) : (evcs xs).length = xs.length * 6 := by
 induction xs with
 |nil => rfl
 |cons p xs ih =>
  have : (evcs (p :: xs)).length = 6 + (evcs xs).length := by simp [evcs, evc]; omega
  rw [this, ih, List.length_cons]; omega
theorem evcs_append (xs ys : List (EvV × Value)) : evcs (xs ++ ys) = evcs xs ++ evcs ys := by simp [evcs]
theorem evcs_one1 (x : EvV) (V : Value) : evcs [(x, V)] = [.int .i64 x.kind, .string x.key, V, .int .u64 x.birth, .int .u64 x.dl, .int .u64 x.at_] := by simp [evcs, evc]
theorem evcs_at : ∀ (xs : List (EvV × Value)) (i j : Nat) (p : EvV × Value), xs[i]? = some p → j < 6 → (evcs xs)[i * 6 + j]? = (evc p.1 p.2)[j]?
 |[], i, j, p, h, _ => by simp at h
 |q :: xs, 0, j, p, h, hj => by
  have e : q = p := by simpa using h
  subst e
  show ((evc q.1 q.2).toList ++ evcs xs)[0 * 6 + j]? = _
  rw [List.getElem?_append_left (by simp [evc]; omega)]
  simp
 |q :: xs, i + 1, j, p, h, hj => by
  show ((evc q.1 q.2).toList ++ evcs xs)[(i + 1) * 6 + j]? = _
  rw [List.getElem?_append_right (by simp [evc]; omega)]
  have e2 : (i + 1) * 6 + j - (evc q.1 q.2).toList.length = i * 6 + j := by simp [evc]; omega
  rw [e2]
  exact evcs_at xs i j p (by simpa using h) hj
theorem Bts.up2 {w : World} {B B' U : Nat} {v : Value} {bs : List UInt8} (h : Bts w B U v bs) (hB : B ≤ B') : Bts w B' U v bs := by
 obtain ⟨A, cap, h1, h2, h3, h4, h5⟩ := h
 refine ⟨A, cap, h1, h2, h3, h4, fun h0 => ?_⟩
 obtain ⟨b, off, e1, e2, e3, e4⟩ := h5 h0
 exact ⟨b, off, e1, e2, e3.imp (fun h => by omega) (fun h => h), e4⟩
theorem EvsAt.of_own {w : World} {base B : Nat} {v : Value} {xs : List (EvV × Value)} (h : w.ownsRow base 50 6 v xs.length (evcs xs)) (hB : w.heap.size ≤ B) (hv : ∀ p ∈ xs, Bts w B 5 p.2 p.1.val) : EvsAt w B v xs := by
 refine ⟨?_, hv⟩
 obtain ⟨A, cap, rfl, h1, h2⟩ := own_form h
 rcases h.2 with ⟨e, h0⟩ | ⟨g, cap', cur, e, hg, hh, _⟩
 ·injection e with e1 e2 e3
  exact ⟨A, cap, rfl, h1, h2, fun _ => h0, fun h => by omega⟩
 ·injection e with e1 e2 e3
  subst e1
  refine ⟨_, cap, rfl, h1, h2, (fun h => by cases h), fun h0 => ⟨g, 0, rfl, ⟨lt_of_heap hh, Nat.lt_of_lt_of_le (lt_of_heap hh) hB⟩, fun i p hi j u hu => ?_⟩⟩
  have hj : j < 6 := by have := (Array.getElem?_eq_some_iff.1 hu).1; simpa [evc] using this
  have := h.cells (g := g) rfl (i * 6 + j) u ((evcs_at xs i j p hi hj).trans hu)
  rw [add_plain] at this
  exact this
theorem idx_find {ps : List (EntV × Value)} {L : List EntV} (h : ps.map Prod.fst = L) (k : ByteArray) :
  (findP L k = none ∧ idxI (fun p : EntV × Value => decide (p.1.key = k)) ps = -1) ∨ ∃ (j : Nat) (p : EntV × Value), ps[j]? = some p ∧ findP L k = some p.1 ∧ idxI (fun p : EntV × Value => decide (p.1.key = k)) ps = (j : Int) ∧ p.1.key = k := by
 subst h
 unfold findP
 rw [List.find?_map]
 have e : (ps.find? ((fun e : EntV => decide (e.key = k)) ∘ Prod.fst)) = ps.find? (fun p => decide (p.1.key = k)) := rfl
 rw [e]
 cases hf : ps.findIdx? (fun p : EntV × Value => decide (p.1.key = k)) with
 |none =>
  left
  refine ⟨?_, by unfold idxI; rw [hf]⟩
  have := List.findIdx?_eq_none_iff.1 hf
  rw [List.find?_eq_none.2 (fun x hx => by rw [this x hx]; decide)]; rfl
 |some j =>
  right
  obtain ⟨hl, hp, hj⟩ := List.findIdx?_eq_some_iff_getElem.1 hf
  refine ⟨j, ps[j], List.getElem?_eq_getElem hl, ?_, by unfold idxI; rw [hf], by simpa using hp⟩
  have : ps.find? (fun p : EntV × Value => decide (p.1.key = k)) = some ps[j] := by
   rw [List.find?_eq_some_iff_getElem]
   exact ⟨hp, j, hl, rfl, fun k hk => by have := hj k hk; simpa using this⟩
  rw [this]; rfl
theorem evI_info : (Try.prog.info? 50).map (fun i => (i.zero, i.size, i.bytes)) = some (some (.agg #[.int .i64 0, .string ⟨#[]⟩, .slice none 0 0, .int .u64 0, .int .u64 0, .int .u64 0]), 6, 72) := by kernel_rfl
theorem src_ev (w : World) (x : EvV) (V : Value) : Src (w.alloc (.cells #[.int .i64 x.kind, .string x.key, V, .int .u64 x.birth, .int .u64 x.dl, .int .u64 x.at_] 50)) 6 (some ⟨w.heap.size, 0, none⟩) 1 (evcs [(x, V)]) := by
 refine ⟨by rw [evcs_one1]; rfl, (fun h => by cases h), fun a ha j v hu => ?_⟩
 cases ha
 rw [add_plain, Nat.zero_add]
 refine (Blk.new w _ _).cell j v ?_
 rw [evcs_one1] at hu
 simpa using hu
theorem evcs_cell (xs : List (EvV × Value)) (h : ∀ p ∈ xs, ∃ A n c, p.2 = .slice A n c) : ∀ u ∈ evcs xs, u.oneCell' = true := by
 intro u hu
 simp only [evcs, List.mem_flatMap] at hu
 obtain ⟨p, hp, hu⟩ := hu
 obtain ⟨A, n, c, e⟩ := h p hp
 simp only [evc, e, List.mem_cons, List.not_mem_nil, or_false] at hu
 rcases hu with rfl | rfl | rfl | rfl | rfl | rfl <;> rfl
def OwnEv (s : PJ) (o : OpV) (w : World) (e : Ending) (w' : World) : Prop :=
 ∃ v xs, e = .returned v ∧ EvsAt w' w'.heap.size v xs ∧ xs.map Prod.fst = ownE s o ∧ Below w.heap.size w w'
theorem OwnEv.nil {s : PJ} {o : OpV} {w w' : World} (hb : Below w.heap.size w w') (h : ownE s o = []) : OwnEv s o w (.returned (.slice none 0 0)) w' :=
 ⟨_, [], rfl, ⟨⟨none, 0, rfl, zN _, Nat.zero_le _, fun _ => rfl, fun h => by simp at h⟩, by simp⟩, by rw [h]; rfl, hb⟩
theorem below_grown1 {w w' : World} {o : Obj} (hg : (w.alloc o).grownBy w' none) : Below w.heap.size w w' :=
 ((zL _ _).alloc (zN _) _).grown hg (by simp) (fun k hk => by cases hk)
def evsOf (k t : Int) (ps : List (EntV × Value)) : List (EvV × Value) := ps.map fun p => (eventP k p.1 t, p.2)
theorem evsOf_append (k t : Int) (ps qs : List (EntV × Value)) : evsOf k t (ps ++ qs) = evsOf k t ps ++ evsOf k t qs := by simp [evsOf]
end Go.Proofs.Ytnabbimompapfaa
namespace Go.Proofs.Ytnabbimompapfaa
open Go Go.RowKit
def wantc (x : WantV) (V Ve : Value) : Array Value :=
 #[.int .i64 0, .int .u64 0, .string ⟨#[]⟩, .slice none 0 0, .int .u64 0, .int .i64 0, .int .i64 0, .int .i64 0, .int .u64 0, .int .u64 0, .int .i64 0, .bool x.hit, V, .string x.ent.key, Ve, .int .u64 x.ent.dl, .int .u64 x.ent.birth, .int .i64 x.cursor, .slice none 0 0, .int .i64 0, .int .i64 0]
def RdsE (B : Nat) (x : WantV) (w : World) (e : Ending) (w' : World) : Prop :=
 ∃ V Ve, e = .returned (.agg (wantc x V Ve)) ∧ Bts w' B 5 V x.val ∧ Bts w' B 5 Ve x.ent.val ∧ Below w.heap.size w w'
theorem Only.setRow {S : Nat → Prop} {a w : World} (h : Only S a w) {g : Nat} (hg : S g ∨ a.heap.size ≤ g) (cs : Array Value) : Only S a (w.setRow g cs) :=
 ⟨h.os, h.tape, h.output, by rw [setRow_size]; exact h.size, fun i hi hn => (setRow_other w g i cs (by
  rintro rfl
  rcases hg with hg | hg
  ·exact hn hg
  ·omega)).trans (h.block i hi hn)⟩
theorem Blk.row {w : World} {g : Nat} {t : TypeId} {cs : Array Value} (h : Blk w g t cs) (cs' : Array Value) : Blk (w.setRow g cs') g t cs' := setRow_heap w g cs cs' t (0, 0) h
end Go.Proofs.Ytnabbimompapfaa
namespace Go.Proofs.Ytnabbimompapfaa
open Go Go.RowKit
section
variable {w W W2 : World} {B g : Nat} {vL vU : Value} {pv : Nat → Int} {s : PJ} {ps : List (EntV × Value)} {o : OpV} {V : Value}
end
theorem effA_none {s : PJ} {o : OpV} (h : ¬ (o.kind = 1 ∨ o.kind = 2 ∨ o.kind = 3 ∨ o.kind = 5 ∨ o.kind = 6 ∨ o.kind = 7 ∨ o.kind = 8)) : effA s o = s := by
 unfold effA
 rw [if_neg (by omega), if_neg (by omega), if_neg (by omega), if_neg (by omega)]
 split
 ·rfl
 ·rw [if_neg (by omega), if_neg (by omega), if_neg (by omega)]
theorem effB_none {s : PJ} {o : OpV} (h : ¬ (o.kind = 11 ∨ o.kind = 12 ∨ o.kind = 13 ∨ o.kind = 14)) : effB s o = s := by
 unfold effB
 rw [if_neg (by omega), if_neg (by omega), if_neg (by omega), if_neg (by omega)]
end Go.Proofs.Ytnabbimompapfaa
namespace Go.Proofs.Ytnabbimompapfaa
open Go Go.RowKit
section
variable {w W W2 : World} {B g : Nat} {vL vU : Value} {pv : Nat → Int} {s : PJ} {ps : List (EntV × Value)} {o : OpV} {V : Value}
theorem openAt_set {pl : List (Option Int)} {n : Nat} {x : Option Int} (hn : n < pl.length) (j : Nat) : openAt (pl.set n x) j = if j = n then x.isSome else openAt pl j := by
 unfold openAt
 by_cases e : j = n
 ·subst e
  rw [if_pos rfl, List.getElem?_set_self hn]; rfl
 ·rw [if_neg e, List.getElem?_set_ne (fun h => e h.symm)]
end
end Go.Proofs.Ytnabbimompapfaa
namespace Go.Proofs.Ytnabbimompapfaa
open Go Go.RowKit
section
variable {w w2 W W2 : World} {B g : Nat} {vL vU : Value} {pv : Nat → Int} {s : PJ} {ps : List (EntV × Value)} {o : OpV} {V : Value} {gx : Nat} {x : EntV} {U : Value}
end
theorem ent_cells {W : World} {g : Nat} {x : EntV} {U : Value} (h : Blk W g 32 (entc x U)) : W.cell? ⟨g, 0, none⟩ = some (.string x.key) ∧ W.cell? ⟨g, 1, none⟩ = some U ∧ W.cell? ⟨g, 2, none⟩ = some (.int .u64 x.dl) ∧ W.cell? ⟨g, 3, none⟩ = some (.int .u64 x.birth) :=
 ⟨h.cell 0 _ rfl, h.cell 1 _ rfl, h.cell 2 _ rfl, h.cell 3 _ rfl⟩
theorem ecs_set (ps : List (EntV × Value)) (j : Nat) (x : EntV) (U : Value) (hj : j < ps.length) : ecs (ps.set j (x, U)) = ecs (ps.take j) ++ (entc x U).toList ++ ecs (ps.drop (j + 1)) := by
 rw [List.set_eq_take_append_cons_drop, if_pos hj, ecs_append]
 show _ ++ ecs ([(x, U)] ++ ps.drop (j + 1)) = _
 rw [ecs_append, List.append_assoc]; rfl
theorem map_set {L : List EntV} (hb : (L.map EntV.birth).Pairwise (· < ·)) {j : Nat} {x : EntV} (hj : L[j]? = some x) (f : EntV → EntV) : (L.map fun e => if e.birth = x.birth then f e else e) = L.set j (f x) := by
 refine List.ext_getElem? fun i => ?_
 rw [List.getElem?_map]
 by_cases e : j = i
 ·subst e
  rw [List.getElem?_set_self (List.getElem?_eq_some_iff.1 hj).1, hj]
  simp
 ·rw [List.getElem?_set_ne e]
  cases hi : L[i]? with
  |none => rfl
  |some y =>
   have hne : ¬ y.birth = x.birth := fun h => by
    obtain ⟨hi1, hi2⟩ := List.getElem?_eq_some_iff.1 hi
    obtain ⟨hj1, hj2⟩ := List.getElem?_eq_some_iff.1 hj
    have hp := List.pairwise_iff_getElem.1 hb
    rcases (by omega : i < j ∨ j < i) with h2 | h2
    ·have := hp i j (by simpa using hi1) (by simpa using hj1) h2
     simp only [List.getElem_map] at this
     rw [hi2, hj2] at this; omega
    ·have := hp j i (by simpa using hj1) (by simpa using hi1) h2
     simp only [List.getElem_map] at this
     rw [hi2, hj2] at this; omega
   simp [hne]
theorem src_blk {W : World} {g : Nat} {x : EntV} {A : Option Addr} {n c : Nat} (h : Blk W g 32 #[.string x.key, .slice A n c, .int .u64 x.dl, .int .u64 x.birth]) : Src W 4 (some ⟨g, 0, none⟩) 1 (entc x (.slice A n c)).toList := by
 refine ⟨rfl, (fun h => by cases h), fun a ha j v hu => ?_⟩
 cases ha
 rw [add_plain, Nat.zero_add]
 exact h.cell j v (by simpa [entc] using hu)
end Go.Proofs.Ytnabbimompapfaa
namespace Go.Proofs.Ytnabbimompapfaa
open Go Go.RowKit
end Go.Proofs.Ytnabbimompapfaa
namespace Go.Proofs.Ytnabbimompapfaa
open Go Go.RowKit
theorem below_grown {w w' : World} (h : w.grownBy w' none) : Below w.heap.size w w' := ⟨h.os, h.tape, h.output, h.size, fun k hk => h.block k hk (by simp)⟩
section
variable {w W W2 : World} {B g : Nat} {vL vU : Value} {pv : Nat → Int} {s : PJ} {ps : List (EntV × Value)} {o : OpV} {V : Value}
end
theorem set_none_eq {s : PJ} {o : OpV} (hf : findP s.L o.key = none) (hnu : ∀ u ∈ s.U, u ≤ s.births) (e0 : EntV) (dl : Int) :
  useP { cfg := s.cfg, now := s.now, births := s.births + 1, L := (s.L ++ [e0]).set s.L.length ⟨o.key, o.val, dl, s.births + 1⟩, U := s.U, pl := s.pl } (s.births + 1) = setP s o dl := by
 unfold useP setP
 rw [hf]
 dsimp only
 have h1 : (s.U.filter fun x => decide (x ≠ s.births + 1)) = s.U := List.filter_eq_self.2 (fun u hu => by have := hnu u hu; rw [decide_eq_true_eq]; omega)
 have h2 : (s.L ++ [e0]).set s.L.length ⟨o.key, o.val, dl, s.births + 1⟩ = s.L ++ [⟨o.key, o.val, dl, s.births + 1⟩] := by
  rw [List.set_append_right _ _ (zN _), Nat.sub_self]; rfl
 rw [h1, h2]
theorem set_some_eq {s : PJ} {o : OpV} {x : EntV} {j : Nat} (hf : findP s.L o.key = some x) (hk : x.key = o.key) (hj : s.L[j]? = some x) (hasc : (s.L.map EntV.birth).Pairwise (· < ·)) (dl : Int) :
  useP { s with L := s.L.set j ⟨o.key, o.val, dl, x.birth⟩ } x.birth = setP s o dl := by
 unfold setP
 rw [hf]
 dsimp only
 rw [map_set hasc hj (fun e => ⟨e.key, o.val, dl, e.birth⟩), hk]
theorem effP_set {s : PJ} {o : OpV} (hk : o.kind = 1 ∨ o.kind = 2) : effP s o 0 = setP s o (if o.kind = 1 then neverT else addP s.now o.ttl) := by
 unfold effP
 rw [if_pos rfl, effB_none (by omega)]
 unfold effA
 rcases hk with h | h
 ·rw [if_pos h, if_pos h]
 ·rw [if_neg (by omega), if_pos h, if_neg (by omega)]
end Go.Proofs.Ytnabbimompapfaa
namespace Go.Proofs.Ytnabbimompapfaa
open Go Go.RowKit
end Go.Proofs.Ytnabbimompapfaa
namespace Go.Proofs.Ytnabbimompapfaa
open Go Go.RowKit
end Go.Proofs.Ytnabbimompapfaa
namespace Go.Proofs.Ytnabbimompapfaa
open Go Go.RowKit
end Go.Proofs.Ytnabbimompapfaa
namespace Go.Proofs.Ytnabbimompapfaa
open Go Go.RowKit
end Go.Proofs.Ytnabbimompapfaa
namespace Go.Proofs.Ytnabbimompapfaa
open Go Go.RowKit
structure EffOk (s : PJ) (o : OpV) (e : Int) : Prop where
 h0 : ¬ (o.kind = 11 ∨ o.kind = 12 ∨ o.kind = 13 ∨ o.kind = 14) → e = 0
 h11 : o.kind = 11 → e = 0 → freeP s.pl < 64
 h12 : o.kind = 12 → e = 0 → ∃ b x, openP s.pl o.cursor = some b ∧ afterP s.L b s.now = some x
 h13 : o.kind = 13 ∨ o.kind = 14 → e = 0 → (openP s.pl o.cursor).isSome = true
end Go.Proofs.Ytnabbimompapfaa
namespace Go.Proofs.Ytnabbimompapfaa
open Go Go.RowKit
theorem asc_len : ∀ {l : List Int} {a b : Int}, l.Pairwise (· < ·) → (∀ x ∈ l, a < x ∧ x ≤ b) → a ≤ b → (l.length : Int) ≤ b - a
 |[], a, b, _, _, h => by simp; omega
 |x :: l, a, b, hp, hm, _ => by
  rw [List.pairwise_cons] at hp
  have h1 := hm x (List.mem_cons_self ..)
  have := asc_len (l := l) (a := x) (b := b) hp.2 (fun y hy => ⟨hp.1 y hy, (hm y (List.mem_cons_of_mem _ hy)).2⟩) h1.2
  rw [List.length_cons]; omega
theorem nodup_len {α : Type} [BEq α] [LawfulBEq α] : ∀ {l l2 : List α}, l.Nodup → (∀ x ∈ l, x ∈ l2) → l.length ≤ l2.length
 |[], _, _, _ => Nat.zero_le _
 |x :: l, l2, hn, hs => by
  rw [List.nodup_cons] at hn
  have hx := hs x (List.mem_cons_self ..)
  have h1 := nodup_len (l := l) (l2 := l2.erase x) hn.2 (fun y hy => by
   refine (List.mem_erase_of_ne ?_).2 (hs y (List.mem_cons_of_mem _ hy))
   rintro rfl; exact hn.1 hy)
  rw [List.length_erase_of_mem hx] at h1
  have := List.length_pos_of_mem hx
  rw [List.length_cons]; omega
theorem PInv.lenL {n : Nat} {s : PJ} (h : PInv n s) : s.L.length ≤ n := by
 have := asc_len (a := 0) (b := s.births) h.asc (fun x hx => by
  obtain ⟨e, he, rfl⟩ := List.mem_map.1 hx
  have := h.low e he; omega) h.cnt.1
 rw [List.length_map] at this
 have := h.cnt.2
 omega
theorem PInv.lenU {n : Nat} {s : PJ} (h : PInv n s) : s.U.length ≤ n := by
 refine Nat.le_trans (nodup_len (l2 := s.L.map EntV.birth) h.und (fun x hx => ?_)) (by rw [List.length_map]; exact h.lenL)
 obtain ⟨e, he, rfl⟩ := (h.mem x).1 hx
 exact List.mem_map_of_mem he
theorem PInv.lowU {n : Nat} {s : PJ} (h : PInv n s) : ∀ u ∈ s.U, u ≤ s.births := fun u hu => by
 obtain ⟨e, he, rfl⟩ := (h.mem u).1 hu
 exact (h.low e he).2
theorem findP_mem {L : List EntV} (hk : (L.map EntV.key).Nodup) {x : EntV} (hx : x ∈ L) : findP L x.key = some x := by
 cases h : findP L x.key with
 |none => exact absurd rfl (findP_none h x hx)
 |some y =>
  obtain ⟨h1, h2⟩ := findP_some h
  rw [nodup_inj hk y h1 x hx h2]
def HitE (v : EvV) (t : Int) (ps : List (EntV × Value)) (m : Nat) (f : Int) : Prop :=
 (f = -1 ∧ ∀ j p, j < m → ps[j]? = some p → v ≠ eventP 2 p.1 t) ∨ ∃ (k : Nat) (p : EntV × Value), f = k ∧ k < m ∧ ps[k]? = some p ∧ v = eventP 2 p.1 t
section
variable {v : EvV} {t : Int} {ps : List (EntV × Value)} {m : Nat} {f : Int} {e : EntV × Value}
theorem HitE.skip (h : HitE v t ps m f) (he : ps[m]? = some e) (hv : v ≠ eventP 2 e.1 t) : HitE v t ps (m + 1) f := by
 rcases h with ⟨h1, h2⟩ | ⟨k, p, h1, h2, h3, h4⟩
 ·refine .inl ⟨h1, fun j p hj hp => ?_⟩
  rcases (by omega : j < m ∨ j = m) with h | rfl
  ·exact h2 j p h hp
  ·rw [he] at hp; cases hp; exact hv
 ·exact .inr ⟨k, p, h1, by omega, h3, h4⟩
theorem HitE.take (he : ps[m]? = some e) (hv : v = eventP 2 e.1 t) : HitE v t ps (m + 1) m := .inr ⟨m, e, rfl, by omega, he, hv⟩
end
theorem evict_cons {o : OpV} {v : EvV} {l : List EvV} {s : PJ} {x : EntV} (hf : findP s.L v.key = some x) (hv : v = eventP 2 x s.now) :
  evictP o (v :: l) s = if withinP s ∨ ((o.kind = 1 ∨ o.kind = 2) ∧ x.key = o.key) then .error 4 else if s.cfg.prot = 0 ∧ s.U.head? ≠ some x.birth then .error 4 else evictP o l (goneP s x.birth) := by
 rw [evictP, hf]
 dsimp only
 rw [if_neg (fun h => h hv)]
theorem evict_miss {o : OpV} {v : EvV} {l : List EvV} {s : PJ} (h : ∀ x ∈ s.L, v ≠ eventP 2 x s.now) : evictP o (v :: l) s = .error 2 := by
 rw [evictP]
 cases hf : findP s.L v.key with
 |none => rfl
 |some x =>
  dsimp only
  rw [if_pos (h x (findP_some hf).1)]
theorem drewN_below (w : World) (n : Nat) : Below w.heap.size w (w.drewN n) := ⟨rfl, rfl, rfl, zN _, fun _ _ => rfl⟩
section
variable {w W W2 : World} {B Bv g : Nat} {vL vU : Value} {pv : Nat → Int} {s1 : PJ} {ps1 : List (EntV × Value)} {o : OpV} {V lv : Value} {xs : List (EvV × Value)}
end
theorem ev_cells {W : World} {Bv q off n cap : Nat} {xs : List (EvV × Value)} (h : EvsAt W Bv (.slice (some ⟨q, off, none⟩) n cap) xs) {i : Nat} {p : EvV × Value} (hi : xs[i]? = some p) :
  W.cell? ⟨q, off + i * 6, none⟩ = some (.int .i64 p.1.kind) ∧ W.cell? ⟨q, off + i * 6 + 1, none⟩ = some (.string p.1.key) ∧ W.cell? ⟨q, off + i * 6 + 2, none⟩ = some p.2 ∧ W.cell? ⟨q, off + i * 6 + 3, none⟩ = some (.int .u64 p.1.birth) ∧ W.cell? ⟨q, off + i * 6 + 4, none⟩ = some (.int .u64 p.1.dl) ∧ W.cell? ⟨q, off + i * 6 + 5, none⟩ = some (.int .u64 p.1.at_) := by
 obtain ⟨b, o2, e, _, h1⟩ := h.at_ hi
 cases e
 exact h1
end Go.Proofs.Ytnabbimompapfaa
namespace Go.Proofs.Ytnabbimompapfaa
open Go Go.RowKit
theorem after_filter {L : List EntV} {b t : Int} : afterP (L.filter fun e => !dueP e.dl t) b t = afterP L b t := by
 unfold afterP
 induction L with
 |nil => rfl
 |cons e L ih =>
  by_cases h : dueP e.dl t = true
  ·rw [List.filter_cons_of_neg (by rw [h]; decide), List.find?_cons_of_neg (by rw [h]; simp), ih]
  ·have h2 : dueP e.dl t = false := by simpa using h
   rw [List.filter_cons_of_pos (by rw [h2]; rfl)]
   by_cases hb : b < e.birth
   ·rw [List.find?_cons_of_pos (by rw [h2]; simp [hb]), List.find?_cons_of_pos (by rw [h2]; simp [hb])]
   ·rw [List.find?_cons_of_neg (by simp [hb]), List.find?_cons_of_neg (by simp [hb]), ih]
theorem freeP_le (pl : List (Option Int)) (h : pl.length = 64) : freeP pl ≤ 64 := by
 unfold freeP
 cases hf : pl.findIdx? fun x => x.isNone with
 |none => exact zN _
 |some i =>
  obtain ⟨hl, _⟩ := List.findIdx?_eq_some_iff_getElem.1 hf
  show i ≤ 64; omega
theorem right_cases {s : PJ} {o : OpV} {t : Int} (hk : 1 ≤ o.kind ∧ o.kind ≤ 14) (hr : refusedP o (rightP s o t) = false) (hp : s.pl.length = 64) :
  (¬ (o.kind = 11 ∨ o.kind = 12 ∨ o.kind = 13 ∨ o.kind = 14) → rightP s o t = 0) ∧
  (o.kind = 1 ∨ o.kind = 2 → keyOK o.key = true ∧ o.val.length ≤ 65536) ∧
  (o.kind = 11 → rightP s o t = 0 → freeP s.pl < 64) ∧
  (o.kind = 12 → rightP s o t = 0 → ∃ b x, openP s.pl o.cursor = some b ∧ afterP s.L b t = some x) ∧
  (o.kind = 13 ∨ o.kind = 14 → rightP s o t = 0 → (openP s.pl o.cursor).isSome = true) := by
 have h0 : ¬ (o.kind = 11 ∨ o.kind = 12 ∨ o.kind = 13 ∨ o.kind = 14) → rightP s o t = 0 := fun hc => by
  by_cases h8 : o.kind ≤ 6 ∨ o.kind = 8
  ·unfold refusedP at hr
   rw [decide_eq_false_iff_not] at hr
   by_cases he : rightP s o t = 0
   ·exact he
   ·exact absurd ⟨he, by omega⟩ hr
  ·unfold rightP
   rw [if_neg (by omega), if_neg (by omega), if_neg (by omega), if_neg (by omega)]
 refine ⟨h0, fun h12 => ?_, fun h11 he => ?_, fun h12 he => ?_, fun h13 he => ?_⟩
 ·have h := h0 (by omega)
  unfold rightP at h
  rw [if_pos (by omega)] at h
  split at h
  ·omega
  ·rename_i h1
   split at h
   ·omega
   ·rename_i h2
    refine ⟨?_, by omega⟩
    cases hq : keyOK o.key with
    |true => rfl
    |false => exact absurd (.inl hq) h1
 ·unfold rightP at he
  rw [if_neg (by omega), if_neg (by omega), if_pos h11] at he
  split at he
  ·omega
  ·have := freeP_le s.pl hp; omega
 ·unfold rightP at he
  rw [if_neg (by omega), if_neg (by omega), if_neg (by omega), if_pos (.inl h12)] at he
  cases ho : openP s.pl o.cursor with
  |none => rw [ho] at he; dsimp only at he; omega
  |some b =>
   rw [ho] at he
   dsimp only at he
   cases ha : afterP s.L b t with
   |none => rw [ha, if_pos ⟨h12, rfl⟩] at he; omega
   |some x => exact ⟨b, x, rfl, ha⟩
 ·unfold rightP at he
  rw [if_neg (by omega), if_neg (by omega), if_neg (by omega), if_pos (by omega)] at he
  cases ho : openP s.pl o.cursor with
  |none => rw [ho] at he; dsimp only at he; omega
  |some b => rfl
theorem effOk_of {s : PJ} {o : OpV} {t : Int} (hk : 1 ≤ o.kind ∧ o.kind ≤ 14) (hr : refusedP o (rightP s o t) = false) (hp : s.pl.length = 64) : EffOk (expireP s t) o (rightP s o t) := by
 obtain ⟨h0, _, h11, h12, h13⟩ := right_cases hk hr hp
 refine ⟨h0, h11, fun h he => ?_, h13⟩
 obtain ⟨b, x, h1, h2⟩ := h12 h he
 exact ⟨b, x, h1, by show afterP (s.L.filter fun e => !dueP e.dl t) b t = _; rw [after_filter]; exact h2⟩
theorem effect_inv {N : Nat} {s : PJ} {o : OpV} {t : Int} (hi : PInv N s) (ht : 0 ≤ t ∧ t ≤ neverT) (htt : 0 ≤ o.ttl) (hk : 1 ≤ o.kind ∧ o.kind ≤ 14) (hr : refusedP o (rightP s o t) = false) : PInv (N + 1) (effP (expireP s t) o (rightP s o t)) :=
 (hi.expire t ht).effP o _ htt (right_cases hk hr hi.pls).2.1
theorem jstep_inv {N : Nat} {s s2 : PJ} {r : ResV} (hi : PInv N s) (htk : 0 ≤ r.op.ticks) (htt : 0 ≤ r.op.ttl) (h : jstep s r = .ok s2) : PInv (N + 1) s2 := by
 have hend : ∀ {s1 : PJ} {w : WantV}, endP r s1 w = .ok s2 → s1 = s2 := fun {s1 w} h => by
  unfold endP at h
  split at h
  ·cases h
  ·split at h
   ·cases h
   ·split at h
    ·cases h
    ·injection h
 unfold jstep at h
 split at h
 ·cases h
 ·rename_i h1
  have he : r.err = rightP s r.op (addP s.now r.op.ticks) := by
   by_cases e : r.err = rightP s r.op (addP s.now r.op.ticks)
   ·exact e
   ·exact absurd (.inr (.inr e)) h1
  split at h
  ·split at h
   ·cases h
   ·split at h
    ·cases h
    ·split at h
     ·cases h
     ·rw [← hend h]; exact hi.more
  ·rename_i hr
   have hr2 : refusedP r.op (rightP s r.op (addP s.now r.op.ticks)) = false := by rw [← he]; simpa using hr
   split at h
   ·cases h
   ·split at h
    ·cases h
    ·rename_i s1 w hev
     rw [← hend h]
     unfold eventsP at hev
     split at hev
     ·cases hev
     ·split at hev
      ·cases hev
      ·split at hev
       ·cases hev
       ·split at hev
        ·cases hev
        ·rename_i s3 hevi
         injection hev with hev
         injection hev with hev _
         subst hev
         rw [he] at hevi
         exact evictP_inv _ _ _ _ (effect_inv hi (addP_range hi.now.1 htk) htt (by omega) hr2) hevi
end Go.Proofs.Ytnabbimompapfaa
namespace Go.Proofs.Ytnabbimompapfaa
open Go Go.RowKit
theorem evictP_err (o : OpV) : ∀ (l : List EvV) (s : PJ) (x : Int), evictP o l s = .error x → x = 2 ∨ x = 4
 |[], s, x, h => by cases h
 |v :: l, s, x, h => by
  rw [evictP] at h
  cases hf : findP s.L v.key with
  |none => rw [hf] at h; injection h with h; exact .inl h.symm
  |some y =>
   rw [hf] at h
   dsimp only at h
   by_cases h1 : v ≠ eventP 2 y s.now
   ·rw [if_pos h1] at h; injection h with h; exact .inl h.symm
   ·rw [if_neg h1] at h
    by_cases h2 : withinP s ∨ ((o.kind = 1 ∨ o.kind = 2) ∧ y.key = o.key)
    ·rw [if_pos h2] at h; injection h with h; exact .inr h.symm
    ·rw [if_neg h2] at h
     by_cases h3 : s.cfg.prot = 0 ∧ s.U.head? ≠ some y.birth
     ·rw [if_pos h3] at h; injection h with h; exact .inr h.symm
     ·rw [if_neg h3] at h
      exact evictP_err o l _ x h
theorem setP_now (s : PJ) (o : OpV) (dl : Int) : (setP s o dl).now = s.now := by
 unfold setP
 cases findP s.L o.key <;> rfl
theorem effA_now (s : PJ) (o : OpV) : (effA s o).now = s.now := by
 unfold effA
 split
 ·exact setP_now _ _ _
 ·split
  ·exact setP_now _ _ _
  ·split
   ·rfl
   ·split
    ·rfl
    ·split
     ·rfl
     ·split
      ·rfl
      ·split
       ·rfl
       ·split <;> rfl
theorem effB_now (s : PJ) (o : OpV) : (effB s o).now = s.now := by
 unfold effB
 split
 ·rfl
 ·split
  ·split
   ·rfl
   ·split <;> rfl
  ·split
   ·rfl
   ·split <;> rfl
theorem effP_now (s : PJ) (o : OpV) (e : Int) : (effP s o e).now = s.now := by
 unfold effP
 split
 ·rw [effB_now, effA_now]
 ·exact effA_now _ _
section
variable {w W W2 : World} {B g : Nat} {vL vU : Value} {pv : Nat → Int} {s : PJ} {ps : List (EntV × Value)}
end
theorem EvsAt.drop {w : World} {B q off n cap : Nat} {xs : List (EvV × Value)} (h : EvsAt w B (.slice (some ⟨q, off, none⟩) n cap) xs) (k : Nat) (hk : k ≤ xs.length) : EvsAt w B (.slice (if cap = k then some ⟨q, off, none⟩ else some ⟨q, off + k * 6, none⟩) (n - k) (cap - k)) (xs.drop k) := by
 obtain ⟨⟨A', cap', e, h1, h2, h3, h4⟩, h5⟩ := h
 injection e with e1 e2 e3
 subst e1 e3
 refine ⟨⟨_, cap - k, by rw [List.length_drop, ← e2], by rw [List.length_drop]; omega, by omega, (fun h => by split at h <;> cases h), fun hp => ?_⟩, fun p hp => h5 p (List.mem_of_mem_drop hp)⟩
 rw [List.length_drop] at hp
 obtain ⟨b, off', hA, hlt, hc⟩ := h4 (by omega)
 cases hA
 refine ⟨q, off + k * 6, by rw [if_neg (by omega)], hlt, fun i p hi j u hu => ?_⟩
 rw [List.getElem?_drop] at hi
 have := hc (k + i) p hi j u hu
 rw [show off + ((k + i) * 6 + j) = off + k * 6 + (i * 6 + j) by omega] at this
 exact this
theorem EvsAt.dropA {w : World} {B n cap : Nat} {A : Option Addr} {xs : List (EvV × Value)} (h : EvsAt w B (.slice A n cap) xs) (k : Nat) (hk : k ≤ xs.length) : EvsAt w B (.slice (if cap = k then A else Option.map (fun x => x.add (k * 6)) A) (n - k) (cap - k)) (xs.drop k) := by
 obtain ⟨⟨A', cap', e, h1, h2, h3, h4⟩, h5⟩ := h
 injection e with e1 e2 e3
 subst e1 e3
 refine ⟨⟨_, cap - k, by rw [List.length_drop, ← e2], by rw [List.length_drop]; omega, by omega, (fun h => ?_), fun hp => ?_⟩, fun p hp => h5 p (List.mem_of_mem_drop hp)⟩
 ·rw [List.length_drop]
  split at h
  ·have := h3 h; omega
  ·cases A with
   |none => have := h3 rfl; omega
   |some a => cases h
 ·rw [List.length_drop] at hp
  obtain ⟨b, off', hA, hlt, hc⟩ := h4 (by omega)
  cases hA
  refine ⟨b, off' + k * 6, by rw [if_neg (by omega), Option.map_some, add_plain], hlt, fun i p hi j u hu => ?_⟩
  rw [List.getElem?_drop] at hi
  have := hc (k + i) p hi j u hu
  rw [show off' + ((k + i) * 6 + j) = off' + k * 6 + (i * 6 + j) by omega] at this
  exact this
end Go.Proofs.Ytnabbimompapfaa
namespace Go.Proofs.Ytnabbimompapfaa
open Go Go.RowKit
theorem op_cells {W : World} {g : Nat} {a : OpV} {V : Value} (h : Blk W g 29 (opc a V)) : W.cell? ⟨g, 0, none⟩ = some (.int .i64 a.kind) ∧ W.cell? ⟨g, 1, none⟩ = some (.int .u64 a.ticks) ∧ W.cell? ⟨g, 2, none⟩ = some (.string a.key) ∧ W.cell? ⟨g, 3, none⟩ = some (V) ∧ W.cell? ⟨g, 4, none⟩ = some (.int .u64 a.ttl) ∧ W.cell? ⟨g, 5, none⟩ = some (.int .i64 a.count) ∧ W.cell? ⟨g, 6, none⟩ = some (.int .i64 a.bytes) ∧ W.cell? ⟨g, 7, none⟩ = some (.int .i64 a.cursor) ∧ W.cell? ⟨g, 8, none⟩ = some (.int .u64 a.birth) :=
 ⟨h.cell 0 _ rfl, h.cell 1 _ rfl, h.cell 2 _ rfl, h.cell 3 _ rfl, h.cell 4 _ rfl, h.cell 5 _ rfl, h.cell 6 _ rfl, h.cell 7 _ rfl, h.cell 8 _ rfl⟩
def resc (r : ResV) (V1 V2 V3 V4 : Value) : Array Value :=
 #[.int .i64 r.op.kind, .int .u64 r.op.ticks, .string r.op.key, V1, .int .u64 r.op.ttl, .int .i64 r.op.count, .int .i64 r.op.bytes, .int .i64 r.op.cursor, .int .u64 r.op.birth, .int .u64 r.at_, .int .i64 r.err, .bool r.hit, V2, .string r.ent.key, V3, .int .u64 r.ent.dl, .int .u64 r.ent.birth, .int .i64 r.cursor, V4, .int .i64 r.len, .int .i64 r.cost]
def resv (r : ResV) (V1 V2 V3 V4 : Value) : Value := .agg (resc r V1 V2 V3 V4)
structure ResAt (w : World) (B : Nat) (r : ResV) (V1 V2 V3 V4 : Value) (xs : List (EvV × Value)) : Prop where
 a1 : Bts w B 5 V1 r.op.val
 a2 : Bts w B 5 V2 r.val
 a3 : Bts w B 5 V3 r.ent.val
 a4 : EvsAt w B V4 xs
 evs : xs.map Prod.fst = r.evs
theorem ResAt.keep {w W : World} {B : Nat} {r : ResV} {V1 V2 V3 V4 : Value} {xs : List (EvV × Value)} (h : ResAt w B r V1 V2 V3 V4 xs) (hk : KeepB B 5 w W) : ResAt W B r V1 V2 V3 V4 xs :=
 ⟨h.a1.keep hk, h.a2.keep hk, h.a3.keep hk, h.a4.keep hk, h.evs⟩
structure ResOk (r : ResV) : Prop where
 ticks : 0 ≤ r.op.ticks
 ttl : 0 ≤ r.op.ttl
 key : r.op.key.size ≤ maxLen
 val : r.op.val.length ≤ maxLen
section
variable {w W W2 : World} {B Bv g : Nat} {vL vU : Value} {pv : Nat → Int} {s : PJ} {ps : List (EntV × Value)} {r : ResV} {V1 V2 V3 V4 : Value} {xs : List (EvV × Value)}
structure WX (W : World) (B gw : Nat) (x : WantV) (Vw Ve : Value) : Prop where
 b : Blk W gw 35 (wantc x Vw Ve)
 v : Bts W B 5 Vw x.val
 e : Bts W B 5 Ve x.ent.val
 lt : B ≤ gw
theorem WX.adv {gw : Nat} {x : WantV} {Vw Ve : Value} (h : WX W B gw x Vw Ve) (hb : Below W.heap.size W W2) : WX W2 B gw x Vw Ve := ⟨h.b.below hb, h.v.below hb, h.e.below hb, h.lt⟩
end
theorem jstep_8 {s : PJ} {r : ResV} (h : r.op.kind < 1 ∨ 14 < r.op.kind ∨ r.err ≠ rightP s r.op (addP s.now r.op.ticks)) : jstep s r = .error 8 := by unfold jstep; rw [if_pos h]
theorem jstep_no {s : PJ} {r : ResV} (h : ¬ (r.op.kind < 1 ∨ 14 < r.op.kind ∨ r.err ≠ rightP s r.op (addP s.now r.op.ticks))) (hr : refusedP r.op r.err = true) :
  jstep s r = if r.at_ ≠ s.now then .error 1 else if noExp r.evs = false then .error 3 else if r.evs ≠ [] then .error 2 else endP r s want0 := by unfold jstep; rw [if_neg h, if_pos hr]
theorem jstep_yes {s : PJ} {r : ResV} (h : ¬ (r.op.kind < 1 ∨ 14 < r.op.kind ∨ r.err ≠ rightP s r.op (addP s.now r.op.ticks))) (hr : refusedP r.op r.err = false) :
  jstep s r = if r.at_ ≠ addP s.now r.op.ticks then .error 1 else match eventsP s r.op r.err (addP s.now r.op.ticks) r.evs with | .error x => .error x | .ok (s2, w) => endP r s2 w := by unfold jstep; rw [if_neg h, if_neg (by rw [hr]; decide)]; rfl
end Go.Proofs.Ytnabbimompapfaa
namespace Go.Proofs.Ytnabbimompapfaa
open Go Go.RowKit
section
variable {P : Program}
theorem wpList_load_at {ops : Array Oper} {rest : List Oper} {o : Oper} {a : Act} {w : World} {Q : Exit → Act → World → Prop} (hgd : o.guard = none) (ty : TypeId) (x : Operand) (ho : o.op = .load ty x)
  (p : Addr) (hx : a.eval x = .pointer (some p)) (cs : Array Value) (d : TypeDesc) (hc : ∀ j v, cs.toList[j]? = some v → w.cell? (p.add j) = some v)
  (hu : P.underlying ty = some d) (hd : (match d with | .struct _ | .array _ _ => true | _ => false) = true) (hi : (P.info? ty).map (·.size) = some cs.size)
  (h : wpList P ops Q rest (a.put o.dst (.agg cs)) w) : wpList P ops Q (o :: rest) a w := by
 have hl : (loadCells p cs.toList.length).run P w = .ok cs.toList.toArray w := run_loadCells_list (P := P) w p cs.toList hc
 have hv : (loadVar ty p).run P w = .ok (.agg cs) w := by
  cases hq : P.info? ty with
  |none => simp [hq] at hi
  |some i =>
   have hs : i.size = cs.size := by simpa [hq] using hi
   have hagg : (isAgg ty).run P w = .ok true w := by
    unfold isAgg
    rw [Sem.run_bind, run_underlying hu w]
    cases d <;> simp_all
   simp only [Array.length_toList, Array.toArray_toList] at hl
   simp [loadVar, Sem.run_bind, hagg, sizeOf, typeInfo, hq, hs, hl]
 refine wpList_plain hgd fun _ hK => ?_
 unfold Oper.wp execOp
 simp only [ho, hx, Instr.loadAt, Instr.sureAddr, Sem.run_bind, Sem.run_pure, Result.andThen_ok, hv]
 exact hK _ _ h
end
structure RQ where
 r : ResV
 v1 : Value
 v2 : Value
 v3 : Value
 v4 : Value
 xs : List (EvV × Value)
def RQ.c (q : RQ) : Array Value := resc q.r q.v1 q.v2 q.v3 q.v4
structure RsAt (w : World) (B : Nat) (v : Value) (qs : List RQ) : Prop where
 form : ∃ A cap, v = .slice A qs.length cap ∧ qs.length ≤ cap ∧ cap ≤ maxLen ∧ (A = none → qs.length = 0) ∧
  (0 < qs.length → ∃ b off, A = some ⟨b, off, none⟩ ∧ (b < w.heap.size ∧ b < B) ∧ ∀ i p, qs[i]? = some p → ∀ j u, p.c[j]? = some u → w.cell? ⟨b, off + (i * 21 + j), none⟩ = some u)
 vals : ∀ p ∈ qs, ResAt w B p.r p.v1 p.v2 p.v3 p.v4 p.xs ∧ ResOk p.r
section
variable {w w' : World} {B : Nat} {v : Value} {qs : List RQ}
theorem RsAt.keep (h : RsAt w B v qs) (hb : KeepB B 5 w w') : RsAt w' B v qs := by
 obtain ⟨⟨A, cap, e, h1, h2, h3, h4⟩, h5⟩ := h
 refine ⟨⟨A, cap, e, h1, h2, h3, fun hp => ?_⟩, fun p hp => ⟨(h5 p hp).1.keep hb, (h5 p hp).2⟩⟩
 obtain ⟨b, off, hA, hlt, hc⟩ := h4 hp
 refine ⟨b, off, hA, ⟨Nat.lt_of_lt_of_le hlt.1 hb.1, hlt.2⟩, fun i p hi j u hu => ?_⟩
 rw [World.cell?_of_block (w := w) (a := ⟨b, off + (i * 21 + j), none⟩) (hb.2 b hlt.1 (.inl hlt.2))]
 exact hc i p hi j u hu
theorem RsAt.below (h : RsAt w B v qs) (hb : Below w.heap.size w w') : RsAt w' B v qs := h.keep (KeepB.of_below hb)
theorem RsAt.cap (h : RsAt w B v qs) : ∃ A cap, v = .slice A qs.length cap ∧ qs.length ≤ cap ∧ cap ≤ maxLen := by obtain ⟨⟨A, cap, e, h1, h2, _⟩, _⟩ := h; exact ⟨A, cap, e, h1, h2⟩
theorem RsAt.at_ {A : Option Addr} {n cap : Nat} (h : RsAt w B (.slice A n cap) qs) {i : Nat} {p : RQ} (hi : qs[i]? = some p) : ∃ b off, A = some ⟨b, off, none⟩ ∧ b < w.heap.size := by
 obtain ⟨⟨A', cap', e, h1, h2, h3, h4⟩, h5⟩ := h
 injection e with e1 e2 e3
 subst e1
 have hl := (List.getElem?_eq_some_iff.1 hi).1
 obtain ⟨b, off, hA, hlt, hc⟩ := h4 (by omega)
 exact ⟨b, off, hA, hlt.1⟩
theorem RsAt.cell {q off n cap : Nat} (h : RsAt w B (.slice (some ⟨q, off, none⟩) n cap) qs) {i : Nat} {p : RQ} (hi : qs[i]? = some p) (j : Nat) (u : Value) (hu : p.c[j]? = some u) : w.cell? ⟨q, off + i * 21 + j, none⟩ = some u := by
 obtain ⟨⟨A', cap', e, h1, h2, h3, h4⟩, h5⟩ := h
 injection e with e1 e2 e3
 subst e1
 have hl := (List.getElem?_eq_some_iff.1 hi).1
 obtain ⟨b, o2, hA, hlt, hc⟩ := h4 (by omega)
 cases hA
 rw [Nat.add_assoc]
 exact hc i p hi j u hu
end
theorem start_inv (c : CfgV) : PInv 0 (start c) := by
 refine ⟨List.Pairwise.nil, ?_, List.Pairwise.nil, List.Pairwise.nil, ?_, ?_, ⟨Int.le_refl _, Int.le_refl _⟩, ?_, ⟨Int.le_refl _, ?_⟩⟩
 ·intro e he; cases he
 ·intro b
  constructor
  ·intro h; cases h
  ·rintro ⟨e, he, _⟩; cases he
 ·unfold start; rw [List.length_replicate]
 ·intro e he; cases he
 ·show (0 : Int) ≤ neverT; unfold neverT; omega
theorem jall_cons {r : ResV} {l : List ResV} {s : PJ} {i : Nat} : jall (r :: l) s i = match jstep s r with | .error x => (((i : Int), x), s) | .ok s2 => jall l s2 (i + 1) := by rw [jall]; rfl
theorem jstep_err {s : PJ} {r : ResV} {x : Int} (h : jstep s r = .error x) : x ≠ 0 := by
 have hend : ∀ {s1 : PJ} {w : WantV}, endP r s1 w = .error x → x ≠ 0 := fun {s1 w} h => by
  unfold endP at h
  split at h
  ·injection h with h; omega
  ·split at h
   ·injection h with h; omega
   ·split at h
    ·injection h with h; omega
    ·cases h
 unfold jstep at h
 split at h
 ·injection h with h; omega
 ·split at h
  ·split at h
   ·injection h with h; omega
   ·split at h
    ·injection h with h; omega
    ·split at h
     ·injection h with h; omega
     ·exact hend h
  ·split at h
   ·injection h with h; omega
   ·split at h
    ·rename_i y hev
     injection h with h
     subst h
     unfold eventsP at hev
     split at hev
     ·injection hev with h; omega
     ·split at hev
      ·injection hev with h; omega
      ·split at hev
       ·injection hev with h; omega
       ·split at hev
        ·rename_i h4
         injection hev with h
         have := evictP_err _ _ _ _ h4
         omega
        ·cases hev
    ·exact hend h
def ChkRet (x : Int × Int × Int) (w : World) (e : Ending) (w' : World) : Prop := e = .returned (.tuple #[.int .i64 x.1, .int .i64 x.2.1, .int .i64 x.2.2]) ∧ Below w.heap.size w w'
end Go.Proofs.Ytnabbimompapfaa
namespace Go.Proofs.Ytnabbimompapfaa
open Go Go.RowKit
def cmpI (a b : Int) : Int := if a < b then -1 else if b < a then 1 else 0
theorem isNaN_u64 (a : Int) (w : World) : Calls Try.prog 37 #[.int .u64 a] w fun e w' => e = .returned (.bool false) ∧ w = w' := by
 go_enter Try.func37, Try.ntmps37
 go_wp2_with fail
 go_ret
 exact ⟨rfl, rfl⟩
theorem isNaN_time (a : Int) (w : World) : Calls Try.prog 78 #[.int .u64 a] w fun e w' => e = .returned (.bool false) ∧ w = w' := by
 go_enter Try.func78, Try.ntmps78
 go_wp2_with fail
 go_ret
 exact ⟨rfl, rfl⟩
set_option maxHeartbeats 1000000 in
theorem cmp_u64 (a b : Int) (w : World) : Calls Try.prog 23 #[.int .u64 a, .int .u64 b] w fun e w' => e = .returned (.int .i64 (cmpI a b)) ∧ w = w' := by
 have HN := zH (fun x W => isNaN_u64 x W)
 by_cases h1 : a < b
 ·have HS := zH (show cmpI a b = -1 by unfold cmpI; rw [if_pos h1])
  go_enter Try.func23, Try.ntmps23
  go_wp2_with fail
  refine (HN.out _ _).mono ?_
  rintro e w1 ⟨rfl, hw⟩
  subst hw
  go_wp2_with fail
  refine (HN.out _ _).mono ?_
  rintro e w1 ⟨rfl, hw⟩
  subst hw
  go_wp2_with fail
  go_ret
  first | exact ⟨by rw [HS.out]; rfl, rfl⟩ | exact ⟨rfl, rfl⟩
 ·by_cases h2 : b < a
  ·have HS := zH (show cmpI a b = 1 by unfold cmpI; rw [if_neg h1, if_pos h2])
   go_enter Try.func23, Try.ntmps23
   go_wp2_with fail
   refine (HN.out _ _).mono ?_
   rintro e w1 ⟨rfl, hw⟩
   subst hw
   go_wp2_with fail
   refine (HN.out _ _).mono ?_
   rintro e w1 ⟨rfl, hw⟩
   subst hw
   go_wp2_with fail
   go_ret
   first | exact ⟨by rw [HS.out]; rfl, rfl⟩ | exact ⟨rfl, rfl⟩
  ·have HS := zH (show cmpI a b = 0 by unfold cmpI; rw [if_neg h1, if_neg h2])
   go_enter Try.func23, Try.ntmps23
   go_wp2_with fail
   refine (HN.out _ _).mono ?_
   rintro e w1 ⟨rfl, hw⟩
   subst hw
   go_wp2_with fail
   refine (HN.out _ _).mono ?_
   rintro e w1 ⟨rfl, hw⟩
   subst hw
   go_wp2_with fail
   go_ret
   first | exact ⟨by rw [HS.out]; rfl, rfl⟩ | exact ⟨rfl, rfl⟩
set_option maxHeartbeats 1000000 in
theorem cmp_time (a b : Int) (w : World) : Calls Try.prog 64 #[.int .u64 a, .int .u64 b] w fun e w' => e = .returned (.int .i64 (cmpI a b)) ∧ w = w' := by
 have HN := zH (fun x W => isNaN_time x W)
 by_cases h1 : a < b
 ·have HS := zH (show cmpI a b = -1 by unfold cmpI; rw [if_pos h1])
  go_enter Try.func64, Try.ntmps64
  go_wp2_with fail
  refine (HN.out _ _).mono ?_
  rintro e w1 ⟨rfl, hw⟩
  subst hw
  go_wp2_with fail
  refine (HN.out _ _).mono ?_
  rintro e w1 ⟨rfl, hw⟩
  subst hw
  go_wp2_with fail
  go_ret
  first | exact ⟨by rw [HS.out]; rfl, rfl⟩ | exact ⟨rfl, rfl⟩
 ·by_cases h2 : b < a
  ·have HS := zH (show cmpI a b = 1 by unfold cmpI; rw [if_neg h1, if_pos h2])
   go_enter Try.func64, Try.ntmps64
   go_wp2_with fail
   refine (HN.out _ _).mono ?_
   rintro e w1 ⟨rfl, hw⟩
   subst hw
   go_wp2_with fail
   refine (HN.out _ _).mono ?_
   rintro e w1 ⟨rfl, hw⟩
   subst hw
   go_wp2_with fail
   go_ret
   first | exact ⟨by rw [HS.out]; rfl, rfl⟩ | exact ⟨rfl, rfl⟩
  ·have HS := zH (show cmpI a b = 0 by unfold cmpI; rw [if_neg h1, if_neg h2])
   go_enter Try.func64, Try.ntmps64
   go_wp2_with fail
   refine (HN.out _ _).mono ?_
   rintro e w1 ⟨rfl, hw⟩
   subst hw
   go_wp2_with fail
   refine (HN.out _ _).mono ?_
   rintro e w1 ⟨rfl, hw⟩
   subst hw
   go_wp2_with fail
   go_ret
   first | exact ⟨by rw [HS.out]; rfl, rfl⟩ | exact ⟨rfl, rfl⟩
def orI (a b : Int) : Int := if a = 0 then b else a
def OrR (a c : Int) (i : Value) : Prop := (i = .int .i64 0) ∨ (i = .int .i64 1 ∧ a = 0) ∨ (i = .int .i64 2 ∧ a = 0 ∧ c = 0)
set_option maxHeartbeats 1000000 in
theorem or_any (a c : Int) (b : Nat) (w : World) (h : Blk w b 3 #[.int .i64 a, .int .i64 c]) :
  Calls Try.prog 63 #[.slice (some ⟨b, 0, none⟩) 2 2] w fun e w' => e = .returned (.int .i64 (orI a c)) ∧ w = w' := by
 have x0 : w.cell? ⟨b, 0, none⟩ = some (.int .i64 a) := h.cell 0 _ rfl
 have x1 : w.cell? ⟨b, 1, none⟩ = some (.int .i64 c) := h.cell 1 _ rfl
 clear h
 go_enter Try.func63, Try.ntmps63
 go_wp2_with fail
 go_loopw [8] (fun i wr => OrR a c i ∧ wr = w) (fun i _ => 2 - (intOf i).toNat)
 case atStart => exact ⟨.inl rfl, rfl⟩
 case round =>
  obtain ⟨hr, hww⟩ := hrel
  obtain rfl : w = wr := hww.symm
  rcases hr with rfl | ⟨rfl, rfl⟩ | ⟨rfl, rfl, rfl⟩
  ·by_cases ha : a = 0
   ·subst ha
    go_wp2_with fail
    go_roundw
    case rel => exact ⟨.inr (.inl ⟨rfl, rfl⟩), trivial⟩
    case measure => simp [intOf]
   ·have hab : (a != 0) = true := by simp [ha]
    have HS := zH (show orI a c = a by unfold orI; rw [if_neg ha])
    clear ha
    go_wp2_with fail
    go_ret
    exact ⟨by rw [HS.out]; rfl, rfl⟩
  ·by_cases hc : c = 0
   ·subst hc
    go_wp2_with fail
    go_roundw
    case rel => exact ⟨.inr (.inr ⟨rfl, rfl, rfl⟩), trivial⟩
    case measure => simp [intOf]
   ·have hcb : (c != 0) = true := by simp [hc]
    have HS := zH (show orI 0 c = c by unfold orI; rw [if_pos rfl])
    clear hc
    go_wp2_with fail
    go_ret
    exact ⟨by rw [HS.out]; rfl, rfl⟩
  ·go_wp2_with fail
   go_ret
   exact ⟨rfl, rfl⟩
def itc (e : EntV) (v : Value) (u : Int) (cost : Int) : Array Value := #[.string e.key, v, .int .u64 e.dl, .int .u64 e.birth, .int .i64 u, .int .i64 cost]
structure ItAt (w : World) (g : Nat) (e : EntV) (v : Value) (u cost : Int) : Prop where
 blk : Blk w g 60 (itc e v u cost)
theorem ItAt.cells {w : World} {g : Nat} {e : EntV} {v : Value} {u cost : Int} (h : ItAt w g e v u cost) : w.cell? ⟨g, 0, none⟩ = some (.string e.key) ∧ w.cell? ⟨g, 1, none⟩ = some v ∧ w.cell? ⟨g, 2, none⟩ = some (.int .u64 e.dl) ∧ w.cell? ⟨g, 3, none⟩ = some (.int .u64 e.birth) ∧ w.cell? ⟨g, 4, none⟩ = some (.int .i64 u) ∧ w.cell? ⟨g, 5, none⟩ = some (.int .i64 cost) :=
 ⟨h.blk.cell 0 _ rfl, h.blk.cell 1 _ rfl, h.blk.cell 2 _ rfl, h.blk.cell 3 _ rfl, h.blk.cell 4 _ rfl, h.blk.cell 5 _ rfl⟩
set_option maxHeartbeats 2000000 in
theorem byBirth_any (g1 g2 : Nat) (e1 e2 : EntV) (v1 v2 : Value) (u1 u2 c1 c2 : Int) (w : World) (h1 : ItAt w g1 e1 v1 u1 c1) (h2 : ItAt w g2 e2 v2 u2 c2) :
  Calls Try.prog 13 #[.pointer (some ⟨g1, 0, none⟩), .pointer (some ⟨g2, 0, none⟩)] w fun e w' => e = .returned (.int .i64 (cmpI e1.birth e2.birth)) ∧ ∃ q, w' = w.drewN q := by
 obtain ⟨-, -, -, x3, -, -⟩ := h1.cells
 obtain ⟨-, -, -, y3, -, -⟩ := h2.cells
 clear h1 h2
 go_enter Try.func13, Try.ntmps13
 go_wp2_with fail
 go_quiet ((go_at_call 23; exact Calls.quiet_of_same ((cmp_u64 _ _ _).mono fun e w' h => ⟨h.1, h.2.symm⟩)))
 go_wp2_with fail
 go_ret
 exact ⟨rfl, nq, rfl⟩
def cmpD (a b : EntV) : Int := orI (cmpI a.dl b.dl) (cmpI a.birth b.birth)
structure TwoI (W : World) (g1 g2 : Nat) (e1 e2 : EntV) (v1 v2 : Value) (u1 u2 c1 c2 : Int) : Prop where
 a : ItAt W g1 e1 v1 u1 c1
 b : ItAt W g2 e2 v2 u2 c2
theorem TwoI.below {W W2 : World} {g1 g2 : Nat} {e1 e2 : EntV} {v1 v2 : Value} {u1 u2 c1 c2 : Int} (h : TwoI W g1 g2 e1 e2 v1 v2 u1 u2 c1 c2) (hb : Below W.heap.size W W2) : TwoI W2 g1 g2 e1 e2 v1 v2 u1 u2 c1 c2 := ⟨⟨h.a.blk.below hb⟩, ⟨h.b.blk.below hb⟩⟩
theorem below_drewN {w W : World} {B : Nat} (h : Below B w W) (n : Nat) : Below B w (W.drewN n) := ⟨h.os, h.tape, h.output, h.size, h.block⟩
set_option maxHeartbeats 2000000 in
theorem byDeadline_any (g1 g2 : Nat) (e1 e2 : EntV) (v1 v2 : Value) (u1 u2 c1 c2 : Int) (w : World) (h1 : ItAt w g1 e1 v1 u1 c1) (h2 : ItAt w g2 e2 v2 u2 c2) :
  Calls Try.prog 42 #[.pointer (some ⟨g1, 0, none⟩), .pointer (some ⟨g2, 0, none⟩)] w fun e w' => e = .returned (.int .i64 (cmpD e1 e2)) ∧ Below w.heap.size w w' := by
 have HT : Hid (TwoI w g1 g2 e1 e2 v1 v2 u1 u2 c1 c2) := zH ⟨h1, h2⟩
 clear h1 h2
 go_enter Try.func42, Try.ntmps42
 go_wp2_with fail
 refine wp_region_noPanic ?_
 refine wp_region_held_drew (S := fun W => TwoI W g1 g2 e1 e2 v1 v2 u1 u2 c1 c2) (by kernel_rfl) (HT.out.below (zL _ _).drew) (fun hHeld => ?_)
 have HB1 : Hid (Below w.heap.size w w.drew) := zH (zL _ _).drew
 generalize w.drew = W1 at hHeld HB1 ⊢
 have H1 := zH hHeld
 refine Pl.go [0, 1, 2, 3, 4, 5, 6, 7, 8, 9] ?_
 iterate 10
  refine tkl (v := ?_) ?_ ?_
  rotate_left 1
  ·intro W hSw
   obtain ⟨-, -, x2, x3, -, -⟩ := hSw.a.cells; obtain ⟨-, -, y2, y3, -, -⟩ := hSw.b.cells
   clear hSw
   go_simp
   try with_reducible rfl
  try dsimp only [zS, zB, zC]
 refine Pl.stop ?_
 refine Pl.go [11, 12] ?_
 iterate 2
  refine tkl (v := ?_) ?_ ?_
  rotate_left 1
  ·intro W hSw
   obtain ⟨-, -, x2, x3, -, -⟩ := hSw.a.cells; obtain ⟨-, -, y2, y3, -, -⟩ := hSw.b.cells
   clear hSw
   go_simp
   try with_reducible rfl
  try dsimp only [zS, zB, zC]
 refine Pl.stop ?_
 refine wpAnyH_ready (rs := [10]) (by kernel_rfl) (by simp) ?_
 refine AllReadyH.cons (o := ⟨_, _, _, _, _, _⟩) rfl (fun F hF => ?_) AllReadyH.nil
 go_simp
 refine (cmp_time e1.dl e2.dl W1).mono ?_
 rintro e w2 ⟨rfl, hw⟩
 subst hw
 go_wp2_with fail
 refine hF.out _ _ H1.out (fun hHeld => ?_)
 clear hF F
 try simp only [Act.put, zA, zB, zC]
 refine wpAnyH_ready (rs := [13]) (by kernel_rfl) (by simp) ?_
 refine AllReadyH.cons (o := ⟨_, _, _, _, _, _⟩) rfl (fun F hF => ?_) AllReadyH.nil
 go_simp
 refine (byBirth_any g1 g2 e1 e2 v1 v2 u1 u2 c1 c2 W1 H1.out.a H1.out.b).mono ?_
 rintro e w2 ⟨rfl, q, rfl⟩
 have H2 := zH (H1.out.below (below_drewN (zL _ _) q))
 have HB2 := zH (below_drewN HB1.out q)
 generalize W1.drewN q = W2 at H2 HB2 ⊢
 clear hHeld H1 HB1
 go_wp2_with fail
 refine hF.out _ _ H2.out (fun hHeld => ?_)
 clear hF F
 try simp only [Act.put, zA, zB, zC]
 refine wpAnyH_ready (rs := [14]) (by kernel_rfl) (by simp) ?_
 refine AllReadyH.cons (o := ⟨_, _, _, _, _, _⟩) rfl (fun F hF => ?_) AllReadyH.nil
 go_simp
 have H3 := zH (H2.out.below ((zL _ _).alloc (zN _) (.cells #[.int .i64 (cmpI e1.dl e2.dl), .int .i64 (cmpI e1.birth e2.birth)] 3)))
 have HB3 := zH (HB2.out.alloc HB2.out.size (.cells #[.int .i64 (cmpI e1.dl e2.dl), .int .i64 (cmpI e1.birth e2.birth)] 3))
 have HO3 := zH (Blk.new W2 3 #[.int .i64 (cmpI e1.dl e2.dl), .int .i64 (cmpI e1.birth e2.birth)])
 refine hF.out _ _ H3.out (fun hHeld => ?_)
 clear hF F
 try simp only [Act.put, zA, zB, zC]
 generalize W2.heap.size = gB at HO3 ⊢
 generalize W2.alloc _ = W3 at H3 HB3 HO3 hHeld ⊢
 refine wpAnyH_ready (rs := [15]) (by kernel_rfl) (by simp) ?_
 refine AllReadyH.cons (o := ⟨_, _, _, _, _, _⟩) rfl (fun F hF => ?_) AllReadyH.nil
 go_simp
 refine (or_any _ _ gB W3 HO3.out).mono ?_
 rintro e w2 ⟨rfl, hw⟩
 subst hw
 go_wp2_with fail
 refine hF.out _ _ H3.out (fun hHeld => ?_)
 clear hF F
 try simp only [Act.put, zA, zB, zC]
 refine tk 16 (v := ?_) ?_ ?_
 rotate_left 1
 ·intro W hSw
  skip
  clear hSw
  go_simp
  try with_reducible rfl
 try dsimp only [zS, zB, zC]
 refine wpAnyH_done (by kernel_rfl) ?_ _
 refine NoPanic.normal ?_
 go_wp2_with fail
 go_ret
 exact ⟨rfl, HB3.out⟩
end Go.Proofs.Ytnabbimompapfaa
