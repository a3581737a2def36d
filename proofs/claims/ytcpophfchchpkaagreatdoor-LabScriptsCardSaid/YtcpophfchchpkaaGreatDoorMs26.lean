/- LbX, LbY, LsV, LsW, ArgsC, ArgF, ArgsI, Gl0, LbW -/
import Derived.Test.YtcpophfchchpkaaGreatDoorMs25
import Derived.Test.YtcpophfchchpkaaGreatDoorMs13
import Derived.Test.YtcpophfchchpkaaGreatDoorMs10
import Derived.Test.YtcpophfchchpkaaGreatDoorRows
import Derived.Lib.SmallJoins
import Derived.OpenShut
import Derived.ProofKit
import Derived.ChangeSlices
import Derived.LaidMore
import Derived.Stop.Joined
import Derived.Deep.Slices
import Derived.Test.YtcpophfchchpkaaGreatDoorMs12
namespace Go.Proofs.YtcpophfchchpkaaGreatDoor
open Go Go.RowKit Go.Sy
theorem b_conc51 (b : Bool) (s : Sg) : (AV.b b).conc s = some (.bool b) := rfl
theorem known51_any {w : World} {t0 t1 : TypeId} (hr : RowsAt w (gs51 t0 t1) []) : Calls Tryz.prog 5 #[] w fun e w' => e = .returned (.bool true) ∧ Below w.heap.size w w' :=
  run_args follows51 orcB_ok hr (concL_nil.2 rfl) (b_conc51 true) (Eq.mpr (known51_eval t0 t1) ⟨rfl, rfl, rfl, trivial⟩)
theorem rows51_of {w : World} {t0 t1 : TypeId} (h0 : w.heap[0]? = some (.cells ⟨kindsN.map fun x => .int .i64 (.ofNat x)⟩ t0 (0, 0))) (h1 : w.heap[1]? = some (.cells ⟨bruijnN.map fun x => .int .u8 (.ofNat x)⟩ t1 (0, 0))) : RowsAt w (gs51 t0 t1) [] := by
  refine rowsAt_globals (fun g hg => ?_) (fun g hg => ?_) <;> simp only [gs51, List.mem_cons, List.not_mem_nil, or_false] at hg
  · rcases hg with rfl | rfl <;> exact gInts_good _ _ _
  · rcases hg with rfl | rfl
    · exact ⟨(by decide : 0 < 64), h0⟩
    · exact ⟨(by decide : 1 < 64), h1⟩
theorem knL_good (args : List AV) (n : Nat) (H : Heap) (v : AV) (n' : Nat) (H' : Heap) (h : knL args n H = .ok v n' H') : FnGood Tryz.prog 5 args n H v n' H' := by
  unfold knL at h
  split at h
  · split at h
    · rename_i hq
      injection h with e1 e2 e3
      subst e1 e2 e3
      refine fnGood_quiet (b_conc51 true) fun s w Args hA hr => ?_
      rw [concL_nil] at hA
      subst hA
      have hrow := fun g hg => readsRows_at hq g hg
      have key : ∀ (g : Nat) (l : List AV) (vs : List Value), (g, l) ∈ gl51 → g < 64 → (∀ s, concL s l = some vs) → (∀ v ∈ vs, v.oneCell' = true) → ∃ t, w.heap[g]? = some (Obj.cells ⟨vs⟩ t (0, 0)) := fun g l vs hg h64 h1 h2 => by
        have hL : (64 : Nat) < LIM := by decide
        obtain ⟨b, t, hb, hw⟩ := readsRow_at hr (by omega) h1 h2 (hrow _ hg)
        rw [hr.glob g h64] at hb
        injection hb with hb
        subst hb
        exact ⟨t, hw⟩
      obtain ⟨t0, h0⟩ := key 0 (kindsN.map fun n => .i .i64 (.ofNat n)) (kindsN.map fun x => .int .i64 (.ofNat x)) (by simp [gl51]) (by decide) (gInts_good .i64 3 kindsN).1 (gInts_good .i64 3 kindsN).2
      obtain ⟨t1, h1⟩ := key 1 (bruijnN.map fun n => .i .u8 (.ofNat n)) (bruijnN.map fun x => .int .u8 (.ofNat x)) (by simp [gl51]) (by decide) (gInts_good .u8 47 bruijnN).1 (gInts_good .u8 47 bruijnN).2
      exact known51_any (rows51_of h0 h1)
    · cases h
  · cases h
theorem orcN_ok : OrcOk Tryz.prog orcN := orcOk_one knL_good
end Go.Proofs.YtcpophfchchpkaaGreatDoor
namespace Go.Proofs.YtcpophfchchpkaaGreatDoor
open Go Go.RowKit Go.Sy
/-- The variables that the examples read. -/
def GL51 (w : World) : Prop := ∃ t0 t1, w.heap[0]? = some (.cells ⟨kindsN.map fun x => .int .i64 (.ofNat x)⟩ t0 (0, 0)) ∧ w.heap[1]? = some (.cells ⟨bruijnN.map fun x => .int .u8 (.ofNat x)⟩ t1 (0, 0))
theorem GL51.below {w w' : World} (h : GL51 w) (hb : Below w.heap.size w w') : GL51 w' := by
  obtain ⟨t0, t1, h0, h1⟩ := h
  exact ⟨t0, t1, (hb.block _ (lt_of_heap h0)).trans h0, (hb.block _ (lt_of_heap h1)).trans h1⟩
theorem known_gl {w : World} (h : GL51 w) : Calls Tryz.prog 5 #[] w fun e w' => e = .returned (.bool true) ∧ Below w.heap.size w w' := by
  obtain ⟨t0, t1, h0, h1⟩ := h
  exact known51_any (rows51_of h0 h1)
end Go.Proofs.YtcpophfchchpkaaGreatDoor
namespace Go.Proofs.YtcpophfchchpkaaGreatDoor
open Go Go.RowKit Go.Maps Go.MapKept Go.Sort
/-- What the loop keeps: a lab, the list, the arguments. -/
structure LbI (w wr : World) (k b : Nat) (m : Option Nat) (X M : List Sc) (mv : Value) : Prop where
  lab : LRep wr b m X
  own : w.heap.size ≤ b ∧ ∀ g, m = some g → w.heap.size ≤ g
  list : ItsAt wr w.heap.size mv M
  lm : LM X M
  few : M.length ≤ k ∧ ∀ p ∈ M, p.1.size ≤ 60 ∧ p.2.1.length ≤ 100
  below : Below w.heap.size w wr
theorem LbI.adv {w wr w' : World} {k b : Nat} {m : Option Nat} {X M : List Sc} {mv : Value} (h : LbI w wr k b m X M mv) (hb : Below wr.heap.size wr w') : LbI w w' k b m X M mv :=
  ⟨h.lab.below hb, h.own, h.list.below hb, h.lm, h.few, h.below.trans (hb.mono h.below.size)⟩
theorem LbI.up {w wr : World} {k k' b : Nat} {m : Option Nat} {X M : List Sc} {mv : Value} (h : LbI w wr k b m X M mv) (hk : k ≤ k') : LbI w wr k' b m X M mv :=
  ⟨h.lab, h.own, h.list, h.lm, ⟨Nat.le_trans h.few.1 hk, h.few.2⟩, h.below⟩
theorem LbI.has {w wr : World} {k b : Nat} {m : Option Nat} {X M : List Sc} {mv : Value} (h : LbI w wr k b m X M mv) (hk : k ≤ 100) :
    Calls Tryz.prog 14 #[.pointer (some ⟨b, 0, none⟩), mv] wr fun e w' => e = .returned (.bool true) ∧ LbI w w' k b m X M mv :=
  (has_any w.heap.size b m X M mv wr h.lab h.list h.lm (by have := h.few.1; omega) (fun p hp => Nat.le_trans (h.few.2 p hp).1 (by decide)) (fun p hp => Nat.le_trans (h.few.2 p hp).2 (by decide))).mono fun e w' ⟨h1, h2⟩ => ⟨h1, h.adv h2⟩
/-- Only the lab's own blocks have changed. -/
theorem LbI.belowO {w wr w' : World} {k b : Nat} {m : Option Nat} {X M : List Sc} {mv : Value} (h : LbI w wr k b m X M mv) (ho : Only (LB b m) wr w') : Below w.heap.size w w' :=
  h.below.trans (ho.below (fun i hi _ e => by
    rcases e with e | e
    · have := h.own.1; omega
    · have := h.own.2 i e; omega) h.below.size)
theorem LbI.listO {w wr w' : World} {k b : Nat} {m : Option Nat} {X M : List Sc} {mv : Value} (h : LbI w wr k b m X M mv) (ho : Only (LB b m) wr w') {B : Nat} (hB : B ≤ w.heap.size) {v : Value} {ps : List Sc} (hl : ItsAt wr B v ps) : ItsAt w' B v ps := by
  have key : ∀ (t : TypeId), t ≠ 26 → KeepB B t wr w' := fun t ht => KeepB.of_only ho (fun i _ hs => by
    rcases hs with e | e
    · subst e
      exact ⟨Nat.le_trans hB h.own.1, fun c fr hh => h.lab.blk.ne_ hh (fun e => ht e.symm) rfl⟩
    · refine ⟨Nat.le_trans hB (h.own.2 i e), fun c fr hh => ?_⟩
      obtain ⟨es, clock, hb, _⟩ := h.lab.map i e
      rw [hh] at hb; cases hb)
  exact hl.keep (key _ (by decide)) (key _ (by decide))
/-- The list put, the lab put. -/
theorem LbI.put {w wr W w' : World} {k b : Nat} {m : Option Nat} {X M M' : List Sc} {mv mv' : Value} {x : ByteArray} {d : List UInt8} {V : Value} (h : LbI w wr k b m X M mv) (hb : Below wr.heap.size wr W) (hl : ItsAt W w.heap.size mv' M') (hs : x.size ≤ 60 ∧ d.length ≤ 100)
    (hM : (putM M x d = 0 ∧ M' = withS (x, d, V) M) ∨ (putM M x d ≠ 0 ∧ M' = M)) (hX : (putE X x d = 0 ∧ PutRet b m X x d W w') ∨ (putE X x d ≠ 0 ∧ w' = W)) : ∃ m' X', LbI w w' (k + 1) b m' X' M' mv' := by
  have hW := h.adv hb
  rw [h.lm.put_eq] at hX
  have hlen : M'.length ≤ M.length + 1 := by
    rcases hM with ⟨_, rfl⟩ | ⟨_, rfl⟩
    · rw [withS_eq h.lm.asc]
      have := (three_perm (x, d, V) M).length_eq
      rw [this, List.length_cons]
      have := List.length_filter_le (fun y : Sc => decide (y.1 ≠ (x, d, V).1)) M
      omega
    · omega
  have hfew : M'.length ≤ k + 1 ∧ ∀ p ∈ M', p.1.size ≤ 60 ∧ p.2.1.length ≤ 100 := by
    refine ⟨by have := h.few.1; omega, fun p hp => ?_⟩
    rcases hM with ⟨_, rfl⟩ | ⟨_, rfl⟩
    · rcases withS_mem hp with rfl | hp
      · exact hs
      · exact h.few.2 p hp
    · exact h.few.2 p hp
  rcases hX with ⟨e0, m', u, hr, ho, hm⟩ | ⟨e0, rfl⟩
  · rcases hM with ⟨_, rfl⟩ | ⟨e1, _⟩
    · refine ⟨m', _, ⟨hr, ⟨h.own.1, fun g hg => ?_⟩, hW.listO ho (Nat.le_refl _) hl, h.lm.put x d u V, hfew, hW.belowO ho⟩⟩
      rcases hm with rfl | ⟨g', _, rfl, hg'⟩
      · exact h.own.2 g hg
      · injection hg with hg; subst hg; exact Nat.le_trans hW.below.size hg'
    · exact absurd e0 e1
  · rcases hM with ⟨e1, _⟩ | ⟨_, rfl⟩
    · exact absurd e1 e0
    · exact ⟨m, X, ⟨hW.lab, h.own, hl, h.lm, hfew, hW.below⟩⟩
theorem one_bts (w : World) (B : Nat) : Bts (w.alloc (.cells #[.int .u8 1] 5)) B 5 (.slice (some ⟨w.heap.size, 0, none⟩) 1 1) [1] :=
  Bts.of_own (base := w.heap.size) (bs := [1]) ⟨rfl, .inr ⟨w.heap.size, 1, #[.int .u8 1], rfl, Nat.le_refl _, heap_alloc_new w _, Nat.le_refl _, by decide, rfl, rfl⟩⟩ B
/-- Another lab's blocks have changed. -/
theorem LRep.beside {w w' : World} {b b' : Nat} {m m' : Option Nat} {X X' : List Sc} (h' : LRep w b' m' X') (h : LRep w b m X) (ho : Only (LB b m) w w') (hn : ¬ LB b m b') (hg : ∀ g, m' = some g → ¬ LB b m g) : LRep w' b' m' X' :=
  ⟨h'.blk.only ho hn, h'.no, fun g e => (h'.map g e).only ho (hg g e), fun x hx => ⟨h.bts_only ho (fun _ h => h) (h'.vals x hx).1 ⟨Nat.zero_le _, fun _ _ => Nat.zero_le _⟩, (h'.vals x hx).2⟩⟩
theorem LRep.listO {w w' : World} {b : Nat} {m : Option Nat} {X : List Sc} (h : LRep w b m X) (ho : Only (LB b m) w w') {B : Nat} (hB : B ≤ b ∧ ∀ g, m = some g → B ≤ g) {v : Value} {ps : List Sc} (hl : ItsAt w B v ps) : ItsAt w' B v ps := by
  have key : ∀ (t : TypeId), t ≠ 26 → KeepB B t w w' := fun t ht => KeepB.of_only ho (fun i _ hs => by
    rcases hs with e | e
    · subst e
      exact ⟨hB.1, fun c fr hh => h.blk.ne_ hh (fun e => ht e.symm) rfl⟩
    · refine ⟨hB.2 i e, fun c fr hh => ?_⟩
      obtain ⟨es, clock, hb, _⟩ := h.map i e
      rw [hh] at hb; cases hb)
  exact hl.keep (key _ (by decide)) (key _ (by decide))
theorem LRep.lts {w : World} {b : Nat} {m : Option Nat} {X : List Sc} (h : LRep w b m X) : b < w.heap.size ∧ ∀ g, m = some g → g < w.heap.size := ⟨h.blk.lt, fun g e => (h.map g e).lt⟩
theorem belowLB {w wr w' : World} {b : Nat} {m : Option Nat} (hb : Below w.heap.size w wr) (ho : Only (LB b m) wr w') (hB : w.heap.size ≤ b ∧ ∀ g, m = some g → w.heap.size ≤ g) : Below w.heap.size w w' :=
  hb.trans (ho.below (fun i hi _ e => by
    rcases e with e | e
    · have := hB.1; omega
    · have := hB.2 i e; omega) hb.size)
/-- A copy goes on, the first lab is put into and taken out of. -/
theorem LbI.copied {w wr W w3 w4 : World} {k b b' : Nat} {m m' m3 : Option Nat} {X X3 M : List Sc} {mv : Value} (h : LbI w wr k b m X M mv) (hb : Below wr.heap.size wr W) (hc : LRep W b' m' X) (hb' : wr.heap.size ≤ b') (hm' : ∀ g, m' = some g → wr.heap.size ≤ g)
    (h3 : LRep w3 b m3 X3) (ho3 : Only (LB b m) W w3) (hm3 : m3 = m ∨ ∃ g, m = none ∧ m3 = some g ∧ W.heap.size ≤ g) (ho4 : Only (LB b m3) w3 w4) : LbI w w4 (k + 1) b' m' X M mv := by
  have hW := h.adv hb
  obtain ⟨l1, l2⟩ := h.lab.lts
  obtain ⟨c1, c2⟩ := hc.lts
  have ne : ∀ i, wr.heap.size ≤ i → i < W.heap.size → ¬ LB b m i := fun i hi _ e => by
    rcases e with e | e
    · omega
    · have := l2 i e; omega
  have own3 : w.heap.size ≤ b ∧ ∀ g, m3 = some g → w.heap.size ≤ g := ⟨h.own.1, fun g hg => by
    rcases hm3 with rfl | ⟨g', _, rfl, hg'⟩
    · exact h.own.2 g hg
    · injection hg with hg; subst hg; exact Nat.le_trans hW.below.size hg'⟩
  have ne3 : ∀ i, wr.heap.size ≤ i → i < W.heap.size → ¬ LB b m3 i := fun i hi hi2 e => by
    rcases hm3 with rfl | ⟨g', _, rfl, hg'⟩
    · exact ne i hi hi2 e
    · rcases e with e | e
      · omega
      · injection e with e; omega
  have hc3 := hc.beside hW.lab ho3 (ne b' hb' c1) (fun g e => ne g (hm' g e) (c2 g e))
  have hc4 := hc3.beside h3 ho4 (ne3 b' hb' c1) (fun g e => ne3 g (hm' g e) (c2 g e))
  have hl3 := hW.lab.listO ho3 hW.own hW.list
  have hl4 := h3.listO ho4 own3 hl3
  have hB3 := belowLB hW.below ho3 hW.own
  exact ⟨hc4, ⟨Nat.le_trans h.below.size hb', fun g e => Nat.le_trans h.below.size (hm' g e)⟩, hl4, h.lm, ⟨by have := h.few.1; omega, h.few.2⟩, belowLB hB3 ho4 own3⟩
theorem its_drop : ∀ (ps : List Sc) (j : Nat), its (ps.drop j) = (its ps).drop (j * 2)
  | [], j => by simp [its]
  | p :: ps, 0 => by simp
  | p :: ps, j + 1 => by
    rw [List.drop_succ_cons, its_drop ps j, Nat.succ_mul]
    rfl
theorem ItsAt.src_take {w : World} {B : Nat} {A : Option Addr} {n cap : Nat} {ps : List Sc} (h : ItsAt w B (.slice A n cap) ps) {j : Nat} (hj : j ≤ ps.length) : Src w 2 A j (its (ps.take j)) := by
  obtain ⟨A', c', e, h1, h2, h3⟩ := h.src
  injection e with e1 e2 e3
  subst e1
  refine ⟨by rw [its_len, List.length_take]; omega, fun e => by have := h2 e; omega, fun a ha t u hu => h3 a ha t u ?_⟩
  have : its ps = its (ps.take j) ++ its (ps.drop j) := by rw [← its_app, List.take_append_drop]
  rw [this, List.getElem?_append_left (List.getElem?_eq_some_iff.1 hu).1]
  exact hu
theorem ItsAt.src_drop {w : World} {B : Nat} {A : Option Addr} {n cap : Nat} {ps : List Sc} (h : ItsAt w B (.slice A n cap) ps) {j : Nat} (hj : j ≤ ps.length) : Src w 2 (if cap = j then A else A.map fun x => x.add (j * 2)) (ps.length - j) (its (ps.drop j)) := by
  have hcl : ps.length ≤ cap := by
    obtain ⟨A', c', e, h1, _⟩ := h.slice
    injection e with _ _ e3
    omega
  obtain ⟨A', c', e, h1, h2, h3⟩ := h.src
  injection e with e1 e2 e3
  subst e1
  refine ⟨by rw [its_len, List.length_drop], fun e => ?_, fun a ha t u hu => ?_⟩
  · split at e
    · omega
    · rw [Option.map_eq_none_iff] at e
      have := h2 e; omega
  · have ht : t < (its (ps.drop j)).length := (List.getElem?_eq_some_iff.1 hu).1
    rw [its_len, List.length_drop] at ht
    rw [if_neg (by omega), Option.map_eq_some_iff] at ha
    obtain ⟨a0, ha0, rfl⟩ := ha
    have h4 := h3 a0 ha0 (j * 2 + t) u (by rw [its_drop, List.getElem?_drop] at hu; exact hu)
    obtain ⟨A'', c'', e5, _, _, _, hr⟩ := h.form
    injection e5 with e6 _ _
    obtain ⟨b, off, hb, _⟩ := hr (by omega)
    rw [← e6, ha0] at hb
    injection hb with hb
    subst hb
    rw [add_plain] at h4 ⊢
    rw [add_plain, Nat.add_assoc]
    exact h4
theorem own_zeroI {w : World} {base : Nat} {e : TypeId} {size : Nat} {v : Value} {n : Nat} {xs : List Value} (h : w.ownsRow base e size v (0 + n) ([] ++ xs)) : w.ownsRow base e size v n xs := by simpa using h
theorem below_nilI {w w' : World} (h : w.grownBy w' none) : Below w.heap.size w w' := (Below.refl _ _).grown h (Nat.le_refl _) (fun k hk => by cases hk)
theorem row_own {w : World} {base : Nat} {e : TypeId} {size : Nat} {v : Value} {n : Nat} {xs : List Value} (h : w.ownsRow base e size v n xs) {k : Nat} (hk : v.ownBlock = some k) : base ≤ k := by
  rcases h.2 with ⟨e, _⟩ | ⟨g', cap', cur, e, hg', _⟩
  · rw [e] at hk; cases hk
  · rw [e] at hk
    have hk' : some g' = some k := hk
    injection hk' with hk'
    omega
theorem scE_no {o : Option (List UInt8 × Value)} (h : o.isNone = true) : scE o = 9 := by cases o with | none => rfl | some y => cases h
theorem scE_yes {o : Option (List UInt8 × Value)} (h : o.isNone = false) : scE o = 0 := by cases o with | none => cases h | some y => rfl
theorem scB_no {o : Option (List UInt8 × Value)} (h : o.isNone = true) : scB o = [] := by cases o with | none => rfl | some y => cases h
theorem mdel_no {X : List Sc} {x : ByteArray} (h : (scG X x).isNone = true) : mdel X x = X := mdel_other (mget_none (by
  show scG X x = none
  cases hs : scG X x with
  | none => rfl
  | some y => rw [hs] at h; cases h))
/-- The law's words. -/
def LsRet (w : World) (e : Ending) (w' : World) : Prop := e = .returned (.bool true) ∧ Below w.heap.size w w'
set_option maxRecDepth 100000 in
set_option maxHeartbeats 8000000 in
theorem scripts_walk (v u : Value) (ps : List Sc) (bs : List UInt8) (w : World) (h : ItsAt w w.heap.size v ps) (hu : Bts w w.heap.size 5 u bs) (hg : GL51 w) :
    Calls Tryz.prog 4 #[v, u] w (LsRet w) := by
  obtain ⟨A, cap, rfl, hcl, hcm⟩ := h.slice
  have hule := hu.le
  obtain ⟨UA, ucap, rfl⟩ := hu.form
  unfold maxLen at hcm hule
  have HF := Lib.hid (fewI_any w.heap.size _ ps 30 100 w h (by omega))
  have HG := Lib.hid hg
  have HI := Lib.hid h
  have HU := Lib.hid hu
  have HKn := Lib.hid (known_gl hg)
  obtain ⟨n, hn⟩ : ∃ n, ps.length = n := ⟨_, rfl⟩
  have HN := Lib.hid hn
  obtain ⟨un, hun⟩ : ∃ un, bs.length = un := ⟨_, rfl⟩
  have HUN := Lib.hid hun
  rw [hn] at HF HI hcl ⊢
  rw [hun] at HU hule ⊢
  clear h hu hg hn hun
  go_enter Tryz.func4, Tryz.ntmps4
  go_wp2_with fail
  refine HF.out.mono ?_
  rintro e w1 ⟨fb, rfl, hfew, rfl⟩
  have HFew := Lib.hid hfew
  clear hfew HF
  by_cases hf : fb = true ∧ un ≤ 30
  · obtain ⟨rfl, hu30⟩ := hf
    obtain ⟨hn30, hsz⟩ := HFew.out rfl
    rw [HN.out] at hn30
    have HSz := Lib.hid hsz
    have huI : ¬ (30 : Int) < (un : Int) := by omega
    clear hsz HFew
    obtain ⟨W, hW⟩ : ∃ W, w1.alloc (.cells #[.map none] 26) = W := ⟨_, rfl⟩
    have hb0 : Below w1.heap.size w1 W := hW ▸ (Below.refl _ _).alloc (Nat.le_refl _) _
    have HI0 : Hid (LbI w1 W 0 w1.heap.size none [] [] (.slice none 0 0)) := Lib.hid ⟨⟨hW ▸ Blk.new _ _ _, fun _ => rfl, fun g e => (by cases e), fun x hx => (by cases hx)⟩, ⟨Nat.le_refl _, fun g e => (by cases e)⟩, ItsAt.nil _ _, LM.nil, ⟨Nat.le_refl _, fun p hp => (by cases hp)⟩, hb0⟩
    clear hb0
    go_upto_region 4 with fail
    clear hW
    go_wp2_with fail
    go_loopw [5, 6, 7, 8, 9, 10, 11, 12, 13, 14, 15] (fun xv mv i _ _ _ _ _ _ _ _ wr => ∃ k b m X M, k ≤ n ∧ i = .int .i64 k ∧ xv = .pointer (some ⟨b, 0, none⟩) ∧ LbI w1 wr k b m X M mv) (fun _ _ i _ _ _ _ _ _ _ _ _ => n - (intOf i).toNat)
    case atStart => exact ⟨0, _, _, _, _, Nat.zero_le _, rfl, rfl, HI0.out⟩
    case round =>
      obtain ⟨k, b, m, X, M, hk, rfl, rfl, hI⟩ := hrel
      obtain ⟨MA, mc, rfl, hmc1, hmc2⟩ := hI.list.slice
      unfold maxLen at hmc2
      have HL := Lib.hid hI
      have hMk := hI.few.1
      clear hI
      by_cases hlt : k < n
      · have hltI : (k : Int) < (n : Int) := by omega
        obtain ⟨p, hp⟩ : ∃ p, ps[k]? = some p := ⟨_, List.getElem?_eq_getElem (by rw [HN.out]; exact hlt)⟩
        have hpm := List.mem_of_getElem? hp
        obtain ⟨ab, ao, rfl, hab, y0, y1⟩ := (HI.out.below HL.out.below).at_ hp
        have hsz := HSz.out p hpm
        have HP := Lib.hid hp
        have hform := (HI.out.vals p hpm).form
        have HPM := Lib.hid hpm
        obtain ⟨x, d, V⟩ := p
        dsimp only at y0 y1 hsz hform
        obtain ⟨VA, vc, rfl⟩ := hform
        have hxm : x.size ≤ maxLen := Nat.le_trans hsz.1 (by decide)
        have HXm := Lib.hid hxm
        have HFi := Lib.hid (find_any w1.heap.size _ M x wr HL.out.list)
        clear hp hpm
        go_upto_if 36 with fail
        go_cut [8] (fun kv wc => ∃ r : Nat, r < 4 ∧ kv = .int .u8 r ∧ wc = wr)
        case first =>
          by_cases hku : k < un
          · have hkuI : (k : Int) < (un : Int) := by omega
            obtain ⟨z, ub, uo, hUA, hz⟩ : ∃ (z : Nat) (ub uo : Nat), UA = some ⟨ub, uo, none⟩ ∧ wr.cell? ⟨ub, uo + k, none⟩ = some (.int .u8 z) := by
              obtain ⟨UA', uc', eU, -, -, -, hcell⟩ := HU.out.below HL.out.below
              obtain ⟨ub, uo, hub, -, -, hcells⟩ := hcell (by rw [HUN.out]; omega)
              injection eU with eU1 eU2 eU3
              exact ⟨_, ub, uo, eU1.trans hub, hcells k (by rw [HUN.out]; exact hku)⟩
            subst hUA
            go_wp2_with fail
            go_meet
            exact ⟨z % 4, by omega, by push_cast; rfl, rfl⟩
          · have hkuI : ¬ (k : Int) < (un : Int) := by omega
            go_wp2_with fail
            go_meet
            exact ⟨0, by decide, rfl, rfl⟩
        case rest =>
          obtain ⟨r, hr, rfl, hw⟩ := hcut
          subst hw
          go_wp2_with fail
          refine HFi.out.mono ?_
          rintro e wf ⟨r0, rfl, hf, hwf⟩
          subst hwf
          have HFd := Lib.hid hf
          have hfc := hf.cases
          rw [← HL.out.lm.miss] at hfc
          have HFc := Lib.hid hfc
          clear hf hfc HFi
          go_upto_if 50 with fail
          have hr4 : r = 0 ∨ r = 1 ∨ r = 2 ∨ r = 3 := by omega
          rcases HFc.out with ⟨rfl, hmi⟩ | ⟨h0, hmi⟩
          · have HMi := Lib.hid hmi
            clear hmi
            rcases hr4 with rfl | rfl | rfl | rfl
            · have hv1 := (HI.out.below HL.out.below).vals _ HPM.out
              have hL := lput_any w1.heap.size _ M x d _ wf HL.out.list hv1 (by omega) HXm.out
              obtain ⟨E, hE⟩ : ∃ E, putM M x d = E := ⟨_, rfl⟩
              unfold LPut at hL
              dsimp only at hL
              rw [hE] at hL
              have HLp := Lib.hid hL
              have HE := Lib.hid hE
              clear hv1 hL hE
              go_wp2_with fail
              refine HLp.out.mono ?_
              rintro e w2 ⟨mv2, M2, rfl, hl2, hb2, hM2⟩
              obtain ⟨MA2, mc2, rfl, hmc21, hmc22⟩ := hl2.slice
              have HL2 := Lib.hid hl2
              have HB2 := Lib.hid hb2
              have HM2 := Lib.hid hM2
              clear hl2 hb2 hM2 HLp y0 y1
              go_upto_region 22 with fail
              have hy : World.cell? w2 ⟨ab, ao + k * 2, none⟩ = some (.string x) ∧ World.cell? w2 ⟨ab, ao + k * 2 + 1, none⟩ = some (.slice VA d.length vc) := by
                obtain ⟨ab', ao', e', -, y0, y1⟩ := (HI.out.below (HL.out.adv HB2.out).below).at_ HP.out
                injection e' with e'
                injection e' with eb eo
                subst eb eo
                exact ⟨y0, y1⟩
              refine wp_region_noPanic ?_
              refine wp_region_held_drew (S := fun W => World.cell? W ⟨ab, ao + k * 2, none⟩ = some (.string x) ∧ World.cell? W ⟨ab, ao + k * 2 + 1, none⟩ = some (.slice VA d.length vc)) (by kernel_rfl) hy (fun hHeld => ?_)
              have HB3 : Hid (Below wf.heap.size wf w2.drew) := Lib.hid HB2.out.drew
              have HL3 := Lib.hid (HL2.out.below (Below.refl w2.heap.size w2).drew)
              clear hy
              generalize w2.drew = w3 at HB3 HL3 hHeld ⊢
              refine Pl.go [0, 1, 2, 3, 4, 5, 6, 7, 8, 9, 10, 12] ?_
              iterate 12
                refine tkl (v := ?_) ?_ ?_
                rotate_left 1
                · intro W hSw
                  obtain ⟨y0, y1⟩ := id hSw
                  clear hSw
                  go_simp
                  try with_reducible rfl
                try dsimp only [zS, zB, zC]
              refine Pl.stop ?_
              refine wpAnyH_ready (rs := [11]) (by kernel_rfl) (by simp) ?_
              refine AllReadyH.cons (o := ⟨_, _, _, _, _, _⟩) rfl (fun F hF => ?_) AllReadyH.nil
              go_simp
              have hLa := HL.out.adv HB3.out
              have hPu := labPut_any w1.heap.size b m X x _ d w3 hLa.lab ((HI.out.below hLa.below).vals _ HPM.out) HXm.out HL.out.own.1 (by rw [HL.out.lm.len]; omega)
              rw [HL.out.lm.put_eq, HE.out] at hPu
              refine hPu.mono ?_
              rintro e w4 ⟨rfl, hX⟩
              obtain ⟨m4, X4, h4⟩ := HL.out.put HB3.out HL3.out hsz (by rw [HE.out]; exact HM2.out) (by rw [HL.out.lm.put_eq, HE.out]; exact hX)
              have H4 := Lib.hid h4
              clear hX h4 hLa hPu hHeld
              go_wp2_with fail
              have hy : World.cell? w4 ⟨ab, ao + k * 2, none⟩ = some (.string x) ∧ World.cell? w4 ⟨ab, ao + k * 2 + 1, none⟩ = some (.slice VA d.length vc) := by
                obtain ⟨ab', ao', e', -, y0, y1⟩ := (HI.out.below H4.out.below).at_ HP.out
                injection e' with e'
                injection e' with eb eo
                subst eb eo
                exact ⟨y0, y1⟩
              refine hF.out _ _ hy (fun hHeld => ?_)
              clear hF F hy
              try simp only [Act.put, zA, zB, zC]
              refine tk 13 (v := ?_) ?_ ?_
              rotate_left 1
              · intro W hSw
                skip
                clear hSw
                go_simp
                try with_reducible rfl
              try dsimp only [zS, zB, zC]
              refine wpAnyH_done (by kernel_rfl) ?_ _
              refine NoPanic.normal ?_
              clear hHeld
              go_wp2_with fail
              refine ((H4).out.has (by omega)).mono ?_
              rintro e w9 ⟨rfl, h9⟩
              have HF9 := Lib.hid h9
              clear h9
              go_wp2_with fail
              go_roundw
              case rel => exact ⟨k + 1, b, m4, X4, M2, hlt, by go_num, rfl, HF9.out⟩
              case measure => simp [intOf]; omega
            · have hRe := remove_any b m X x wf HL.out.lab HXm.out
              rw [scE_no HMi.out, mdel_no HMi.out] at hRe
              have HRe := Lib.hid hRe
              clear hRe
              go_wp2_with fail
              refine HRe.out.mono ?_
              rintro e w2 ⟨rfl, hl2, ho2⟩
              have H2 : Hid (LbI w1 w2 (k + 1) b m X M (.slice MA M.length mc)) := Lib.hid ⟨hl2, HL.out.own, HL.out.listO ho2 (Nat.le_refl _) HL.out.list, HL.out.lm, ⟨by have := HL.out.few.1; omega, HL.out.few.2⟩, HL.out.belowO ho2⟩
              clear hl2 ho2 HRe y0 y1
              go_wp2_with fail
              refine ((H2).out.has (by omega)).mono ?_
              rintro e w9 ⟨rfl, h9⟩
              have HF9 := Lib.hid h9
              clear h9
              go_wp2_with fail
              go_roundw
              case rel => exact ⟨k + 1, b, m, X, M, hlt, by go_num, rfl, HF9.out⟩
              case measure => simp [intOf]; omega
            · have hGe := get_any b m X x wf HL.out.lab HXm.out
              rw [scE_no HMi.out, scB_no HMi.out] at hGe
              have HGe := Lib.hid hGe
              clear hGe
              go_wp2_with fail
              refine HGe.out.mono ?_
              rintro e w2 ⟨gv, rfl, hg, hb2⟩
              obtain ⟨GA, gc, rfl, _, _⟩ := own_form hg
              have H2 := Lib.hid ((HL.out.adv hb2).up (Nat.le_succ k))
              clear hg hb2 HGe y0 y1
              go_wp2_with fail
              refine ((H2).out.has (by omega)).mono ?_
              rintro e w9 ⟨rfl, h9⟩
              have HF9 := Lib.hid h9
              clear h9
              go_wp2_with fail
              go_roundw
              case rel => exact ⟨k + 1, b, m, X, M, hlt, by go_num, rfl, HF9.out⟩
              case measure => simp [intOf]; omega
            · have HCo := Lib.hid (copy_any b m X wf HL.out.lab)
              go_wp2_with fail
              refine HCo.out.mono ?_
              rintro e w2 ⟨b2, m2, rfl, hl2, hg2, hgm2, hb2⟩
              have HL2 := Lib.hid hl2
              have HB2 := Lib.hid hb2
              have HG2 := Lib.hid hg2
              have HGM2 := Lib.hid hgm2
              have hl2b := hl2.blk.lt
              clear hl2 hb2 hg2 hgm2 HCo y0 y1
              go_wp2_with fail
              have hba : Below w2.heap.size w2 (w2.alloc (.cells #[.int .u8 1] 5)) := (Below.refl _ _).alloc (Nat.le_refl _) _
              have hbA := HB2.out.trans (hba.mono HB2.out.size)
              have HBA := Lib.hid hbA
              have HLA := Lib.hid (HL2.out.below hba)
              have hLa := HL.out.adv hbA
              have hbt : Bts (w2.alloc (.cells #[.int .u8 1] 5)) w1.heap.size 5 (.slice (some ⟨w2.heap.size, 0, none⟩) 1 1) [1] := one_bts w2 _
              have hPu := labPut_any w1.heap.size b m X ⟨#[122, 122]⟩ _ [1] _ hLa.lab hbt (by unfold maxLen; decide) HL.out.own.1 (by rw [HL.out.lm.len]; omega)
              have HLb := Lib.hid hLa.lab
              clear hba hbA hLa hbt
              generalize World.alloc _ _ = wA at HBA HLA HLb hPu ⊢
              refine hPu.mono ?_
              rintro e w3 ⟨rfl, hX⟩
              obtain ⟨m3, X3, h3, ho3, hm3⟩ : ∃ m3 X3, LRep w3 b m3 X3 ∧ Only (LB b m) wA w3 ∧ (m3 = m ∨ ∃ g, m = none ∧ m3 = some g ∧ wA.heap.size ≤ g) := by
                rcases hX with ⟨_, m3, u3, h3, ho3, hm3⟩ | ⟨_, rfl⟩
                · exact ⟨m3, _, h3, ho3, hm3⟩
                · exact ⟨m, X, HLb.out, Only.refl _ _, .inl rfl⟩
              have H3 := Lib.hid h3
              have HO3 := Lib.hid ho3
              have HM3 := Lib.hid hm3
              have hy : World.cell? w3 ⟨ab, ao + k * 2, none⟩ = some (.string x) ∧ World.cell? w3 ⟨ab, ao + k * 2 + 1, none⟩ = some (.slice VA d.length vc) := by
                obtain ⟨ab', ao', e', -, y0, y1⟩ := (HI.out.below (belowLB (HL.out.adv HBA.out).below ho3 HL.out.own)).at_ HP.out
                injection e' with e'
                injection e' with eb eo
                subst eb eo
                exact ⟨y0, y1⟩
              obtain ⟨y0, y1⟩ := hy
              have HRe := Lib.hid (remove_any b m3 X3 x w3 h3 HXm.out)
              clear h3 ho3 hm3 hX hPu
              go_wp2_with fail
              refine HRe.out.mono ?_
              rintro e w4 ⟨rfl, _, ho4⟩
              have H4 := Lib.hid (HL.out.copied HBA.out HLA.out HG2.out HGM2.out H3.out HO3.out HM3.out ho4)
              clear ho4 y0 y1 HRe
              go_wp2_with fail
              refine ((H4).out.has (by omega)).mono ?_
              rintro e w9 ⟨rfl, h9⟩
              have HF9 := Lib.hid h9
              clear h9
              go_wp2_with fail
              go_roundw
              case rel => exact ⟨k + 1, b2, m2, X, M, hlt, by go_num, rfl, HF9.out⟩
              case measure => simp [intOf]; omega
          · have HMi := Lib.hid hmi
            have hr0 : ¬ r0 < 0 := by omega
            clear hmi
            rcases hr4 with rfl | rfl | rfl | rfl
            · have hv1 := (HI.out.below HL.out.below).vals _ HPM.out
              have hL := lput_any w1.heap.size _ M x d _ wf HL.out.list hv1 (by omega) HXm.out
              obtain ⟨E, hE⟩ : ∃ E, putM M x d = E := ⟨_, rfl⟩
              unfold LPut at hL
              dsimp only at hL
              rw [hE] at hL
              have HLp := Lib.hid hL
              have HE := Lib.hid hE
              clear hv1 hL hE
              go_wp2_with fail
              refine HLp.out.mono ?_
              rintro e w2 ⟨mv2, M2, rfl, hl2, hb2, hM2⟩
              obtain ⟨MA2, mc2, rfl, hmc21, hmc22⟩ := hl2.slice
              have HL2 := Lib.hid hl2
              have HB2 := Lib.hid hb2
              have HM2 := Lib.hid hM2
              clear hl2 hb2 hM2 HLp y0 y1
              go_upto_region 22 with fail
              have hy : World.cell? w2 ⟨ab, ao + k * 2, none⟩ = some (.string x) ∧ World.cell? w2 ⟨ab, ao + k * 2 + 1, none⟩ = some (.slice VA d.length vc) := by
                obtain ⟨ab', ao', e', -, y0, y1⟩ := (HI.out.below (HL.out.adv HB2.out).below).at_ HP.out
                injection e' with e'
                injection e' with eb eo
                subst eb eo
                exact ⟨y0, y1⟩
              refine wp_region_noPanic ?_
              refine wp_region_held_drew (S := fun W => World.cell? W ⟨ab, ao + k * 2, none⟩ = some (.string x) ∧ World.cell? W ⟨ab, ao + k * 2 + 1, none⟩ = some (.slice VA d.length vc)) (by kernel_rfl) hy (fun hHeld => ?_)
              have HB3 : Hid (Below wf.heap.size wf w2.drew) := Lib.hid HB2.out.drew
              have HL3 := Lib.hid (HL2.out.below (Below.refl w2.heap.size w2).drew)
              clear hy
              generalize w2.drew = w3 at HB3 HL3 hHeld ⊢
              refine Pl.go [0, 1, 2, 3, 4, 5, 6, 7, 8, 9, 10, 12] ?_
              iterate 12
                refine tkl (v := ?_) ?_ ?_
                rotate_left 1
                · intro W hSw
                  obtain ⟨y0, y1⟩ := id hSw
                  clear hSw
                  go_simp
                  try with_reducible rfl
                try dsimp only [zS, zB, zC]
              refine Pl.stop ?_
              refine wpAnyH_ready (rs := [11]) (by kernel_rfl) (by simp) ?_
              refine AllReadyH.cons (o := ⟨_, _, _, _, _, _⟩) rfl (fun F hF => ?_) AllReadyH.nil
              go_simp
              have hLa := HL.out.adv HB3.out
              have hPu := labPut_any w1.heap.size b m X x _ d w3 hLa.lab ((HI.out.below hLa.below).vals _ HPM.out) HXm.out HL.out.own.1 (by rw [HL.out.lm.len]; omega)
              rw [HL.out.lm.put_eq, HE.out] at hPu
              refine hPu.mono ?_
              rintro e w4 ⟨rfl, hX⟩
              obtain ⟨m4, X4, h4⟩ := HL.out.put HB3.out HL3.out hsz (by rw [HE.out]; exact HM2.out) (by rw [HL.out.lm.put_eq, HE.out]; exact hX)
              have H4 := Lib.hid h4
              clear hX h4 hLa hPu hHeld
              go_wp2_with fail
              have hy : World.cell? w4 ⟨ab, ao + k * 2, none⟩ = some (.string x) ∧ World.cell? w4 ⟨ab, ao + k * 2 + 1, none⟩ = some (.slice VA d.length vc) := by
                obtain ⟨ab', ao', e', -, y0, y1⟩ := (HI.out.below H4.out.below).at_ HP.out
                injection e' with e'
                injection e' with eb eo
                subst eb eo
                exact ⟨y0, y1⟩
              refine hF.out _ _ hy (fun hHeld => ?_)
              clear hF F hy
              try simp only [Act.put, zA, zB, zC]
              refine tk 13 (v := ?_) ?_ ?_
              rotate_left 1
              · intro W hSw
                skip
                clear hSw
                go_simp
                try with_reducible rfl
              try dsimp only [zS, zB, zC]
              refine wpAnyH_done (by kernel_rfl) ?_ _
              refine NoPanic.normal ?_
              clear hHeld
              go_wp2_with fail
              refine ((H4).out.has (by omega)).mono ?_
              rintro e w9 ⟨rfl, h9⟩
              have HF9 := Lib.hid h9
              clear h9
              go_wp2_with fail
              go_roundw
              case rel => exact ⟨k + 1, b, m4, X4, M2, hlt, by go_num, rfl, HF9.out⟩
              case measure => simp [intOf]; omega
            · have hRe := remove_any b m X x wf HL.out.lab HXm.out
              rw [scE_yes HMi.out] at hRe
              have HRe := Lib.hid hRe
              clear hRe
              go_wp2_with fail
              refine HRe.out.mono ?_
              rintro e w2 ⟨rfl, hl2, ho2⟩
              have HL2 := Lib.hid hl2
              have HO2 := Lib.hid ho2
              have HM2 := Lib.hid (HL.out.listO ho2 (Nat.le_refl _) HL.out.list)
              clear hl2 ho2 HRe y0 y1
              obtain ⟨i, p9, rfl, hi9, e9⟩ : ∃ (i : Nat) (p9 : Sc), r0 = (i : Int) ∧ M[i]? = some p9 ∧ p9.1 = x := by
                rcases HFd.out with ⟨e, _⟩ | h
                · omega
                · exact h
              have hiM := (List.getElem?_eq_some_iff.1 hi9).1
              have HI9 := Lib.hid hi9
              have HE9 := Lib.hid e9
              clear hi9 e9
              go_upto_region 29 with fail
              have hiI : (i : Int) ≤ (M.length : Int) := by omega
              have hiC : (i : Int) ≤ (mc : Int) := by omega
              have hMC : (M.length : Int) ≤ (mc : Int) := by omega
              have hw1 : IntKind.i64.wrap ((i : Int) + 1) = ((i + 1 : Nat) : Int) := by rw [IntKind.wrap_i64]; omega
              have hjI : ((i + 1 : Nat) : Int) ≤ (M.length : Int) := by omega
              have hjC : ((i + 1 : Nat) : Int) ≤ (mc : Int) := by omega
              have hj0 : (0 : Int) ≤ (i : Int) + 1 := by omega
              have hjI2 : (i : Int) + 1 ≤ (M.length : Int) := by omega
              have hi0 : (0 : Int) ≤ (i : Int) := by omega
              refine wp_region_noPanic ?_
              refine wp_region_held_drew (S := fun _ => True) (by kernel_rfl) trivial (fun hHeld => ?_)
              refine Pl.go [0, 1, 2, 4, 5, 6, 7] ?_
              iterate 7
                refine tkl (v := ?_) ?_ ?_
                rotate_left 1
                · intro W hSw
                  skip
                  clear hSw
                  go_simp
                  try with_reducible rfl
                try dsimp only [zS, zB, zC]
              refine Pl.stop ?_
              obtain ⟨A9, hA9⟩ : ∃ A9, (if mc = i + 1 then MA else Option.map (fun x => x.add ((i + 1) * 2)) MA) = A9 := ⟨_, rfl⟩
              have hs2 := HM2.out.src_drop (j := i + 1) (by omega)
              rw [hA9] at hs2 ⊢
              have HS1 := Lib.hid (HM2.out.src_take (j := i) (by omega))
              have HS2 := Lib.hid hs2
              have HSl := Lib.hid HM2.out.slices
              have HLT : Hid ((M.take i).length = i) := Lib.hid (by rw [List.length_take]; omega)
              clear hA9 hs2
              have HB3 : Hid (Below w2.heap.size w2 w2.drew) := Lib.hid (Below.refl _ _).drew
              have HSd : Hid (∀ {A m xs}, Src w2 2 A m xs → ∀ w', Below w2.heap.size w2 w' → Src w' 2 A m xs) := Lib.hid (fun h w' hb => ⟨h.1, h.2.1, fun a ha j u hu => by
                have h0 := h.2.2 a ha j u hu
                exact (World.cell?_of_block (hb.block _ (block_lt_of_cell h0))).trans h0⟩)
              generalize w2.drew = w3 at HB3 hHeld ⊢
              obtain ⟨i0, hi0', hz0, hz1, hz2⟩ := info_parts it_info
              refine wpAnyH_ready (rs := [3]) (by kernel_rfl) (by simp) ?_
              refine AllReadyH.cons (o := ⟨_, _, _, _, _, _⟩) rfl (fun F hF => ?_) AllReadyH.nil
              refine step_append_src _ rfl (.const (.slice none 0 0)) (.tmp 106) 33 rfl w3.heap.size 37 i0 _ 2 40 Tryz.underlying33 hi0' hz0 hz1 hz2 rfl (by decide) _ 0 [] rfl (World.ownsRow_nil _ _ _ _) MA i mc (its (M.take i)) rfl (HSd.out HS1.out _ HB3.out) (its_one _ (fun p hp => HSl.out p (List.mem_of_mem_take hp))) (by unfold maxLen; omega) (by omega) (Nat.le_refl _) ?_
              intro v4 w4 hown4 hg4 hat4
              have HO4 := Lib.hid (own_zeroI hown4)
              have HB4 := Lib.hid (below_nilI hg4)
              clear hown4 hg4 hat4 hHeld
              refine hF.out _ _ trivial (fun hHeld => ?_)
              clear hF F
              try simp only [Act.put, zA, zB, zC]
              refine wpAnyH_ready (rs := [8]) (by kernel_rfl) (by simp) ?_
              refine AllReadyH.cons (o := ⟨_, _, _, _, _, _⟩) rfl (fun F hF => ?_) AllReadyH.nil
              refine step_append_src _ rfl (.tmp 107) (.tmp 111) 33 rfl w3.heap.size 37 i0 _ 2 40 Tryz.underlying33 hi0' hz0 hz1 hz2 rfl (by decide) _ i (its (M.take i)) rfl HO4.out A9 (M.length - (i + 1)) (mc - (i + 1)) (its (M.drop (i + 1))) rfl (HSd.out HS2.out _ (HB3.out.trans (HB4.out.mono HB3.out.size))) (its_one _ (fun p hp => HSl.out p (List.mem_of_mem_drop hp))) (by unfold maxLen; omega) (by omega) HB4.out.size ?_
              intro v5 w5 hown5 hg5 hat5
              have hb5 : Below w3.heap.size w3 w5 := HB4.out.grown hg5 HB4.out.size (fun q hq => row_own HO4.out hq)
              have hb25 := HB3.out.trans (hb5.mono HB3.out.size)
              have hM5 : ItsAt w5 w1.heap.size v5 (M.eraseIdx i) := ItsAt.of_own (base := w3.heap.size) (by
                have hl : (M.eraseIdx i).length = i + (M.length - (i + 1)) := by rw [List.length_eraseIdx, if_pos hiM]; omega
                rw [hl, List.eraseIdx_eq_take_drop_succ, its_app]
                exact hown5) (fun p hp => (HM2.out.vals p (List.mem_of_mem_eraseIdx hp)).below hb25)
              have hlm := HL.out.lm.del HI9.out
              rw [HE9.out] at hlm
              have H5 : Hid (LbI w1 w5 (k + 1) b m (mdel X x) (M.eraseIdx i) v5) := Lib.hid ⟨HL2.out.below hb25, HL.out.own, hM5, hlm, ⟨by have := HL.out.few.1; rw [List.length_eraseIdx, if_pos hiM]; omega, fun p hp => HL.out.few.2 p (List.mem_of_mem_eraseIdx hp)⟩, (HL.out.belowO HO2.out).trans (hb25.mono (HL.out.belowO HO2.out).size)⟩
              clear hown5 hg5 hat5 hb5 hb25 hM5 hlm hHeld
              refine hF.out _ _ trivial (fun hHeld => ?_)
              clear hF F
              try simp only [Act.put, zA, zB, zC]
              refine tk 9 (v := ?_) ?_ ?_
              rotate_left 1
              · intro W hSw
                skip
                clear hSw
                go_simp
                try with_reducible rfl
              try dsimp only [zS, zB, zC]
              refine wpAnyH_done (by kernel_rfl) ?_ _
              refine NoPanic.normal ?_
              obtain ⟨A5, c5, rfl, _, _⟩ := H5.out.list.slice
              go_wp2_with fail
              refine ((H5).out.has (by omega)).mono ?_
              rintro e w9 ⟨rfl, h9⟩
              have HF9 := Lib.hid h9
              clear h9
              go_wp2_with fail
              go_roundw
              case rel => exact ⟨k + 1, b, m, (mdel X x), (M.eraseIdx i), hlt, by go_num, rfl, HF9.out⟩
              case measure => simp [intOf]; omega
            · have hGe := get_any b m X x wf HL.out.lab HXm.out
              rw [scE_yes HMi.out] at hGe
              have HGe := Lib.hid hGe
              clear hGe
              go_wp2_with fail
              refine HGe.out.mono ?_
              rintro e w2 ⟨gv, rfl, hg, hb2⟩
              obtain ⟨GA, gc, rfl, _, _⟩ := own_form hg
              have H2 := Lib.hid ((HL.out.adv hb2).up (Nat.le_succ k))
              clear hg hb2 HGe y0 y1
              go_wp2_with fail
              refine ((H2).out.has (by omega)).mono ?_
              rintro e w9 ⟨rfl, h9⟩
              have HF9 := Lib.hid h9
              clear h9
              go_wp2_with fail
              go_roundw
              case rel => exact ⟨k + 1, b, m, X, M, hlt, by go_num, rfl, HF9.out⟩
              case measure => simp [intOf]; omega
            · have HCo := Lib.hid (copy_any b m X wf HL.out.lab)
              go_wp2_with fail
              refine HCo.out.mono ?_
              rintro e w2 ⟨b2, m2, rfl, hl2, hg2, hgm2, hb2⟩
              have HL2 := Lib.hid hl2
              have HB2 := Lib.hid hb2
              have HG2 := Lib.hid hg2
              have HGM2 := Lib.hid hgm2
              have hl2b := hl2.blk.lt
              clear hl2 hb2 hg2 hgm2 HCo y0 y1
              go_wp2_with fail
              have hba : Below w2.heap.size w2 (w2.alloc (.cells #[.int .u8 1] 5)) := (Below.refl _ _).alloc (Nat.le_refl _) _
              have hbA := HB2.out.trans (hba.mono HB2.out.size)
              have HBA := Lib.hid hbA
              have HLA := Lib.hid (HL2.out.below hba)
              have hLa := HL.out.adv hbA
              have hbt : Bts (w2.alloc (.cells #[.int .u8 1] 5)) w1.heap.size 5 (.slice (some ⟨w2.heap.size, 0, none⟩) 1 1) [1] := one_bts w2 _
              have hPu := labPut_any w1.heap.size b m X ⟨#[122, 122]⟩ _ [1] _ hLa.lab hbt (by unfold maxLen; decide) HL.out.own.1 (by rw [HL.out.lm.len]; omega)
              have HLb := Lib.hid hLa.lab
              clear hba hbA hLa hbt
              generalize World.alloc _ _ = wA at HBA HLA HLb hPu ⊢
              refine hPu.mono ?_
              rintro e w3 ⟨rfl, hX⟩
              obtain ⟨m3, X3, h3, ho3, hm3⟩ : ∃ m3 X3, LRep w3 b m3 X3 ∧ Only (LB b m) wA w3 ∧ (m3 = m ∨ ∃ g, m = none ∧ m3 = some g ∧ wA.heap.size ≤ g) := by
                rcases hX with ⟨_, m3, u3, h3, ho3, hm3⟩ | ⟨_, rfl⟩
                · exact ⟨m3, _, h3, ho3, hm3⟩
                · exact ⟨m, X, HLb.out, Only.refl _ _, .inl rfl⟩
              have H3 := Lib.hid h3
              have HO3 := Lib.hid ho3
              have HM3 := Lib.hid hm3
              have hy : World.cell? w3 ⟨ab, ao + k * 2, none⟩ = some (.string x) ∧ World.cell? w3 ⟨ab, ao + k * 2 + 1, none⟩ = some (.slice VA d.length vc) := by
                obtain ⟨ab', ao', e', -, y0, y1⟩ := (HI.out.below (belowLB (HL.out.adv HBA.out).below ho3 HL.out.own)).at_ HP.out
                injection e' with e'
                injection e' with eb eo
                subst eb eo
                exact ⟨y0, y1⟩
              obtain ⟨y0, y1⟩ := hy
              have HRe := Lib.hid (remove_any b m3 X3 x w3 h3 HXm.out)
              clear h3 ho3 hm3 hX hPu
              go_wp2_with fail
              refine HRe.out.mono ?_
              rintro e w4 ⟨rfl, _, ho4⟩
              have H4 := Lib.hid (HL.out.copied HBA.out HLA.out HG2.out HGM2.out H3.out HO3.out HM3.out ho4)
              clear ho4 y0 y1 HRe
              go_wp2_with fail
              refine ((H4).out.has (by omega)).mono ?_
              rintro e w9 ⟨rfl, h9⟩
              have HF9 := Lib.hid h9
              clear h9
              go_wp2_with fail
              go_roundw
              case rel => exact ⟨k + 1, b2, m2, X, M, hlt, by go_num, rfl, HF9.out⟩
              case measure => simp [intOf]; omega
      · obtain rfl : k = n := by omega
        have HKn := Lib.hid (known_gl (HG.out.below HL.out.below))
        go_wp2_with fail
        refine HKn.out.mono ?_
        rintro e w2 ⟨rfl, hb⟩
        have HB := Lib.hid (HL.out.below.trans (hb.mono HL.out.below.size))
        clear hb
        go_wp2_with fail
        go_ret
        exact ⟨rfl, HB.out⟩
  · have hx : fb = false ∨ (fb = true ∧ 30 < un) := by
      cases fb
      · exact .inl rfl
      · exact .inr ⟨rfl, by simpa using hf⟩
    rcases hx with rfl | ⟨rfl, hu30⟩
    · clear hf HFew
      go_wp2_with fail
      refine HKn.out.mono ?_
      rintro e w2 ⟨rfl, hb⟩
      have HB := Lib.hid hb
      clear hb
      go_wp2_with fail
      go_ret
      exact ⟨rfl, HB.out⟩
    · have huI : (30 : Int) < (un : Int) := by omega
      clear hf HFew
      go_wp2_with fail
      refine HKn.out.mono ?_
      rintro e w2 ⟨rfl, hb⟩
      have HB := Lib.hid hb
      clear hb
      go_wp2_with fail
      go_ret
      exact ⟨rfl, HB.out⟩
end Go.Proofs.YtcpophfchchpkaaGreatDoor
namespace Go.Proofs.YtcpophfchchpkaaGreatDoor
open Go Go.RowKit
theorem scripts_card (v : Value) (ps : List Sc) (u : Value) (bs : List UInt8) (w : World) (h : ItsAt w w.heap.size v ps) (hu : Bts w w.heap.size 5 u bs) (hg : GL51 w) :
    Calls Tryz.prog 4 #[v, u] w fun e w' => e = .returned (.bool true) ∧ Below w.heap.size w w' := scripts_walk v u ps bs w h hu hg
end Go.Proofs.YtcpophfchchpkaaGreatDoor
namespace Go.Proofs.YtcpophfchchpkaaGreatDoor
open Go Go.RowKit Go.Joins Go.ChangeShapes Go.WideShapes
theorem u8_wf {z : Int} (h : (Lit.int .u8 z).wf = true) : 0 ≤ z ∧ z ≤ 255 := by
  have h1 : IntKind.u8.min = 0 := rfl
  have h2 : IntKind.u8.max = 255 := rfl
  simp [Lit.wf, h1, h2] at h
  omega
/-- Bytes that came in read as a slice of bytes. -/
theorem open_bts {H : Type} {enc : TypeId × Value → H} {P : Program} {w : World} {fuel : Nat} {t e : TypeId} {v : Value} {y : DataW H × List MemPlace} (ht : P.underlying t = some (.slice e)) (he : P.underlying e = some (.int .u8)) (hc : P.cellsOf e = 1)
    (h : DataW.trod enc P w 0 (fun _ => true) true fuel t [v] = some y) (U : Nat) : ∃ bs : List UInt8, Bts w w.heap.size U v bs := by
  rcases open_ints ht he hc h with ⟨hcs, _⟩ | ⟨a, len, cap, zs, hcs, _, hl, hm, hz, _, hcell, hwf⟩
  · injection hcs with hcs _
    subst hcs
    exact ⟨[], Bts.nil _ _ _⟩
  · injection hcs with hcs _
    subst hcs
    simp only [if_true] at hz
    refine ⟨(zs.take len).map (fun z => UInt8.ofNat z.toNat), some a, cap, ?_, ?_, hm, (fun h => by cases h), fun h0 => ?_⟩
    · simp; omega
    · simp; omega
    · simp at h0
      have hc0 := hcell 0 (by omega)
      have ha0 : a.add 0 = a := by simp [Addr.add]
      rw [ha0] at hc0
      obtain ⟨b, off, spot⟩ := a
      have hs : spot = none := by
        cases spot with
        | none => rfl
        | some s =>
          unfold World.cell? at hc0
          split at hc0
          · simp at hc0
          · cases hc0
      subst hs
      have hb := block_lt_of_cell hc0
      refine ⟨b, off, rfl, hb, .inl hb, fun i hi => ?_⟩
      simp at hi
      have hci := hcell i (by omega)
      rw [add_plain] at hci
      rw [hci]
      have hiz : i < zs.length := by omega
      have e1 : zs.getD i 0 = zs[i] := by rw [List.getD_eq_getElem?_getD, List.getElem?_eq_getElem hiz]; rfl
      have hwz := u8_wf (hwf (zs.getD i 0) (by rw [e1]; exact List.getElem_mem _))
      rw [e1] at hwz ⊢
      have e2 : (UInt8.ofNat (zs[i]).toNat).toNat = (zs[i]).toNat := by
        rw [UInt8.toNat_ofNat']
        omega
      simp only [List.getElem_map, List.getElem_take]
      rw [e2, Int.toNat_of_nonneg hwz.1]
end Go.Proofs.YtcpophfchchpkaaGreatDoor
namespace Go.Proofs.YtcpophfchchpkaaGreatDoor
open Go Go.RowKit Go.Joins Go.ChangeShapes Go.WideShapes Go.ChangeAt Go.WideMaps Go.WideElems Go.Deep
theorem fld {H : Type} {enc : TypeId × Value → H} {P : Program} {w : World} {n : Nat} {cs : List Value} {x : Option (DataW H × List MemPlace)} {t : TypeId} {off : Nat} (h : DataW.trod enc P w 0 (fun _ => true) true n t ((cs.drop off).take (P.cellsOf t)) = x) (hc : P.cellsOf t = 1) (c : Value) (he : (cs.drop off).take 1 = [c]) (hx : ∃ y, x = some y) :
    ∃ y, DataW.trod enc P w 0 (fun _ => true) true n t [c] = some y := by
  rw [hc, he] at h
  rw [h]; exact hx
end Go.Proofs.YtcpophfchchpkaaGreatDoor
namespace Go.Proofs.YtcpophfchchpkaaGreatDoor
open Go Go.RowKit Go.Joins Go.ChangeShapes Go.WideShapes Go.ChangeAt Go.WideMaps Go.WideElems Go.Deep
theorem open_btsR {H : Type} {enc : TypeId × Value → H} {w : World} {v : Value} {d : DataW H} {p : List MemPlace} (hv : ∃ A l c, v = .slice A l c) (h : DataW.Trod enc Tryz.prog w 0 (fun _ => true) true 29 v d p) : ∃ bs : List UInt8, Bts w w.heap.size 5 v bs := by
  obtain ⟨A, l, c, rfl⟩ := hv
  obtain ⟨m, hm⟩ := h
  exact open_bts Tryz.underlying29 Tryz.underlying5 (by kernel_rfl) (by simpa [Value.cells] using hm) 5
set_option maxRecDepth 100000 in
theorem open_it_cells {H : Type} {enc : TypeId × Value → H} {w : World} {n : Nat} {cs : List Value} {y : DataW H × List MemPlace} (hl : cs.length = 2) (h : DataW.trod enc Tryz.prog w 0 (fun _ => true) true n 37 cs = some y) :
    ∃ (x : Sc), cs = itc x ∧ Bts w w.heap.size 5 x.2.2 x.2.1 := by
  match cs, hl with
  | [c0, c1], _ =>
    obtain ⟨xs, n, _, _, hl, hlen, hf⟩ := DataW.trod_struct Tryz.underlying37 h
    obtain ⟨y0, g0⟩ : ∃ y, DataW.trod enc Tryz.prog w 0 (fun _ => true) true n 9 [c0] = some y := fld (hf 0 _ rfl) (by kernel_rfl) c0 rfl ⟨_, List.getElem?_eq_getElem (by rw [hlen]; decide)⟩
    obtain ⟨y1, g1⟩ : ∃ y, DataW.trod enc Tryz.prog w 0 (fun _ => true) true n 29 [c1] = some y := fld (hf 1 _ rfl) (by kernel_rfl) c1 rfl ⟨_, List.getElem?_eq_getElem (by rw [hlen]; decide)⟩
    obtain ⟨k0, e0, _, _⟩ := DataW.trod_string Tryz.underlying9 g0
    obtain ⟨bs, hb⟩ := open_bts Tryz.underlying29 Tryz.underlying5 (by kernel_rfl) g1 5
    injection e0 with e0 _
    subst e0
    exact ⟨(k0, bs, c1), rfl, hb⟩
theorem list_chooseI {α : Type} {p : Nat → α → Prop} : ∀ n, (∀ i, i < n → ∃ a, p i a) → ∃ l : List α, l.length = n ∧ ∀ i (h : i < l.length), p i l[i]
  | 0, _ => ⟨[], rfl, fun i h => by simp at h⟩
  | n + 1, h => by
    obtain ⟨l, hl, hp⟩ := list_chooseI n (fun i hi => h i (by omega))
    obtain ⟨a, ha⟩ := h n (by omega)
    refine ⟨l ++ [a], by simp [hl], fun i hi => ?_⟩
    rcases Nat.lt_or_ge i l.length with h1 | h1
    · rw [List.getElem_append_left h1]; exact hp i h1
    · have : i = l.length := by simp at hi; omega
      subst this
      rw [List.getElem_append_right (Nat.le_refl _)]
      simpa [hl] using ha
/-- A slice of items that came in. -/
theorem open_its {H : Type} {enc : TypeId × Value → H} {w : World} {v : Value} {d : DataW H} {p : List MemPlace} (hv : ∃ A l c, v = .slice A l c) (h : DataW.Trod enc Tryz.prog w 0 (fun _ => true) true 33 v d p) :
    ∃ ps : List Sc, ItsAt w w.heap.size v ps := by
  obtain ⟨A, l, c, rfl⟩ := hv
  obtain ⟨fuel, hf⟩ := h
  have c2 : Tryz.prog.cellsOf 37 = 2 := by kernel_rfl
  rcases open_slice Tryz.underlying33 hf with ⟨hcs, _⟩ | ⟨a, len, cap, m, n, D, Pl, hcs, _, hl, hm, hmm, _, hi⟩
  · simp [Value.cells] at hcs
    obtain ⟨rfl, rfl, rfl⟩ := hcs
    exact ⟨[], ItsAt.nil _ _⟩
  · simp [Value.cells] at hcs
    obtain ⟨rfl, rfl, rfl⟩ := hcs
    simp only [if_true] at hmm
    rw [c2] at hi
    obtain ⟨ls, hlen, has⟩ := list_chooseI (p := fun i (x : Sc) => (∀ j, j < 2 → w.cell? ((a.add (i * 2)).add j) = (itc x)[j]?) ∧ Bts w w.heap.size 5 x.2.2 x.2.1) l (fun i hil => by
      obtain ⟨cs', hc, ht⟩ := hi i (by omega)
      obtain ⟨_, hcl, hat⟩ := World.cells?_some hc
      obtain ⟨x, rfl, hx⟩ := open_it_cells hcl ht
      exact ⟨x, hat, hx⟩)
    refine ⟨ls, ⟨⟨some a, c, by rw [hlen], by omega, hm, (fun h => by cases h), fun h0 => ?_⟩, fun x hx => ?_⟩⟩
    · have h1 := (has 0 h0).1 0 (by omega)
      rw [Nat.zero_mul] at h1
      have ha0 : a.add 0 = a := by simp [Addr.add]
      rw [ha0, ha0] at h1
      obtain ⟨b, off, spot⟩ := a
      have h1' : w.cell? ⟨b, off, spot⟩ = some (.string ls[0].1) := h1
      have hs : spot = none := by
        cases spot with
        | none => rfl
        | some s =>
          unfold World.cell? at h1'
          split at h1'
          · simp at h1'
          · cases h1'
      subst hs
      refine ⟨b, off, rfl, block_lt_of_cell h1', .inl (block_lt_of_cell h1'), fun i x hix j u hj => ?_⟩
      obtain ⟨hil, rfl⟩ := List.getElem?_eq_some_iff.1 hix
      have hj2 : j < 2 := by
        have := (List.getElem?_eq_some_iff.1 hj).1
        simpa [itc] using this
      have := (has i hil).1 j hj2
      rw [add_plain, add_plain, hj] at this
      rw [← Nat.add_assoc]; exact this
    · obtain ⟨i, hi, rfl⟩ := List.getElem_of_mem hx
      exact (has i hi).2
end Go.Proofs.YtcpophfchchpkaaGreatDoor
namespace Go.Proofs.YtcpophfchchpkaaGreatDoor
open Go Go.RowKit Go.ChangeShapes Go.WideShapes Go.ChangeAt Go.WideMaps Go.WideElems Go.Sy
theorem laid_at {P : Program} {w : World} : ∀ {laid : List (String × DataW Unit)} {ps : List MemPlace}, DataW.LaidVars P w laid ps → ∀ {n : String} {d : DataW Unit}, (n, d) ∈ laid →
    ∃ g t cs fuel p, P.globalNamed n = some g ∧ (P.globals[g]?).map (·.type) = some t ∧ w.var? P n = some cs ∧ DataW.trod (fun _ => ()) P w 0 (fun _ => true) false fuel t cs.toList = some (d, p) ∧ ∀ x ∈ MemPlace.row ⟨g, 0, none⟩ cs.size, x ∈ ps
  | [], ps, h, n, d, hm => by cases hm
  | (n', d') :: r, ps, h, n, d, hm => by
    obtain ⟨g, t, cs, fuel, p, q, h1, h2, h3, h4, h5, rfl⟩ := h
    rcases List.mem_cons.1 hm with e | hm
    · injection e with e1 e2
      subst e1 e2
      exact ⟨g, t, cs, fuel, p, h1, h2, h3, h4, fun x hx => by simp [hx]⟩
    · obtain ⟨g', t', cs', f', p', k1, k2, k3, k4, k5⟩ := laid_at h5 hm
      exact ⟨g', t', cs', f', p', k1, k2, k3, k4, fun x hx => by simp [k5 x hx]⟩
theorem take1_at {α : Type} {l : List α} {i : Nat} {c : α} (h : (l.drop i).take 1 = [c]) : l[i]? = some c := by
  have h1 : ((l.drop i).take 1)[0]? = some c := by rw [h]; rfl
  rw [List.getElem?_take_of_lt (by omega), List.getElem?_drop, Nat.add_zero] at h1
  exact h1
/-- A variable that is an array of integers: its block. -/
theorem blk_of_laid {P : Program} {w : World} {laid : List (String × DataW Unit)} (h : laidMet P laid w) {name : String} {d : DataW Unit} (hm : (name, d) ∈ laid) {g n : Nat} {t e : TypeId} {k : IntKind}
    (hg : P.globalNamed name = some g) (hgt : (P.globals[g]?).map (·.type) = some t) (ht : P.underlying t = some (.array n e)) (he : P.underlying e = some (.int k)) (hc : P.cellsOf e = 1) (hct : P.cellsOf t = n)
    (l : List Nat) (hl : l.length = n) (hn : 0 < n) (hd : d = .agg (l.map fun x => .lit (.int k (.ofNat x)))) : ∃ t', w.heap[g]? = some (.cells ⟨l.map fun x => .int k (.ofNat x)⟩ t' (0, 0)) := by
  obtain ⟨ps, hps, _, hfz⟩ := h
  obtain ⟨g', t', cs, fuel, p, h1, h2, h3, h4, h5⟩ := laid_at hps hm
  obtain rfl : g = g' := Option.some.inj (hg.symm.trans h1)
  obtain rfl : t = t' := Option.some.inj (hgt.symm.trans h2)
  obtain ⟨xs, m, _, hx1, hlen, hxn, hel⟩ := DataW.trod_array ht h4
  simp only [Prod.mk.injEq] at hx1
  have hsz : cs.size = n := by rw [← hct, ← hlen]; simp
  have hcs : cs = ⟨l.map fun x => .int k (.ofNat x)⟩ := by
    apply Array.ext_getElem?
    intro i
    by_cases hi : i < n
    · have hc' := hel i hi
      rw [hc, Nat.mul_one, List.getElem?_eq_getElem (by omega)] at hc'
      obtain ⟨q, e1, e2, _⟩ := DataW.trod_int he hc'
      have h6 : (xs.map (·.1))[i]? = some (.lit (.int k (.ofNat (l[i]'(by omega))))) := by
        have := hx1.1
        rw [hd] at this
        injection this with this
        rw [← this, List.getElem?_map, List.getElem?_eq_getElem (by omega)]; rfl
      rw [List.getElem?_map, List.getElem?_eq_getElem (by omega), e2] at h6
      simp only [Option.map_some, Option.some.injEq, DataW.lit.injEq, Lit.int.injEq, true_and] at h6
      have h7 := take1_at e1
      rw [Array.getElem?_toList] at h7
      rw [h7, h6, List.getElem?_toArray, List.getElem?_map, List.getElem?_eq_getElem (by omega)]; rfl
    · rw [Array.getElem?_eq_none (by omega), Array.getElem?_eq_none (by simp; omega)]
  obtain ⟨⟨c, t2, hb⟩, _⟩ := hfz g 0 (h5 _ (by
    simp only [MemPlace.row, List.mem_map, List.mem_range]
    exact ⟨0, by omega, rfl⟩))
  refine ⟨t2, ?_⟩
  simp only [World.var?, hg, Option.bind_some, hb] at h3
  injection h3 with h3
  rw [hb, h3, hcs]
theorem b_conc (b : Bool) (s : Sg) : (AV.b b).conc s = some (.bool b) := by simp only [AV.conc]
theorem follows : Tryz.prog.follows .mixedOrders = true := by kernel_rfl
end Go.Proofs.YtcpophfchchpkaaGreatDoor
namespace Go.Proofs.YtcpophfchchpkaaGreatDoor
open Go Go.RowKit Go.Sy Go.ChangeAt Go.WideShapes
abbrev laid51 : List (String × DataW Unit) := [("math/bits.deBruijn64tab", Rows.laid_math_bits_deBruijn64tab), ("cubbyhole/script.kinds", Rows.laid_cubbyhole_script_kinds)]
theorem rows51 {W : World} (h : laidMetH Tryz.prog laid51 W) : ∃ t0 t1, RowsAt W (gs51 t0 t1) [] := by
  rw [MakeChecks.laidMetH_plain _ _ _ (by kernel_rfl)] at h
  obtain ⟨t0, h0⟩ := blk_of_laid h (name := "cubbyhole/script.kinds") (d := Rows.laid_cubbyhole_script_kinds) (by simp) (g := 0) (n := 16) (t := 102) (e := 3) (k := .i64) (by kernel_rfl) (by kernel_rfl) (by kernel_rfl) (by kernel_rfl) (by kernel_rfl) (by kernel_rfl) kindsN rfl (by decide) rfl
  obtain ⟨t1, h1⟩ := blk_of_laid h (name := "math/bits.deBruijn64tab") (d := Rows.laid_math_bits_deBruijn64tab) (by simp) (g := 1) (n := 64) (t := 538) (e := 5) (k := .u8) (by kernel_rfl) (by kernel_rfl) (by kernel_rfl) (by kernel_rfl) (by kernel_rfl) (by kernel_rfl) bruijnN rfl (by decide) rfl
  exact ⟨t0, t1, rows51_of h0 h1⟩
theorem gl51_laid {W : World} (h : laidMetH Tryz.prog laid51 W) : GL51 W := by
  rw [MakeChecks.laidMetH_plain _ _ _ (by kernel_rfl)] at h
  obtain ⟨t0, h0⟩ := blk_of_laid h (name := "cubbyhole/script.kinds") (d := Rows.laid_cubbyhole_script_kinds) (by simp) (g := 0) (n := 16) (t := 102) (e := 3) (k := .i64) (by kernel_rfl) (by kernel_rfl) (by kernel_rfl) (by kernel_rfl) (by kernel_rfl) (by kernel_rfl) kindsN rfl (by decide) rfl
  obtain ⟨t1, h1⟩ := blk_of_laid h (name := "math/bits.deBruijn64tab") (d := Rows.laid_math_bits_deBruijn64tab) (by simp) (g := 1) (n := 64) (t := 538) (e := 5) (k := .u8) (by kernel_rfl) (by kernel_rfl) (by kernel_rfl) (by kernel_rfl) (by kernel_rfl) (by kernel_rfl) bruijnN rfl (by decide) rfl
  exact ⟨t0, t1, h0, h1⟩
end Go.Proofs.YtcpophfchchpkaaGreatDoor
