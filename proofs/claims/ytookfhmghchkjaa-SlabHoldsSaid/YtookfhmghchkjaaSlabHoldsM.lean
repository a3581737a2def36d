/- What SlabHolds keeps from call to call. -/
import Derived.Test.YtookfhmghchkjaaSlabMap
import Derived.Test.YtookfhmghchkjaaSlabActs
import Derived.Test.YtookfhmghchkjaaSlabR
namespace Go.Proofs.Ytookfhmghchkjaa
open Go Go.RowKit

/-- Blocks that are no cells have changed. -/
theorem keepB_others {S : Nat → Prop} {w w' : World} {B U : Nat} (ho : Only S w w') (hS : ∀ k, S k → B ≤ k ∧ ∀ c t fr, w.heap[k]? ≠ some (.cells c t fr)) : KeepB B U w w' :=
  KeepB.of_only ho fun k _ hk => ⟨(hS k hk).1, fun c fr => (hS k hk).2 c U fr⟩
theorem ARep.others {S : Nat → Prop} {w w' : World} {B b : Nat} {most : Int} {st : PSt} (h : ARep w B b most st) (ho : Only S w w') (hS : ∀ k, S k → B ≤ k ∧ ∀ c t fr, w.heap[k]? ≠ some (.cells c t fr)) : ARep w' B b most st := by
  obtain ⟨sh, h1, h2⟩ := h
  exact ⟨sh, h1.only ho (fun k hk hs => by
    obtain ⟨cur, t, e, _⟩ := h1.fp_type hk
    exact (hS k hs).2 _ _ _ e) (keepB_others ho hS), h2⟩

structure HInv (w wr : World) (k : Nat) (most : Int) (v : Value) (ls : List ActS) (st : PSt) (L : List ME) : Prop where
  rep : ARep wr w.heap.size w.heap.size most st
  wf : PWf k st
  fits : Fits most st L
  map : MRep wr (w.heap.size + 1) L
  acts : Acts wr w.heap.size v ls
  below : Below w.heap.size w wr

section
variable {w wr w' : World} {k : Nat} {most : Int} {v : Value} {ls : List ActS} {st st' : PSt} {L L' : List ME}
theorem HInv.adv (h : HInv w wr k most v ls st L) (hb : Below wr.heap.size wr w') : HInv w w' k most v ls st L :=
  ⟨h.rep.below hb, h.wf, h.fits, h.map.below hb, h.acts.below hb, h.below.trans (hb.mono h.below.size)⟩
theorem HInv.alloc (h : HInv w wr k most v ls st L) (o : Obj) : HInv w (wr.alloc o) k most v ls st L := h.adv ((Below.refl _ _).alloc (Nat.le_refl _) o)
theorem HInv.drewN (h : HInv w wr k most v ls st L) (n : Nat) : HInv w (wr.drewN n) k most v ls st L := h.adv ⟨rfl, rfl, rfl, Nat.le_refl _, fun _ _ => rfl⟩
theorem HInv.more (h : HInv w wr k most v ls st L) : HInv w wr (k + 1) most v ls st L := ⟨h.rep, h.wf.mono (Nat.le_succ _), h.fits, h.map, h.acts, h.below⟩
/-- A call of the arena: the map's list is not yet turned. -/
structure HMid (w wr : World) (k : Nat) (most : Int) (v : Value) (ls : List ActS) (st : PSt) (L : List ME) : Prop where
  rep : ARep wr w.heap.size w.heap.size most st
  wf : PWf k st
  map : MRep wr (w.heap.size + 1) L
  acts : Acts wr w.heap.size v ls
  below : Below w.heap.size w wr
theorem HInv.mid (h : HInv w wr k most v ls st L) : HMid w wr k most v ls st L := ⟨h.rep, h.wf, h.map, h.acts, h.below⟩
theorem HMid.inv (h : HMid w wr k most v ls st L) (hf : Fits most st L) : HInv w wr k most v ls st L := ⟨h.rep, h.wf, hf, h.map, h.acts, h.below⟩
theorem HMid.adv (h : HMid w wr k most v ls st L) (hb : Below wr.heap.size wr w') : HMid w w' k most v ls st L :=
  ⟨h.rep.below hb, h.wf, h.map.below hb, h.acts.below hb, h.below.trans (hb.mono h.below.size)⟩
theorem HMid.alloc (h : HMid w wr k most v ls st L) (o : Obj) : HMid w (wr.alloc o) k most v ls st L := h.adv ((Below.refl _ _).alloc (Nat.le_refl _) o)
theorem HInv.call (h : HInv w wr k most v ls st L) (hr : ARep w' w.heap.size w.heap.size most st') (hw : PWf (k + 1) st') (hk : KeepS w.heap.size wr w') (hb : Below w.heap.size wr w') : HMid w w' (k + 1) most v ls st' L :=
  ⟨hr, hw, h.map.keep hk, h.acts.kept hb hk.u8, h.below.trans hb⟩
theorem HMid.turn (h : HMid w wr k most v ls st L) (hm : MRep w' (w.heap.size + 1) L') (ht : Turned wr w' (w.heap.size + 1)) : HMid w w' k most v ls st L' := by
  obtain ⟨es, clock, hb⟩ := ht.was
  have hS : ∀ i, i = w.heap.size + 1 → w.heap.size ≤ i ∧ ∀ c t fr, wr.heap[i]? ≠ some (.cells c t fr) := fun i e => by
    subst e
    exact ⟨by omega, fun c t fr e2 => by rw [hb] at e2; cases e2⟩
  have hbl : Below w.heap.size wr w' := ht.only.below (fun i hi _ e => by omega) (by have := h.below.size; omega)
  exact ⟨h.rep.others ht.only hS, h.wf, hm, h.acts.kept hbl (keepB_others ht.only hS), h.below.trans hbl⟩
theorem HMid.lt (h : HMid w wr k most v ls st L) : w.heap.size + 1 < wr.heap.size := h.map.lt
theorem HInv.lt (h : HInv w wr k most v ls st L) : w.heap.size + 1 < wr.heap.size := h.map.lt
/-- Beside a loop over the map. -/
theorem HInv.step {r : Nat} {todo : List ME} (h : HInv w wr k most v ls st L) (hr : MRange wr (w.heap.size + 1) r L todo) (hlt : w.heap.size ≤ r) (ho : Only (fun i => i = r) wr w') : HInv w w' k most v ls st L := by
  obtain ⟨es, clock, since, seen, c0, hb, _, hri, _⟩ := hr
  have hne : r ≠ w.heap.size + 1 := fun e => by rw [e, hb] at hri; cases hri
  have hS : ∀ i, i = r → w.heap.size ≤ i ∧ ∀ c t fr, wr.heap[i]? ≠ some (.cells c t fr) := fun i e => by
    subst e
    exact ⟨hlt, fun c t fr e2 => by rw [hri] at e2; cases e2⟩
  have hbl : Below w.heap.size wr w' := ho.below (fun i hi _ e => by omega) (by have := h.below.size; omega)
  exact ⟨h.rep.others ho hS, h.wf, h.fits, h.map.block (ho.block _ h.map.lt (fun e => hne e.symm)), h.acts.kept hbl (keepB_others ho hS), h.below.trans hbl⟩
end

theorem pput_er {most : Int} {st : PSt} (bs : List UInt8) : ∃ K N er st', pput most st bs = (K, N, er, st') := ⟨_, _, _, _, rfl⟩
theorem pswap_er {most : Int} {st : PSt} (K0 N0 : Int) (bs : List UInt8) : ∃ K N er st', pswap most st K0 N0 bs = (K, N, er, st') := ⟨_, _, _, _, rfl⟩
theorem sumL_erase : ∀ {L : List ME} {i : Nat} {x : ME}, L[i]? = some x → sumL (L.eraseIdx i) + x.2.length = sumL L
  | [], i, x, h => by simp at h
  | y :: L, 0, x, h => by
    simp at h
    subst h
    simp [sumL]
    omega
  | y :: L, i + 1, x, h => by
    have := sumL_erase (L := L) (i := i) (x := x) (by simpa using h)
    simp [sumL] at this ⊢
    omega
end Go.Proofs.Ytookfhmghchkjaa
