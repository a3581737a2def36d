/- Layer 45: what Recover reads, in plain words. -/
import Derived.Test.YtffigmciclopdaaDoorJouK
namespace Go.Proofs.YtffigmciclopdaaDoor
open Go Go.RowKit

/-- The number in the first two bytes. -/
def headN (rest : List UInt8) : Nat := (rest.getD 0 0).toNat * 256 + (rest.getD 1 0).toNat
/-- The first record of bytes. -/
def okRec (s : Nat) (rest : List UInt8) : Option (OpV × List UInt8) :=
  if rest.length < headN rest + 6 ∨ 4096 < headN rest then none else
  match rdOps ((rest.take (2 + headN rest)).drop 2) with
  | [o] => (match recO s o with
    | some r => if r = rest.take (headN rest + 6) then some (o, r) else none
    | none => none)
  | _ => none

theorem okRec_some {s : Nat} {rest r : List UInt8} {o : OpV} (h : okRec s rest = some (o, r)) : recO s o = some r ∧ r = rest.take (headN rest + 6) ∧ headN rest + 6 ≤ rest.length ∧ 0 ≤ o.ticks := by
  unfold okRec at h
  split at h
  · cases h
  · rename_i hn
    split at h
    · rename_i o' ho
      cases hr : recO s o' with
      | none => rw [hr] at h; cases h
      | some r' =>
        rw [hr] at h
        dsimp only at h
        split at h
        · rename_i he
          injection h with h
          injection h with h1 h2
          subst h1 h2
          refine ⟨hr, he, by omega, ?_⟩
          have hp : 0 < ((rest.take (2 + headN rest)).drop 2).length := by
            cases hx : (rest.take (2 + headN rest)).drop 2 with
            | nil => rw [hx] at ho; cases ho
            | cons a l => simp
          rw [rdOps_cons _ hp] at ho
          injection ho with h1 _
          rw [← h1]; exact rdOp_ticks _
        · cases h
    · cases h

def rcv : Nat → List UInt8 → List Nat → List OpV → List UInt8 → List UInt8 × List Nat × List OpV
  | 0, ds, es, os, _ => (ds, es, os)
  | f + 1, ds, es, os, rest => match okRec (sumL ds) rest with
    | none => (ds, es, os)
    | some (o, r) => if 4096 ≤ es.length ∨ 1048576 < ds.length + r.length then (ds, es, os) else rcv f (ds ++ r) (es ++ [ds.length + r.length]) (os ++ [o]) (rest.drop r.length)
/-- The journal of bytes. -/
def rcvd (bs : List UInt8) : List UInt8 × List Nat × List OpV := rcv bs.length [] [] [] bs

theorem okRec_nil (s : Nat) {rest : List UInt8} (h : rest.length < 2) : okRec s rest = none := by
  unfold okRec
  rw [if_pos (by omega)]

/-- Where Recover stands. -/
structure RcP (bs ds : List UInt8) (es : List Nat) (os : List OpV) (rest : List UInt8) : Prop where
  cut : bs = ds ++ rest
  eq : ∃ f, rest.length ≤ f ∧ rcv f ds es os rest = rcvd bs
theorem RcP.start (bs : List UInt8) : RcP bs [] [] [] bs := ⟨rfl, bs.length, Nat.le_refl _, rfl⟩
theorem RcP.stop {bs ds rest : List UInt8} {es : List Nat} {os : List OpV} (h : RcP bs ds es os rest) (hs : okRec (sumL ds) rest = none) : rcvd bs = (ds, es, os) := by
  obtain ⟨f, hf, e⟩ := h.eq
  rw [← e]
  cases f with
  | zero => rfl
  | succ f => simp only [rcv, hs]
theorem RcP.full {bs ds rest r : List UInt8} {es : List Nat} {os : List OpV} {o : OpV} (h : RcP bs ds es os rest) (hs : okRec (sumL ds) rest = some (o, r)) (hf : 4096 ≤ es.length ∨ 1048576 < ds.length + r.length) : rcvd bs = (ds, es, os) := by
  obtain ⟨f, _, e⟩ := h.eq
  rw [← e]
  cases f with
  | zero => rfl
  | succ f => simp only [rcv, hs]; rw [if_pos hf]
theorem RcP.step {bs ds rest r : List UInt8} {es : List Nat} {os : List OpV} {o : OpV} (h : RcP bs ds es os rest) (hs : okRec (sumL ds) rest = some (o, r)) (hf : ¬ (4096 ≤ es.length ∨ 1048576 < ds.length + r.length)) : RcP bs (ds ++ r) (es ++ [ds.length + r.length]) (os ++ [o]) (rest.drop r.length) := by
  obtain ⟨f, hl, e⟩ := h.eq
  obtain ⟨h1, h2, h3, _⟩ := okRec_some hs
  have h7 := recO_len h1
  refine ⟨?_, ?_⟩
  · have hr : r = rest.take r.length := by
      have := congrArg List.length h2
      rw [List.length_take] at this
      rw [show r.length = headN rest + 6 by omega]
      exact h2
    rw [List.append_assoc]
    have e2 : r ++ rest.drop r.length = rest := by
      conv => lhs; lhs; rw [hr]
      exact List.take_append_drop _ _
    rw [e2]; exact h.cut
  · cases f with
    | zero => have : rest.length = 0 := by omega
              omega
    | succ f =>
      refine ⟨f, by rw [List.length_drop]; omega, ?_⟩
      rw [← e]
      simp only [rcv, hs]
      rw [if_neg hf]

theorem Bts.more {w : World} {B B' U : Nat} {v : Value} {bs : List UInt8} (h : Bts w B U v bs) (hB : B ≤ B') : Bts w B' U v bs := by
  obtain ⟨A, cap, h1, h2, h3, h4, h5⟩ := h
  refine ⟨A, cap, h1, h2, h3, h4, fun hp => ?_⟩
  obtain ⟨b, off, e1, e2, e3, e4⟩ := h5 hp
  exact ⟨b, off, e1, e2, e3.imp (fun h => by omega) id, e4⟩

end Go.Proofs.YtffigmciclopdaaDoor
