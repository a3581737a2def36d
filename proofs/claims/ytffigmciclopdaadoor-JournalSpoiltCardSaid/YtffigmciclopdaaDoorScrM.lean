/- Layer 26's operations as plain data: how bytes are read as operations and written. No program in sight. -/
import Derived.Test.YtffigmciclopdaaDoorClone
import Derived.Laws.BitsAllLaws
import Derived.Lib.Slices
namespace Go.Proofs.YtffigmciclopdaaDoor
open Go Go.RowKit

structure OpV where
  kind : Int
  ticks : Int
  key : ByteArray
  val : List UInt8
  ttl : Int
  count : Int
  bytes : Int
  cursor : Int
  birth : Int

/-- The first bytes, as many as are asked for: missing ones are 0. -/
def takeP (n : Nat) (rs : List UInt8) : List UInt8 := rs.take n ++ List.replicate (n - rs.length) 0
theorem takeP_length (n : Nat) (rs : List UInt8) : (takeP n rs).length = n := by simp [takeP]; omega

/-- A number in bytes, the highest one first. -/
def numBE (l : List UInt8) : Nat := l.foldl (fun x b => x * 256 + b.toNat) 0
theorem numBE_snoc (l : List UInt8) (b : UInt8) : numBE (l ++ [b]) = numBE l * 256 + b.toNat := by simp [numBE]
theorem numBE_acc : ∀ (l : List UInt8) (a : Nat), l.foldl (fun x b => x * 256 + b.toNat) a < (a + 1) * 256 ^ l.length
  | [], a => by simp
  | b :: l, a => by
    have h := numBE_acc l (a * 256 + b.toNat)
    have hb := b.toNat_lt
    have h2 : (a * 256 + b.toNat + 1) * 256 ^ l.length ≤ ((a + 1) * 256) * 256 ^ l.length := Nat.mul_le_mul_right _ (by omega)
    have e : (a + 1) * 256 ^ (b :: l).length = ((a + 1) * 256) * 256 ^ l.length := by rw [List.length_cons, Nat.pow_succ, Nat.mul_comm (256 ^ l.length) 256, Nat.mul_assoc]
    rw [List.foldl_cons, e]
    omega
theorem numBE_lt (l : List UInt8) : numBE l < 256 ^ l.length := by
  have h := numBE_acc l 0
  rw [Nat.zero_add, Nat.one_mul] at h
  exact h

theorem ofInt_64 (a : Nat) (ha : a < 18446744073709551616) : (BitVec.ofInt 64 (a : Int)).toNat = a := by
  rw [BitVec.ofInt_natCast, BitVec.toNat_ofNat]; exact Nat.mod_eq_of_lt (by omega)
/-- A byte put behind a number. -/
theorem join_i64 (x b : Nat) (hx : x < 16777216) (hb : b < 256) : bits .or .i64 ((x : Int) * 256) (b : Int) = ((x * 256 + b : Nat) : Int) := by
  have e : ((x : Int) * 256) = ((x * 256 : Nat) : Int) := by omega
  rw [e]
  show IntKind.i64.wrap ((BitVec.ofInt 64 ((x * 256 : Nat) : Int) ||| BitVec.ofInt 64 (b : Int)).toNat : Int) = _
  rw [BitVec.toNat_or, ofInt_64 _ (by omega), ofInt_64 b (by omega), IntKind.wrap_i64, nat_join 8 (x * 256) b (by omega) (by omega)]
  omega

inductive Part where
  | key | value | ttl | budgets | aim | birth

def kindL : List Int := [3, 1, 2, 4, 5, 6, 7, 8, 9, 10, 11, 12, 13, 14, 3, 1]

def partsOf (k : Int) : List Part :=
  if k = 3 ∨ k = 4 ∨ k = 6 then [.key]
  else if k = 1 then [.key, .value]
  else if k = 2 then [.key, .value, .ttl]
  else if k = 5 then [.key, .ttl]
  else if k = 8 then [.budgets]
  else if k = 12 ∨ k = 14 then [.aim]
  else if k = 13 then [.aim, .birth]
  else []

/-- What is read of a part. -/
def rdPart (p : Part) (o : OpV) (rs : List UInt8) : OpV × List UInt8 :=
  match p with
  | .key => ({ o with key := ⟨(takeP (numBE (takeP 1 rs) % 32) (rs.drop 1)).toArray⟩ }, (rs.drop 1).drop (numBE (takeP 1 rs) % 32))
  | .value => ({ o with val := takeP (numBE (takeP 1 rs)) (rs.drop 1) }, (rs.drop 1).drop (numBE (takeP 1 rs)))
  | .ttl => ({ o with ttl := numBE (takeP 2 rs) }, rs.drop 2)
  | .budgets => ({ o with count := numBE (takeP 2 rs), bytes := numBE (takeP 3 (rs.drop 2)) }, (rs.drop 2).drop 3)
  | .aim => ({ o with cursor := numBE (takeP 1 rs) }, rs.drop 1)
  | .birth => ({ o with birth := numBE (takeP 2 rs) }, rs.drop 2)

def rdParts : List Part → OpV → List UInt8 → OpV × List UInt8
  | [], o, rs => (o, rs)
  | p :: ps, o, rs => rdParts ps (rdPart p o rs).1 (rdPart p o rs).2

def op0 (x : Nat) : OpV := ⟨kindL.getD (x % 16) 0, (x / 16 : Nat), ⟨#[]⟩, [], 0, 0, 0, 0, 0⟩

/-- An operation with its ticks read. -/
def rdHead (rs : List UInt8) : OpV × List UInt8 :=
  if numBE (takeP 1 rs) / 16 = 15 then ({ op0 (numBE (takeP 1 rs)) with ticks := 15 + (numBE (takeP 1 (rs.drop 1)) : Int) }, (rs.drop 1).drop 1)
  else (op0 (numBE (takeP 1 rs)), rs.drop 1)

def rdOp (rs : List UInt8) : OpV × List UInt8 := rdParts (partsOf (rdHead rs).1.kind) (rdHead rs).1 (rdHead rs).2

/-- A number's lowest byte. -/
def byteI (x : Int) : UInt8 := UInt8.ofNat (x % 256).toNat
theorem byteI_toNat (x : Int) : ((byteI x).toNat : Int) = x % 256 := by
  unfold byteI
  rw [UInt8.toNat_ofNat']
  omega
def big2 (x : Int) : List UInt8 := [byteI (x / 256), byteI x]
def big3 (x : Int) : List UInt8 := [byteI (x / 65536), byteI (x / 256), byteI x]

/-- A part's bytes. -/
def wrPart (p : Part) (o : OpV) : List UInt8 :=
  match p with
  | .key => byteI o.key.size :: o.key.data.toList
  | .value => byteI o.val.length :: o.val
  | .ttl => big2 (wrap64 o.ttl)
  | .budgets => big2 o.count ++ big3 o.bytes
  | .aim => [byteI o.cursor]
  | .birth => big2 (wrap64 o.birth)

/-- An operation's bytes, before they are read again. -/
def wrRaw (code : Int) (o : OpV) : List UInt8 :=
  byteI (code + 16 * min o.ticks 15) :: ((if 15 ≤ o.ticks then [byteI (o.ticks - 15)] else []) ++ (partsOf o.kind).flatMap fun p => wrPart p o)

def eqO (a b : OpV) : Prop := a.kind = b.kind ∧ a.ticks = b.ticks ∧ a.key = b.key ∧ a.val = b.val ∧ a.ttl = b.ttl ∧ a.count = b.count ∧ a.bytes = b.bytes ∧ a.cursor = b.cursor ∧ a.birth = b.birth
instance (a b : OpV) : Decidable (eqO a b) := inferInstanceAs (Decidable (_ ∧ _))
theorem eqO_iff (a b : OpV) : eqO a b ↔ a = b := by
  obtain ⟨a1, a2, a3, a4, a5, a6, a7, a8, a9⟩ := a
  obtain ⟨b1, b2, b3, b4, b5, b6, b7, b8, b9⟩ := b
  simp [eqO]

/-- The place of a kind, or -1. -/
def codeI (k : Int) : Int := Lib.idxOf kindL k

/-- An operation's bytes, if it can be written. -/
def wrOp (o : OpV) : Option (List UInt8) :=
  if codeI o.kind < 0 ∨ 270 < o.ticks ∨ 31 < o.key.size ∨ 255 < o.val.length then none
  else if eqO (rdOp (wrRaw (codeI o.kind) o)).1 o then some (wrRaw (codeI o.kind) o) else none

/-- The cells of an operation whose value is a slice. -/
def opcs (o : OpV) (v : Value) : List Value := [.int .i64 o.kind, .int .u64 o.ticks, .string o.key, v, .int .u64 o.ttl, .int .i64 o.count, .int .i64 o.bytes, .int .i64 o.cursor, .int .u64 o.birth]
def opc (o : OpV) (v : Value) : Array Value := #[.int .i64 o.kind, .int .u64 o.ticks, .string o.key, v, .int .u64 o.ttl, .int .i64 o.count, .int .i64 o.bytes, .int .i64 o.cursor, .int .u64 o.birth]
def opv (o : OpV) (v : Value) : Value := .agg (opc o v)

/-- What is cut off a slice of bytes. -/
theorem Bts.from_ {w : World} {B U : Nat} {A : Option Addr} {n cap : Nat} {bs : List UInt8} (h : Bts w B U (.slice A n cap) bs) (m : Nat) (hm : m ≤ n) :
    Bts w B U (sliced A m n cap 1) (bs.drop m) := by
  obtain ⟨A', cap', e, hl, hc, hn, hr⟩ := h
  injection e with e1 e2 e3
  subst e1 e2 e3
  refine ⟨if cap = m then A else A.map (·.add (m * 1)), cap - m, ?_, by simp; omega, by omega, ?_, ?_⟩
  · simp only [sliced, List.length_drop]
  · intro h0
    split at h0
    · have := hn h0; simp; omega
    · have h1 : A = none := by simpa using h0
      have := hn h1; simp; omega
  · intro hp
    rw [List.length_drop] at hp
    obtain ⟨b, off, hA, hb, ht, hx⟩ := hr (by omega)
    rw [if_neg (by omega)]
    refine ⟨b, off + m, ?_, hb, ht, fun i hi => ?_⟩
    · rw [hA, Option.map_some, add_plain, Nat.mul_one]
    · rw [List.length_drop] at hi
      rw [Nat.add_assoc, hx (m + i) (by omega), List.getElem_drop]

/-- The same, cut at both ends. -/
theorem Bts.cut_ {w : World} {B U : Nat} {A : Option Addr} {n cap : Nat} {bs : List UInt8} (h : Bts w B U (.slice A n cap) bs) (l u : Nat) (hl : l ≤ u) (hu : u ≤ n) :
    Bts w B U (sliced A l u cap 1) ((bs.take u).drop l) := by
  have h1 : Bts w B U (.slice A u cap) (bs.take u) := by
    obtain ⟨A', cap', e, hl, hc, hn, hr⟩ := h
    injection e with e1 e2 e3
    subst e1 e2 e3
    refine ⟨A, cap, by simp [Nat.min_eq_left hu], by simp; omega, hc, fun h0 => by have := hn h0; simp; omega, fun hp => ?_⟩
    obtain ⟨b, off, hA, hb, ht, hx⟩ := hr (by simp at hp; omega)
    refine ⟨b, off, hA, hb, ht, fun i hi => ?_⟩
    simp at hi
    rw [hx i (by omega)]
    simp
  exact h1.from_ l hl

end Go.Proofs.YtffigmciclopdaaDoor
