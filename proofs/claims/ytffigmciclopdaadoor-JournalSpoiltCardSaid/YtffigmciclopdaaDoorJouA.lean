/- Layer 45: the sum over bytes; slices put one behind the other. -/
import Derived.Test.YtffigmciclopdaaDoorScrJ
import Derived.Lib.AppendZerosOnto
namespace Go.Proofs.YtffigmciclopdaaDoor
open Go Go.RowKit

/-- The sum after one byte more. -/
def fold1 (s : Nat) (b : UInt8) : Nat := (33 * s % 4294967296) ^^^ b.toNat
def foldB (s : Nat) (bs : List UInt8) : Nat := bs.foldl fold1 s
theorem fold1_lt (s : Nat) (b : UInt8) : fold1 s b < 4294967296 := by
  have := b.toNat_lt
  exact Nat.xor_lt_two_pow (n := 32) (Nat.mod_lt _ (by omega)) (by omega)
theorem foldB_lt : ∀ (bs : List UInt8) (s : Nat), s < 4294967296 → foldB s bs < 4294967296
  | [], s, h => h
  | b :: bs, s, _ => foldB_lt bs (fold1 s b) (fold1_lt s b)
theorem foldB_append (s : Nat) (a b : List UInt8) : foldB s (a ++ b) = foldB (foldB s a) b := by simp [foldB, List.foldl_append]
theorem foldB_snoc (s : Nat) (a : List UInt8) (b : UInt8) : foldB s (a ++ [b]) = fold1 (foldB s a) b := by rw [foldB_append]; rfl
/-- As the program reckons it. -/
theorem fold1_run (s : Nat) (b : UInt8) : bits .xor .u32 (33 * (s : Int) % 4294967296) (b.toNat : Int) = (fold1 s b : Int) := by
  have e : (33 * (s : Int) % 4294967296) = ((33 * s % 4294967296 : Nat) : Int) := by omega
  have := b.toNat_lt
  rw [e, u32_xor_nat _ _ (Nat.mod_lt _ (by omega)) (by omega)]
  rfl

/-- The cell of a byte. -/
theorem Bts.cellAt {w : World} {B U : Nat} {A : Option Addr} {n cap : Nat} {bs : List UInt8} (h : Bts w B U (.slice A n cap) bs) {i : Nat} {x : UInt8} (hi : bs[i]? = some x) : ∃ b off, A = some ⟨b, off, none⟩ ∧ w.cell? ⟨b, off + i, none⟩ = some (.int .u8 (x.toNat : Int)) := by
  obtain ⟨A', cap', e, _, _, _, hr⟩ := h
  injection e with e1 e2 e3
  subst e1
  obtain ⟨hl, he⟩ := List.getElem?_eq_some_iff.1 hi
  obtain ⟨b, off, hA, _, _, hc⟩ := hr (by omega)
  refine ⟨b, off, hA, ?_⟩
  rw [hc i hl, he]

/-- A row of slices of bytes. -/
structure BssAt (w : World) (B g : Nat) (ps : List (Value × List UInt8)) : Prop where
  blk : Blk w g 22 (ps.map Prod.fst).toArray
  vals : ∀ p ∈ ps, Bts w B 5 p.1 p.2
theorem BssAt.below {w w' : World} {B g : Nat} {ps : List (Value × List UInt8)} (h : BssAt w B g ps) (hb : Below w.heap.size w w') : BssAt w' B g ps := ⟨h.blk.below hb, fun p hp => (h.vals p hp).below hb⟩
theorem BssAt.cell {w : World} {B g : Nat} {ps : List (Value × List UInt8)} (h : BssAt w B g ps) {i : Nat} {p : Value × List UInt8} (hi : ps[i]? = some p) : w.cell? ⟨g, i, none⟩ = some p.1 ∧ Bts w B 5 p.1 p.2 :=
  ⟨h.blk.cell i p.1 (by simp [hi]), h.vals p (List.mem_of_getElem? hi)⟩

set_option maxHeartbeats 2000000 in
theorem fold_any (B g : Nat) (s : Nat) (ps : List (Value × List UInt8)) (w : World) (h : BssAt w B g ps) (hs : s < 4294967296) (hl : ps.length ≤ 1000000) (hb : ∀ p ∈ ps, p.2.length ≤ 1000000000) :
    Calls Tryd.prog 39 #[.int .u32 s, .slice (some ⟨g, 0, none⟩) ps.length ps.length] w fun e w' => e = .returned (.int .u32 (foldB s (ps.flatMap Prod.snd))) ∧ w = w' := by
  have hlI : (ps.length : Int) ≤ 1000000 := by omega
  have H := Lib.hid h
  have HB := Lib.hid hb
  have HS := Lib.hid hs
  clear h hb hl hs
  go_enter Tryd.func39, Tryd.ntmps39
  go_wp2_with fail
  go_loopw [0, 6, 11] (fun x _ i wr => ∃ m : Nat, m ≤ ps.length ∧ i = .int .i64 m ∧ x = .int .u32 (foldB s ((ps.take m).flatMap Prod.snd)) ∧ wr = w) (fun _ _ i _ => ps.length - (intOf i).toNat)
  case atStart => exact ⟨0, by omega, rfl, rfl, rfl⟩
  case round =>
    obtain ⟨m, hm, rfl, rfl, rfl⟩ := hrel
    by_cases hml : m < ps.length
    · obtain ⟨p, hp⟩ : ∃ p, ps[m]? = some p := ⟨_, List.getElem?_eq_getElem hml⟩
      obtain ⟨c0, hv⟩ := H.out.cell hp
      have hbl := HB.out p (List.mem_of_getElem? hp)
      obtain ⟨pv, bs⟩ := p
      dsimp only at c0 hv hbl
      obtain ⟨A, cap, rfl⟩ := hv.form
      have hbI : (bs.length : Int) ≤ 1000000000 := by omega
      have hmI : (m : Int) < (ps.length : Int) := by omega
      have ht : ps.take (m + 1) = ps.take m ++ [(.slice A bs.length cap, bs)] := by rw [List.take_add_one, hp]; rfl
      have HT := Lib.hid ht
      have HV := Lib.hid hv
      obtain ⟨s1, hs1⟩ : ∃ s1, foldB s ((ps.take m).flatMap Prod.snd) = s1 := ⟨_, rfl⟩
      have hs1l : s1 < 4294967296 := hs1 ▸ foldB_lt _ _ HS.out
      have HS1 := Lib.hid hs1
      have HS1l := Lib.hid hs1l
      rw [hs1]
      clear hp hv ht hbl hs1 hs1l
      go_wp2_with fail
      go_loopw [0, 8, 17] (fun x _ j wr2 => ∃ k : Nat, k ≤ bs.length ∧ j = .int .i64 k ∧ x = .int .u32 (foldB s1 (bs.take k)) ∧ wr2 = wr) (fun _ _ j _ => bs.length - (intOf j).toNat)
      case atStart => exact ⟨0, by omega, rfl, rfl, rfl⟩
      case round =>
        obtain ⟨k, hk, rfl, rfl, rfl⟩ := hrel
        by_cases hkl : k < bs.length
        · obtain ⟨x, hx⟩ : ∃ x, bs[k]? = some x := ⟨_, List.getElem?_eq_getElem hkl⟩
          obtain ⟨b, off, rfl, c1⟩ := HV.out.cellAt hx
          have hkI : (k : Int) < (bs.length : Int) := by omega
          have ht2 : bs.take (k + 1) = bs.take k ++ [x] := by rw [List.take_add_one, hx]; rfl
          have hf := fold1_run (foldB s1 (bs.take k)) x
          have HF := Lib.hid (hf.trans (by rw [ht2, foldB_snoc] : _ = ((foldB s1 (bs.take (k + 1)) : Nat) : Int)))
          clear hx ht2 hf
          have hx2 : ((x.toNat : Int) % 4294967296) = (x.toNat : Int) := by have := x.toNat_lt; omega
          have HX2 := Lib.hid hx2
          clear hx2
          go_wp2_with fail
          go_roundw
          case rel => exact ⟨k + 1, by omega, by go_num, by rw [HX2.out, HF.out], trivial⟩
          case measure => simp [intOf]; omega
        · obtain rfl : k = bs.length := by omega
          have hq : foldB s1 (bs.take bs.length) = foldB s ((ps.take (m + 1)).flatMap Prod.snd) := by
            rw [HT.out, List.take_length, List.flatMap_append, foldB_append, HS1.out]; simp
          have HQ := Lib.hid hq
          clear hq
          go_wp2_with fail
          go_roundw
          case rel => exact ⟨m + 1, by omega, by go_num, by rw [HQ.out], trivial⟩
          case measure => simp [intOf]; omega
    · obtain rfl : m = ps.length := by omega
      go_wp2_with fail
      go_ret
      exact ⟨by rw [show (ps.take ps.length) = ps from List.take_length]; rfl, rfl⟩

end Go.Proofs.YtffigmciclopdaaDoor
