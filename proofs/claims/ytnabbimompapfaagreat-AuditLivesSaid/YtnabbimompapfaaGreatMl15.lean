/- AudLE, AudLF -/
import Derived.Test.YtnabbimompapfaaGreatMl14
namespace Go.Proofs.YtnabbimompapfaaGreat
open Go Go.RowKit
theorem cfgB {W : World} {g : Nat} {c : CfgV} (h : Blk W g 24 #[.int .i64 c.count, .int .i64 c.bytes, .int .i64 c.prot, .int .u64 c.seed, .bool c.same]) : W.cell? ⟨g, 0, none⟩ = some (.int .i64 c.count) ∧ W.cell? ⟨g, 1, none⟩ = some (.int .i64 c.bytes) ∧ W.cell? ⟨g, 2, none⟩ = some (.int .i64 c.prot) ∧ W.cell? ⟨g, 3, none⟩ = some (.int .u64 c.seed) ∧ W.cell? ⟨g, 4, none⟩ = some (.bool c.same) :=
 ⟨h.cell 0 _ rfl, h.cell 1 _ rfl, h.cell 2 _ rfl, h.cell 3 _ rfl, h.cell 4 _ rfl⟩
set_option maxRecDepth 100000 in
set_option maxHeartbeats 4000000 in
theorem checks_walk (c : CfgV) (lv : Value) (qs : List RQ) (w : World) (h : RsIn w lv qs) : Calls Tryz.prog 3 #[cfgv c, lv] w fun e w' => e = .returned (.bool true) ∧ Below w.heap.size w w' := by
 obtain ⟨A, cap, rfl, hc, hm⟩ := h.cap
 have HR := zH h.rs
 have HQk := zH h.ok
 have HC0 : Hid (Blk (w.alloc (.cells #[.int .i64 c.count, .int .i64 c.bytes, .int .i64 c.prot, .int .u64 c.seed, .bool c.same] 24)) w.heap.size 24 #[.int .i64 c.count, .int .i64 c.bytes, .int .i64 c.prot, .int .u64 c.seed, .bool c.same]) := zH (Blk.new w _ _)
 have HB0 : Hid (Below w.heap.size w (w.alloc (.cells #[.int .i64 c.count, .int .i64 c.bytes, .int .i64 c.prot, .int .u64 c.seed, .bool c.same] 24))) := zH ((zL _ _).alloc (zN _) _)
 obtain ⟨X, hX⟩ : ∃ X, checkP c (qs.map RQ.r) = X := ⟨_, rfl⟩
 have HX := zH hX
 obtain ⟨X1, X2, X3⟩ := X
 unfold cfgv cfgc
 clear h hc hm hX
 go_enter Tryz.func3, Tryz.ntmps3
 go_upto_region 1 with fail
 generalize World.alloc _ _ = w1 at HC0 HB0 ⊢
 go_wp2_with fail
 refine (small_any w.heap.size _ qs w1 (HR.out.below HB0.out)).mono ?_
 rintro e w2 ⟨b, rfl, hb1, hb⟩
 have HBs := zH hb1
 have HB2 := zH (HB0.out.trans (hb.mono HB0.out.size))
 have HC2 := zH (HC0.out.below hb)
 clear hb1 hb HC0 HB0
 cases b with
 |false =>
  go_wp2_with fail
  refine (known_any w2).mono ?_
  rintro e w3 ⟨rfl, hb⟩
  have HB3 := zH (HB2.out.trans (hb.mono HB2.out.size))
  clear hb
  go_wp2_with fail
  go_ret
  exact ⟨rfl, HB3.out⟩
 |true =>
  obtain ⟨x0, x1, x2, x3, x4⟩ := cfgB HC2.out
  go_wp2_with fail
  refine (auditCheck_any w.heap.size c _ qs w2 (HR.out.below HB2.out) HQk.out HB2.out.size (by have := HBs.out (by trivial); omega)).mono ?_
  rintro e w3 ⟨he, hb⟩
  rw [HX.out] at he
  dsimp only at he
  subst he
  have HB3 := zH (HB2.out.trans (hb.mono HB2.out.size))
  have HC3 := zH (HC2.out.below hb)
  clear hb x0 x1 x2 x3 x4 HC2
  obtain ⟨x0, x1, x2, x3, x4⟩ := cfgB HC3.out
  go_wp2_with fail
  refine (kCheck_any w.heap.size c _ qs w3 (HR.out.below HB3.out) HB3.out.size (by have := HBs.out (by trivial); omega)).mono ?_
  rintro e w4 ⟨he, hb⟩
  rw [HX.out] at he
  dsimp only at he
  subst he
  have HB4 := zH (HB3.out.trans (hb.mono HB3.out.size))
  clear hb x0 x1 x2 x3 x4 HC3
  go_wp2_with fail
  refine (known_any w4).mono ?_
  rintro e w5 ⟨rfl, hb⟩
  have HB5 := zH (HB4.out.trans (hb.mono HB4.out.size))
  clear hb
  go_wp2_with fail
  go_ret
  exact ⟨rfl, HB5.out⟩
end Go.Proofs.YtnabbimompapfaaGreat
namespace Go.Proofs.YtnabbimompapfaaGreat
open Go Go.RowKit
def VN (w : World) (B : Nat) (v : Value) (n : Nat) : Prop :=
 ∃ A cap, v = .slice A n cap ∧ n ≤ cap ∧ cap ≤ maxLen ∧ (A = none → n = 0) ∧
  ∀ a, A = some a → ∃ b cs, a = ⟨b, 0, none⟩ ∧ B ≤ b ∧ Blk w b 5 cs ∧ ∀ i, i < n → ∃ z, cs[i]? = some (.int .u8 z)
theorem VN.of {w : World} {B B' : Nat} {v : Value} {bs : List UInt8} (h : Bts w B' 5 v bs) (h2 : OwnV w B v) : VN w B v bs.length := by
 obtain ⟨A, cap, rfl, h1, h3, h4, h5⟩ := h
 refine ⟨A, cap, rfl, h1, h3, h4, fun a ha => ?_⟩
 subst ha
 obtain ⟨g, cs, e, hg, hb⟩ := h2 _ _ _ rfl
 subst e
 refine ⟨g, cs, rfl, hg, hb, fun i hi => ?_⟩
 obtain ⟨b, off, e, _, _, hc⟩ := h5 (by omega)
 injection e with e
 injection e with e1 e2
 subst e1 e2
 have := hc i hi
 unfold Blk at hb
 simp only [World.cell?, hb, Nat.zero_add] at this
 exact ⟨_, this⟩
theorem VN.put {w : World} {B : Nat} {v : Value} {n : Nat} (h : VN w B v n) (b i : Nat) (z : Int) : VN (w.setCell ⟨b, i, none⟩ (.int .u8 z)) B v n := by
 obtain ⟨A, cap, rfl, h1, h3, h4, h5⟩ := h
 refine ⟨A, cap, rfl, h1, h3, h4, fun a ha => ?_⟩
 obtain ⟨g, cs, e, hg, hb, hc⟩ := h5 a ha
 by_cases hgb : g = b
 ·subst hgb
  refine ⟨g, _, e, hg, hb.set_ i _, fun j hj => ?_⟩
  obtain ⟨y, hy⟩ := hc j hj
  by_cases hij : i = j
  ·subst hij
   have := (Array.getElem?_eq_some_iff.1 hy).1
   exact ⟨z, by rw [Array.getElem?_setIfInBounds_self_of_lt this]⟩
  ·exact ⟨y, by rw [Array.getElem?_setIfInBounds_ne hij]; exact hy⟩
 ·exact ⟨g, cs, e, hg, hb.far hgb _, hc⟩
structure LvI (w W : World) (base : Nat) (v : Value) (ps : List (EntV × Value)) : Prop where
 row : W.ownsRow base 40 4 v ps.length (ecs ps)
 vals : ∀ p ∈ ps, VN W w.heap.size p.2 p.1.val.length
 below : Below w.heap.size w W
theorem LvI.put {w W : World} {base : Nat} {v : Value} {ps : List (EntV × Value)} (h : LvI w W base v ps) {b i : Nat} (z : Int) {cs : Array Value} (hb : Blk W b 5 cs) (hg : w.heap.size ≤ b) : LvI w (W.setCell ⟨b, i, none⟩ (.int .u8 z)) base v ps := by
 refine ⟨ownsRow_only h.row (Only.set1 W b i _) (fun k hk e => ?_), fun p hp => (h.vals p hp).put _ _ _, h.below.setCell (p := ⟨b, i, none⟩) hg _⟩
 subst e
 obtain ⟨_, cur, e⟩ := row_heap' h.row hk
 exact hb.ne_ e (by decide) rfl
theorem LvI.entry {w W : World} {base n c : Nat} {A : Option Addr} {ps : List (EntV × Value)} (h : LvI w W base (.slice A n c) ps) {i : Nat} {p : EntV × Value} (hp : ps[i]? = some p) : ∃ g, A = some ⟨g, 0, none⟩ ∧ W.cell? ⟨g, i * 4 + 1, none⟩ = some p.2 := by
 have hl := (List.getElem?_eq_some_iff.1 hp).1
 rcases h.row.2 with ⟨_, h0⟩ | ⟨g, cap, cur, e, _⟩
 ·omega
 ·injection e with e
  subst e
  have := h.row.cells (g := g) rfl (i * 4 + 1) _ ((ecs_at ps i 1 p hp (by omega)).trans rfl)
  rw [add_plain, Nat.zero_add] at this
  exact ⟨g, rfl, this⟩
theorem LvI.at_ {w W : World} {base : Nat} {v V : Value} {ps : List (EntV × Value)} (h : LvI w W base v ps) {i n c : Nat} {p : EntV × Value} {A : Option Addr} (hp : ps[i]? = some p) (hV : p.2 = .slice A n c) : n = p.1.val.length ∧ n ≤ c ∧ c ≤ maxLen ∧ ∀ m, m < n → ∃ b z cs, A = some ⟨b, 0, none⟩ ∧ W.cell? ⟨b, m, none⟩ = some (.int .u8 z) ∧ W.frozen? ⟨b, m, none⟩ = false ∧ Blk W b 5 cs ∧ w.heap.size ≤ b := by
 obtain ⟨A', c', e, h1, h2, h3, h4⟩ := h.vals p (List.mem_of_getElem? hp)
 rw [hV] at e
 injection e with e1 e2 e3
 subst e1 e2 e3
 refine ⟨rfl, h1, h2, fun m hm => ?_⟩
 cases A with
 |none => have := h3 rfl; omega
 |some a =>
  obtain ⟨b, cs, e, hb, hB, hc⟩ := h4 a rfl
  subst e
  obtain ⟨z, hz⟩ := hc m hm
  exact ⟨b, z, cs, rfl, hB.cell m _ hz, hB.frozen m, hB, hb⟩
theorem jall_len : ∀ (l : List ResV) (s : PJ) (i n : Nat), PInv n s → (∀ r ∈ l, 0 ≤ r.op.ticks ∧ 0 ≤ r.op.ttl) → (jall l s i).2.L.length ≤ n + l.length
 |[], s, i, n, h, _ => by rw [jall]; exact h.lenL
 |r :: l, s, i, n, h, hl => by
  rw [jall_cons]
  have h0 := hl r (List.mem_cons_self ..)
  cases hr : jstep s r with
  |error x => dsimp only; have := h.lenL; omega
  |ok s2 =>
   have := jall_len l s2 (i + 1) (n + 1) (jstep_inv h h0.1 h0.2 hr) (fun r hr => hl r (List.mem_cons_of_mem _ hr))
   dsimp only
   rw [List.length_cons]; omega
theorem liveP_len (c : CfgV) (l : List ResV) (hl : ∀ r ∈ l, 0 ≤ r.op.ticks ∧ 0 ≤ r.op.ttl) : (liveP c l).1.length ≤ l.length := by
 unfold liveP
 split
 ·exact Nat.zero_le _
 ·split
  ·exact Nat.zero_le _
  ·have := jall_len l (start c) 0 0 (start_inv c) hl; dsimp only; omega
set_option maxRecDepth 100000 in
set_option maxHeartbeats 8000000 in
theorem lives_walk (c : CfgV) (lv : Value) (qs : List RQ) (w : World) (h : RsIn w lv qs) : Calls Tryz.prog 4 #[cfgv c, lv] w fun e w' => e = .returned (.bool true) ∧ Below w.heap.size w w' := by
 obtain ⟨A, cap, rfl, hc, hm⟩ := h.cap
 have HR := zH h.rs
 have HQk := zH h.ok
 have HC0 : Hid (Blk (w.alloc (.cells #[.int .i64 c.count, .int .i64 c.bytes, .int .i64 c.prot, .int .u64 c.seed, .bool c.same] 24)) w.heap.size 24 #[.int .i64 c.count, .int .i64 c.bytes, .int .i64 c.prot, .int .u64 c.seed, .bool c.same]) := zH (Blk.new w _ _)
 have HB0 : Hid (Below w.heap.size w (w.alloc (.cells #[.int .i64 c.count, .int .i64 c.bytes, .int .i64 c.prot, .int .u64 c.seed, .bool c.same] 24))) := zH ((zL _ _).alloc (zN _) _)
 have hlen := liveP_len c (qs.map RQ.r) (fun r hr => by
  obtain ⟨q, hq, rfl⟩ := List.mem_map.1 hr
  exact ⟨(h.rs.2 q hq).2.ticks, (h.rs.2 q hq).2.ttl⟩)
 rw [List.length_map] at hlen
 obtain ⟨X, hX⟩ : ∃ X, liveP c (qs.map RQ.r) = X := ⟨_, rfl⟩
 rw [hX] at hlen
 have HLn := zH hlen
 have HX := zH hX
 obtain ⟨X1, X2⟩ := X
 unfold cfgv cfgc
 clear h hc hm hX hlen
 go_enter Tryz.func4, Tryz.ntmps4
 go_upto_region 1 with fail
 generalize World.alloc _ _ = w1 at HC0 HB0 ⊢
 go_wp2_with fail
 refine (small_any w.heap.size _ qs w1 (HR.out.below HB0.out)).mono ?_
 rintro e w2 ⟨b, rfl, hb1, hb⟩
 have HBs := zH hb1
 have HB2 := zH (HB0.out.trans (hb.mono HB0.out.size))
 have HC2 := zH (HC0.out.below hb)
 clear hb1 hb HC0 HB0
 cases b with
 |false =>
  go_wp2_with fail
  refine (known_any w2).mono ?_
  rintro e w3 ⟨rfl, hb⟩
  have HB3 := zH (HB2.out.trans (hb.mono HB2.out.size))
  clear hb
  go_wp2_with fail
  go_ret
  exact ⟨rfl, HB3.out⟩
 |true =>
  have HN : Hid (qs.length ≤ 60) := zH (HBs.out (by trivial))
  go_wp2_with fail
  go_loopw [5] (fun t wr => ∃ k : Nat, k ≤ 2 ∧ t = .int .i64 k ∧ Below w2.heap.size w2 wr) (fun t _ => 2 - (intOf t).toNat)
  case atStart => exact ⟨0, Nat.zero_le _, rfl, zL _ _⟩
  case round =>
   obtain ⟨k, hk, rfl, hb⟩ := hrel
   have HBr := zH hb
   have HBw : Hid (Below w.heap.size w wr) := zH (HB2.out.trans (hb.mono HB2.out.size))
   have HCr := zH (HC2.out.below hb)
   clear hb
   by_cases hk2 : k < 2
   ·obtain ⟨x0, x1, x2, x3, x4⟩ := cfgB HCr.out
    have hkI : (k : Int) < 2 := by omega
    obtain ⟨W0, hW0⟩ : ∃ W0, W0 = wr := ⟨_, rfl⟩
    subst hW0
    go_wp2_with fail
    refine (live_any w.heap.size c _ qs W0 (HR.out.below HBw.out) HQk.out HBw.out.size (by have := HN.out; omega)).mono ?_
    rintro e w3 ⟨v, ps, base, he, hbase, hown, hvals, hmap, hb3⟩
    rw [HX.out] at he hmap
    dsimp only at he hmap
    subst he
    have HO3 := zH hown
    have HV3 := zH hvals
    have HM3 := zH hmap
    have HB3 := zH hb3
    have HC3 := zH (HCr.out.below hb3)
    have HW3 := zH (HBw.out.trans (hb3.mono HBw.out.size))
    obtain ⟨A3, c3, rfl, hc3, hm3⟩ := own_form hown
    have hpsI : (ps.length : Int) ≤ 9223372036854775807 := by unfold maxLen at hm3; omega
    clear hown hvals hmap hb3 x0 x1 x2 x3 x4
    obtain ⟨x0, x1, x2, x3, x4⟩ := cfgB HC3.out
    go_wp2_with fail
    refine (kLive_any w.heap.size c _ qs w3 (HR.out.below HW3.out) HW3.out.size (by have := HN.out; omega)).mono ?_
    rintro e w4 ⟨v4, ps4, he, hents, hmap4, hb4⟩
    rw [HX.out] at he hmap4
    dsimp only at he hmap4
    subst he
    obtain ⟨A4, c4, rfl, hc4, hm4⟩ := hents.cap
    have HB4 := zH (HB3.out.trans (hb4.mono HB3.out.size))
    have HE4 := zH hents
    have HM4 := zH hmap4
    have HO4 := zH (own_later' HO3.out hb4)
    have HV4 : Hid (∀ p ∈ ps, Bts w4 w4.heap.size 5 p.2 p.1.val ∧ OwnV w4 W0.heap.size p.2) := zH (fun p hp => ⟨((HV3.out p hp).1.below hb4).up2 hb4.size, (HV3.out p hp).2.keep (B' := 0) (KeepB.of_below hb4)⟩)
    clear hents hmap4 hb4 x0 x1 x2 x3 x4
    go_wp2_with fail
    refine (kSameE_any w4.heap.size w4.heap.size _ _ ps ps4 w4 (EntsAt.of_own HO4.out (zN _) fun p hp => (HV4.out p hp).1) HE4.out (by
     have h1 := HLn.out; have h2 := HN.out
     rw [← HM3.out, List.length_map] at h1; omega)).mono ?_
    rintro e w5 ⟨he, hb5⟩
    rw [HM3.out, HM4.out, decide_eq_true rfl] at he
    subst he
    have HL5 : Hid (LvI W0 w5 base (.slice A3 ps.length c3) ps) := zH ⟨own_later' HO4.out hb5, fun p hp => VN.of ((HV4.out p hp).1.below hb5) ((HV4.out p hp).2.keep (B' := 0) (KeepB.of_below hb5)), HB4.out.trans (hb5.mono HB4.out.size)⟩
    clear hb5 HO3 HO4 HV3 HV4 HE4 HM4
    go_wp2_with fail
    go_loopw [10] (fun i wr => ∃ m : Nat, m ≤ ps.length ∧ i = .int .i64 m ∧ LvI W0 wr base (.slice A3 ps.length c3) ps) (fun i _ => ps.length - (intOf i).toNat)
    case atStart => exact ⟨0, Nat.zero_le _, rfl, HL5.out⟩
    case round =>
     obtain ⟨m, hm, rfl, hl⟩ := hrel
     have HLr := zH hl
     clear hl HL5
     obtain ⟨W6, hW6⟩ : ∃ W6, W6 = wr := ⟨_, rfl⟩
     subst hW6
     by_cases hml : m < ps.length
     ·have hmI : (m : Int) < (ps.length : Int) := by omega
      obtain ⟨p, hp⟩ : ∃ p, ps[m]? = some p := ⟨_, List.getElem?_eq_getElem hml⟩
      have HP := zH hp
      clear hp
      go_wp2_with fail
      go_loopw [11] (fun i wr => ∃ m : Nat, m ≤ p.1.val.length ∧ i = .int .i64 m ∧ LvI W0 wr base (.slice A3 ps.length c3) ps) (fun i _ => p.1.val.length - (intOf i).toNat)
      case atStart => exact ⟨0, Nat.zero_le _, rfl, HLr.out⟩
      case round =>
       obtain ⟨i, hi, rfl, hl⟩ := hrel
       have HLs := zH hl
       obtain ⟨g, rfl, hg⟩ := hl.entry HP.out
       obtain ⟨VA, vn, vc, hV⟩ : ∃ VA vn vc, p.2 = .slice VA vn vc := by
        obtain ⟨A, cap, e, _⟩ := hl.vals p (List.mem_of_getElem? HP.out)
        exact ⟨_, _, _, e⟩
       obtain ⟨e1, h1, h2, h3⟩ := hl.at_ (V := .bool true) HP.out hV
       rw [hV] at hg
       subst e1
       have hcI : (p.1.val.length : Int) ≤ (vc : Int) := by omega
       have hcJ : (p.1.val.length : Int) ≤ 9223372036854775807 := by unfold maxLen at h2; omega
       clear hl hV h2
       by_cases hil : i < p.1.val.length
       ·obtain ⟨b, z, cs, rfl, hz, hf, hblk, hbg⟩ := h3 i hil
        have hiI : (i : Int) < (p.1.val.length : Int) := by omega
        have HBk := zH hblk
        have HBg := zH hbg
        clear h3 hblk hbg
        go_wp2_with fail
        go_roundw
        case rel => exact ⟨i + 1, by omega, by go_num, HLs.out.put _ HBk.out HBg.out⟩
        case measure => simp [intOf]; omega
       ·obtain rfl : i = p.1.val.length := by omega
        clear h3
        go_wp2_with fail
        go_roundw
        case rel => exact ⟨m + 1, by omega, by go_num, HLs.out⟩
        case measure => simp [intOf]; omega
     ·obtain rfl : m = ps.length := by omega
      go_wp2_with fail
      go_roundw
      case rel => exact ⟨k + 1, by omega, by go_num, HBr.out.trans (HLr.out.below.mono HBr.out.size)⟩
      case measure => simp [intOf]; omega
   ·obtain rfl : k = 2 := by omega
    go_wp2_with fail
    refine (known_any wr).mono ?_
    rintro e w3 ⟨rfl, hb⟩
    have HB3 := zH (HBw.out.trans (hb.mono HBw.out.size))
    clear hb
    go_wp2_with fail
    go_ret
    exact ⟨rfl, HB3.out⟩
end Go.Proofs.YtnabbimompapfaaGreat
