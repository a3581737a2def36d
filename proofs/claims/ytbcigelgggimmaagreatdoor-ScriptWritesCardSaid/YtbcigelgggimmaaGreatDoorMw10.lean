/- RfC -/
import Derived.Test.YtbcigelgggimmaaGreatDoorMw9
import Derived.Deep.Cut
namespace Go.Proofs.YtbcigelgggimmaaGreatDoor
open Go Go.RowKit
def FirstRet (B : Nat) (bs : List UInt8) (w : World) (e : Ending) (w' : World) : Prop :=
  ∃ A c, e = .returned (.tuple #[opv (firstP bs).1 (.slice A (firstP bs).1.val.length c), .int .i64 (firstP bs).2]) ∧ Bts w' B 5 (.slice A (firstP bs).1.val.length c) (firstP bs).1.val ∧ Below w.heap.size w w'
set_option maxRecDepth 100000 in
set_option maxHeartbeats 8000000 in
theorem first_any (B : Nat) (V0 : Value) (bs : List UInt8) (w : World) (hv : Bts w B 5 V0 bs) (hB : B ≤ w.heap.size) (_hl : bs.length ≤ 5000) :
    Calls Tryz.prog 48 #[V0] w (FirstRet B bs w) := by
  obtain ⟨A0, cap0, rfl⟩ := hv.form
  have HV := Lib.hid (fun W (hb : Below w.heap.size w W) => hv.below hb)
  have HBw := Lib.hid hB
  obtain ⟨nb, hnb⟩ : ∃ nb, bs.length = nb := ⟨_, rfl⟩
  rw [hnb] at HV ⊢
  clear hv hnb hB _hl
  go_enter Tryz.func48, Tryz.ntmps48
  go_wp2_with fail
  refine (at_any B _ bs 0 _ (HV.out _ ((Below.refl _ _).alloc (Nat.le_refl _) _)) (by omega)).mono ?_
  rintro e w1 ⟨rfl, rfl⟩
  obtain ⟨x, hx⟩ : ∃ x, (atP bs 0).toNat = x := ⟨_, rfl⟩
  have hx256 : x < 256 := hx ▸ (atP bs 0).toNat_lt
  have HX := Lib.hid hx
  rw [hx]
  clear hx
  have hxI : (x : Int) < 256 := by omega
  have r1 : IntKind.i64.wrap (x : Int) = (x : Int) := by rw [IntKind.wrap_i64]; omega
  go_wp2_with fail
  refine (kinds_any _).mono ?_
  rintro e w2 ⟨rfl, rfl⟩
  obtain ⟨kk, hkk⟩ : ∃ kk, kindL.getD (x % 16) 0 = kk := ⟨_, rfl⟩
  have HKK := Lib.hid hkk
  generalize hWk : World.alloc (World.alloc w _) _ = Wk
  have hc : Wk.cell? ⟨w.heap.size + 1, x % 16, none⟩ = some (.int .i64 kk) := by
    have h2 := Blk.new2 w (.cells #[.int .i64 0, .int .u64 0, .string ⟨#[]⟩, .slice none 0 0, .int .u64 0, .int .i64 0, .int .i64 0, .int .i64 0, .int .u64 0] 41) 37 kindCells
    rw [hWk] at h2
    refine h2.cell _ _ ?_
    rw [← hkk]
    have hy : x % 16 < 16 := Nat.mod_lt _ (by decide)
    generalize x % 16 = y at hy ⊢
    rcases (by omega : y = 0 ∨ y = 1 ∨ y = 2 ∨ y = 3 ∨ y = 4 ∨ y = 5 ∨ y = 6 ∨ y = 7 ∨ y = 8 ∨ y = 9 ∨ y = 10 ∨ y = 11 ∨ y = 12 ∨ y = 13 ∨ y = 14 ∨ y = 15) with rfl | rfl | rfl | rfl | rfl | rfl | rfl | rfl | rfl | rfl | rfl | rfl | rfl | rfl | rfl | rfl <;> rfl
  have hbk : Below w.heap.size w Wk := hWk ▸ ((Below.refl _ _).alloc (Nat.le_refl _) _).alloc (by simp) _
  have hrk : Blk Wk w.heap.size 41 (opc ⟨0, 0, ⟨#[]⟩, [], 0, 0, 0, 0, 0⟩ (.slice none 0 0)) := hWk ▸ (Blk.new _ _ _).alloc _
  have hgk : w.heap.size < Wk.heap.size := hrk.lt
  have hkm : kk ∈ kindL := hkk ▸ kind_of x
  clear hWk hkk
  have r2 : IntKind.u64.wrap ((x : Int) / 16) = (x : Int) / 16 := by rw [IntKind.wrap_u64]; omega
  have hFI0 : FI w (Wk.alloc (.cells #[.int .i64 kk, .int .u64 ((x : Int) / 16), .string ⟨#[]⟩, .slice none 0 0, .int .u64 0, .int .i64 0, .int .i64 0, .int .i64 0, .int .u64 0] 41)) B Wk.heap.size (.slice A0 nb cap0) bs kk (op0 x, 1) none 0 := by
    have hb1 : Below w.heap.size w (Wk.alloc (.cells #[.int .i64 kk, .int .u64 ((x : Int) / 16), .string ⟨#[]⟩, .slice none 0 0, .int .u64 0, .int .i64 0, .int .i64 0, .int .i64 0, .int .u64 0] 41)) := hbk.alloc hbk.size _
    refine ⟨HV.out _ hb1, hrk.alloc _, ?_, Bts.nil _ _ _, HKK.out, hb1, by omega, hgk⟩
    have := Blk.new Wk 41 #[.int .i64 kk, .int .u64 ((x : Int) / 16), .string ⟨#[]⟩, .slice none 0 0, .int .u64 0, .int .i64 0, .int .i64 0, .int .i64 0, .int .u64 0]
    unfold op0 opc
    dsimp only
    rw [HKK.out]
    exact this
  have HF0 := Lib.hid hFI0
  have HKm := Lib.hid hkm
  have HGk := Lib.hid hgk
  clear hFI0 hbk hrk hkm hgk
  by_cases h15 : x / 16 = 15
  · have e15 : ((x : Int) / 16 == 15) = true := by simp; omega
    go_wp2_with fail
    refine (at_any B _ bs 1 _ HF0.out.src (by omega)).mono ?_
    rintro e w3 ⟨rfl, rfl⟩
    generalize World.alloc _ _ = Wz at HF0 ⊢
    obtain ⟨y, hy⟩ : ∃ y, (atP bs 1).toNat = y := ⟨_, rfl⟩
    have hy256 : y < 256 := hy ▸ (atP bs 1).toNat_lt
    have HY := Lib.hid hy
    rw [hy]
    clear hy
    have hyI : (y : Int) < 256 := by omega
    have r3 : IntKind.u64.wrap (y : Int) = (y : Int) := by rw [IntKind.wrap_u64]; omega
    have r4 : IntKind.u64.wrap (15 + (y : Int)) = 15 + (y : Int) := by rw [IntKind.wrap_u64]; omega
    obtain ⟨z0, z1, z2, z3, z4, z5, z6, z7, z8⟩ := op_cells HF0.out.op
    have f1 := HF0.out.op.frozen 1
    go_upto_region 6 with fail
    have hF1 := HF0.out.store HBw.out (q' := ({ op0 x with ticks := 15 + (y : Int) }, 2)) (j := 1) (v := .int .u64 (15 + (y : Int))) (A' := none) (c' := 0) (by simp [opc, op0]) (Bts.nil _ _ _) HF0.out.kind (by show (2 : Nat) ≤ 10000; omega)
    have hhd : fHead bs = ({ op0 x with ticks := 15 + (y : Int) }, 2) := by unfold fHead; rw [HX.out, if_pos h15, HY.out]
    generalize World.setCell _ _ _ = W at hF1 ⊢
    obtain ⟨o1, ho1⟩ : ∃ o1, { op0 x with ticks := 15 + (y : Int) } = o1 := ⟨_, rfl⟩
    have HOv : Hid (o1.val = []) := Lib.hid (ho1 ▸ rfl)
    rw [ho1] at hhd hF1
    have HH := Lib.hid hhd
    have hcl := classes kk HKm.out
    simp only [List.mem_cons, List.not_mem_nil, or_false, Prod.mk.injEq] at hcl
    clear hhd ho1 z0 z1 z2 z3 z4 z5 z6 z7 z8 f1 r3 r4 hyI HY hy256 hc
    rcases hcl with ⟨k1, k2, k3, k4, k5, k6⟩ | ⟨k1, k2, k3, k4, k5, k6⟩ | ⟨k1, k2, k3, k4, k5, k6⟩ | ⟨k1, k2, k3, k4, k5, k6⟩ | ⟨k1, k2, k3, k4, k5, k6⟩ | ⟨k1, k2, k3, k4, k5, k6⟩ | ⟨k1, k2, k3, k4, k5, k6⟩ | ⟨k1, k2, k3, k4, k5, k6⟩
    · have zk : W.cell? ⟨Wk.heap.size, 0, none⟩ = some (.int .i64 kk) := by rw [← hF1.kind]; exact (op_cells hF1.op).1
      go_wp2_with fail
      refine (keyed_any kk _).mono ?_
      rintro e w9 ⟨rfl, rfl⟩
      rw [k1]
      clear zk
      go_wp2_with fail
      refine (at_any B _ bs 2 _ hF1.src (by omega)).mono ?_
      rintro e w9 ⟨rfl, rfl⟩
      obtain ⟨n, hn⟩ : ∃ n, (atP bs 2).toNat = n := ⟨_, rfl⟩
      have hn256 : n < 256 := hn ▸ (atP bs 2).toNat_lt
      have HN := Lib.hid hn
      rw [hn]
      clear hn
      have hnI : (n : Int) < 256 := by omega
      have n1 : IntKind.i64.wrap (n : Int) = (n : Int) := by rw [IntKind.wrap_i64]; omega
      obtain ⟨m, hm⟩ : ∃ m, n % 32 = m := ⟨_, rfl⟩
      have hm32 : m < 32 := by omega
      have n2 : (n : Int) % 32 = (m : Int) := by omega
      have HM := Lib.hid hm
      clear hm
      have a1 : IntKind.i64.wrap ((2 : Int) + 1) = ((3 : Nat) : Int) := by rw [IntKind.wrap_i64]; omega
      have a2 : IntKind.i64.wrap (((3 : Nat) : Int) + (m : Int)) = ((3 + m : Nat) : Int) := by rw [IntKind.wrap_i64]; omega
      have HP := partR_any B _ bs (3) m _ hF1.src (by omega) (by omega)
      obtain ⟨l, hl⟩ : ∃ l, partP bs (3) m = l := ⟨_, rfl⟩
      have hlm : l.length = m := by rw [← hl, partP_length]
      rw [hl] at HP
      have HL := Lib.hid hl
      have HP := Lib.hid HP
      clear hl
      go_wp2_with fail
      refine HP.out.mono ?_
      rintro e w10 ⟨v, rfl, hown, hb⟩
      obtain ⟨A1, c1, rfl, _, _⟩ := own_form hown
      have cv := (Bts.of_own hown B).string (P := Tryz.prog) 39 9 Tryz.underlying39 Tryz.underlying5 Tryz.underlying9
      have HF2 := Lib.hid (hF1.adv hb)
      obtain ⟨z0, z1, z2, z3, z4, z5, z6, z7, z8⟩ := op_cells HF2.out.op
      have f2 := HF2.out.op.frozen 2
      rw [hlm] at cv
      clear z0 z1 z3 z4 z5 z6 z7 z8 hF1 HP hown hb
      go_upto_region 9 with fail
      obtain ⟨o2, ho2⟩ : ∃ o2, { o1 with key := ⟨l.toArray⟩ } = o2 := ⟨_, rfl⟩
      obtain ⟨i2, hi2⟩ : ∃ i2, 3 + m = i2 := ⟨_, rfl⟩
      have hF1 := HF2.out.store HBw.out (q' := (o2, i2)) (j := 2) (v := .string ⟨l.toArray⟩) (A' := none) (c' := 0) (by rw [← ho2]; simp [opc, HOv.out]) (by rw [← ho2]; exact (by rw [HOv.out]; exact Bts.nil _ _ _)) (by rw [← ho2]; exact HF2.out.kind) (by show i2 ≤ 10000; omega)
      have HK : Hid (fKey bs (o1, 2) = (o2, i2)) := Lib.hid (by unfold fKey; rw [if_pos (by rw [show (o1, (2 : Nat)).1.kind = kk from HF2.out.kind]; exact k1)]; dsimp only; rw [HN.out, HM.out, HL.out, ho2, hi2])
      have e2 : (3 + (m : Int)) = (i2 : Int) := by omega
      have hi2b : i2 ≤ 40 := by omega
      generalize World.setCell _ _ _ = W at hF1 ⊢
      simp only [e2]
      clear e2 HP
      clear HF2 z2 f2 cv n1 n2 a1 a2 HN HM HL hnI hn256 hm32 hlm ho2 hi2
      have zk : W.cell? ⟨Wk.heap.size, 0, none⟩ = some (.int .i64 kk) := by rw [← hF1.kind]; exact (op_cells hF1.op).1
      go_wp2_with fail
      refine (valued_any kk _).mono ?_
      rintro e w9 ⟨rfl, rfl⟩
      rw [k2]
      clear zk
      have HVl : Hid (fVal bs (o2, i2) = (o2, i2)) := Lib.hid (by unfold fVal; rw [if_neg (by rw [show (o2, (i2 : Nat)).1.kind = kk from hF1.kind]; simp [k2])])
      have zk : W.cell? ⟨Wk.heap.size, 0, none⟩ = some (.int .i64 kk) := by rw [← hF1.kind]; exact (op_cells hF1.op).1
      go_wp2_with fail
      refine (timed_any kk _).mono ?_
      rintro e w9 ⟨rfl, rfl⟩
      rw [k3]
      clear zk
      have HT : Hid (fTtl bs (o2, i2) = (o2, i2)) := Lib.hid (by unfold fTtl; rw [if_neg (by rw [show (o2, (i2 : Nat)).1.kind = kk from hF1.kind]; simp [k3])])
      have HU : Hid (fBud bs (o2, i2) = (o2, i2)) := Lib.hid (by unfold fBud; rw [if_neg (by rw [show (o2, (i2 : Nat)).1.kind = kk from hF1.kind]; (simpa using k4))])
      have zk : W.cell? ⟨Wk.heap.size, 0, none⟩ = some (.int .i64 kk) := by rw [← hF1.kind]; exact (op_cells hF1.op).1
      go_wp2_with fail
      refine (aimed_any kk _).mono ?_
      rintro e w9 ⟨rfl, rfl⟩
      rw [k5]
      clear zk
      have HA : Hid (fAim bs (o2, i2) = (o2, i2)) := Lib.hid (by unfold fAim; rw [if_neg (by rw [show (o2, (i2 : Nat)).1.kind = kk from hF1.kind]; simp [k5])])
      have HBi : Hid (fBirth bs (o2, i2) = (o2, i2)) := Lib.hid (by unfold fBirth; rw [if_neg (by rw [show (o2, (i2 : Nat)).1.kind = kk from hF1.kind]; (simpa using k6))])
      obtain ⟨z0, z1, z2, z3, z4, z5, z6, z7, z8⟩ := op_cells hF1.op
      rw [hF1.kind] at z0
      obtain ⟨y0, y1, y2, y3, y4, y5, y6, y7, y8⟩ := op_cells hF1.res
      have g0 := hF1.res.frozen 0
      have g1 := hF1.res.frozen 1
      have g2 := hF1.res.frozen 2
      have g3 := hF1.res.frozen 3
      have g4 := hF1.res.frozen 4
      have g5 := hF1.res.frozen 5
      have g6 := hF1.res.frozen 6
      have g7 := hF1.res.frozen 7
      have g8 := hF1.res.frozen 8
      have HFf := Lib.hid hF1
      clear hF1
      go_wp2_with fail
      generalize hW9 : World.setCell _ _ _ = W9
      have hW9' : set9 W w.heap.size o2 (.slice none (o2).val.length 0) = W9 := by unfold set9; rw [show (o2).kind = kk from HFf.out.kind]; exact hW9
      have hr9 : Blk W9 w.heap.size 41 (opc o2 (.slice none (o2).val.length 0)) := hW9' ▸ HFf.out.res.set9 _ _
      have ho9 : Only (fun k => k = w.heap.size) W W9 := hW9' ▸ Only.set9 _ _ _ _
      have hv9 : Bts W9 B 5 (.slice none (o2).val.length 0) (o2).val := HFf.out.val.keep (KeepB.of_blk HFf.out.res (by decide) HBw.out ho9)
      have hb9 : Below w.heap.size w W9 := HFf.out.below.trans (ho9.below (fun i hi _ e => by omega) HFf.out.below.size)
      clear hW9 hW9' ho9 y0 y1 y2 y3 y4 y5 y6 y7 y8 g0 g1 g2 g3 g4 g5 g6 g7 g8 z0 z1 z2 z3 z4 z5 z6 z7 z8
      obtain ⟨z0, z1, z2, z3, z4, z5, z6, z7, z8⟩ := op_cells hr9
      have hfin : firstP bs = (o2, i2) := by unfold firstP; rw [HH.out, HK.out, HVl.out, HT.out, HU.out, HA.out, HBi.out]
      refine bodyPost_ret (v := .tuple #[opv o2 (.slice none (o2).val.length 0), .int .i64 (i2 : Nat)]) ?_ rfl ?_
      · simp [results, Tryz.results48, go_sem, opv, opc, z0, z1, z2, z3, z4, z5, z6, z7, z8]
      unfold FirstRet
      rw [hfin]
      exact ⟨_, _, rfl, hv9, hb9⟩
    · have zk : W.cell? ⟨Wk.heap.size, 0, none⟩ = some (.int .i64 kk) := by rw [← hF1.kind]; exact (op_cells hF1.op).1
      go_wp2_with fail
      refine (keyed_any kk _).mono ?_
      rintro e w9 ⟨rfl, rfl⟩
      rw [k1]
      clear zk
      go_wp2_with fail
      refine (at_any B _ bs 2 _ hF1.src (by omega)).mono ?_
      rintro e w9 ⟨rfl, rfl⟩
      obtain ⟨n, hn⟩ : ∃ n, (atP bs 2).toNat = n := ⟨_, rfl⟩
      have hn256 : n < 256 := hn ▸ (atP bs 2).toNat_lt
      have HN := Lib.hid hn
      rw [hn]
      clear hn
      have hnI : (n : Int) < 256 := by omega
      have n1 : IntKind.i64.wrap (n : Int) = (n : Int) := by rw [IntKind.wrap_i64]; omega
      obtain ⟨m, hm⟩ : ∃ m, n % 32 = m := ⟨_, rfl⟩
      have hm32 : m < 32 := by omega
      have n2 : (n : Int) % 32 = (m : Int) := by omega
      have HM := Lib.hid hm
      clear hm
      have a1 : IntKind.i64.wrap ((2 : Int) + 1) = ((3 : Nat) : Int) := by rw [IntKind.wrap_i64]; omega
      have a2 : IntKind.i64.wrap (((3 : Nat) : Int) + (m : Int)) = ((3 + m : Nat) : Int) := by rw [IntKind.wrap_i64]; omega
      have HP := partR_any B _ bs (3) m _ hF1.src (by omega) (by omega)
      obtain ⟨l, hl⟩ : ∃ l, partP bs (3) m = l := ⟨_, rfl⟩
      have hlm : l.length = m := by rw [← hl, partP_length]
      rw [hl] at HP
      have HL := Lib.hid hl
      have HP := Lib.hid HP
      clear hl
      go_wp2_with fail
      refine HP.out.mono ?_
      rintro e w10 ⟨v, rfl, hown, hb⟩
      obtain ⟨A1, c1, rfl, _, _⟩ := own_form hown
      have cv := (Bts.of_own hown B).string (P := Tryz.prog) 39 9 Tryz.underlying39 Tryz.underlying5 Tryz.underlying9
      have HF2 := Lib.hid (hF1.adv hb)
      obtain ⟨z0, z1, z2, z3, z4, z5, z6, z7, z8⟩ := op_cells HF2.out.op
      have f2 := HF2.out.op.frozen 2
      rw [hlm] at cv
      clear z0 z1 z3 z4 z5 z6 z7 z8 hF1 HP hown hb
      go_upto_region 9 with fail
      obtain ⟨o2, ho2⟩ : ∃ o2, { o1 with key := ⟨l.toArray⟩ } = o2 := ⟨_, rfl⟩
      obtain ⟨i2, hi2⟩ : ∃ i2, 3 + m = i2 := ⟨_, rfl⟩
      have hF1 := HF2.out.store HBw.out (q' := (o2, i2)) (j := 2) (v := .string ⟨l.toArray⟩) (A' := none) (c' := 0) (by rw [← ho2]; simp [opc, HOv.out]) (by rw [← ho2]; exact (by rw [HOv.out]; exact Bts.nil _ _ _)) (by rw [← ho2]; exact HF2.out.kind) (by show i2 ≤ 10000; omega)
      have HK : Hid (fKey bs (o1, 2) = (o2, i2)) := Lib.hid (by unfold fKey; rw [if_pos (by rw [show (o1, (2 : Nat)).1.kind = kk from HF2.out.kind]; exact k1)]; dsimp only; rw [HN.out, HM.out, HL.out, ho2, hi2])
      have e2 : (3 + (m : Int)) = (i2 : Int) := by omega
      have hi2b : i2 ≤ 40 := by omega
      generalize World.setCell _ _ _ = W at hF1 ⊢
      simp only [e2]
      clear e2 HP
      clear HF2 z2 f2 cv n1 n2 a1 a2 HN HM HL hnI hn256 hm32 hlm ho2 hi2
      have zk : W.cell? ⟨Wk.heap.size, 0, none⟩ = some (.int .i64 kk) := by rw [← hF1.kind]; exact (op_cells hF1.op).1
      go_wp2_with fail
      refine (valued_any kk _).mono ?_
      rintro e w9 ⟨rfl, rfl⟩
      rw [k2]
      clear zk
      go_wp2_with fail
      refine (at_any B _ bs i2 _ hF1.src (by omega)).mono ?_
      rintro e w9 ⟨rfl, rfl⟩
      obtain ⟨n, hn⟩ : ∃ n, (atP bs i2).toNat = n := ⟨_, rfl⟩
      have hn256 : n < 256 := hn ▸ (atP bs i2).toNat_lt
      have HN := Lib.hid hn
      rw [hn]
      clear hn
      have hnI : (n : Int) < 256 := by omega
      have n1 : IntKind.i64.wrap (n : Int) = (n : Int) := by rw [IntKind.wrap_i64]; omega
      have a1 : IntKind.i64.wrap ((i2 : Int) + 1) = (((i2 + 1) : Nat) : Int) := by rw [IntKind.wrap_i64]; omega
      have a2 : IntKind.i64.wrap ((((i2 + 1) : Nat) : Int) + (n : Int)) = (((i2 + 1) + n : Nat) : Int) := by rw [IntKind.wrap_i64]; omega
      have HP := partR_any B _ bs ((i2 + 1)) n _ hF1.src (by omega) (by omega)
      obtain ⟨l, hl⟩ : ∃ l, partP bs ((i2 + 1)) n = l := ⟨_, rfl⟩
      have hln : l.length = n := by rw [← hl, partP_length]
      rw [hl] at HP
      have HL := Lib.hid hl
      have HP := Lib.hid HP
      clear hl
      go_wp2_with fail
      refine HP.out.mono ?_
      rintro e w10 ⟨v, rfl, hown, hb⟩
      obtain ⟨A1, c1, rfl, _, _⟩ := own_form hown
      have HBt : Hid (Bts w10 B 5 (.slice A1 l.length c1) l) := Lib.hid (Bts.of_own hown B)
      have HF2 := Lib.hid (hF1.adv hb)
      obtain ⟨z0, z1, z2, z3, z4, z5, z6, z7, z8⟩ := op_cells HF2.out.op
      have f3 := HF2.out.op.frozen 3
      clear z0 z1 z2 z4 z5 z6 z7 z8 hF1 HP hown hb
      go_upto_region 12 with fail
      obtain ⟨o3, ho3⟩ : ∃ o3, { o2 with val := l } = o3 := ⟨_, rfl⟩
      obtain ⟨i3, hi3⟩ : ∃ i3, (i2 + 1) + n = i3 := ⟨_, rfl⟩
      have hov3 : o3.val = l := ho3 ▸ rfl
      have hF1 := HF2.out.store HBw.out (q' := (o3, i3)) (j := 3) (v := .slice A1 n c1) (A' := A1) (c' := c1) (by rw [← ho3]; simp [opc, hln]) (by rw [← ho3]; exact HBt.out) (by rw [← ho3]; exact HF2.out.kind) (by show i3 ≤ 10000; omega)
      have HVl : Hid (fVal bs (o2, i2) = (o3, i3)) := Lib.hid (by unfold fVal; rw [if_pos (by rw [show (o2, (i2 : Nat)).1.kind = kk from HF2.out.kind]; exact k2)]; dsimp only; rw [HN.out, HL.out, ho3, hi3])
      have e2 : ((i2 : Int) + 1 + (n : Int)) = (i3 : Int) := by omega
      have hi3b : i3 ≤ 400 := by omega
      generalize World.setCell _ _ _ = W at hF1 ⊢
      simp only [e2]
      clear e2 HF2 z3 f3 n1 a1 a2 HN HL HBt hnI hn256 hln ho3 hi3 hov3
      have zk : W.cell? ⟨Wk.heap.size, 0, none⟩ = some (.int .i64 kk) := by rw [← hF1.kind]; exact (op_cells hF1.op).1
      go_wp2_with fail
      refine (timed_any kk _).mono ?_
      rintro e w9 ⟨rfl, rfl⟩
      rw [k3]
      clear zk
      have HT : Hid (fTtl bs (o3, i3) = (o3, i3)) := Lib.hid (by unfold fTtl; rw [if_neg (by rw [show (o3, (i3 : Nat)).1.kind = kk from hF1.kind]; simp [k3])])
      have HU : Hid (fBud bs (o3, i3) = (o3, i3)) := Lib.hid (by unfold fBud; rw [if_neg (by rw [show (o3, (i3 : Nat)).1.kind = kk from hF1.kind]; (simpa using k4))])
      have zk : W.cell? ⟨Wk.heap.size, 0, none⟩ = some (.int .i64 kk) := by rw [← hF1.kind]; exact (op_cells hF1.op).1
      go_wp2_with fail
      refine (aimed_any kk _).mono ?_
      rintro e w9 ⟨rfl, rfl⟩
      rw [k5]
      clear zk
      have HA : Hid (fAim bs (o3, i3) = (o3, i3)) := Lib.hid (by unfold fAim; rw [if_neg (by rw [show (o3, (i3 : Nat)).1.kind = kk from hF1.kind]; simp [k5])])
      have HBi : Hid (fBirth bs (o3, i3) = (o3, i3)) := Lib.hid (by unfold fBirth; rw [if_neg (by rw [show (o3, (i3 : Nat)).1.kind = kk from hF1.kind]; (simpa using k6))])
      obtain ⟨z0, z1, z2, z3, z4, z5, z6, z7, z8⟩ := op_cells hF1.op
      rw [hF1.kind] at z0
      obtain ⟨y0, y1, y2, y3, y4, y5, y6, y7, y8⟩ := op_cells hF1.res
      have g0 := hF1.res.frozen 0
      have g1 := hF1.res.frozen 1
      have g2 := hF1.res.frozen 2
      have g3 := hF1.res.frozen 3
      have g4 := hF1.res.frozen 4
      have g5 := hF1.res.frozen 5
      have g6 := hF1.res.frozen 6
      have g7 := hF1.res.frozen 7
      have g8 := hF1.res.frozen 8
      have HFf := Lib.hid hF1
      clear hF1
      go_wp2_with fail
      generalize hW9 : World.setCell _ _ _ = W9
      have hW9' : set9 W w.heap.size o3 (.slice A1 (o3).val.length c1) = W9 := by unfold set9; rw [show (o3).kind = kk from HFf.out.kind]; exact hW9
      have hr9 : Blk W9 w.heap.size 41 (opc o3 (.slice A1 (o3).val.length c1)) := hW9' ▸ HFf.out.res.set9 _ _
      have ho9 : Only (fun k => k = w.heap.size) W W9 := hW9' ▸ Only.set9 _ _ _ _
      have hv9 : Bts W9 B 5 (.slice A1 (o3).val.length c1) (o3).val := HFf.out.val.keep (KeepB.of_blk HFf.out.res (by decide) HBw.out ho9)
      have hb9 : Below w.heap.size w W9 := HFf.out.below.trans (ho9.below (fun i hi _ e => by omega) HFf.out.below.size)
      clear hW9 hW9' ho9 y0 y1 y2 y3 y4 y5 y6 y7 y8 g0 g1 g2 g3 g4 g5 g6 g7 g8 z0 z1 z2 z3 z4 z5 z6 z7 z8
      obtain ⟨z0, z1, z2, z3, z4, z5, z6, z7, z8⟩ := op_cells hr9
      have hfin : firstP bs = (o3, i3) := by unfold firstP; rw [HH.out, HK.out, HVl.out, HT.out, HU.out, HA.out, HBi.out]
      refine bodyPost_ret (v := .tuple #[opv o3 (.slice A1 (o3).val.length c1), .int .i64 (i3 : Nat)]) ?_ rfl ?_
      · simp [results, Tryz.results48, go_sem, opv, opc, z0, z1, z2, z3, z4, z5, z6, z7, z8]
      unfold FirstRet
      rw [hfin]
      exact ⟨_, _, rfl, hv9, hb9⟩
    · have zk : W.cell? ⟨Wk.heap.size, 0, none⟩ = some (.int .i64 kk) := by rw [← hF1.kind]; exact (op_cells hF1.op).1
      go_wp2_with fail
      refine (keyed_any kk _).mono ?_
      rintro e w9 ⟨rfl, rfl⟩
      rw [k1]
      clear zk
      go_wp2_with fail
      refine (at_any B _ bs 2 _ hF1.src (by omega)).mono ?_
      rintro e w9 ⟨rfl, rfl⟩
      obtain ⟨n, hn⟩ : ∃ n, (atP bs 2).toNat = n := ⟨_, rfl⟩
      have hn256 : n < 256 := hn ▸ (atP bs 2).toNat_lt
      have HN := Lib.hid hn
      rw [hn]
      clear hn
      have hnI : (n : Int) < 256 := by omega
      have n1 : IntKind.i64.wrap (n : Int) = (n : Int) := by rw [IntKind.wrap_i64]; omega
      obtain ⟨m, hm⟩ : ∃ m, n % 32 = m := ⟨_, rfl⟩
      have hm32 : m < 32 := by omega
      have n2 : (n : Int) % 32 = (m : Int) := by omega
      have HM := Lib.hid hm
      clear hm
      have a1 : IntKind.i64.wrap ((2 : Int) + 1) = ((3 : Nat) : Int) := by rw [IntKind.wrap_i64]; omega
      have a2 : IntKind.i64.wrap (((3 : Nat) : Int) + (m : Int)) = ((3 + m : Nat) : Int) := by rw [IntKind.wrap_i64]; omega
      have HP := partR_any B _ bs (3) m _ hF1.src (by omega) (by omega)
      obtain ⟨l, hl⟩ : ∃ l, partP bs (3) m = l := ⟨_, rfl⟩
      have hlm : l.length = m := by rw [← hl, partP_length]
      rw [hl] at HP
      have HL := Lib.hid hl
      have HP := Lib.hid HP
      clear hl
      go_wp2_with fail
      refine HP.out.mono ?_
      rintro e w10 ⟨v, rfl, hown, hb⟩
      obtain ⟨A1, c1, rfl, _, _⟩ := own_form hown
      have cv := (Bts.of_own hown B).string (P := Tryz.prog) 39 9 Tryz.underlying39 Tryz.underlying5 Tryz.underlying9
      have HF2 := Lib.hid (hF1.adv hb)
      obtain ⟨z0, z1, z2, z3, z4, z5, z6, z7, z8⟩ := op_cells HF2.out.op
      have f2 := HF2.out.op.frozen 2
      rw [hlm] at cv
      clear z0 z1 z3 z4 z5 z6 z7 z8 hF1 HP hown hb
      go_upto_region 9 with fail
      obtain ⟨o2, ho2⟩ : ∃ o2, { o1 with key := ⟨l.toArray⟩ } = o2 := ⟨_, rfl⟩
      obtain ⟨i2, hi2⟩ : ∃ i2, 3 + m = i2 := ⟨_, rfl⟩
      have hF1 := HF2.out.store HBw.out (q' := (o2, i2)) (j := 2) (v := .string ⟨l.toArray⟩) (A' := none) (c' := 0) (by rw [← ho2]; simp [opc, HOv.out]) (by rw [← ho2]; exact (by rw [HOv.out]; exact Bts.nil _ _ _)) (by rw [← ho2]; exact HF2.out.kind) (by show i2 ≤ 10000; omega)
      have HK : Hid (fKey bs (o1, 2) = (o2, i2)) := Lib.hid (by unfold fKey; rw [if_pos (by rw [show (o1, (2 : Nat)).1.kind = kk from HF2.out.kind]; exact k1)]; dsimp only; rw [HN.out, HM.out, HL.out, ho2, hi2])
      have e2 : (3 + (m : Int)) = (i2 : Int) := by omega
      have hi2b : i2 ≤ 40 := by omega
      generalize World.setCell _ _ _ = W at hF1 ⊢
      simp only [e2]
      clear e2 HP
      clear HF2 z2 f2 cv n1 n2 a1 a2 HN HM HL hnI hn256 hm32 hlm ho2 hi2
      have zk : W.cell? ⟨Wk.heap.size, 0, none⟩ = some (.int .i64 kk) := by rw [← hF1.kind]; exact (op_cells hF1.op).1
      go_wp2_with fail
      refine (valued_any kk _).mono ?_
      rintro e w9 ⟨rfl, rfl⟩
      rw [k2]
      clear zk
      go_wp2_with fail
      refine (at_any B _ bs i2 _ hF1.src (by omega)).mono ?_
      rintro e w9 ⟨rfl, rfl⟩
      obtain ⟨n, hn⟩ : ∃ n, (atP bs i2).toNat = n := ⟨_, rfl⟩
      have hn256 : n < 256 := hn ▸ (atP bs i2).toNat_lt
      have HN := Lib.hid hn
      rw [hn]
      clear hn
      have hnI : (n : Int) < 256 := by omega
      have n1 : IntKind.i64.wrap (n : Int) = (n : Int) := by rw [IntKind.wrap_i64]; omega
      have a1 : IntKind.i64.wrap ((i2 : Int) + 1) = (((i2 + 1) : Nat) : Int) := by rw [IntKind.wrap_i64]; omega
      have a2 : IntKind.i64.wrap ((((i2 + 1) : Nat) : Int) + (n : Int)) = (((i2 + 1) + n : Nat) : Int) := by rw [IntKind.wrap_i64]; omega
      have HP := partR_any B _ bs ((i2 + 1)) n _ hF1.src (by omega) (by omega)
      obtain ⟨l, hl⟩ : ∃ l, partP bs ((i2 + 1)) n = l := ⟨_, rfl⟩
      have hln : l.length = n := by rw [← hl, partP_length]
      rw [hl] at HP
      have HL := Lib.hid hl
      have HP := Lib.hid HP
      clear hl
      go_wp2_with fail
      refine HP.out.mono ?_
      rintro e w10 ⟨v, rfl, hown, hb⟩
      obtain ⟨A1, c1, rfl, _, _⟩ := own_form hown
      have HBt : Hid (Bts w10 B 5 (.slice A1 l.length c1) l) := Lib.hid (Bts.of_own hown B)
      have HF2 := Lib.hid (hF1.adv hb)
      obtain ⟨z0, z1, z2, z3, z4, z5, z6, z7, z8⟩ := op_cells HF2.out.op
      have f3 := HF2.out.op.frozen 3
      clear z0 z1 z2 z4 z5 z6 z7 z8 hF1 HP hown hb
      go_upto_region 12 with fail
      obtain ⟨o3, ho3⟩ : ∃ o3, { o2 with val := l } = o3 := ⟨_, rfl⟩
      obtain ⟨i3, hi3⟩ : ∃ i3, (i2 + 1) + n = i3 := ⟨_, rfl⟩
      have hov3 : o3.val = l := ho3 ▸ rfl
      have hF1 := HF2.out.store HBw.out (q' := (o3, i3)) (j := 3) (v := .slice A1 n c1) (A' := A1) (c' := c1) (by rw [← ho3]; simp [opc, hln]) (by rw [← ho3]; exact HBt.out) (by rw [← ho3]; exact HF2.out.kind) (by show i3 ≤ 10000; omega)
      have HVl : Hid (fVal bs (o2, i2) = (o3, i3)) := Lib.hid (by unfold fVal; rw [if_pos (by rw [show (o2, (i2 : Nat)).1.kind = kk from HF2.out.kind]; exact k2)]; dsimp only; rw [HN.out, HL.out, ho3, hi3])
      have e2 : ((i2 : Int) + 1 + (n : Int)) = (i3 : Int) := by omega
      have hi3b : i3 ≤ 400 := by omega
      generalize World.setCell _ _ _ = W at hF1 ⊢
      simp only [e2]
      clear e2 HF2 z3 f3 n1 a1 a2 HN HL HBt hnI hn256 hln ho3 hi3 hov3
      have zk : W.cell? ⟨Wk.heap.size, 0, none⟩ = some (.int .i64 kk) := by rw [← hF1.kind]; exact (op_cells hF1.op).1
      go_wp2_with fail
      refine (timed_any kk _).mono ?_
      rintro e w9 ⟨rfl, rfl⟩
      rw [k3]
      clear zk
      have HP := numR_any B _ bs (i3) 2 _ hF1.src (by omega) (by omega)
      have hlt := numBE_lt (partP bs (i3) 2)
      rw [partP_length] at hlt
      obtain ⟨t, ht⟩ : ∃ t, numP bs (i3) 2 = t := ⟨_, rfl⟩
      have ht6 : t < 65536 := by rw [← ht]; exact hlt
      rw [ht] at HP
      have HT0 := Lib.hid ht
      have HP := Lib.hid HP
      clear ht hlt
      have htI : (t : Int) < 65536 := by omega
      have n1 : IntKind.u64.wrap (t : Int) = (t : Int) := by rw [IntKind.wrap_u64]; omega
      have a1 : IntKind.i64.wrap ((i3 : Int) + 2) = ((i3 + 2 : Nat) : Int) := by rw [IntKind.wrap_i64]; omega
      have HF2 := Lib.hid hF1
      obtain ⟨z0, z1, z2, z3, z4, z5, z6, z7, z8⟩ := op_cells HF2.out.op
      have f4 := HF2.out.op.frozen 4
      clear z0 z1 z2 z3 z5 z6 z7 z8 hF1
      go_wp2_with fail
      refine HP.out.mono ?_
      rintro e w10 ⟨rfl, rfl⟩
      clear HP
      go_upto_region 14 with fail
      obtain ⟨o4, ho4⟩ : ∃ o4, { o3 with ttl := (t : Int) } = o4 := ⟨_, rfl⟩
      obtain ⟨i4, hi4⟩ : ∃ i4, i3 + 2 = i4 := ⟨_, rfl⟩
      have hF1 := HF2.out.store HBw.out (q' := (o4, i4)) (j := 4) (v := .int .u64 t) (A' := A1) (c' := c1) (by rw [← ho4]; simp [opc]) (by rw [← ho4]; exact HF2.out.val) (by rw [← ho4]; exact HF2.out.kind) (by show i4 ≤ 10000; omega)
      have HT : Hid (fTtl bs (o3, i3) = (o4, i4)) := Lib.hid (by unfold fTtl; rw [if_pos (by rw [show (o3, (i3 : Nat)).1.kind = kk from HF2.out.kind]; exact k3)]; dsimp only; rw [HT0.out, ho4, hi4])
      have e2 : ((i3 : Int) + 2) = (i4 : Int) := by omega
      have hi4b : i4 ≤ 500 := by omega
      generalize World.setCell _ _ _ = W at hF1 ⊢
      simp only [e2]
      clear e2 HF2 z4 f4 n1 a1 HT0 htI ht6 ho4 hi4
      have HU : Hid (fBud bs (o4, i4) = (o4, i4)) := Lib.hid (by unfold fBud; rw [if_neg (by rw [show (o4, (i4 : Nat)).1.kind = kk from hF1.kind]; (simpa using k4))])
      have zk : W.cell? ⟨Wk.heap.size, 0, none⟩ = some (.int .i64 kk) := by rw [← hF1.kind]; exact (op_cells hF1.op).1
      go_wp2_with fail
      refine (aimed_any kk _).mono ?_
      rintro e w9 ⟨rfl, rfl⟩
      rw [k5]
      clear zk
      have HA : Hid (fAim bs (o4, i4) = (o4, i4)) := Lib.hid (by unfold fAim; rw [if_neg (by rw [show (o4, (i4 : Nat)).1.kind = kk from hF1.kind]; simp [k5])])
      have HBi : Hid (fBirth bs (o4, i4) = (o4, i4)) := Lib.hid (by unfold fBirth; rw [if_neg (by rw [show (o4, (i4 : Nat)).1.kind = kk from hF1.kind]; (simpa using k6))])
      obtain ⟨z0, z1, z2, z3, z4, z5, z6, z7, z8⟩ := op_cells hF1.op
      rw [hF1.kind] at z0
      obtain ⟨y0, y1, y2, y3, y4, y5, y6, y7, y8⟩ := op_cells hF1.res
      have g0 := hF1.res.frozen 0
      have g1 := hF1.res.frozen 1
      have g2 := hF1.res.frozen 2
      have g3 := hF1.res.frozen 3
      have g4 := hF1.res.frozen 4
      have g5 := hF1.res.frozen 5
      have g6 := hF1.res.frozen 6
      have g7 := hF1.res.frozen 7
      have g8 := hF1.res.frozen 8
      have HFf := Lib.hid hF1
      clear hF1
      go_wp2_with fail
      generalize hW9 : World.setCell _ _ _ = W9
      have hW9' : set9 W w.heap.size o4 (.slice A1 (o4).val.length c1) = W9 := by unfold set9; rw [show (o4).kind = kk from HFf.out.kind]; exact hW9
      have hr9 : Blk W9 w.heap.size 41 (opc o4 (.slice A1 (o4).val.length c1)) := hW9' ▸ HFf.out.res.set9 _ _
      have ho9 : Only (fun k => k = w.heap.size) W W9 := hW9' ▸ Only.set9 _ _ _ _
      have hv9 : Bts W9 B 5 (.slice A1 (o4).val.length c1) (o4).val := HFf.out.val.keep (KeepB.of_blk HFf.out.res (by decide) HBw.out ho9)
      have hb9 : Below w.heap.size w W9 := HFf.out.below.trans (ho9.below (fun i hi _ e => by omega) HFf.out.below.size)
      clear hW9 hW9' ho9 y0 y1 y2 y3 y4 y5 y6 y7 y8 g0 g1 g2 g3 g4 g5 g6 g7 g8 z0 z1 z2 z3 z4 z5 z6 z7 z8
      obtain ⟨z0, z1, z2, z3, z4, z5, z6, z7, z8⟩ := op_cells hr9
      have hfin : firstP bs = (o4, i4) := by unfold firstP; rw [HH.out, HK.out, HVl.out, HT.out, HU.out, HA.out, HBi.out]
      refine bodyPost_ret (v := .tuple #[opv o4 (.slice A1 (o4).val.length c1), .int .i64 (i4 : Nat)]) ?_ rfl ?_
      · simp [results, Tryz.results48, go_sem, opv, opc, z0, z1, z2, z3, z4, z5, z6, z7, z8]
      unfold FirstRet
      rw [hfin]
      exact ⟨_, _, rfl, hv9, hb9⟩
    · have zk : W.cell? ⟨Wk.heap.size, 0, none⟩ = some (.int .i64 kk) := by rw [← hF1.kind]; exact (op_cells hF1.op).1
      go_wp2_with fail
      refine (keyed_any kk _).mono ?_
      rintro e w9 ⟨rfl, rfl⟩
      rw [k1]
      clear zk
      go_wp2_with fail
      refine (at_any B _ bs 2 _ hF1.src (by omega)).mono ?_
      rintro e w9 ⟨rfl, rfl⟩
      obtain ⟨n, hn⟩ : ∃ n, (atP bs 2).toNat = n := ⟨_, rfl⟩
      have hn256 : n < 256 := hn ▸ (atP bs 2).toNat_lt
      have HN := Lib.hid hn
      rw [hn]
      clear hn
      have hnI : (n : Int) < 256 := by omega
      have n1 : IntKind.i64.wrap (n : Int) = (n : Int) := by rw [IntKind.wrap_i64]; omega
      obtain ⟨m, hm⟩ : ∃ m, n % 32 = m := ⟨_, rfl⟩
      have hm32 : m < 32 := by omega
      have n2 : (n : Int) % 32 = (m : Int) := by omega
      have HM := Lib.hid hm
      clear hm
      have a1 : IntKind.i64.wrap ((2 : Int) + 1) = ((3 : Nat) : Int) := by rw [IntKind.wrap_i64]; omega
      have a2 : IntKind.i64.wrap (((3 : Nat) : Int) + (m : Int)) = ((3 + m : Nat) : Int) := by rw [IntKind.wrap_i64]; omega
      have HP := partR_any B _ bs (3) m _ hF1.src (by omega) (by omega)
      obtain ⟨l, hl⟩ : ∃ l, partP bs (3) m = l := ⟨_, rfl⟩
      have hlm : l.length = m := by rw [← hl, partP_length]
      rw [hl] at HP
      have HL := Lib.hid hl
      have HP := Lib.hid HP
      clear hl
      go_wp2_with fail
      refine HP.out.mono ?_
      rintro e w10 ⟨v, rfl, hown, hb⟩
      obtain ⟨A1, c1, rfl, _, _⟩ := own_form hown
      have cv := (Bts.of_own hown B).string (P := Tryz.prog) 39 9 Tryz.underlying39 Tryz.underlying5 Tryz.underlying9
      have HF2 := Lib.hid (hF1.adv hb)
      obtain ⟨z0, z1, z2, z3, z4, z5, z6, z7, z8⟩ := op_cells HF2.out.op
      have f2 := HF2.out.op.frozen 2
      rw [hlm] at cv
      clear z0 z1 z3 z4 z5 z6 z7 z8 hF1 HP hown hb
      go_upto_region 9 with fail
      obtain ⟨o2, ho2⟩ : ∃ o2, { o1 with key := ⟨l.toArray⟩ } = o2 := ⟨_, rfl⟩
      obtain ⟨i2, hi2⟩ : ∃ i2, 3 + m = i2 := ⟨_, rfl⟩
      have hF1 := HF2.out.store HBw.out (q' := (o2, i2)) (j := 2) (v := .string ⟨l.toArray⟩) (A' := none) (c' := 0) (by rw [← ho2]; simp [opc, HOv.out]) (by rw [← ho2]; exact (by rw [HOv.out]; exact Bts.nil _ _ _)) (by rw [← ho2]; exact HF2.out.kind) (by show i2 ≤ 10000; omega)
      have HK : Hid (fKey bs (o1, 2) = (o2, i2)) := Lib.hid (by unfold fKey; rw [if_pos (by rw [show (o1, (2 : Nat)).1.kind = kk from HF2.out.kind]; exact k1)]; dsimp only; rw [HN.out, HM.out, HL.out, ho2, hi2])
      have e2 : (3 + (m : Int)) = (i2 : Int) := by omega
      have hi2b : i2 ≤ 40 := by omega
      generalize World.setCell _ _ _ = W at hF1 ⊢
      simp only [e2]
      clear e2 HP
      clear HF2 z2 f2 cv n1 n2 a1 a2 HN HM HL hnI hn256 hm32 hlm ho2 hi2
      have zk : W.cell? ⟨Wk.heap.size, 0, none⟩ = some (.int .i64 kk) := by rw [← hF1.kind]; exact (op_cells hF1.op).1
      go_wp2_with fail
      refine (valued_any kk _).mono ?_
      rintro e w9 ⟨rfl, rfl⟩
      rw [k2]
      clear zk
      have HVl : Hid (fVal bs (o2, i2) = (o2, i2)) := Lib.hid (by unfold fVal; rw [if_neg (by rw [show (o2, (i2 : Nat)).1.kind = kk from hF1.kind]; simp [k2])])
      have zk : W.cell? ⟨Wk.heap.size, 0, none⟩ = some (.int .i64 kk) := by rw [← hF1.kind]; exact (op_cells hF1.op).1
      go_wp2_with fail
      refine (timed_any kk _).mono ?_
      rintro e w9 ⟨rfl, rfl⟩
      rw [k3]
      clear zk
      have HP := numR_any B _ bs (i2) 2 _ hF1.src (by omega) (by omega)
      have hlt := numBE_lt (partP bs (i2) 2)
      rw [partP_length] at hlt
      obtain ⟨t, ht⟩ : ∃ t, numP bs (i2) 2 = t := ⟨_, rfl⟩
      have ht6 : t < 65536 := by rw [← ht]; exact hlt
      rw [ht] at HP
      have HT0 := Lib.hid ht
      have HP := Lib.hid HP
      clear ht hlt
      have htI : (t : Int) < 65536 := by omega
      have n1 : IntKind.u64.wrap (t : Int) = (t : Int) := by rw [IntKind.wrap_u64]; omega
      have a1 : IntKind.i64.wrap ((i2 : Int) + 2) = ((i2 + 2 : Nat) : Int) := by rw [IntKind.wrap_i64]; omega
      have HF2 := Lib.hid hF1
      obtain ⟨z0, z1, z2, z3, z4, z5, z6, z7, z8⟩ := op_cells HF2.out.op
      have f4 := HF2.out.op.frozen 4
      clear z0 z1 z2 z3 z5 z6 z7 z8 hF1
      go_wp2_with fail
      refine HP.out.mono ?_
      rintro e w10 ⟨rfl, rfl⟩
      clear HP
      go_upto_region 14 with fail
      obtain ⟨o4, ho4⟩ : ∃ o4, { o2 with ttl := (t : Int) } = o4 := ⟨_, rfl⟩
      obtain ⟨i4, hi4⟩ : ∃ i4, i2 + 2 = i4 := ⟨_, rfl⟩
      have hF1 := HF2.out.store HBw.out (q' := (o4, i4)) (j := 4) (v := .int .u64 t) (A' := none) (c' := 0) (by rw [← ho4]; simp [opc]) (by rw [← ho4]; exact HF2.out.val) (by rw [← ho4]; exact HF2.out.kind) (by show i4 ≤ 10000; omega)
      have HT : Hid (fTtl bs (o2, i2) = (o4, i4)) := Lib.hid (by unfold fTtl; rw [if_pos (by rw [show (o2, (i2 : Nat)).1.kind = kk from HF2.out.kind]; exact k3)]; dsimp only; rw [HT0.out, ho4, hi4])
      have e2 : ((i2 : Int) + 2) = (i4 : Int) := by omega
      have hi4b : i4 ≤ 500 := by omega
      generalize World.setCell _ _ _ = W at hF1 ⊢
      simp only [e2]
      clear e2 HF2 z4 f4 n1 a1 HT0 htI ht6 ho4 hi4
      have HU : Hid (fBud bs (o4, i4) = (o4, i4)) := Lib.hid (by unfold fBud; rw [if_neg (by rw [show (o4, (i4 : Nat)).1.kind = kk from hF1.kind]; (simpa using k4))])
      have zk : W.cell? ⟨Wk.heap.size, 0, none⟩ = some (.int .i64 kk) := by rw [← hF1.kind]; exact (op_cells hF1.op).1
      go_wp2_with fail
      refine (aimed_any kk _).mono ?_
      rintro e w9 ⟨rfl, rfl⟩
      rw [k5]
      clear zk
      have HA : Hid (fAim bs (o4, i4) = (o4, i4)) := Lib.hid (by unfold fAim; rw [if_neg (by rw [show (o4, (i4 : Nat)).1.kind = kk from hF1.kind]; simp [k5])])
      have HBi : Hid (fBirth bs (o4, i4) = (o4, i4)) := Lib.hid (by unfold fBirth; rw [if_neg (by rw [show (o4, (i4 : Nat)).1.kind = kk from hF1.kind]; (simpa using k6))])
      obtain ⟨z0, z1, z2, z3, z4, z5, z6, z7, z8⟩ := op_cells hF1.op
      rw [hF1.kind] at z0
      obtain ⟨y0, y1, y2, y3, y4, y5, y6, y7, y8⟩ := op_cells hF1.res
      have g0 := hF1.res.frozen 0
      have g1 := hF1.res.frozen 1
      have g2 := hF1.res.frozen 2
      have g3 := hF1.res.frozen 3
      have g4 := hF1.res.frozen 4
      have g5 := hF1.res.frozen 5
      have g6 := hF1.res.frozen 6
      have g7 := hF1.res.frozen 7
      have g8 := hF1.res.frozen 8
      have HFf := Lib.hid hF1
      clear hF1
      go_wp2_with fail
      generalize hW9 : World.setCell _ _ _ = W9
      have hW9' : set9 W w.heap.size o4 (.slice none (o4).val.length 0) = W9 := by unfold set9; rw [show (o4).kind = kk from HFf.out.kind]; exact hW9
      have hr9 : Blk W9 w.heap.size 41 (opc o4 (.slice none (o4).val.length 0)) := hW9' ▸ HFf.out.res.set9 _ _
      have ho9 : Only (fun k => k = w.heap.size) W W9 := hW9' ▸ Only.set9 _ _ _ _
      have hv9 : Bts W9 B 5 (.slice none (o4).val.length 0) (o4).val := HFf.out.val.keep (KeepB.of_blk HFf.out.res (by decide) HBw.out ho9)
      have hb9 : Below w.heap.size w W9 := HFf.out.below.trans (ho9.below (fun i hi _ e => by omega) HFf.out.below.size)
      clear hW9 hW9' ho9 y0 y1 y2 y3 y4 y5 y6 y7 y8 g0 g1 g2 g3 g4 g5 g6 g7 g8 z0 z1 z2 z3 z4 z5 z6 z7 z8
      obtain ⟨z0, z1, z2, z3, z4, z5, z6, z7, z8⟩ := op_cells hr9
      have hfin : firstP bs = (o4, i4) := by unfold firstP; rw [HH.out, HK.out, HVl.out, HT.out, HU.out, HA.out, HBi.out]
      refine bodyPost_ret (v := .tuple #[opv o4 (.slice none (o4).val.length 0), .int .i64 (i4 : Nat)]) ?_ rfl ?_
      · simp [results, Tryz.results48, go_sem, opv, opc, z0, z1, z2, z3, z4, z5, z6, z7, z8]
      unfold FirstRet
      rw [hfin]
      exact ⟨_, _, rfl, hv9, hb9⟩
    · have zk : W.cell? ⟨Wk.heap.size, 0, none⟩ = some (.int .i64 kk) := by rw [← hF1.kind]; exact (op_cells hF1.op).1
      go_wp2_with fail
      refine (keyed_any kk _).mono ?_
      rintro e w9 ⟨rfl, rfl⟩
      rw [k1]
      clear zk
      have HK : Hid (fKey bs (o1, 2) = (o1, 2)) := Lib.hid (by unfold fKey; rw [if_neg (by rw [show (o1, (2 : Nat)).1.kind = kk from hF1.kind]; simp [k1])])
      have zk : W.cell? ⟨Wk.heap.size, 0, none⟩ = some (.int .i64 kk) := by rw [← hF1.kind]; exact (op_cells hF1.op).1
      go_wp2_with fail
      refine (valued_any kk _).mono ?_
      rintro e w9 ⟨rfl, rfl⟩
      rw [k2]
      clear zk
      have HVl : Hid (fVal bs (o1, 2) = (o1, 2)) := Lib.hid (by unfold fVal; rw [if_neg (by rw [show (o1, (2 : Nat)).1.kind = kk from hF1.kind]; simp [k2])])
      have zk : W.cell? ⟨Wk.heap.size, 0, none⟩ = some (.int .i64 kk) := by rw [← hF1.kind]; exact (op_cells hF1.op).1
      go_wp2_with fail
      refine (timed_any kk _).mono ?_
      rintro e w9 ⟨rfl, rfl⟩
      rw [k3]
      clear zk
      have HT : Hid (fTtl bs (o1, 2) = (o1, 2)) := Lib.hid (by unfold fTtl; rw [if_neg (by rw [show (o1, (2 : Nat)).1.kind = kk from hF1.kind]; simp [k3])])
      have zk : W.cell? ⟨Wk.heap.size, 0, none⟩ = some (.int .i64 kk) := by rw [← hF1.kind]; exact (op_cells hF1.op).1
      have HP := numR_any B _ bs 2 2 _ hF1.src (by omega) (by omega)
      have HP2 := numR_any B _ bs 4 3 _ hF1.src (by omega) (by omega)
      obtain ⟨t, ht⟩ : ∃ t, numP bs 2 2 = t := ⟨_, rfl⟩
      obtain ⟨u, hu⟩ : ∃ u, numP bs 4 3 = u := ⟨_, rfl⟩
      rw [ht] at HP
      rw [hu] at HP2
      have HT0 := Lib.hid ht
      have HU0 := Lib.hid hu
      have HP := Lib.hid HP
      have HP2 := Lib.hid HP2
      clear ht hu
      have HF2 := Lib.hid hF1
      obtain ⟨z0, z1, z2, z3, z4, z5, z6, z7, z8⟩ := op_cells HF2.out.op
      have f5 := HF2.out.op.frozen 5
      have f6 := HF2.out.op.frozen 6
      clear z0 z1 z2 z3 z4 z7 z8 hF1
      go_wp2_with fail
      refine HP.out.mono ?_
      rintro e w10 ⟨rfl, rfl⟩
      go_wp2_with fail
      refine HP2.out.mono ?_
      rintro e w10 ⟨rfl, rfl⟩
      clear HP HP2
      go_upto_region 16 with fail
      obtain ⟨o2, ho2⟩ : ∃ o2, { o1 with count := (t : Int), bytes := (u : Int) } = o2 := ⟨_, rfl⟩
      have hF0 := HF2.out.store HBw.out (q' := ({ o1 with count := (t : Int) }, 7)) (j := 5) (v := .int .i64 t) (A' := none) (c' := 0) (by simp [opc]) HF2.out.val HF2.out.kind (by show 7 ≤ 10000; omega)
      have hF1 := hF0.store HBw.out (q' := (o2, 7)) (j := 6) (v := .int .i64 u) (A' := none) (c' := 0) (by rw [← ho2]; simp [opc]) (by rw [← ho2]; exact hF0.val) (by rw [← ho2]; exact hF0.kind) (by show 7 ≤ 10000; omega)
      have HU : Hid (fBud bs (o1, 2) = (o2, 7)) := Lib.hid (by unfold fBud; rw [if_pos (by rw [show (o1, (2 : Nat)).1.kind = kk from HF2.out.kind]; simpa using k4)]; dsimp only; rw [HT0.out, HU0.out, ho2])
      generalize World.setCell _ _ _ = W at hF1 ⊢
      clear HF2 hF0 z5 z6 f5 f6 HT0 HU0 ho2 zk
      have zk : W.cell? ⟨Wk.heap.size, 0, none⟩ = some (.int .i64 kk) := by rw [← hF1.kind]; exact (op_cells hF1.op).1
      go_wp2_with fail
      refine (aimed_any kk _).mono ?_
      rintro e w9 ⟨rfl, rfl⟩
      rw [k5]
      clear zk
      have HA : Hid (fAim bs (o2, 7) = (o2, 7)) := Lib.hid (by unfold fAim; rw [if_neg (by rw [show (o2, (7 : Nat)).1.kind = kk from hF1.kind]; simp [k5])])
      have HBi : Hid (fBirth bs (o2, 7) = (o2, 7)) := Lib.hid (by unfold fBirth; rw [if_neg (by rw [show (o2, (7 : Nat)).1.kind = kk from hF1.kind]; (simpa using k6))])
      obtain ⟨z0, z1, z2, z3, z4, z5, z6, z7, z8⟩ := op_cells hF1.op
      rw [hF1.kind] at z0
      obtain ⟨y0, y1, y2, y3, y4, y5, y6, y7, y8⟩ := op_cells hF1.res
      have g0 := hF1.res.frozen 0
      have g1 := hF1.res.frozen 1
      have g2 := hF1.res.frozen 2
      have g3 := hF1.res.frozen 3
      have g4 := hF1.res.frozen 4
      have g5 := hF1.res.frozen 5
      have g6 := hF1.res.frozen 6
      have g7 := hF1.res.frozen 7
      have g8 := hF1.res.frozen 8
      have HFf := Lib.hid hF1
      clear hF1
      go_wp2_with fail
      generalize hW9 : World.setCell _ _ _ = W9
      have hW9' : set9 W w.heap.size o2 (.slice none (o2).val.length 0) = W9 := by unfold set9; rw [show (o2).kind = kk from HFf.out.kind]; exact hW9
      have hr9 : Blk W9 w.heap.size 41 (opc o2 (.slice none (o2).val.length 0)) := hW9' ▸ HFf.out.res.set9 _ _
      have ho9 : Only (fun k => k = w.heap.size) W W9 := hW9' ▸ Only.set9 _ _ _ _
      have hv9 : Bts W9 B 5 (.slice none (o2).val.length 0) (o2).val := HFf.out.val.keep (KeepB.of_blk HFf.out.res (by decide) HBw.out ho9)
      have hb9 : Below w.heap.size w W9 := HFf.out.below.trans (ho9.below (fun i hi _ e => by omega) HFf.out.below.size)
      clear hW9 hW9' ho9 y0 y1 y2 y3 y4 y5 y6 y7 y8 g0 g1 g2 g3 g4 g5 g6 g7 g8 z0 z1 z2 z3 z4 z5 z6 z7 z8
      obtain ⟨z0, z1, z2, z3, z4, z5, z6, z7, z8⟩ := op_cells hr9
      have hfin : firstP bs = (o2, 7) := by unfold firstP; rw [HH.out, HK.out, HVl.out, HT.out, HU.out, HA.out, HBi.out]
      refine bodyPost_ret (v := .tuple #[opv o2 (.slice none (o2).val.length 0), .int .i64 (7 : Nat)]) ?_ rfl ?_
      · simp [results, Tryz.results48, go_sem, opv, opc, z0, z1, z2, z3, z4, z5, z6, z7, z8]
      unfold FirstRet
      rw [hfin]
      exact ⟨_, _, rfl, hv9, hb9⟩
    · have zk : W.cell? ⟨Wk.heap.size, 0, none⟩ = some (.int .i64 kk) := by rw [← hF1.kind]; exact (op_cells hF1.op).1
      go_wp2_with fail
      refine (keyed_any kk _).mono ?_
      rintro e w9 ⟨rfl, rfl⟩
      rw [k1]
      clear zk
      have HK : Hid (fKey bs (o1, 2) = (o1, 2)) := Lib.hid (by unfold fKey; rw [if_neg (by rw [show (o1, (2 : Nat)).1.kind = kk from hF1.kind]; simp [k1])])
      have zk : W.cell? ⟨Wk.heap.size, 0, none⟩ = some (.int .i64 kk) := by rw [← hF1.kind]; exact (op_cells hF1.op).1
      go_wp2_with fail
      refine (valued_any kk _).mono ?_
      rintro e w9 ⟨rfl, rfl⟩
      rw [k2]
      clear zk
      have HVl : Hid (fVal bs (o1, 2) = (o1, 2)) := Lib.hid (by unfold fVal; rw [if_neg (by rw [show (o1, (2 : Nat)).1.kind = kk from hF1.kind]; simp [k2])])
      have zk : W.cell? ⟨Wk.heap.size, 0, none⟩ = some (.int .i64 kk) := by rw [← hF1.kind]; exact (op_cells hF1.op).1
      go_wp2_with fail
      refine (timed_any kk _).mono ?_
      rintro e w9 ⟨rfl, rfl⟩
      rw [k3]
      clear zk
      have HT : Hid (fTtl bs (o1, 2) = (o1, 2)) := Lib.hid (by unfold fTtl; rw [if_neg (by rw [show (o1, (2 : Nat)).1.kind = kk from hF1.kind]; simp [k3])])
      have HU : Hid (fBud bs (o1, 2) = (o1, 2)) := Lib.hid (by unfold fBud; rw [if_neg (by rw [show (o1, (2 : Nat)).1.kind = kk from hF1.kind]; (simpa using k4))])
      have zk : W.cell? ⟨Wk.heap.size, 0, none⟩ = some (.int .i64 kk) := by rw [← hF1.kind]; exact (op_cells hF1.op).1
      go_wp2_with fail
      refine (aimed_any kk _).mono ?_
      rintro e w9 ⟨rfl, rfl⟩
      rw [k5]
      clear zk
      have HF2 := Lib.hid hF1
      go_wp2_with fail
      refine (at_any B _ bs 2 _ HF2.out.src (by omega)).mono ?_
      rintro e w9 ⟨rfl, rfl⟩
      obtain ⟨n, hn⟩ : ∃ n, (atP bs 2).toNat = n := ⟨_, rfl⟩
      have hn256 : n < 256 := hn ▸ (atP bs 2).toNat_lt
      have HN := Lib.hid hn
      rw [hn]
      clear hn
      have n1 : IntKind.i64.wrap (n : Int) = (n : Int) := by rw [IntKind.wrap_i64]; omega
      obtain ⟨z0, z1, z2, z3, z4, z5, z6, z7, z8⟩ := op_cells HF2.out.op
      have f7 := HF2.out.op.frozen 7
      clear z0 z1 z2 z3 z4 z5 z6 z8 hF1
      go_upto_region 18 with fail
      obtain ⟨o2, ho2⟩ : ∃ o2, { o1 with cursor := (n : Int) } = o2 := ⟨_, rfl⟩
      have hF1 := HF2.out.store HBw.out (q' := (o2, 3)) (j := 7) (v := .int .i64 n) (A' := none) (c' := 0) (by rw [← ho2]; simp [opc]) (by rw [← ho2]; exact HF2.out.val) (by rw [← ho2]; exact HF2.out.kind) (by show 3 ≤ 10000; omega)
      have HA : Hid (fAim bs (o1, 2) = (o2, 3)) := Lib.hid (by unfold fAim; rw [if_pos (by rw [show (o1, (2 : Nat)).1.kind = kk from HF2.out.kind]; exact k5)]; dsimp only; rw [HN.out, ho2])
      generalize World.setCell _ _ _ = W at hF1 ⊢
      clear HF2 z7 f7 n1 HN hn256 ho2
      have HBi : Hid (fBirth bs (o2, 3) = (o2, 3)) := Lib.hid (by unfold fBirth; rw [if_neg (by rw [show (o2, (3 : Nat)).1.kind = kk from hF1.kind]; (simpa using k6))])
      obtain ⟨z0, z1, z2, z3, z4, z5, z6, z7, z8⟩ := op_cells hF1.op
      rw [hF1.kind] at z0
      obtain ⟨y0, y1, y2, y3, y4, y5, y6, y7, y8⟩ := op_cells hF1.res
      have g0 := hF1.res.frozen 0
      have g1 := hF1.res.frozen 1
      have g2 := hF1.res.frozen 2
      have g3 := hF1.res.frozen 3
      have g4 := hF1.res.frozen 4
      have g5 := hF1.res.frozen 5
      have g6 := hF1.res.frozen 6
      have g7 := hF1.res.frozen 7
      have g8 := hF1.res.frozen 8
      have HFf := Lib.hid hF1
      clear hF1
      go_wp2_with fail
      generalize hW9 : World.setCell _ _ _ = W9
      have hW9' : set9 W w.heap.size o2 (.slice none (o2).val.length 0) = W9 := by unfold set9; rw [show (o2).kind = kk from HFf.out.kind]; exact hW9
      have hr9 : Blk W9 w.heap.size 41 (opc o2 (.slice none (o2).val.length 0)) := hW9' ▸ HFf.out.res.set9 _ _
      have ho9 : Only (fun k => k = w.heap.size) W W9 := hW9' ▸ Only.set9 _ _ _ _
      have hv9 : Bts W9 B 5 (.slice none (o2).val.length 0) (o2).val := HFf.out.val.keep (KeepB.of_blk HFf.out.res (by decide) HBw.out ho9)
      have hb9 : Below w.heap.size w W9 := HFf.out.below.trans (ho9.below (fun i hi _ e => by omega) HFf.out.below.size)
      clear hW9 hW9' ho9 y0 y1 y2 y3 y4 y5 y6 y7 y8 g0 g1 g2 g3 g4 g5 g6 g7 g8 z0 z1 z2 z3 z4 z5 z6 z7 z8
      obtain ⟨z0, z1, z2, z3, z4, z5, z6, z7, z8⟩ := op_cells hr9
      have hfin : firstP bs = (o2, 3) := by unfold firstP; rw [HH.out, HK.out, HVl.out, HT.out, HU.out, HA.out, HBi.out]
      refine bodyPost_ret (v := .tuple #[opv o2 (.slice none (o2).val.length 0), .int .i64 (3 : Nat)]) ?_ rfl ?_
      · simp [results, Tryz.results48, go_sem, opv, opc, z0, z1, z2, z3, z4, z5, z6, z7, z8]
      unfold FirstRet
      rw [hfin]
      exact ⟨_, _, rfl, hv9, hb9⟩
    · have zk : W.cell? ⟨Wk.heap.size, 0, none⟩ = some (.int .i64 kk) := by rw [← hF1.kind]; exact (op_cells hF1.op).1
      go_wp2_with fail
      refine (keyed_any kk _).mono ?_
      rintro e w9 ⟨rfl, rfl⟩
      rw [k1]
      clear zk
      have HK : Hid (fKey bs (o1, 2) = (o1, 2)) := Lib.hid (by unfold fKey; rw [if_neg (by rw [show (o1, (2 : Nat)).1.kind = kk from hF1.kind]; simp [k1])])
      have zk : W.cell? ⟨Wk.heap.size, 0, none⟩ = some (.int .i64 kk) := by rw [← hF1.kind]; exact (op_cells hF1.op).1
      go_wp2_with fail
      refine (valued_any kk _).mono ?_
      rintro e w9 ⟨rfl, rfl⟩
      rw [k2]
      clear zk
      have HVl : Hid (fVal bs (o1, 2) = (o1, 2)) := Lib.hid (by unfold fVal; rw [if_neg (by rw [show (o1, (2 : Nat)).1.kind = kk from hF1.kind]; simp [k2])])
      have zk : W.cell? ⟨Wk.heap.size, 0, none⟩ = some (.int .i64 kk) := by rw [← hF1.kind]; exact (op_cells hF1.op).1
      go_wp2_with fail
      refine (timed_any kk _).mono ?_
      rintro e w9 ⟨rfl, rfl⟩
      rw [k3]
      clear zk
      have HT : Hid (fTtl bs (o1, 2) = (o1, 2)) := Lib.hid (by unfold fTtl; rw [if_neg (by rw [show (o1, (2 : Nat)).1.kind = kk from hF1.kind]; simp [k3])])
      have HU : Hid (fBud bs (o1, 2) = (o1, 2)) := Lib.hid (by unfold fBud; rw [if_neg (by rw [show (o1, (2 : Nat)).1.kind = kk from hF1.kind]; (simpa using k4))])
      have zk : W.cell? ⟨Wk.heap.size, 0, none⟩ = some (.int .i64 kk) := by rw [← hF1.kind]; exact (op_cells hF1.op).1
      go_wp2_with fail
      refine (aimed_any kk _).mono ?_
      rintro e w9 ⟨rfl, rfl⟩
      rw [k5]
      clear zk
      have HF2 := Lib.hid hF1
      go_wp2_with fail
      refine (at_any B _ bs 2 _ HF2.out.src (by omega)).mono ?_
      rintro e w9 ⟨rfl, rfl⟩
      obtain ⟨n, hn⟩ : ∃ n, (atP bs 2).toNat = n := ⟨_, rfl⟩
      have hn256 : n < 256 := hn ▸ (atP bs 2).toNat_lt
      have HN := Lib.hid hn
      rw [hn]
      clear hn
      have n1 : IntKind.i64.wrap (n : Int) = (n : Int) := by rw [IntKind.wrap_i64]; omega
      obtain ⟨z0, z1, z2, z3, z4, z5, z6, z7, z8⟩ := op_cells HF2.out.op
      have f7 := HF2.out.op.frozen 7
      clear z0 z1 z2 z3 z4 z5 z6 z8 hF1
      go_upto_region 18 with fail
      obtain ⟨o2, ho2⟩ : ∃ o2, { o1 with cursor := (n : Int) } = o2 := ⟨_, rfl⟩
      have hF1 := HF2.out.store HBw.out (q' := (o2, 3)) (j := 7) (v := .int .i64 n) (A' := none) (c' := 0) (by rw [← ho2]; simp [opc]) (by rw [← ho2]; exact HF2.out.val) (by rw [← ho2]; exact HF2.out.kind) (by show 3 ≤ 10000; omega)
      have HA : Hid (fAim bs (o1, 2) = (o2, 3)) := Lib.hid (by unfold fAim; rw [if_pos (by rw [show (o1, (2 : Nat)).1.kind = kk from HF2.out.kind]; exact k5)]; dsimp only; rw [HN.out, ho2])
      generalize World.setCell _ _ _ = W at hF1 ⊢
      clear HF2 z7 f7 n1 HN hn256 ho2
      have zk : W.cell? ⟨Wk.heap.size, 0, none⟩ = some (.int .i64 kk) := by rw [← hF1.kind]; exact (op_cells hF1.op).1
      have HP := numR_any B _ bs 3 2 _ hF1.src (by omega) (by omega)
      have hlt := numBE_lt (partP bs 3 2)
      rw [partP_length] at hlt
      obtain ⟨t, ht⟩ : ∃ t, numP bs 3 2 = t := ⟨_, rfl⟩
      have ht6 : t < 65536 := by rw [← ht]; exact hlt
      rw [ht] at HP
      have HT0 := Lib.hid ht
      have HP := Lib.hid HP
      clear ht hlt
      have htI : (t : Int) < 65536 := by omega
      have n1 : IntKind.u64.wrap (t : Int) = (t : Int) := by rw [IntKind.wrap_u64]; omega
      have HF2 := Lib.hid hF1
      obtain ⟨z0, z1, z2, z3, z4, z5, z6, z7, z8⟩ := op_cells HF2.out.op
      have f8 := HF2.out.op.frozen 8
      clear z0 z1 z2 z3 z4 z5 z6 z7 hF1
      go_wp2_with fail
      refine HP.out.mono ?_
      rintro e w10 ⟨rfl, rfl⟩
      clear HP
      go_upto_region 20 with fail
      obtain ⟨o3, ho3⟩ : ∃ o3, { o2 with birth := (t : Int) } = o3 := ⟨_, rfl⟩
      have hF1 := HF2.out.store HBw.out (q' := (o3, 5)) (j := 8) (v := .int .u64 t) (A' := none) (c' := 0) (by rw [← ho3]; simp [opc]) (by rw [← ho3]; exact HF2.out.val) (by rw [← ho3]; exact HF2.out.kind) (by show 5 ≤ 10000; omega)
      have HBi : Hid (fBirth bs (o2, 3) = (o3, 5)) := Lib.hid (by unfold fBirth; rw [if_pos (by rw [show (o2, (3 : Nat)).1.kind = kk from HF2.out.kind]; simpa using k6)]; dsimp only; rw [HT0.out, ho3])
      generalize World.setCell _ _ _ = W at hF1 ⊢
      clear HF2 z8 f8 n1 HT0 htI ht6 ho3 zk
      obtain ⟨z0, z1, z2, z3, z4, z5, z6, z7, z8⟩ := op_cells hF1.op
      rw [hF1.kind] at z0
      obtain ⟨y0, y1, y2, y3, y4, y5, y6, y7, y8⟩ := op_cells hF1.res
      have g0 := hF1.res.frozen 0
      have g1 := hF1.res.frozen 1
      have g2 := hF1.res.frozen 2
      have g3 := hF1.res.frozen 3
      have g4 := hF1.res.frozen 4
      have g5 := hF1.res.frozen 5
      have g6 := hF1.res.frozen 6
      have g7 := hF1.res.frozen 7
      have g8 := hF1.res.frozen 8
      have HFf := Lib.hid hF1
      clear hF1
      go_wp2_with fail
      generalize hW9 : World.setCell _ _ _ = W9
      have hW9' : set9 W w.heap.size o3 (.slice none (o3).val.length 0) = W9 := by unfold set9; rw [show (o3).kind = kk from HFf.out.kind]; exact hW9
      have hr9 : Blk W9 w.heap.size 41 (opc o3 (.slice none (o3).val.length 0)) := hW9' ▸ HFf.out.res.set9 _ _
      have ho9 : Only (fun k => k = w.heap.size) W W9 := hW9' ▸ Only.set9 _ _ _ _
      have hv9 : Bts W9 B 5 (.slice none (o3).val.length 0) (o3).val := HFf.out.val.keep (KeepB.of_blk HFf.out.res (by decide) HBw.out ho9)
      have hb9 : Below w.heap.size w W9 := HFf.out.below.trans (ho9.below (fun i hi _ e => by omega) HFf.out.below.size)
      clear hW9 hW9' ho9 y0 y1 y2 y3 y4 y5 y6 y7 y8 g0 g1 g2 g3 g4 g5 g6 g7 g8 z0 z1 z2 z3 z4 z5 z6 z7 z8
      obtain ⟨z0, z1, z2, z3, z4, z5, z6, z7, z8⟩ := op_cells hr9
      have hfin : firstP bs = (o3, 5) := by unfold firstP; rw [HH.out, HK.out, HVl.out, HT.out, HU.out, HA.out, HBi.out]
      refine bodyPost_ret (v := .tuple #[opv o3 (.slice none (o3).val.length 0), .int .i64 (5 : Nat)]) ?_ rfl ?_
      · simp [results, Tryz.results48, go_sem, opv, opc, z0, z1, z2, z3, z4, z5, z6, z7, z8]
      unfold FirstRet
      rw [hfin]
      exact ⟨_, _, rfl, hv9, hb9⟩
    · have zk : W.cell? ⟨Wk.heap.size, 0, none⟩ = some (.int .i64 kk) := by rw [← hF1.kind]; exact (op_cells hF1.op).1
      go_wp2_with fail
      refine (keyed_any kk _).mono ?_
      rintro e w9 ⟨rfl, rfl⟩
      rw [k1]
      clear zk
      have HK : Hid (fKey bs (o1, 2) = (o1, 2)) := Lib.hid (by unfold fKey; rw [if_neg (by rw [show (o1, (2 : Nat)).1.kind = kk from hF1.kind]; simp [k1])])
      have zk : W.cell? ⟨Wk.heap.size, 0, none⟩ = some (.int .i64 kk) := by rw [← hF1.kind]; exact (op_cells hF1.op).1
      go_wp2_with fail
      refine (valued_any kk _).mono ?_
      rintro e w9 ⟨rfl, rfl⟩
      rw [k2]
      clear zk
      have HVl : Hid (fVal bs (o1, 2) = (o1, 2)) := Lib.hid (by unfold fVal; rw [if_neg (by rw [show (o1, (2 : Nat)).1.kind = kk from hF1.kind]; simp [k2])])
      have zk : W.cell? ⟨Wk.heap.size, 0, none⟩ = some (.int .i64 kk) := by rw [← hF1.kind]; exact (op_cells hF1.op).1
      go_wp2_with fail
      refine (timed_any kk _).mono ?_
      rintro e w9 ⟨rfl, rfl⟩
      rw [k3]
      clear zk
      have HT : Hid (fTtl bs (o1, 2) = (o1, 2)) := Lib.hid (by unfold fTtl; rw [if_neg (by rw [show (o1, (2 : Nat)).1.kind = kk from hF1.kind]; simp [k3])])
      have HU : Hid (fBud bs (o1, 2) = (o1, 2)) := Lib.hid (by unfold fBud; rw [if_neg (by rw [show (o1, (2 : Nat)).1.kind = kk from hF1.kind]; (simpa using k4))])
      have zk : W.cell? ⟨Wk.heap.size, 0, none⟩ = some (.int .i64 kk) := by rw [← hF1.kind]; exact (op_cells hF1.op).1
      go_wp2_with fail
      refine (aimed_any kk _).mono ?_
      rintro e w9 ⟨rfl, rfl⟩
      rw [k5]
      clear zk
      have HA : Hid (fAim bs (o1, 2) = (o1, 2)) := Lib.hid (by unfold fAim; rw [if_neg (by rw [show (o1, (2 : Nat)).1.kind = kk from hF1.kind]; simp [k5])])
      have HBi : Hid (fBirth bs (o1, 2) = (o1, 2)) := Lib.hid (by unfold fBirth; rw [if_neg (by rw [show (o1, (2 : Nat)).1.kind = kk from hF1.kind]; (simpa using k6))])
      obtain ⟨z0, z1, z2, z3, z4, z5, z6, z7, z8⟩ := op_cells hF1.op
      rw [hF1.kind] at z0
      obtain ⟨y0, y1, y2, y3, y4, y5, y6, y7, y8⟩ := op_cells hF1.res
      have g0 := hF1.res.frozen 0
      have g1 := hF1.res.frozen 1
      have g2 := hF1.res.frozen 2
      have g3 := hF1.res.frozen 3
      have g4 := hF1.res.frozen 4
      have g5 := hF1.res.frozen 5
      have g6 := hF1.res.frozen 6
      have g7 := hF1.res.frozen 7
      have g8 := hF1.res.frozen 8
      have HFf := Lib.hid hF1
      clear hF1
      go_wp2_with fail
      generalize hW9 : World.setCell _ _ _ = W9
      have hW9' : set9 W w.heap.size o1 (.slice none (o1).val.length 0) = W9 := by unfold set9; rw [show (o1).kind = kk from HFf.out.kind]; exact hW9
      have hr9 : Blk W9 w.heap.size 41 (opc o1 (.slice none (o1).val.length 0)) := hW9' ▸ HFf.out.res.set9 _ _
      have ho9 : Only (fun k => k = w.heap.size) W W9 := hW9' ▸ Only.set9 _ _ _ _
      have hv9 : Bts W9 B 5 (.slice none (o1).val.length 0) (o1).val := HFf.out.val.keep (KeepB.of_blk HFf.out.res (by decide) HBw.out ho9)
      have hb9 : Below w.heap.size w W9 := HFf.out.below.trans (ho9.below (fun i hi _ e => by omega) HFf.out.below.size)
      clear hW9 hW9' ho9 y0 y1 y2 y3 y4 y5 y6 y7 y8 g0 g1 g2 g3 g4 g5 g6 g7 g8 z0 z1 z2 z3 z4 z5 z6 z7 z8
      obtain ⟨z0, z1, z2, z3, z4, z5, z6, z7, z8⟩ := op_cells hr9
      have hfin : firstP bs = (o1, 2) := by unfold firstP; rw [HH.out, HK.out, HVl.out, HT.out, HU.out, HA.out, HBi.out]
      refine bodyPost_ret (v := .tuple #[opv o1 (.slice none (o1).val.length 0), .int .i64 (2 : Nat)]) ?_ rfl ?_
      · simp [results, Tryz.results48, go_sem, opv, opc, z0, z1, z2, z3, z4, z5, z6, z7, z8]
      unfold FirstRet
      rw [hfin]
      exact ⟨_, _, rfl, hv9, hb9⟩
  · have e15 : ((x : Int) / 16 == 15) = false := by simp; omega
    go_upto_region 6 with fail
    have hhd : fHead bs = (op0 x, 1) := by unfold fHead; rw [HX.out, if_neg h15]
    have hF1 := HF0.out
    generalize World.alloc _ _ = W at hF1 ⊢
    obtain ⟨o1, ho1⟩ : ∃ o1, op0 x = o1 := ⟨_, rfl⟩
    have HOv : Hid (o1.val = []) := Lib.hid (ho1 ▸ rfl)
    rw [ho1] at hhd hF1
    have HH := Lib.hid hhd
    clear hhd ho1
    have hcl := classes kk HKm.out
    simp only [List.mem_cons, List.not_mem_nil, or_false, Prod.mk.injEq] at hcl
    clear hc
    rcases hcl with ⟨k1, k2, k3, k4, k5, k6⟩ | ⟨k1, k2, k3, k4, k5, k6⟩ | ⟨k1, k2, k3, k4, k5, k6⟩ | ⟨k1, k2, k3, k4, k5, k6⟩ | ⟨k1, k2, k3, k4, k5, k6⟩ | ⟨k1, k2, k3, k4, k5, k6⟩ | ⟨k1, k2, k3, k4, k5, k6⟩ | ⟨k1, k2, k3, k4, k5, k6⟩
    · have zk : W.cell? ⟨Wk.heap.size, 0, none⟩ = some (.int .i64 kk) := by rw [← hF1.kind]; exact (op_cells hF1.op).1
      go_wp2_with fail
      refine (keyed_any kk _).mono ?_
      rintro e w9 ⟨rfl, rfl⟩
      rw [k1]
      clear zk
      go_wp2_with fail
      refine (at_any B _ bs 1 _ hF1.src (by omega)).mono ?_
      rintro e w9 ⟨rfl, rfl⟩
      obtain ⟨n, hn⟩ : ∃ n, (atP bs 1).toNat = n := ⟨_, rfl⟩
      have hn256 : n < 256 := hn ▸ (atP bs 1).toNat_lt
      have HN := Lib.hid hn
      rw [hn]
      clear hn
      have hnI : (n : Int) < 256 := by omega
      have n1 : IntKind.i64.wrap (n : Int) = (n : Int) := by rw [IntKind.wrap_i64]; omega
      obtain ⟨m, hm⟩ : ∃ m, n % 32 = m := ⟨_, rfl⟩
      have hm32 : m < 32 := by omega
      have n2 : (n : Int) % 32 = (m : Int) := by omega
      have HM := Lib.hid hm
      clear hm
      have a1 : IntKind.i64.wrap ((1 : Int) + 1) = ((2 : Nat) : Int) := by rw [IntKind.wrap_i64]; omega
      have a2 : IntKind.i64.wrap (((2 : Nat) : Int) + (m : Int)) = ((2 + m : Nat) : Int) := by rw [IntKind.wrap_i64]; omega
      have HP := partR_any B _ bs (2) m _ hF1.src (by omega) (by omega)
      obtain ⟨l, hl⟩ : ∃ l, partP bs (2) m = l := ⟨_, rfl⟩
      have hlm : l.length = m := by rw [← hl, partP_length]
      rw [hl] at HP
      have HL := Lib.hid hl
      have HP := Lib.hid HP
      clear hl
      go_wp2_with fail
      refine HP.out.mono ?_
      rintro e w10 ⟨v, rfl, hown, hb⟩
      obtain ⟨A1, c1, rfl, _, _⟩ := own_form hown
      have cv := (Bts.of_own hown B).string (P := Tryz.prog) 39 9 Tryz.underlying39 Tryz.underlying5 Tryz.underlying9
      have HF2 := Lib.hid (hF1.adv hb)
      obtain ⟨z0, z1, z2, z3, z4, z5, z6, z7, z8⟩ := op_cells HF2.out.op
      have f2 := HF2.out.op.frozen 2
      rw [hlm] at cv
      clear z0 z1 z3 z4 z5 z6 z7 z8 hF1 HP hown hb
      go_upto_region 9 with fail
      obtain ⟨o2, ho2⟩ : ∃ o2, { o1 with key := ⟨l.toArray⟩ } = o2 := ⟨_, rfl⟩
      obtain ⟨i2, hi2⟩ : ∃ i2, 2 + m = i2 := ⟨_, rfl⟩
      have hF1 := HF2.out.store HBw.out (q' := (o2, i2)) (j := 2) (v := .string ⟨l.toArray⟩) (A' := none) (c' := 0) (by rw [← ho2]; simp [opc, HOv.out]) (by rw [← ho2]; exact (by rw [HOv.out]; exact Bts.nil _ _ _)) (by rw [← ho2]; exact HF2.out.kind) (by show i2 ≤ 10000; omega)
      have HK : Hid (fKey bs (o1, 1) = (o2, i2)) := Lib.hid (by unfold fKey; rw [if_pos (by rw [show (o1, (1 : Nat)).1.kind = kk from HF2.out.kind]; exact k1)]; dsimp only; rw [HN.out, HM.out, HL.out, ho2, hi2])
      have e2 : (2 + (m : Int)) = (i2 : Int) := by omega
      have hi2b : i2 ≤ 40 := by omega
      generalize World.setCell _ _ _ = W at hF1 ⊢
      simp only [e2]
      clear e2 HP
      clear HF2 z2 f2 cv n1 n2 a1 a2 HN HM HL hnI hn256 hm32 hlm ho2 hi2
      have zk : W.cell? ⟨Wk.heap.size, 0, none⟩ = some (.int .i64 kk) := by rw [← hF1.kind]; exact (op_cells hF1.op).1
      go_wp2_with fail
      refine (valued_any kk _).mono ?_
      rintro e w9 ⟨rfl, rfl⟩
      rw [k2]
      clear zk
      have HVl : Hid (fVal bs (o2, i2) = (o2, i2)) := Lib.hid (by unfold fVal; rw [if_neg (by rw [show (o2, (i2 : Nat)).1.kind = kk from hF1.kind]; simp [k2])])
      have zk : W.cell? ⟨Wk.heap.size, 0, none⟩ = some (.int .i64 kk) := by rw [← hF1.kind]; exact (op_cells hF1.op).1
      go_wp2_with fail
      refine (timed_any kk _).mono ?_
      rintro e w9 ⟨rfl, rfl⟩
      rw [k3]
      clear zk
      have HT : Hid (fTtl bs (o2, i2) = (o2, i2)) := Lib.hid (by unfold fTtl; rw [if_neg (by rw [show (o2, (i2 : Nat)).1.kind = kk from hF1.kind]; simp [k3])])
      have HU : Hid (fBud bs (o2, i2) = (o2, i2)) := Lib.hid (by unfold fBud; rw [if_neg (by rw [show (o2, (i2 : Nat)).1.kind = kk from hF1.kind]; (simpa using k4))])
      have zk : W.cell? ⟨Wk.heap.size, 0, none⟩ = some (.int .i64 kk) := by rw [← hF1.kind]; exact (op_cells hF1.op).1
      go_wp2_with fail
      refine (aimed_any kk _).mono ?_
      rintro e w9 ⟨rfl, rfl⟩
      rw [k5]
      clear zk
      have HA : Hid (fAim bs (o2, i2) = (o2, i2)) := Lib.hid (by unfold fAim; rw [if_neg (by rw [show (o2, (i2 : Nat)).1.kind = kk from hF1.kind]; simp [k5])])
      have HBi : Hid (fBirth bs (o2, i2) = (o2, i2)) := Lib.hid (by unfold fBirth; rw [if_neg (by rw [show (o2, (i2 : Nat)).1.kind = kk from hF1.kind]; (simpa using k6))])
      obtain ⟨z0, z1, z2, z3, z4, z5, z6, z7, z8⟩ := op_cells hF1.op
      rw [hF1.kind] at z0
      obtain ⟨y0, y1, y2, y3, y4, y5, y6, y7, y8⟩ := op_cells hF1.res
      have g0 := hF1.res.frozen 0
      have g1 := hF1.res.frozen 1
      have g2 := hF1.res.frozen 2
      have g3 := hF1.res.frozen 3
      have g4 := hF1.res.frozen 4
      have g5 := hF1.res.frozen 5
      have g6 := hF1.res.frozen 6
      have g7 := hF1.res.frozen 7
      have g8 := hF1.res.frozen 8
      have HFf := Lib.hid hF1
      clear hF1
      go_wp2_with fail
      generalize hW9 : World.setCell _ _ _ = W9
      have hW9' : set9 W w.heap.size o2 (.slice none (o2).val.length 0) = W9 := by unfold set9; rw [show (o2).kind = kk from HFf.out.kind]; exact hW9
      have hr9 : Blk W9 w.heap.size 41 (opc o2 (.slice none (o2).val.length 0)) := hW9' ▸ HFf.out.res.set9 _ _
      have ho9 : Only (fun k => k = w.heap.size) W W9 := hW9' ▸ Only.set9 _ _ _ _
      have hv9 : Bts W9 B 5 (.slice none (o2).val.length 0) (o2).val := HFf.out.val.keep (KeepB.of_blk HFf.out.res (by decide) HBw.out ho9)
      have hb9 : Below w.heap.size w W9 := HFf.out.below.trans (ho9.below (fun i hi _ e => by omega) HFf.out.below.size)
      clear hW9 hW9' ho9 y0 y1 y2 y3 y4 y5 y6 y7 y8 g0 g1 g2 g3 g4 g5 g6 g7 g8 z0 z1 z2 z3 z4 z5 z6 z7 z8
      obtain ⟨z0, z1, z2, z3, z4, z5, z6, z7, z8⟩ := op_cells hr9
      have hfin : firstP bs = (o2, i2) := by unfold firstP; rw [HH.out, HK.out, HVl.out, HT.out, HU.out, HA.out, HBi.out]
      refine bodyPost_ret (v := .tuple #[opv o2 (.slice none (o2).val.length 0), .int .i64 (i2 : Nat)]) ?_ rfl ?_
      · simp [results, Tryz.results48, go_sem, opv, opc, z0, z1, z2, z3, z4, z5, z6, z7, z8]
      unfold FirstRet
      rw [hfin]
      exact ⟨_, _, rfl, hv9, hb9⟩
    · have zk : W.cell? ⟨Wk.heap.size, 0, none⟩ = some (.int .i64 kk) := by rw [← hF1.kind]; exact (op_cells hF1.op).1
      go_wp2_with fail
      refine (keyed_any kk _).mono ?_
      rintro e w9 ⟨rfl, rfl⟩
      rw [k1]
      clear zk
      go_wp2_with fail
      refine (at_any B _ bs 1 _ hF1.src (by omega)).mono ?_
      rintro e w9 ⟨rfl, rfl⟩
      obtain ⟨n, hn⟩ : ∃ n, (atP bs 1).toNat = n := ⟨_, rfl⟩
      have hn256 : n < 256 := hn ▸ (atP bs 1).toNat_lt
      have HN := Lib.hid hn
      rw [hn]
      clear hn
      have hnI : (n : Int) < 256 := by omega
      have n1 : IntKind.i64.wrap (n : Int) = (n : Int) := by rw [IntKind.wrap_i64]; omega
      obtain ⟨m, hm⟩ : ∃ m, n % 32 = m := ⟨_, rfl⟩
      have hm32 : m < 32 := by omega
      have n2 : (n : Int) % 32 = (m : Int) := by omega
      have HM := Lib.hid hm
      clear hm
      have a1 : IntKind.i64.wrap ((1 : Int) + 1) = ((2 : Nat) : Int) := by rw [IntKind.wrap_i64]; omega
      have a2 : IntKind.i64.wrap (((2 : Nat) : Int) + (m : Int)) = ((2 + m : Nat) : Int) := by rw [IntKind.wrap_i64]; omega
      have HP := partR_any B _ bs (2) m _ hF1.src (by omega) (by omega)
      obtain ⟨l, hl⟩ : ∃ l, partP bs (2) m = l := ⟨_, rfl⟩
      have hlm : l.length = m := by rw [← hl, partP_length]
      rw [hl] at HP
      have HL := Lib.hid hl
      have HP := Lib.hid HP
      clear hl
      go_wp2_with fail
      refine HP.out.mono ?_
      rintro e w10 ⟨v, rfl, hown, hb⟩
      obtain ⟨A1, c1, rfl, _, _⟩ := own_form hown
      have cv := (Bts.of_own hown B).string (P := Tryz.prog) 39 9 Tryz.underlying39 Tryz.underlying5 Tryz.underlying9
      have HF2 := Lib.hid (hF1.adv hb)
      obtain ⟨z0, z1, z2, z3, z4, z5, z6, z7, z8⟩ := op_cells HF2.out.op
      have f2 := HF2.out.op.frozen 2
      rw [hlm] at cv
      clear z0 z1 z3 z4 z5 z6 z7 z8 hF1 HP hown hb
      go_upto_region 9 with fail
      obtain ⟨o2, ho2⟩ : ∃ o2, { o1 with key := ⟨l.toArray⟩ } = o2 := ⟨_, rfl⟩
      obtain ⟨i2, hi2⟩ : ∃ i2, 2 + m = i2 := ⟨_, rfl⟩
      have hF1 := HF2.out.store HBw.out (q' := (o2, i2)) (j := 2) (v := .string ⟨l.toArray⟩) (A' := none) (c' := 0) (by rw [← ho2]; simp [opc, HOv.out]) (by rw [← ho2]; exact (by rw [HOv.out]; exact Bts.nil _ _ _)) (by rw [← ho2]; exact HF2.out.kind) (by show i2 ≤ 10000; omega)
      have HK : Hid (fKey bs (o1, 1) = (o2, i2)) := Lib.hid (by unfold fKey; rw [if_pos (by rw [show (o1, (1 : Nat)).1.kind = kk from HF2.out.kind]; exact k1)]; dsimp only; rw [HN.out, HM.out, HL.out, ho2, hi2])
      have e2 : (2 + (m : Int)) = (i2 : Int) := by omega
      have hi2b : i2 ≤ 40 := by omega
      generalize World.setCell _ _ _ = W at hF1 ⊢
      simp only [e2]
      clear e2 HP
      clear HF2 z2 f2 cv n1 n2 a1 a2 HN HM HL hnI hn256 hm32 hlm ho2 hi2
      have zk : W.cell? ⟨Wk.heap.size, 0, none⟩ = some (.int .i64 kk) := by rw [← hF1.kind]; exact (op_cells hF1.op).1
      go_wp2_with fail
      refine (valued_any kk _).mono ?_
      rintro e w9 ⟨rfl, rfl⟩
      rw [k2]
      clear zk
      go_wp2_with fail
      refine (at_any B _ bs i2 _ hF1.src (by omega)).mono ?_
      rintro e w9 ⟨rfl, rfl⟩
      obtain ⟨n, hn⟩ : ∃ n, (atP bs i2).toNat = n := ⟨_, rfl⟩
      have hn256 : n < 256 := hn ▸ (atP bs i2).toNat_lt
      have HN := Lib.hid hn
      rw [hn]
      clear hn
      have hnI : (n : Int) < 256 := by omega
      have n1 : IntKind.i64.wrap (n : Int) = (n : Int) := by rw [IntKind.wrap_i64]; omega
      have a1 : IntKind.i64.wrap ((i2 : Int) + 1) = (((i2 + 1) : Nat) : Int) := by rw [IntKind.wrap_i64]; omega
      have a2 : IntKind.i64.wrap ((((i2 + 1) : Nat) : Int) + (n : Int)) = (((i2 + 1) + n : Nat) : Int) := by rw [IntKind.wrap_i64]; omega
      have HP := partR_any B _ bs ((i2 + 1)) n _ hF1.src (by omega) (by omega)
      obtain ⟨l, hl⟩ : ∃ l, partP bs ((i2 + 1)) n = l := ⟨_, rfl⟩
      have hln : l.length = n := by rw [← hl, partP_length]
      rw [hl] at HP
      have HL := Lib.hid hl
      have HP := Lib.hid HP
      clear hl
      go_wp2_with fail
      refine HP.out.mono ?_
      rintro e w10 ⟨v, rfl, hown, hb⟩
      obtain ⟨A1, c1, rfl, _, _⟩ := own_form hown
      have HBt : Hid (Bts w10 B 5 (.slice A1 l.length c1) l) := Lib.hid (Bts.of_own hown B)
      have HF2 := Lib.hid (hF1.adv hb)
      obtain ⟨z0, z1, z2, z3, z4, z5, z6, z7, z8⟩ := op_cells HF2.out.op
      have f3 := HF2.out.op.frozen 3
      clear z0 z1 z2 z4 z5 z6 z7 z8 hF1 HP hown hb
      go_upto_region 12 with fail
      obtain ⟨o3, ho3⟩ : ∃ o3, { o2 with val := l } = o3 := ⟨_, rfl⟩
      obtain ⟨i3, hi3⟩ : ∃ i3, (i2 + 1) + n = i3 := ⟨_, rfl⟩
      have hov3 : o3.val = l := ho3 ▸ rfl
      have hF1 := HF2.out.store HBw.out (q' := (o3, i3)) (j := 3) (v := .slice A1 n c1) (A' := A1) (c' := c1) (by rw [← ho3]; simp [opc, hln]) (by rw [← ho3]; exact HBt.out) (by rw [← ho3]; exact HF2.out.kind) (by show i3 ≤ 10000; omega)
      have HVl : Hid (fVal bs (o2, i2) = (o3, i3)) := Lib.hid (by unfold fVal; rw [if_pos (by rw [show (o2, (i2 : Nat)).1.kind = kk from HF2.out.kind]; exact k2)]; dsimp only; rw [HN.out, HL.out, ho3, hi3])
      have e2 : ((i2 : Int) + 1 + (n : Int)) = (i3 : Int) := by omega
      have hi3b : i3 ≤ 400 := by omega
      generalize World.setCell _ _ _ = W at hF1 ⊢
      simp only [e2]
      clear e2 HF2 z3 f3 n1 a1 a2 HN HL HBt hnI hn256 hln ho3 hi3 hov3
      have zk : W.cell? ⟨Wk.heap.size, 0, none⟩ = some (.int .i64 kk) := by rw [← hF1.kind]; exact (op_cells hF1.op).1
      go_wp2_with fail
      refine (timed_any kk _).mono ?_
      rintro e w9 ⟨rfl, rfl⟩
      rw [k3]
      clear zk
      have HT : Hid (fTtl bs (o3, i3) = (o3, i3)) := Lib.hid (by unfold fTtl; rw [if_neg (by rw [show (o3, (i3 : Nat)).1.kind = kk from hF1.kind]; simp [k3])])
      have HU : Hid (fBud bs (o3, i3) = (o3, i3)) := Lib.hid (by unfold fBud; rw [if_neg (by rw [show (o3, (i3 : Nat)).1.kind = kk from hF1.kind]; (simpa using k4))])
      have zk : W.cell? ⟨Wk.heap.size, 0, none⟩ = some (.int .i64 kk) := by rw [← hF1.kind]; exact (op_cells hF1.op).1
      go_wp2_with fail
      refine (aimed_any kk _).mono ?_
      rintro e w9 ⟨rfl, rfl⟩
      rw [k5]
      clear zk
      have HA : Hid (fAim bs (o3, i3) = (o3, i3)) := Lib.hid (by unfold fAim; rw [if_neg (by rw [show (o3, (i3 : Nat)).1.kind = kk from hF1.kind]; simp [k5])])
      have HBi : Hid (fBirth bs (o3, i3) = (o3, i3)) := Lib.hid (by unfold fBirth; rw [if_neg (by rw [show (o3, (i3 : Nat)).1.kind = kk from hF1.kind]; (simpa using k6))])
      obtain ⟨z0, z1, z2, z3, z4, z5, z6, z7, z8⟩ := op_cells hF1.op
      rw [hF1.kind] at z0
      obtain ⟨y0, y1, y2, y3, y4, y5, y6, y7, y8⟩ := op_cells hF1.res
      have g0 := hF1.res.frozen 0
      have g1 := hF1.res.frozen 1
      have g2 := hF1.res.frozen 2
      have g3 := hF1.res.frozen 3
      have g4 := hF1.res.frozen 4
      have g5 := hF1.res.frozen 5
      have g6 := hF1.res.frozen 6
      have g7 := hF1.res.frozen 7
      have g8 := hF1.res.frozen 8
      have HFf := Lib.hid hF1
      clear hF1
      go_wp2_with fail
      generalize hW9 : World.setCell _ _ _ = W9
      have hW9' : set9 W w.heap.size o3 (.slice A1 (o3).val.length c1) = W9 := by unfold set9; rw [show (o3).kind = kk from HFf.out.kind]; exact hW9
      have hr9 : Blk W9 w.heap.size 41 (opc o3 (.slice A1 (o3).val.length c1)) := hW9' ▸ HFf.out.res.set9 _ _
      have ho9 : Only (fun k => k = w.heap.size) W W9 := hW9' ▸ Only.set9 _ _ _ _
      have hv9 : Bts W9 B 5 (.slice A1 (o3).val.length c1) (o3).val := HFf.out.val.keep (KeepB.of_blk HFf.out.res (by decide) HBw.out ho9)
      have hb9 : Below w.heap.size w W9 := HFf.out.below.trans (ho9.below (fun i hi _ e => by omega) HFf.out.below.size)
      clear hW9 hW9' ho9 y0 y1 y2 y3 y4 y5 y6 y7 y8 g0 g1 g2 g3 g4 g5 g6 g7 g8 z0 z1 z2 z3 z4 z5 z6 z7 z8
      obtain ⟨z0, z1, z2, z3, z4, z5, z6, z7, z8⟩ := op_cells hr9
      have hfin : firstP bs = (o3, i3) := by unfold firstP; rw [HH.out, HK.out, HVl.out, HT.out, HU.out, HA.out, HBi.out]
      refine bodyPost_ret (v := .tuple #[opv o3 (.slice A1 (o3).val.length c1), .int .i64 (i3 : Nat)]) ?_ rfl ?_
      · simp [results, Tryz.results48, go_sem, opv, opc, z0, z1, z2, z3, z4, z5, z6, z7, z8]
      unfold FirstRet
      rw [hfin]
      exact ⟨_, _, rfl, hv9, hb9⟩
    · have zk : W.cell? ⟨Wk.heap.size, 0, none⟩ = some (.int .i64 kk) := by rw [← hF1.kind]; exact (op_cells hF1.op).1
      go_wp2_with fail
      refine (keyed_any kk _).mono ?_
      rintro e w9 ⟨rfl, rfl⟩
      rw [k1]
      clear zk
      go_wp2_with fail
      refine (at_any B _ bs 1 _ hF1.src (by omega)).mono ?_
      rintro e w9 ⟨rfl, rfl⟩
      obtain ⟨n, hn⟩ : ∃ n, (atP bs 1).toNat = n := ⟨_, rfl⟩
      have hn256 : n < 256 := hn ▸ (atP bs 1).toNat_lt
      have HN := Lib.hid hn
      rw [hn]
      clear hn
      have hnI : (n : Int) < 256 := by omega
      have n1 : IntKind.i64.wrap (n : Int) = (n : Int) := by rw [IntKind.wrap_i64]; omega
      obtain ⟨m, hm⟩ : ∃ m, n % 32 = m := ⟨_, rfl⟩
      have hm32 : m < 32 := by omega
      have n2 : (n : Int) % 32 = (m : Int) := by omega
      have HM := Lib.hid hm
      clear hm
      have a1 : IntKind.i64.wrap ((1 : Int) + 1) = ((2 : Nat) : Int) := by rw [IntKind.wrap_i64]; omega
      have a2 : IntKind.i64.wrap (((2 : Nat) : Int) + (m : Int)) = ((2 + m : Nat) : Int) := by rw [IntKind.wrap_i64]; omega
      have HP := partR_any B _ bs (2) m _ hF1.src (by omega) (by omega)
      obtain ⟨l, hl⟩ : ∃ l, partP bs (2) m = l := ⟨_, rfl⟩
      have hlm : l.length = m := by rw [← hl, partP_length]
      rw [hl] at HP
      have HL := Lib.hid hl
      have HP := Lib.hid HP
      clear hl
      go_wp2_with fail
      refine HP.out.mono ?_
      rintro e w10 ⟨v, rfl, hown, hb⟩
      obtain ⟨A1, c1, rfl, _, _⟩ := own_form hown
      have cv := (Bts.of_own hown B).string (P := Tryz.prog) 39 9 Tryz.underlying39 Tryz.underlying5 Tryz.underlying9
      have HF2 := Lib.hid (hF1.adv hb)
      obtain ⟨z0, z1, z2, z3, z4, z5, z6, z7, z8⟩ := op_cells HF2.out.op
      have f2 := HF2.out.op.frozen 2
      rw [hlm] at cv
      clear z0 z1 z3 z4 z5 z6 z7 z8 hF1 HP hown hb
      go_upto_region 9 with fail
      obtain ⟨o2, ho2⟩ : ∃ o2, { o1 with key := ⟨l.toArray⟩ } = o2 := ⟨_, rfl⟩
      obtain ⟨i2, hi2⟩ : ∃ i2, 2 + m = i2 := ⟨_, rfl⟩
      have hF1 := HF2.out.store HBw.out (q' := (o2, i2)) (j := 2) (v := .string ⟨l.toArray⟩) (A' := none) (c' := 0) (by rw [← ho2]; simp [opc, HOv.out]) (by rw [← ho2]; exact (by rw [HOv.out]; exact Bts.nil _ _ _)) (by rw [← ho2]; exact HF2.out.kind) (by show i2 ≤ 10000; omega)
      have HK : Hid (fKey bs (o1, 1) = (o2, i2)) := Lib.hid (by unfold fKey; rw [if_pos (by rw [show (o1, (1 : Nat)).1.kind = kk from HF2.out.kind]; exact k1)]; dsimp only; rw [HN.out, HM.out, HL.out, ho2, hi2])
      have e2 : (2 + (m : Int)) = (i2 : Int) := by omega
      have hi2b : i2 ≤ 40 := by omega
      generalize World.setCell _ _ _ = W at hF1 ⊢
      simp only [e2]
      clear e2 HP
      clear HF2 z2 f2 cv n1 n2 a1 a2 HN HM HL hnI hn256 hm32 hlm ho2 hi2
      have zk : W.cell? ⟨Wk.heap.size, 0, none⟩ = some (.int .i64 kk) := by rw [← hF1.kind]; exact (op_cells hF1.op).1
      go_wp2_with fail
      refine (valued_any kk _).mono ?_
      rintro e w9 ⟨rfl, rfl⟩
      rw [k2]
      clear zk
      go_wp2_with fail
      refine (at_any B _ bs i2 _ hF1.src (by omega)).mono ?_
      rintro e w9 ⟨rfl, rfl⟩
      obtain ⟨n, hn⟩ : ∃ n, (atP bs i2).toNat = n := ⟨_, rfl⟩
      have hn256 : n < 256 := hn ▸ (atP bs i2).toNat_lt
      have HN := Lib.hid hn
      rw [hn]
      clear hn
      have hnI : (n : Int) < 256 := by omega
      have n1 : IntKind.i64.wrap (n : Int) = (n : Int) := by rw [IntKind.wrap_i64]; omega
      have a1 : IntKind.i64.wrap ((i2 : Int) + 1) = (((i2 + 1) : Nat) : Int) := by rw [IntKind.wrap_i64]; omega
      have a2 : IntKind.i64.wrap ((((i2 + 1) : Nat) : Int) + (n : Int)) = (((i2 + 1) + n : Nat) : Int) := by rw [IntKind.wrap_i64]; omega
      have HP := partR_any B _ bs ((i2 + 1)) n _ hF1.src (by omega) (by omega)
      obtain ⟨l, hl⟩ : ∃ l, partP bs ((i2 + 1)) n = l := ⟨_, rfl⟩
      have hln : l.length = n := by rw [← hl, partP_length]
      rw [hl] at HP
      have HL := Lib.hid hl
      have HP := Lib.hid HP
      clear hl
      go_wp2_with fail
      refine HP.out.mono ?_
      rintro e w10 ⟨v, rfl, hown, hb⟩
      obtain ⟨A1, c1, rfl, _, _⟩ := own_form hown
      have HBt : Hid (Bts w10 B 5 (.slice A1 l.length c1) l) := Lib.hid (Bts.of_own hown B)
      have HF2 := Lib.hid (hF1.adv hb)
      obtain ⟨z0, z1, z2, z3, z4, z5, z6, z7, z8⟩ := op_cells HF2.out.op
      have f3 := HF2.out.op.frozen 3
      clear z0 z1 z2 z4 z5 z6 z7 z8 hF1 HP hown hb
      go_upto_region 12 with fail
      obtain ⟨o3, ho3⟩ : ∃ o3, { o2 with val := l } = o3 := ⟨_, rfl⟩
      obtain ⟨i3, hi3⟩ : ∃ i3, (i2 + 1) + n = i3 := ⟨_, rfl⟩
      have hov3 : o3.val = l := ho3 ▸ rfl
      have hF1 := HF2.out.store HBw.out (q' := (o3, i3)) (j := 3) (v := .slice A1 n c1) (A' := A1) (c' := c1) (by rw [← ho3]; simp [opc, hln]) (by rw [← ho3]; exact HBt.out) (by rw [← ho3]; exact HF2.out.kind) (by show i3 ≤ 10000; omega)
      have HVl : Hid (fVal bs (o2, i2) = (o3, i3)) := Lib.hid (by unfold fVal; rw [if_pos (by rw [show (o2, (i2 : Nat)).1.kind = kk from HF2.out.kind]; exact k2)]; dsimp only; rw [HN.out, HL.out, ho3, hi3])
      have e2 : ((i2 : Int) + 1 + (n : Int)) = (i3 : Int) := by omega
      have hi3b : i3 ≤ 400 := by omega
      generalize World.setCell _ _ _ = W at hF1 ⊢
      simp only [e2]
      clear e2 HF2 z3 f3 n1 a1 a2 HN HL HBt hnI hn256 hln ho3 hi3 hov3
      have zk : W.cell? ⟨Wk.heap.size, 0, none⟩ = some (.int .i64 kk) := by rw [← hF1.kind]; exact (op_cells hF1.op).1
      go_wp2_with fail
      refine (timed_any kk _).mono ?_
      rintro e w9 ⟨rfl, rfl⟩
      rw [k3]
      clear zk
      have HP := numR_any B _ bs (i3) 2 _ hF1.src (by omega) (by omega)
      have hlt := numBE_lt (partP bs (i3) 2)
      rw [partP_length] at hlt
      obtain ⟨t, ht⟩ : ∃ t, numP bs (i3) 2 = t := ⟨_, rfl⟩
      have ht6 : t < 65536 := by rw [← ht]; exact hlt
      rw [ht] at HP
      have HT0 := Lib.hid ht
      have HP := Lib.hid HP
      clear ht hlt
      have htI : (t : Int) < 65536 := by omega
      have n1 : IntKind.u64.wrap (t : Int) = (t : Int) := by rw [IntKind.wrap_u64]; omega
      have a1 : IntKind.i64.wrap ((i3 : Int) + 2) = ((i3 + 2 : Nat) : Int) := by rw [IntKind.wrap_i64]; omega
      have HF2 := Lib.hid hF1
      obtain ⟨z0, z1, z2, z3, z4, z5, z6, z7, z8⟩ := op_cells HF2.out.op
      have f4 := HF2.out.op.frozen 4
      clear z0 z1 z2 z3 z5 z6 z7 z8 hF1
      go_wp2_with fail
      refine HP.out.mono ?_
      rintro e w10 ⟨rfl, rfl⟩
      clear HP
      go_upto_region 14 with fail
      obtain ⟨o4, ho4⟩ : ∃ o4, { o3 with ttl := (t : Int) } = o4 := ⟨_, rfl⟩
      obtain ⟨i4, hi4⟩ : ∃ i4, i3 + 2 = i4 := ⟨_, rfl⟩
      have hF1 := HF2.out.store HBw.out (q' := (o4, i4)) (j := 4) (v := .int .u64 t) (A' := A1) (c' := c1) (by rw [← ho4]; simp [opc]) (by rw [← ho4]; exact HF2.out.val) (by rw [← ho4]; exact HF2.out.kind) (by show i4 ≤ 10000; omega)
      have HT : Hid (fTtl bs (o3, i3) = (o4, i4)) := Lib.hid (by unfold fTtl; rw [if_pos (by rw [show (o3, (i3 : Nat)).1.kind = kk from HF2.out.kind]; exact k3)]; dsimp only; rw [HT0.out, ho4, hi4])
      have e2 : ((i3 : Int) + 2) = (i4 : Int) := by omega
      have hi4b : i4 ≤ 500 := by omega
      generalize World.setCell _ _ _ = W at hF1 ⊢
      simp only [e2]
      clear e2 HF2 z4 f4 n1 a1 HT0 htI ht6 ho4 hi4
      have HU : Hid (fBud bs (o4, i4) = (o4, i4)) := Lib.hid (by unfold fBud; rw [if_neg (by rw [show (o4, (i4 : Nat)).1.kind = kk from hF1.kind]; (simpa using k4))])
      have zk : W.cell? ⟨Wk.heap.size, 0, none⟩ = some (.int .i64 kk) := by rw [← hF1.kind]; exact (op_cells hF1.op).1
      go_wp2_with fail
      refine (aimed_any kk _).mono ?_
      rintro e w9 ⟨rfl, rfl⟩
      rw [k5]
      clear zk
      have HA : Hid (fAim bs (o4, i4) = (o4, i4)) := Lib.hid (by unfold fAim; rw [if_neg (by rw [show (o4, (i4 : Nat)).1.kind = kk from hF1.kind]; simp [k5])])
      have HBi : Hid (fBirth bs (o4, i4) = (o4, i4)) := Lib.hid (by unfold fBirth; rw [if_neg (by rw [show (o4, (i4 : Nat)).1.kind = kk from hF1.kind]; (simpa using k6))])
      obtain ⟨z0, z1, z2, z3, z4, z5, z6, z7, z8⟩ := op_cells hF1.op
      rw [hF1.kind] at z0
      obtain ⟨y0, y1, y2, y3, y4, y5, y6, y7, y8⟩ := op_cells hF1.res
      have g0 := hF1.res.frozen 0
      have g1 := hF1.res.frozen 1
      have g2 := hF1.res.frozen 2
      have g3 := hF1.res.frozen 3
      have g4 := hF1.res.frozen 4
      have g5 := hF1.res.frozen 5
      have g6 := hF1.res.frozen 6
      have g7 := hF1.res.frozen 7
      have g8 := hF1.res.frozen 8
      have HFf := Lib.hid hF1
      clear hF1
      go_wp2_with fail
      generalize hW9 : World.setCell _ _ _ = W9
      have hW9' : set9 W w.heap.size o4 (.slice A1 (o4).val.length c1) = W9 := by unfold set9; rw [show (o4).kind = kk from HFf.out.kind]; exact hW9
      have hr9 : Blk W9 w.heap.size 41 (opc o4 (.slice A1 (o4).val.length c1)) := hW9' ▸ HFf.out.res.set9 _ _
      have ho9 : Only (fun k => k = w.heap.size) W W9 := hW9' ▸ Only.set9 _ _ _ _
      have hv9 : Bts W9 B 5 (.slice A1 (o4).val.length c1) (o4).val := HFf.out.val.keep (KeepB.of_blk HFf.out.res (by decide) HBw.out ho9)
      have hb9 : Below w.heap.size w W9 := HFf.out.below.trans (ho9.below (fun i hi _ e => by omega) HFf.out.below.size)
      clear hW9 hW9' ho9 y0 y1 y2 y3 y4 y5 y6 y7 y8 g0 g1 g2 g3 g4 g5 g6 g7 g8 z0 z1 z2 z3 z4 z5 z6 z7 z8
      obtain ⟨z0, z1, z2, z3, z4, z5, z6, z7, z8⟩ := op_cells hr9
      have hfin : firstP bs = (o4, i4) := by unfold firstP; rw [HH.out, HK.out, HVl.out, HT.out, HU.out, HA.out, HBi.out]
      refine bodyPost_ret (v := .tuple #[opv o4 (.slice A1 (o4).val.length c1), .int .i64 (i4 : Nat)]) ?_ rfl ?_
      · simp [results, Tryz.results48, go_sem, opv, opc, z0, z1, z2, z3, z4, z5, z6, z7, z8]
      unfold FirstRet
      rw [hfin]
      exact ⟨_, _, rfl, hv9, hb9⟩
    · have zk : W.cell? ⟨Wk.heap.size, 0, none⟩ = some (.int .i64 kk) := by rw [← hF1.kind]; exact (op_cells hF1.op).1
      go_wp2_with fail
      refine (keyed_any kk _).mono ?_
      rintro e w9 ⟨rfl, rfl⟩
      rw [k1]
      clear zk
      go_wp2_with fail
      refine (at_any B _ bs 1 _ hF1.src (by omega)).mono ?_
      rintro e w9 ⟨rfl, rfl⟩
      obtain ⟨n, hn⟩ : ∃ n, (atP bs 1).toNat = n := ⟨_, rfl⟩
      have hn256 : n < 256 := hn ▸ (atP bs 1).toNat_lt
      have HN := Lib.hid hn
      rw [hn]
      clear hn
      have hnI : (n : Int) < 256 := by omega
      have n1 : IntKind.i64.wrap (n : Int) = (n : Int) := by rw [IntKind.wrap_i64]; omega
      obtain ⟨m, hm⟩ : ∃ m, n % 32 = m := ⟨_, rfl⟩
      have hm32 : m < 32 := by omega
      have n2 : (n : Int) % 32 = (m : Int) := by omega
      have HM := Lib.hid hm
      clear hm
      have a1 : IntKind.i64.wrap ((1 : Int) + 1) = ((2 : Nat) : Int) := by rw [IntKind.wrap_i64]; omega
      have a2 : IntKind.i64.wrap (((2 : Nat) : Int) + (m : Int)) = ((2 + m : Nat) : Int) := by rw [IntKind.wrap_i64]; omega
      have HP := partR_any B _ bs (2) m _ hF1.src (by omega) (by omega)
      obtain ⟨l, hl⟩ : ∃ l, partP bs (2) m = l := ⟨_, rfl⟩
      have hlm : l.length = m := by rw [← hl, partP_length]
      rw [hl] at HP
      have HL := Lib.hid hl
      have HP := Lib.hid HP
      clear hl
      go_wp2_with fail
      refine HP.out.mono ?_
      rintro e w10 ⟨v, rfl, hown, hb⟩
      obtain ⟨A1, c1, rfl, _, _⟩ := own_form hown
      have cv := (Bts.of_own hown B).string (P := Tryz.prog) 39 9 Tryz.underlying39 Tryz.underlying5 Tryz.underlying9
      have HF2 := Lib.hid (hF1.adv hb)
      obtain ⟨z0, z1, z2, z3, z4, z5, z6, z7, z8⟩ := op_cells HF2.out.op
      have f2 := HF2.out.op.frozen 2
      rw [hlm] at cv
      clear z0 z1 z3 z4 z5 z6 z7 z8 hF1 HP hown hb
      go_upto_region 9 with fail
      obtain ⟨o2, ho2⟩ : ∃ o2, { o1 with key := ⟨l.toArray⟩ } = o2 := ⟨_, rfl⟩
      obtain ⟨i2, hi2⟩ : ∃ i2, 2 + m = i2 := ⟨_, rfl⟩
      have hF1 := HF2.out.store HBw.out (q' := (o2, i2)) (j := 2) (v := .string ⟨l.toArray⟩) (A' := none) (c' := 0) (by rw [← ho2]; simp [opc, HOv.out]) (by rw [← ho2]; exact (by rw [HOv.out]; exact Bts.nil _ _ _)) (by rw [← ho2]; exact HF2.out.kind) (by show i2 ≤ 10000; omega)
      have HK : Hid (fKey bs (o1, 1) = (o2, i2)) := Lib.hid (by unfold fKey; rw [if_pos (by rw [show (o1, (1 : Nat)).1.kind = kk from HF2.out.kind]; exact k1)]; dsimp only; rw [HN.out, HM.out, HL.out, ho2, hi2])
      have e2 : (2 + (m : Int)) = (i2 : Int) := by omega
      have hi2b : i2 ≤ 40 := by omega
      generalize World.setCell _ _ _ = W at hF1 ⊢
      simp only [e2]
      clear e2 HP
      clear HF2 z2 f2 cv n1 n2 a1 a2 HN HM HL hnI hn256 hm32 hlm ho2 hi2
      have zk : W.cell? ⟨Wk.heap.size, 0, none⟩ = some (.int .i64 kk) := by rw [← hF1.kind]; exact (op_cells hF1.op).1
      go_wp2_with fail
      refine (valued_any kk _).mono ?_
      rintro e w9 ⟨rfl, rfl⟩
      rw [k2]
      clear zk
      have HVl : Hid (fVal bs (o2, i2) = (o2, i2)) := Lib.hid (by unfold fVal; rw [if_neg (by rw [show (o2, (i2 : Nat)).1.kind = kk from hF1.kind]; simp [k2])])
      have zk : W.cell? ⟨Wk.heap.size, 0, none⟩ = some (.int .i64 kk) := by rw [← hF1.kind]; exact (op_cells hF1.op).1
      go_wp2_with fail
      refine (timed_any kk _).mono ?_
      rintro e w9 ⟨rfl, rfl⟩
      rw [k3]
      clear zk
      have HP := numR_any B _ bs (i2) 2 _ hF1.src (by omega) (by omega)
      have hlt := numBE_lt (partP bs (i2) 2)
      rw [partP_length] at hlt
      obtain ⟨t, ht⟩ : ∃ t, numP bs (i2) 2 = t := ⟨_, rfl⟩
      have ht6 : t < 65536 := by rw [← ht]; exact hlt
      rw [ht] at HP
      have HT0 := Lib.hid ht
      have HP := Lib.hid HP
      clear ht hlt
      have htI : (t : Int) < 65536 := by omega
      have n1 : IntKind.u64.wrap (t : Int) = (t : Int) := by rw [IntKind.wrap_u64]; omega
      have a1 : IntKind.i64.wrap ((i2 : Int) + 2) = ((i2 + 2 : Nat) : Int) := by rw [IntKind.wrap_i64]; omega
      have HF2 := Lib.hid hF1
      obtain ⟨z0, z1, z2, z3, z4, z5, z6, z7, z8⟩ := op_cells HF2.out.op
      have f4 := HF2.out.op.frozen 4
      clear z0 z1 z2 z3 z5 z6 z7 z8 hF1
      go_wp2_with fail
      refine HP.out.mono ?_
      rintro e w10 ⟨rfl, rfl⟩
      clear HP
      go_upto_region 14 with fail
      obtain ⟨o4, ho4⟩ : ∃ o4, { o2 with ttl := (t : Int) } = o4 := ⟨_, rfl⟩
      obtain ⟨i4, hi4⟩ : ∃ i4, i2 + 2 = i4 := ⟨_, rfl⟩
      have hF1 := HF2.out.store HBw.out (q' := (o4, i4)) (j := 4) (v := .int .u64 t) (A' := none) (c' := 0) (by rw [← ho4]; simp [opc]) (by rw [← ho4]; exact HF2.out.val) (by rw [← ho4]; exact HF2.out.kind) (by show i4 ≤ 10000; omega)
      have HT : Hid (fTtl bs (o2, i2) = (o4, i4)) := Lib.hid (by unfold fTtl; rw [if_pos (by rw [show (o2, (i2 : Nat)).1.kind = kk from HF2.out.kind]; exact k3)]; dsimp only; rw [HT0.out, ho4, hi4])
      have e2 : ((i2 : Int) + 2) = (i4 : Int) := by omega
      have hi4b : i4 ≤ 500 := by omega
      generalize World.setCell _ _ _ = W at hF1 ⊢
      simp only [e2]
      clear e2 HF2 z4 f4 n1 a1 HT0 htI ht6 ho4 hi4
      have HU : Hid (fBud bs (o4, i4) = (o4, i4)) := Lib.hid (by unfold fBud; rw [if_neg (by rw [show (o4, (i4 : Nat)).1.kind = kk from hF1.kind]; (simpa using k4))])
      have zk : W.cell? ⟨Wk.heap.size, 0, none⟩ = some (.int .i64 kk) := by rw [← hF1.kind]; exact (op_cells hF1.op).1
      go_wp2_with fail
      refine (aimed_any kk _).mono ?_
      rintro e w9 ⟨rfl, rfl⟩
      rw [k5]
      clear zk
      have HA : Hid (fAim bs (o4, i4) = (o4, i4)) := Lib.hid (by unfold fAim; rw [if_neg (by rw [show (o4, (i4 : Nat)).1.kind = kk from hF1.kind]; simp [k5])])
      have HBi : Hid (fBirth bs (o4, i4) = (o4, i4)) := Lib.hid (by unfold fBirth; rw [if_neg (by rw [show (o4, (i4 : Nat)).1.kind = kk from hF1.kind]; (simpa using k6))])
      obtain ⟨z0, z1, z2, z3, z4, z5, z6, z7, z8⟩ := op_cells hF1.op
      rw [hF1.kind] at z0
      obtain ⟨y0, y1, y2, y3, y4, y5, y6, y7, y8⟩ := op_cells hF1.res
      have g0 := hF1.res.frozen 0
      have g1 := hF1.res.frozen 1
      have g2 := hF1.res.frozen 2
      have g3 := hF1.res.frozen 3
      have g4 := hF1.res.frozen 4
      have g5 := hF1.res.frozen 5
      have g6 := hF1.res.frozen 6
      have g7 := hF1.res.frozen 7
      have g8 := hF1.res.frozen 8
      have HFf := Lib.hid hF1
      clear hF1
      go_wp2_with fail
      generalize hW9 : World.setCell _ _ _ = W9
      have hW9' : set9 W w.heap.size o4 (.slice none (o4).val.length 0) = W9 := by unfold set9; rw [show (o4).kind = kk from HFf.out.kind]; exact hW9
      have hr9 : Blk W9 w.heap.size 41 (opc o4 (.slice none (o4).val.length 0)) := hW9' ▸ HFf.out.res.set9 _ _
      have ho9 : Only (fun k => k = w.heap.size) W W9 := hW9' ▸ Only.set9 _ _ _ _
      have hv9 : Bts W9 B 5 (.slice none (o4).val.length 0) (o4).val := HFf.out.val.keep (KeepB.of_blk HFf.out.res (by decide) HBw.out ho9)
      have hb9 : Below w.heap.size w W9 := HFf.out.below.trans (ho9.below (fun i hi _ e => by omega) HFf.out.below.size)
      clear hW9 hW9' ho9 y0 y1 y2 y3 y4 y5 y6 y7 y8 g0 g1 g2 g3 g4 g5 g6 g7 g8 z0 z1 z2 z3 z4 z5 z6 z7 z8
      obtain ⟨z0, z1, z2, z3, z4, z5, z6, z7, z8⟩ := op_cells hr9
      have hfin : firstP bs = (o4, i4) := by unfold firstP; rw [HH.out, HK.out, HVl.out, HT.out, HU.out, HA.out, HBi.out]
      refine bodyPost_ret (v := .tuple #[opv o4 (.slice none (o4).val.length 0), .int .i64 (i4 : Nat)]) ?_ rfl ?_
      · simp [results, Tryz.results48, go_sem, opv, opc, z0, z1, z2, z3, z4, z5, z6, z7, z8]
      unfold FirstRet
      rw [hfin]
      exact ⟨_, _, rfl, hv9, hb9⟩
    · have zk : W.cell? ⟨Wk.heap.size, 0, none⟩ = some (.int .i64 kk) := by rw [← hF1.kind]; exact (op_cells hF1.op).1
      go_wp2_with fail
      refine (keyed_any kk _).mono ?_
      rintro e w9 ⟨rfl, rfl⟩
      rw [k1]
      clear zk
      have HK : Hid (fKey bs (o1, 1) = (o1, 1)) := Lib.hid (by unfold fKey; rw [if_neg (by rw [show (o1, (1 : Nat)).1.kind = kk from hF1.kind]; simp [k1])])
      have zk : W.cell? ⟨Wk.heap.size, 0, none⟩ = some (.int .i64 kk) := by rw [← hF1.kind]; exact (op_cells hF1.op).1
      go_wp2_with fail
      refine (valued_any kk _).mono ?_
      rintro e w9 ⟨rfl, rfl⟩
      rw [k2]
      clear zk
      have HVl : Hid (fVal bs (o1, 1) = (o1, 1)) := Lib.hid (by unfold fVal; rw [if_neg (by rw [show (o1, (1 : Nat)).1.kind = kk from hF1.kind]; simp [k2])])
      have zk : W.cell? ⟨Wk.heap.size, 0, none⟩ = some (.int .i64 kk) := by rw [← hF1.kind]; exact (op_cells hF1.op).1
      go_wp2_with fail
      refine (timed_any kk _).mono ?_
      rintro e w9 ⟨rfl, rfl⟩
      rw [k3]
      clear zk
      have HT : Hid (fTtl bs (o1, 1) = (o1, 1)) := Lib.hid (by unfold fTtl; rw [if_neg (by rw [show (o1, (1 : Nat)).1.kind = kk from hF1.kind]; simp [k3])])
      have zk : W.cell? ⟨Wk.heap.size, 0, none⟩ = some (.int .i64 kk) := by rw [← hF1.kind]; exact (op_cells hF1.op).1
      have HP := numR_any B _ bs 1 2 _ hF1.src (by omega) (by omega)
      have HP2 := numR_any B _ bs 3 3 _ hF1.src (by omega) (by omega)
      obtain ⟨t, ht⟩ : ∃ t, numP bs 1 2 = t := ⟨_, rfl⟩
      obtain ⟨u, hu⟩ : ∃ u, numP bs 3 3 = u := ⟨_, rfl⟩
      rw [ht] at HP
      rw [hu] at HP2
      have HT0 := Lib.hid ht
      have HU0 := Lib.hid hu
      have HP := Lib.hid HP
      have HP2 := Lib.hid HP2
      clear ht hu
      have HF2 := Lib.hid hF1
      obtain ⟨z0, z1, z2, z3, z4, z5, z6, z7, z8⟩ := op_cells HF2.out.op
      have f5 := HF2.out.op.frozen 5
      have f6 := HF2.out.op.frozen 6
      clear z0 z1 z2 z3 z4 z7 z8 hF1
      go_wp2_with fail
      refine HP.out.mono ?_
      rintro e w10 ⟨rfl, rfl⟩
      go_wp2_with fail
      refine HP2.out.mono ?_
      rintro e w10 ⟨rfl, rfl⟩
      clear HP HP2
      go_upto_region 16 with fail
      obtain ⟨o2, ho2⟩ : ∃ o2, { o1 with count := (t : Int), bytes := (u : Int) } = o2 := ⟨_, rfl⟩
      have hF0 := HF2.out.store HBw.out (q' := ({ o1 with count := (t : Int) }, 6)) (j := 5) (v := .int .i64 t) (A' := none) (c' := 0) (by simp [opc]) HF2.out.val HF2.out.kind (by show 6 ≤ 10000; omega)
      have hF1 := hF0.store HBw.out (q' := (o2, 6)) (j := 6) (v := .int .i64 u) (A' := none) (c' := 0) (by rw [← ho2]; simp [opc]) (by rw [← ho2]; exact hF0.val) (by rw [← ho2]; exact hF0.kind) (by show 6 ≤ 10000; omega)
      have HU : Hid (fBud bs (o1, 1) = (o2, 6)) := Lib.hid (by unfold fBud; rw [if_pos (by rw [show (o1, (1 : Nat)).1.kind = kk from HF2.out.kind]; simpa using k4)]; dsimp only; rw [HT0.out, HU0.out, ho2])
      generalize World.setCell _ _ _ = W at hF1 ⊢
      clear HF2 hF0 z5 z6 f5 f6 HT0 HU0 ho2 zk
      have zk : W.cell? ⟨Wk.heap.size, 0, none⟩ = some (.int .i64 kk) := by rw [← hF1.kind]; exact (op_cells hF1.op).1
      go_wp2_with fail
      refine (aimed_any kk _).mono ?_
      rintro e w9 ⟨rfl, rfl⟩
      rw [k5]
      clear zk
      have HA : Hid (fAim bs (o2, 6) = (o2, 6)) := Lib.hid (by unfold fAim; rw [if_neg (by rw [show (o2, (6 : Nat)).1.kind = kk from hF1.kind]; simp [k5])])
      have HBi : Hid (fBirth bs (o2, 6) = (o2, 6)) := Lib.hid (by unfold fBirth; rw [if_neg (by rw [show (o2, (6 : Nat)).1.kind = kk from hF1.kind]; (simpa using k6))])
      obtain ⟨z0, z1, z2, z3, z4, z5, z6, z7, z8⟩ := op_cells hF1.op
      rw [hF1.kind] at z0
      obtain ⟨y0, y1, y2, y3, y4, y5, y6, y7, y8⟩ := op_cells hF1.res
      have g0 := hF1.res.frozen 0
      have g1 := hF1.res.frozen 1
      have g2 := hF1.res.frozen 2
      have g3 := hF1.res.frozen 3
      have g4 := hF1.res.frozen 4
      have g5 := hF1.res.frozen 5
      have g6 := hF1.res.frozen 6
      have g7 := hF1.res.frozen 7
      have g8 := hF1.res.frozen 8
      have HFf := Lib.hid hF1
      clear hF1
      go_wp2_with fail
      generalize hW9 : World.setCell _ _ _ = W9
      have hW9' : set9 W w.heap.size o2 (.slice none (o2).val.length 0) = W9 := by unfold set9; rw [show (o2).kind = kk from HFf.out.kind]; exact hW9
      have hr9 : Blk W9 w.heap.size 41 (opc o2 (.slice none (o2).val.length 0)) := hW9' ▸ HFf.out.res.set9 _ _
      have ho9 : Only (fun k => k = w.heap.size) W W9 := hW9' ▸ Only.set9 _ _ _ _
      have hv9 : Bts W9 B 5 (.slice none (o2).val.length 0) (o2).val := HFf.out.val.keep (KeepB.of_blk HFf.out.res (by decide) HBw.out ho9)
      have hb9 : Below w.heap.size w W9 := HFf.out.below.trans (ho9.below (fun i hi _ e => by omega) HFf.out.below.size)
      clear hW9 hW9' ho9 y0 y1 y2 y3 y4 y5 y6 y7 y8 g0 g1 g2 g3 g4 g5 g6 g7 g8 z0 z1 z2 z3 z4 z5 z6 z7 z8
      obtain ⟨z0, z1, z2, z3, z4, z5, z6, z7, z8⟩ := op_cells hr9
      have hfin : firstP bs = (o2, 6) := by unfold firstP; rw [HH.out, HK.out, HVl.out, HT.out, HU.out, HA.out, HBi.out]
      refine bodyPost_ret (v := .tuple #[opv o2 (.slice none (o2).val.length 0), .int .i64 (6 : Nat)]) ?_ rfl ?_
      · simp [results, Tryz.results48, go_sem, opv, opc, z0, z1, z2, z3, z4, z5, z6, z7, z8]
      unfold FirstRet
      rw [hfin]
      exact ⟨_, _, rfl, hv9, hb9⟩
    · have zk : W.cell? ⟨Wk.heap.size, 0, none⟩ = some (.int .i64 kk) := by rw [← hF1.kind]; exact (op_cells hF1.op).1
      go_wp2_with fail
      refine (keyed_any kk _).mono ?_
      rintro e w9 ⟨rfl, rfl⟩
      rw [k1]
      clear zk
      have HK : Hid (fKey bs (o1, 1) = (o1, 1)) := Lib.hid (by unfold fKey; rw [if_neg (by rw [show (o1, (1 : Nat)).1.kind = kk from hF1.kind]; simp [k1])])
      have zk : W.cell? ⟨Wk.heap.size, 0, none⟩ = some (.int .i64 kk) := by rw [← hF1.kind]; exact (op_cells hF1.op).1
      go_wp2_with fail
      refine (valued_any kk _).mono ?_
      rintro e w9 ⟨rfl, rfl⟩
      rw [k2]
      clear zk
      have HVl : Hid (fVal bs (o1, 1) = (o1, 1)) := Lib.hid (by unfold fVal; rw [if_neg (by rw [show (o1, (1 : Nat)).1.kind = kk from hF1.kind]; simp [k2])])
      have zk : W.cell? ⟨Wk.heap.size, 0, none⟩ = some (.int .i64 kk) := by rw [← hF1.kind]; exact (op_cells hF1.op).1
      go_wp2_with fail
      refine (timed_any kk _).mono ?_
      rintro e w9 ⟨rfl, rfl⟩
      rw [k3]
      clear zk
      have HT : Hid (fTtl bs (o1, 1) = (o1, 1)) := Lib.hid (by unfold fTtl; rw [if_neg (by rw [show (o1, (1 : Nat)).1.kind = kk from hF1.kind]; simp [k3])])
      have HU : Hid (fBud bs (o1, 1) = (o1, 1)) := Lib.hid (by unfold fBud; rw [if_neg (by rw [show (o1, (1 : Nat)).1.kind = kk from hF1.kind]; (simpa using k4))])
      have zk : W.cell? ⟨Wk.heap.size, 0, none⟩ = some (.int .i64 kk) := by rw [← hF1.kind]; exact (op_cells hF1.op).1
      go_wp2_with fail
      refine (aimed_any kk _).mono ?_
      rintro e w9 ⟨rfl, rfl⟩
      rw [k5]
      clear zk
      have HF2 := Lib.hid hF1
      go_wp2_with fail
      refine (at_any B _ bs 1 _ HF2.out.src (by omega)).mono ?_
      rintro e w9 ⟨rfl, rfl⟩
      obtain ⟨n, hn⟩ : ∃ n, (atP bs 1).toNat = n := ⟨_, rfl⟩
      have hn256 : n < 256 := hn ▸ (atP bs 1).toNat_lt
      have HN := Lib.hid hn
      rw [hn]
      clear hn
      have n1 : IntKind.i64.wrap (n : Int) = (n : Int) := by rw [IntKind.wrap_i64]; omega
      obtain ⟨z0, z1, z2, z3, z4, z5, z6, z7, z8⟩ := op_cells HF2.out.op
      have f7 := HF2.out.op.frozen 7
      clear z0 z1 z2 z3 z4 z5 z6 z8 hF1
      go_upto_region 18 with fail
      obtain ⟨o2, ho2⟩ : ∃ o2, { o1 with cursor := (n : Int) } = o2 := ⟨_, rfl⟩
      have hF1 := HF2.out.store HBw.out (q' := (o2, 2)) (j := 7) (v := .int .i64 n) (A' := none) (c' := 0) (by rw [← ho2]; simp [opc]) (by rw [← ho2]; exact HF2.out.val) (by rw [← ho2]; exact HF2.out.kind) (by show 2 ≤ 10000; omega)
      have HA : Hid (fAim bs (o1, 1) = (o2, 2)) := Lib.hid (by unfold fAim; rw [if_pos (by rw [show (o1, (1 : Nat)).1.kind = kk from HF2.out.kind]; exact k5)]; dsimp only; rw [HN.out, ho2])
      generalize World.setCell _ _ _ = W at hF1 ⊢
      clear HF2 z7 f7 n1 HN hn256 ho2
      have HBi : Hid (fBirth bs (o2, 2) = (o2, 2)) := Lib.hid (by unfold fBirth; rw [if_neg (by rw [show (o2, (2 : Nat)).1.kind = kk from hF1.kind]; (simpa using k6))])
      obtain ⟨z0, z1, z2, z3, z4, z5, z6, z7, z8⟩ := op_cells hF1.op
      rw [hF1.kind] at z0
      obtain ⟨y0, y1, y2, y3, y4, y5, y6, y7, y8⟩ := op_cells hF1.res
      have g0 := hF1.res.frozen 0
      have g1 := hF1.res.frozen 1
      have g2 := hF1.res.frozen 2
      have g3 := hF1.res.frozen 3
      have g4 := hF1.res.frozen 4
      have g5 := hF1.res.frozen 5
      have g6 := hF1.res.frozen 6
      have g7 := hF1.res.frozen 7
      have g8 := hF1.res.frozen 8
      have HFf := Lib.hid hF1
      clear hF1
      go_wp2_with fail
      generalize hW9 : World.setCell _ _ _ = W9
      have hW9' : set9 W w.heap.size o2 (.slice none (o2).val.length 0) = W9 := by unfold set9; rw [show (o2).kind = kk from HFf.out.kind]; exact hW9
      have hr9 : Blk W9 w.heap.size 41 (opc o2 (.slice none (o2).val.length 0)) := hW9' ▸ HFf.out.res.set9 _ _
      have ho9 : Only (fun k => k = w.heap.size) W W9 := hW9' ▸ Only.set9 _ _ _ _
      have hv9 : Bts W9 B 5 (.slice none (o2).val.length 0) (o2).val := HFf.out.val.keep (KeepB.of_blk HFf.out.res (by decide) HBw.out ho9)
      have hb9 : Below w.heap.size w W9 := HFf.out.below.trans (ho9.below (fun i hi _ e => by omega) HFf.out.below.size)
      clear hW9 hW9' ho9 y0 y1 y2 y3 y4 y5 y6 y7 y8 g0 g1 g2 g3 g4 g5 g6 g7 g8 z0 z1 z2 z3 z4 z5 z6 z7 z8
      obtain ⟨z0, z1, z2, z3, z4, z5, z6, z7, z8⟩ := op_cells hr9
      have hfin : firstP bs = (o2, 2) := by unfold firstP; rw [HH.out, HK.out, HVl.out, HT.out, HU.out, HA.out, HBi.out]
      refine bodyPost_ret (v := .tuple #[opv o2 (.slice none (o2).val.length 0), .int .i64 (2 : Nat)]) ?_ rfl ?_
      · simp [results, Tryz.results48, go_sem, opv, opc, z0, z1, z2, z3, z4, z5, z6, z7, z8]
      unfold FirstRet
      rw [hfin]
      exact ⟨_, _, rfl, hv9, hb9⟩
    · have zk : W.cell? ⟨Wk.heap.size, 0, none⟩ = some (.int .i64 kk) := by rw [← hF1.kind]; exact (op_cells hF1.op).1
      go_wp2_with fail
      refine (keyed_any kk _).mono ?_
      rintro e w9 ⟨rfl, rfl⟩
      rw [k1]
      clear zk
      have HK : Hid (fKey bs (o1, 1) = (o1, 1)) := Lib.hid (by unfold fKey; rw [if_neg (by rw [show (o1, (1 : Nat)).1.kind = kk from hF1.kind]; simp [k1])])
      have zk : W.cell? ⟨Wk.heap.size, 0, none⟩ = some (.int .i64 kk) := by rw [← hF1.kind]; exact (op_cells hF1.op).1
      go_wp2_with fail
      refine (valued_any kk _).mono ?_
      rintro e w9 ⟨rfl, rfl⟩
      rw [k2]
      clear zk
      have HVl : Hid (fVal bs (o1, 1) = (o1, 1)) := Lib.hid (by unfold fVal; rw [if_neg (by rw [show (o1, (1 : Nat)).1.kind = kk from hF1.kind]; simp [k2])])
      have zk : W.cell? ⟨Wk.heap.size, 0, none⟩ = some (.int .i64 kk) := by rw [← hF1.kind]; exact (op_cells hF1.op).1
      go_wp2_with fail
      refine (timed_any kk _).mono ?_
      rintro e w9 ⟨rfl, rfl⟩
      rw [k3]
      clear zk
      have HT : Hid (fTtl bs (o1, 1) = (o1, 1)) := Lib.hid (by unfold fTtl; rw [if_neg (by rw [show (o1, (1 : Nat)).1.kind = kk from hF1.kind]; simp [k3])])
      have HU : Hid (fBud bs (o1, 1) = (o1, 1)) := Lib.hid (by unfold fBud; rw [if_neg (by rw [show (o1, (1 : Nat)).1.kind = kk from hF1.kind]; (simpa using k4))])
      have zk : W.cell? ⟨Wk.heap.size, 0, none⟩ = some (.int .i64 kk) := by rw [← hF1.kind]; exact (op_cells hF1.op).1
      go_wp2_with fail
      refine (aimed_any kk _).mono ?_
      rintro e w9 ⟨rfl, rfl⟩
      rw [k5]
      clear zk
      have HF2 := Lib.hid hF1
      go_wp2_with fail
      refine (at_any B _ bs 1 _ HF2.out.src (by omega)).mono ?_
      rintro e w9 ⟨rfl, rfl⟩
      obtain ⟨n, hn⟩ : ∃ n, (atP bs 1).toNat = n := ⟨_, rfl⟩
      have hn256 : n < 256 := hn ▸ (atP bs 1).toNat_lt
      have HN := Lib.hid hn
      rw [hn]
      clear hn
      have n1 : IntKind.i64.wrap (n : Int) = (n : Int) := by rw [IntKind.wrap_i64]; omega
      obtain ⟨z0, z1, z2, z3, z4, z5, z6, z7, z8⟩ := op_cells HF2.out.op
      have f7 := HF2.out.op.frozen 7
      clear z0 z1 z2 z3 z4 z5 z6 z8 hF1
      go_upto_region 18 with fail
      obtain ⟨o2, ho2⟩ : ∃ o2, { o1 with cursor := (n : Int) } = o2 := ⟨_, rfl⟩
      have hF1 := HF2.out.store HBw.out (q' := (o2, 2)) (j := 7) (v := .int .i64 n) (A' := none) (c' := 0) (by rw [← ho2]; simp [opc]) (by rw [← ho2]; exact HF2.out.val) (by rw [← ho2]; exact HF2.out.kind) (by show 2 ≤ 10000; omega)
      have HA : Hid (fAim bs (o1, 1) = (o2, 2)) := Lib.hid (by unfold fAim; rw [if_pos (by rw [show (o1, (1 : Nat)).1.kind = kk from HF2.out.kind]; exact k5)]; dsimp only; rw [HN.out, ho2])
      generalize World.setCell _ _ _ = W at hF1 ⊢
      clear HF2 z7 f7 n1 HN hn256 ho2
      have zk : W.cell? ⟨Wk.heap.size, 0, none⟩ = some (.int .i64 kk) := by rw [← hF1.kind]; exact (op_cells hF1.op).1
      have HP := numR_any B _ bs 2 2 _ hF1.src (by omega) (by omega)
      have hlt := numBE_lt (partP bs 2 2)
      rw [partP_length] at hlt
      obtain ⟨t, ht⟩ : ∃ t, numP bs 2 2 = t := ⟨_, rfl⟩
      have ht6 : t < 65536 := by rw [← ht]; exact hlt
      rw [ht] at HP
      have HT0 := Lib.hid ht
      have HP := Lib.hid HP
      clear ht hlt
      have htI : (t : Int) < 65536 := by omega
      have n1 : IntKind.u64.wrap (t : Int) = (t : Int) := by rw [IntKind.wrap_u64]; omega
      have HF2 := Lib.hid hF1
      obtain ⟨z0, z1, z2, z3, z4, z5, z6, z7, z8⟩ := op_cells HF2.out.op
      have f8 := HF2.out.op.frozen 8
      clear z0 z1 z2 z3 z4 z5 z6 z7 hF1
      go_wp2_with fail
      refine HP.out.mono ?_
      rintro e w10 ⟨rfl, rfl⟩
      clear HP
      go_upto_region 20 with fail
      obtain ⟨o3, ho3⟩ : ∃ o3, { o2 with birth := (t : Int) } = o3 := ⟨_, rfl⟩
      have hF1 := HF2.out.store HBw.out (q' := (o3, 4)) (j := 8) (v := .int .u64 t) (A' := none) (c' := 0) (by rw [← ho3]; simp [opc]) (by rw [← ho3]; exact HF2.out.val) (by rw [← ho3]; exact HF2.out.kind) (by show 4 ≤ 10000; omega)
      have HBi : Hid (fBirth bs (o2, 2) = (o3, 4)) := Lib.hid (by unfold fBirth; rw [if_pos (by rw [show (o2, (2 : Nat)).1.kind = kk from HF2.out.kind]; simpa using k6)]; dsimp only; rw [HT0.out, ho3])
      generalize World.setCell _ _ _ = W at hF1 ⊢
      clear HF2 z8 f8 n1 HT0 htI ht6 ho3 zk
      obtain ⟨z0, z1, z2, z3, z4, z5, z6, z7, z8⟩ := op_cells hF1.op
      rw [hF1.kind] at z0
      obtain ⟨y0, y1, y2, y3, y4, y5, y6, y7, y8⟩ := op_cells hF1.res
      have g0 := hF1.res.frozen 0
      have g1 := hF1.res.frozen 1
      have g2 := hF1.res.frozen 2
      have g3 := hF1.res.frozen 3
      have g4 := hF1.res.frozen 4
      have g5 := hF1.res.frozen 5
      have g6 := hF1.res.frozen 6
      have g7 := hF1.res.frozen 7
      have g8 := hF1.res.frozen 8
      have HFf := Lib.hid hF1
      clear hF1
      go_wp2_with fail
      generalize hW9 : World.setCell _ _ _ = W9
      have hW9' : set9 W w.heap.size o3 (.slice none (o3).val.length 0) = W9 := by unfold set9; rw [show (o3).kind = kk from HFf.out.kind]; exact hW9
      have hr9 : Blk W9 w.heap.size 41 (opc o3 (.slice none (o3).val.length 0)) := hW9' ▸ HFf.out.res.set9 _ _
      have ho9 : Only (fun k => k = w.heap.size) W W9 := hW9' ▸ Only.set9 _ _ _ _
      have hv9 : Bts W9 B 5 (.slice none (o3).val.length 0) (o3).val := HFf.out.val.keep (KeepB.of_blk HFf.out.res (by decide) HBw.out ho9)
      have hb9 : Below w.heap.size w W9 := HFf.out.below.trans (ho9.below (fun i hi _ e => by omega) HFf.out.below.size)
      clear hW9 hW9' ho9 y0 y1 y2 y3 y4 y5 y6 y7 y8 g0 g1 g2 g3 g4 g5 g6 g7 g8 z0 z1 z2 z3 z4 z5 z6 z7 z8
      obtain ⟨z0, z1, z2, z3, z4, z5, z6, z7, z8⟩ := op_cells hr9
      have hfin : firstP bs = (o3, 4) := by unfold firstP; rw [HH.out, HK.out, HVl.out, HT.out, HU.out, HA.out, HBi.out]
      refine bodyPost_ret (v := .tuple #[opv o3 (.slice none (o3).val.length 0), .int .i64 (4 : Nat)]) ?_ rfl ?_
      · simp [results, Tryz.results48, go_sem, opv, opc, z0, z1, z2, z3, z4, z5, z6, z7, z8]
      unfold FirstRet
      rw [hfin]
      exact ⟨_, _, rfl, hv9, hb9⟩
    · have zk : W.cell? ⟨Wk.heap.size, 0, none⟩ = some (.int .i64 kk) := by rw [← hF1.kind]; exact (op_cells hF1.op).1
      go_wp2_with fail
      refine (keyed_any kk _).mono ?_
      rintro e w9 ⟨rfl, rfl⟩
      rw [k1]
      clear zk
      have HK : Hid (fKey bs (o1, 1) = (o1, 1)) := Lib.hid (by unfold fKey; rw [if_neg (by rw [show (o1, (1 : Nat)).1.kind = kk from hF1.kind]; simp [k1])])
      have zk : W.cell? ⟨Wk.heap.size, 0, none⟩ = some (.int .i64 kk) := by rw [← hF1.kind]; exact (op_cells hF1.op).1
      go_wp2_with fail
      refine (valued_any kk _).mono ?_
      rintro e w9 ⟨rfl, rfl⟩
      rw [k2]
      clear zk
      have HVl : Hid (fVal bs (o1, 1) = (o1, 1)) := Lib.hid (by unfold fVal; rw [if_neg (by rw [show (o1, (1 : Nat)).1.kind = kk from hF1.kind]; simp [k2])])
      have zk : W.cell? ⟨Wk.heap.size, 0, none⟩ = some (.int .i64 kk) := by rw [← hF1.kind]; exact (op_cells hF1.op).1
      go_wp2_with fail
      refine (timed_any kk _).mono ?_
      rintro e w9 ⟨rfl, rfl⟩
      rw [k3]
      clear zk
      have HT : Hid (fTtl bs (o1, 1) = (o1, 1)) := Lib.hid (by unfold fTtl; rw [if_neg (by rw [show (o1, (1 : Nat)).1.kind = kk from hF1.kind]; simp [k3])])
      have HU : Hid (fBud bs (o1, 1) = (o1, 1)) := Lib.hid (by unfold fBud; rw [if_neg (by rw [show (o1, (1 : Nat)).1.kind = kk from hF1.kind]; (simpa using k4))])
      have zk : W.cell? ⟨Wk.heap.size, 0, none⟩ = some (.int .i64 kk) := by rw [← hF1.kind]; exact (op_cells hF1.op).1
      go_wp2_with fail
      refine (aimed_any kk _).mono ?_
      rintro e w9 ⟨rfl, rfl⟩
      rw [k5]
      clear zk
      have HA : Hid (fAim bs (o1, 1) = (o1, 1)) := Lib.hid (by unfold fAim; rw [if_neg (by rw [show (o1, (1 : Nat)).1.kind = kk from hF1.kind]; simp [k5])])
      have HBi : Hid (fBirth bs (o1, 1) = (o1, 1)) := Lib.hid (by unfold fBirth; rw [if_neg (by rw [show (o1, (1 : Nat)).1.kind = kk from hF1.kind]; (simpa using k6))])
      obtain ⟨z0, z1, z2, z3, z4, z5, z6, z7, z8⟩ := op_cells hF1.op
      rw [hF1.kind] at z0
      obtain ⟨y0, y1, y2, y3, y4, y5, y6, y7, y8⟩ := op_cells hF1.res
      have g0 := hF1.res.frozen 0
      have g1 := hF1.res.frozen 1
      have g2 := hF1.res.frozen 2
      have g3 := hF1.res.frozen 3
      have g4 := hF1.res.frozen 4
      have g5 := hF1.res.frozen 5
      have g6 := hF1.res.frozen 6
      have g7 := hF1.res.frozen 7
      have g8 := hF1.res.frozen 8
      have HFf := Lib.hid hF1
      clear hF1
      go_wp2_with fail
      generalize hW9 : World.setCell _ _ _ = W9
      have hW9' : set9 W w.heap.size o1 (.slice none (o1).val.length 0) = W9 := by unfold set9; rw [show (o1).kind = kk from HFf.out.kind]; exact hW9
      have hr9 : Blk W9 w.heap.size 41 (opc o1 (.slice none (o1).val.length 0)) := hW9' ▸ HFf.out.res.set9 _ _
      have ho9 : Only (fun k => k = w.heap.size) W W9 := hW9' ▸ Only.set9 _ _ _ _
      have hv9 : Bts W9 B 5 (.slice none (o1).val.length 0) (o1).val := HFf.out.val.keep (KeepB.of_blk HFf.out.res (by decide) HBw.out ho9)
      have hb9 : Below w.heap.size w W9 := HFf.out.below.trans (ho9.below (fun i hi _ e => by omega) HFf.out.below.size)
      clear hW9 hW9' ho9 y0 y1 y2 y3 y4 y5 y6 y7 y8 g0 g1 g2 g3 g4 g5 g6 g7 g8 z0 z1 z2 z3 z4 z5 z6 z7 z8
      obtain ⟨z0, z1, z2, z3, z4, z5, z6, z7, z8⟩ := op_cells hr9
      have hfin : firstP bs = (o1, 1) := by unfold firstP; rw [HH.out, HK.out, HVl.out, HT.out, HU.out, HA.out, HBi.out]
      refine bodyPost_ret (v := .tuple #[opv o1 (.slice none (o1).val.length 0), .int .i64 (1 : Nat)]) ?_ rfl ?_
      · simp [results, Tryz.results48, go_sem, opv, opc, z0, z1, z2, z3, z4, z5, z6, z7, z8]
      unfold FirstRet
      rw [hfin]
      exact ⟨_, _, rfl, hv9, hb9⟩
end Go.Proofs.YtbcigelgggimmaaGreatDoor
