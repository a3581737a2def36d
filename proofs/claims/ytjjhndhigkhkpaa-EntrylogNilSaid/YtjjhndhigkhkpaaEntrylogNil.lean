/- The law EntrylogNil: for every input the Go function returns true and leaves what was there as it was. No condition. -/
import Derived.Test.YtjjhndhigkhkpaaLogNil
import Derived.Test.YtjjhndhigkhkpaaArgs
import Derived.ProofKit
import Derived.OpenShut
import Derived.ShutString
import Derived.ChangeOld
import Derived.Below
import Derived.Lib.SmallJoins
namespace Go.Proofs.Ytjjhndhigkhkpaa.entrylogNil
open Go.ChangeShapes Go.WideShapes Go.ChangeAt Go.RowKit
open Go.ChangeMaps (open_string shut_string)
set_option linter.unusedVariables false


theorem two_rows {i : Nat} (h : i < 2) : i = 0 ∨ i = 1 := by omega

set_option maxRecDepth 100000 in
set_option maxHeartbeats 2000000 in
theorem walk (a0 : Int) (k : ByteArray) (v : Value) (bs : List UInt8) (d n : Int) (w : World) (_ : (Lit.int .u32 a0).wf = true) (hk : k.size ≤ maxLen) (hb : Bts w w.heap.size 5 v bs) :
    Calls Try.prog 7 #[.int .u32 a0, .agg #[.string k, v, .int .u64 d, .int .u64 n]] w fun e w' => e = .returned (.bool true) ∧ Below w.heap.size w w' := by
  obtain ⟨A, cap, rfl⟩ := hb.form
  have hbl := hb.le
  have HB := Lib.hid hb
  clear hb
  by_cases h1 : 300 < k.size
  · have h1' : (300 : Int) < (k.size : Int) := by omega
    go_enter Try.func7, Try.ntmps7
    go_wp2_with fail
    refine (known_true _).mono ?_
    rintro e w9 ⟨rfl, hb9⟩
    have HG := Lib.hid (below_own hb9)
    clear hb9
    go_wp2_with fail
    go_ret
    exact ⟨rfl, HG.out⟩
  · by_cases h2 : 300 < bs.length
    · have h2' : (300 : Int) < (bs.length : Int) := by omega
      have h1' : ¬ (300 : Int) < (k.size : Int) := by omega
      go_enter Try.func7, Try.ntmps7
      go_wp2_with fail
      refine (known_true _).mono ?_
      rintro e w9 ⟨rfl, hb9⟩
      have HG := Lib.hid (below_own hb9)
      clear hb9
      go_wp2_with fail
      go_ret
      exact ⟨rfl, HG.out⟩
    · have h2' : ¬ (300 : Int) < (bs.length : Int) := by omega
      have h1' : ¬ (300 : Int) < (k.size : Int) := by omega
      go_enter Try.func7, Try.ntmps7
      go_wp2_with fail
      obtain ⟨W, hW⟩ : ∃ W, ((w.alloc (.cells #[.string k, .slice A bs.length cap, .int .u64 d, .int .u64 n] 31)).alloc (.cells #[.bool false, .slice none 0 0, .int .i64 0] 62)).alloc (.cells #[.pointer none, .pointer (some ⟨w.heap.size + 1, 0, none⟩)] 24) = W := ⟨_, rfl⟩
      have e0 : Blk W w.heap.size 31 #[.string k, .slice A bs.length cap, .int .u64 d, .int .u64 n] := hW ▸ ((Blk.new _ _ _).alloc _).alloc _
      have z0 : Blk W (w.heap.size + 1) 62 #[.bool false, .slice none 0 0, .int .i64 0] := hW ▸ (Blk.new2 _ _ _ _).alloc _
      have r0 : Blk W (w.heap.size + 1 + 1) 24 #[.pointer none, .pointer (some ⟨w.heap.size + 1, 0, none⟩)] := hW ▸ Blk.new3 _ _ _ _ _
      have g0 : Below w.heap.size w W := hW ▸ (((Below.refl _ _).alloc (Nat.le_refl _) _).alloc (by simp) _).alloc (by simp; omega) _
      have v0 : Bts W w.heap.size 5 (.slice A bs.length cap) bs := hW ▸ ((HB.out.alloc _).alloc _).alloc _
      have hsz := r0.lt
      have hWs : W.heap.size = w.heap.size + 1 + 1 + 1 := by rw [← hW]; simp
      rw [hW]
      have E0 := Lib.hid e0
      have Z0 := Lib.hid z0
      have R0 := Lib.hid r0
      have G0 := Lib.hid g0
      have V0 := Lib.hid v0
      clear hW e0 z0 r0 g0 v0 HB hbl
      go_loopw [32] (fun i wr => ∃ j : Nat, j ≤ 2 ∧ i = .int .i64 j ∧ Below W.heap.size W wr) (fun i _ => 2 - (intOf i).toNat)
      case atStart => exact ⟨0, by omega, rfl, Below.refl _ _⟩
      case round =>
        obtain ⟨j, hj, rfl, hbel⟩ := hrel
        have HBe := Lib.hid hbel
        clear hbel
        have hjI : (j : Int) ≤ 2 := by omega
        rcases Nat.lt_or_ge j 2 with hlt | hge
        · have hjl : (j : Int) < 2 := by omega
          obtain ⟨p, hp, hz⟩ : ∃ p, wr.cell? ⟨w.heap.size + 1 + 1, j, none⟩ = some (.pointer p) ∧ ZeroLog wr p := by
            have hr := R0.out.below HBe.out
            rcases two_rows hlt with rfl | rfl
            · exact ⟨_, hr.cell 0 _ rfl, .inl rfl⟩
            · exact ⟨_, hr.cell 1 _ rfl, .inr ⟨_, _, _, rfl, Z0.out.below HBe.out⟩⟩
          have HZ := Lib.hid hz
          have HE := Lib.hid (E0.out.below HBe.out)
          have HV := Lib.hid (V0.out.below HBe.out)
          have l0 := HE.out.cell 0 _ rfl
          have l1 := HE.out.cell 1 _ rfl
          have l2 := HE.out.cell 2 _ rfl
          have l3 := HE.out.cell 3 _ rfl
          have hsr := HBe.out.size
          clear hz
          go_wp2_with fail
          refine (appendZ p k _ bs d n w.heap.size wr HZ.out HV.out).mono ?_
          rintro e w1 ⟨rfl, hb1⟩
          have HB1 := Lib.hid hb1
          clear hb1 l0 l1 l2 l3 hp
          go_wp2_with fail
          refine (getZ p _ _ (HZ.out.below HB1.out)).mono ?_
          rintro e w2 ⟨rfl, hb2⟩
          have HB2 := Lib.hid (HB1.out.trans (hb2.mono HB1.out.size))
          clear hb2 HB1
          unfold noEnt
          go_wp2_with fail
          have HB2a := Lib.hid (HB2.out.alloc HB2.out.size (.cells #[.string ⟨#[]⟩, .slice none 0 0, .int .u64 0, .int .u64 0] 31))
          refine (keyZ p _ _ (HZ.out.below HB2a.out)).mono ?_
          rintro e w' ⟨rfl, rfl⟩
          go_wp2_with fail
          refine (removeZ p _ _ (HZ.out.below HB2a.out)).mono ?_
          rintro e w3 ⟨rfl, hb3⟩
          have HB3 := Lib.hid (HB2a.out.trans (hb3.mono HB2a.out.size))
          have x3 := (Blk.new w2 31 _).below hb3
          have HX3 := Lib.hid x3
          have hz3 := x3.lt
          have q0 := x3.cell 0 _ rfl
          have q1 := x3.cell 1 _ rfl
          have q2 := x3.cell 2 _ rfl
          have q3 := x3.cell 3 _ rfl
          clear hb3 HB2a x3
          unfold noEnt
          go_wp2_with fail
          have HB3a := Lib.hid (HB3.out.alloc HB3.out.size (.cells #[.string ⟨#[]⟩, .slice none 0 0, .int .u64 0, .int .u64 0] 31))
          refine (refEqual_any 0 0 zent zent (.slice none 0 0) (.slice none 0 0) _ (Bts.nil _ _ _) (Bts.nil _ _ _)).mono ?_
          rintro e w4 ⟨rfl, hb4⟩
          have hE : eqE zent zent = true := by decide
          rw [hE]
          have HB4 := Lib.hid (HB3a.out.trans (hb4.mono HB3a.out.size))
          have x4 := (Blk.new w3 31 _).below hb4
          clear q0 q1 q2 q3 HB3a hb4
          have q0 := x4.cell 0 _ rfl
          have q1 := x4.cell 1 _ rfl
          have q2 := x4.cell 2 _ rfl
          have q3 := x4.cell 3 _ rfl
          clear x4
          go_wp2_with fail
          refine (refEqual_any 0 0 zent zent (.slice none 0 0) (.slice none 0 0) _ (Bts.nil _ _ _) (Bts.nil _ _ _)).mono ?_
          rintro e w5 ⟨rfl, hb5⟩
          rw [hE]
          have HB5 := Lib.hid (HB4.out.trans (hb5.mono HB4.out.size))
          clear q0 q1 q2 q3 hb5 HB4 hE
          have l1 := (HE.out.below HB5.out).cell 1 _ rfl
          have l2 := (HE.out.below HB5.out).cell 2 _ rfl
          go_wp2_with fail
          refine (setZ p _ _ _ _ (HZ.out.below HB5.out)).mono ?_
          rintro e w' ⟨rfl, rfl⟩
          go_wp2_with fail
          refine (nextZ p _ _ (HZ.out.below HB5.out)).mono ?_
          rintro e w' ⟨rfl, rfl⟩
          go_wp2_with fail
          refine (lenZ p _ (HZ.out.below HB5.out)).mono ?_
          rintro e w' ⟨rfl, rfl⟩
          go_wp2_with fail
          refine (liveZ p _ (HZ.out.below HB5.out)).mono ?_
          rintro e w' ⟨rfl, rfl⟩
          go_wp2_with fail
          refine (copyZ p _ (HZ.out.below HB5.out)).mono ?_
          rintro e w' ⟨rfl, rfl⟩
          go_wp2_with fail
          refine (slotsZ p _ (HZ.out.below HB5.out)).mono ?_
          rintro e w6 ⟨rfl, hb6⟩
          have HB6 := Lib.hid (HB5.out.trans (hb6.mono HB5.out.size))
          clear hb6 l1 l2
          go_wp2_with fail
          go_roundw
          case rel => exact ⟨j + 1, by omega, by go_num, HBe.out.trans (HB6.out.mono hsr)⟩
          case measure => simp [intOf]; omega
        · obtain rfl : j = 2 := by omega
          go_wp2_with fail
          refine (known_true _).mono ?_
          rintro e w9 ⟨rfl, hb9⟩
          have HG := Lib.hid (G0.out.trans ((HBe.out.trans (hb9.mono HBe.out.size)).mono (by omega)))
          clear hb9
          go_wp2_with fail
          go_ret
          exact ⟨rfl, HG.out⟩

theorem own : ownKnob Try.prog.godebug = none := by kernel_rfl
theorem laidOut : laidOutB Try.prog = true := by kernel_rfl

set_option maxRecDepth 100000 in
theorem lifted (os : Os) (started : os.Started) (H : Type) (enc : TypeId × Value → H) :
    ReturnsInHanded {} Try.checked os 7 .any (Rows.entrylogNilSpec.pre6 enc Try.prog Try.f7 Rows.entrylogNilRow.domain false) (Rows.entrylogNilSpec.post enc Try.prog Try.f7 false true false false) := by
  refine returnsInHanded_of_change (C := Try.checked) own started (by kernel_rfl) Try.func7
    (ChangeSpec.witness6 (enc := enc) (C := Try.checked) false ⟨#[], #[.int .u32 0, .agg #[.string ByteArray.empty, .slice none 0 0, .int .u64 0, .int .u64 0]], []⟩ 8 (by kernel_rfl) (by kernel_rfl) (by kernel_rfl) (by kernel_rfl)) ?_
  intro W base args ds gs before hval0 hW hcnd _
  have hval : ∀ (j : Nat) t v, Try.f7.params[j]? = some t → args[j]? = some v → Value.okWide Try.prog W .any base t v := hval0
  have hW' := hW
  obtain ⟨p, q, hA0, hV, rfl, hfz, hnd⟩ := hW
  have hA : DataW.TrodAll enc Try.prog W 0 (fun _ => true) true Try.f7.params.toList args.toList ds p := hA0
  rw [Try.params7] at hA hval
  obtain ⟨v0, vs0, d0, ds0, p0, q0, hargs, rfl, rfl, h0, r0⟩ := trodAll_cons hA
  obtain ⟨v1, vs1, d1, ds1, p1, q1, rfl, rfl, rfl, h1, r1⟩ := trodAll_cons r0
  obtain ⟨rfl, rfl, rfl⟩ := trodAll_nil r1
  obtain rfl : args = #[v0, v1] := by cases args; simp_all
  obtain ⟨rfl, rfl⟩ := trodVars_none hV
  obtain ⟨a0, rfl, rfl, rfl, w0⟩ := open_int Try.underlying22 (hval 0 22 v0 rfl rfl) h0
  have k1' := h1
  have lt1 : ∀ x ∈ p1, x.block < W.heap.size := by obtain ⟨m, hm⟩ := k1'; exact DataW.trod_lt m _ _ _ hm
  obtain ⟨k1, u1, bs1, dl1, bi1, rfl, hk1, hb1, hd1, hbi1⟩ := open_entry (hval 1 31 v1 rfl rfl) h1
  clear hA0 hval0
  refine (walk a0 k1 u1 bs1 dl1 bi1 W w0 hk1 hb1).mono fun e W' ⟨he, bel⟩ => ?_
  subst he
  exact ⟨_, rfl, _, _, _, [], _, [], hW', trodAll_mk1 (shut_bool Try.underlying4 _), (trodAll_cons_mk (shut_int Try.underlying22 w0) (trodAll_cons_mk (Below.trod laidOut (by kernel_rfl) (of_decide_eq_true (by kernel_rfl)) k1' bel lt1) trodAll_mk0)), rfl, bel.frame _, fun h => by cases h⟩

theorem over : Rows.entrylogNilRow.holds Try.pinned (OpenSpec.ofChange Rows.entrylogNilSpec) :=
  OpenClaim.holds_of_wide 7 Try.f7 rfl rfl rfl rfl rfl rfl rfl ⟨rfl, rfl, rfl, rfl, rfl⟩ rfl rfl rfl rfl rfl (by kernel_rfl) Try.func7 (by kernel_rfl)
    (of_decide_eq_true (by kernel_rfl)) (by unfold Func.isWrapper; first | (rw [if_pos (by decide +kernel)]; kernel_rfl) | (rw [if_neg (by decide +kernel)]; exact ⟨rfl, rfl⟩))
    (fun os started H enc _ => lifted os started H enc)

theorem proved : Rows.EntrylogNilSaid := over
#print axioms proved

end Go.Proofs.Ytjjhndhigkhkpaa.entrylogNil
