/- The law EntrylogValues: for every input the Go function returns true and leaves what was there as it was. No condition. -/
import Derived.Test.YtjjhndhigkhkpaaLogK
import Derived.ProofKit
import Derived.OpenShut
import Derived.ShutString
import Derived.ChangeOld
import Derived.Below
namespace Go.Proofs.Ytjjhndhigkhkpaa.entrylogValues
open Go.ChangeShapes Go.WideShapes Go.ChangeAt Go.RowKit
open Go.ChangeMaps (open_string shut_string)
set_option linter.unusedVariables false
theorem made_bytes (n : Nat) : (madeCells (Value.int .u8 0).cells (n * 1)).toList = bcells (List.replicate n 0) := by
  simp only [madeCells, bcells, Value.cells, Nat.mul_one]
  apply List.ext_getElem
  · simp
  · intro i h1 h2
    simp [Nat.mod_one]

/-- What the walk knows of a world. -/
structure Kv (w W : World) (lv vv : Value) (n : Nat) (ps : List (Ent × Value)) : Prop where
  rep : LogRep W w.heap.size w.heap.size lv ps
  below : Below w.heap.size w W
  v : Bts W w.heap.size 5 vv (List.replicate n 0)

theorem Kv.next {w W W' : World} {lv lv' vv : Value} {n : Nat} {ps ps' : List (Ent × Value)} (h : Kv w W lv vv n ps) (hr : LogRep W' w.heap.size w.heap.size lv' ps') (ho : Only (logFp w.heap.size lv) W W') : Kv w W' lv' vv n ps' :=
  ⟨hr, h.below.trans (ho.below (fun i hi _ e => by have := (h.rep.fp_lt e).1; omega) h.below.size), h.v.keep (h.rep.keepB ho)⟩
theorem Kv.adv {w W W' : World} {lv vv : Value} {n : Nat} {ps : List (Ent × Value)} (h : Kv w W lv vv n ps) (hb : Below W.heap.size W W') : Kv w W' lv vv n ps :=
  ⟨h.rep.below hb, h.below.trans (hb.mono h.below.size), h.v.below hb⟩



set_option maxRecDepth 100000 in
set_option maxHeartbeats 1000000 in
theorem walk (a0 : Int) (a1 : Int) (w : World) (h0 : (Lit.int .i64 a0).wf = true) (h1 : (Lit.int .u32 a1).wf = true) :
    Calls Try.prog 3 #[.int .i64 a0, .int .u32 a1] w fun e w' => e = .returned (.bool true) ∧ Below w.heap.size w w' := by
  by_cases hr : a0 < 65530 ∨ 65540 < a0
  · have HK := Lib.hid (known_true w)
    by_cases hr1 : a0 < 65530
    · go_enter Try.func3, Try.ntmps3
      go_wp2_with fail
      refine HK.out.mono ?_
      rintro e w1 ⟨rfl, h1⟩
      go_wp2_with fail
      go_ret
      exact ⟨rfl, h1⟩
    · have hr2 : 65540 < a0 := by omega
      go_enter Try.func3, Try.ntmps3
      go_wp2_with fail
      refine HK.out.mono ?_
      rintro e w1 ⟨rfl, h1⟩
      go_wp2_with fail
      go_ret
      exact ⟨rfl, h1⟩
  · obtain ⟨n, rfl⟩ : ∃ n : Nat, a0 = n := ⟨a0.toNat, by omega⟩
    obtain ⟨s, rfl⟩ : ∃ s : Nat, a1 = s := ⟨a1.toNat, by have := bounds_u32 h1; omega⟩
    have hs := bounds_u32 h1
    have hn1 : ¬ (n : Int) < 65530 := by omega
    have hn2 : ¬ 65540 < (n : Int) := by omega
    clear hr h0 h1
    go_enter Try.func3, Try.ntmps3
    go_wp2_with fail
    refine (logNew_any _).mono ?_
    rintro e w1 ⟨rfl, hw1⟩
    have HR := Lib.hid (hw1 ▸ logNew_rep w w.heap.size (Nat.le_refl _) : LogRep w1 w.heap.size w.heap.size (.slice none 0 0) [])
    have HG := Lib.hid (hw1 ▸ (Below.refl w.heap.size w).alloc (Nat.le_refl _) _ : Below w.heap.size w w1)
    clear hw1
    go_wp2_with fail
    refine (appends_true w.heap.size w.heap.size _ [] ⟨#[97]⟩ _ [] 0 1 0 _ HR.out (by decide) (Bts.nil _ _ _) (by decide) (by decide) rfl).mono ?_
    rintro e w2 ⟨rfl, lv2, v2, hr2, ho2, hrow2, hval2⟩
    have HG2 := Lib.hid (HG.out.trans (ho2.below (fun i hi _ e => by have := (HR.out.fp_lt e).1; omega) HG.out.size))
    have HR2 : Hid (LogRep w2 w.heap.size w.heap.size lv2 [(⟨⟨#[97]⟩, [], 0, 1⟩, v2)]) := Lib.hid hr2
    clear hr2 ho2 hrow2 hval2 HR HG
    obtain ⟨i0, hi0, hz0, hz1, hz2⟩ := info_parts u8_info
    obtain ⟨w3, hmk, hown3, hgr3⟩ := run_make_full (P := Try.prog) w2 w2.heap.size 28 5 i0 _ 1 Try.underlying28 hi0 hz0 hz1 .i64 .i64 n (by rw [hz2]; omega) (by unfold maxLen; omega) (Nat.le_refl _)
    rw [made_bytes] at hown3
    have hb3 : Below w2.heap.size w2 w3 := (Below.refl _ _).grown hgr3 (Nat.le_refl _) (by intro k hk; cases hk)
    have HK : Hid (Kv w w3 lv2 (.slice (some ⟨w2.heap.size, 0, none⟩) n n) n [(⟨⟨#[97]⟩, [], 0, 1⟩, v2)]) := Lib.hid ⟨HR2.out.below hb3, HG2.out.trans (hb3.mono HG2.out.size), Bts.of_own (bs := List.replicate n 0) (by simpa using hown3) _⟩
    clear hi0 hz0 hz1 hz2 hown3 hgr3 hb3 HR2 HG2
    have hlr : (List.replicate n (0 : UInt8)).length = n := List.length_replicate
    by_cases hl : 65536 < n
    · have hd : decide ((65536 : Int) < (n : Int)) = true := decide_eq_true (by omega)
      have hch : chkE ⟨#[98]⟩ (List.replicate n (0 : UInt8)).length 2 = 5 := by rw [hlr]; unfold chkE; rw [if_neg (by decide), if_pos hl]
      go_wp2_with fail
      refine (logAppend_err w.heap.size w.heap.size lv2 _ ⟨#[98]⟩ _ _ 0 2 _ HK.out.rep (by decide) HK.out.v (by rw [hch]; decide)).mono ?_
      rintro e w4 ⟨rfl, hb4⟩
      rw [hch]
      have HK := Lib.hid (HK.out.adv hb4)
      clear hb4 hch hmk
      go_wp2_with fail
      refine (logSet_long w.heap.size w.heap.size lv2 _ 0 _ _ 3 _ ⟨⟨#[97]⟩, [], 0, 1⟩ v2 HK.out.rep ⟨rfl, (show (1 : Int) ≠ 0 by decide)⟩ HK.out.v (by rw [hlr]; exact hl)).mono ?_
      rintro e w' ⟨rfl, rfl⟩
      go_wp2_with fail
      rcases Nat.eq_zero_or_pos s with rfl | hs0
      · refine (logSet_long w.heap.size w.heap.size lv2 _ 0 _ _ 3 _ ⟨⟨#[97]⟩, [], 0, 1⟩ v2 HK.out.rep ⟨rfl, (show (1 : Int) ≠ 0 by decide)⟩ HK.out.v (by rw [hlr]; exact hl)).mono ?_
        rintro e w' ⟨rfl, rfl⟩
        go_wp2_with fail
        refine (logLen_any w.heap.size _ _ _ _ HK.out.rep).mono ?_
        rintro e w' ⟨rfl, rfl⟩
        simp only [List.length_cons, List.length_nil, Nat.zero_add, Nat.reduceAdd]
        go_wp2_with fail
        refine (logLen_any w.heap.size _ _ _ _ HK.out.rep).mono ?_
        rintro e w' ⟨rfl, rfl⟩
        simp only [List.length_cons, List.length_nil, Nat.zero_add, Nat.reduceAdd]
        go_wp2_with fail
        refine (known_true _).mono ?_
        rintro e w9 ⟨rfl, hb9⟩
        have HG := Lib.hid (HK.out.adv hb9).below
        clear hb9 HK
        go_wp2_with fail
        go_ret
        exact ⟨rfl, HG.out⟩
      · refine (logSet_none w.heap.size w.heap.size lv2 _ s _ 3 _ HK.out.rep (fun x v e => by rw [List.getElem?_eq_none (by simp; omega)] at e; cases e) (by omega)).mono ?_
        rintro e w' ⟨rfl, rfl⟩
        have hs1 : (1 : Int) ≤ (s : Int) := by omega
        go_wp2_with fail
        refine (logLen_any w.heap.size _ _ _ _ HK.out.rep).mono ?_
        rintro e w' ⟨rfl, rfl⟩
        simp only [List.length_cons, List.length_nil, Nat.zero_add, Nat.reduceAdd]
        go_wp2_with fail
        refine (logLen_any w.heap.size _ _ _ _ HK.out.rep).mono ?_
        rintro e w' ⟨rfl, rfl⟩
        simp only [List.length_cons, List.length_nil, Nat.zero_add, Nat.reduceAdd]
        go_wp2_with fail
        refine (known_true _).mono ?_
        rintro e w9 ⟨rfl, hb9⟩
        have HG := Lib.hid (HK.out.adv hb9).below
        clear hb9 HK
        go_wp2_with fail
        go_ret
        exact ⟨rfl, HG.out⟩
    · have hd : decide ((65536 : Int) < (n : Int)) = false := decide_eq_false (by omega)
      have hch : chkE ⟨#[98]⟩ (List.replicate n (0 : UInt8)).length 2 = 0 := by rw [hlr]; unfold chkE; rw [if_neg (by decide), if_neg (by omega)]
      go_wp2_with fail
      refine (logAppend_ok w.heap.size w.heap.size lv2 _ ⟨#[98]⟩ _ _ 0 2 _ HK.out.rep (by decide) HK.out.v hch (show 1 < 4194304 by decide)).mono ?_
      rintro e w4 ⟨rfl, lv4, v4, hr4, ho4, hrow4, hval4⟩
      have HK : Hid (Kv w w4 lv4 (.slice (some ⟨w2.heap.size, 0, none⟩) n n) n [(⟨⟨#[97]⟩, [], 0, 1⟩, v2), (⟨⟨#[98]⟩, List.replicate n 0, 0, 2⟩, v4)]) := Lib.hid (HK.out.next hr4 ho4)
      have hl1 : (([(⟨⟨#[97]⟩, [], 0, 1⟩, v2)] : List (Ent × Value)).length : Int) = 1 := rfl
      rw [hl1]
      clear hr4 ho4 hrow4 hval4 hch hmk hl1
      go_wp2_with fail
      refine (logSet_ok w.heap.size w.heap.size lv4 _ 0 _ _ 3 _ ⟨⟨#[97]⟩, [], 0, 1⟩ v2 HK.out.rep ⟨rfl, (show (1 : Int) ≠ 0 by decide)⟩ HK.out.v (by rw [hlr]; omega)).mono ?_
      rintro e w5 ⟨rfl, v5, hr5, ho5, hval5⟩
      have HK : Hid (Kv w w5 lv4 (.slice (some ⟨w2.heap.size, 0, none⟩) n n) n [(⟨⟨#[97]⟩, List.replicate n 0, 3, 1⟩, v5), (⟨⟨#[98]⟩, List.replicate n 0, 0, 2⟩, v4)]) := Lib.hid (HK.out.next hr5 ho5)
      clear hr5 ho5 hval5
      go_wp2_with fail
      have hcase : s = 0 ∨ s = 1 ∨ 2 ≤ s := by omega
      rcases hcase with rfl | rfl | hs2
      · refine (logSet_ok w.heap.size w.heap.size lv4 _ 0 _ _ 3 _ ⟨⟨#[97]⟩, List.replicate n 0, 3, 1⟩ v5 HK.out.rep ⟨rfl, (show (1 : Int) ≠ 0 by decide)⟩ HK.out.v (by rw [hlr]; omega)).mono ?_
        rintro e w6 ⟨rfl, v6, hr6, ho6, hval6⟩
        have HK : Hid (Kv w w6 lv4 (.slice (some ⟨w2.heap.size, 0, none⟩) n n) n [(⟨⟨#[97]⟩, List.replicate n 0, 3, 1⟩, v6), (⟨⟨#[98]⟩, List.replicate n 0, 0, 2⟩, v4)]) := Lib.hid (HK.out.next hr6 ho6)
        clear hr6 ho6 hval6
        go_wp2_with fail
        refine (logLen_any w.heap.size _ _ _ _ HK.out.rep).mono ?_
        rintro e w' ⟨rfl, rfl⟩
        simp only [List.length_cons, List.length_nil, Nat.zero_add, Nat.reduceAdd]
        go_wp2_with fail
        refine (logLen_any w.heap.size _ _ _ _ HK.out.rep).mono ?_
        rintro e w' ⟨rfl, rfl⟩
        simp only [List.length_cons, List.length_nil, Nat.zero_add, Nat.reduceAdd]
        go_wp2_with fail
        refine (known_true _).mono ?_
        rintro e w9 ⟨rfl, hb9⟩
        have HG := Lib.hid (HK.out.adv hb9).below
        clear hb9 HK
        go_wp2_with fail
        go_ret
        exact ⟨rfl, HG.out⟩
      · refine (logSet_ok w.heap.size w.heap.size lv4 _ 1 _ _ 3 _ ⟨⟨#[98]⟩, List.replicate n 0, 0, 2⟩ v4 HK.out.rep ⟨rfl, (show (2 : Int) ≠ 0 by decide)⟩ HK.out.v (by rw [hlr]; omega)).mono ?_
        rintro e w6 ⟨rfl, v6, hr6, ho6, hval6⟩
        have HK : Hid (Kv w w6 lv4 (.slice (some ⟨w2.heap.size, 0, none⟩) n n) n [(⟨⟨#[97]⟩, List.replicate n 0, 3, 1⟩, v5), (⟨⟨#[98]⟩, List.replicate n 0, 3, 2⟩, v6)]) := Lib.hid (HK.out.next hr6 ho6)
        clear hr6 ho6 hval6
        go_wp2_with fail
        refine (logLen_any w.heap.size _ _ _ _ HK.out.rep).mono ?_
        rintro e w' ⟨rfl, rfl⟩
        simp only [List.length_cons, List.length_nil, Nat.zero_add, Nat.reduceAdd]
        go_wp2_with fail
        refine (logLen_any w.heap.size _ _ _ _ HK.out.rep).mono ?_
        rintro e w' ⟨rfl, rfl⟩
        simp only [List.length_cons, List.length_nil, Nat.zero_add, Nat.reduceAdd]
        go_wp2_with fail
        refine (known_true _).mono ?_
        rintro e w9 ⟨rfl, hb9⟩
        have HG := Lib.hid (HK.out.adv hb9).below
        clear hb9 HK
        go_wp2_with fail
        go_ret
        exact ⟨rfl, HG.out⟩
      · refine (logSet_none w.heap.size w.heap.size lv4 _ s _ 3 _ HK.out.rep (fun x v e => by rw [List.getElem?_eq_none (by simp; omega)] at e; cases e) (by omega)).mono ?_
        rintro e w' ⟨rfl, rfl⟩
        have hs1 : (2 : Int) ≤ (s : Int) := by omega
        go_wp2_with fail
        refine (logLen_any w.heap.size _ _ _ _ HK.out.rep).mono ?_
        rintro e w' ⟨rfl, rfl⟩
        simp only [List.length_cons, List.length_nil, Nat.zero_add, Nat.reduceAdd]
        go_wp2_with fail
        refine (logLen_any w.heap.size _ _ _ _ HK.out.rep).mono ?_
        rintro e w' ⟨rfl, rfl⟩
        simp only [List.length_cons, List.length_nil, Nat.zero_add, Nat.reduceAdd]
        go_wp2_with fail
        refine (known_true _).mono ?_
        rintro e w9 ⟨rfl, hb9⟩
        have HG := Lib.hid (HK.out.adv hb9).below
        clear hb9 HK
        go_wp2_with fail
        go_ret
        exact ⟨rfl, HG.out⟩

theorem own : ownKnob Try.prog.godebug = none := by kernel_rfl
theorem laidOut : laidOutB Try.prog = true := by kernel_rfl

set_option maxRecDepth 100000 in
theorem lifted (os : Os) (started : os.Started) (H : Type) (enc : TypeId × Value → H) :
    ReturnsInHanded {} Try.checked os 3 .any (Rows.entrylogValuesSpec.pre6 enc Try.prog Try.f3 Rows.entrylogValuesRow.domain false) (Rows.entrylogValuesSpec.post enc Try.prog Try.f3 false true false false) := by
  refine returnsInHanded_of_change (C := Try.checked) own started (by kernel_rfl) Try.func3
    (ChangeSpec.witness6 (enc := enc) (C := Try.checked) false ⟨#[], #[.int .i64 0, .int .u32 0], []⟩ 8 (by kernel_rfl) (by kernel_rfl) (by kernel_rfl) (by kernel_rfl)) ?_
  intro W base args ds gs before hval0 hW hcnd _
  have hval : ∀ (j : Nat) t v, Try.f3.params[j]? = some t → args[j]? = some v → Value.okWide Try.prog W .any base t v := hval0
  have hW' := hW
  obtain ⟨p, q, hA0, hV, rfl, hfz, hnd⟩ := hW
  have hA : DataW.TrodAll enc Try.prog W 0 (fun _ => true) true Try.f3.params.toList args.toList ds p := hA0
  rw [Try.params3] at hA hval
  obtain ⟨v0, vs0, d0, ds0, p0, q0, hargs, rfl, rfl, h0, r0⟩ := trodAll_cons hA
  obtain ⟨v1, vs1, d1, ds1, p1, q1, rfl, rfl, rfl, h1, r1⟩ := trodAll_cons r0
  obtain ⟨rfl, rfl, rfl⟩ := trodAll_nil r1
  obtain rfl : args = #[v0, v1] := by cases args; simp_all
  obtain ⟨rfl, rfl⟩ := trodVars_none hV
  obtain ⟨a0, rfl, rfl, rfl, w0⟩ := open_int Try.underlying3 (hval 0 3 v0 rfl rfl) h0
  obtain ⟨a1, rfl, rfl, rfl, w1⟩ := open_int Try.underlying22 (hval 1 22 v1 rfl rfl) h1
  clear hA0 hval0
  refine (walk a0 a1 W w0 w1).mono fun e W' ⟨he, bel⟩ => ?_
  subst he
  exact ⟨_, rfl, _, _, _, [], _, [], hW', trodAll_mk1 (shut_bool Try.underlying4 _), (trodAll_cons_mk (shut_int Try.underlying3 w0) (trodAll_cons_mk (shut_int Try.underlying22 w1) trodAll_mk0)), rfl, bel.frame _, fun h => by cases h⟩

theorem over : Rows.entrylogValuesRow.holds Try.pinned (OpenSpec.ofChange Rows.entrylogValuesSpec) :=
  OpenClaim.holds_of_wide 3 Try.f3 rfl rfl rfl rfl rfl rfl rfl ⟨rfl, rfl, rfl, rfl, rfl⟩ rfl rfl rfl rfl rfl (by kernel_rfl) Try.func3 (by kernel_rfl)
    (of_decide_eq_true (by kernel_rfl)) (by unfold Func.isWrapper; first | (rw [if_pos (by decide +kernel)]; kernel_rfl) | (rw [if_neg (by decide +kernel)]; exact ⟨rfl, rfl⟩))
    (fun os started H enc _ => lifted os started H enc)

theorem proved : Rows.EntrylogValuesSaid := over
#print axioms proved

end Go.Proofs.Ytjjhndhigkhkpaa.entrylogValues
