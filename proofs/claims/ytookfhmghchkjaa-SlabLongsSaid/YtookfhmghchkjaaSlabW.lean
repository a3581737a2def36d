/- The walk of layer 13's known examples. -/
import Derived.Test.YtookfhmghchkjaaSlabR
import Derived.Test.YtookfhmghchkjaaSlabS
import Derived.Lib.SmallJoins
namespace Go.Proofs.Ytookfhmghchkjaa
open Go Go.RowKit
attribute [local go_sem ↓] Go.wp_at_zero Go.wp_at_succ

/-- The bytes of a constant string, or of a slice that is written out. -/
theorem Bts.marked (w : World) (U : Nat) (bs : List UInt8) (C : Array Value) (hC : C = (bcells bs).toArray) (n : Nat) (hn : n = bs.length) (fr : Nat × Nat) (B : Nat) (hm : bs.length ≤ maxLen) : Bts (w.alloc (.cells C U fr)) B U (.slice (some ⟨w.heap.size, 0, none⟩) n n) bs := by
  subst hC hn
  refine ⟨_, _, rfl, Nat.le_refl _, hm, (fun h => by cases h), fun _ => ⟨w.heap.size, 0, rfl, by simp, .inr ⟨_, _, heap_alloc_new w _⟩, fun i hi => ?_⟩⟩
  rw [Nat.zero_add]
  have h2 : (w.alloc (.cells (bcells bs).toArray U fr)).cell? ⟨w.heap.size, i, none⟩ = (bcells bs).toArray[i]? := World.cell?_alloc_mark w _ U fr i
  rw [h2]
  simp [bcells, hi]

theorem pput_is {most : Int} {st : PSt} {bs : List UInt8} (K N er : Int) (h : ((pput most st bs).1, (pput most st bs).2.1, (pput most st bs).2.2.1) = (K, N, er)) : pput most st bs = (K, N, er, (pput most st bs).2.2.2) := by
  injection h with h1 h
  injection h with h2 h3
  subst h1 h2 h3
  rfl
theorem pswap_is {most : Int} {st : PSt} {K0 N0 : Int} {bs : List UInt8} (K N er : Int) (h : ((pswap most st K0 N0 bs).1, (pswap most st K0 N0 bs).2.1, (pswap most st K0 N0 bs).2.2.1) = (K, N, er)) : pswap most st K0 N0 bs = (K, N, er, (pswap most st K0 N0 bs).2.2.2) := by
  injection h with h1 h
  injection h with h2 h3
  subst h1 h2 h3
  rfl

def bsA : List UInt8 := [97, 98, 99]
def bsB : List UInt8 := List.replicate 20 0
def bsC : List UInt8 := List.replicate 16 0
def bsX : List UInt8 := [120]
def bsY : List UInt8 := [121, 122]
def bsZ : List UInt8 := List.replicate 17 0
def k1 : PSt := (pput 64 p0 bsA).2.2.2
def k2 : PSt := (pput 64 k1 bsB).2.2.2
def k3 : PSt := (pput 64 k2 bsC).2.2.2
def k4 : PSt := (pfree k3 0 0).2
def k5 : PSt := (pfree k4 0 1).2
def k6 : PSt := (pput 64 k5 bsX).2.2.2
def k7 : PSt := (pswap 64 k6 0 1 bsY).2.2.2
def k8 : PSt := (pfree k7 1 0).2
def k9 : PSt := (pswap 64 k8 0 1 bsZ).2.2.2
theorem pw1 : PWf 1 k1 := p0_wf.put 64 bsA
theorem pw2 : PWf 2 k2 := pw1.put 64 bsB
theorem pw3 : PWf 3 k3 := pw2.put 64 bsC
theorem pw4 : PWf 3 k4 := pw3.free 0 0
theorem pw5 : PWf 3 k5 := pw4.free 0 1
theorem pw6 : PWf 4 k6 := pw5.put 64 bsX
theorem pw7 : PWf 5 k7 := pw6.swap 64 0 1 bsY
theorem pw8 : PWf 5 k8 := pw7.free 1 0
theorem pw9 : PWf 6 k9 := pw8.swap 64 0 1 bsZ
theorem e1 : pput 64 p0 bsA = (0, 0, 0, k1) := pput_is 0 0 0 (by decide +kernel)
theorem e2 : pput 64 k1 bsB = (1, 0, 0, k2) := pput_is 1 0 0 (by decide +kernel)
theorem e3 : pput 64 k2 bsC = (0, 1, 0, k3) := pput_is 0 1 0 (by decide +kernel)
theorem e3x : pput 64 k3 bsX = (0, 0, 7, k3) := by
  have h : (pput 64 k3 bsX).2.2.1 = 7 := by decide +kernel
  have := (pput_no (most := 64) (st := k3) (bs := bsX) (by rw [h]; decide)).1
  rw [h] at this
  exact this
theorem e4 : (pfree k3 0 0).1 = 0 := by decide +kernel
theorem e5 : (pfree k4 0 1).1 = 0 := by decide +kernel
theorem e6 : pput 64 k5 bsX = (0, 1, 0, k6) := pput_is 0 1 0 (by decide +kernel)
theorem e7 : pswap 64 k6 0 1 bsY = (0, 1, 0, k7) := pswap_is 0 1 0 (by decide +kernel)
theorem e7z : pswap 64 k7 0 1 bsZ = (0, 0, 7, k7) := by
  have h : (pput 64 k7 bsZ).2.2.1 = 7 := by decide +kernel
  have hp : phas k7 0 1 = some bsY := by decide +kernel
  unfold pswap
  rw [hp]
  dsimp only
  rw [if_neg (by decide +kernel), if_neg (by rw [h]; decide), h]
theorem e8 : (pfree k7 1 0).1 = 0 := by decide +kernel
theorem e9 : pswap 64 k8 0 1 bsZ = (1, 0, 0, k9) := pswap_is 1 0 0 (by decide +kernel)

theorem mk20_run (w : World) : (Instr.makeSlice 39 (.int .i64 20) (.int .i64 20)).run Try.prog w = .ok (.slice (some ⟨w.heap.size, 0, none⟩) 20 20) (w.alloc (.cells (bcells bsB).toArray 5)) := by kernel_rfl
theorem mk16_run (w : World) : (Instr.makeSlice 39 (.int .i64 16) (.int .i64 16)).run Try.prog w = .ok (.slice (some ⟨w.heap.size, 0, none⟩) 16 16) (w.alloc (.cells (bcells bsC).toArray 5)) := by kernel_rfl
theorem mk17_run (w : World) : (Instr.makeSlice 39 (.int .i64 17) (.int .i64 17)).run Try.prog w = .ok (.slice (some ⟨w.heap.size, 0, none⟩) 17 17) (w.alloc (.cells (bcells bsZ).toArray 5)) := by kernel_rfl

theorem ownsRow_lit (w : World) (U : TypeId) (C : Array Value) (n : Nat) (hn : C.size = n) (hm : n ≤ maxLen) : (w.alloc (.cells C U)).ownsRow w.heap.size U 1 (.slice (some ⟨w.heap.size, 0, none⟩) n n) n C.toList :=
  ⟨by simp [hn], .inr ⟨w.heap.size, n, C, rfl, Nat.le_refl _, heap_alloc_new w _, Nat.le_refl _, hm, by omega, by rw [List.take_of_length_le]; simp [hn]⟩⟩

theorem fr4 (B b : Nat) (w : World) (h : ARep w B b 64 k3) : Calls Try.prog 16 #[.pointer (some ⟨b, 0, none⟩), .agg #[.int .i64 0, .int .i64 0]] w (APost B b 64 (.int .i64 0) k4 w) := by
  have := aFree 3 B b 64 k3 0 0 w h pw3 (by decide)
  rw [e4] at this
  exact this
theorem fr5 (B b : Nat) (w : World) (h : ARep w B b 64 k4) : Calls Try.prog 16 #[.pointer (some ⟨b, 0, none⟩), .agg #[.int .i64 0, .int .i64 1]] w (APost B b 64 (.int .i64 0) k5 w) := by
  have := aFree 3 B b 64 k4 0 1 w h pw4 (by decide)
  rw [e5] at this
  exact this
theorem fr8 (B b : Nat) (w : World) (h : ARep w B b 64 k7) : Calls Try.prog 16 #[.pointer (some ⟨b, 0, none⟩), .agg #[.int .i64 1, .int .i64 0]] w (APost B b 64 (.int .i64 0) k8 w) := by
  have := aFree 5 B b 64 k7 1 0 w h pw7 (by decide)
  rw [e8] at this
  exact this

theorem fls10 (m B b : Nat) (st : PSt) (w : World) (h : ARep (w.alloc (.cells #[.int .i64 1, .int .i64 0] 3)) B b 64 st) (hw : PWf m st) (hm : m ≤ 1000) (hf : (st 0).fr.reverse = [1, 0]) :
    Calls Try.prog 29 #[.pointer (some ⟨b, 0, none⟩), .int .i64 0, .slice (some ⟨w.heap.size, 0, none⟩) 2 2] (w.alloc (.cells #[.int .i64 1, .int .i64 0] 3)) fun e w' => e = .returned (.bool true) ∧ Below (w.alloc (.cells #[.int .i64 1, .int .i64 0] 3)).heap.size (w.alloc (.cells #[.int .i64 1, .int .i64 0] 3)) w' :=
  frees_true m B w.heap.size b 64 st 0 _ [1, 0] _ h hw hm (by decide) (ownsRow_lit w 3 #[.int .i64 1, .int .i64 0] 2 rfl (by decide)) hf

set_option maxHeartbeats 1000000 in
theorem known2_true (B b : Nat) (w : World) (h : ARep w B b 64 k9) : Calls Try.prog 30 #[.pointer (some ⟨b, 0, none⟩)] w fun e w' => e = .returned (.bool true) ∧ Below w.heap.size w w' := by
  have HA := Lib.hid h
  clear h
  go_enter Try.func30, Try.ntmps30
  go_wp2_with fail
  refine (fls10 6 B b k9 w (HA.out.alloc _) pw9 (by decide) (by decide +kernel)).mono ?_
  rintro e w1 ⟨rfl, hb1⟩
  have HA1 := Lib.hid ((HA.out.alloc _).below hb1)
  have HB1 := Lib.hid (((Below.refl w.heap.size w).alloc (Nat.le_refl _) _).trans (hb1.mono (by simp)))
  clear hb1
  go_wp2_with fail
  refine (frees_true 6 B 0 b 64 k9 1 (.slice none 0 0) [] _ HA1.out pw9 (by decide) (by decide) (World.ownsRow_nil _ _ _ _) (by decide +kernel)).mono ?_
  rintro e w2 ⟨rfl, hb2⟩
  have HB2 := Lib.hid (HB1.out.trans (hb2.mono HB1.out.size))
  clear hb2
  go_wp2_with fail
  go_ret
  exact ⟨rfl, HB2.out⟩

/-- The three cells of the examples, in their boxes. -/
structure XB (n : Nat) (w : World) : Prop where
  x : Blk w (n + 1) 38 #[.int .i64 0, .int .i64 0]
  y : Blk w (n + 1 + 1) 38 #[.int .i64 1, .int .i64 0]
  z : Blk w (n + 1 + 1 + 1) 38 #[.int .i64 0, .int .i64 1]
theorem XB.alloc {n : Nat} {w : World} (h : XB n w) (o : Obj) : XB n (w.alloc o) := ⟨h.x.alloc o, h.y.alloc o, h.z.alloc o⟩
theorem XB.drew {n : Nat} {w : World} (h : XB n w) : XB n w.drew := ⟨h.x, h.y, h.z⟩
theorem XB.keep {n B : Nat} {w w' : World} (h : XB n w) (hk : KeepS B w w') : XB n w' := ⟨hk.blk h.x (by decide) (by decide) (by decide), hk.blk h.y (by decide) (by decide) (by decide), hk.blk h.z (by decide) (by decide) (by decide)⟩
def Six (n : Nat) (w : World) : Prop := w.cell? ⟨n + 1, 0, none⟩ = some (.int .i64 0) ∧ w.cell? ⟨n + 1, 1, none⟩ = some (.int .i64 0) ∧ w.cell? ⟨n + 1 + 1, 0, none⟩ = some (.int .i64 1) ∧ w.cell? ⟨n + 1 + 1, 1, none⟩ = some (.int .i64 0) ∧ w.cell? ⟨n + 1 + 1 + 1, 0, none⟩ = some (.int .i64 0) ∧ w.cell? ⟨n + 1 + 1 + 1, 1, none⟩ = some (.int .i64 1)
theorem XB.six {n : Nat} {w : World} (h : XB n w) : Six n w := ⟨h.x.cell 0 _ rfl, h.x.cell 1 _ rfl, h.y.cell 0 _ rfl, h.y.cell 1 _ rfl, h.z.cell 0 _ rfl, h.z.cell 1 _ rfl⟩





set_option maxRecDepth 100000 in
set_option maxHeartbeats 4000000 in
theorem known_true (w : World) : Calls Try.prog 11 #[] w fun e w' => e = .returned (.bool true) ∧ Below w.heap.size w w' := by
  have kc := fun (w : World) (C : Array Value) (n c : Nat) => Lib.run_convert_bytes_const (P := Try.prog) w 39 5 C n c Try.underlying39 Try.underlying5
  have kcd : ∀ (w : World) (C : Array Value) (n c : Nat), (convert 39 39 (.slice (some ⟨w.heap.size, 0, none⟩) n c)).run Try.prog (w.alloc (.cells C 5)).drew = .ok (.slice (some ⟨w.heap.size, 0, none⟩) n c) (w.alloc (.cells C 5 (C.size, C.size + 1))).drew := fun w C n c => kc w.drew C n c
  have mk20 := mk20_run
  have mk16 := mk16_run
  have mk17 := mk17_run
  have hc1 : ((csize 1 : Nat) : Int) = 32 := rfl
  go_enter Try.func11, Try.ntmps11
  go_wp2_with fail
  refine (slabSize_ok 1 (by decide) _).mono ?_
  rw [hc1]
  rintro e w' ⟨rfl, hw⟩
  subst hw
  go_wp2_with fail
  refine (class_ok 0 0 (by decide) (by decide +kernel) _).mono ?_
  rintro e w1 ⟨rfl, hw⟩
  subst hw
  go_wp2_with fail
  refine (class_ok 16 0 (by decide) (by decide +kernel) _).mono ?_
  rintro e w' ⟨rfl, hw⟩
  subst hw
  go_wp2_with fail
  refine (class_ok 17 1 (by decide) (by decide +kernel) _).mono ?_
  rintro e w1 ⟨rfl, hw⟩
  subst hw
  go_wp2_with fail
  refine (class_ok 65536 12 (by decide) (by decide +kernel) _).mono ?_
  rintro e w' ⟨rfl, hw⟩
  subst hw
  go_wp2_with fail
  refine (class_bad 65537 (by decide) _).mono ?_
  rintro e w1 ⟨rfl, hw⟩
  subst hw
  go_wp2_with fail
  refine (slabNew_ok 64 (by decide) (by decide) _).mono ?_
  rintro e w2 ⟨rfl, hw2⟩
  go_upto_region 6 with fail
  have hb0 : Below w1.heap.size w1 ((((w1.alloc (.cells (acells 64 sh0).toArray 65)).alloc (.cells #[.int .i64 0, .int .i64 0] 38)).alloc (.cells #[.int .i64 1, .int .i64 0] 38)).alloc (.cells #[.int .i64 0, .int .i64 1] 38)) :=
    ((((Below.refl _ _).alloc (Nat.le_refl _) _).alloc (by simp) _).alloc (by simp; omega) _).alloc (by simp; omega) _
  have ha0 : ARep ((((w1.alloc (.cells (acells 64 sh0).toArray 65)).alloc (.cells #[.int .i64 0, .int .i64 0] 38)).alloc (.cells #[.int .i64 1, .int .i64 0] 38)).alloc (.cells #[.int .i64 0, .int .i64 1] 38)) w1.heap.size w1.heap.size 64 p0 :=
    ((ARep.alloc ⟨sh0, slabNew_rep w1 w1.heap.size (Nat.le_refl _) 64, sh0_is⟩ _).alloc _).alloc _
  have hx0 : XB w1.heap.size ((((w1.alloc (.cells (acells 64 sh0).toArray 65)).alloc (.cells #[.int .i64 0, .int .i64 0] 38)).alloc (.cells #[.int .i64 1, .int .i64 0] 38)).alloc (.cells #[.int .i64 0, .int .i64 1] 38)) :=
    ⟨((Blk.new2 _ _ _ _).alloc _).alloc _, (Blk.new3 _ _ _ _ _).alloc _, by have := Blk.new3 (w1.alloc (.cells (acells 64 sh0).toArray 65)) (.cells #[.int .i64 0, .int .i64 0] 38) (.cells #[.int .i64 1, .int .i64 0] 38) 38 #[.int .i64 0, .int .i64 1]; rw [World.size_alloc] at this; exact this⟩
  generalize (((w1.alloc (.cells (acells 64 sh0).toArray 65)).alloc (.cells #[.int .i64 0, .int .i64 0] 38)).alloc (.cells #[.int .i64 1, .int .i64 0] 38)).alloc (.cells #[.int .i64 0, .int .i64 1] 38) = W0 at hb0 ha0 hx0 ⊢
  have HB := Lib.hid hb0
  have H0 := Lib.hid ha0
  have HX := Lib.hid hx0
  clear hb0 ha0 hx0 hw2 w2
  have hu : ((pused k3 13 : Nat) : Int) = 64 ∧ ((pall k3 13 : Nat) : Int) = 64 ∧ ((pheld k3 13 : Nat) : Int) = 39 := by decide +kernel
  have HU := Lib.hid hu
  clear hu
  have hsix := HX.out.six
  unfold Six at hsix
  go_region_held_law (fun w' => w'.cell? ⟨w1.heap.size + 1, 0, none⟩ = some (.int .i64 0) ∧ w'.cell? ⟨w1.heap.size + 1, 1, none⟩ = some (.int .i64 0) ∧ w'.cell? ⟨w1.heap.size + 1 + 1, 0, none⟩ = some (.int .i64 1) ∧ w'.cell? ⟨w1.heap.size + 1 + 1, 1, none⟩ = some (.int .i64 0) ∧ w'.cell? ⟨w1.heap.size + 1 + 1 + 1, 0, none⟩ = some (.int .i64 0) ∧ w'.cell? ⟨w1.heap.size + 1 + 1 + 1, 1, none⟩ = some (.int .i64 1))
    (first | with_reducible exact HX.out.six | with_reducible exact (HX.out.alloc _).drew.six | with_reducible exact HX.out.drew.six | with_reducible exact (HX.out.alloc _).six | with_reducible exact (HX.out.drew.alloc _).six | exact HX.out.six | exact HX.out.drew.six | exact (HX.out.alloc _).six | exact (HX.out.drew.alloc _).six | exact (HX.out.alloc _).drew.six)
      (first
        | (go_at_call 23
           have hg := H0
           clear hg
           (refine (puts_true 0 w1.heap.size w1.heap.size 64 p0 _ bsA _ (by first | exact (H0.out.alloc _).drew | exact H0.out.drew.alloc _ | exact H0.out.alloc _) p0_wf (by decide) (by first | exact (Bts.marked _ _ bsA _ (by rfl) _ (by rfl) _ _ (by decide)).drew | exact Bts.marked _ _ bsA _ (by rfl) _ (by rfl) _ _ (by decide)) 0 0 0 k1 e1).mono ?_
            rintro e W1 ⟨rfl, ha, hk, hb⟩
            have H1 := Lib.hid ha
            have HX := Lib.hid (XB.keep (by first | exact (HX.out.alloc _).drew | exact HX.out.drew.alloc _ | exact HX.out.alloc _) hk)
            have HB : Hid (Below w1.heap.size w1 W1) := Lib.hid ((by first | exact (HB.out.alloc HB.out.size _).drew | exact HB.out.drew.alloc HB.out.size _ | exact HB.out.alloc HB.out.size _ : Below w1.heap.size w1 _).trans hb)
            clear ha hk hb H0))
        | (go_at_call 23
           have hg := H1
           clear hg
           (refine (puts_true 1 w1.heap.size w1.heap.size 64 k1 _ bsB _ (by first | exact (H1.out.alloc _).drew | exact H1.out.drew.alloc _ | exact H1.out.alloc _) pw1 (by decide) (by first | exact (Bts.marked _ _ bsB _ (by rfl) _ (by rfl) _ _ (by decide)).drew | exact Bts.marked _ _ bsB _ (by rfl) _ (by rfl) _ _ (by decide)) 1 0 0 k2 e2).mono ?_
            rintro e W2 ⟨rfl, ha, hk, hb⟩
            have H2 := Lib.hid ha
            have HX := Lib.hid (XB.keep (by first | exact (HX.out.alloc _).drew | exact HX.out.drew.alloc _ | exact HX.out.alloc _) hk)
            have HB : Hid (Below w1.heap.size w1 W2) := Lib.hid ((by first | exact (HB.out.alloc HB.out.size _).drew | exact HB.out.drew.alloc HB.out.size _ | exact HB.out.alloc HB.out.size _ : Below w1.heap.size w1 _).trans hb)
            clear ha hk hb H1))
        | (go_at_call 23
           have hg := H2
           clear hg
           (refine (puts_true 2 w1.heap.size w1.heap.size 64 k2 _ bsC _ (by first | exact (H2.out.alloc _).drew | exact H2.out.drew.alloc _ | exact H2.out.alloc _) pw2 (by decide) (by first | exact (Bts.marked _ _ bsC _ (by rfl) _ (by rfl) _ _ (by decide)).drew | exact Bts.marked _ _ bsC _ (by rfl) _ (by rfl) _ _ (by decide)) 0 1 0 k3 e3).mono ?_
            rintro e W3 ⟨rfl, ha, hk, hb⟩
            have H3 := Lib.hid ha
            have HX := Lib.hid (XB.keep (by first | exact (HX.out.alloc _).drew | exact HX.out.drew.alloc _ | exact HX.out.alloc _) hk)
            have HB : Hid (Below w1.heap.size w1 W3) := Lib.hid ((by first | exact (HB.out.alloc HB.out.size _).drew | exact HB.out.drew.alloc HB.out.size _ | exact HB.out.alloc HB.out.size _ : Below w1.heap.size w1 _).trans hb)
            clear ha hk hb H2))
        | (go_at_call 23
           have hg := H3
           clear hg
           (refine (puts_true 3 w1.heap.size w1.heap.size 64 k3 _ bsX _ (by first | exact (H3.out.alloc _).drew | exact H3.out.drew.alloc _ | exact H3.out.alloc _) pw3 (by decide) (by first | exact (Bts.marked _ _ bsX _ (by rfl) _ (by rfl) _ _ (by decide)).drew | exact Bts.marked _ _ bsX _ (by rfl) _ (by rfl) _ _ (by decide)) 0 0 7 k3 e3x).mono ?_
            rintro e W4 ⟨rfl, ha, hk, hb⟩
            have H4 := Lib.hid ha
            have HX := Lib.hid (XB.keep (by first | exact (HX.out.alloc _).drew | exact HX.out.drew.alloc _ | exact HX.out.alloc _) hk)
            have HB : Hid (Below w1.heap.size w1 W4) := Lib.hid ((by first | exact (HB.out.alloc HB.out.size _).drew | exact HB.out.drew.alloc HB.out.size _ | exact HB.out.alloc HB.out.size _ : Below w1.heap.size w1 _).trans hb)
            clear ha hk hb H3))
        | (go_at_call 25
           (refine (uses_true 3 w1.heap.size w1.heap.size 64 k3 _ H4.out pw3 (by decide) 64 64 39 HU.out.1 HU.out.2.1 HU.out.2.2).mono ?_
            rintro e W5 ⟨rfl, hb⟩
            have H5 := Lib.hid (H4.out.below hb)
            have HX := Lib.hid (XB.keep HX.out (KeepS.of_below (B := w1.heap.size) hb))
            have HB : Hid (Below w1.heap.size w1 W5) := Lib.hid (HB.out.trans (hb.mono HB.out.size))
            clear hb H4)))
  all_goals
    clear hsix
    have s0 := True.intro
    have s1 := True.intro
    have s2 := True.intro
    have s3 := True.intro
    have s4 := True.intro
    have s5 := True.intro
    clear s0 s1 s2 s3 s4 s5
    have hsx := HX.out.six
    unfold Six at hsx
    obtain ⟨s0, s1, s2, s3, s4, s5⟩ := hsx
    have l0 := HX.out.x.lt
    have l1 := HX.out.y.lt
    have l2 := HX.out.z.lt
    go_wp2_with fail
    refine (fr4 w1.heap.size w1.heap.size _ H5.out).mono ?_
    rintro e V1 ⟨rfl, ha, hk, hb⟩
    have F1 := Lib.hid ha
    have HX := Lib.hid (XB.keep HX.out hk)
    have HB := Lib.hid ((HB.out).trans hb)
    clear ha hk hb s0 s1 s2 s3 s4 s5 l0 l1 l2
    have hsx := HX.out.six
    unfold Six at hsx
    obtain ⟨s0, s1, s2, s3, s4, s5⟩ := hsx
    have l0 := HX.out.x.lt
    have l1 := HX.out.y.lt
    have l2 := HX.out.z.lt
    go_wp2_with fail
    refine (fr5 w1.heap.size w1.heap.size _ F1.out).mono ?_
    rintro e V2 ⟨rfl, ha, hk, hb⟩
    have F2 := Lib.hid ha
    have HX := Lib.hid (XB.keep HX.out hk)
    have HB := Lib.hid ((HB.out).trans hb)
    clear ha hk hb s0 s1 s2 s3 s4 s5 l0 l1 l2
    have hsx := HX.out.six
    unfold Six at hsx
    obtain ⟨s0, s1, s2, s3, s4, s5⟩ := hsx
    have l0 := HX.out.x.lt
    have l1 := HX.out.y.lt
    have l2 := HX.out.z.lt
    go_wp2_with fail
    refine (fls10 3 w1.heap.size w1.heap.size k5 V2 (F2.out.alloc _) pw5 (by decide) (by decide +kernel)).mono ?_
    rintro e V3 ⟨rfl, hb⟩
    have F3 := Lib.hid ((F2.out.alloc _).below hb)
    have HX := Lib.hid (XB.keep (HX.out.alloc _) (KeepS.of_below (B := w1.heap.size) hb))
    have HB := Lib.hid ((HB.out.alloc HB.out.size _).trans (hb.mono (HB.out.alloc HB.out.size _).size))
    clear hb s0 s1 s2 s3 s4 s5 l0 l1 l2
    have hsx := HX.out.six
    unfold Six at hsx
    obtain ⟨s0, s1, s2, s3, s4, s5⟩ := hsx
    have l0 := HX.out.x.lt
    have l1 := HX.out.y.lt
    have l2 := HX.out.z.lt
    go_wp2_with fail
    refine (puts_true 3 w1.heap.size w1.heap.size 64 k5 _ bsX _ (F3.out.alloc _) pw5 (by decide) (Bts.marked _ _ bsX _ (by rfl) _ (by rfl) _ _ (by decide)) 0 1 0 k6 e6).mono ?_
    rintro e V4 ⟨rfl, ha, hk, hb⟩
    have F4 := Lib.hid ha
    have HX := Lib.hid (XB.keep (HX.out.alloc _) hk)
    have HB := Lib.hid ((HB.out.alloc HB.out.size _).trans hb)
    clear ha hk hb s0 s1 s2 s3 s4 s5 l0 l1 l2
    have hsx := HX.out.six
    unfold Six at hsx
    obtain ⟨s0, s1, s2, s3, s4, s5⟩ := hsx
    have l0 := HX.out.x.lt
    have l1 := HX.out.y.lt
    have l2 := HX.out.z.lt
    go_wp2_with fail
    refine (gets_some 4 w1.heap.size w1.heap.size 64 k6 0 1 bsX _ F4.out pw6 (by decide +kernel)).mono ?_
    rintro e V5 ⟨rfl, hb⟩
    have F5 := Lib.hid ((F4.out).below hb)
    have HX := Lib.hid (XB.keep HX.out (KeepS.of_below (B := w1.heap.size) hb))
    have HB := Lib.hid ((HB.out).trans (hb.mono (HB.out).size))
    clear hb s0 s1 s2 s3 s4 s5 l0 l1 l2
    have hsx := HX.out.six
    unfold Six at hsx
    obtain ⟨s0, s1, s2, s3, s4, s5⟩ := hsx
    have l0 := HX.out.x.lt
    have l1 := HX.out.y.lt
    have l2 := HX.out.z.lt
    go_wp2_with fail
    refine (gets_none w1.heap.size w1.heap.size 64 k6 0 0 _ F5.out (by decide +kernel)).mono ?_
    rintro e V6 ⟨rfl, hb⟩
    have G0 := Lib.hid ((F5.out).below hb)
    have HX := Lib.hid (XB.keep HX.out (KeepS.of_below (B := w1.heap.size) hb))
    have HB := Lib.hid ((HB.out).trans (hb.mono (HB.out).size))
    clear hb s0 s1 s2 s3 s4 s5 l0 l1 l2
    have hsx := HX.out.six
    unfold Six at hsx
    obtain ⟨s0, s1, s2, s3, s4, s5⟩ := hsx
    have l0 := HX.out.x.lt
    have l1 := HX.out.y.lt
    have l2 := HX.out.z.lt
    clear F1 F2 F3 F4 F5 H5
    have hu2 : ((pused k9 13 : Nat) : Int) = 32 ∧ ((pall k9 13 : Nat) : Int) = 64 ∧ ((pheld k9 13 : Nat) : Int) = 17 := by decide +kernel
    have HU2 := Lib.hid hu2
    clear hu2
    go_wp2_with fail
    go_region_held_law (fun w' => w'.cell? ⟨w1.heap.size + 1, 0, none⟩ = some (.int .i64 0) ∧ w'.cell? ⟨w1.heap.size + 1, 1, none⟩ = some (.int .i64 0) ∧ w'.cell? ⟨w1.heap.size + 1 + 1, 0, none⟩ = some (.int .i64 1) ∧ w'.cell? ⟨w1.heap.size + 1 + 1, 1, none⟩ = some (.int .i64 0) ∧ w'.cell? ⟨w1.heap.size + 1 + 1 + 1, 0, none⟩ = some (.int .i64 0) ∧ w'.cell? ⟨w1.heap.size + 1 + 1 + 1, 1, none⟩ = some (.int .i64 1))
      (first | with_reducible exact HX.out.six | with_reducible exact (HX.out.alloc _).drew.six | with_reducible exact HX.out.drew.six | with_reducible exact (HX.out.alloc _).six | with_reducible exact (HX.out.drew.alloc _).six | exact HX.out.six | exact HX.out.drew.six | exact (HX.out.alloc _).six | exact (HX.out.drew.alloc _).six | exact (HX.out.alloc _).drew.six)
      (first
        | (go_at_call 24
           have hg := G0
           clear hg
           (refine (swaps_true 4 w1.heap.size w1.heap.size 64 k6 0 1 _ bsY _ (by first | exact (G0.out.alloc _).drew | exact G0.out.drew.alloc _ | exact G0.out.alloc _) pw6 (by decide) (by first | exact (Bts.marked _ _ bsY _ (by rfl) _ (by rfl) _ _ (by decide)).drew | exact Bts.marked _ _ bsY _ (by rfl) _ (by rfl) _ _ (by decide)) 0 1 0 k7 e7).mono ?_
            rintro e WWG1 ⟨rfl, ha, hk, hb⟩
            have G1 := Lib.hid ha
            have HX := Lib.hid (XB.keep (by first | exact (HX.out.alloc _).drew | exact HX.out.drew.alloc _ | exact HX.out.alloc _) hk)
            have HB : Hid (Below w1.heap.size w1 WWG1) := Lib.hid ((by first | exact (HB.out.alloc HB.out.size _).drew | exact HB.out.drew.alloc HB.out.size _ | exact HB.out.alloc HB.out.size _ : Below w1.heap.size w1 _).trans hb)
            clear ha hk hb G0))
        | (go_at_call 24
           have hg := G1
           clear hg
           (refine (swaps_true 5 w1.heap.size w1.heap.size 64 k7 0 1 _ bsZ _ (by first | exact (G1.out.alloc _).drew | exact G1.out.drew.alloc _ | exact G1.out.alloc _) pw7 (by decide) (by first | exact (Bts.marked _ _ bsZ _ (by rfl) _ (by rfl) _ _ (by decide)).drew | exact Bts.marked _ _ bsZ _ (by rfl) _ (by rfl) _ _ (by decide)) 0 0 7 k7 e7z).mono ?_
            rintro e WWG2 ⟨rfl, ha, hk, hb⟩
            have G2 := Lib.hid ha
            have HX := Lib.hid (XB.keep (by first | exact (HX.out.alloc _).drew | exact HX.out.drew.alloc _ | exact HX.out.alloc _) hk)
            have HB : Hid (Below w1.heap.size w1 WWG2) := Lib.hid ((by first | exact (HB.out.alloc HB.out.size _).drew | exact HB.out.drew.alloc HB.out.size _ | exact HB.out.alloc HB.out.size _ : Below w1.heap.size w1 _).trans hb)
            clear ha hk hb G1))
        | (go_at_call 24
           have hg := G3
           clear hg
           (refine (swaps_true 5 w1.heap.size w1.heap.size 64 k8 0 1 _ bsZ _ (by first | exact (G3.out.alloc _).drew | exact G3.out.drew.alloc _ | exact G3.out.alloc _) pw8 (by decide) (by first | exact (Bts.marked _ _ bsZ _ (by rfl) _ (by rfl) _ _ (by decide)).drew | exact Bts.marked _ _ bsZ _ (by rfl) _ (by rfl) _ _ (by decide)) 1 0 0 k9 e9).mono ?_
            rintro e WWG4 ⟨rfl, ha, hk, hb⟩
            have G4 := Lib.hid ha
            have HX := Lib.hid (XB.keep (by first | exact (HX.out.alloc _).drew | exact HX.out.drew.alloc _ | exact HX.out.alloc _) hk)
            have HB : Hid (Below w1.heap.size w1 WWG4) := Lib.hid ((by first | exact (HB.out.alloc HB.out.size _).drew | exact HB.out.drew.alloc HB.out.size _ | exact HB.out.alloc HB.out.size _ : Below w1.heap.size w1 _).trans hb)
            clear ha hk hb G3))
        | (go_at_call 16
           (refine (fr8 w1.heap.size w1.heap.size _ G2.out).mono ?_
            rintro e WWG3 ⟨rfl, ha, hk, hb⟩
            have G3 := Lib.hid ha
            have HX := Lib.hid (XB.keep HX.out hk)
            have HB : Hid (Below w1.heap.size w1 WWG3) := Lib.hid (HB.out.trans hb)
            clear ha hk hb G2))
        | (go_at_call 25
           (refine (uses_true 6 w1.heap.size w1.heap.size 64 k9 _ G4.out pw9 (by decide) 32 64 17 HU2.out.1 HU2.out.2.1 HU2.out.2.2).mono ?_
            rintro e WWG5 ⟨rfl, hb⟩
            have G5 := Lib.hid (G4.out.below hb)
            have HX := Lib.hid (XB.keep HX.out (KeepS.of_below (B := w1.heap.size) hb))
            have HB : Hid (Below w1.heap.size w1 WWG5) := Lib.hid (HB.out.trans (hb.mono HB.out.size))
            clear hb G4))
        | (go_at_call 30
           (refine (known2_true w1.heap.size w1.heap.size _ G5.out).mono ?_
            rintro e WWG6 ⟨rfl, hb⟩
            have HX := Lib.hid (XB.keep HX.out (KeepS.of_below (B := w1.heap.size) hb))
            have HB : Hid (Below w1.heap.size w1 WWG6) := Lib.hid (HB.out.trans (hb.mono HB.out.size))
            clear hb)))
    all_goals
      go_wp2_with fail
      go_ret
      exact ⟨rfl, HB.out⟩

end Go.Proofs.Ytookfhmghchkjaa
