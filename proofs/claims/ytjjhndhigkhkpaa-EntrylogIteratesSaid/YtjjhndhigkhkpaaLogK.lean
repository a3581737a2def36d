/- The law's examples over a log (layer 9): known. -/
import Derived.Test.YtjjhndhigkhkpaaLogF
namespace Go.Proofs.Ytjjhndhigkhkpaa
open Go Go.RowKit

theorem Bts.lit {w : World} {g U : Nat} {bs : List UInt8} {n : Nat} (h : Blk w g U (bcells bs).toArray) (hn : n = bs.length) (hm : n ≤ maxLen) (B : Nat) : Bts w B U (.slice (some ⟨g, 0, none⟩) n n) bs := by
  subst hn
  refine ⟨_, _, rfl, Nat.le_refl _, hm, (fun h => by cases h), fun _ => ⟨g, 0, rfl, h.lt, .inr ⟨_, _, h⟩, fun i hi => ?_⟩⟩
  rw [Nat.zero_add]
  exact h.cell i _ (by simp [bcells, hi])

theorem own_lit {w : World} {g U : Nat} {cs : Array Value} {n : Nat} (h : Blk w g U cs) (hn : cs.size = n) (hm : n ≤ maxLen) {base : Nat} (hb : base ≤ g) : w.ownsRow base U 1 (.slice (some ⟨g, 0, none⟩) n n) n cs.toList := by
  subst hn
  exact ⟨by simp, .inr ⟨g, _, cs, rfl, hb, h, Nat.le_refl _, hm, by simp, by simp [← Array.length_toList]⟩⟩

def entA : Ent := ⟨⟨#[97]⟩, [1], 5, 1⟩
def entB : Ent := ⟨⟨#[98]⟩, [], 18446744073709551615, 2⟩

/-- What the walk through the examples knows of a world. -/
structure Kn (w W : World) (n : Nat) (lv : Value) (ps : List (Ent × Value)) : Prop where
  rep : LogRep W w.heap.size w.heap.size lv ps
  below : Below w.heap.size w W
  a : Blk W (n + 1) 31 #[.string ⟨#[97]⟩, .slice (some ⟨n, 0, none⟩) 1 1, .int .u64 5, .int .u64 1]
  b : Blk W (n + 1 + 1) 31 #[.string ⟨#[98]⟩, .slice none 0 0, .int .u64 18446744073709551615, .int .u64 2]
  va : Bts W w.heap.size 5 (.slice (some ⟨n, 0, none⟩) 1 1) [1]
  row : ∀ k, lv.ownBlock = some k → n + 3 ≤ k
  n : w.heap.size < n

theorem Kn.next {w W W' : World} {n : Nat} {lv lv' : Value} {ps ps' : List (Ent × Value)} (h : Kn w W n lv ps) (hr : LogRep W' w.heap.size w.heap.size lv' ps') (ho : Only (logFp w.heap.size lv) W W') (hl : ∀ k, lv'.ownBlock = some k → n + 3 ≤ k) : Kn w W' n lv' ps' := by
  have hn := h.n
  have hne : ∀ k, n ≤ k → k < n + 3 → ¬ logFp w.heap.size lv k := fun k h1 h2 e => by
    rcases e with e | e
    · omega
    · have := h.row k e; omega
  exact ⟨hr, h.below.trans (ho.below (fun i hi _ e => by have := (h.rep.fp_lt e).1; omega) h.below.size), h.a.only ho (hne _ (by omega) (by omega)), h.b.only ho (hne _ (by omega) (by omega)), h.va.keep (h.rep.keepB ho), hl, hn⟩

theorem Kn.adv {w W W' : World} {n : Nat} {lv : Value} {ps : List (Ent × Value)} (h : Kn w W n lv ps) (hb : Below W.heap.size W W') : Kn w W' n lv ps :=
  ⟨h.rep.below hb, h.below.trans (hb.mono h.below.size), h.a.below hb, h.b.below hb, h.va.below hb, h.row, h.n⟩
theorem Kn.alloc {w W : World} {n : Nat} {lv : Value} {ps : List (Ent × Value)} (h : Kn w W n lv ps) (o : Obj) : Kn w (W.alloc o) n lv ps := h.adv ((Below.refl _ _).alloc (Nat.le_refl _) o)

theorem Kn.size {w W : World} {n : Nat} {lv : Value} {ps : List (Ent × Value)} (h : Kn w W n lv ps) : n + 3 ≤ W.heap.size := by have := h.b.lt; omega

theorem Kn.row' {w W : World} {n : Nat} {lv lv' : Value} {ps : List (Ent × Value)} (h : Kn w W n lv ps) (hr : lv'.ownBlock = lv.ownBlock ∨ ∃ g, lv'.ownBlock = some g ∧ W.heap.size ≤ g) : ∀ k, lv'.ownBlock = some k → n + 3 ≤ k := fun k hk => by
  have := h.size
  rcases hr with e | ⟨g, e, hg⟩
  · exact h.row k (e ▸ hk)
  · rw [e] at hk; injection hk with hk; omega

set_option maxHeartbeats 4000000 in
theorem known_true (w : World) : Calls Try.prog 8 #[] w fun e w' => e = .returned (.bool true) ∧ Below w.heap.size w w' := by
  go_enter Try.func8, Try.ntmps8
  go_wp2_with fail
  refine (logNew_any _).mono ?_
  rintro e w1 ⟨rfl, hw1⟩
  have HR := Lib.hid (hw1 ▸ logNew_rep w w.heap.size (Nat.le_refl _) : LogRep w1 w.heap.size w.heap.size (.slice none 0 0) [])
  have HG := Lib.hid (hw1 ▸ (Below.refl w.heap.size w).alloc (Nat.le_refl _) _ : Below w.heap.size w w1)
  have hz1 : w.heap.size < w1.heap.size := by rw [hw1]; simp
  clear hw1
  go_wp2_with fail
  have K0 : Kn w (((w1.alloc (.cells #[.int .u8 1] 5)).alloc (.cells #[.string ⟨#[97]⟩, .slice (some ⟨w1.heap.size, 0, none⟩) 1 1, .int .u64 5, .int .u64 1] 31)).alloc (.cells #[.string ⟨#[98]⟩, .slice none 0 0, .int .u64 18446744073709551615, .int .u64 2] 31)) w1.heap.size (.slice none 0 0) [] :=
    ⟨((HR.out.alloc _).alloc _).alloc _, ((HG.out.alloc (by omega) _).alloc (by simp; omega) _).alloc (by simp; omega) _, (Blk.new2 _ _ _ _).alloc _, Blk.new3 _ _ _ _ _, Bts.lit (bs := [1]) (by exact ((Blk.new w1 _ #[.int .u8 1]).alloc _).alloc _) rfl (show 1 ≤ maxLen by unfold maxLen; omega) _, (fun k hk => by cases hk), by omega⟩
  have hc0 : chkE ⟨#[97]⟩ 1 1 = 0 := by decide
  refine (appends_true w.heap.size w.heap.size _ [] ⟨#[97]⟩ _ [1] 5 1 0 _ K0.rep (by decide) K0.va hc0 (by decide) rfl).mono ?_
  rintro e w2 ⟨rfl, lv2, v2, hr2, ho2, hrow2, hval2⟩
  have HK2 : Hid (Kn w w2 w1.heap.size lv2 [(entA, v2)]) := Lib.hid (K0.next hr2 ho2 (K0.row' hrow2))
  clear K0 hr2 ho2 hrow2 hval2 HR HG hc0
  have d0 := HK2.out.b.cell 0 _ rfl
  have d1 := HK2.out.b.cell 1 _ rfl
  have d2 := HK2.out.b.cell 2 _ rfl
  have d3 := HK2.out.b.cell 3 _ rfl
  go_wp2_with fail
  refine (appends_true w.heap.size w.heap.size lv2 _ ⟨#[98]⟩ _ [] 18446744073709551615 2 1 _ HK2.out.rep (by decide) (Bts.nil _ _ _) (by decide) (show 1 < 4194304 by decide) rfl).mono ?_
  rintro e w3 ⟨rfl, lv3, v3, hr3, ho3, hrow3, hval3⟩
  have HK3 : Hid (Kn w w3 w1.heap.size lv3 [(entA, v2), (entB, v3)]) := Lib.hid (HK2.out.next hr3 ho3 (HK2.out.row' hrow3))
  clear hr3 ho3 hrow3 hval3 d0 d1 d2 d3 HK2
  go_wp2_with fail
  refine (logAppend_err w.heap.size w.heap.size lv3 _ ⟨#[]⟩ _ [] 0 0 _ HK3.out.rep (by decide) (Bts.nil _ _ _) (by decide)).mono ?_
  rintro e w4 ⟨rfl, hb4⟩
  have hchk : chkE ⟨#[]⟩ ([] : List UInt8).length 0 = 2 := by decide
  rw [hchk]
  have HK4 := Lib.hid (HK3.out.adv hb4)
  clear hb4 HK3
  go_wp2_with fail
  refine (logLen_any w.heap.size _ lv3 _ _ HK4.out.rep).mono ?_
  rintro e w' ⟨rfl, rfl⟩
  have hlen : (([(entA, v2), (entB, v3)] : List (Ent × Value)).length : Int) = 2 := rfl
  rw [hlen]
  clear hlen
  go_wp2_with fail
  refine (logLive_any w.heap.size _ lv3 _ _ HK4.out.rep).mono ?_
  rintro e w' ⟨rfl, rfl⟩
  have hlen : (liveN ([(entA, v2), (entB, v3)] : List (Ent × Value)) : Int) = 2 := rfl
  rw [hlen]
  clear hlen
  go_wp2_with fail
  refine (logRemove_ok w.heap.size _ lv3 _ 0 _ entA v2 HK4.out.rep ⟨rfl, by decide⟩ (by decide)).mono ?_
  rintro e w5 ⟨v5, rfl, hown5, hr5, ho5⟩
  have HK5 : Hid (Kn w w5 w1.heap.size lv3 [(zent, .slice none 0 0), (entB, v3)]) := Lib.hid (HK4.out.next hr5 ho5 (HK4.out.row))
  obtain ⟨A5, c5, rfl, hx1, hx2⟩ := own_form hown5
  have HO5 := Lib.hid hown5
  clear hr5 ho5 hx1 hx2 HK4 hown5
  go_wp2_with fail
  have hno0 : Hasnt [(zent, .slice none 0 0), (entB, v3)] 0 := fun x v e => by simp at e; rw [← e.1]; rfl
  have HN0 := Lib.hid hno0
  clear hno0
  have X5 := Blk.new w5 31 #[.string entA.key, .slice A5 entA.val.length c5, .int .u64 entA.dl, .int .u64 entA.birth]
  have HV5 := Lib.hid ((Bts.of_own HO5.out w.heap.size).alloc (.cells #[.string entA.key, .slice A5 entA.val.length c5, .int .u64 entA.dl, .int .u64 entA.birth] 31))
  refine (logRemove_none w.heap.size _ lv3 _ 0 _ (HK5.out.alloc _).rep HN0.out (by decide)).mono ?_
  rintro e w6 ⟨rfl, hb6⟩
  have HX6 := Lib.hid (X5.below hb6)
  have HV6 := Lib.hid (HV5.out.below hb6)
  have HK6 := Lib.hid ((HK5.out.alloc _).adv hb6)
  have hz6 := HX6.out.lt
  clear HO5 HV5 HK5 hb6 X5
  unfold noEnt
  go_wp2_with fail
  refine (logGet_none w.heap.size _ lv3 _ 0 _ (HK6.out.alloc _).rep HN0.out (by decide)).mono ?_
  rintro e w7 ⟨rfl, hb7⟩
  have HX7 := Lib.hid ((HX6.out.alloc _).below hb7)
  have HV7 := Lib.hid ((HV6.out.alloc _).below hb7)
  have HK7 := Lib.hid ((HK6.out.alloc _).adv hb7)
  have hz7 : w6.heap.size < w7.heap.size := by have := hb7.size; simp at this; omega
  clear HX6 HV6 HK6 hb7
  unfold noEnt
  go_wp2_with fail
  refine (logKey_some w.heap.size _ lv3 _ 1 _ entB v3 (HK7.out.alloc _).rep ⟨rfl, by decide⟩).mono ?_
  rintro e w' ⟨rfl, rfl⟩
  have HX8 := Lib.hid (HX7.out.alloc (.cells #[.string ⟨#[]⟩, .slice none 0 0, .int .u64 0, .int .u64 0] 31))
  have HV8 := Lib.hid (HV7.out.alloc (.cells #[.string ⟨#[]⟩, .slice none 0 0, .int .u64 0, .int .u64 0] 31))
  have HK8 := Lib.hid (HK7.out.alloc (.cells #[.string ⟨#[]⟩, .slice none 0 0, .int .u64 0, .int .u64 0] 31))
  clear HX7 HV7 HK7
  generalize w7.alloc (.cells #[.string ⟨#[]⟩, .slice none 0 0, .int .u64 0, .int .u64 0] 31) = w8 at *
  have x0 := HX8.out.cell 0 _ rfl
  have x1 := HX8.out.cell 1 _ rfl
  have x2 := HX8.out.cell 2 _ rfl
  have x3 := HX8.out.cell 3 _ rfl
  have d0 := HK8.out.a.cell 0 _ rfl
  have d1 := HK8.out.a.cell 1 _ rfl
  have d2 := HK8.out.a.cell 2 _ rfl
  have d3 := HK8.out.a.cell 3 _ rfl
  go_wp2_with fail
  refine (refEqual_any w.heap.size w.heap.size entA entA _ _ _ HV8.out HK8.out.va).mono ?_
  rintro e w9 ⟨rfl, hb9⟩
  have hE : eqE entA entA = true := by decide
  have hkB : entB.key = ⟨#[98]⟩ := rfl
  rw [hE, hkB]
  have HK9 := Lib.hid (HK8.out.adv hb9)
  clear hb9 hE hkB x0 x1 x2 x3 d0 d1 d2 d3 HX8 HV8 HK8 hz6 hz7
  go_wp2_with fail
  refine (next_some w.heap.size w.heap.size lv3 _ 0 1 _ HK9.out.rep (by decide) ⟨entB, v3, rfl, by decide⟩ (fun k h1 h2 => by obtain rfl : k = 0 := (by omega); exact HN0.out)).mono ?_
  rintro e w' ⟨rfl, rfl⟩
  go_wp2_with fail
  refine (next_none w.heap.size w.heap.size lv3 _ 2 _ HK9.out.rep (by decide) (fun k h1 x v e => by rw [List.getElem?_eq_none (by simp; omega)] at e; cases e)).mono ?_
  rintro e w' ⟨rfl, rfl⟩
  have d0 := HK9.out.a.cell 0 _ rfl
  have d1 := HK9.out.a.cell 1 _ rfl
  have d2 := HK9.out.a.cell 2 _ rfl
  have d3 := HK9.out.a.cell 3 _ rfl
  go_wp2_with fail
  refine (appends_true w.heap.size w.heap.size lv3 _ ⟨#[97]⟩ _ [1] 5 1 2 _ HK9.out.rep (by decide) HK9.out.va (by decide) (show 2 < 4194304 by decide) rfl).mono ?_
  rintro e w10 ⟨rfl, lv10, v10, hr10, ho10, hrow10, hval10⟩
  have HK10 : Hid (Kn w w10 w1.heap.size lv10 [(zent, .slice none 0 0), (entB, v3), (entA, v10)]) := Lib.hid (HK9.out.next hr10 ho10 (HK9.out.row' hrow10))
  clear hr10 ho10 hrow10 hval10 d0 d1 d2 d3 HK9
  go_wp2_with fail
  refine (logSet_ok w.heap.size w.heap.size lv10 _ 2 _ [9, 9] 7 _ entA v10 (HK10.out.alloc _).rep ⟨rfl, by decide⟩ (Bts.lit (bs := [9, 9]) (Blk.new w10 _ #[.int .u8 9, .int .u8 9]) rfl (show 2 ≤ maxLen by unfold maxLen; omega) _) (by decide)).mono ?_
  rintro e w11 ⟨rfl, v11, hr11, ho11, hval11⟩
  have HK11 : Hid (Kn w w11 w1.heap.size lv10 [(zent, .slice none 0 0), (entB, v3), (⟨⟨#[97]⟩, [9, 9], 7, 1⟩, v11)]) := Lib.hid ((HK10.out.alloc _).next hr11 ho11 (HK10.out.row))
  clear hr11 ho11 hval11 HK10
  go_wp2_with fail
  refine (gets_true w.heap.size w.heap.size w.heap.size lv10 _ 2 ⟨⟨#[97]⟩, [9, 9], 7, 1⟩ v11 _ _ (HK11.out.alloc _).rep ⟨rfl, (show (1 : Int) ≠ 0 by decide)⟩ (Bts.lit (bs := [9, 9]) (Blk.new w11 _ #[.int .u8 9, .int .u8 9]) rfl (show 2 ≤ maxLen by unfold maxLen; omega) _) (show 2 ≤ 1000000000 by decide)).mono ?_
  rintro e w12 ⟨rfl, hb12⟩
  have HK12 := Lib.hid ((HK11.out.alloc _).adv hb12)
  clear hb12 HK11
  go_wp2_with fail
  refine (logLen_any w.heap.size _ lv10 _ _ HK12.out.rep).mono ?_
  rintro e w' ⟨rfl, rfl⟩
  have hlen : (([(zent, .slice none 0 0), (entB, v3), (⟨⟨#[97]⟩, [9, 9], 7, 1⟩, v11)] : List (Ent × Value)).length : Int) = 3 := rfl
  rw [hlen]
  clear hlen
  go_wp2_with fail
  refine (logLive_any w.heap.size _ lv10 _ _ HK12.out.rep).mono ?_
  rintro e w' ⟨rfl, rfl⟩
  have hlen : (liveN ([(zent, .slice none 0 0), (entB, v3), (⟨⟨#[97]⟩, [9, 9], 7, 1⟩, v11)] : List (Ent × Value)) : Int) = 2 := rfl
  rw [hlen]
  clear hlen
  go_wp2_with fail
  refine (slots_true w.heap.size w.heap.size lv10 _ _ [1, 2] _ (HK12.out.alloc _).rep (own_lit (Blk.new w12 22 #[.int .u32 1, .int .u32 2]) rfl (show 2 ≤ maxLen by unfold maxLen; omega) (Nat.zero_le _)) rfl (fun p hp => by simp at hp; rcases hp with rfl | rfl | rfl <;> simp [zent, entB])).mono ?_
  rintro e w13 ⟨rfl, hb13⟩
  have HG := Lib.hid ((HK12.out.alloc _).adv hb13).below
  clear hb13 HK12
  go_wp2_with fail
  go_ret
  exact ⟨rfl, HG.out⟩

end Go.Proofs.Ytjjhndhigkhkpaa
