/- The walks of the reference's arena (layer 13): at, Get, Sums, Frees. -/
import Derived.Test.YtookfhmghchkjaaRsM
import Derived.Test.YtookfhmghchkjaaSlabT
import Derived.BigQuiet
import Derived.Deep.QuietTactic
namespace Go.Proofs.Ytookfhmghchkjaa
open Go Go.RowKit
attribute [local go_sem ↓] Go.wp_at_zero Go.wp_at_succ

def rAt (ks : List (Int × Int)) (us : List Bool) (k : Int × Int) : Option Nat := (List.zip ks us).findIdx? fun x => decide (x.1 = k) && x.2
def rAtI (ks : List (Int × Int)) (us : List Bool) (k : Int × Int) : Int := match rAt ks us k with
  | some i => i
  | none => -1

theorem rAt_some {ks : List (Int × Int)} {us : List Bool} {k : Int × Int} {i : Nat} (h1 : ks[i]? = some k) (h2 : us[i]? = some true) (h : ∀ j, j < i → ¬ (ks[j]? = some k ∧ us[j]? = some true)) : rAt ks us k = some i := by
  obtain ⟨h1l, h1v⟩ := List.getElem?_eq_some_iff.1 h1
  obtain ⟨h2l, h2v⟩ := List.getElem?_eq_some_iff.1 h2
  unfold rAt
  rw [List.findIdx?_eq_some_iff_getElem]
  refine ⟨by rw [List.length_zip]; omega, by simp [h1v, h2v], fun j hj hp => h j hj ?_⟩
  simp at hp
  exact ⟨by rw [List.getElem?_eq_getElem (by omega), hp.1], by rw [List.getElem?_eq_getElem (by omega), hp.2]⟩
theorem rAt_none {ks : List (Int × Int)} {us : List Bool} {k : Int × Int} (h : ∀ j, j < ks.length → ¬ (ks[j]? = some k ∧ us[j]? = some true)) : rAt ks us k = none := by
  unfold rAt
  rw [List.findIdx?_eq_none_iff]
  intro x hx
  obtain ⟨j, hj⟩ := List.getElem?_of_mem hx
  obtain ⟨hl, hv⟩ := List.getElem?_eq_some_iff.1 hj
  rw [List.length_zip] at hl
  cases hb : (decide (x.1 = k) && x.2) with
  | false => rfl
  | true =>
    simp at hb
    refine absurd ⟨?_, ?_⟩ (h j (by omega))
    · rw [List.getElem?_eq_getElem (by omega)]; rw [← hb.1, ← hv]; simp
    · rw [List.getElem?_eq_getElem (by omega)]; rw [← hb.2, ← hv]; simp
theorem rAt_is {ks : List (Int × Int)} {us : List Bool} {k : Int × Int} {i : Nat} (h : rAt ks us k = some i) : ks[i]? = some k ∧ us[i]? = some true := by
  unfold rAt at h
  rw [List.findIdx?_eq_some_iff_getElem] at h
  obtain ⟨hl, hp, _⟩ := h
  rw [List.length_zip] at hl
  simp at hp
  exact ⟨by rw [List.getElem?_eq_getElem (by omega), hp.1], by rw [List.getElem?_eq_getElem (by omega), hp.2]⟩

set_option maxRecDepth 100000 in
set_option maxHeartbeats 1000000 in
theorem refAt_any (B : Nat) (most K N : Int) (cv bv uv fv : Value) (ks : List (Int × Int)) (vs : List (List UInt8 × Value)) (us : List Bool) (fr : List (Int × Int)) (w : World) (h : RRep w B cv bv uv fv ks vs us fr) (hlu : us.length = ks.length) (hl : ks.length ≤ 1000) :
    Calls Try.prog 46 #[.agg #[.int .i64 most, cv, bv, uv, fv], .agg #[.int .i64 K, .int .i64 N]] w fun e w' => e = .returned (.int .i64 (rAtI ks us (K, N))) ∧ Below w.heap.size w w' := by
  have HR := Lib.hid h
  obtain ⟨CA, cc, rfl, hc1, _⟩ := own_form h.cells
  obtain ⟨BA, bc, rfl, hb1, _⟩ := own_form h.bytes
  obtain ⟨UA, uc, rfl, hu1, _⟩ := own_form h.used
  obtain ⟨FA, fc, rfl, hf1, _⟩ := own_form h.free
  have HLU := Lib.hid hlu
  clear h hlu
  go_enter Try.func46, Try.ntmps46
  go_wp2_with fail
  obtain ⟨w1, hw1⟩ : ∃ w1, (w.alloc (.cells #[.int .i64 most, .slice CA ks.length cc, .slice BA vs.length bc, .slice UA us.length uc, .slice FA fr.length fc] 55)).alloc (.cells #[.int .i64 K, .int .i64 N] 38) = w1 := ⟨_, rfl⟩
  have HB1 : Hid (Below w.heap.size w w1) := Lib.hid (hw1 ▸ ((Below.refl _ _).alloc (Nat.le_refl _) _).alloc (by simp) _)
  have HX : Hid (Blk w1 w.heap.size 55 #[.int .i64 most, .slice CA ks.length cc, .slice BA vs.length bc, .slice UA us.length uc, .slice FA fr.length fc]) := Lib.hid (hw1 ▸ (Blk.new _ _ _).alloc _)
  have HY : Hid (Blk w1 (w.heap.size + 1) 38 #[.int .i64 K, .int .i64 N]) := Lib.hid (hw1 ▸ Blk.new2 _ _ _ _)
  rw [hw1]
  clear hw1
  go_loopw [5] (fun i wr => ∃ (k : Nat), k ≤ ks.length ∧ i = .int .i64 k ∧ Below w1.heap.size w1 wr ∧ ∀ j, j < k → ¬ (ks[j]? = some (K, N) ∧ us[j]? = some true)) (fun i _ => ks.length - (intOf i).toNat)
  case atStart => exact ⟨0, by omega, rfl, Below.refl _ _, fun j hj => by omega⟩
  case round =>
    obtain ⟨k, hk, rfl, hb, hno⟩ := hrel
    have HBr := Lib.hid hb
    have HNo := Lib.hid hno
    clear hb hno
    have x1 := (HX.out.below HBr.out).cell 1 _ rfl
    have x3 := (HX.out.below HBr.out).cell 3 _ rfl
    have y0 := (HY.out.below HBr.out).cell 0 _ rfl
    have y1 := (HY.out.below HBr.out).cell 1 _ rfl
    by_cases hkl : k < ks.length
    · obtain ⟨⟨K', N'⟩, hkk⟩ : ∃ x, ks[k]? = some x := ⟨_, List.getElem?_eq_getElem hkl⟩
      obtain ⟨u, huk⟩ : ∃ x, us[k]? = some x := ⟨_, List.getElem?_eq_getElem (by have := HLU.out; omega)⟩
      have HRr := Lib.hid ((HR.out.below HB1.out).below HBr.out)
      obtain ⟨gc, cap, e1, _, hcc, _, c0, c1⟩ := kread HRr.out.cells hkk
      obtain ⟨gu, ucap, e2, _, huc, _, c2⟩ := uread HRr.out.used huk
      injection e1 with e1 el e3
      clear el
      subst e1 e3
      injection e2 with e2 el e4
      clear el
      subst e2 e4
      have hkI : (k : Int) < (ks.length : Int) := by omega
      have hkU : (k : Int) < (us.length : Int) := by have := HLU.out; omega
      have hcI : (ks.length : Int) ≤ (cc : Int) := by omega
      have huI : (us.length : Int) ≤ (uc : Int) := by omega
      have hk1 : (k : Int) ≤ 1000 := by omega
      have HK := Lib.hid hkk
      have HU := Lib.hid huk
      clear hkk huk
      by_cases hK : K' = K
      · subst hK
        by_cases hN : N' = N
        · subst hN
          cases u with
          | true =>
            go_wp2_with fail
            go_quiet (fail)
            go_wp2_with fail
            go_ret
            refine ⟨?_, ?_⟩
            · rw [rAtI, rAt_some HK.out HU.out HNo.out]; rfl
            · exact HB1.out.trans ((HBr.out.mono HB1.out.size).trans ⟨rfl, rfl, rfl, Nat.le_refl _, fun _ _ => rfl⟩)
          | false =>
            go_wp2_with fail
            go_quiet (fail)
            go_wp2_with fail
            go_roundw
            case rel => exact ⟨k + 1, by omega, by go_num, HBr.out.trans ⟨rfl, rfl, rfl, Nat.le_refl _, fun _ _ => rfl⟩, fun j hj => by
              rcases Nat.lt_or_ge j k with h1 | h1
              · exact HNo.out j h1
              · obtain rfl : j = k := by omega
                rw [HU.out]
                simp⟩
            case measure => simp [intOf]; omega
        · have hd : (N' == N) = false := by simpa using hN
          go_wp2_with fail
          go_quiet (fail)
          go_wp2_with fail
          go_roundw
          case rel => exact ⟨k + 1, by omega, by go_num, HBr.out.trans ⟨rfl, rfl, rfl, Nat.le_refl _, fun _ _ => rfl⟩, fun j hj => by
            rcases Nat.lt_or_ge j k with h1 | h1
            · exact HNo.out j h1
            · obtain rfl : j = k := by omega
              rw [HK.out]
              simp [hN]⟩
          case measure => simp [intOf]; omega
      · have hd : (K' == K) = false := by simpa using hK
        go_wp2_with fail
        go_quiet (fail)
        go_wp2_with fail
        go_roundw
        case rel => exact ⟨k + 1, by omega, by go_num, HBr.out.trans ⟨rfl, rfl, rfl, Nat.le_refl _, fun _ _ => rfl⟩, fun j hj => by
          rcases Nat.lt_or_ge j k with h1 | h1
          · exact HNo.out j h1
          · obtain rfl : j = k := by omega
            rw [HK.out]
            simp [hK]⟩
        case measure => simp [intOf]; omega
    · obtain rfl : k = ks.length := by omega
      go_wp2_with fail
      go_ret
      refine ⟨?_, HB1.out.trans (HBr.out.mono HB1.out.size)⟩
      rw [rAtI, rAt_none HNo.out]; rfl

/-! Sums. -/
def fAll (ks : List (Int × Int)) : Nat := (ks.map fun k => csize k.1.toNat).sum
def fUsed (l : List ((Int × Int) × Bool)) : Nat := (l.map fun x => if x.2 then csize x.1.1.toNat else 0).sum
def fHeld (l : List ((List UInt8 × Value) × Bool)) : Nat := (l.map fun x => if x.2 then x.1.1.length else 0).sum

theorem sum_take {α : Type} (f : α → Nat) : ∀ {l : List α} {i : Nat} {x : α}, l[i]? = some x → ((l.take (i + 1)).map f).sum = ((l.take i).map f).sum + f x
  | [], i, x, h => by simp at h
  | y :: l, 0, x, h => by
    simp at h
    subst h
    simp
  | y :: l, i + 1, x, h => by
    have := sum_take f (l := l) (i := i) (x := x) (by simpa using h)
    simp at this ⊢
    omega
theorem sum_bound {α : Type} {f : α → Nat} {c : Nat} : ∀ {l : List α}, (∀ x ∈ l, f x ≤ c) → (l.map f).sum ≤ l.length * c
  | [], _ => by simp
  | x :: l, h => by
    have h1 := sum_bound (l := l) (f := f) (c := c) (fun y hy => h y (List.mem_cons_of_mem _ hy))
    have h2 := h x List.mem_cons_self
    simp only [List.map_cons, List.sum_cons, List.length_cons, Nat.succ_mul]
    omega
theorem zip_at {α β : Type} {a : List α} {b : List β} {i : Nat} {x : α} {y : β} (h1 : a[i]? = some x) (h2 : b[i]? = some y) : (List.zip a b)[i]? = some (x, y) := by
  rw [List.getElem?_zip_eq_some]
  exact ⟨h1, h2⟩

set_option maxRecDepth 100000 in
set_option maxHeartbeats 1000000 in
theorem refSums_any (B : Nat) (most : Int) (cv bv uv fv : Value) (ks : List (Int × Int)) (vs : List (List UInt8 × Value)) (us : List Bool) (fr : List (Int × Int)) (w : World) (h : RRep w B cv bv uv fv ks vs us fr) (hlu : us.length = ks.length) (hlv : vs.length = ks.length) (hl : ks.length ≤ 1000)
    (hK : ∀ k ∈ ks, 0 ≤ k.1 ∧ k.1 < 13) (hB : ∀ x ∈ vs, x.1.length ≤ 65536) :
    Calls Try.prog 39 #[.agg #[.int .i64 most, cv, bv, uv, fv]] w fun e w' => e = .returned (.tuple #[.int .i64 (fUsed (List.zip ks us)), .int .i64 (fAll ks), .int .i64 (fHeld (List.zip vs us))]) ∧ Below w.heap.size w w' := by
  have HR := Lib.hid h
  obtain ⟨CA, cc, rfl, hc1, _⟩ := own_form h.cells
  obtain ⟨BA, bc, rfl, hb1, _⟩ := own_form h.bytes
  obtain ⟨UA, uc, rfl, hu1, _⟩ := own_form h.used
  obtain ⟨FA, fc, rfl, hf1, _⟩ := own_form h.free
  have HLU := Lib.hid hlu
  have HLV := Lib.hid hlv
  have HKs := Lib.hid hK
  have HBs := Lib.hid hB
  clear h hlu hlv hK hB
  go_enter Try.func39, Try.ntmps39
  go_wp2_with fail
  obtain ⟨w1, hw1⟩ : ∃ w1, w.alloc (.cells #[.int .i64 most, .slice CA ks.length cc, .slice BA vs.length bc, .slice UA us.length uc, .slice FA fr.length fc] 55) = w1 := ⟨_, rfl⟩
  have HB1 : Hid (Below w.heap.size w w1) := Lib.hid (hw1 ▸ (Below.refl _ _).alloc (Nat.le_refl _) _)
  have HX : Hid (Blk w1 w.heap.size 55 #[.int .i64 most, .slice CA ks.length cc, .slice BA vs.length bc, .slice UA us.length uc, .slice FA fr.length fc]) := Lib.hid (hw1 ▸ Blk.new _ _ _)
  rw [hw1]
  clear hw1
  go_loopw [5, 6, 7, 8] (fun u a h i wr => ∃ (k : Nat), k ≤ ks.length ∧ i = .int .i64 k ∧ u = .int .i64 (fUsed ((List.zip ks us).take k)) ∧ a = .int .i64 (fAll (ks.take k)) ∧ h = .int .i64 (fHeld ((List.zip vs us).take k)) ∧ wr = w1) (fun _ _ _ i _ => ks.length - (intOf i).toNat)
  case atStart => exact ⟨0, by omega, rfl, rfl, rfl, rfl, rfl⟩
  case round =>
    obtain ⟨k, hk, rfl, rfl, rfl, rfl, rfl⟩ := hrel
    have x1 := HX.out.cell 1 _ rfl
    have x2 := HX.out.cell 2 _ rfl
    have x3 := HX.out.cell 3 _ rfl
    by_cases hkl : k < ks.length
    · obtain ⟨⟨K, N⟩, hkk⟩ : ∃ x, ks[k]? = some x := ⟨_, List.getElem?_eq_getElem hkl⟩
      obtain ⟨u, huk⟩ : ∃ x, us[k]? = some x := ⟨_, List.getElem?_eq_getElem (by have := HLU.out; omega)⟩
      obtain ⟨⟨bs, v⟩, hvk⟩ : ∃ x, vs[k]? = some x := ⟨_, List.getElem?_eq_getElem (by have := HLV.out; omega)⟩
      have HRr := Lib.hid (HR.out.below HB1.out)
      obtain ⟨gc, cap, e1, _, hcc, _, c0, c1⟩ := kread HRr.out.cells hkk
      obtain ⟨gu, ucap, e2, _, huc, _, c2⟩ := uread HRr.out.used huk
      obtain ⟨gb, bcap, e3, _, hbc, _, c3⟩ := vread HRr.out.bytes hvk
      injection e1 with e1 el e4
      clear el
      subst e1 e4
      injection e2 with e2 el e4
      clear el
      subst e2 e4
      injection e3 with e3 el e4
      clear el
      subst e3 e4
      obtain ⟨K0, hK0⟩ : ∃ K0 : Nat, K = K0 := ⟨K.toNat, by have := (HKs.out _ (List.mem_of_getElem? hkk)).1; omega⟩
      subst hK0
      have hK13 : K0 < 13 := by have := (HKs.out _ (List.mem_of_getElem? hkk)).2; omega
      have hbl : bs.length ≤ 65536 := HBs.out _ (List.mem_of_getElem? hvk)
      obtain ⟨VA, vc, hve⟩ := (HRr.out.vals _ (List.mem_of_getElem? hvk)).form
      dsimp only at hve
      subst hve
      have hkI : (k : Int) < (ks.length : Int) := by omega
      have hkU : (k : Int) < (us.length : Int) := by have := HLU.out; omega
      have hkV : (k : Int) < (vs.length : Int) := by have := HLV.out; omega
      have hcI : (ks.length : Int) ≤ (cc : Int) := by omega
      have huI : (us.length : Int) ≤ (uc : Int) := by omega
      have hvI : (vs.length : Int) ≤ (bc : Int) := by omega
      have hcs := csize_le hK13
      have hlk : (ks.take k).length ≤ 1000 := by rw [List.length_take]; omega
      have b1 : fAll (ks.take k) ≤ 65536000 := Nat.le_trans (sum_bound (c := 65536) (fun x hx => by
        have h1 := HKs.out x (List.mem_of_mem_take hx)
        exact (csize_le (k := x.1.toNat) (by omega)).2)) (by omega)
      have b2 : fUsed ((List.zip ks us).take k) ≤ 65536000 := Nat.le_trans (sum_bound (c := 65536) (fun x hx => by
        have h1 := HKs.out x.1 (List.of_mem_zip (List.mem_of_mem_take hx)).1
        have := (csize_le (k := x.1.1.toNat) (by omega)).2
        (try dsimp only)
        split <;> omega)) (by rw [List.length_take]; omega)
      have b3 : fHeld ((List.zip vs us).take k) ≤ 65536000 := Nat.le_trans (sum_bound (c := 65536) (fun x hx => by
        have h1 := HBs.out x.1 (List.of_mem_zip (List.mem_of_mem_take hx)).1
        (try dsimp only)
        split <;> omega)) (by rw [List.length_take]; omega)
      have s1 : fAll (ks.take (k + 1)) = fAll (ks.take k) + csize K0 := by simpa [fAll] using sum_take (fun k : Int × Int => csize k.1.toNat) hkk
      have s2 : fUsed ((List.zip ks us).take (k + 1)) = fUsed ((List.zip ks us).take k) + (if u then csize K0 else 0) := by simpa [fUsed] using sum_take (fun x : (Int × Int) × Bool => if x.2 then csize x.1.1.toNat else 0) (zip_at hkk huk)
      have s3 : fHeld ((List.zip vs us).take (k + 1)) = fHeld ((List.zip vs us).take k) + (if u then bs.length else 0) := by simpa [fHeld] using sum_take (fun x : (List UInt8 × Value) × Bool => if x.2 then x.1.1.length else 0) (zip_at hvk huk)
      have S1 := Lib.hid s1
      have S2 := Lib.hid s2
      have S3 := Lib.hid s3
      clear s1 s2 s3 hkk huk hvk
      generalize hga : fAll (ks.take k) = ga at b1 S1 ⊢
      generalize hgu : fUsed ((List.zip ks us).take k) = gus at b2 S2 ⊢
      generalize hgh : fHeld ((List.zip vs us).take k) = gh at b3 S3 ⊢
      clear hga hgu hgh
      have b1I : (ga : Int) ≤ 65536000 := by omega
      have b2I : (gus : Int) ≤ 65536000 := by omega
      have b3I : (gh : Int) ≤ 65536000 := by omega
      have hcsI : (csize K0 : Int) ≤ 65536 := by omega
      have hblI : (bs.length : Int) ≤ 65536 := by omega
      go_wp2_with fail
      refine (refSize_any K0 (by omega) _).mono ?_
      rintro e w' ⟨rfl, hw⟩
      subst hw
      cases u with
      | true =>
        go_wp2_with fail
        go_roundw
        case rel => exact ⟨k + 1, by omega, by go_num, by rw [S2.out]; simp, by rw [S1.out]; simp, by rw [S3.out]; simp, trivial⟩
        case measure => simp [intOf]; omega
      | false =>
        go_wp2_with fail
        go_roundw
        case rel => exact ⟨k + 1, by omega, by go_num, by rw [S2.out]; simp, by rw [S1.out]; simp, by rw [S3.out]; simp, trivial⟩
        case measure => simp [intOf]; omega
    · obtain rfl : k = ks.length := by omega
      rw [List.take_length, List.take_of_length_le (by rw [List.length_zip]; have := HLU.out; omega), List.take_of_length_le (by rw [List.length_zip]; have := HLV.out; omega)]
      go_wp2_with fail
      go_ret3
      exact ⟨rfl, HB1.out⟩

end Go.Proofs.Ytookfhmghchkjaa
