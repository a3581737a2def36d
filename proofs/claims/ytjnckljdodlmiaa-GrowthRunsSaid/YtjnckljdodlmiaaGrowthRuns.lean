/- The law GrowthRuns: for every input the Go function returns true and leaves what was there as it was. No condition. -/
import Derived.Test.YtjnckljdodlmiaaGrowthP
import Derived.ProofKit
import Derived.OpenShut
import Derived.ShutString
import Derived.ChangeOld
import Derived.Below
namespace Go.Proofs.Ytjnckljdodlmiaa.growthRuns
open Go.ChangeShapes Go.WideShapes Go.ChangeAt Go.RowKit
open Go.ChangeMaps (open_string shut_string)
set_option linter.unusedVariables false

/-- What the walk is told of a slice of integers that came in: it is nil; or it leads to a row of 'cap' cells, the numbers 'zs'. -/
def IsRow (k : IntKind) (w : World) (a : Option Addr) (len cap : Nat) (zs : List Int) : Prop :=
  (a = none ∧ len = 0 ∧ cap = 0 ∧ zs = []) ∨
  ∃ x, a = some x ∧ len ≤ cap ∧ cap ≤ maxLen ∧ zs.length = cap ∧ (∀ i, i < zs.length → w.cell? (x.add i) = some (.int k (zs.getD i 0))) ∧ ∀ n ∈ zs, (Lit.int k n).wf = true




set_option maxRecDepth 100000 in
set_option maxHeartbeats 4000000 in
theorem walk (a0 : Option Addr) (len0 cap0 : Nat) (z0 : List Int) (w : World) (w0 : IsRow .u8 w a0 len0 cap0 z0) :
    Calls Try.prog 6 #[.slice a0 len0 cap0] w fun e w' => e = .returned (.bool true) ∧ Below w.heap.size w w' := by
  have hlm : len0 ≤ maxLen := by
    rcases w0 with ⟨_, rfl, _⟩ | ⟨x, _, h1, h2, _⟩
    · exact Nat.zero_le _
    · omega
  unfold maxLen at hlm
  have hrow : ∀ k, k < len0 → ∃ b off x, a0 = some ⟨b, off, none⟩ ∧ b < w.heap.size ∧ w.cell? ⟨b, off + k, none⟩ = some (.int .u8 x) ∧ 0 ≤ x ∧ x ≤ 255 := by
    intro k hk
    rcases w0 with ⟨_, rfl, _⟩ | ⟨x, rfl, h1, h2, hz, hc, hwf⟩
    · omega
    · obtain ⟨b, off, spot⟩ := x
      have hs : spot = none := by simpa [Addr.add] using World.cell?_spot (hc 0 (by omega))
      subst hs
      have hck := hc k (by omega)
      have e : (Addr.add ⟨b, off, none⟩ k) = ⟨b, off + k, none⟩ := by
        unfold Addr.add
        split
        · rename_i h; subst h; rfl
        · rfl
      rw [e] at hck
      have hb := bounds_u8 (hwf (z0.getD k 0) (by rw [List.getD_eq_getElem?_getD, List.getElem?_eq_getElem (by omega)]; exact List.getElem_mem _))
      refine ⟨b, off, _, rfl, ?_, hck, hb.1, hb.2⟩
      rcases Nat.lt_or_ge b w.heap.size with h | h
      · exact h
      · simp [World.cell?, Array.getElem?_eq_none h] at hck
  clear w0
  by_cases hbig : 300 < len0
  · go_enter Try.func6, Try.ntmps6
    go_wp2_with fail
    refine (known_any _).mono ?_
    rintro e w4 ⟨rfl, h4⟩
    go_wp2_with fail
    go_ret
    exact ⟨rfl, h4⟩
  · have HRow := Lib.hid hrow
    clear hrow
    go_enter Try.func6, Try.ntmps6
    go_wp2_with fail
    go_loopw [3, 4, 5, 24] (fun vg vl vt i wr => ∃ (k : Nat) (g l t : Int), k ≤ len0 ∧ vg = .int .i64 g ∧ vl = .int .i64 l ∧ vt = .int .i64 t ∧ i = .int .i64 k ∧ RunInv k g l t ∧ Below w.heap.size w wr) (fun _ _ _ i _ => len0 - (intOf i).toNat)
    case atStart => exact ⟨0, 1, 0, 0, by omega, rfl, rfl, rfl, rfl, RunInv.start, Below.refl _ _⟩
    case round =>
      obtain ⟨k, g, l, t, hk, rfl, rfl, rfl, rfl, hinv, hb⟩ := hrel
      have hbel := Lib.hid hb
      clear hb
      have hl0 := hinv.live0
      have hl1 := hinv.live
      have ht0 := hinv.tombs
      have hroom := hinv.room
      have hgr := validB_range hinv.valid
      obtain ⟨hg1, hg2⟩ := hgr
      have HINV := Lib.hid hinv
      clear hinv
      by_cases hlt : k < len0
      · obtain ⟨b, off, x, rfl, hbl, hcell, hx0, hx1⟩ := HRow.out k hlt
        have hcell : wr.cell? ⟨b, off + k, none⟩ = some (.int .u8 x) := by rw [hbel.out.cell (p := ⟨b, off + k, none⟩) hbl]; exact hcell
        by_cases hmod : x % 4 = 0
        · have hm1 : (x % 4 != 0) = false := by rw [hmod]; rfl
          have hm2 : (x % 4 == 0) = true := by rw [hmod]; rfl
          clear hmod
          by_cases hlive : 0 < l
          · by_cases h128 : 128 ≤ x
            · obtain ⟨pg, r, hI, hp1, hp2, hnext⟩ := HINV.out.rem (by omega) hlive (t + 1) (by omega) (by omega)
              obtain ⟨most, hM, hm8, hmost⟩ := hnext.most (by omega)
              have hnr := hnext.room
              have HI := Lib.hid hI
              have HM := Lib.hid hM
              have HInv := Lib.hid hnext
              clear hI hM hnext
              cases r with
              | true =>
                have hnr' : l - 1 + 0 < 8 * pg := by simpa using hnr
                have HInv : Hid (RunInv (k + 1) pg (l - 1) 0) := HInv.out
                clear hnr
                go_wp2_with fail
                refine (Remove_any _ _ _ _ (by omega) (by omega)).mono ?_
                rw [HI.out]
                rintro e w1 ⟨rfl, h1⟩
                have HG := Lib.hid (hbel.out.trans (h1.mono hbel.out.size))
                clear h1
                go_wp2_with fail
                refine (refRemove_any _ _ _ _ (by omega) (by omega)).mono ?_
                rw [HI.out]
                rintro e w2 ⟨rfl, h2⟩
                have HP := Lib.hid (own_block h2).1
                have s1 := (own_block h2).2
                have HG := Lib.hid (HG.out.trans ((below_own h2).mono HG.out.size))
                clear h2
                have c0 := cell_of HP.out 0 _ rfl
                have c1 := cell_of HP.out 1 _ rfl
                go_wp2_with fail
                refine (Bound_any _ _).mono ?_
                rw [HM.out]
                rintro e w3 ⟨rfl, h3⟩
                have HG := Lib.hid (HG.out.trans ((below_own h3).mono HG.out.size))
                clear h3 c0 c1
                go_wp2_with fail
                go_roundw
                case rel => first | exact ⟨k + 1, _, _, _, by omega, rfl, rfl, rfl, by go_num, HInv.out, HG.out⟩ | ((repeat apply Exists.intro); exact ⟨⟨k + 1, _, _, _, by omega, rfl, rfl, rfl, by go_num, HInv.out, HG.out⟩, rfl⟩)
                case measure => simp [intOf]; omega
              | false =>
                have hnr' : l - 1 + (t + 1) < 8 * pg := by simpa using hnr
                have HInv : Hid (RunInv (k + 1) pg (l - 1) (t + 1)) := HInv.out
                clear hnr
                go_wp2_with fail
                refine (Remove_any _ _ _ _ (by omega) (by omega)).mono ?_
                rw [HI.out]
                rintro e w1 ⟨rfl, h1⟩
                have HG := Lib.hid (hbel.out.trans (h1.mono hbel.out.size))
                clear h1
                go_wp2_with fail
                refine (refRemove_any _ _ _ _ (by omega) (by omega)).mono ?_
                rw [HI.out]
                rintro e w2 ⟨rfl, h2⟩
                have HP := Lib.hid (own_block h2).1
                have s1 := (own_block h2).2
                have HG := Lib.hid (HG.out.trans ((below_own h2).mono HG.out.size))
                clear h2
                have c0 := cell_of HP.out 0 _ rfl
                have c1 := cell_of HP.out 1 _ rfl
                go_wp2_with fail
                refine (Bound_any _ _).mono ?_
                rw [HM.out]
                rintro e w3 ⟨rfl, h3⟩
                have HG := Lib.hid (HG.out.trans ((below_own h3).mono HG.out.size))
                clear h3 c0 c1
                go_wp2_with fail
                go_roundw
                case rel => first | exact ⟨k + 1, _, _, _, by omega, rfl, rfl, rfl, by go_num, HInv.out, HG.out⟩ | ((repeat apply Exists.intro); exact ⟨⟨k + 1, _, _, _, by omega, rfl, rfl, rfl, by go_num, HInv.out, HG.out⟩, rfl⟩)
                case measure => simp [intOf]; omega
            · obtain ⟨pg, r, hI, hp1, hp2, hnext⟩ := HINV.out.rem (by omega) hlive t (by omega) (by omega)
              obtain ⟨most, hM, hm8, hmost⟩ := hnext.most (by omega)
              have hnr := hnext.room
              have HI := Lib.hid hI
              have HM := Lib.hid hM
              have HInv := Lib.hid hnext
              clear hI hM hnext
              cases r with
              | true =>
                have hnr' : l - 1 + 0 < 8 * pg := by simpa using hnr
                have HInv : Hid (RunInv (k + 1) pg (l - 1) 0) := HInv.out
                clear hnr
                go_wp2_with fail
                refine (Remove_any _ _ _ _ (by omega) (by omega)).mono ?_
                rw [HI.out]
                rintro e w1 ⟨rfl, h1⟩
                have HG := Lib.hid (hbel.out.trans (h1.mono hbel.out.size))
                clear h1
                go_wp2_with fail
                refine (refRemove_any _ _ _ _ (by omega) (by omega)).mono ?_
                rw [HI.out]
                rintro e w2 ⟨rfl, h2⟩
                have HP := Lib.hid (own_block h2).1
                have s1 := (own_block h2).2
                have HG := Lib.hid (HG.out.trans ((below_own h2).mono HG.out.size))
                clear h2
                have c0 := cell_of HP.out 0 _ rfl
                have c1 := cell_of HP.out 1 _ rfl
                go_wp2_with fail
                refine (Bound_any _ _).mono ?_
                rw [HM.out]
                rintro e w3 ⟨rfl, h3⟩
                have HG := Lib.hid (HG.out.trans ((below_own h3).mono HG.out.size))
                clear h3 c0 c1
                go_wp2_with fail
                go_roundw
                case rel => first | exact ⟨k + 1, _, _, _, by omega, rfl, rfl, rfl, by go_num, HInv.out, HG.out⟩ | ((repeat apply Exists.intro); exact ⟨⟨k + 1, _, _, _, by omega, rfl, rfl, rfl, by go_num, HInv.out, HG.out⟩, rfl⟩)
                case measure => simp [intOf]; omega
              | false =>
                have hnr' : l - 1 + t < 8 * pg := by simpa using hnr
                have HInv : Hid (RunInv (k + 1) pg (l - 1) t) := HInv.out
                clear hnr
                go_wp2_with fail
                refine (Remove_any _ _ _ _ (by omega) (by omega)).mono ?_
                rw [HI.out]
                rintro e w1 ⟨rfl, h1⟩
                have HG := Lib.hid (hbel.out.trans (h1.mono hbel.out.size))
                clear h1
                go_wp2_with fail
                refine (refRemove_any _ _ _ _ (by omega) (by omega)).mono ?_
                rw [HI.out]
                rintro e w2 ⟨rfl, h2⟩
                have HP := Lib.hid (own_block h2).1
                have s1 := (own_block h2).2
                have HG := Lib.hid (HG.out.trans ((below_own h2).mono HG.out.size))
                clear h2
                have c0 := cell_of HP.out 0 _ rfl
                have c1 := cell_of HP.out 1 _ rfl
                go_wp2_with fail
                refine (Bound_any _ _).mono ?_
                rw [HM.out]
                rintro e w3 ⟨rfl, h3⟩
                have HG := Lib.hid (HG.out.trans ((below_own h3).mono HG.out.size))
                clear h3 c0 c1
                go_wp2_with fail
                go_roundw
                case rel => first | exact ⟨k + 1, _, _, _, by omega, rfl, rfl, rfl, by go_num, HInv.out, HG.out⟩ | ((repeat apply Exists.intro); exact ⟨⟨k + 1, _, _, _, by omega, rfl, rfl, rfl, by go_num, HInv.out, HG.out⟩, rfl⟩)
                case measure => simp [intOf]; omega
          · obtain ⟨most, hM, hm8, hmost⟩ := HINV.out.most (by omega)
            have HM := Lib.hid hM
            have HInv := Lib.hid HINV.out.skip
            have HG := hbel
            clear hM
            go_wp2_with fail
            refine (Bound_any _ _).mono ?_
            rw [HM.out]
            rintro e w3 ⟨rfl, h3⟩
            have HG := Lib.hid (HG.out.trans (h3.mono HG.out.size))
            clear h3
            go_wp2_with fail
            go_roundw
            case rel => first | exact ⟨k + 1, _, _, _, by omega, rfl, rfl, rfl, by go_num, HInv.out, HG.out⟩ | ((repeat apply Exists.intro); exact ⟨⟨k + 1, _, _, _, by omega, rfl, rfl, rfl, by go_num, HInv.out, HG.out⟩, rfl⟩)
            case measure => simp [intOf]; omega
        · have hm1 : (x % 4 != 0) = true := by simpa using hmod
          have hm2 : (x % 4 == 0) = false := by simpa using hmod
          clear hmod
          obtain ⟨pg, r, hI, hp1, hp2, hnext⟩ := HINV.out.ins (by omega)
          have HI := Lib.hid hI
          clear hI
          cases r with
          | true =>
            have hn := hnext 0 (by omega) (by simp)
            obtain ⟨most, hM, hm8, hmost⟩ := hn.most (by omega)
            have hnr' := hn.room
            have HM := Lib.hid hM
            have HInv := Lib.hid hn
            clear hM hn hnext
            go_wp2_with fail
            refine (Insert_any _ _ _ _ (by omega) (by omega)).mono ?_
            rw [HI.out]
            rintro e w1 ⟨rfl, h1⟩
            have HG := Lib.hid (hbel.out.trans (h1.mono hbel.out.size))
            clear h1
            go_wp2_with fail
            refine (refInsert_any _ _ _ _ (by omega) (by omega)).mono ?_
            rw [HI.out]
            rintro e w2 ⟨rfl, h2⟩
            have HP := Lib.hid (own_block h2).1
            have s1 := (own_block h2).2
            have HG := Lib.hid (HG.out.trans ((below_own h2).mono HG.out.size))
            clear h2
            have c0 := cell_of HP.out 0 _ rfl
            have c1 := cell_of HP.out 1 _ rfl
            go_wp2_with fail
            refine (Bound_any _ _).mono ?_
            rw [HM.out]
            rintro e w3 ⟨rfl, h3⟩
            have HG := Lib.hid (HG.out.trans ((below_own h3).mono HG.out.size))
            clear h3 c0 c1
            go_wp2_with fail
            go_roundw
            case rel => first | exact ⟨k + 1, _, _, _, by omega, rfl, rfl, rfl, by go_num, HInv.out, HG.out⟩ | ((repeat apply Exists.intro); exact ⟨⟨k + 1, _, _, _, by omega, rfl, rfl, rfl, by go_num, HInv.out, HG.out⟩, rfl⟩)
            case measure => simp [intOf]; omega
          | false =>
            by_cases htp : 0 < t
            · by_cases h128 : 128 ≤ x
              · have hn := hnext (t - 1) (by omega) (by simp; omega)
                obtain ⟨most, hM, hm8, hmost⟩ := hn.most (by omega)
                have hnr' := hn.room
                have HM := Lib.hid hM
                have HInv := Lib.hid hn
                clear hM hn hnext
                go_wp2_with fail
                refine (Insert_any _ _ _ _ (by omega) (by omega)).mono ?_
                rw [HI.out]
                rintro e w1 ⟨rfl, h1⟩
                have HG := Lib.hid (hbel.out.trans (h1.mono hbel.out.size))
                clear h1
                go_wp2_with fail
                refine (refInsert_any _ _ _ _ (by omega) (by omega)).mono ?_
                rw [HI.out]
                rintro e w2 ⟨rfl, h2⟩
                have HP := Lib.hid (own_block h2).1
                have s1 := (own_block h2).2
                have HG := Lib.hid (HG.out.trans ((below_own h2).mono HG.out.size))
                clear h2
                have c0 := cell_of HP.out 0 _ rfl
                have c1 := cell_of HP.out 1 _ rfl
                go_wp2_with fail
                refine (Bound_any _ _).mono ?_
                rw [HM.out]
                rintro e w3 ⟨rfl, h3⟩
                have HG := Lib.hid (HG.out.trans ((below_own h3).mono HG.out.size))
                clear h3 c0 c1
                go_wp2_with fail
                go_roundw
                case rel => first | exact ⟨k + 1, _, _, _, by omega, rfl, rfl, rfl, by go_num, HInv.out, HG.out⟩ | ((repeat apply Exists.intro); exact ⟨⟨k + 1, _, _, _, by omega, rfl, rfl, rfl, by go_num, HInv.out, HG.out⟩, rfl⟩)
                case measure => simp [intOf]; omega
              · have hn := hnext t (by omega) (by simp)
                obtain ⟨most, hM, hm8, hmost⟩ := hn.most (by omega)
                have hnr' := hn.room
                have HM := Lib.hid hM
                have HInv := Lib.hid hn
                clear hM hn hnext
                go_wp2_with fail
                refine (Insert_any _ _ _ _ (by omega) (by omega)).mono ?_
                rw [HI.out]
                rintro e w1 ⟨rfl, h1⟩
                have HG := Lib.hid (hbel.out.trans (h1.mono hbel.out.size))
                clear h1
                go_wp2_with fail
                refine (refInsert_any _ _ _ _ (by omega) (by omega)).mono ?_
                rw [HI.out]
                rintro e w2 ⟨rfl, h2⟩
                have HP := Lib.hid (own_block h2).1
                have s1 := (own_block h2).2
                have HG := Lib.hid (HG.out.trans ((below_own h2).mono HG.out.size))
                clear h2
                have c0 := cell_of HP.out 0 _ rfl
                have c1 := cell_of HP.out 1 _ rfl
                go_wp2_with fail
                refine (Bound_any _ _).mono ?_
                rw [HM.out]
                rintro e w3 ⟨rfl, h3⟩
                have HG := Lib.hid (HG.out.trans ((below_own h3).mono HG.out.size))
                clear h3 c0 c1
                go_wp2_with fail
                go_roundw
                case rel => first | exact ⟨k + 1, _, _, _, by omega, rfl, rfl, rfl, by go_num, HInv.out, HG.out⟩ | ((repeat apply Exists.intro); exact ⟨⟨k + 1, _, _, _, by omega, rfl, rfl, rfl, by go_num, HInv.out, HG.out⟩, rfl⟩)
                case measure => simp [intOf]; omega
            · have hn := hnext t (by omega) (by simp)
              obtain ⟨most, hM, hm8, hmost⟩ := hn.most (by omega)
              have hnr' := hn.room
              have HM := Lib.hid hM
              have HInv := Lib.hid hn
              clear hM hn hnext
              go_wp2_with fail
              refine (Insert_any _ _ _ _ (by omega) (by omega)).mono ?_
              rw [HI.out]
              rintro e w1 ⟨rfl, h1⟩
              have HG := Lib.hid (hbel.out.trans (h1.mono hbel.out.size))
              clear h1
              go_wp2_with fail
              refine (refInsert_any _ _ _ _ (by omega) (by omega)).mono ?_
              rw [HI.out]
              rintro e w2 ⟨rfl, h2⟩
              have HP := Lib.hid (own_block h2).1
              have s1 := (own_block h2).2
              have HG := Lib.hid (HG.out.trans ((below_own h2).mono HG.out.size))
              clear h2
              have c0 := cell_of HP.out 0 _ rfl
              have c1 := cell_of HP.out 1 _ rfl
              go_wp2_with fail
              refine (Bound_any _ _).mono ?_
              rw [HM.out]
              rintro e w3 ⟨rfl, h3⟩
              have HG := Lib.hid (HG.out.trans ((below_own h3).mono HG.out.size))
              clear h3 c0 c1
              go_wp2_with fail
              go_roundw
              case rel => first | exact ⟨k + 1, _, _, _, by omega, rfl, rfl, rfl, by go_num, HInv.out, HG.out⟩ | ((repeat apply Exists.intro); exact ⟨⟨k + 1, _, _, _, by omega, rfl, rfl, rfl, by go_num, HInv.out, HG.out⟩, rfl⟩)
              case measure => simp [intOf]; omega
      · go_wp2_with fail
        refine (known_any _).mono ?_
        rintro e w4 ⟨rfl, h4⟩
        go_wp2_with fail
        go_ret
        exact ⟨rfl, (hbel.out.trans (h4.mono hbel.out.size))⟩

theorem own : ownKnob Try.prog.godebug = none := by kernel_rfl
theorem laidOut : laidOutB Try.prog = true := by kernel_rfl

set_option maxRecDepth 100000 in
theorem lifted (os : Os) (started : os.Started) (H : Type) (enc : TypeId × Value → H) :
    ReturnsInHanded {} Try.checked os 6 .any (Rows.growthRunsSpec.pre6 enc Try.prog Try.f6 Rows.growthRunsRow.domain false) (Rows.growthRunsSpec.post enc Try.prog Try.f6 false true false false) := by
  refine returnsInHanded_of_change (C := Try.checked) own started (by kernel_rfl) Try.func6
    (ChangeSpec.witness6 (enc := enc) (C := Try.checked) false ⟨#[], #[.slice none 0 0], []⟩ 8 (by kernel_rfl) (by kernel_rfl) (by kernel_rfl) (by kernel_rfl)) ?_
  intro W base args ds gs before hval0 hW hcnd _
  have hval : ∀ (j : Nat) t v, Try.f6.params[j]? = some t → args[j]? = some v → Value.okWide Try.prog W .any base t v := hval0
  have hW' := hW
  obtain ⟨p, q, hA0, hV, rfl, hfz, hnd⟩ := hW
  have hA : DataW.TrodAll enc Try.prog W 0 (fun _ => true) true Try.f6.params.toList args.toList ds p := hA0
  rw [Try.params6] at hA hval
  obtain ⟨v0, vs0, d0, ds0, p0, q0, hargs, rfl, rfl, h0, r0⟩ := trodAll_cons hA
  obtain ⟨rfl, rfl, rfl⟩ := trodAll_nil r0
  obtain rfl : args = #[v0] := by cases args; simp_all
  obtain ⟨rfl, rfl⟩ := trodVars_none hV
  obtain ⟨a0, len0, cap0, rfl⟩ := okWide_slice Try.underlying37 (hval 0 37 v0 rfl rfl)
  have k0 := h0
  have lt0 : ∀ x ∈ p0, x.block < W.heap.size := by obtain ⟨m, hm⟩ := k0; exact DataW.trod_lt m _ _ _ hm
  obtain ⟨z0, w0⟩ : ∃ zs, IsRow .u8 W a0 len0 cap0 zs := by
    obtain ⟨fuel, hf⟩ := h0
    rcases open_ints Try.underlying37 Try.underlying5 (by kernel_rfl) hf with ⟨hcs, _⟩ | ⟨x, l, c, zs, hcs, _, hl, hm, hz, _, hcell, hwz⟩
    · simp [Value.cells] at hcs
      obtain ⟨rfl, rfl, rfl⟩ := hcs
      exact ⟨[], .inl ⟨rfl, rfl, rfl, rfl⟩⟩
    · simp [Value.cells] at hcs
      obtain ⟨rfl, rfl, rfl⟩ := hcs
      exact ⟨zs, .inr ⟨_, rfl, hl, hm, by simpa using hz, hcell, hwz⟩⟩
  clear hA0 hval0
  refine (walk a0 len0 cap0 z0 W w0).mono fun e W' ⟨he, bel⟩ => ?_
  subst he
  exact ⟨_, rfl, _, _, _, [], _, [], hW', trodAll_mk1 (shut_bool Try.underlying4 _), (trodAll_cons_mk (Below.trod laidOut (by kernel_rfl) (of_decide_eq_true (by kernel_rfl)) k0 bel lt0) trodAll_mk0), rfl, bel.frame _, fun h => by cases h⟩

theorem over : Rows.growthRunsRow.holds Try.pinned (OpenSpec.ofChange Rows.growthRunsSpec) :=
  OpenClaim.holds_of_wide 6 Try.f6 rfl rfl rfl rfl rfl rfl rfl ⟨rfl, rfl, rfl, rfl, rfl⟩ rfl rfl rfl rfl rfl (by kernel_rfl) Try.func6 (by kernel_rfl)
    (of_decide_eq_true (by kernel_rfl)) (by unfold Func.isWrapper; first | (rw [if_pos (by decide +kernel)]; kernel_rfl) | (rw [if_neg (by decide +kernel)]; exact ⟨rfl, rfl⟩))
    (fun os started H enc _ => lifted os started H enc)

theorem proved : Rows.GrowthRunsSaid := over
#print axioms proved

end Go.Proofs.Ytjnckljdodlmiaa.growthRuns
