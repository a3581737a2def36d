/- The walks of the reference's log (layer 9): Next, Get. -/
import Derived.Test.YtjjhndhigkhkpaaRefA
namespace Go.Proofs.Ytjjhndhigkhkpaa
open Go Go.RowKit
attribute [local go_sem ↓] Go.wp_at_zero Go.wp_at_succ



set_option maxHeartbeats 1000000 in
theorem refNext_some (B : Nat) (lv gv : Value) (rs : List RE) (i j : Nat) (w : World) (h : RRep w B lv gv rs) (h32 : (i : Int) ≤ 4294967295) (hij : i ≤ j) (hj : hasR rs j = true) (hno : ∀ k, i ≤ k → k < j → hasR rs k = false) :
    Calls Try.prog 39 #[.agg #[lv, gv], .int .u32 i] w fun e w' => e = .returned (.tuple #[.int .u32 j, .int .i64 0]) ∧ Below w.heap.size w w' := by
  have HR := Lib.hid h
  have hlI : (rs.length : Int) ≤ 1000000 := by have := h.len; omega
  obtain ⟨LA, lc, rfl, hx1, _⟩ := own_form h.row
  obtain ⟨GA, gc, rfl, hx2, _⟩ := own_form h.gone
  have hi0 : (0 : Int) ≤ (i : Int) := Int.natCast_nonneg _
  clear h
  have hjl : j < rs.length := by
    rcases Nat.lt_or_ge j rs.length with h1 | h1
    · exact h1
    · simp [hasR, List.getElem?_eq_none h1] at hj
  have HN := Lib.hid hno
  have HJ := Lib.hid hj
  clear hno hj
  go_enter Try.func39, Try.ntmps39
  go_wp2_with fail
  go_loop [6] (fun v => ∃ k : Nat, k ≤ j ∧ v = .int .i64 k) (fun v => j - (intOf v).toNat)
  case atStart => exact ⟨0, by omega, rfl⟩
  case round =>
    obtain ⟨k, hk, rfl⟩ := hrel
    have hkl : k < rs.length := by omega
    obtain ⟨r, hr⟩ : ∃ r, rs[k]? = some r := ⟨_, List.getElem?_eq_getElem hkl⟩
    obtain ⟨g, cap, gg, gcap, e1, e2, hg, hgg, hc, hgc, _, _, _, _, hcell⟩ := HR.out.at_ hr
    injection e1 with e1 _ e3
    injection e2 with e2 _ e4
    subst e1 e2 e3 e4
    have hiI : (k : Int) < (rs.length : Int) := by omega
    have hcI : (rs.length : Int) ≤ (gc : Int) := by omega
    have hk0 : (0 : Int) ≤ (k : Int) := Int.natCast_nonneg _
    by_cases hki : i ≤ k
    · have hd : decide ((i : Int) ≤ (k : Int)) = true := decide_eq_true (by omega)
      rcases Nat.lt_or_ge k j with hlt | hge
      · have hgn : r.gone = true := by have := HN.out k hki hlt; simpa [hasR, hr] using this
        rw [hgn] at hcell
        clear hr
        go_wp2_with fail
        go_round
        case rel => exact ⟨k + 1, by omega, by go_num⟩
        case measure => simp [intOf]; omega
      · obtain rfl : k = j := by omega
        have hgn : r.gone = false := by have := HJ.out; simpa [hasR, hr] using this
        rw [hgn] at hcell
        clear hr
        go_wp2_with fail
        go_ret2
        exact ⟨rfl, (Below.refl _ _).alloc (Nat.le_refl _) _⟩
    · have hd : decide ((i : Int) ≤ (k : Int)) = false := decide_eq_false (by omega)
      have hlt : k < j := by omega
      clear hr
      go_wp2_with fail
      go_round
      case rel => exact ⟨k + 1, by omega, by go_num⟩
      case measure => simp [intOf]; omega

set_option maxHeartbeats 1000000 in
theorem refNext_none (B : Nat) (lv gv : Value) (rs : List RE) (i : Nat) (w : World) (h : RRep w B lv gv rs) (h32 : (i : Int) ≤ 4294967295) (hno : ∀ k, i ≤ k → hasR rs k = false) :
    Calls Try.prog 39 #[.agg #[lv, gv], .int .u32 i] w fun e w' => e = .returned (.tuple #[.int .u32 0, .int .i64 9]) ∧ Below w.heap.size w w' := by
  have HR := Lib.hid h
  have hlI : (rs.length : Int) ≤ 1000000 := by have := h.len; omega
  obtain ⟨LA, lc, rfl, hx1, _⟩ := own_form h.row
  obtain ⟨GA, gc, rfl, hx2, _⟩ := own_form h.gone
  have hi0 : (0 : Int) ≤ (i : Int) := Int.natCast_nonneg _
  clear h
  have HN := Lib.hid hno
  clear hno
  go_enter Try.func39, Try.ntmps39
  go_wp2_with fail
  go_loop [6] (fun v => ∃ k : Nat, k ≤ rs.length ∧ v = .int .i64 k) (fun v => rs.length - (intOf v).toNat)
  case atStart => exact ⟨0, by omega, rfl⟩
  case round =>
    obtain ⟨k, hk, rfl⟩ := hrel
    by_cases hkl : k < rs.length
    · obtain ⟨r, hr⟩ : ∃ r, rs[k]? = some r := ⟨_, List.getElem?_eq_getElem hkl⟩
      obtain ⟨g, cap, gg, gcap, e1, e2, hg, hgg, hc, hgc, _, _, _, _, hcell⟩ := HR.out.at_ hr
      injection e1 with e1 _ e3
      injection e2 with e2 _ e4
      subst e1 e2 e3 e4
      have hiI : (k : Int) < (rs.length : Int) := by omega
      have hcI : (rs.length : Int) ≤ (gc : Int) := by omega
      have hk0 : (0 : Int) ≤ (k : Int) := Int.natCast_nonneg _
      by_cases hki : i ≤ k
      · have hd : decide ((i : Int) ≤ (k : Int)) = true := decide_eq_true (by omega)
        have hgn : r.gone = true := by have := HN.out k hki; simpa [hasR, hr] using this
        rw [hgn] at hcell
        clear hr
        go_wp2_with fail
        go_round
        case rel => exact ⟨k + 1, by omega, by go_num⟩
        case measure => simp [intOf]; omega
      · have hd : decide ((i : Int) ≤ (k : Int)) = false := decide_eq_false (by omega)
        clear hr
        go_wp2_with fail
        go_round
        case rel => exact ⟨k + 1, by omega, by go_num⟩
        case measure => simp [intOf]; omega
    · obtain rfl : k = rs.length := by omega
      go_wp2_with fail
      go_ret2
      exact ⟨rfl, (Below.refl _ _).alloc (Nat.le_refl _) _⟩

set_option maxHeartbeats 1000000 in
theorem refGet_some (B : Nat) (lv gv : Value) (rs : List RE) (i : Nat) (r : RE) (w : World) (h : RRep w B lv gv rs) (h32 : (i : Int) ≤ 4294967295) (hr : rs[i]? = some r) (hgn : r.gone = false) :
    Calls Try.prog 36 #[.agg #[lv, gv], .int .u32 i] w fun e w' => e = .returned (.tuple #[.agg #[.string r.e.key, r.v, .int .u64 r.e.dl, .int .u64 r.e.birth], .int .i64 0]) ∧ Below w.heap.size w w' := by
  have HR := Lib.hid h
  have HS : Hid (hasR rs i = true) := Lib.hid (by simp [hasR, hr, hgn])
  have hv := (h.vals r (List.mem_of_getElem? hr)).1
  obtain ⟨VA, vc, hve, _, _⟩ := own_form hv
  obtain ⟨hil, _⟩ := List.getElem?_eq_some_iff.1 hr
  obtain ⟨g, cap, gg, gcap, rfl, rfl, hg, hgg, hc, hgc, c0, c1, c2, c3, _⟩ := h.at_ hr
  rw [hve] at c1 ⊢
  have hiI : (i : Int) < (rs.length : Int) := by omega
  have hcI : (rs.length : Int) ≤ (cap : Int) := by omega
  have hi0 : (0 : Int) ≤ (i : Int) := Int.natCast_nonneg _
  clear h hr hv hgn hve
  go_enter Try.func36, Try.ntmps36
  go_wp2_with fail
  refine (refHas_any B _ _ rs i _ ((HR.out.alloc _).alloc _) h32).mono ?_
  rw [HS.out]
  rintro e w1 ⟨rfl, hb1⟩
  have b1 := ((Blk.new w 49 #[.slice (some ⟨g, 0, none⟩) rs.length cap, .slice (some ⟨gg, 0, none⟩) rs.length gcap]).alloc (.cells #[.string ⟨#[]⟩, .slice none 0 0, .int .u64 0, .int .u64 0] 31)).below hb1
  have b2 := (Blk.new2 w (.cells #[.slice (some ⟨g, 0, none⟩) rs.length cap, .slice (some ⟨gg, 0, none⟩) rs.length gcap] 49) 31 #[.string ⟨#[]⟩, .slice none 0 0, .int .u64 0, .int .u64 0]).below hb1
  have HG := Lib.hid (below_own2 hb1)
  have k0 := b1.cell 0 _ rfl
  have k1 := b1.cell 1 _ rfl
  have l0 := b2.cell 0 _ rfl
  have l1 := b2.cell 1 _ rfl
  have l2 := b2.cell 2 _ rfl
  have l3 := b2.cell 3 _ rfl
  have l4 := b2.frozen
  have hz := b2.lt
  have d0 : w1.cell? ⟨g, i * 4, none⟩ = some (.string r.e.key) := by rw [HG.out.cell (p := ⟨g, i * 4, none⟩) hg]; exact c0
  have d1 : w1.cell? ⟨g, i * 4 + 1, none⟩ = some (.slice VA r.e.val.length vc) := by rw [HG.out.cell (p := ⟨g, i * 4 + 1, none⟩) hg]; exact c1
  have d2 : w1.cell? ⟨g, i * 4 + 2, none⟩ = some (.int .u64 r.e.dl) := by rw [HG.out.cell (p := ⟨g, i * 4 + 2, none⟩) hg]; exact c2
  have d3 : w1.cell? ⟨g, i * 4 + 3, none⟩ = some (.int .u64 r.e.birth) := by rw [HG.out.cell (p := ⟨g, i * 4 + 3, none⟩) hg]; exact c3
  clear hb1 b1 b2 c0 c1 c2 c3
  go_wp2_with fail
  refine bodyPost_ret (v := .tuple #[.agg #[.string r.e.key, .slice VA r.e.val.length vc, .int .u64 r.e.dl, .int .u64 r.e.birth], .int .i64 0]) (by simp [results, Try.results36, go_sem, l0, l1, l2, l3, hz]) rfl ⟨rfl, ?_⟩
  repeat first | exact HG.out | refine Below.setCell ?_ (Nat.le_succ _) _

set_option maxHeartbeats 1000000 in
theorem refGet_none (B : Nat) (lv gv : Value) (rs : List RE) (i : Nat) (w : World) (h : RRep w B lv gv rs) (h32 : (i : Int) ≤ 4294967295) (hn : hasR rs i = false) :
    Calls Try.prog 36 #[.agg #[lv, gv], .int .u32 i] w fun e w' => e = noEnt 9 ∧ Below w.heap.size w w' := by
  have HR := Lib.hid h
  have HS := Lib.hid hn
  obtain ⟨LA, lc, rfl, hx1, _⟩ := own_form h.row
  obtain ⟨GA, gc, rfl, hx2, _⟩ := own_form h.gone
  clear h hn
  go_enter Try.func36, Try.ntmps36
  go_wp2_with fail
  refine (refHas_any B _ _ rs i _ ((HR.out.alloc _).alloc _) h32).mono ?_
  rw [HS.out]
  rintro e w1 ⟨rfl, hb1⟩
  have b2 := (Blk.new2 w (.cells #[.slice LA rs.length lc, .slice GA rs.length gc] 49) 31 #[.string ⟨#[]⟩, .slice none 0 0, .int .u64 0, .int .u64 0]).below hb1
  have HG := Lib.hid (below_own2 hb1)
  have l0 := b2.cell 0 _ rfl
  have l1 := b2.cell 1 _ rfl
  have l2 := b2.cell 2 _ rfl
  have l3 := b2.cell 3 _ rfl
  have l4 := b2.frozen
  have hz := b2.lt
  clear hb1 b2
  go_wp2_with fail
  refine bodyPost_ret (v := .tuple #[.agg #[.string ⟨#[]⟩, .slice none 0 0, .int .u64 0, .int .u64 0], .int .i64 9]) (by simp [results, Try.results36, go_sem, l0, l1, l2, l3, hz]) rfl ⟨rfl, ?_⟩
  repeat first | exact HG.out | refine Below.setCell ?_ (Nat.le_succ _) _

end Go.Proofs.Ytjjhndhigkhkpaa
