/- Law 45's helpers: equal, few. -/
import Derived.Test.YtffigmciclopdaaDoorJouO
namespace Go.Proofs.YtffigmciclopdaaDoor
open Go Go.RowKit

structure EqL (w W : World) (Ba Bb : Nat) (va vb : Value) (xs ys : List (OpV × Value)) : Prop where
  a : OpsAt W Ba va xs
  b : OpsAt W Bb vb ys
  below : Below w.heap.size w W
theorem EqL.adv {w W W2 : World} {Ba Bb : Nat} {va vb : Value} {xs ys : List (OpV × Value)} (h : EqL w W Ba Bb va vb xs ys) (hb : Below W.heap.size W W2) : EqL w W2 Ba Bb va vb xs ys :=
  ⟨h.a.below hb, h.b.below hb, h.below.trans (hb.mono h.below.size)⟩

theorem OpsAt.atI {w : World} {B g off n cap i : Nat} {o : OpV} {V : Value} {ps : List (OpV × Value)} (h : OpsAt w B (.slice (some ⟨g, off, none⟩) n cap) ps) (hi : ps[i]? = some (o, V)) :
    w.cell? ⟨g, off + i * 9, none⟩ = some (.int .i64 o.kind) ∧ w.cell? ⟨g, off + i * 9 + 1, none⟩ = some (.int .u64 o.ticks) ∧ w.cell? ⟨g, off + i * 9 + 2, none⟩ = some (.string o.key) ∧ w.cell? ⟨g, off + i * 9 + 3, none⟩ = some V ∧ w.cell? ⟨g, off + i * 9 + 4, none⟩ = some (.int .u64 o.ttl) ∧ w.cell? ⟨g, off + i * 9 + 5, none⟩ = some (.int .i64 o.count) ∧ w.cell? ⟨g, off + i * 9 + 6, none⟩ = some (.int .i64 o.bytes) ∧ w.cell? ⟨g, off + i * 9 + 7, none⟩ = some (.int .i64 o.cursor) ∧ w.cell? ⟨g, off + i * 9 + 8, none⟩ = some (.int .u64 o.birth) := by
  obtain ⟨gx, ox, ex, -, hz⟩ := h.at_ hi
  injection ex with ex
  injection ex with ex1 ex2
  subst ex1 ex2
  exact hz


set_option maxRecDepth 100000 in
set_option maxHeartbeats 4000000 in
theorem opsEqual_any (Ba Bb : Nat) (va vb : Value) (xs ys : List (OpV × Value)) (w : World) (ha : OpsAt w Ba va xs) (hb : OpsAt w Bb vb ys) (hla : xs.length ≤ 1000000) (hlb : ys.length ≤ 1000000) :
    Calls Tryd.prog 26 #[va, vb] w fun e w' => (∃ r, e = .returned (.bool r) ∧ (r = true ↔ xs.map Prod.fst = ys.map Prod.fst)) ∧ Below w.heap.size w w' := by
  obtain ⟨AA, ac, rfl⟩ := ha.slice
  obtain ⟨AB, bc, rfl⟩ := hb.slice
  have HE := Lib.hid (⟨ha, hb, Below.refl _ _⟩ : EqL w w Ba Bb (.slice AA xs.length ac) (.slice AB ys.length bc) xs ys)
  clear ha hb
  by_cases hl : xs.length = ys.length
  · obtain ⟨n, hn⟩ : ∃ n, ys.length = n := ⟨_, rfl⟩
    rw [hl, hn] at HE ⊢
    rw [hn] at hl hlb
    have HNa := Lib.hid hl
    have HNb := Lib.hid hn
    have hnI : (n : Int) ≤ 1000000 := by omega
    clear hl hn hla hlb
    go_enter Tryd.func26, Tryd.ntmps26
    go_wp2_with fail
    go_loopw [5] (fun i wr => ∃ (m : Nat), m ≤ n ∧ i = .int .i64 m ∧ (xs.map Prod.fst).take m = (ys.map Prod.fst).take m ∧ EqL w wr Ba Bb (.slice AA n ac) (.slice AB n bc) xs ys) (fun i _ => n - (intOf i).toNat)
    case atStart => exact ⟨0, by omega, rfl, by simp, HE.out⟩
    case round =>
      obtain ⟨m, hm, rfl, ht, hI⟩ := hrel
      have HI := Lib.hid hI
      have HT := Lib.hid ht
      clear ht
      by_cases hml : m < n
      · obtain ⟨⟨o, V⟩, hp⟩ : ∃ p, xs[m]? = some p := ⟨_, List.getElem?_eq_getElem (by have := HNa.out; omega)⟩
        obtain ⟨⟨o2, V2⟩, hq⟩ : ∃ p, ys[m]? = some p := ⟨_, List.getElem?_eq_getElem (by have := HNb.out; omega)⟩
        have hv1 := hI.a.vals _ (List.mem_of_getElem? hp)
        have hv2 := hI.b.vals _ (List.mem_of_getElem? hq)
        obtain ⟨VA, vc, e1⟩ := hv1.form
        obtain ⟨VB, vd, e2⟩ := hv2.form
        dsimp only at hv1 hv2 e1 e2
        subst e1 e2
        obtain ⟨ga, oa, rfl, hga, -⟩ := hI.a.at_ hp
        obtain ⟨gb, ob, rfl, hgb, -⟩ := hI.b.at_ hq
        have HP := Lib.hid hp
        have HQ := Lib.hid hq
        have hmI : (m : Int) < (n : Int) := by omega
        have HCall := Lib.hid (fun W (hW : EqL w W Ba Bb (.slice (some ⟨ga, oa, none⟩) n ac) (.slice (some ⟨gb, ob, none⟩) n bc) xs ys) => equal_any Ba Bb o o2 (.slice VA o.val.length vc) (.slice VB o2.val.length vd) W (hW.a.vals _ (List.mem_of_getElem? hp)) (hW.b.vals _ (List.mem_of_getElem? hq)))
        unfold opv opc at HCall
        clear hp hq hv1 hv2 hI hga hgb
        go_upto_region 6 with fail
        refine wp_region_noPanic ?_
        refine wp_region_held_drew (S := fun W => EqL w W Ba Bb (.slice (some ⟨ga, oa, none⟩) n ac) (.slice (some ⟨gb, ob, none⟩) n bc) xs ys) (by kernel_rfl) (HI.out.adv (Below.refl _ _).drew) (fun hHeld => ?_)
        refine wpAnyH_take (i := 0) (oi := ⟨_, _, _, _, _, _⟩) (v := ?_) rfl (by kernel_rfl) (by kernel_rfl) (by kernel_rfl) (fun _ _ _ h => h) (Or.inl ⟨by rfl, ?_⟩) (by assumption) ?_
        rotate_left 1
        · intro W hSw
          obtain ⟨z0, z1, z2, z3, z4, z5, z6, z7, z8⟩ := hSw.a.atI HP.out; obtain ⟨y0, y1, y2, y3, y4, y5, y6, y7, y8⟩ := hSw.b.atI HQ.out
          clear hSw
          go_simp
          try with_reducible rfl
        try simp only [Act.put, List.setIfInBounds_toArray, List.set_cons_zero, List.set_cons_succ]
        refine wpAnyH_take (i := 1) (oi := ⟨_, _, _, _, _, _⟩) (v := ?_) rfl (by kernel_rfl) (by kernel_rfl) (by kernel_rfl) (fun _ _ _ h => h) (Or.inl ⟨by rfl, ?_⟩) (by assumption) ?_
        rotate_left 1
        · intro W hSw
          obtain ⟨z0, z1, z2, z3, z4, z5, z6, z7, z8⟩ := hSw.a.atI HP.out; obtain ⟨y0, y1, y2, y3, y4, y5, y6, y7, y8⟩ := hSw.b.atI HQ.out
          clear hSw
          go_simp
          try with_reducible rfl
        try simp only [Act.put, List.setIfInBounds_toArray, List.set_cons_zero, List.set_cons_succ]
        refine wpAnyH_take (i := 2) (oi := ⟨_, _, _, _, _, _⟩) (v := ?_) rfl (by kernel_rfl) (by kernel_rfl) (by kernel_rfl) (fun _ _ _ h => h) (Or.inl ⟨by rfl, ?_⟩) (by assumption) ?_
        rotate_left 1
        · intro W hSw
          obtain ⟨z0, z1, z2, z3, z4, z5, z6, z7, z8⟩ := hSw.a.atI HP.out; obtain ⟨y0, y1, y2, y3, y4, y5, y6, y7, y8⟩ := hSw.b.atI HQ.out
          clear hSw
          go_simp
          try with_reducible rfl
        try simp only [Act.put, List.setIfInBounds_toArray, List.set_cons_zero, List.set_cons_succ]
        refine wpAnyH_take (i := 3) (oi := ⟨_, _, _, _, _, _⟩) (v := ?_) rfl (by kernel_rfl) (by kernel_rfl) (by kernel_rfl) (fun _ _ _ h => h) (Or.inl ⟨by rfl, ?_⟩) (by assumption) ?_
        rotate_left 1
        · intro W hSw
          obtain ⟨z0, z1, z2, z3, z4, z5, z6, z7, z8⟩ := hSw.a.atI HP.out; obtain ⟨y0, y1, y2, y3, y4, y5, y6, y7, y8⟩ := hSw.b.atI HQ.out
          clear hSw
          go_simp
          try with_reducible rfl
        try simp only [Act.put, List.setIfInBounds_toArray, List.set_cons_zero, List.set_cons_succ]
        refine wpAnyH_take (i := 4) (oi := ⟨_, _, _, _, _, _⟩) (v := ?_) rfl (by kernel_rfl) (by kernel_rfl) (by kernel_rfl) (fun _ _ _ h => h) (Or.inl ⟨by rfl, ?_⟩) (by assumption) ?_
        rotate_left 1
        · intro W hSw
          obtain ⟨z0, z1, z2, z3, z4, z5, z6, z7, z8⟩ := hSw.a.atI HP.out; obtain ⟨y0, y1, y2, y3, y4, y5, y6, y7, y8⟩ := hSw.b.atI HQ.out
          clear hSw
          go_simp
          try with_reducible rfl
        try simp only [Act.put, List.setIfInBounds_toArray, List.set_cons_zero, List.set_cons_succ]
        refine wpAnyH_take (i := 5) (oi := ⟨_, _, _, _, _, _⟩) (v := ?_) rfl (by kernel_rfl) (by kernel_rfl) (by kernel_rfl) (fun _ _ _ h => h) (Or.inl ⟨by rfl, ?_⟩) (by assumption) ?_
        rotate_left 1
        · intro W hSw
          obtain ⟨z0, z1, z2, z3, z4, z5, z6, z7, z8⟩ := hSw.a.atI HP.out; obtain ⟨y0, y1, y2, y3, y4, y5, y6, y7, y8⟩ := hSw.b.atI HQ.out
          clear hSw
          go_simp
          try with_reducible rfl
        try simp only [Act.put, List.setIfInBounds_toArray, List.set_cons_zero, List.set_cons_succ]
        refine wpAnyH_take (i := 6) (oi := ⟨_, _, _, _, _, _⟩) (v := ?_) rfl (by kernel_rfl) (by kernel_rfl) (by kernel_rfl) (fun _ _ _ h => h) (Or.inl ⟨by rfl, ?_⟩) (by assumption) ?_
        rotate_left 1
        · intro W hSw
          obtain ⟨z0, z1, z2, z3, z4, z5, z6, z7, z8⟩ := hSw.a.atI HP.out; obtain ⟨y0, y1, y2, y3, y4, y5, y6, y7, y8⟩ := hSw.b.atI HQ.out
          clear hSw
          go_simp
          try with_reducible rfl
        try simp only [Act.put, List.setIfInBounds_toArray, List.set_cons_zero, List.set_cons_succ]
        refine wpAnyH_take (i := 7) (oi := ⟨_, _, _, _, _, _⟩) (v := ?_) rfl (by kernel_rfl) (by kernel_rfl) (by kernel_rfl) (fun _ _ _ h => h) (Or.inl ⟨by rfl, ?_⟩) (by assumption) ?_
        rotate_left 1
        · intro W hSw
          obtain ⟨z0, z1, z2, z3, z4, z5, z6, z7, z8⟩ := hSw.a.atI HP.out; obtain ⟨y0, y1, y2, y3, y4, y5, y6, y7, y8⟩ := hSw.b.atI HQ.out
          clear hSw
          go_simp
          try with_reducible rfl
        try simp only [Act.put, List.setIfInBounds_toArray, List.set_cons_zero, List.set_cons_succ]
        obtain ⟨q, hq⟩ : ∃ q, decide (eqO o o2) = q := ⟨_, rfl⟩
        have HQq := Lib.hid hq
        have HC := Lib.hid (HCall.out _ hHeld)
        rw [hq] at HC
        clear hq
        refine wpAnyH_ready (rs := [8]) (by kernel_rfl) (by simp) ?_
        refine AllReadyH.cons (o := ⟨_, _, _, _, _, _⟩) rfl (fun F hF => ?_) AllReadyH.nil
        go_simp
        refine HC.out.mono ?_
        rintro e w4 ⟨rfl, hb4⟩
        have HI4 := Lib.hid (hHeld.adv hb4)
        clear hHeld HC hb4
        go_wp2_with fail
        refine hF.out _ _ HI4.out (fun hHeld => ?_)
        clear hF F
        try simp only [Act.put, List.setIfInBounds_toArray, List.set_cons_zero, List.set_cons_succ]
        cases q with
        | false =>
          refine wpAnyH_take (i := 9) (oi := ⟨_, _, _, _, _, _⟩) (v := ?_) rfl (by kernel_rfl) (by kernel_rfl) (by kernel_rfl) (fun _ _ _ h => h) (Or.inl ⟨by rfl, ?_⟩) (by assumption) ?_
          rotate_left 1
          · intro W hSw
            obtain ⟨z0, z1, z2, z3, z4, z5, z6, z7, z8⟩ := hSw.a.atI HP.out; obtain ⟨y0, y1, y2, y3, y4, y5, y6, y7, y8⟩ := hSw.b.atI HQ.out
            clear hSw
            go_simp
            try with_reducible rfl
          try simp only [Act.put, List.setIfInBounds_toArray, List.set_cons_zero, List.set_cons_succ]
          refine wpAnyH_done (by kernel_rfl) ?_ _
          refine NoPanic.normal ?_
          have hne : o ≠ o2 := by have := HQq.out; rw [decide_eq_false_iff_not, eqO_iff] at this; exact this
          have HNe := Lib.hid hne
          have H9 := Lib.hid hHeld
          clear hne hHeld
          go_wp2_with fail
          go_ret
          refine ⟨⟨false, rfl, ?_⟩, H9.out.below⟩
          constructor
          · intro h; cases h
          · intro h
            exfalso
            have h1 : (xs.map Prod.fst)[m]? = (ys.map Prod.fst)[m]? := by rw [h]
            rw [List.getElem?_map, List.getElem?_map, HP.out, HQ.out] at h1
            simp only [Option.map_some] at h1
            injection h1 with h1
            exact HNe.out h1
        | true =>
          refine wpAnyH_take (i := 9) (oi := ⟨_, _, _, _, _, _⟩) (v := ?_) rfl (by kernel_rfl) (by kernel_rfl) (by kernel_rfl) (fun _ _ _ h => h) (Or.inl ⟨by rfl, ?_⟩) (by assumption) ?_
          rotate_left 1
          · intro W hSw
            obtain ⟨z0, z1, z2, z3, z4, z5, z6, z7, z8⟩ := hSw.a.atI HP.out; obtain ⟨y0, y1, y2, y3, y4, y5, y6, y7, y8⟩ := hSw.b.atI HQ.out
            clear hSw
            go_simp
            try with_reducible rfl
          try simp only [Act.put, List.setIfInBounds_toArray, List.set_cons_zero, List.set_cons_succ]
          refine wpAnyH_done (by kernel_rfl) ?_ _
          refine NoPanic.normal ?_
          have heq : o = o2 := by have := HQq.out; rw [decide_eq_true_iff, eqO_iff] at this; exact this
          have HEq := Lib.hid heq
          have H9 := Lib.hid hHeld
          clear heq hHeld
          go_wp2_with fail
          go_roundw
          case rel =>
            refine ⟨m + 1, by omega, by go_num, ?_, H9.out⟩
            rw [List.take_add_one, List.take_add_one, HT.out, List.getElem?_map, List.getElem?_map, HP.out, HQ.out]
            simp only [Option.map_some]
            rw [HEq.out]
          case measure => simp [intOf]; omega
      · obtain rfl : m = n := by omega
        have hmI : ¬ (m : Int) < (m : Int) := by omega
        clear hI
        go_wp2_with fail
        go_ret
        have ht := HT.out
        rw [List.take_of_length_le (by rw [List.length_map]; exact Nat.le_of_eq HNa.out), List.take_of_length_le (by rw [List.length_map]; exact Nat.le_of_eq HNb.out)] at ht
        exact ⟨.inr ⟨rfl, ht⟩, HI.out.below⟩
  · have hlI : ¬ (xs.length : Int) = (ys.length : Int) := by omega
    have hlB : ((xs.length : Int) != (ys.length : Int)) = true := by rw [bne_iff_ne]; exact hlI
    go_enter Tryd.func26, Tryd.ntmps26
    go_wp2_with fail
    go_ret
    refine ⟨⟨false, rfl, ?_⟩, Below.refl _ _⟩
    constructor
    · intro h; cases h
    · intro h
      exfalso
      have := congrArg List.length h
      rw [List.length_map, List.length_map] at this
      exact hl this

end Go.Proofs.YtffigmciclopdaaDoor
