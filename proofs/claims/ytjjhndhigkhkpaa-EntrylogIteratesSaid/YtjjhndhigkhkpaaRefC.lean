/- The walk of the reference log's Copy (layer 9). -/
import Derived.Test.YtjjhndhigkhkpaaRefB
import Derived.Test.YtjjhndhigkhkpaaAppend
import Derived.Deep.RegionLaw
import Derived.Deep.DeepCutAuto
namespace Go.Proofs.Ytjjhndhigkhkpaa
open Go Go.RowKit
attribute [local go_sem ↓] Go.wp_at_zero Go.wp_at_succ

theorem rows_off {W : World} {B1 B2 n1 n2 : Nat} {s1 s2 : Nat} {e1 e2 : TypeId} {u1 u2 : Value} {x1 x2 : List Value} (h1 : W.ownsRow B1 e1 s1 u1 n1 x1) (h2 : W.ownsRow B2 e2 s2 u2 n2 x2) (he : e1 ≠ e2) : ∀ k, u1.ownBlock = some k → u2.ownBlock ≠ some k := fun k hk e => by
  obtain ⟨_, cur, hc⟩ := row_block h1 hk
  obtain ⟨_, cur2, hc2⟩ := row_block h2 e
  rw [hc] at hc2
  injection hc2 with hc2
  injection hc2 with _ hc2
  exact he hc2

/-- A copy that is being made: the three boxes, the row of entries, the row of flags. -/
structure CopyInv (w wr : World) (lv gv lv' gv' : Value) (rs1 rs2 : List RE) : Prop where
  box : Blk wr w.heap.size 49 #[lv, gv]
  res : Blk wr (w.heap.size + 1) 49 #[.slice none 0 0, .slice none 0 0]
  out : Blk wr (w.heap.size + 2) 49 #[lv', gv']
  row : wr.ownsRow (w.heap.size + 3) 31 4 lv' rs1.length (ecs (ren rs1))
  gone : wr.ownsRow (w.heap.size + 3) 4 1 gv' rs2.length (rgs rs2)
  vals : ∀ r ∈ rs1, wr.ownsRow (w.heap.size + 3) 5 1 r.v r.e.val.length (bcells r.e.val) ∧ r.e.val.length ≤ 65536
  below : Below w.heap.size w wr
  size : w.heap.size + 3 ≤ wr.heap.size

section
variable {w wr wr' : World} {lv gv lv' gv' : Value} {rs1 rs2 : List RE}

theorem CopyInv.adv (h : CopyInv w wr lv gv lv' gv' rs1 rs2) (hb : Below wr.heap.size wr wr') : CopyInv w wr' lv gv lv' gv' rs1 rs2 := by
  have ho : Only (fun _ => False) wr wr' := Only.of_below hb
  have hs := h.size
  exact ⟨h.box.below hb, h.res.below hb, h.out.below hb, ownsRow_only h.row ho (fun _ _ h => h), ownsRow_only h.gone ho (fun _ _ h => h), fun r hr => ⟨ownsRow_only (h.vals r hr).1 ho (fun _ _ h => h), (h.vals r hr).2⟩,
    h.below.trans (hb.mono (by omega)), by have := hb.size; omega⟩
theorem CopyInv.alloc (h : CopyInv w wr lv gv lv' gv' rs1 rs2) (o : Obj) : CopyInv w (wr.alloc o) lv gv lv' gv' rs1 rs2 := h.adv ((Below.refl _ _).alloc (Nat.le_refl _) o)
theorem CopyInv.drew (h : CopyInv w wr lv gv lv' gv' rs1 rs2) : CopyInv w wr.drew lv gv lv' gv' rs1 rs2 := h.adv (Below.refl _ _).drew

theorem ren_snoc (rs : List RE) (r : RE) : ren (rs ++ [r]) = ren rs ++ [(r.e, r.v)] := by simp [ren]
theorem rgs_snoc (rs : List RE) (r : RE) : rgs (rs ++ [r]) = rgs rs ++ [.bool r.gone] := by simp [rgs]

theorem CopyInv.pushL (h : CopyInv w wr lv gv lv' gv' rs1 rs2) {r : RE} {v3 : Value} (hl : r.e.val.length ≤ 65536) (hv : wr.ownsRow (w.heap.size + 3) 5 1 r.v r.e.val.length (bcells r.e.val)) (hg : wr.grownBy wr' lv'.ownBlock)
    (hown : wr'.ownsRow (w.heap.size + 3) 31 4 v3 (rs1.length + 1) (ecs (ren rs1) ++ [.string r.e.key, r.v, .int .u64 r.e.dl, .int .u64 r.e.birth])) :
    CopyInv w (wr'.setCell ⟨w.heap.size + 2, 0, none⟩ v3) lv gv v3 gv' (rs1 ++ [r]) rs2 := by
  have hsz := h.size
  have hsz2 := hg.size
  have hlt : ∀ j, j < w.heap.size + 3 → some j ≠ lv'.ownBlock := fun j hj e => by have := (row_block h.row e.symm).1; omega
  have ho : Only (fun k => lv'.ownBlock = some k ∨ k = w.heap.size + 2) wr (wr'.setCell ⟨w.heap.size + 2, 0, none⟩ v3) :=
    ((Only.of_grown hg).mono (fun _ _ h => .inl h)).setCell (p := ⟨w.heap.size + 2, 0, none⟩) (.inl (.inr rfl)) _
  have hn3 : v3.ownBlock ≠ some (w.heap.size + 2) := fun e => by have := (row_block hown e).1; omega
  refine ⟨(h.box.grown hg (hlt _ (by omega))).far (by simp) _, (h.res.grown hg (hlt _ (by omega))).far (by simp) _, (h.out.grown hg (hlt _ (by omega))).set_ 0 v3, ?_, ?_, ?_, ?_, ?_⟩
  · rw [List.length_append, List.length_singleton, ren_snoc, ecs_append]
    exact ownsRow_setCell_other hown (a := ⟨w.heap.size + 2, 0, none⟩) hn3 _
  · exact ownsRow_only h.gone ho (fun k hk e => by
      rcases e with e | e
      · exact rows_off h.gone h.row (by decide) k hk e
      · have := (row_block h.gone hk).1; omega)
  · intro q hq
    rcases List.mem_append.1 hq with hq | hq
    · exact ⟨ownsRow_only (h.vals q hq).1 ho (fun k hk e => by
        rcases e with e | e
        · exact rows_off (h.vals q hq).1 h.row (by decide) k hk e
        · have := (row_block (h.vals q hq).1 hk).1; omega), (h.vals q hq).2⟩
    · obtain rfl : q = r := by simpa using hq
      exact ⟨ownsRow_only hv ho (fun k hk e => by
        rcases e with e | e
        · exact rows_off hv h.row (by decide) k hk e
        · have := (row_block hv hk).1; omega), hl⟩
  · exact (h.below.grown hg (by omega) (fun j hj => by have := (row_block h.row hj).1; omega)).setCell (p := ⟨w.heap.size + 2, 0, none⟩) (by simp) _
  · show w.heap.size + 3 ≤ (wr'.setCell _ _).heap.size
    simp
    omega

theorem CopyInv.pushG (h : CopyInv w wr lv gv lv' gv' rs1 rs2) {r : RE} {v3 : Value} (hg : wr.grownBy wr' gv'.ownBlock)
    (hown : wr'.ownsRow (w.heap.size + 3) 4 1 v3 (rs2.length + 1) (rgs rs2 ++ [.bool r.gone])) :
    CopyInv w (wr'.setCell ⟨w.heap.size + 2, 1, none⟩ v3) lv gv lv' v3 rs1 (rs2 ++ [r]) := by
  have hsz := h.size
  have hsz2 := hg.size
  have hlt : ∀ j, j < w.heap.size + 3 → some j ≠ gv'.ownBlock := fun j hj e => by have := (row_block h.gone e.symm).1; omega
  have ho : Only (fun k => gv'.ownBlock = some k ∨ k = w.heap.size + 2) wr (wr'.setCell ⟨w.heap.size + 2, 1, none⟩ v3) :=
    ((Only.of_grown hg).mono (fun _ _ h => .inl h)).setCell (p := ⟨w.heap.size + 2, 1, none⟩) (.inl (.inr rfl)) _
  have hn3 : v3.ownBlock ≠ some (w.heap.size + 2) := fun e => by have := (row_block hown e).1; omega
  refine ⟨(h.box.grown hg (hlt _ (by omega))).far (by simp) _, (h.res.grown hg (hlt _ (by omega))).far (by simp) _, (h.out.grown hg (hlt _ (by omega))).set_ 1 v3, ?_, ?_, ?_, ?_, ?_⟩
  · exact ownsRow_only h.row ho (fun k hk e => by
      rcases e with e | e
      · exact rows_off h.row h.gone (by decide) k hk e
      · have := (row_block h.row hk).1; omega)
  · rw [List.length_append, List.length_singleton, rgs_snoc]
    exact ownsRow_setCell_other hown (a := ⟨w.heap.size + 2, 1, none⟩) hn3 _
  · intro q hq
    exact ⟨ownsRow_only (h.vals q hq).1 ho (fun k hk e => by
        rcases e with e | e
        · exact rows_off (h.vals q hq).1 h.gone (by decide) k hk e
        · have := (row_block (h.vals q hq).1 hk).1; omega), (h.vals q hq).2⟩
  · exact (h.below.grown hg (by omega) (fun j hj => by have := (row_block h.gone hj).1; omega)).setCell (p := ⟨w.heap.size + 2, 1, none⟩) (by simp) _
  · show w.heap.size + 3 ≤ (wr'.setCell _ _).heap.size
    simp
    omega
end

def Alike (rs' rs : List RE) : Prop := rs'.map RE.bare = rs.map RE.bare

set_option maxRecDepth 100000 in
set_option maxHeartbeats 2000000 in
theorem rlogCopy_any (B : Nat) (lv gv : Value) (rs : List RE) (w : World) (h : RRep w B lv gv rs) :
    Calls Try.prog 46 #[.agg #[lv, gv]] w fun e w' => ∃ lv' gv' rs', e = .returned (.agg #[lv', gv']) ∧ RRep w' w.heap.size lv' gv' rs' ∧ Alike rs' rs ∧ Below w.heap.size w w' := by
  have HR := Lib.hid h
  have hlI : (rs.length : Int) ≤ 1000000 := by have := h.len; omega
  obtain ⟨LA, lc, rfl, hx1, _⟩ := own_form h.row
  obtain ⟨GA, gc, rfl, hx2, _⟩ := own_form h.gone
  obtain ⟨i1, hi, hy0, hy1, hy2⟩ := info_parts ent_info
  have HJ1 := Lib.hid hi
  have HY10 := Lib.hid hy0
  have HY11 := Lib.hid hy1
  have HY12 := Lib.hid hy2
  clear hi hy0 hy1 hy2
  obtain ⟨i2, hi, hy0, hy1, hy2⟩ := info_parts boolI_info
  have HJ2 := Lib.hid hi
  have HY20 := Lib.hid hy0
  have HY21 := Lib.hid hy1
  have HY22 := Lib.hid hy2
  clear hi hy0 hy1 hy2
  clear h
  go_enter Try.func46, Try.ntmps46
  go_wp2_with fail
  obtain ⟨w1, hw1⟩ : ∃ w1, ((w.alloc (.cells #[.slice LA rs.length lc, .slice GA rs.length gc] 49)).alloc (.cells #[.slice none 0 0, .slice none 0 0] 49)).alloc (.cells #[.slice none 0 0, .slice none 0 0] 49) = w1 := ⟨_, rfl⟩
  have HC1 : Hid (CopyInv w w1 (.slice LA rs.length lc) (.slice GA rs.length gc) (.slice none 0 0) (.slice none 0 0) [] []) := Lib.hid (by
    rw [← hw1]
    exact ⟨((Blk.new _ _ _).alloc _).alloc _, (Blk.new2 _ _ _ _).alloc _, Blk.new3 _ _ _ _ _, World.ownsRow_nil _ _ _ _, World.ownsRow_nil _ _ _ _, by simp, (((Below.refl _ _).alloc (Nat.le_refl _) _).alloc (by simp) _).alloc (by simp; omega) _, by simp⟩)
  rw [hw1]
  clear hw1
  go_loopw [4] (fun i wr => ∃ (k : Nat) (lv' gv' : Value) (rs' : List RE), k ≤ rs.length ∧ i = .int .i64 k ∧ Alike rs' (rs.take k) ∧ CopyInv w wr (.slice LA rs.length lc) (.slice GA rs.length gc) lv' gv' rs' rs') (fun i _ => rs.length - (intOf i).toNat)
  case atStart => exact ⟨0, _, _, [], by omega, rfl, rfl, HC1.out⟩
  case round =>
    obtain ⟨k, lv', gv', rs', hk, rfl, hal, hinv⟩ := hrel
    have hkl' : rs'.length = k := by
      have := congrArg List.length hal
      simp only [List.length_map, List.length_take] at this
      omega
    subst hkl'
    have HC := Lib.hid hinv
    have HAL := Lib.hid hal
    have q0 := hinv.box.cell 0 _ rfl
    have q1 := hinv.box.cell 1 _ rfl
    obtain ⟨L1, lc1, rfl, _, _⟩ := own_form hinv.row
    obtain ⟨G1, gc1, rfl, _, _⟩ := own_form hinv.gone
    have o0 := hinv.out.cell 0 _ rfl
    have o1 := hinv.out.cell 1 _ rfl
    have hzl := hinv.out.lt
    clear hinv hal HC1
    by_cases hkl : rs'.length < rs.length
    · obtain ⟨r, hr⟩ : ∃ r, rs[rs'.length]? = some r := ⟨_, List.getElem?_eq_getElem hkl⟩
      obtain ⟨g, cap, gg, gcap, e1, e2, hg, hgg, hc, hgc, c0, c1, c2, c3, c4⟩ := HR.out.at_ hr
      injection e1 with e1 _ e3
      injection e2 with e2 _ e4
      subst e1 e2 e3 e4
      obtain ⟨hvo, hvl⟩ := HR.out.vals r (List.mem_of_getElem? hr)
      obtain ⟨VA, vc, hve, _, _⟩ := own_form hvo
      have HVE := Lib.hid hve
      have HVB : Hid (Bts wr 0 5 (.slice VA r.e.val.length vc) r.e.val) := Lib.hid (hve ▸ Bts.of_own (ownsRow_only hvo (Only.mono (S := fun i => w.heap.size ≤ i) ⟨HC.out.below.os, HC.out.below.tape, HC.out.below.output, HC.out.below.size, fun i hi hn => HC.out.below.block i (by omega)⟩ (fun _ _ h => h)) (fun j hj => by have := (hvo.lt j hj).2; omega)) 0)
      have HVL := Lib.hid hvl
      have HRr := Lib.hid hr
      have d0 : wr.cell? ⟨g, rs'.length * 4, none⟩ = some (.string r.e.key) := by rw [HC.out.below.cell (p := ⟨g, rs'.length * 4, none⟩) hg]; exact c0
      have d1 : wr.cell? ⟨g, rs'.length * 4 + 1, none⟩ = some (.slice VA r.e.val.length vc) := by rw [HC.out.below.cell (p := ⟨g, rs'.length * 4 + 1, none⟩) hg, ← hve]; exact c1
      have d2 : wr.cell? ⟨g, rs'.length * 4 + 2, none⟩ = some (.int .u64 r.e.dl) := by rw [HC.out.below.cell (p := ⟨g, rs'.length * 4 + 2, none⟩) hg]; exact c2
      have d3 : wr.cell? ⟨g, rs'.length * 4 + 3, none⟩ = some (.int .u64 r.e.birth) := by rw [HC.out.below.cell (p := ⟨g, rs'.length * 4 + 3, none⟩) hg]; exact c3
      have HD4 : Hid (w.cell? ⟨gg, rs'.length, none⟩ = some (.bool r.gone)) := Lib.hid c4
      have hiI : (rs'.length : Int) < (rs.length : Int) := by omega
      have hcI : (rs.length : Int) ≤ (lc : Int) := by omega
      have hcI2 : (rs.length : Int) ≤ (gc : Int) := by omega
      rw [hve] at c1
      have C0 := Lib.hid c0
      have C1 := Lib.hid c1
      have C2 := Lib.hid c2
      have C3 := Lib.hid c3
      clear c0 c1 c2 c3 c4 hr hvo hvl hve
      go_upto_region 5 with fail
      go_cut [4] (fun i wc => i = .int .i64 rs'.length ∧ ∃ lv'' v1, CopyInv w wc (.slice (some ⟨g, 0, none⟩) rs.length lc) (.slice (some ⟨gg, 0, none⟩) rs.length gc) lv'' (.slice G1 rs'.length gc1) (rs' ++ [⟨r.e, v1, r.gone⟩]) rs')
      case first =>
        go_region_law
          (first
            | (refine step_append_dst 21 (by rfl) (by rfl) _ _ _ (by rfl) (w.heap.size + 3) 31 i1 _ 4 56 Try.underlying47 HJ1.out HY10.out HY11.out HY12.out rfl (by decide) _ rs'.length (ecs (ren rs')) (by rfl) (HC.out.row.alloc _) (some ⟨_, 0, none⟩) 1 1 [.string r.e.key, .slice A1 r.e.val.length c1, .int .u64 r.e.dl, .int .u64 r.e.birth] (by rfl) (src_four (t := 31) ?_) (by simp [Value.oneCell']) (by unfold maxLen; omega) (by omega) (by have := HC.out.size; simp; omega) ?_
               · exact Blk.new _ _ _
               intro v3 w3 hown3 hg3 hat3
               have bo := ((HC.out.alloc _).out).grown hg3 (fun e => by have := (row_block HC.out.row e.symm).1; omega)
               have bb := ((HC.out.alloc _).box).grown hg3 (fun e => by have := (row_block HC.out.row e.symm).1; omega)
               have q0 := bb.cell 0 _ rfl
               have o0 := bo.cell 0 _ rfl
               have o4 := bo.frozen
               have hz4 := bo.lt
               have hgs := hg3.size
               have hbw := (HC.out.alloc _).below.grown hg3 (by have := HC.out.below.size; simp; omega) (fun j hj => by have := (row_block HC.out.row hj).1; omega)
               have d0 : w3.cell? ⟨g, rs'.length * 4, none⟩ = some (.string r.e.key) := by rw [hbw.cell (p := ⟨g, rs'.length * 4, none⟩) hg]; exact C0.out
               have d1 : w3.cell? ⟨g, rs'.length * 4 + 1, none⟩ = some (.slice VA r.e.val.length vc) := by rw [hbw.cell (p := ⟨g, rs'.length * 4 + 1, none⟩) hg]; exact C1.out
               have d2 : w3.cell? ⟨g, rs'.length * 4 + 2, none⟩ = some (.int .u64 r.e.dl) := by rw [hbw.cell (p := ⟨g, rs'.length * 4 + 2, none⟩) hg]; exact C2.out
               have d3 : w3.cell? ⟨g, rs'.length * 4 + 3, none⟩ = some (.int .u64 r.e.birth) := by rw [hbw.cell (p := ⟨g, rs'.length * 4 + 3, none⟩) hg]; exact C3.out
               have HO3 := Lib.hid hown3
               have HG3 := Lib.hid hg3
               obtain ⟨L3, lc3, rfl, _, _⟩ := own_form hown3
               clear bo bb hown3 hg3 hat3)
            | (go_simp
               go_at_call 34
               refine (refCopy_any 0 _ _ r.e.val _ _ _ HVB.out.drew (by have := HVL.out; omega)).mono ?_
               rintro e w1 ⟨v1, rfl, hown, hb1⟩
               obtain ⟨A1, c1, rfl, _, _⟩ := own_form hown
               have HO := Lib.hid (ownsRow_base hown (show w.heap.size + 3 ≤ _ from HC.out.size))
               have HC := Lib.hid (HC.out.drew.adv hb1)
               have q0 := HC.out.box.cell 0 _ rfl
               have o0 := HC.out.out.cell 0 _ rfl
               have hz1 := HC.out.out.lt
               have d0 : w1.cell? ⟨g, rs'.length * 4, none⟩ = some (.string r.e.key) := by rw [HC.out.below.cell (p := ⟨g, rs'.length * 4, none⟩) hg]; exact C0.out
               have d1 : w1.cell? ⟨g, rs'.length * 4 + 1, none⟩ = some (.slice VA r.e.val.length vc) := by rw [HC.out.below.cell (p := ⟨g, rs'.length * 4 + 1, none⟩) hg]; exact C1.out
               have d2 : w1.cell? ⟨g, rs'.length * 4 + 2, none⟩ = some (.int .u64 r.e.dl) := by rw [HC.out.below.cell (p := ⟨g, rs'.length * 4 + 2, none⟩) hg]; exact C2.out
               have d3 : w1.cell? ⟨g, rs'.length * 4 + 3, none⟩ = some (.int .u64 r.e.birth) := by rw [HC.out.below.cell (p := ⟨g, rs'.length * 4 + 3, none⟩) hg]; exact C3.out
               clear hown hb1))
        all_goals
          go_wp2_with fail
          go_meet
          exact ⟨rfl, _, _, CopyInv.pushL (r := ⟨r.e, .slice A1 r.e.val.length c1, r.gone⟩) (HC.out.alloc _) HVL.out (HO.out.alloc _) HG3.out HO3.out⟩
      case rest =>
        obtain ⟨rfl, lv2, v1, hinv⟩ := hcut
        have HC := Lib.hid hinv
        obtain ⟨L2, lc2, rfl, _, _⟩ := own_form hinv.row
        clear hinv d0 d1 d2 d3 q0 q1 o0 o1 hzl
        have q1 := HC.out.box.cell 1 _ rfl
        have o1 := HC.out.out.cell 1 _ rfl
        have hzl := HC.out.out.lt
        have d4 : wc.cell? ⟨gg, rs'.length, none⟩ = some (.bool r.gone) := by rw [HC.out.below.cell (p := ⟨gg, rs'.length, none⟩) hgg]; exact HD4.out
        go_upto_region 6 with fail
        go_region_law
          (first
            | (refine step_append_dst 31 (by rfl) (by rfl) _ _ _ (by rfl) (w.heap.size + 3) 4 i2 _ 1 1 Try.underlying42 HJ2.out HY20.out HY21.out HY22.out rfl (by decide) _ rs'.length (rgs rs') (by rfl) (HC.out.drew.gone.alloc _) (some ⟨_, 0, none⟩) 1 1 [.bool r.gone] (by rfl) (src_one (t := 4) ?_) (by simp [Value.oneCell']) (by unfold maxLen; omega) (by omega) (by have := HC.out.size; simp; omega) ?_
               · exact Blk.new _ _ _
               intro v3 w3 hown3 hg3 hat3
               have bo := ((HC.out.drew.alloc _).out).grown hg3 (fun e => by have := (row_block HC.out.gone e.symm).1; omega)
               have bb := ((HC.out.drew.alloc _).box).grown hg3 (fun e => by have := (row_block HC.out.gone e.symm).1; omega)
               have q1 := bb.cell 1 _ rfl
               have o1 := bo.cell 1 _ rfl
               have o4 := bo.frozen
               have hz4 := bo.lt
               have hbw := (HC.out.drew.alloc _).below.grown hg3 (by have := HC.out.below.size; simp; omega) (fun j hj => by have := (row_block HC.out.gone hj).1; omega)
               have d4 : w3.cell? ⟨gg, rs'.length, none⟩ = some (.bool r.gone) := by rw [hbw.cell (p := ⟨gg, rs'.length, none⟩) hgg]; exact HD4.out
               have HO3 := Lib.hid hown3
               have HG3 := Lib.hid hg3
               obtain ⟨L3, lc3, rfl, _, _⟩ := own_form hown3
               clear bo bb hown3 hg3 hat3))
        all_goals
          go_wp2_with fail
          go_roundw
          case rel => exact ⟨rs'.length + 1, _, _, rs' ++ [⟨r.e, v1, r.gone⟩], by omega, by go_num, by unfold Alike at *; rw [List.take_add_one, HRr.out, List.map_append, List.map_append, HAL.out]; rfl, CopyInv.pushG (r := ⟨r.e, v1, r.gone⟩) (HC.out.drew.alloc _) HG3.out HO3.out⟩
          case measure => simp [intOf]; omega
    · have hnl : ¬ (rs'.length : Int) < (rs.length : Int) := by omega
      have q2 := HC.out.res.cell 0 _ rfl
      have q3 := HC.out.res.cell 1 _ rfl
      have q4 := HC.out.res.frozen
      have hzr := HC.out.res.lt
      have hke : rs'.length = rs.length := by omega
      have HAL2 : Hid (Alike rs' rs) := Lib.hid (by have := HAL.out; rw [hke, List.take_length] at this; exact this)
      have HKE := Lib.hid hke
      clear hke
      go_wp2_with fail
      refine bodyPost_ret (v := .agg #[.slice L1 rs'.length lc1, .slice G1 rs'.length gc1]) (by simp [results, Try.results46, go_sem, q2, q3, hzr]) rfl ⟨_, _, rfl, rs', ?_, HAL2.out, ?_⟩
      · have hs := HC.out.size
        exact ⟨ownsRow_base (ownsRow_setCell_below (ownsRow_setCell_below HC.out.row (a := ⟨w.heap.size + 1, 0, none⟩) (by simp) _) (a := ⟨w.heap.size + 1, 1, none⟩) (by simp) _) (by omega),
          ownsRow_base (ownsRow_setCell_below (ownsRow_setCell_below HC.out.gone (a := ⟨w.heap.size + 1, 0, none⟩) (by simp) _) (a := ⟨w.heap.size + 1, 1, none⟩) (by simp) _) (by omega),
          fun q hq => ⟨ownsRow_base (ownsRow_setCell_below (ownsRow_setCell_below (HC.out.vals q hq).1 (a := ⟨w.heap.size + 1, 0, none⟩) (by simp) _) (a := ⟨w.heap.size + 1, 1, none⟩) (by simp) _) (by omega), (HC.out.vals q hq).2⟩,
          by have := HKE.out; omega⟩
      · exact (HC.out.below.setCell (p := ⟨w.heap.size + 1, 0, none⟩) (by simp) _).setCell (p := ⟨w.heap.size + 1, 1, none⟩) (by simp) _

end Go.Proofs.Ytjjhndhigkhkpaa
