/- Law 45's is: a journal has some operations; what it hands out may be written over. -/
import Derived.Test.YtffigmciclopdaaDoorJouY
namespace Go.Proofs.YtffigmciclopdaaDoor
open Go Go.RowKit

/-- Bytes in a block of bytes, written over or not. -/
def UB (w : World) (base : Nat) (v : Value) (n : Nat) : Prop :=
  (∃ A c, v = .slice A n c) ∧ (0 < n → ∃ g c, v = .slice (some ⟨g, 0, none⟩) n c ∧ n ≤ c ∧ base ≤ g ∧ ∃ cur, w.heap[g]? = some (.cells cur 5 (0, 0)) ∧ ∀ j, j < n → ∃ z, cur[j]? = some (.int .u8 z))
theorem UB.of_own {w : World} {base : Nat} {v : Value} {bs : List UInt8} (h : w.ownsRow base 5 1 v bs.length (bcells bs)) : UB w base v bs.length := by
  obtain ⟨A, c, e, _, _⟩ := own_form h
  refine ⟨⟨A, c, e⟩, fun h0 => ?_⟩
  rcases h.2 with ⟨hv, h1⟩ | ⟨g, cap, cur, hv, hg, hh, hnc, hm, hcs, ht⟩
  · omega
  · refine ⟨g, cap, hv, hnc, hg, cur, hh, fun j hj => ?_⟩
    have : (cur.toList.take (bs.length * 1))[j]? = (bcells bs)[j]? := by rw [ht]
    rw [List.getElem?_take, if_pos (by omega)] at this
    exact ⟨_, (by simpa using this : cur[j]? = (bcells bs)[j]?).trans (by simp [bcells, hj]; rfl)⟩
theorem UB.below {w w' : World} {base n : Nat} {v : Value} (h : UB w base v n) (hb : Below w.heap.size w w') : UB w' base v n := by
  refine ⟨h.1, fun h0 => ?_⟩
  obtain ⟨g, c, e, hc, hg, cur, hh, hx⟩ := h.2 h0
  exact ⟨g, c, e, hc, hg, cur, (hb.block g (lt_of_heap hh)).trans hh, hx⟩
theorem UB.set {w : World} {base n : Nat} {v : Value} (h : UB w base v n) (g m : Nat) (z : Int) : UB (w.setCell ⟨g, m, none⟩ (.int .u8 z)) base v n := by
  refine ⟨h.1, fun h0 => ?_⟩
  obtain ⟨g', c, e, hc, hg, cur, hh, hx⟩ := h.2 h0
  by_cases hgg : g' = g
  · subst hgg
    refine ⟨g', c, e, hc, hg, cur.setIfInBounds m (.int .u8 z), ?_, fun j hj => ?_⟩
    · exact Blk.set_ (t := 5) hh m _
    · obtain ⟨z', hz'⟩ := hx j hj
      rw [Array.getElem?_setIfInBounds]
      by_cases hmj : m = j
      · subst hmj
        rw [if_pos rfl, if_pos (Array.getElem?_eq_some_iff.1 hz').1]
        exact ⟨z, rfl⟩
      · rw [if_neg hmj]; exact ⟨z', hz'⟩
  · exact ⟨g', c, e, hc, hg, cur, Blk.far (t := 5) hh (p := ⟨g, m, none⟩) hgg _, hx⟩
theorem UB.cell {w : World} {base n m : Nat} {v : Value} (h : UB w base v n) (hm : m < n) : ∃ g c z, v = .slice (some ⟨g, 0, none⟩) n c ∧ n ≤ c ∧ base ≤ g ∧ w.cell? ⟨g, m, none⟩ = some (.int .u8 z) ∧ w.frozen? ⟨g, m, none⟩ = false ∧ (∃ cur, w.heap[g]? = some (.cells cur 5 (0, 0))) := by
  obtain ⟨g, c, e, hc, hg, cur, hh, hx⟩ := h.2 (by omega)
  obtain ⟨z, hz⟩ := hx m hm
  exact ⟨g, c, z, e, hc, hg, Blk.cell (t := 5) hh m _ hz, Blk.frozen (t := 5) hh m, cur, hh⟩

/-- What is starts with. -/
structure IsH (w : World) (B b Bl Be : Nat) (dv ev ov vl ve : Value) (ds : List UInt8) (es : List Nat) (pj pw : List (OpV × Value)) : Prop where
  rep : JRep w B b dv ev ov ds es pj
  base : B ≤ w.heap.size
  ops : OpsAt w Bl vl pw
  ends : w.ownsRow Be 3 1 ve es.length (ncs es)
  same : pj.map Prod.fst = pw.map Prod.fst
  mono : ∀ i T, es[i]? = some T → fromE es i ≤ T ∧ T ≤ ds.length
  small : ∀ p ∈ pj, p.1.val.length ≤ 1000000
theorem IsH.below {w W : World} {B b Bl Be : Nat} {dv ev ov vl ve : Value} {ds : List UInt8} {es : List Nat} {pj pw : List (OpV × Value)} (h : IsH w B b Bl Be dv ev ov vl ve ds es pj pw) (hb : Below w.heap.size w W) : IsH W B b Bl Be dv ev ov vl ve ds es pj pw :=
  ⟨h.rep.below hb, Nat.le_trans h.base hb.size, h.ops.below hb, own_later h.ends hb, h.same, h.mono, h.small⟩

/-- The bytes that are compared, and the end. -/
structure Is12 (w W : World) (B b Bl Be : Nat) (dv ev ov vl ve : Value) (ds : List UInt8) (es : List Nat) (pj pw : List (OpV × Value)) (vb vr : Value) (rs : List UInt8) : Prop where
  h : IsH W B b Bl Be dv ev ov vl ve ds es pj pw
  bytes : W.ownsRow w.heap.size 5 1 vb ds.length (bcells ds)
  rcd : Bts W W.heap.size 5 vr rs
theorem Is12.adv {w W W2 : World} {B b Bl Be : Nat} {dv ev ov vl ve vb vr : Value} {ds rs : List UInt8} {es : List Nat} {pj pw : List (OpV × Value)} (h : Is12 w W B b Bl Be dv ev ov vl ve ds es pj pw vb vr rs) (hb : Below W.heap.size W W2) : Is12 w W2 B b Bl Be dv ev ov vl ve ds es pj pw vb vr rs :=
  ⟨h.h.below hb, own_later h.bytes hb, (h.rcd.below hb).more hb.size⟩

theorem IsH.endAt {w : World} {B b Bl Be gE n ec : Nat} {dv ev ov vl : Value} {ds : List UInt8} {es : List Nat} {pj pw : List (OpV × Value)} (h : IsH w B b Bl Be dv ev ov vl (.slice (some ⟨gE, 0, none⟩) n ec) ds es pj pw) {k T : Nat} (hT : es[k]? = some T) : w.cell? ⟨gE, k, none⟩ = some (.int .i64 (T : Int)) := by
  have := h.ends.cells (g := gE) rfl k (.int .i64 (T : Int)) (by simp [ncs, hT])
  rw [add_plain, Nat.zero_add] at this
  exact this

theorem Sp.only2 {w0 w : World} {base n : Nat} {v : Value} (h : Sp w0 w base n v) : Only (fun j => v.ownBlock = some j ∧ base ≤ j) w0 w := by
  obtain ⟨xs, ho, _, hon⟩ := h
  exact hon.mono (fun i _ hi => ⟨hi, (row_heap ho (k := i) hi).1⟩)

/-- Operations of one's own whose values are written over. -/
structure SpO (w W : World) (n : Nat) (QA : Option Addr) (qc : Nat) (qs : List (OpV × Value)) : Prop where
  row : W.ownsRow w.heap.size 43 9 (.slice QA n qc) n (ocs qs)
  ubs : ∀ p ∈ qs, UB W w.heap.size p.2 p.1.val.length
  below : Below w.heap.size w W
  len : qs.length = n
theorem SpO.adv {w W W2 : World} {n qc : Nat} {QA : Option Addr} {qs : List (OpV × Value)} (h : SpO w W n QA qc qs) (hb : Below W.heap.size W W2) : SpO w W2 n QA qc qs :=
  ⟨own_later h.row hb, fun p hp => (h.ubs p hp).below hb, h.below.trans (hb.mono h.below.size), h.len⟩
theorem SpO.set {w W : World} {n qc g : Nat} {QA : Option Addr} {qs : List (OpV × Value)} (h : SpO w W n QA qc qs) (hg : w.heap.size ≤ g) (hu : ∃ cur, W.heap[g]? = some (.cells cur 5 (0, 0))) (m : Nat) (z : Int) : SpO w (W.setCell ⟨g, m, none⟩ (.int .u8 z)) n QA qc qs := by
  obtain ⟨cur, hc⟩ := hu
  exact ⟨ownsRow_only h.row (Only.set1 W g m _) (fun k hk e => by
    subst e
    exact blk_differs (t := 5) hc h.row (by decide) hk), fun p hp => (h.ubs p hp).set g m z, h.below.setCell (p := ⟨g, m, none⟩) hg _, h.len⟩
theorem SpO.at_ {w W : World} {n qc i : Nat} {QA : Option Addr} {qs : List (OpV × Value)} {p : OpV × Value} (h : SpO w W n QA qc qs) (hp : qs[i]? = some p) : ∃ g, QA = some ⟨g, 0, none⟩ ∧ W.cell? ⟨g, i * 9 + 3, none⟩ = some p.2 := by
  have hl := (List.getElem?_eq_some_iff.1 hp).1
  have hf := h.row.form (by have := h.len; omega)
  obtain ⟨g, c, e, _⟩ := hf
  injection e with e _ _
  subst e
  have := h.row.cells (g := g) rfl (i * 9 + 3) p.2 ((ocs_at qs i 3 p hp (by decide)).trans rfl)
  rw [add_plain, Nat.zero_add] at this
  exact ⟨g, rfl, this⟩


set_option maxRecDepth 100000 in
set_option maxHeartbeats 4000000 in
theorem is_any (B b Bl Be : Nat) (dv ev ov vl ve : Value) (ds : List UInt8) (es : List Nat) (pj pw : List (OpV × Value)) (w : World) (h : IsH w B b Bl Be dv ev ov vl ve ds es pj pw) :
    Calls Tryd.prog 19 #[.pointer (some ⟨b, 0, none⟩), vl, ve] w fun e w' => e = .returned (.bool true) ∧ Below w.heap.size w w' := by
  have hlp : pw.length = es.length := by
    have h1 := congrArg List.length h.same
    have h2 := h.rep.elen
    simp at h1; omega
  have hem := h.rep.emax
  obtain ⟨LA, lc, rfl⟩ := h.ops.slice
  obtain ⟨EA, ec, rfl, hec, _⟩ := own_form h.ends
  obtain ⟨n, hn⟩ : ∃ n, es.length = n := ⟨_, rfl⟩
  rw [hn] at hec hlp hem
  have HN := Lib.hid hn
  have HLp := Lib.hid hlp
  have hnI : (n : Int) ≤ 4096 := by omega
  have HH := Lib.hid h
  rw [hlp, hn] at HH
  rw [hlp, hn]
  have hecI : (n : Int) ≤ (ec : Int) := by omega
  clear h hn hlp hem
  go_enter Tryd.func19, Tryd.ntmps19
  go_wp2_with fail
  refine (jLen_any _ _ _ _ _ _ _ _ _ HH.out.rep).mono ?_
  rintro e w0 ⟨he, hw0⟩
  subst hw0
  rw [HN.out] at he
  subst he
  go_wp2_with fail
  refine (jBytes_any _ _ _ _ _ _ _ _ _ HH.out.rep).mono ?_
  rintro e w1 ⟨v1, rfl, ho1, hb1⟩
  have HO1 := Lib.hid ho1
  have HB1 := Lib.hid hb1
  obtain ⟨BA, bc, rfl, hbc, _⟩ := own_form ho1
  clear ho1 hb1
  go_wp2_with fail
  go_loopw [8, 9] (fun f i wr => ∃ m : Nat, m ≤ n + 2 ∧ i = .int .i64 ((m : Int) - 1) ∧ f = .int .i64 (fromE es (min (m - 1) n) : Int) ∧ Below w.heap.size w wr ∧ wr.ownsRow w.heap.size 5 1 (.slice BA ds.length bc) ds.length (bcells ds)) (fun _ i _ => (n + 2) - (intOf i + 1).toNat)
  case atStart => exact ⟨0, by omega, rfl, rfl, HB1.out, HO1.out⟩
  case round =>
    obtain ⟨m, hm, rfl, rfl, hb, ho⟩ := hrel
    obtain ⟨W0, hW0⟩ : ∃ W0, W0 = wr := ⟨_, rfl⟩
    subst hW0
    have HBr := Lib.hid hb
    have HOr := Lib.hid ho
    clear hb ho
    by_cases hm2 : m < n + 2
    · by_cases h0 : m = 0
      · subst h0
        have hmI : (-1 : Int) ≤ (n : Int) := by omega
        simp only [Int.natCast_zero, Int.zero_sub]
        go_wp2_with fail
        refine (record_none _ _ _ _ _ _ _ _ _ (HH.out.below HBr.out).rep (-1) (.inl (by decide))).mono ?_
        rintro e w2 ⟨rfl, hw2⟩
        subst hw2
        go_wp2_with fail
        go_roundw
        case rel => exact ⟨1, by omega, by rfl, rfl, HBr.out, HOr.out⟩
        case measure => simp [intOf]
      · obtain ⟨k, rfl⟩ : ∃ k, m = k + 1 := ⟨m - 1, by omega⟩
        have hmk : ((k + 1 : Nat) : Int) - 1 = (k : Int) := by omega
        rw [hmk]
        have hk1 : min (k + 1 - 1) n = k := by omega
        rw [hk1]
        have hkI : (k : Int) ≤ (n : Int) := by omega
        by_cases hkn : k = n
        · subst hkn
          go_wp2_with fail
          refine (record_none _ _ _ _ _ _ _ _ _ (HH.out.below HBr.out).rep (k : Int) (.inr (by rw [HN.out]; exact Int.le_refl _))).mono ?_
          rintro e w2 ⟨rfl, hw2⟩
          subst hw2
          go_wp2_with fail
          go_roundw
          case rel => exact ⟨k + 2, by omega, by go_num, by rw [show min (k + 2 - 1) k = k by omega], HBr.out, HOr.out⟩
          case measure => simp [intOf]; omega
        · have hkl : k < n := by omega
          have hknI : (k : Int) < (n : Int) := by omega
          have hkne : ((k : Int) == (n : Int)) = false := by rw [beq_eq_false_iff_ne]; omega
          obtain ⟨T, hT⟩ : ∃ T, es[k]? = some T := ⟨_, List.getElem?_eq_getElem (by rw [HN.out]; exact hkl)⟩
          obtain ⟨hT1, hT2⟩ := HH.out.mono k T hT
          obtain ⟨Fr, hFr⟩ : ∃ Fr, fromE es k = Fr := ⟨_, rfl⟩
          have HRk := Lib.hid (record_ok _ _ _ _ _ _ _ _ _ (HH.out.below HBr.out).rep k T hT hT1 hT2)
          rw [hFr] at hT1 HRk ⊢
          obtain ⟨rs, hrs⟩ : ∃ rs, (ds.take T).drop Fr = rs := ⟨_, rfl⟩
          rw [hrs] at HRk
          have hrl : rs.length = T - Fr := by rw [← hrs, List.length_drop, List.length_take]; omega
          have HT := Lib.hid hT
          have HFr := Lib.hid hFr
          have HRs := Lib.hid hrs
          have HRl := Lib.hid hrl
          have HT1 := Lib.hid hT1
          have HT2 := Lib.hid hT2
          have hTI : (Fr : Int) ≤ (T : Int) := by omega
          have hTc : (T : Int) ≤ (bc : Int) := by omega
          have hTm : (T : Int) ≤ 1048576 := by have := HH.out.rep.dmax; omega
          obtain ⟨A', hA'⟩ : ∃ A', (if bc = Fr then BA else Option.map (fun x => x.add Fr) BA) = A' := ⟨_, rfl⟩
          have HA' := Lib.hid hA'
          obtain ⟨gE, hgE⟩ : ∃ gE, EA = some ⟨gE, 0, none⟩ := by
            have hf := HH.out.ends.form (by rw [HN.out]; omega)
            obtain ⟨g, cap, e, _⟩ := hf
            injection e with e _ _
            exact ⟨g, e⟩
          subst hgE
          have HCt : Hid (∀ W, W.ownsRow w.heap.size 5 1 (.slice BA ds.length bc) ds.length (bcells ds) → Bts W w.heap.size 5 (.slice A' (T - Fr) (bc - Fr)) rs) := Lib.hid (fun W hW => by
            have := (Bts.of_own hW w.heap.size).cut_ Fr T hT1 hT2
            have e0 : sliced BA Fr T bc 1 = .slice A' (T - Fr) (bc - Fr) := by
              unfold sliced
              rw [Nat.mul_one, hA']
            rwa [e0, hrs] at this)
          clear hT hT1 hT2 hFr hrs hrl hA' hmk hk1 hkn
          go_wp2_with fail
          refine HRk.out.mono ?_
          rintro e w2 ⟨v2, rfl, ho2, hb2⟩
          obtain ⟨RA, rc, rfl, hrc, _⟩ := own_form ho2
          have HO2 := Lib.hid ho2
          have HS12 : Hid (Is12 w w2 B b Bl Be dv ev ov (.slice LA n lc) (.slice (some ⟨gE, 0, none⟩) n ec) ds es pj pw (.slice BA ds.length bc) (.slice RA rs.length rc) rs) := Lib.hid
            ⟨(HH.out.below HBr.out).below hb2, own_later HOr.out hb2, Bts.of_own ho2 _⟩
          have HB2 := Lib.hid (HBr.out.trans (hb2.mono HBr.out.size))
          have HW2 := Lib.hid hb2
          clear ho2 hb2
          go_upto_region 12 with fail
          refine wp_region_noPanic ?_
          refine wp_region_held_drew (S := fun W => Is12 w W B b Bl Be dv ev ov (.slice LA n lc) (.slice (some ⟨gE, 0, none⟩) n ec) ds es pj pw (.slice BA ds.length bc) (.slice RA rs.length rc) rs) (by kernel_rfl) (HS12.out.adv (Below.refl _ _).drew) (fun hHeld => ?_)
          refine wpAnyH_take (i := 0) (oi := ⟨_, _, _, _, _, _⟩) (v := ?_) rfl (by kernel_rfl) (by kernel_rfl) (by kernel_rfl) (fun _ _ _ h => h) (Or.inl ⟨by rfl, ?_⟩) (by assumption) ?_
          rotate_left 1
          · intro W hSw
            have cb := hSw.rcd.string (P := Tryd.prog) 22 9 Tryd.underlying22 Tryd.underlying5 Tryd.underlying9; have c1 := (HCt.out _ hSw.bytes).string (P := Tryd.prog) 22 9 Tryd.underlying22 Tryd.underlying5 Tryd.underlying9; have ec3 := hSw.h.endAt HT.out
            clear hSw
            go_simp
            try with_reducible rfl
          try simp only [Act.put, List.setIfInBounds_toArray, List.set_cons_zero, List.set_cons_succ]
          refine wpAnyH_take (i := 1) (oi := ⟨_, _, _, _, _, _⟩) (v := ?_) rfl (by kernel_rfl) (by kernel_rfl) (by kernel_rfl) (fun _ _ _ h => h) (Or.inl ⟨by rfl, ?_⟩) (by assumption) ?_
          rotate_left 1
          · intro W hSw
            have cb := hSw.rcd.string (P := Tryd.prog) 22 9 Tryd.underlying22 Tryd.underlying5 Tryd.underlying9; have c1 := (HCt.out _ hSw.bytes).string (P := Tryd.prog) 22 9 Tryd.underlying22 Tryd.underlying5 Tryd.underlying9; have ec3 := hSw.h.endAt HT.out
            clear hSw
            go_simp
            try with_reducible rfl
          try simp only [Act.put, List.setIfInBounds_toArray, List.set_cons_zero, List.set_cons_succ]
          refine wpAnyH_take (i := 2) (oi := ⟨_, _, _, _, _, _⟩) (v := ?_) rfl (by kernel_rfl) (by kernel_rfl) (by kernel_rfl) (fun _ _ _ h => h) (Or.inl ⟨by rfl, ?_⟩) (by assumption) ?_
          rotate_left 1
          · intro W hSw
            have cb := hSw.rcd.string (P := Tryd.prog) 22 9 Tryd.underlying22 Tryd.underlying5 Tryd.underlying9; have c1 := (HCt.out _ hSw.bytes).string (P := Tryd.prog) 22 9 Tryd.underlying22 Tryd.underlying5 Tryd.underlying9; have ec3 := hSw.h.endAt HT.out
            clear hSw
            go_simp
            try with_reducible rfl
          try simp only [Act.put, List.setIfInBounds_toArray, List.set_cons_zero, List.set_cons_succ]
          refine wpAnyH_take (i := 3) (oi := ⟨_, _, _, _, _, _⟩) (v := ?_) rfl (by kernel_rfl) (by kernel_rfl) (by kernel_rfl) (fun _ _ _ h => h) (Or.inl ⟨by rfl, ?_⟩) (by assumption) ?_
          rotate_left 1
          · intro W hSw
            have cb := hSw.rcd.string (P := Tryd.prog) 22 9 Tryd.underlying22 Tryd.underlying5 Tryd.underlying9; have c1 := (HCt.out _ hSw.bytes).string (P := Tryd.prog) 22 9 Tryd.underlying22 Tryd.underlying5 Tryd.underlying9; have ec3 := hSw.h.endAt HT.out
            clear hSw
            go_simp
            try with_reducible rfl
          try simp only [Act.put, List.setIfInBounds_toArray, List.set_cons_zero, List.set_cons_succ]
          refine wpAnyH_take (i := 4) (oi := ⟨_, _, _, _, _, _⟩) (v := ?_) rfl (by kernel_rfl) (by kernel_rfl) (by kernel_rfl) (fun _ _ _ h => h) (Or.inl ⟨by rfl, ?_⟩) (by assumption) ?_
          rotate_left 1
          · intro W hSw
            have cb := hSw.rcd.string (P := Tryd.prog) 22 9 Tryd.underlying22 Tryd.underlying5 Tryd.underlying9; have c1 := (HCt.out _ hSw.bytes).string (P := Tryd.prog) 22 9 Tryd.underlying22 Tryd.underlying5 Tryd.underlying9; have ec3 := hSw.h.endAt HT.out
            clear hSw
            go_simp
            try with_reducible rfl
          try simp only [Act.put, List.setIfInBounds_toArray, List.set_cons_zero, List.set_cons_succ]
          refine wpAnyH_take (i := 5) (oi := ⟨_, _, _, _, _, _⟩) (v := ?_) rfl (by kernel_rfl) (by kernel_rfl) (by kernel_rfl) (fun _ _ _ h => h) (Or.inl ⟨by rfl, ?_⟩) (by assumption) ?_
          rotate_left 1
          · intro W hSw
            have cb := hSw.rcd.string (P := Tryd.prog) 22 9 Tryd.underlying22 Tryd.underlying5 Tryd.underlying9; have c1 := (HCt.out _ hSw.bytes).string (P := Tryd.prog) 22 9 Tryd.underlying22 Tryd.underlying5 Tryd.underlying9; have ec3 := hSw.h.endAt HT.out
            clear hSw
            go_simp
            try with_reducible rfl
          try simp only [Act.put, List.setIfInBounds_toArray, List.set_cons_zero, List.set_cons_succ]
          refine wpAnyH_take (i := 6) (oi := ⟨_, _, _, _, _, _⟩) (v := ?_) rfl (by kernel_rfl) (by kernel_rfl) (by kernel_rfl) (fun _ _ _ h => h) (Or.inl ⟨by rfl, ?_⟩) (by assumption) ?_
          rotate_left 1
          · intro W hSw
            have cb := hSw.rcd.string (P := Tryd.prog) 22 9 Tryd.underlying22 Tryd.underlying5 Tryd.underlying9; have c1 := (HCt.out _ hSw.bytes).string (P := Tryd.prog) 22 9 Tryd.underlying22 Tryd.underlying5 Tryd.underlying9; have ec3 := hSw.h.endAt HT.out
            clear hSw
            go_simp
            try with_reducible rfl
          try simp only [Act.put, List.setIfInBounds_toArray, List.set_cons_zero, List.set_cons_succ]
          refine wpAnyH_take (i := 7) (oi := ⟨_, _, _, _, _, _⟩) (v := ?_) rfl (by kernel_rfl) (by kernel_rfl) (by kernel_rfl) (fun _ _ _ h => h) (Or.inl ⟨by rfl, ?_⟩) (by assumption) ?_
          rotate_left 1
          · intro W hSw
            have cb := hSw.rcd.string (P := Tryd.prog) 22 9 Tryd.underlying22 Tryd.underlying5 Tryd.underlying9; have c1 := (HCt.out _ hSw.bytes).string (P := Tryd.prog) 22 9 Tryd.underlying22 Tryd.underlying5 Tryd.underlying9; have ec3 := hSw.h.endAt HT.out
            clear hSw
            go_simp
            try with_reducible rfl
          try simp only [Act.put, List.setIfInBounds_toArray, List.set_cons_zero, List.set_cons_succ]
          refine wpAnyH_take (i := 8) (oi := ⟨_, _, _, _, _, _⟩) (v := ?_) rfl (by kernel_rfl) (by kernel_rfl) (by kernel_rfl) (fun _ _ _ h => h) (Or.inl ⟨by rfl, ?_⟩) (by assumption) ?_
          rotate_left 1
          · intro W hSw
            have cb := hSw.rcd.string (P := Tryd.prog) 22 9 Tryd.underlying22 Tryd.underlying5 Tryd.underlying9; have c1 := (HCt.out _ hSw.bytes).string (P := Tryd.prog) 22 9 Tryd.underlying22 Tryd.underlying5 Tryd.underlying9; have ec3 := hSw.h.endAt HT.out
            clear hSw
            go_simp
            try with_reducible rfl
          try simp only [Act.put, List.setIfInBounds_toArray, List.set_cons_zero, List.set_cons_succ]
          refine wpAnyH_take (i := 9) (oi := ⟨_, _, _, _, _, _⟩) (v := ?_) rfl (by kernel_rfl) (by kernel_rfl) (by kernel_rfl) (fun _ _ _ h => h) (Or.inl ⟨by rfl, ?_⟩) (by assumption) ?_
          rotate_left 1
          · intro W hSw
            have cb := hSw.rcd.string (P := Tryd.prog) 22 9 Tryd.underlying22 Tryd.underlying5 Tryd.underlying9; have c1 := (HCt.out _ hSw.bytes).string (P := Tryd.prog) 22 9 Tryd.underlying22 Tryd.underlying5 Tryd.underlying9; have ec3 := hSw.h.endAt HT.out
            clear hSw
            go_simp
            try with_reducible rfl
          try simp only [Act.put, List.setIfInBounds_toArray, List.set_cons_zero, List.set_cons_succ]
          refine wpAnyH_take (i := 10) (oi := ⟨_, _, _, _, _, _⟩) (v := ?_) rfl (by kernel_rfl) (by kernel_rfl) (by kernel_rfl) (fun _ _ _ h => h) (Or.inl ⟨by rfl, ?_⟩) (by assumption) ?_
          rotate_left 1
          · intro W hSw
            have cb := hSw.rcd.string (P := Tryd.prog) 22 9 Tryd.underlying22 Tryd.underlying5 Tryd.underlying9; have c1 := (HCt.out _ hSw.bytes).string (P := Tryd.prog) 22 9 Tryd.underlying22 Tryd.underlying5 Tryd.underlying9; have ec3 := hSw.h.endAt HT.out
            clear hSw
            go_simp
            try with_reducible rfl
          try simp only [Act.put, List.setIfInBounds_toArray, List.set_cons_zero, List.set_cons_succ]
          refine wpAnyH_take (i := 11) (oi := ⟨_, _, _, _, _, _⟩) (v := ?_) rfl (by kernel_rfl) (by kernel_rfl) (by kernel_rfl) (fun _ _ _ h => h) (Or.inl ⟨by rfl, ?_⟩) (by assumption) ?_
          rotate_left 1
          · intro W hSw
            have hA' := HA'.out
            clear hSw
            go_simp
            try with_reducible rfl
          try simp only [Act.put, List.setIfInBounds_toArray, List.set_cons_zero, List.set_cons_succ]
          refine wpAnyH_take (i := 12) (oi := ⟨_, _, _, _, _, _⟩) (v := ?_) rfl (by kernel_rfl) (by kernel_rfl) (by kernel_rfl) (fun _ _ _ h => h) (Or.inl ⟨by rfl, ?_⟩) (by assumption) ?_
          rotate_left 1
          · intro W hSw
            have cb := hSw.rcd.string (P := Tryd.prog) 22 9 Tryd.underlying22 Tryd.underlying5 Tryd.underlying9; have c1 := (HCt.out _ hSw.bytes).string (P := Tryd.prog) 22 9 Tryd.underlying22 Tryd.underlying5 Tryd.underlying9; have ec3 := hSw.h.endAt HT.out
            clear hSw
            go_simp
            try with_reducible rfl
          try simp only [Act.put, List.setIfInBounds_toArray, List.set_cons_zero, List.set_cons_succ]
          refine wpAnyH_take (i := 13) (oi := ⟨_, _, _, _, _, _⟩) (v := ?_) rfl (by kernel_rfl) (by kernel_rfl) (by kernel_rfl) (fun _ _ _ h => h) (Or.inl ⟨by rfl, ?_⟩) (by assumption) ?_
          rotate_left 1
          · intro W hSw
            have cb := hSw.rcd.string (P := Tryd.prog) 22 9 Tryd.underlying22 Tryd.underlying5 Tryd.underlying9; have c1 := (HCt.out _ hSw.bytes).string (P := Tryd.prog) 22 9 Tryd.underlying22 Tryd.underlying5 Tryd.underlying9; have ec3 := hSw.h.endAt HT.out
            clear hSw
            go_simp
            try with_reducible rfl
          try simp only [Act.put, List.setIfInBounds_toArray, List.set_cons_zero, List.set_cons_succ]
          refine wpAnyH_take (i := 14) (oi := ⟨_, _, _, _, _, _⟩) (v := ?_) rfl (by kernel_rfl) (by kernel_rfl) (by kernel_rfl) (fun _ _ _ h => h) (Or.inl ⟨by rfl, ?_⟩) (by assumption) ?_
          rotate_left 1
          · intro W hSw
            have cb := hSw.rcd.string (P := Tryd.prog) 22 9 Tryd.underlying22 Tryd.underlying5 Tryd.underlying9; have c1 := (HCt.out _ hSw.bytes).string (P := Tryd.prog) 22 9 Tryd.underlying22 Tryd.underlying5 Tryd.underlying9; have ec3 := hSw.h.endAt HT.out
            clear hSw
            go_simp
            try with_reducible rfl
          try simp only [Act.put, List.setIfInBounds_toArray, List.set_cons_zero, List.set_cons_succ]
          refine wpAnyH_done (by kernel_rfl) ?_ _
          refine NoPanic.normal ?_
          clear hHeld HS12
          obtain ⟨w3, hw3⟩ : ∃ w3, w2.drew = w3 := ⟨_, rfl⟩
          have hb3 : Below w2.heap.size w2 w3 := hw3 ▸ (Below.refl _ w2).drew
          have HB3 := Lib.hid (HB2.out.trans (hb3.mono HB2.out.size))
          have HO3 := Lib.hid (own_later HO2.out hb3)
          have HY3 := Lib.hid ((own_later (own_later HOr.out HW2.out) hb3))
          have HR3 := Lib.hid (HH.out.below HB3.out)
          rw [hw3]
          clear hw3 hb3
          have HSp := Lib.hid (Sp.start HO3.out)
          have ec3 : w3.cell? ⟨gE, k, none⟩ = some (.int .i64 (T : Int)) := HR3.out.endAt HT.out
          go_wp2_with fail
          have HFT : Hid (fromE es (k + 1) = T) := Lib.hid (by
            unfold fromE
            rw [if_neg (by omega), Nat.add_sub_cancel, List.getD_eq_getElem?_getD, HT.out]; rfl)
          have hrI : (rs.length : Int) ≤ 1048576 := by have := HRl.out; omega
          go_loopw [12] (fun q wq => ∃ j : Nat, j ≤ rs.length ∧ q = .int .i64 j ∧ Sp w3 wq W0.heap.size rs.length (.slice RA rs.length rc)) (fun q _ => rs.length - (intOf q).toNat)
          case atStart => exact ⟨0, by omega, rfl, HSp.out⟩
          case round =>
            obtain ⟨j, hj, rfl, hsp⟩ := hrel
            by_cases hjl : j < rs.length
            · obtain ⟨g1, z, rfl, hgc, hfz, hcc, hgl⟩ := hsp.cell hjl
              have HW := Lib.hid hsp
              have hjI : (j : Int) < (rs.length : Int) := by omega
              have hcI : (rs.length : Int) ≤ (rc : Int) := by omega
              clear hsp hcc
              go_wp2_with fail
              go_roundw
              case rel => exact ⟨j + 1, by omega, by go_num, HW.out.step _⟩
              case measure => simp [intOf]; omega
            · obtain rfl : j = rs.length := by omega
              have HBe := Lib.hid (HB3.out.trans (hsp.only2.below (fun i hi _ e => by have := e.2; have := HBr.out.size; omega) HB3.out.size))
              have HYe := Lib.hid (ownsRow_only HY3.out hsp.only2 (fun q hq e => by
                have h1 := lt_of_heap (row_heap HOr.out hq).2.choose_spec
                have := e.2
                omega))
              clear hsp hjl hj
              go_wp2_with fail
              go_roundw
              case rel => exact ⟨k + 1 + 1, by omega, by go_num, by rw [show min (k + 1 + 1 - 1) n = k + 1 by omega, HFT.out], HBe.out, HYe.out⟩
              case measure => simp [intOf]; omega
    · obtain rfl : m = n + 2 := by omega
      have hnm : ((n + 2 : Nat) : Int) - 1 = (n : Int) + 1 := by omega
      rw [hnm]
      have hdI : (ds.length : Int) ≤ 1048576 := by have := HH.out.rep.dmax; omega
      have HSp := Lib.hid (Sp.start HOr.out)
      clear hnm
      go_wp2_with fail
      go_loopw [13] (fun q wq => ∃ j : Nat, j ≤ ds.length ∧ q = .int .i64 j ∧ Sp W0 wq w.heap.size ds.length (.slice BA ds.length bc)) (fun q _ => ds.length - (intOf q).toNat)
      case atStart => exact ⟨0, by omega, rfl, HSp.out⟩
      case round =>
        obtain ⟨j, hj, rfl, hsp⟩ := hrel
        by_cases hjl : j < ds.length
        · obtain ⟨g1, z, rfl, hgc, hfz, hcc, hgl⟩ := hsp.cell hjl
          have HW := Lib.hid hsp
          have hjI : (j : Int) < (ds.length : Int) := by omega
          have hcI : (ds.length : Int) ≤ (bc : Int) := by omega
          clear hsp hcc
          go_wp2_with fail
          go_roundw
          case rel => exact ⟨j + 1, by omega, by go_num, HW.out.step _⟩
          case measure => simp [intOf]; omega
        · obtain rfl : j = ds.length := by omega
          have HB5 := Lib.hid (HBr.out.trans (hsp.only2.below (fun i hi _ e => by have := e.2; omega) HBr.out.size))
          have HR5 := Lib.hid (HH.out.below HB5.out)
          clear hsp hjl hj
          go_wp2_with fail
          refine (jOps_any _ _ _ _ _ _ _ _ _ HR5.out.rep HR5.out.base HR5.out.small).mono ?_
          rintro e w6 ⟨v6, q6, rfl, hm6, hq6, hb6⟩
          have HM6 := Lib.hid hm6
          have HB6 := Lib.hid (HB5.out.trans (hb6.mono HB5.out.size))
          have HR6 := Lib.hid (HH.out.below HB6.out)
          have hl6 : q6.length = n := by
            have h1 := congrArg List.length hm6
            have h2 := HH.out.rep.elen
            have := HN.out
            simp at h1; omega
          obtain ⟨QA, qc, rfl, hqc, _⟩ := own_form hq6.row
          have HSO : Hid (SpO w w6 n QA qc q6) := Lib.hid ⟨hl6 ▸ ownsRow_base hq6.row HB5.out.size, fun p hp => UB.of_own (ownsRow_base (hq6.vals p hp) HB5.out.size), HB6.out, hl6⟩
          have HQ6 := Lib.hid hq6
          rw [hl6] at HQ6 hqc ⊢
          have HL6 := Lib.hid hl6
          have hqcI : (n : Int) ≤ (qc : Int) := by omega
          clear hm6 hb6 hl6 hq6
          go_wp2_with fail
          refine (opsEqual_any 0 Bl (.slice QA n qc) (.slice LA n lc) q6 pw w6 HQ6.out.at_ HR6.out.ops (by rw [HL6.out]; omega) (by rw [HLp.out]; omega)).mono ?_
          rintro e w7 ⟨⟨t, rfl, ht⟩, hb7⟩
          obtain rfl : t = true := ht.2 (HM6.out.trans HH.out.same)
          have HSO7 := Lib.hid (HSO.out.adv hb7)
          clear ht hb7 HQ6
          go_wp2_with fail
          go_loopw [15, 16] (fun q _ wq => ∃ i : Nat, i ≤ n ∧ q = .int .i64 i ∧ SpO w wq n QA qc q6) (fun q _ _ => n - (intOf q).toNat)
          case atStart => exact ⟨0, by omega, rfl, HSO7.out⟩
          case round =>
            obtain ⟨i, hi, rfl, hso⟩ := hrel
            obtain ⟨W1, hW1⟩ : ∃ W1, W1 = wr := ⟨_, rfl⟩
            subst hW1
            have HSO8 := Lib.hid hso
            by_cases hil : i < n
            · obtain ⟨⟨o, V⟩, hp⟩ : ∃ p, q6[i]? = some p := ⟨_, List.getElem?_eq_getElem (by rw [HL6.out]; exact hil)⟩
              have hub := hso.ubs (o, V) (List.mem_of_getElem? hp)
              dsimp only at hub
              obtain ⟨⟨VA, vc, rfl⟩, _⟩ := hub
              obtain ⟨gq, rfl, _⟩ := hso.at_ hp
              have HPq := Lib.hid hp
              have hiI : (i : Int) < (n : Int) := by omega
              have hvl : o.val.length ≤ 1000000 := by
                have h1 : o ∈ pj.map Prod.fst := by rw [← HM6.out]; exact List.mem_map_of_mem (f := Prod.fst) (List.mem_of_getElem? hp)
                obtain ⟨x, hx, e⟩ := List.mem_map.1 h1
                rw [← e]; exact HH.out.small x hx
              have hvI : (o.val.length : Int) ≤ 1000000 := by omega
              obtain ⟨vn, hvn⟩ : ∃ vn, o.val.length = vn := ⟨_, rfl⟩
              have HVn := Lib.hid hvn
              rw [hvn] at HPq hvI
              clear hp hso hvl hvn
              go_wp2_with fail
              go_loopw [16] (fun q wq => ∃ j : Nat, j ≤ vn ∧ q = .int .i64 j ∧ SpO w wq n (some ⟨gq, 0, none⟩) qc q6) (fun q _ => vn - (intOf q).toNat)
              case atStart => exact ⟨0, by omega, rfl, HSO8.out⟩
              case round =>
                obtain ⟨j, hj, rfl, hso⟩ := hrel
                obtain ⟨gq', e, x3⟩ := hso.at_ HPq.out
                injection e with e
                injection e with e _
                subst e
                dsimp only at x3
                have HSO9 := Lib.hid hso
                by_cases hjl : j < vn
                · obtain ⟨g1, c1, z, e1, hcc, hg1, hgc, hfz, hu⟩ := (hso.ubs _ (List.mem_of_getElem? HPq.out)).cell (m := j) (by rw [HVn.out]; exact hjl)
                  dsimp only at e1 hcc
                  injection e1 with e1 _ e3
                  subst e1 e3
                  have HG1 := Lib.hid hg1
                  have HU := Lib.hid hu
                  have hgne : ¬ g1 = gq := fun e => by
                    subst e
                    obtain ⟨cur, hc⟩ := hu
                    exact blk_differs (t := 5) hc hso.row (by decide) rfl
                  have hjI : (j : Int) < (vn : Int) := by omega
                  have hcI : (vn : Int) ≤ (vc : Int) := by have := HVn.out; omega
                  clear hso hcc hg1 hu
                  go_wp2_with fail
                  go_roundw
                  case rel => exact ⟨j + 1, by omega, by go_num, HSO9.out.set HG1.out HU.out _ _⟩
                  case measure => simp [intOf]; omega
                · obtain rfl : j = vn := by omega
                  clear hso hjl hj
                  go_wp2_with fail
                  go_roundw
                  case rel => exact ⟨i + 1, by omega, by go_num, HSO9.out⟩
                  case measure => simp [intOf]; omega
            · obtain rfl : i = n := by omega
              have HB8 := Lib.hid hso.below
              have HR8 := Lib.hid (HH.out.below hso.below)
              clear hso hil hi
              go_wp2_with fail
              refine (jOps_any _ _ _ _ _ _ _ _ _ HR8.out.rep HR8.out.base HR8.out.small).mono ?_
              rintro e w9 ⟨v9, q9, rfl, hm9, hq9, hb9⟩
              have hl9 : q9.length = i := by
                have h1 := congrArg List.length hm9
                have h2 := HH.out.rep.elen
                have := HN.out
                simp at h1; omega
              have HM9 := Lib.hid hm9
              have HB9 := Lib.hid (HB8.out.trans (hb9.mono HB8.out.size))
              have HQ9 := Lib.hid hq9
              have HL9 := Lib.hid hl9
              obtain ⟨A9, c9, rfl, _, _⟩ := own_form hq9.row
              clear hm9 hq9 hb9 hl9
              go_wp2_with fail
              refine (opsEqual_any 0 Bl (.slice A9 q9.length c9) (.slice LA i lc) q9 pw w9 HQ9.out.at_ (HH.out.below HB9.out).ops (by rw [HL9.out]; omega) (by rw [HLp.out]; omega)).mono ?_
              rintro e w10 ⟨⟨t, rfl, ht⟩, hb10⟩
              obtain rfl : t = true := ht.2 (HM9.out.trans HH.out.same)
              have HB10 := Lib.hid (HB9.out.trans (hb10.mono HB9.out.size))
              clear ht hb10
              go_wp2_with fail
              go_ret
              exact ⟨rfl, HB10.out⟩

end Go.Proofs.YtffigmciclopdaaDoor
