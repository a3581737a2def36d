/- The walks of a log's methods (layer 9), further: at, Get, Key, Set, Remove. -/
import Derived.Test.YtjjhndhigkhkpaaLogA
namespace Go.Proofs.Ytjjhndhigkhkpaa
open Go Go.RowKit

/-- The log has an entry there. -/
structure Has (ps : List (Ent × Value)) (i : Nat) (x : Ent) (v : Value) : Prop where
  at_ : ps[i]? = some (x, v)
  birth : x.birth ≠ 0

def Hasnt (ps : List (Ent × Value)) (i : Nat) : Prop := ∀ x v, ps[i]? = some (x, v) → x.birth = 0

theorem Has.lt {ps : List (Ent × Value)} {i : Nat} {x : Ent} {v : Value} (h : Has ps i x v) : i < ps.length := (List.getElem?_eq_some_iff.1 h.at_).1
theorem Has.eq {ps : List (Ent × Value)} {i : Nat} {x : Ent} {v : Value} (h : Has ps i x v) : ps[i]'h.lt = (x, v) := (List.getElem?_eq_some_iff.1 h.at_).2
theorem Has.mem {ps : List (Ent × Value)} {i : Nat} {x : Ent} {v : Value} (h : Has ps i x v) : (x, v) ∈ ps := by rw [← h.eq]; exact List.getElem_mem _

theorem has_or (ps : List (Ent × Value)) (i : Nat) : (∃ x v, Has ps i x v) ∨ Hasnt ps i := by
  by_cases h : i < ps.length
  · by_cases hb : ps[i].1.birth = 0
    · exact .inr fun x v e => by
        rw [List.getElem?_eq_getElem h] at e
        injection e with e
        rw [e] at hb
        exact hb
    · exact .inl ⟨ps[i].1, ps[i].2, List.getElem?_eq_getElem h, hb⟩
  · exact .inr fun x v e => by rw [List.getElem?_eq_none (by omega)] at e; cases e

theorem LogRep.at_ {w : World} {B b : Nat} {lv : Value} {ps : List (Ent × Value)} (h : LogRep w B b lv ps) {i : Nat} {x : Ent} {v : Value} (hp : ps[i]? = some (x, v)) :
    ∃ g cap, lv = .slice (some ⟨g, 0, none⟩) ps.length cap ∧ B ≤ g ∧ g ≠ b ∧ g < w.heap.size ∧ ps.length ≤ cap ∧ cap ≤ maxLen ∧
      w.cell? ⟨g, i * 4, none⟩ = some (.string x.key) ∧ w.cell? ⟨g, i * 4 + 1, none⟩ = some v ∧ w.cell? ⟨g, i * 4 + 2, none⟩ = some (.int .u64 x.dl) ∧ w.cell? ⟨g, i * 4 + 3, none⟩ = some (.int .u64 x.birth) ∧
      ∀ j, w.frozen? ⟨g, j, none⟩ = false := by
  obtain ⟨hi, hx⟩ := List.getElem?_eq_some_iff.1 hp
  obtain ⟨g, cap, hv, hb, hlt⟩ := h.row.form (by omega)
  have hrow := h.row
  rw [hv] at hrow
  have hg : g ≠ b := fun e => by
    obtain ⟨_, cur, h2⟩ := row_block h.row (k := g) (by rw [hv]; rfl)
    exact (h.blk.ne_ h2 (by decide)) e.symm
  have hcell : ∀ j, j < 4 → w.cell? ⟨g, i * 4 + j, none⟩ = (ecells (x, v))[j]? := fun j hj => by
    rw [hrow.cellAt (i * 4 + j) (by omega), ecs_at ps i j hi hj, hx]
  obtain ⟨A, c, e, h1, h2⟩ := own_form h.row
  rw [hv] at e
  injection e with _ _ e
  subst e
  exact ⟨g, cap, hv, hb, hg, hlt, h1, h2, hcell 0 (by omega), hcell 1 (by omega), hcell 2 (by omega), hcell 3 (by omega), fun j => hrow.frozenAt j⟩

set_option maxHeartbeats 400000 in
theorem logAt_some (B b : Nat) (lv : Value) (ps : List (Ent × Value)) (i : Nat) (w : World) (x : Ent) (xv : Value) (h : LogRep w B b lv ps) (hp : Has ps i x xv) :
    Calls Try.prog 31 #[.pointer (some ⟨b, 0, none⟩), .int .u32 i] w fun e w' => (∀ g, lv.ownBlock = some g → e = .returned (.tuple #[.pointer (some ⟨g, i * 4, none⟩), .int .i64 0])) ∧ w = w' := by
  have hlen := h.len
  obtain ⟨g, cap, rfl, _, _, _, hc1, hc2, _, _, _, c3, _⟩ := h.at_ hp.at_
  have hk1 := h.blk.cell 1 _ rfl
  have HB := Lib.hid h.blk
  have hz : (x.birth == 0) = false := by simpa using hp.birth
  have hlt := hp.lt
  have hiI : (i : Int) < (ps.length : Int) := by omega
  have h32 : (i : Int) ≤ 4294967295 := by omega
  have hc : (ps.length : Int) ≤ (cap : Int) := by omega
  clear h hp hlen hc2 hc1 hlt
  go_enter Try.func31, Try.ntmps31
  go_wp2_with (go_at_call 29; refine (logZero_some _ _ _ _ HB.out).mono ?_; rintro e w' ⟨rfl, rfl⟩)
  go_ret2
  exact ⟨fun g' hg => by cases hg; rfl, rfl⟩


set_option maxHeartbeats 400000 in
theorem logAt_none (B b : Nat) (lv : Value) (ps : List (Ent × Value)) (i : Nat) (w : World) (h : LogRep w B b lv ps) (hi : Hasnt ps i) (h32 : (i : Int) ≤ 4294967295) :
    Calls Try.prog 31 #[.pointer (some ⟨b, 0, none⟩), .int .u32 i] w fun e w' => e = .returned (.tuple #[.pointer none, .int .i64 9]) ∧ w = w' := by
  have hlen := h.len
  have HB := Lib.hid h.blk
  by_cases hlt : i < ps.length
  · obtain ⟨g, cap, rfl, _, _, _, hc1, hc2, _, _, _, c3, _⟩ := h.at_ (x := ps[i].1) (v := ps[i].2) (List.getElem?_eq_getElem hlt)
    have hk1 := h.blk.cell 1 _ rfl
    rw [hi ps[i].1 ps[i].2 (List.getElem?_eq_getElem hlt)] at c3
    have hiI : (i : Int) < (ps.length : Int) := by omega
    have hc : (ps.length : Int) ≤ (cap : Int) := by omega
    clear h hi hlen hc2
    go_enter Try.func31, Try.ntmps31
    go_wp2_with (go_at_call 29; refine (logZero_some _ _ _ _ HB.out).mono ?_; rintro e w' ⟨rfl, rfl⟩)
    go_ret2
    exact ⟨rfl, rfl⟩
  · obtain ⟨A, cap, rfl, hc1, hc2⟩ := own_form h.row
    have hk1 := h.blk.cell 1 _ rfl
    have hd : decide ((ps.length : Int) ≤ (i : Int)) = true := decide_eq_true (by omega)
    have hiI : (ps.length : Int) ≤ (i : Int) := by omega
    clear h hi hlen hc2 hc1
    go_enter Try.func31, Try.ntmps31
    go_wp2_with (go_at_call 29; refine (logZero_some _ _ _ _ HB.out).mono ?_; rintro e w' ⟨rfl, rfl⟩)
    go_ret2
    exact ⟨rfl, rfl⟩


/-- A copied entry is returned, with no error. -/
def EntRet (x : Ent) (w : World) (e : Ending) (w' : World) : Prop :=
  ∃ v, e = .returned (.tuple #[.agg #[.string x.key, v, .int .u64 x.dl, .int .u64 x.birth], .int .i64 0]) ∧ w'.ownsRow w.heap.size 5 1 v x.val.length (bcells x.val) ∧ Below w.heap.size w w'

def noEnt (c : Int) : Ending := .returned (.tuple #[.agg #[.string ⟨#[]⟩, .slice none 0 0, .int .u64 0, .int .u64 0], .int .i64 c])


def ZE : Obj := .cells #[.string ⟨#[]⟩, .slice none 0 0, .int .u64 0, .int .u64 0] 31

set_option maxHeartbeats 400000 in
theorem logGet_some (B b : Nat) (lv : Value) (ps : List (Ent × Value)) (i : Nat) (w : World) (x : Ent) (xv : Value) (h : LogRep w B b lv ps) (hp : Has ps i x xv) (hl : x.val.length ≤ 1000000000) :
    Calls Try.prog 16 #[.pointer (some ⟨b, 0, none⟩), .int .u32 i] w (EntRet x w) := by
  have HA := Lib.hid (logAt_some B b lv ps i _ x xv (h.alloc ZE) hp)
  obtain ⟨g, cap, rfl, _, _, hgl, _, _, c0, c1, c2, c3, _⟩ := h.at_ hp.at_
  have hv := h.vals _ hp.mem
  dsimp only at hv
  have HV := Lib.hid hv
  have HL := Lib.hid hl
  clear h hp hl hv
  obtain ⟨A, vc, rfl⟩ := HV.out.form
  go_enter Try.func16, Try.ntmps16
  go_wp2_with fail
  refine HA.out.mono ?_
  rintro e w' ⟨he, rfl⟩
  obtain rfl := he g rfl
  unfold ZE
  go_wp2_with fail
  refine (entryCopy_any B _ _ x.val _ _ _ (HV.out.alloc _) HL.out).mono ?_
  rintro e w2 ⟨v2, rfl, hown, h2⟩
  obtain ⟨A2, vc2, rfl, _, _⟩ := own_form hown
  have b2 := (Blk.new w 31 _).below h2
  have hz := b2.lt
  have HG := Lib.hid (below_own h2)
  have HO := Lib.hid hown
  have l0 := b2.cell 0 _ rfl
  have l1 := b2.cell 1 _ rfl
  have l2 := b2.cell 2 _ rfl
  have l3 := b2.cell 3 _ rfl
  have l4 := b2.frozen
  clear h2 hown b2
  go_wp2_with fail
  refine bodyPost_ret (v := .tuple #[.agg #[.string x.key, .slice A2 x.val.length vc2, .int .u64 x.dl, .int .u64 x.birth], .int .i64 0]) (by simp [results, Try.results16, go_sem, l0, l1, l2, l3, hz]) rfl ⟨_, rfl, ?_, ?_⟩
  · have h3 := ownsRow_setCell_below (ownsRow_setCell_below (ownsRow_setCell_below (ownsRow_setCell_below HO.out (a := ⟨w.heap.size, 0, none⟩) (by simp) (.string x.key)) (a := ⟨w.heap.size, 1, none⟩) (by simp) (.slice A2 x.val.length vc2)) (a := ⟨w.heap.size, 2, none⟩) (by simp) (.int .u64 x.dl)) (a := ⟨w.heap.size, 3, none⟩) (by simp) (.int .u64 x.birth)
    exact ownsRow_base h3 (by simp)
  · exact (((HG.out.setCell (p := ⟨w.heap.size, 0, none⟩) (Nat.le_refl _) _).setCell (p := ⟨w.heap.size, 1, none⟩) (Nat.le_refl _) _).setCell (p := ⟨w.heap.size, 2, none⟩) (Nat.le_refl _) _).setCell (p := ⟨w.heap.size, 3, none⟩) (Nat.le_refl _) _

set_option maxHeartbeats 400000 in
theorem logGet_none (B b : Nat) (lv : Value) (ps : List (Ent × Value)) (i : Nat) (w : World) (h : LogRep w B b lv ps) (hi : Hasnt ps i) (h32 : (i : Int) ≤ 4294967295) :
    Calls Try.prog 16 #[.pointer (some ⟨b, 0, none⟩), .int .u32 i] w fun e w' => e = noEnt 9 ∧ Below w.heap.size w w' := by
  have HA := Lib.hid (logAt_none B b lv ps i _ (h.alloc ZE) hi h32)
  clear h hi h32
  go_enter Try.func16, Try.ntmps16
  go_wp2_with fail
  refine HA.out.mono ?_
  rintro e w' ⟨rfl, rfl⟩
  unfold ZE
  go_wp2_with fail
  exact bodyPost_ret (v := .tuple #[.agg #[.string ⟨#[]⟩, .slice none 0 0, .int .u64 0, .int .u64 0], .int .i64 9]) (by simp [results, Try.results16, go_sem]) rfl ⟨rfl, (Below.refl _ _).alloc (Nat.le_refl _) _⟩

set_option maxHeartbeats 400000 in
theorem logKey_some (B b : Nat) (lv : Value) (ps : List (Ent × Value)) (i : Nat) (w : World) (x : Ent) (xv : Value) (h : LogRep w B b lv ps) (hp : Has ps i x xv) :
    Calls Try.prog 24 #[.pointer (some ⟨b, 0, none⟩), .int .u32 i] w fun e w' => e = .returned (.tuple #[.string x.key, .int .i64 0]) ∧ w = w' := by
  have HA := Lib.hid (logAt_some B b lv ps i _ x xv h hp)
  obtain ⟨g, cap, rfl, _, _, hgl, _, _, c0, c1, c2, c3, _⟩ := h.at_ hp.at_
  clear h hp
  go_enter Try.func24, Try.ntmps24
  go_wp2_with fail
  refine HA.out.mono ?_
  rintro e w' ⟨he, rfl⟩
  obtain rfl := he g rfl
  go_wp2_with fail
  go_ret2
  exact ⟨rfl, rfl⟩

set_option maxHeartbeats 400000 in
theorem logKey_none (B b : Nat) (lv : Value) (ps : List (Ent × Value)) (i : Nat) (w : World) (h : LogRep w B b lv ps) (hi : Hasnt ps i) (h32 : (i : Int) ≤ 4294967295) :
    Calls Try.prog 24 #[.pointer (some ⟨b, 0, none⟩), .int .u32 i] w fun e w' => e = .returned (.tuple #[.string ⟨#[]⟩, .int .i64 9]) ∧ w = w' := by
  have HA := Lib.hid (logAt_none B b lv ps i _ h hi h32)
  clear h hi h32
  go_enter Try.func24, Try.ntmps24
  go_wp2_with fail
  refine HA.out.mono ?_
  rintro e w' ⟨rfl, rfl⟩
  go_wp2_with fail
  go_ret2
  exact ⟨rfl, rfl⟩

set_option maxHeartbeats 400000 in
theorem logSet_none (B b : Nat) (lv : Value) (ps : List (Ent × Value)) (i : Nat) (v : Value) (d : Int) (w : World) (h : LogRep w B b lv ps) (hi : Hasnt ps i) (h32 : (i : Int) ≤ 4294967295) :
    Calls Try.prog 12 #[.pointer (some ⟨b, 0, none⟩), .int .u32 i, v, .int .u64 d] w fun e w' => e = .returned (.int .i64 9) ∧ w = w' := by
  have HA := Lib.hid (logAt_none B b lv ps i _ h hi h32)
  clear h hi h32
  go_enter Try.func12, Try.ntmps12
  go_wp2_with fail
  refine HA.out.mono ?_
  rintro e w' ⟨rfl, rfl⟩
  go_wp2_with fail
  go_ret
  exact ⟨rfl, rfl⟩

set_option maxHeartbeats 400000 in
theorem logSet_long (B b : Nat) (lv : Value) (ps : List (Ent × Value)) (i : Nat) (v : Value) (bs : List UInt8) (d : Int) (w : World) (x : Ent) (xv : Value) (h : LogRep w B b lv ps) (hp : Has ps i x xv) (hb : Bts w B 5 v bs) (hl : 65536 < bs.length) :
    Calls Try.prog 12 #[.pointer (some ⟨b, 0, none⟩), .int .u32 i, v, .int .u64 d] w fun e w' => e = .returned (.int .i64 5) ∧ w = w' := by
  have HA := Lib.hid (logAt_some B b lv ps i _ x xv h hp)
  obtain ⟨g, cap, rfl, _, _, hgl, _, _, c0, c1, c2, c3, _⟩ := h.at_ hp.at_
  obtain ⟨A, vc, rfl⟩ := hb.form
  have hd : decide ((65536 : Int) < (bs.length : Int)) = true := decide_eq_true (by omega)
  clear h hp hb hl
  go_enter Try.func12, Try.ntmps12
  go_wp2_with fail
  refine HA.out.mono ?_
  rintro e w' ⟨he, rfl⟩
  obtain rfl := he g rfl
  go_wp2_with fail
  go_ret
  exact ⟨rfl, rfl⟩

/-- A log whose entry i is another one. -/
theorem set_close {B b g cap : Nat} {ps : List (Ent × Value)} {w w1 : World} {i : Nat} (hi : i < ps.length) (x : Ent) (v : Value) (live : Int)
    (h : LogRep w1 B b (.slice (some ⟨g, 0, none⟩) ps.length cap) ps)
    (hrow : w.ownsRow B 31 4 (.slice (some ⟨g, 0, none⟩) ps.length cap) ps.length (ecs (ps.set i (x, v))))
    (hblk : Blk w b 62 #[.bool true, .slice (some ⟨g, 0, none⟩) ps.length cap, .int .i64 live]) (hlive : live = (liveN (ps.set i (x, v)) : Int))
    (ho : Only (logFp b (.slice (some ⟨g, 0, none⟩) ps.length cap)) w1 w) (hv : Bts w1 B 5 v x.val) :
    LogRep w B b (.slice (some ⟨g, 0, none⟩) ps.length cap) (ps.set i (x, v)) := by
  have hk := h.keepB ho
  refine ⟨by rw [← hlive]; exact hblk, by rw [List.length_set]; exact hrow, ?_, h.base, by rw [List.length_set]; exact h.len⟩
  intro p hp
  rcases List.mem_or_eq_of_mem_set hp with hp | hp
  · exact (h.vals p hp).keep hk
  · subst hp
    exact hv.keep hk

theorem liveN_set_same (ps : List (Ent × Value)) (i : Nat) (hi : i < ps.length) (x : Ent) (v : Value) (h : ps[i].1.birth ≠ 0) (hx : x.birth ≠ 0) : liveN (ps.set i (x, v)) = liveN ps := by
  induction ps generalizing i with
  | nil => simp at hi
  | cons p ps ih =>
    cases i with
    | zero =>
      simp only [List.set_cons_zero, List.getElem_cons_zero] at h ⊢
      simp [liveN, h, hx]
    | succ i =>
      have := ih i (by simpa using hi) (by simpa using h)
      simp only [liveN] at this
      simp only [List.set_cons_succ, liveN, List.filter_cons]
      split <;> simp [this]

theorem liveN_set_zero (ps : List (Ent × Value)) (i : Nat) (hi : i < ps.length) (x : Ent) (v : Value) (h : ps[i].1.birth ≠ 0) (hx : x.birth = 0) : liveN (ps.set i (x, v)) + 1 = liveN ps := by
  induction ps generalizing i with
  | nil => simp at hi
  | cons p ps ih =>
    cases i with
    | zero =>
      simp only [List.set_cons_zero, List.getElem_cons_zero] at h ⊢
      simp [liveN, h, hx]
    | succ i =>
      have := ih i (by simpa using hi) (by simpa using h)
      simp only [liveN] at this
      simp only [List.set_cons_succ, liveN, List.filter_cons]
      split
      · simp only [List.length_cons]; omega
      · exact this

theorem set_row {w : World} {B g n cap i j : Nat} {ps : List (Ent × Value)} {p q : Ent × Value} {u : Value} (h : w.ownsRow B 31 4 (.slice (some ⟨g, 0, none⟩) n cap) n (ecs ps)) (hp : ps[i]? = some p) (hj : j < 4)
    (hq : ecells q = (ecells p).set j u) : (w.setCell ⟨g, i * 4 + j, none⟩ u).ownsRow B 31 4 (.slice (some ⟨g, 0, none⟩) n cap) n (ecs (ps.set i q)) := by
  obtain ⟨hi, hx⟩ := List.getElem?_eq_some_iff.1 hp
  have := (h.stored (i * 4 + j) u).1
  rwa [ecs_set ps i j q u hi hj (by rw [hx]; exact hq)] at this

theorem set2_close {B b g cap i : Nat} {ps : List (Ent × Value)} {w1 : World} {x : Ent} {xv v : Value} {bs : List UInt8} {d : Int} {n0 : Nat} (h : LogRep w1 B b (.slice (some ⟨g, 0, none⟩) ps.length cap) ps) (hp : Has ps i x xv)
    (hv : w1.ownsRow n0 5 1 v bs.length (bcells bs)) :
    LogRep ((w1.setCell ⟨g, i * 4 + 1, none⟩ v).setCell ⟨g, i * 4 + 2, none⟩ (.int .u64 d)) B b (.slice (some ⟨g, 0, none⟩) ps.length cap) (ps.set i (⟨x.key, bs, d, x.birth⟩, v)) ∧
      Only (logFp b (.slice (some ⟨g, 0, none⟩) ps.length cap)) w1 ((w1.setCell ⟨g, i * 4 + 1, none⟩ v).setCell ⟨g, i * 4 + 2, none⟩ (.int .u64 d)) := by
  have ho : Only (logFp b (.slice (some ⟨g, 0, none⟩) ps.length cap)) w1 ((w1.setCell ⟨g, i * 4 + 1, none⟩ v).setCell ⟨g, i * 4 + 2, none⟩ (.int .u64 d)) :=
    ((Only.refl _ w1).setCell (p := ⟨g, i * 4 + 1, none⟩) (.inl (.inr rfl)) _).setCell (p := ⟨g, i * 4 + 2, none⟩) (.inl (.inr rfl)) _
  have hgb : b ≠ g := fun e => by
    obtain ⟨_, cur, h2⟩ := row_block h.row (k := g) rfl
    exact (h.blk.ne_ h2 (by decide)) e
  refine ⟨set_close hp.lt _ _ _ h ?_ ((h.blk.far (p := ⟨g, i * 4 + 1, none⟩) hgb _).far (p := ⟨g, i * 4 + 2, none⟩) hgb _) ?_ ho (Bts.of_own hv B), ho⟩
  · have r1 := set_row (q := (⟨x.key, bs, x.dl, x.birth⟩, v)) h.row hp.at_ (show 1 < 4 by decide) (u := v) rfl
    have hg : (ps.set i ((⟨x.key, bs, x.dl, x.birth⟩ : Ent), v))[i]? = some (⟨x.key, bs, x.dl, x.birth⟩, v) := by simp [hp.lt]
    have r2 := set_row (q := (⟨x.key, bs, d, x.birth⟩, v)) r1 hg (show 2 < 4 by decide) (u := .int .u64 d) rfl
    rwa [List.set_set] at r2
  · rw [liveN_set_same ps i hp.lt ⟨x.key, bs, d, x.birth⟩ v (by rw [hp.eq]; exact hp.birth) hp.birth]

theorem set4_close {B b g cap i : Nat} {ps : List (Ent × Value)} {w1 : World} {x : Ent} {xv : Value} (h : LogRep w1 B b (.slice (some ⟨g, 0, none⟩) ps.length cap) ps) (hp : Has ps i x xv) :
    LogRep (((((w1.setCell ⟨g, i * 4, none⟩ (.string ⟨#[]⟩)).setCell ⟨g, i * 4 + 1, none⟩ (.slice none 0 0)).setCell ⟨g, i * 4 + 2, none⟩ (.int .u64 0)).setCell ⟨g, i * 4 + 3, none⟩ (.int .u64 0)).setCell ⟨b, 2, none⟩ (.int .i64 ((liveN ps : Int) - 1))) B b (.slice (some ⟨g, 0, none⟩) ps.length cap) (ps.set i (zent, .slice none 0 0)) ∧
      Only (logFp b (.slice (some ⟨g, 0, none⟩) ps.length cap)) w1 (((((w1.setCell ⟨g, i * 4, none⟩ (.string ⟨#[]⟩)).setCell ⟨g, i * 4 + 1, none⟩ (.slice none 0 0)).setCell ⟨g, i * 4 + 2, none⟩ (.int .u64 0)).setCell ⟨g, i * 4 + 3, none⟩ (.int .u64 0)).setCell ⟨b, 2, none⟩ (.int .i64 ((liveN ps : Int) - 1))) := by
  have ho : Only (logFp b (.slice (some ⟨g, 0, none⟩) ps.length cap)) w1 (((((w1.setCell ⟨g, i * 4, none⟩ (.string ⟨#[]⟩)).setCell ⟨g, i * 4 + 1, none⟩ (.slice none 0 0)).setCell ⟨g, i * 4 + 2, none⟩ (.int .u64 0)).setCell ⟨g, i * 4 + 3, none⟩ (.int .u64 0)).setCell ⟨b, 2, none⟩ (.int .i64 ((liveN ps : Int) - 1))) :=
    (((((Only.refl _ w1).setCell (p := ⟨g, i * 4, none⟩) (.inl (.inr rfl)) _).setCell (p := ⟨g, i * 4 + 1, none⟩) (.inl (.inr rfl)) _).setCell (p := ⟨g, i * 4 + 2, none⟩) (.inl (.inr rfl)) _).setCell (p := ⟨g, i * 4 + 3, none⟩) (.inl (.inr rfl)) _).setCell (p := ⟨b, 2, none⟩) (.inl (.inl rfl)) _
  have hgb : b ≠ g := fun e => by
    obtain ⟨_, cur, h2⟩ := row_block h.row (k := g) rfl
    exact (h.blk.ne_ h2 (by decide)) e
  refine ⟨set_close hp.lt _ _ ((liveN ps : Int) - 1) h ?_ (((((h.blk.far (p := ⟨g, i * 4, none⟩) hgb _).far (p := ⟨g, i * 4 + 1, none⟩) hgb _).far (p := ⟨g, i * 4 + 2, none⟩) hgb _).far (p := ⟨g, i * 4 + 3, none⟩) hgb _).set_ 2 _) ?_ ho (Bts.nil w1 B _), ho⟩
  · have hg : ∀ p : Ent × Value, (ps.set i p)[i]? = some p := fun p => by simp [hp.lt]
    have r1 := set_row (j := 0) (q := (⟨⟨#[]⟩, x.val, x.dl, x.birth⟩, xv)) h.row hp.at_ (by decide) (u := .string ⟨#[]⟩) rfl
    have r2 := set_row (j := 1) (q := (⟨⟨#[]⟩, [], x.dl, x.birth⟩, .slice none 0 0)) r1 (hg _) (by decide) (u := .slice none 0 0) rfl
    rw [List.set_set] at r2
    have r3 := set_row (j := 2) (q := (⟨⟨#[]⟩, [], 0, x.birth⟩, .slice none 0 0)) r2 (hg _) (by decide) (u := .int .u64 0) rfl
    rw [List.set_set] at r3
    have r4 := set_row (j := 3) (q := (zent, .slice none 0 0)) r3 (hg _) (by decide) (u := .int .u64 0) rfl
    rw [List.set_set] at r4
    exact ownsRow_setCell_other r4 (a := ⟨b, 2, none⟩) (fun e => hgb (by injection e with e; exact e.symm)) _
  · have := liveN_set_zero ps i hp.lt zent (.slice none 0 0) (by rw [hp.eq]; exact hp.birth) rfl
    omega

set_option maxHeartbeats 400000 in
theorem logSet_ok (B b : Nat) (lv : Value) (ps : List (Ent × Value)) (i : Nat) (v : Value) (bs : List UInt8) (d : Int) (w : World) (x : Ent) (xv : Value) (h : LogRep w B b lv ps) (hp : Has ps i x xv) (hb : Bts w B 5 v bs) (hl : bs.length ≤ 65536) :
    Calls Try.prog 12 #[.pointer (some ⟨b, 0, none⟩), .int .u32 i, v, .int .u64 d] w fun e w' => e = .returned (.int .i64 0) ∧
      ∃ v', LogRep w' B b lv (ps.set i (⟨x.key, bs, d, x.birth⟩, v')) ∧ Only (logFp b lv) w w' ∧ (∀ k, v'.ownBlock = some k → w.heap.size ≤ k) := by
  have HA := Lib.hid (logAt_some B b lv ps i _ x xv h hp)
  have HR := Lib.hid h
  obtain ⟨g, cap, rfl, hBg, hgb, hgl, _, _, c0, c1, c2, c3, hf⟩ := h.at_ hp.at_
  obtain ⟨A, vc, rfl⟩ := hb.form
  have hd : decide ((65536 : Int) < (bs.length : Int)) = false := decide_eq_false (by omega)
  have HB := Lib.hid hb
  have HL : Hid (bs.length ≤ 1000000000) := Lib.hid (by omega)
  have HP := Lib.hid hp
  clear h hp hb hl
  go_enter Try.func12, Try.ntmps12
  go_wp2_with fail
  refine HA.out.mono ?_
  rintro e w' ⟨he, rfl⟩
  obtain rfl := he g rfl
  go_wp2_with fail
  refine (bytesClone_any B _ bs _ HB.out HL.out).mono ?_
  rintro e w1 ⟨v1, rfl, hown, h1⟩
  obtain ⟨A1, c4, rfl, hx1, hx2⟩ := own_form hown
  clear hx1 hx2
  have HR1 := Lib.hid (HR.out.below h1)
  obtain ⟨g', cap', e', _, _, hgl1, _, _, k0, k1, k2, k3, kf⟩ := HR1.out.at_ HP.out.at_
  injection e' with e1 _ e3
  injection e1 with e1
  injection e1 with e1
  subst e1 e3
  have HG := Lib.hid h1
  have HO := Lib.hid hown
  clear h1 hown
  go_wp2_with fail
  go_ret
  have hc := set2_close (d := d) HR1.out HP.out HO.out
  exact ⟨rfl, _, hc.1, (Only.of_below HG.out).trans hc.2 (fun _ _ h => h), fun k hk => (row_block HO.out hk).1⟩

set_option maxHeartbeats 400000 in
theorem logRemove_none (B b : Nat) (lv : Value) (ps : List (Ent × Value)) (i : Nat) (w : World) (h : LogRep w B b lv ps) (hi : Hasnt ps i) (h32 : (i : Int) ≤ 4294967295) :
    Calls Try.prog 15 #[.pointer (some ⟨b, 0, none⟩), .int .u32 i] w fun e w' => e = noEnt 9 ∧ Below w.heap.size w w' := by
  have HA := Lib.hid (logAt_none B b lv ps i _ (h.alloc ZE) hi h32)
  clear h hi h32
  go_enter Try.func15, Try.ntmps15
  go_wp2_with fail
  refine HA.out.mono ?_
  rintro e w' ⟨rfl, rfl⟩
  unfold ZE
  go_wp2_with fail
  exact bodyPost_ret (v := .tuple #[.agg #[.string ⟨#[]⟩, .slice none 0 0, .int .u64 0, .int .u64 0], .int .i64 9]) (by simp [results, Try.results15, go_sem]) rfl ⟨rfl, (Below.refl _ _).alloc (Nat.le_refl _) _⟩

set_option maxHeartbeats 800000 in
theorem logRemove_ok (B b : Nat) (lv : Value) (ps : List (Ent × Value)) (i : Nat) (w : World) (x : Ent) (xv : Value) (h : LogRep w B b lv ps) (hp : Has ps i x xv) (hl : x.val.length ≤ 1000000000) :
    Calls Try.prog 15 #[.pointer (some ⟨b, 0, none⟩), .int .u32 i] w fun e w' =>
      ∃ v, e = .returned (.tuple #[.agg #[.string x.key, v, .int .u64 x.dl, .int .u64 x.birth], .int .i64 0]) ∧ w'.ownsRow w.heap.size 5 1 v x.val.length (bcells x.val) ∧
        LogRep w' B b lv (ps.set i (zent, .slice none 0 0)) ∧ Only (logFp b lv) w w' := by
  have HA := Lib.hid (logAt_some B b lv ps i _ x xv (h.alloc ZE) hp)
  have HR := Lib.hid h
  have hblt := h.blk.lt
  obtain ⟨g, cap, rfl, hBg, hgb, hgl, _, _, c0, c1, c2, c3, hf⟩ := h.at_ hp.at_
  have hv := h.vals _ hp.mem
  dsimp only at hv
  have HV := Lib.hid hv
  have HL := Lib.hid hl
  have HP := Lib.hid hp
  clear h hp hl hv
  obtain ⟨A, vc, rfl⟩ := HV.out.form
  go_enter Try.func15, Try.ntmps15
  go_wp2_with fail
  refine HA.out.mono ?_
  rintro e w' ⟨he, rfl⟩
  obtain rfl := he g rfl
  unfold ZE
  go_wp2_with fail
  refine (entryCopy_any B _ _ x.val _ _ _ (HV.out.alloc _) HL.out).mono ?_
  rintro e w2 ⟨v2, rfl, hown, h2⟩
  obtain ⟨A2, vc2, rfl, hx1, hx2⟩ := own_form hown
  clear hx1 hx2
  have b2 := (Blk.new w 31 _).below h2
  have hz := b2.lt
  have HG := Lib.hid (below_own h2)
  have HR2 := Lib.hid (HR.out.below HG.out)
  obtain ⟨g', cap', e', _, _, hgl2, _, _, k0, k1, k2, k3, kf⟩ := HR2.out.at_ HP.out.at_
  injection e' with e1 _ e3
  injection e1 with e1
  injection e1 with e1
  subst e1 e3
  have q2 := HR2.out.blk.cell 2 _ rfl
  have qf := HR2.out.blk.frozen
  have HO := Lib.hid hown
  have HB2 := Lib.hid b2
  have l0 := b2.cell 0 _ rfl
  have l1 := b2.cell 1 _ rfl
  have l2 := b2.cell 2 _ rfl
  have l3 := b2.cell 3 _ rfl
  have l4 := b2.frozen
  have hb2 : b < w2.heap.size := HR2.out.blk.lt
  clear h2 hown b2 c0 c1 c2 c3 hf
  go_wp2_with fail
  rw [IntWalk.wrap64_in ((liveN ps : Int) - 1) (by have := liveN_le ps; have := HR.out.len; omega)]
  have hcl := set4_close HR2.out HP.out
  refine bodyPost_ret (v := .tuple #[.agg #[.string x.key, .slice A2 x.val.length vc2, .int .u64 x.dl, .int .u64 x.birth], .int .i64 0]) (by simp [results, Try.results15, go_sem, l0, l1, l2, l3, hz]) rfl ?_
  generalize hW5 : (((((w2.setCell ⟨g, i * 4, none⟩ (.string ⟨#[]⟩)).setCell ⟨g, i * 4 + 1, none⟩ (.slice none 0 0)).setCell ⟨g, i * 4 + 2, none⟩ (.int .u64 0)).setCell ⟨g, i * 4 + 3, none⟩ (.int .u64 0)).setCell ⟨b, 2, none⟩ (.int .i64 ((liveN ps : Int) - 1))) = W5 at *
  have ho5 := hcl.2
  have hnfp : ¬ logFp b (.slice (some ⟨g, 0, none⟩) ps.length cap) w.heap.size := fun e => by
    rcases e with e | e
    · omega
    · injection e with e; have : g = w.heap.size := e; omega
  have hbn : Blk W5 w.heap.size 31 _ := HB2.out.only ho5 hnfp
  have hz5 : w2.heap.size ≤ W5.heap.size := ho5.size
  have hon : Only (fun k => k = w.heap.size) W5 (((((W5.setCell ⟨w.heap.size, 0, none⟩ (.string x.key)).setCell ⟨w.heap.size, 1, none⟩ (.slice A2 x.val.length vc2)).setCell ⟨w.heap.size, 2, none⟩ (.int .u64 x.dl)).setCell ⟨w.heap.size, 3, none⟩ (.int .u64 x.birth)).alloc (.cells #[.string x.key, .slice A2 x.val.length vc2, .int .u64 x.dl, .int .u64 x.birth] 31)) :=
    (((((Only.refl (fun k => k = w.heap.size) W5).setCell (p := ⟨w.heap.size, 0, none⟩) (.inl rfl) _).setCell (p := ⟨w.heap.size, 1, none⟩) (.inl rfl) _).setCell (p := ⟨w.heap.size, 2, none⟩) (.inl rfl) _).setCell (p := ⟨w.heap.size, 3, none⟩) (.inl rfl) _).alloc _
  have hkn := KeepB.of_only (B := B) (U := 5) hon (fun k _ hk => ⟨by rw [hk]; have := HR.out.base; omega, fun c fr e => by
    rw [hk] at e; unfold Blk at hbn; rw [hbn] at e; injection e with e; injection e with _ e; exact absurd e (by decide)⟩)
  refine ⟨_, rfl, ?_, hcl.1.only hon (fun k hk e => by rw [e] at hk; exact hnfp hk) hkn, ?_⟩
  · have o5 := ownsRow_only HO.out ho5 (fun k hk e => by
      have h1 := (row_block HO.out hk).1
      simp at h1
      rcases e with e | e
      · omega
      · injection e with e; have : g = k := e; omega)
    exact ownsRow_base (ownsRow_only o5 hon (fun k hk e => by
      have h1 := (row_block HO.out hk).1
      simp at h1
      omega)) (by simp)
  · have h25 : Only (fun k => logFp b (.slice (some ⟨g, 0, none⟩) ps.length cap) k ∨ k = w.heap.size) w2 _ := (ho5.mono (fun _ _ h => .inl h)).trans hon (fun _ _ h => .inr h)
    exact (Only.of_below HG.out).trans h25 (fun k hk h => by
      rcases h with h | h
      · exact h
      · omega)

end Go.Proofs.Ytjjhndhigkhkpaa
