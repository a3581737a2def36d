/- The laws' argument of layer 13: a slice of calls; few. -/
import Derived.Test.YtookfhmghchkjaaArgsB
import Derived.Deep.Slices
import Derived.Deep.Strs
import Derived.BigQuiet
import Derived.Deep.QuietTactic
import Derived.WalkKit
import Derived.Lib.Hide
namespace Go.Proofs.Ytookfhmghchkjaa
open Go Go.RowKit Go.Joins Go.ChangeShapes Go.WideShapes Go.Deep

structure ActS where
  what : Int
  K : Int
  N : Int
  bs : List UInt8
  v : Value

def ActS.cells (a : ActS) : List Value := [.int .i64 a.what, .int .i64 a.K, .int .i64 a.N, a.v]

structure ActS.Ok (w : World) (B : Nat) (a : ActS) : Prop where
  val : Bts w B 5 a.v a.bs
  wk : (Lit.int .i64 a.K).wf = true
  wn : (Lit.int .i64 a.N).wf = true

section
variable {H : Type} {enc : TypeId × Value → H} {w : World}

set_option maxRecDepth 100000 in
theorem open_cell_cells {n : Nat} {cs : List Value} {y : DataW H × List MemPlace} (hl : cs.length = 2) (h : DataW.trod enc Try.prog w 0 (fun _ => true) true n 38 cs = some y) :
    ∃ K N : Int, cs = [.int .i64 K, .int .i64 N] ∧ (Lit.int .i64 K).wf = true ∧ (Lit.int .i64 N).wf = true := by
  obtain ⟨y0, y1, m, _, _, h0, h1⟩ := trod_struct2 Try.underlying38 h
  have c0 : Try.prog.cellsOf 3 = 1 := by kernel_rfl
  match cs, hl with
  | [x0, x1], _ =>
    simp [c0] at h0 h1
    obtain ⟨K, e0, k1, k2⟩ := DataW.trod_int Try.underlying3 h0
    obtain ⟨N, e1, n1, n2⟩ := DataW.trod_int Try.underlying3 h1
    injection e0 with e0 _
    injection e1 with e1 _
    subst e0 e1
    exact ⟨K, N, rfl, by first | exact k2 | exact k1, by first | exact n2 | exact n1⟩

set_option maxRecDepth 100000 in
theorem open_act_cells {n : Nat} {cs : List Value} {y : DataW H × List MemPlace} (hl : cs.length = 4) (h : DataW.trod enc Try.prog w 0 (fun _ => true) true n 41 cs = some y) :
    ∃ a : ActS, cs = a.cells ∧ a.Ok w w.heap.size := by
  obtain ⟨y0, y1, y2, m, _, _, h0, h1, h2⟩ := trod_struct3 Try.underlying41 h
  have c0 : Try.prog.cellsOf 3 = 1 := by kernel_rfl
  have c1 : Try.prog.cellsOf 38 = 2 := by kernel_rfl
  have c2 : Try.prog.cellsOf 39 = 1 := by kernel_rfl
  match cs, hl with
  | [x0, x1, x2, x3], _ =>
    simp [c0, c1, c2] at h0 h1 h2
    obtain ⟨what, e0, _, _⟩ := DataW.trod_int Try.underlying3 h0
    obtain ⟨K, N, e1, wk, wn⟩ := open_cell_cells rfl h1
    obtain ⟨bs, hb⟩ := open_bts Try.underlying39 Try.underlying5 (by kernel_rfl) h2 5
    injection e0 with e0 _
    subst e0
    simp only [List.cons.injEq, and_true] at e1
    obtain ⟨rfl, rfl⟩ := e1
    exact ⟨⟨what, K, N, bs, x3⟩, rfl, ⟨hb, wk, wn⟩⟩
end

theorem list_choose {α : Type} {p : Nat → α → Prop} : ∀ n, (∀ i, i < n → ∃ a, p i a) → ∃ l : List α, l.length = n ∧ ∀ i (h : i < l.length), p i l[i]
  | 0, _ => ⟨[], rfl, fun i h => by simp at h⟩
  | n + 1, h => by
    obtain ⟨l, hl, hp⟩ := list_choose n (fun i hi => h i (by omega))
    obtain ⟨a, ha⟩ := h n (by omega)
    refine ⟨l ++ [a], by simp [hl], fun i hi => ?_⟩
    rcases Nat.lt_or_ge i l.length with h1 | h1
    · rw [List.getElem_append_left h1]; exact hp i h1
    · have : i = l.length := by simp at hi; omega
      subst this
      rw [List.getElem_append_right (Nat.le_refl _)]
      simpa [hl] using ha

/-- A slice of calls in memory. -/
structure Acts (w : World) (B : Nat) (v : Value) (ls : List ActS) : Prop where
  row : ∃ A cap, v = .slice A ls.length cap ∧ ls.length ≤ cap ∧ cap ≤ maxLen ∧ (0 < ls.length → ∃ b off, A = some ⟨b, off, none⟩ ∧ b < B ∧ ∀ i (hi : i < ls.length) j, j < 4 → w.cell? ⟨b, off + i * 4 + j, none⟩ = (ls[i].cells)[j]?)
  each : ∀ a ∈ ls, a.Ok w B
  base : B ≤ w.heap.size

theorem ActS.Ok.below {w w' : World} {B : Nat} {a : ActS} (h : a.Ok w B) (hb : Below w.heap.size w w') : a.Ok w' B := ⟨h.val.below hb, h.wk, h.wn⟩
theorem ActS.Ok.keep {w w' : World} {B : Nat} {a : ActS} (h : a.Ok w B) (hb : KeepB B 5 w w') : a.Ok w' B := ⟨h.val.keep hb, h.wk, h.wn⟩

theorem Acts.kept {w w' : World} {B : Nat} {v : Value} {ls : List ActS} (h : Acts w B v ls) (hb : Below B w w') (hk : KeepB B 5 w w') : Acts w' B v ls := by
  obtain ⟨A, cap, hv, h1, h2, h3⟩ := h.row
  refine ⟨⟨A, cap, hv, h1, h2, fun h0 => ?_⟩, fun a ha => (h.each a ha).keep hk, Nat.le_trans h.base hb.size⟩
  obtain ⟨b, off, hA, hbB, hc⟩ := h3 h0
  exact ⟨b, off, hA, hbB, fun i hi j hj => by rw [hb.cell (p := ⟨b, off + i * 4 + j, none⟩) hbB]; exact hc i hi j hj⟩

theorem Acts.below {w w' : World} {B : Nat} {v : Value} {ls : List ActS} (h : Acts w B v ls) (hb : Below w.heap.size w w') : Acts w' B v ls := h.kept (hb.mono h.base) (KeepB.of_below hb)

theorem open_acts {H : Type} {enc : TypeId × Value → H} {w : World} {v : Value} {d : DataW H} {p : List MemPlace} (hv : ∃ A l c, v = .slice A l c) (h : DataW.Trod enc Try.prog w 0 (fun _ => true) true 31 v d p) :
    ∃ ls : List ActS, Acts w w.heap.size v ls := by
  obtain ⟨A, l, c, rfl⟩ := hv
  obtain ⟨fuel, hf⟩ := h
  have c6 : Try.prog.cellsOf 41 = 4 := by kernel_rfl
  rcases open_slice Try.underlying31 hf with ⟨hcs, _⟩ | ⟨a, len, cap, m, n, D, Pl, hcs, _, hl, hm, hmm, _, hi⟩
  · simp [Value.cells] at hcs
    obtain ⟨rfl, rfl, rfl⟩ := hcs
    exact ⟨[], ⟨none, 0, rfl, Nat.le_refl _, Nat.zero_le _, fun h => by simp at h⟩, by simp, Nat.le_refl _⟩
  · simp [Value.cells] at hcs
    obtain ⟨rfl, rfl, rfl⟩ := hcs
    simp only [if_true] at hmm
    rw [c6] at hi
    obtain ⟨ls, hlen, has⟩ := list_choose (p := fun i (x : ActS) => (∀ j, j < 4 → w.cell? ((a.add (i * 4)).add j) = x.cells[j]?) ∧ x.Ok w w.heap.size) l (fun i hil => by
      obtain ⟨cs', hc, ht⟩ := hi i (by omega)
      obtain ⟨_, hcl, hat⟩ := World.cells?_some hc
      obtain ⟨x, rfl, hx⟩ := open_act_cells hcl ht
      exact ⟨x, hat, hx⟩)
    refine ⟨ls, ⟨some a, c, by rw [hlen], by omega, hm, fun h0 => ?_⟩, fun x hx => ?_, Nat.le_refl _⟩
    · have h1 := (has 0 h0).1 0 (by omega)
      rw [Nat.zero_mul] at h1
      have ha0 : a.add 0 = a := by simp [Addr.add]
      rw [ha0, ha0] at h1
      obtain ⟨b, off, spot⟩ := a
      have h1' : w.cell? ⟨b, off, spot⟩ = some (.int .i64 ls[0].what) := h1
      have hs : spot = none := by
        cases spot with
        | none => rfl
        | some s =>
          unfold World.cell? at h1'
          split at h1'
          · simp at h1'
          · cases h1'
      subst hs
      refine ⟨b, off, rfl, block_lt_of_cell h1', fun i hi j hj => ?_⟩
      have := (has i hi).1 j hj
      rwa [add_plain, add_plain] at this
    · obtain ⟨i, hi, rfl⟩ := List.getElem_of_mem hx
      exact (has i hi).2

theorem Acts.at_ {w : World} {B : Nat} {v : Value} {ls : List ActS} (h : Acts w B v ls) {i : Nat} {a : ActS} (hi : ls[i]? = some a) :
    ∃ b off cap, v = .slice (some ⟨b, off, none⟩) ls.length cap ∧ ls.length ≤ cap ∧ b < B ∧ w.cell? ⟨b, off + i * 4, none⟩ = some (.int .i64 a.what) ∧ w.cell? ⟨b, off + i * 4 + 1, none⟩ = some (.int .i64 a.K) ∧ w.cell? ⟨b, off + i * 4 + 2, none⟩ = some (.int .i64 a.N) ∧
      w.cell? ⟨b, off + i * 4 + 3, none⟩ = some a.v ∧ a.Ok w B := by
  obtain ⟨hl, ha⟩ := List.getElem?_eq_some_iff.1 hi
  obtain ⟨A, cap, hv, h1, h2, h3⟩ := h.row
  obtain ⟨b, off, hA, hb, hc⟩ := h3 (by omega)
  have hc := hc i hl
  rw [ha] at hc
  exact ⟨b, off, cap, by rw [hv, hA], h1, hb, hc 0 (by omega), hc 1 (by omega), hc 2 (by omega), hc 3 (by omega), h.each a (ha ▸ List.getElem_mem hl)⟩

def okS (a : ActS) : Bool := decide (a.bs.length ≤ 3000)
def fewB (ls : List ActS) : Bool := decide (ls.length ≤ 60) && ls.all okS

theorem fewB_bad {ls : List ActS} {i : Nat} {a : ActS} (hi : ls[i]? = some a) (h : okS a = false) : fewB ls = false := by
  obtain ⟨hl, ha⟩ := List.getElem?_eq_some_iff.1 hi
  unfold fewB
  rw [Bool.and_eq_false_iff]
  right
  rw [List.all_eq_false]
  exact ⟨a, ha ▸ List.getElem_mem hl, by simp [h]⟩

theorem fewB_is {ls : List ActS} (h : fewB ls = true) : ls.length ≤ 60 ∧ ∀ a ∈ ls, a.bs.length ≤ 3000 := by
  unfold fewB at h
  rw [Bool.and_eq_true, List.all_eq_true] at h
  refine ⟨of_decide_eq_true h.1, fun a ha => ?_⟩
  have := h.2 a ha
  simpa [okS] using this

set_option maxHeartbeats 1000000 in
theorem few_any (w : World) (B : Nat) (v : Value) (ls : List ActS) (h : Acts w B v ls) :
    Calls Try.prog 13 #[v] w fun e w' => e = .returned (.bool (fewB ls)) ∧ w = w' := by
  have HA := Lib.hid h
  obtain ⟨A, cap, rfl, hc1, hc2, _⟩ := h.row
  have hn : (ls.length : Int) ≤ 9223372036854775807 := by unfold maxLen at hc2; omega
  clear h hc2
  go_enter Try.func13, Try.ntmps13
  go_wp2_with fail
  go_loop [3] (fun x => ∃ k : Nat, k ≤ ls.length ∧ k ≤ 61 ∧ x = .int .i64 k ∧ ∀ i a, i < k → ls[i]? = some a → okS a = true) (fun x => 61 - (intOf x).toNat)
  case atStart => exact ⟨0, by omega, by omega, rfl, fun i a h => by omega⟩
  case round =>
    obtain ⟨k, hk1, hk2, rfl, hok⟩ := hrel
    have HOk := Lib.hid hok
    clear hok
    by_cases hkl : k < ls.length
    · by_cases hk6 : k < 61
      · obtain ⟨a, ha⟩ : ∃ a, ls[k]? = some a := ⟨_, List.getElem?_eq_getElem hkl⟩
        obtain ⟨b, off, cap', e, _, _, c0, c1, c2, c3, hao⟩ := HA.out.at_ ha
        injection e with e1 el e3
        subst e1 e3
        obtain ⟨A', vc, hv'⟩ := hao.val.form
        rw [hv'] at c3
        have hvs := hao.val.le
        have hklI : (k : Int) < (ls.length : Int) := by omega
        have hcI : (ls.length : Int) ≤ (cap : Int) := by omega
        have hk6I : (k : Int) < 61 := by omega
        have HAa := Lib.hid ha
        clear ha hao hv' c0 c1 c2 el
        by_cases hvv : 3000 < a.bs.length
        · have hd2 : (3000 : Int) < (a.bs.length : Int) := by omega
          go_wp2_with fail
          go_ret
          exact ⟨by rw [fewB_bad HAa.out (by simp [okS]; omega)]; rfl, rfl⟩
        · have hd2 : ¬ (3000 : Int) < (a.bs.length : Int) := by omega
          go_wp2_with fail
          go_round
          case rel => exact ⟨k + 1, by omega, by omega, by go_num, fun i x hi hx => by
            rcases Nat.lt_or_ge i k with h1 | h1
            · exact HOk.out i x h1 hx
            · obtain rfl : i = k := by omega
              rw [HAa.out] at hx
              injection hx with hx
              subst hx
              simp [okS]
              omega⟩
          case measure => simp [intOf]; omega
      · obtain rfl : k = 61 := by omega
        have hklI : (61 : Int) < (ls.length : Int) := by omega
        have hd : ¬ (ls.length : Int) ≤ 60 := by omega
        go_wp2_with fail
        go_ret
        refine ⟨?_, rfl⟩
        have : fewB ls = false := by unfold fewB; rw [decide_eq_false (by omega)]; rfl
        rw [this]; rfl
    · obtain rfl : k = ls.length := by omega
      go_wp2_with fail
      go_ret
      refine ⟨?_, rfl⟩
      have : ls.all okS = true := List.all_eq_true.2 fun a ha => by
        obtain ⟨i, hi, rfl⟩ := List.getElem_of_mem ha
        exact HOk.out i _ hi (List.getElem?_eq_getElem hi)
      unfold fewB
      rw [this, Bool.and_true]
      simp
      omega

end Go.Proofs.Ytookfhmghchkjaa
