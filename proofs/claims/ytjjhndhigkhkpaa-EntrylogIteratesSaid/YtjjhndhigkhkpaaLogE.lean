/- The law's helpers over a log (layer 9): slots. -/
import Derived.Test.YtjjhndhigkhkpaaLogD
namespace Go.Proofs.Ytjjhndhigkhkpaa
open Go Go.RowKit
attribute [local go_sem] Oper.semAt_some

theorem run_eql_func_nil {P : Program} (w : World) (t : TypeId) (ps rs : Array TypeId) (vd : Bool) (f : Fn) (fi ca : Array Value) (h : P.underlying t = some (.func ps rs vd)) :
    (binOp .eql t (.func f fi ca) .nilFunc).run P w = .ok (.bool false) w := by
  have h2 : ∀ d : Nat, (Op.equalIn (d + 1) t (.func f fi ca) .nilFunc).run P w = .ok false w := fun d => by
    simp [Op.equalIn, run_underlying h]
  simp only [binOp]
  simp [Op.equal, Op.maxDepth, h2 9999]

theorem run_eql_seq_nil (w : World) (f : Fn) (fi ca : Array Value) : (binOp .eql 56 (.func f fi ca) .nilFunc).run Try.prog w = .ok (.bool false) w := by
  have h : (match Try.prog.underlying 56 with | some (.func ..) => true | _ => false) = true := by kernel_rfl
  split at h
  · rename_i ps rs vd h2
    exact run_eql_func_nil w _ _ _ _ f fi ca h2
  · cases h
attribute [local go_sem] run_eql_seq_nil

theorem own_at {w : World} {base : Nat} {e : TypeId} {A : Option Addr} {n c : Nat} {xs : List Value} (h : w.ownsRow base e 1 (.slice A n c) n xs) {i : Nat} (hi : i < n) : ∃ g, g < w.heap.size ∧ A = some ⟨g, 0, none⟩ ∧ w.cell? ⟨g, i, none⟩ = xs[i]? ∧ n ≤ c := by
  have h' := h
  rcases h.2 with ⟨h1, _⟩ | ⟨g, cap, cur, hv, _, hh, hle, _⟩
  · injection h1 with _ hn _
    omega
  · injection hv with hA _ hc
    subst hA
    subst hc
    exact ⟨g, lt_of_heap hh, rfl, h.cellAt i (by omega), hle⟩

def u32cells (ws : List Nat) : List Value := ws.map fun x : Nat => .int .u32 (x : Int)

set_option maxRecDepth 100000 in
set_option maxHeartbeats 2000000 in
theorem slots_gen (B : Nat) (p : Option Addr) (wv : Value) (ps : List (Ent × Value)) (ws : List Nat) (w : World) (hA : ∀ o1 o2 : Obj, Calls Try.prog 21 #[.pointer p] ((w.alloc o1).alloc o2) fun e w' =>
      e = .returned (.func (.func 42) #[] #[.pointer (some ⟨((w.alloc o1).alloc o2).heap.size, 0, none⟩)]) ∧ (∃ lv', Blk w' ((w.alloc o1).alloc o2).heap.size 47 #[lv'] ∧ w'.ownsRow ((w.alloc o1).alloc o2).heap.size 31 4 lv' ps.length (ecs ps)) ∧ Below ((w.alloc o1).alloc o2).heap.size ((w.alloc o1).alloc o2) w')
    (hV : ∀ q ∈ ps, Bts w B 5 q.2 q.1.val) (hlen : ps.length ≤ 4194304) (hw : w.ownsRow 0 22 1 wv ws.length (u32cells ws)) (hws : ws = (itemsTo ps ps.length).map (·.1)) (hvl : ∀ p ∈ ps, p.1.val.length ≤ 1000000000) :
    Calls Try.prog 27 #[.pointer p, wv] w fun e w' => e = .returned (.bool true) ∧ Below w.heap.size w w' := by
  obtain ⟨WA, wcap, rfl, hc1, hc2⟩ := own_form hw
  clear hc1 hc2
  have HA := Lib.hid (hA (.cells #[.slice WA ws.length wcap] 53) (.cells #[.bool false] 4))
  have HV0 := Lib.hid hV
  have HLen := Lib.hid hlen
  have HW := Lib.hid hw
  have HWS := Lib.hid hws
  have HVL := Lib.hid hvl
  clear hA hV hlen hw hws hvl
  refine (callsIn_wide (n := 9)).1 ?_
  refine callsIn_of_wp_marks Try.func27 rfl trivial ?_ rfl
  simp only [Try.ntmps27, List.size_toArray, List.length_cons, List.length_nil, Nat.reduceAdd, Nat.reduceSub, Array.replicate_succ, Array.replicate_zero, List.push_toArray, List.append_toArray, List.nil_append, List.cons_append]
  gi_wp2_with fail
  refine ⟨trivial, ?_⟩
  refine (callsIn_wide.2 HA.out).mono ?_
  rintro e w1 ⟨rfl, ⟨lv', hblk, hown⟩, hbel⟩
  have b1 := ((Blk.new w 53 _).alloc _).below hbel
  have b2 := (Blk.new2 w _ 4 _).below hbel
  have HB1 := Lib.hid b1
  have HB2 := Lib.hid b2
  have HG := Lib.hid (below_own2 hbel)
  have HV := Lib.hid (fun q hq => (((HV0.out q hq).alloc _).alloc _).below hbel)
  have hz := b2.lt
  have HBl := Lib.hid hblk
  have HO := Lib.hid hown
  clear b1 b2 hbel hblk hown
  gi_wp2_with fail
  obtain ⟨w2, hw2⟩ : ∃ w2, w1.alloc (.cells #[.int .i64 0] 3) = w2 := ⟨_, rfl⟩
  have hsz2 : w2.heap.size = w1.heap.size + 1 := by rw [← hw2]; simp
  have hC2 : Blk w2 w1.heap.size 3 #[.int .i64 0] := hw2 ▸ Blk.new w1 _ _
  have hB2 : Below w1.heap.size w1 w2 := hw2 ▸ (Below.refl _ _).alloc (Nat.le_refl _) _
  rw [hw2]
  have hwl : w.heap.size ≤ w1.heap.size := by omega
  have hB1 := HB1.out
  have hB1' := HB2.out
  have hBl := HBl.out
  simp only [World.size_alloc] at hBl
  refine range_law rfl (by omega) (gf := 42) (lb := #[.pointer (some ⟨w.heap.size + 1 + 1, 0, none⟩)]) rfl trivial (enters_of Try.func42 (by kernel_rfl) rfl) (itemPx_put _ ps)
    (log_stops 8 (by omega) B _ lv' ps w1 hBl (ownsRow_base HO.out (Nat.zero_le _)) HV.out HVL.out HLen.out) belowK_t (belowK_b (by omega)) hB2 (fun _ => rfl)
    (fun pre W => (Blk W w1.heap.size 3 #[.int .i64 pre.length] ∧ Blk W w.heap.size 53 #[.slice WA ws.length wcap] ∧ Blk W (w.heap.size + 1) 4 #[.bool false]) ∧ Below w.heap.size w W)
    (fun _ _ _ => False) (.and (.and (blk_own _ _ _ _) (.and (blk_own _ _ _ _) (blk_own _ _ _ _))) (ownFrom_below (Nat.le_refl _) (by omega))) (fun _ _ _ _ _ hs _ _ => hs)
    ⟨⟨hC2, hB1.below hB2, hB1'.below hB2⟩, HG.out.trans (hB2.mono (by omega))⟩ ?a₁ ?assign ?body ?done ?stop
  case a₁ =>
    exact fun x => { tmps := #[.pointer p, .slice WA ws.length wcap, undef, .pointer (some ⟨w.heap.size, 0, none⟩), .pointer (some ⟨w.heap.size + 1, 0, none⟩), .func (.func 42) #[] #[.pointer (some ⟨w.heap.size + 1 + 1, 0, none⟩)], .pointer (some ⟨w1.heap.size, 0, none⟩), .int .u32 x.1, .pointer p, .func (.func 42) #[] #[.pointer (some ⟨w.heap.size + 1 + 1, 0, none⟩)], .func (.func 42) #[] #[.pointer (some ⟨w.heap.size + 1 + 1, 0, none⟩)], .bool false, .func (.func 42) #[] #[.pointer (some ⟨w.heap.size + 1 + 1, 0, none⟩)], .int .u32 x.1, .agg #[.string x.2.1.key, x.2.2, .int .u64 x.2.1.dl, .int .u64 x.2.1.birth], undef, undef, undef, undef, undef, undef, undef, undef, undef, undef, undef, undef, undef, undef, undef, undef, undef, undef], defers := [] }
  case assign =>
    intro l x W K hK
    gi_wp2
    simpa [Item.enc] using hK
  case body =>
    rintro l pre x W ⟨⟨hc, hb1, hb2⟩, hB⟩ ⟨_, hpx⟩ hlt
    have hwx : ws[pre.length]? = some x.1 := by
      obtain ⟨r, hr⟩ := hpx
      rw [HWS.out, ← hr]
      simp [Item.bare]
    have hpl : pre.length < ws.length := (List.getElem?_eq_some_iff.1 hwx).1
    obtain ⟨g, hg, rfl, hgc, hgle⟩ := own_at HW.out hpl
    have hge : W.cell? ⟨g, pre.length, none⟩ = some (.int .u32 x.1) := by
      rw [hB.cell (p := ⟨g, pre.length, none⟩) hg, hgc]
      simp [u32cells, hwx]
    have hci := hc.cell 0 _ rfl
    have hcf := hc.frozen
    have hwi := hb1.cell 0 _ rfl
    have hps : ps.length ≤ 4194304 := HLen.out
    have hx1 : (pre.length : Int) < ws.length := by omega
    have hx2 : (ws.length : Int) ≤ wcap := by omega
    have HWx := Lib.hid hwx
    have HPx := Lib.hid hpx
    clear hwx hpx hgc
    gi_wp2_with fail
    exact ⟨(KeepsOthers.setCell _ _ _).from _, (Below.refl _ W).setCell (p := ⟨w1.heap.size, 0, none⟩) (Nat.le_refl _) _, ⟨⟨by simpa using hc.set_ 0 _, hb1.far (by simp; omega) _, hb2.far (by simp; omega) _⟩, hB.setCell (p := ⟨w1.heap.size, 0, none⟩) (by simp; omega) _⟩⟩
  case done =>
    rintro D ys W hD hS ⟨⟨hc, hb1, hb2⟩, hB⟩ hK
    have hyl : ys.length = ws.length := by
      rw [HWS.out, ← hS]
      simp
    have hps : ps.length ≤ 4194304 := HLen.out
    have hyp : ys.length ≤ ps.length := by
      have h1 := congrArg List.length hS
      simp only [List.length_map] at h1
      rw [h1]
      exact itemsTo_le ps _
    have hci := hc.cell 0 _ rfl
    have hwi := hb1.cell 0 _ rfl
    have hbi := hb2.cell 0 _ rfl
    have hbf := hb2.frozen
    have HK := Lib.hid hK
    rw [hyl] at hci
    clear hK hS
    gi_wp2_with fail
    have hK2 := (KeepsOthers.setCell W ⟨w.heap.size + 1, 0, none⟩ (.bool true)).same D _ HK.out rfl
    refine ⟨by simp, .inl ⟨_, _, rfl, run_takeDeferred hK2, ?_⟩⟩
    have hr : ((W.setCell ⟨w.heap.size + 1, 0, none⟩ (.bool true)).putObj D (.deferred none)).cell? ⟨w.heap.size + 1, 0, none⟩ = some (.bool true) :=
      cell_kept ((hb2.set_ 0 (.bool true)).cell 0 _ rfl) (grownBy_putObj' _ D (.deferred none)) (fun r e => by cases e; exact ⟨_, hK2, rfl⟩)
    refine ⟨_, by simp [results, Try.results27, go_sem, hr], rfl, ?_⟩
    exact (hB.setCell (p := ⟨w.heap.size + 1, 0, none⟩) (by simp) _).trans (belowK_b (w := w) (Nat.le_refl _) _ D _ _ (by omega) hK2 rfl rfl)
  case stop =>
    rintro D c pre W _ _ h _
    exact h.elim

theorem slots_true (B b : Nat) (lv wv : Value) (ps : List (Ent × Value)) (ws : List Nat) (w : World) (h : LogRep w B b lv ps) (hw : w.ownsRow 0 22 1 wv ws.length (u32cells ws)) (hws : ws = (itemsTo ps ps.length).map (·.1)) (hvl : ∀ p ∈ ps, p.1.val.length ≤ 1000000000) :
    Calls Try.prog 27 #[.pointer (some ⟨b, 0, none⟩), wv] w fun e w' => e = .returned (.bool true) ∧ Below w.heap.size w w' :=
  slots_gen B (some ⟨b, 0, none⟩) wv ps ws w (fun o1 o2 => logAll_any B b lv ps _ ((h.alloc o1).alloc o2)) h.vals h.len hw hws hvl

end Go.Proofs.Ytjjhndhigkhkpaa
