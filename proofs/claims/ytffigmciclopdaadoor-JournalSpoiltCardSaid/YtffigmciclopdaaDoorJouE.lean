/- Layer 45: a journal in memory; Sum, Len, Bytes. -/
import Derived.Test.YtffigmciclopdaaDoorJouD
namespace Go.Proofs.YtffigmciclopdaaDoor
open Go Go.RowKit

theorem size_bytes (w : World) : (sizeOf (Tryd.prog.elem 22)).run Tryd.prog w = .ok 1 w := by kernel_rfl
theorem int_info : (Tryd.prog.info? 3).map (fun i => (i.zero, i.size, i.bytes)) = some (some (.int .i64 0), 1, 8) := by kernel_rfl
def ncs (es : List Nat) : List Value := es.map fun (n : Nat) => Value.int .i64 (n : Int)
theorem ncs_length (es : List Nat) : (ncs es).length = es.length := by simp [ncs]

/-- A journal's parts: its block with some cells; three rows of its own; no operation's value lies in the row of the data. -/
structure JS (w : World) (B b : Nat) (cs : Array Value) (dv ev ov : Value) (ds : List UInt8) (es : List Nat) (ps : List (OpV × Value)) : Prop where
  blk : Blk w b 35 cs
  data : w.ownsRow B 5 1 dv ds.length (bcells ds)
  ends : w.ownsRow B 3 1 ev es.length (ncs es)
  ops : w.ownsRow B 43 9 ov ps.length (ocs ps)
  vals : ∀ p ∈ ps, Bts w B 5 p.2 p.1.val ∧ (∀ g, p.2.ownBlock = some g → g < w.heap.size ∧ dv.ownBlock ≠ some g)
  wf : ∀ p ∈ ps, 0 ≤ p.1.ticks
  base : B ≤ b

/-- A journal. -/
structure JRep (w : World) (B b : Nat) (dv ev ov : Value) (ds : List UInt8) (es : List Nat) (ps : List (OpV × Value)) : Prop extends JS w B b #[dv, ev, ov] dv ev ov ds es ps where
  dlen : ds.length = 0 ∨ 7 ≤ ds.length
  dmax : ds.length ≤ 1048576
  elen : es.length = ps.length
  emax : es.length ≤ 4096

/-- The blocks that a journal may write. -/
def jFp (b : Nat) (dv ev ov : Value) (k : Nat) : Prop := k = b ∨ dv.ownBlock = some k ∨ ev.ownBlock = some k ∨ ov.ownBlock = some k

theorem row_differs {w : World} {base base' : Nat} {e e' : TypeId} {n n' m m' : Nat} {v v' : Value} {xs xs' : List Value} (h : w.ownsRow base e n v m xs) (h' : w.ownsRow base' e' n' v' m' xs') (hne : e ≠ e') : ∀ k, v.ownBlock = some k → ¬ v'.ownBlock = some k := by
  intro k hk hk'
  obtain ⟨_, cur, hc⟩ := row_heap h hk
  obtain ⟨_, cur', hc'⟩ := row_heap h' hk'
  rw [hc] at hc'
  injection hc' with hc'
  injection hc' with _ ht
  exact hne ht
theorem blk_differs {w : World} {base g t : Nat} {e : TypeId} {n m : Nat} {v : Value} {cs : Array Value} {xs : List Value} (hb : Blk w g t cs) (h : w.ownsRow base e n v m xs) (hne : t ≠ e) : ¬ v.ownBlock = some g := by
  intro hk
  obtain ⟨_, cur, hc⟩ := row_heap h hk
  exact hb.ne_ hc hne rfl

section
variable {w w' : World} {B b : Nat} {cs : Array Value} {dv ev ov : Value} {ds : List UInt8} {es : List Nat} {ps : List (OpV × Value)}
theorem JS.below (h : JS w B b cs dv ev ov ds es ps) (hb : Below w.heap.size w w') : JS w' B b cs dv ev ov ds es ps :=
  ⟨h.blk.below hb, own_later h.data hb, own_later h.ends hb, own_later h.ops hb, fun p hp => ⟨(h.vals p hp).1.below hb, fun g hg => ⟨Nat.lt_of_lt_of_le ((h.vals p hp).2 g hg).1 hb.size, ((h.vals p hp).2 g hg).2⟩⟩, h.wf, h.base⟩
theorem JRep.below (h : JRep w B b dv ev ov ds es ps) (hb : Below w.heap.size w w') : JRep w' B b dv ev ov ds es ps :=
  ⟨h.toJS.below hb, h.dlen, h.dmax, h.elen, h.emax⟩
theorem JRep.drew (h : JRep w B b dv ev ov ds es ps) : JRep w.drew B b dv ev ov ds es ps := h.below (Below.refl _ _).drew
theorem JRep.opsAt (h : JRep w B b dv ev ov ds es ps) : OpsAt w B ov ps := OpsAt.of_own h.ops (fun p hp => (h.vals p hp).1) h.wf
theorem JS.fp_lt (h : JS w B b cs dv ev ov ds es ps) {k : Nat} (hk : jFp b dv ev ov k) : B ≤ k ∧ k < w.heap.size := by
  rcases hk with rfl | hk | hk | hk
  · exact ⟨h.base, h.blk.lt⟩
  · obtain ⟨h1, cur, h2⟩ := row_heap h.data hk; exact ⟨h1, lt_of_heap h2⟩
  · obtain ⟨h1, cur, h2⟩ := row_heap h.ends hk; exact ⟨h1, lt_of_heap h2⟩
  · obtain ⟨h1, cur, h2⟩ := row_heap h.ops hk; exact ⟨h1, lt_of_heap h2⟩
/-- Another part of memory has changed. -/
theorem JS.only {S : Nat → Prop} (h : JS w B b cs dv ev ov ds es ps) (ho : Only S w w') (hS : ∀ k, jFp b dv ev ov k → ¬ S k) (hk : KeepB B 5 w w') : JS w' B b cs dv ev ov ds es ps :=
  ⟨h.blk.only ho (hS b (.inl rfl)), ownsRow_only h.data ho (fun k hk => hS k (.inr (.inl hk))), ownsRow_only h.ends ho (fun k hk => hS k (.inr (.inr (.inl hk)))), ownsRow_only h.ops ho (fun k hk => hS k (.inr (.inr (.inr hk)))),
    fun p hp => ⟨(h.vals p hp).1.keep hk, fun g hg => ⟨Nat.lt_of_lt_of_le ((h.vals p hp).2 g hg).1 ho.size, ((h.vals p hp).2 g hg).2⟩⟩, h.wf, h.base⟩
theorem JRep.only {S : Nat → Prop} (h : JRep w B b dv ev ov ds es ps) (ho : Only S w w') (hS : ∀ k, jFp b dv ev ov k → ¬ S k) (hk : KeepB B 5 w w') : JRep w' B b dv ev ov ds es ps :=
  ⟨h.toJS.only ho hS hk, h.dlen, h.dmax, h.elen, h.emax⟩
/-- The data has grown. -/
theorem JS.growData (h : JS w B b cs dv ev ov ds es ps) {v : Value} {r : List UInt8} (hg : w.grownBy w' dv.ownBlock) (ho : w'.ownsRow B 5 1 v (ds.length + r.length) (bcells ds ++ bcells r)) (ha : v.ownBlock = dv.ownBlock ∨ v.ownBlock = some w.heap.size) : JS w' B b cs v ev ov (ds ++ r) es ps := by
  have hon := Only.of_grown hg
  refine ⟨h.blk.only hon (blk_differs h.blk h.data (by decide)), ?_, ownsRow_only h.ends hon (row_differs h.ends h.data (by decide)), ownsRow_only h.ops hon (row_differs h.ops h.data (by decide)), fun p hp => ⟨(h.vals p hp).1.only hon (fun g hg => ((h.vals p hp).2 g hg).2), fun g hg => ⟨Nat.lt_of_lt_of_le ((h.vals p hp).2 g hg).1 hon.size, ?_⟩⟩, h.wf, h.base⟩
  · rw [List.length_append, show bcells (ds ++ r) = bcells ds ++ bcells r by simp [bcells]]; exact ho
  · rcases ha with ha | ha
    · rw [ha]; exact ((h.vals p hp).2 g hg).2
    · rw [ha]; intro e; injection e with e; have := ((h.vals p hp).2 g hg).1; omega
/-- The operations have grown. -/
theorem JS.growOps (h : JS w B b cs dv ev ov ds es ps) {v V : Value} {o : OpV} (hg : w.grownBy w' ov.ownBlock) (ho : w'.ownsRow B 43 9 v (ps.length + 1) (ocs ps ++ opcs o V)) (hV : Bts w B 5 V o.val) (hx : ∀ g, V.ownBlock = some g → g < w.heap.size ∧ dv.ownBlock ≠ some g) (ht : 0 ≤ o.ticks) : JS w' B b cs dv ev v ds es (ps ++ [(o, V)]) := by
  have hon := Only.of_grown hg
  have hkb : KeepB B 5 w w' := KeepB.of_only hon fun k hk e => ⟨(row_heap h.ops e).1, fun c fr hc => by
    obtain ⟨_, cur, h2⟩ := row_heap h.ops e
    rw [h2] at hc
    injection hc with hc
    injection hc with _ ht
    exact absurd ht (by decide)⟩
  refine ⟨h.blk.only hon (blk_differs h.blk h.ops (by decide)), ownsRow_only h.data hon (row_differs h.data h.ops (by decide)), ownsRow_only h.ends hon (row_differs h.ends h.ops (by decide)), ?_, fun p hp => ?_, fun p hp => ?_, h.base⟩
  · rw [List.length_append, List.length_singleton, ocs_append, show ocs [(o, V)] = opcs o V by simp [ocs]]; exact ho
  · rcases List.mem_append.1 hp with hp | hp
    · exact ⟨(h.vals p hp).1.keep hkb, fun g hg => ⟨Nat.lt_of_lt_of_le ((h.vals p hp).2 g hg).1 hon.size, ((h.vals p hp).2 g hg).2⟩⟩
    · have e := List.mem_singleton.1 hp
      subst e
      exact ⟨hV.keep hkb, fun g hg => ⟨Nat.lt_of_lt_of_le (hx g hg).1 hon.size, (hx g hg).2⟩⟩
  · rcases List.mem_append.1 hp with hp | hp
    · exact h.wf p hp
    · have e := List.mem_singleton.1 hp
      subst e; exact ht
/-- The ends have grown. -/
theorem JS.growEnds (h : JS w B b cs dv ev ov ds es ps) {v : Value} {n : Nat} (hg : w.grownBy w' ev.ownBlock) (ho : w'.ownsRow B 3 1 v (es.length + 1) (ncs es ++ [.int .i64 (n : Int)])) : JS w' B b cs dv v ov ds (es ++ [n]) ps := by
  have hon := Only.of_grown hg
  have hkb : KeepB B 5 w w' := KeepB.of_only hon fun k hk e => ⟨(row_heap h.ends e).1, fun c fr hc => by
    obtain ⟨_, cur, h2⟩ := row_heap h.ends e
    rw [h2] at hc
    injection hc with hc
    injection hc with _ ht
    exact absurd ht (by decide)⟩
  refine ⟨h.blk.only hon (blk_differs h.blk h.ends (by decide)), ownsRow_only h.data hon (row_differs h.data h.ends (by decide)), ?_, ownsRow_only h.ops hon (row_differs h.ops h.ends (by decide)), fun p hp => ⟨(h.vals p hp).1.keep hkb, fun g hg => ⟨Nat.lt_of_lt_of_le ((h.vals p hp).2 g hg).1 hon.size, ((h.vals p hp).2 g hg).2⟩⟩, h.wf, h.base⟩
  rw [List.length_append, List.length_singleton, show ncs (es ++ [n]) = ncs es ++ [.int .i64 (n : Int)] by simp [ncs]]; exact ho
/-- A cell of its block is set. -/
theorem JS.store (h : JS w B b cs dv ev ov ds es ps) (i : Nat) (u : Value) : JS (w.setCell ⟨b, i, none⟩ u) B b (cs.setIfInBounds i u) dv ev ov ds es ps := by
  have hon := Only.set1 w b i u
  have hkb := KeepB.of_blk (U := 5) h.blk (by decide) h.base hon
  refine ⟨h.blk.set_ i u, ownsRow_only h.data hon (fun k hk e => by subst e; exact blk_differs h.blk h.data (by decide) hk), ownsRow_only h.ends hon (fun k hk e => by subst e; exact blk_differs h.blk h.ends (by decide) hk), ownsRow_only h.ops hon (fun k hk e => by subst e; exact blk_differs h.blk h.ops (by decide) hk), fun p hp => ⟨(h.vals p hp).1.keep hkb, fun g hg => ⟨Nat.lt_of_lt_of_le ((h.vals p hp).2 g hg).1 hon.size, ((h.vals p hp).2 g hg).2⟩⟩, h.wf, h.base⟩
end

/-- The sum behind the data. -/
def sumL (ds : List UInt8) : Nat := if ds.length = 0 then 5381 else numBE (ds.drop (ds.length - 4))
theorem sumL_lt (ds : List UInt8) : sumL ds < 4294967296 := by
  unfold sumL
  split
  · omega
  · have h := numBE_lt (ds.drop (ds.length - 4))
    rw [List.length_drop] at h
    have : 256 ^ (ds.length - (ds.length - 4)) ≤ 256 ^ 4 := Nat.pow_le_pow_right (by omega) (by omega)
    omega

theorem join_u32 (x b : Nat) (hx : x < 16777216) (hb : b < 256) : bits .or .u32 ((x : Int) * 256) (b : Int) = ((x * 256 + b : Nat) : Int) := by
  have e : ((x : Int) * 256) = ((x * 256 : Nat) : Int) := by omega
  rw [e, u32_or_nat _ _ (by omega) (by omega), nat_join 8 (x * 256) b (by omega) (by omega)]

set_option maxHeartbeats 2000000 in
theorem jLen_any (B b : Nat) (dv ev ov : Value) (ds : List UInt8) (es : List Nat) (ps : List (OpV × Value)) (w : World) (h : JRep w B b dv ev ov ds es ps) :
    Calls Tryd.prog 21 #[.pointer (some ⟨b, 0, none⟩)] w fun e w' => e = .returned (.int .i64 es.length) ∧ w = w' := by
  obtain ⟨EA, ec, rfl, _, _⟩ := own_form h.ends
  have x1 : w.cell? ⟨b, 1, none⟩ = some (.slice EA es.length ec) := h.blk.cell 1 _ rfl
  clear h
  go_enter Tryd.func21, Tryd.ntmps21
  go_wp2_with fail
  go_ret
  exact ⟨rfl, rfl⟩

set_option maxHeartbeats 2000000 in
theorem jBytes_any (B b : Nat) (dv ev ov : Value) (ds : List UInt8) (es : List Nat) (ps : List (OpV × Value)) (w : World) (h : JRep w B b dv ev ov ds es ps) :
    Calls Tryd.prog 12 #[.pointer (some ⟨b, 0, none⟩)] w (OwnRet ds w) := by
  have hb := bytesClone_any B dv ds w (Bts.of_own h.data B) (by have := h.dmax; omega)
  have HB := Lib.hid hb
  obtain ⟨DA, dc, rfl, _, _⟩ := own_form h.data
  have x0 : w.cell? ⟨b, 0, none⟩ = some (.slice DA ds.length dc) := h.blk.cell 0 _ rfl
  clear h hb
  go_enter Tryd.func12, Tryd.ntmps12
  go_wp2_with fail
  refine HB.out.mono ?_
  rintro e w1 ⟨v, rfl, ho, hb⟩
  go_wp2_with fail
  go_ret
  exact ⟨v, rfl, ho, hb⟩

set_option maxRecDepth 100000 in
set_option maxHeartbeats 2000000 in
theorem jSum_any (B b : Nat) (dv ev ov : Value) (ds : List UInt8) (es : List Nat) (ps : List (OpV × Value)) (w : World) (h : JRep w B b dv ev ov ds es ps) :
    Calls Tryd.prog 25 #[.pointer (some ⟨b, 0, none⟩)] w fun e w' => e = .returned (.int .u32 (sumL ds)) ∧ Below w.heap.size w w' := by
  have hdm := h.dmax
  have hdl := h.dlen
  have hbt := Bts.of_own h.data B
  obtain ⟨DA, dc, rfl, hc1, hc2⟩ := own_form h.data
  have x0 : w.cell? ⟨b, 0, none⟩ = some (.slice DA ds.length dc) := h.blk.cell 0 _ rfl
  clear h
  by_cases h0 : ds.length = 0
  · have hs : sumL ds = 5381 := by unfold sumL; rw [if_pos h0]
    have HS := Lib.hid hs
    have h0I : ((ds.length : Int) == 0) = true := by simp [h0]
    clear hs hbt
    go_enter Tryd.func25, Tryd.ntmps25
    go_wp2_with fail
    go_ret
    exact ⟨by rw [HS.out]; rfl, Below.refl _ _⟩
  · have h7 : 7 ≤ ds.length := by omega
    have hs : sumL ds = numBE (ds.drop (ds.length - 4)) := by unfold sumL; rw [if_neg h0]
    have HS := Lib.hid hs
    have h0I : ((ds.length : Int) == 0) = false := by simpa using (show ds ≠ [] from fun e => by subst e; simp at h0)
    have hsb : wrap64 ((ds.length : Int) - 4) = ((ds.length - 4 : Nat) : Int) := by unfold wrap64; omega
    have hl4 : ds.length - (ds.length - 4) = 4 := by omega
    have hsd : sliced DA (ds.length - 4) ds.length dc 1 = .slice (Option.map (fun x => x.add (ds.length - 4)) DA) 4 (dc - (ds.length - 4)) := by
      unfold sliced
      rw [if_neg (by omega), hl4, Nat.mul_one]
    have hb4 : Bts w B 5 (.slice (Option.map (fun x => x.add (ds.length - 4)) DA) 4 (dc - (ds.length - 4))) (ds.drop (ds.length - 4)) := by rw [← hsd]; exact hbt.from_ (ds.length - 4) (by omega)
    have HB4 := Lib.hid hb4
    have HL4 := Lib.hid hl4
    have hd4 : (ds.drop (ds.length - 4)).length = 4 := by rw [List.length_drop]; omega
    obtain ⟨qs, hqs⟩ : ∃ qs, ds.drop (ds.length - 4) = qs := ⟨_, rfl⟩
    rw [hqs] at HB4 hd4 HS
    have HD4 := Lib.hid hd4
    have h7I : (7 : Int) ≤ (ds.length : Int) := by omega
    have hdmI : (ds.length : Int) ≤ 1048576 := by omega
    clear hs hbt hsd hb4 hd4 hl4 hqs
    go_enter Tryd.func25, Tryd.ntmps25
    go_wp2_with fail
    go_quiet (fail)
    rw [HL4.out]
    obtain ⟨A', hA'⟩ : ∃ A', Option.map (fun x : Addr => x.add (ds.length - 4)) DA = A' := ⟨_, rfl⟩
    have hbq : Below w.heap.size w (w.drewN nq) := ⟨rfl, rfl, rfl, Nat.le_refl _, fun _ _ => rfl⟩
    have hb4 := HB4.out.below hbq
    rw [hA'] at hb4 ⊢
    have HB4 := Lib.hid hb4
    have HBq := Lib.hid hbq
    obtain ⟨dc4, hdc4⟩ : ∃ dc4, dc - (ds.length - 4) = dc4 := ⟨_, rfl⟩
    rw [hdc4] at HB4 ⊢
    clear hA' hb4 hbq hdc4 x0
    generalize w.drewN nq = wq at HB4 HBq ⊢
    go_wp2_with fail
    go_loopw [3, 5, 28] (fun x _ j wr => ∃ k : Nat, k ≤ 4 ∧ j = .int .i64 k ∧ x = .int .u32 (numBE (qs.take k)) ∧ wr = wq) (fun _ _ j _ => 4 - (intOf j).toNat)
    case atStart => exact ⟨0, by omega, rfl, rfl, rfl⟩
    case round =>
      obtain ⟨k, hk, rfl, rfl, hww⟩ := hrel
      obtain rfl : wq = wr := hww.symm
      by_cases hkl : k < 4
      · obtain ⟨x, hx⟩ : ∃ x, qs[k]? = some x := ⟨_, List.getElem?_eq_getElem (by have := HD4.out; omega)⟩
        obtain ⟨g, off, rfl, c1⟩ := HB4.out.cellAt hx
        have hkI : (k : Int) < 4 := by omega
        have ht2 : qs.take (k + 1) = qs.take k ++ [x] := by rw [List.take_add_one, hx]; rfl
        have hxb := numBE_lt (qs.take k)
        have hxl : (qs.take k).length = k := by rw [List.length_take, HD4.out]; omega
        rw [hxl] at hxb
        have h3 : numBE (qs.take k) < 16777216 := by
          rcases (by omega : k = 0 ∨ k = 1 ∨ k = 2 ∨ k = 3) with e | e | e | e <;> rw [e] at hxb ⊢ <;> omega
        have hxt := x.toNat_lt
        have hj := join_u32 (numBE (qs.take k)) x.toNat h3 hxt
        have e1 : ((numBE (qs.take k) : Int) * 256 % 4294967296) = (numBE (qs.take k) : Int) * 256 := by omega
        have e2 : ((x.toNat : Int) % 4294967296) = (x.toNat : Int) := by omega
        have hq : bits .or .u32 ((numBE (qs.take k) : Int) * 256 % 4294967296) ((x.toNat : Int) % 4294967296) = (numBE (qs.take (k + 1)) : Int) := by rw [e1, e2, hj, ht2, numBE_snoc]
        have HQ := Lib.hid hq
        clear hx ht2 hxb hxl h3 hxt hj e1 e2 hq
        go_wp2_with fail
        go_roundw
        case rel => exact ⟨k + 1, by omega, by go_num, by rw [HQ.out], trivial⟩
        case measure => simp [intOf]; omega
      · obtain rfl : k = 4 := by omega
        go_wp2_with fail
        go_ret
        exact ⟨by rw [HS.out, show qs.take 4 = qs from List.take_of_length_le (by rw [HD4.out]; exact Nat.le_refl _)]; rfl, HBq.out⟩

end Go.Proofs.YtffigmciclopdaaDoor
