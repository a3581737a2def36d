/- EntrylogIterates: what holds of the world between its steps; a region that draws its order, in a round. -/
import Derived.Test.YtjjhndhigkhkpaaPlays
import Derived.Lib.QuietBelowIn
import Derived.RangeFuncLeaves
namespace Go.Proofs.Ytjjhndhigkhkpaa
open Go Go.RowKit Go.Sort

/-! A region that draws its order, in a round: the same as in a plain frame where no operation is a defer statement. -/
section
variable {F : Fence} {n : Nat} {P : Program} {ops : Array Oper} {Q : Exit → Act → World → Prop}

theorem operWpIn_round (l : Nat) {o : Oper} {a : Act} {w : World} {K : Act → World → Prop} (hro : F.round = none) (hd : ∀ c, o.op ≠ .defer c) (h : o.wpIn F n P a w K Q) : o.wpIn (F.inRound l) n P a w K Q := by
  unfold Oper.wpIn at *
  refine ⟨h.1, ?_⟩
  have h := h.2
  rw [hro, Oper.semAt_none] at h
  rw [show (F.inRound l).round = some l from rfl, Oper.semAt_eq _ _ _ hd]
  exact h

theorem wpOpIn_round (l : Nat) {i : Nat} {a : Act} {w : World} {K K' : Act → World → Prop} (hro : F.round = none) (hd : ∀ o ∈ ops.toList, ∀ c, o.op ≠ .defer c) (hK : ∀ a w, K a w → K' a w) (h : wpOpIn F n P ops Q i K a w) : wpOpIn (F.inRound l) n P ops Q i K' a w := by
  have h := wpOpIn_mono hK h
  unfold wpOpIn at *
  cases ho : ops[i]? with
  | none => rw [ho] at h; exact h
  | some o =>
    rw [ho] at h
    dsimp only at h ⊢
    split at h
    · rename_i hw
      rw [if_pos hw]
      exact operWpIn_round l hro (hd o (Array.mem_toList_iff.2 (Array.mem_of_getElem? ho))) h
    · rename_i hw
      rw [if_neg hw]
      exact h

theorem wpAnyIn_round (l : Nat) {md : Region.Mode} (hro : F.round = none) (hd : ∀ o ∈ ops.toList, ∀ c, o.op ≠ .defer c) : ∀ (fuel : Nat) (listed : Array Bool) (a : Act) (w : World), wpAnyIn F n P md ops Q fuel listed a w → wpAnyIn (F.inRound l) n P md ops Q fuel listed a w
  | 0, _, _, _, h => h
  | fuel + 1, listed, a, w, h => ⟨h.1, fun i hi => wpOpIn_round l hro hd (fun a w h => wpAnyIn_round l hro hd fuel _ a w h) (h.2 i hi)⟩

/-- One walk of the order of the text serves every order, in a round, where the callees end in Below. -/
theorem region_round_below (l0 : Nat) {id : Nat} {a : Act} {w : World} {l : List Oper} (hro : F.round = none) (hm : P.follows .mixedOrders = true) (hB : Region.lexB .any l.toArray = true) (hd : ∀ o ∈ l, ∀ c, o.op ≠ .defer c)
    (h : wpQuietIn F n P l.toArray (fun w' => ∃ p : Regrown, w' = grow (redrawn w p.d) p.os) (fun a' => ∀ w', (∃ p : Regrown, w' = grow (redrawn w p.d) p.os) → Q .normal a' w') l a) : (Code.region id l.toArray true).wpIn (F.inRound l0) n P Q a w := by
  have hB' := hB
  simp only [Region.lexB, Bool.and_eq_true] at hB'
  refine wpIn_region_any hm (wpAnyIn_round l0 hro (by simpa using hd) _ _ _ _ (wpAnyIn_of_quiet (C := fun w' => ∃ p : Regrown, w' = grow (redrawn w p.d) p.os) (Q := fun a' => ∀ w', (∃ p : Regrown, w' = grow (redrawn w p.d) p.os) → Q .normal a' w') hro (fun _ w' hw' h => h w' hw') _ _ _ _ ⟨⟨w.drawn + 1, #[]⟩, by rw [grow_empty]; rfl⟩ ?_))
  have := wpAnyQIn_lex (F := F) (n := n) (C := fun w' => ∃ p : Regrown, w' = grow (redrawn w p.d) p.os) (md := .any) hB'.1 l 0 (Array.replicate l.length false) a (by simp) (by simpa using hB'.2) (by simpa using h)
  simpa using this
end

/-! The marks of the loops over iterators that are over. -/
def Marks (B : Nat) : List Deferred → World → Prop
  | [], _ => True
  | d :: ds, W => (∃ D, d = { target := .collected D, args := #[] } ∧ B ≤ D ∧ W.heap[D]? = some (.deferred (some [])) ∧ ∀ D', { target := .collected D', args := #[] } ∈ ds → D' ≠ D) ∧ Marks B ds W

theorem Marks.keep {B : Nat} {W W' : World} (hk : KeepsFrom B W W') : ∀ {ds : List Deferred}, Marks B ds W → Marks B ds W'
  | [], _ => trivial
  | _ :: _, ⟨⟨D, hd, hB, hD, hn⟩, h⟩ => ⟨⟨D, hd, hB, hk.same D _ hB hD rfl, hn⟩, h.keep hk⟩
theorem Marks.lt {B : Nat} {W : World} : ∀ {ds : List Deferred}, Marks B ds W → ∀ D, { target := .collected D, args := #[] } ∈ ds → D < W.heap.size
  | [], _, _, h => by cases h
  | _ :: _, ⟨⟨D, hd, _, hD, _⟩, h⟩, D', hm => by
    rcases List.mem_cons.1 hm with e | hm
    · rw [hd] at e
      injection e with e _
      injection e with e
      subst e
      exact (Array.getElem?_eq_some_iff.1 hD).1
    · exact h.lt D' hm

structure Shut (B : Nat) (W W' : World) : Prop where
  below : Below B W W'
  cells : ∀ (k : Nat) (o : Obj), W.heap[k]? = some o → o.isCells = true → W'.heap[k]? = some o

theorem Shut.blk {B k U : Nat} {W W' : World} {cs : Array Value} (h : Shut B W W') (hb : Blk W k U cs) : Blk W' k U cs := h.cells k _ hb rfl

theorem marks_leave {F : Fence} {n : Nat} {P : Program} {fn : Func} {tmps : Array Value} {R : Ending → World → Prop} {B : Nat} : ∀ (ds : List Deferred) (W : World), Marks B ds W → (∀ W', Shut B W W' → LeavesInM F n P fn tmps R [] .returning W') → LeavesInM F n P fn tmps R ds .returning W
  | [], W, _, h => h W ⟨Below.refl _ _, fun _ _ h _ => h⟩
  | d :: ds, W, ⟨⟨D, hd, hB, hD, hn⟩, hm⟩, h => by
    subst hd
    refine ⟨by simp, .inl ⟨D, _, rfl, run_takeDeferred hD, ?_⟩⟩
    have hlt := (Array.getElem?_eq_some_iff.1 hD).1
    have hm2 : Marks B ds (W.putObj D (.deferred none)) := by
      have key : ∀ {es : List Deferred}, (∀ D', { target := .collected D', args := #[] } ∈ es → D' ≠ D) → Marks B es W → Marks B es (W.putObj D (.deferred none)) := by
        intro es
        induction es with
        | nil => exact fun _ _ => trivial
        | cons e es ih =>
          rintro hn ⟨⟨D', he, hB', hD', hn'⟩, hm'⟩
          refine ⟨⟨D', he, hB', ?_, hn'⟩, ih (fun x hx => hn x (List.mem_cons_of_mem _ hx)) hm'⟩
          rw [World.putObj_heap_other (fun e2 => hn D' (by subst he; exact List.mem_cons_self) e2)]
          exact hD'
      exact key hn hm
    refine marks_leave ds _ hm2 (fun W' hs => h W' ⟨?_, fun k o hk ho => hs.cells k o ?_ ho⟩)
    · exact ((Below.refl B W).grown (grownBy_putObj' W D (.deferred none)) (by omega) (fun k e => by cases e; exact hB)).trans hs.below
    · rw [World.putObj_heap_other (fun e2 => by subst e2; rw [hD] at hk; injection hk with hk; subst hk; cases ho)]
      exact hk

/-! The world of EntrylogIterates behind its calls of do. -/
structure IInv (w W : World) (b : Nat) (lv : Value) (qs : List (Ent × Value)) (lw gw : Value) (rs : List RE) (ps : List (Ent × Value)) (g6 g9 Bs : Nat) (av : Value) (SA : Option Addr) (sc : Nat) (many : Int) (ds : List Deferred) : Prop where
  rep : LogRep W w.heap.size b lv qs
  qlen : qs.length ≤ 1000
  qval : ∀ p ∈ qs, p.1.val.length ≤ 65536
  ref : RRep W w.heap.size lw gw rs
  apart : ∀ k, lw.ownBlock = some k → lv.ownBlock ≠ some k
  below : Below w.heap.size w W
  b3 : Blk W w.heap.size 3 #[.int .i64 many]
  b4 : Blk W (w.heap.size + 1) 4 #[.bool false]
  b6 : Blk W g6 49 #[lw, gw]
  b9 : Blk W g9 53 #[.slice SA (slotsR rs rs.length).length sc]
  want : W.ownsRow 0 22 1 (.slice SA (slotsR rs rs.length).length sc) (slotsR rs rs.length).length (u32cells (slotsR rs rs.length))
  bs : Blk W Bs 47 #[av]
  own : W.ownsRow 0 31 4 av ps.length (ecs ps)
  avs : ∀ k, av.ownBlock = some k → ¬ logFp b lv k
  vals : ∀ p ∈ ps, Bts W w.heap.size 5 p.2 p.1.val
  marks : Marks w.heap.size ds W

theorem keepsOthers_below {w w' : World} (h : Below w.heap.size w w') : KeepsOthers w w' := keepsOthers_only (S := fun _ => False) (Only.of_below h) (fun _ h => h.elim)

section
variable {w W W' : World} {b g6 g9 Bs sc : Nat} {lv lw gw av : Value} {qs ps : List (Ent × Value)} {rs : List RE} {SA : Option Addr} {many : Int} {ds : List Deferred}

theorem IInv.adv (h : IInv w W b lv qs lw gw rs ps g6 g9 Bs av SA sc many ds) (hb : Below W.heap.size W W') : IInv w W' b lv qs lw gw rs ps g6 g9 Bs av SA sc many ds :=
  ⟨h.rep.below hb, h.qlen, h.qval, h.ref.below hb, h.apart, h.below.trans (hb.mono h.below.size), h.b3.below hb, h.b4.below hb, h.b6.below hb, h.b9.below hb,
    ownsRow_only (S := fun _ => False) h.want (Only.of_below hb) (fun _ _ h => h), h.bs.below hb, ownsRow_only (S := fun _ => False) h.own (Only.of_below hb) (fun _ _ h => h), h.avs, fun p hp => (h.vals p hp).below hb, h.marks.keep ((keepsOthers_below hb).from _)⟩

theorem LogRep.keepsOthers {B : Nat} (h : LogRep W B b lv qs) (ho : Only (logFp b lv) W W') : KeepsOthers W W' := keepsOthers_only ho fun k hk => by
  rcases hk with rfl | hk
  · exact ⟨_, _, _, h.blk⟩
  · obtain ⟨_, cur, h2⟩ := row_block h.row hk
    exact ⟨_, _, _, h2⟩

/-- A step of the log. -/
theorem IInv.step {lv' : Value} {qs' : List (Ent × Value)} (h : IInv w W b lv qs lw gw rs ps g6 g9 Bs av SA sc many ds) (hr : LogRep W' w.heap.size b lv' qs') (ho : Only (logFp b lv) W W')
    (hv : lv'.ownBlock = lv.ownBlock ∨ ∃ g, lv'.ownBlock = some g ∧ W.heap.size ≤ g) (hl : qs'.length ≤ 1000) (hq : ∀ p ∈ qs', p.1.val.length ≤ 65536) : IInv w W' b lv' qs' lw gw rs ps g6 g9 Bs av SA sc many ds := by
  have hk := h.rep.keepT ho
  have hB := h.rep.base
  have hfp : ∀ k, lv'.ownBlock = some k → k < W.heap.size → lv.ownBlock = some k := fun k hk hlt => by
    rcases hv with e | ⟨g, e, hg⟩
    · rw [← e]; exact hk
    · rw [e] at hk; injection hk with hk; omega
  refine ⟨hr, hl, hq, h.ref.logged h.rep h.apart ho, fun k hk e => ?_, h.below.trans (ho.below (fun i hi _ e => by have := (h.rep.fp_lt e).1; omega) h.below.size), hk.blk h.b3 (by decide) (by decide), hk.blk h.b4 (by decide) (by decide), hk.blk h.b6 (by decide) (by decide), hk.blk h.b9 (by decide) (by decide),
    ownsRow_only h.want ho (fun k hk e => ?_), hk.blk h.bs (by decide) (by decide), ownsRow_only h.own ho (fun k hk => h.avs k hk), fun k hk e => ?_, fun p hp => (h.vals p hp).keep hk.u8, h.marks.keep ((h.rep.keepsOthers ho).from _)⟩
  · exact h.apart k hk (hfp k e (h.ref.row.lt k hk).2)
  · rcases e with rfl | e
    · obtain ⟨_, cur, h2⟩ := row_block h.want hk
      exact (h.rep.blk.ne_ h2 (by decide)) rfl
    · exact rows_off h.want h.rep.row (by decide) k hk e
  · have hlt := lt_of_heap (row_block h.own hk).2.choose_spec
    rcases e with rfl | e
    · exact h.avs k hk (.inl rfl)
    · exact h.avs k hk (.inr (hfp k e hlt))

theorem IInv.marked {D : Nat} (h : IInv w W b lv qs lw gw rs ps g6 g9 Bs av SA sc many ds) (hb : Below W.heap.size W W') (hD : W.heap.size ≤ D) (hK : W'.heap[D]? = some (.deferred (some []))) : IInv w W' b lv qs lw gw rs ps g6 g9 Bs av SA sc many ({ target := .collected D, args := #[] } :: ds) := by
  have h2 := h.adv hb
  refine { h2 with marks := ⟨⟨D, rfl, Nat.le_trans h.below.size hD, hK, fun D' hm e => ?_⟩, h2.marks⟩ }
  have := h.marks.lt D' hm
  omega
end

/-- Set, at any slot number: the log goes on. -/
theorem iter_set (B b : Nat) (lv : Value) (ps : List (Ent × Value)) (i : Nat) (v : Value) (bs : List UInt8) (d : Int) (W : World) (h : LogRep W B b lv ps) (hi : (i : Int) ≤ 4294967295) (hv : ∀ p ∈ ps, p.1.val.length ≤ 65536) (hb : Bts W B 5 v bs) (hl : bs.length ≤ 65536) :
    Calls Try.prog 12 #[.pointer (some ⟨b, 0, none⟩), .int .u32 i, v, .int .u64 d] W (OldPost B b lv ps.length W) := by
  rcases has_or ps i with ⟨x, xv, hp⟩ | hp
  · refine (logSet_ok B b lv ps i v bs d W x xv h hp hb hl).mono ?_
    rintro e W' ⟨rfl, v', hl', ho, _⟩
    refine ⟨⟨_, rfl⟩, _, by simp, fun p hp => ?_, hl', ho⟩
    rcases List.mem_or_eq_of_mem_set hp with hp | rfl
    · exact hv p hp
    · exact hl
  · refine (logSet_none B b lv ps i v d W h hp hi).mono ?_
    rintro e W' ⟨rfl, rfl⟩
    exact ⟨⟨_, rfl⟩, ps, rfl, hv, h, Only.refl _ _⟩

theorem iter_append (B b : Nat) (lv : Value) (ps : List (Ent × Value)) (k : ByteArray) (v : Value) (bs : List UInt8) (d n : Int) (W : World) (h : LogRep W B b lv ps) (hk : k.size ≤ maxLen) (hv : ∀ p ∈ ps, p.1.val.length ≤ 65536) (hb : Bts W B 5 v bs) (hl : bs.length ≤ 65536) (hn : ps.length < 4194304) :
    Calls Try.prog 11 #[.pointer (some ⟨b, 0, none⟩), .agg #[.string k, v, .int .u64 d, .int .u64 n]] W fun e W' => (∃ v, e = .returned v) ∧
      ∃ lv' ps', LogRep W' B b lv' ps' ∧ ps'.length ≤ ps.length + 1 ∧ (∀ p ∈ ps', p.1.val.length ≤ 65536) ∧ Only (logFp b lv) W W' ∧ (lv'.ownBlock = lv.ownBlock ∨ ∃ g, lv'.ownBlock = some g ∧ W.heap.size ≤ g) := by
  by_cases hc : chkE k bs.length n = 0
  · refine (logAppend_ok B b lv ps k v bs d n W h hk hb hc hn).mono ?_
    rintro e W' ⟨rfl, lv', v', hl', ho, hg, _⟩
    refine ⟨⟨_, rfl⟩, lv', _, hl', by simp, fun p hp => ?_, ho, hg⟩
    rcases List.mem_append.1 hp with hp | hp
    · exact hv p hp
    · simp at hp; subst hp; exact hl
  · refine (logAppend_err B b lv ps k v bs d n W h hk hb hc).mono ?_
    rintro e W' ⟨rfl, hb'⟩
    exact ⟨⟨_, rfl⟩, lv, ps, h.below hb', by omega, hv, Only.of_below hb', .inl rfl⟩

end Go.Proofs.Ytjjhndhigkhkpaa
