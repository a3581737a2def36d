/- Base, SymLk, SymLo -/
import Derived.WalkKit
import Derived.WalkSpells
import Derived.WalkLawsBesides
import Derived.Maps.AppendAt
import Derived.Lib.Hide
import Derived.Laws.IdiomStrings
import Derived.Test.YtcpophfchchpkaaGreatDoorMs9
import Derived.Laws.OwnMore
import Derived.BigQuiet
import Derived.Deep.QuietTactic
import Derived.Deep.RegionLaw
import Derived.RegionTactic
import Derived.Deep.Cut
import Derived.Test.YtcpophfchchpkaaGreatDoorProg
namespace Go.Proofs.YtcpophfchchpkaaGreatDoor
open Go Go.RowKit
attribute [go_sem] Lib.run_eql_slice_nil
/-- Between two worlds only blocks in S may have changed, and new ones have come. -/
structure Only (S : Nat → Prop) (w w' : World) : Prop where
  os : w'.os = w.os
  tape : w'.tape = w.tape
  output : w'.output = w.output
  size : w.heap.size ≤ w'.heap.size
  block : ∀ k, k < w.heap.size → ¬ S k → w'.heap[k]? = w.heap[k]?
section
variable {S T : Nat → Prop} {a b c w w' : World}
theorem Only.refl (S : Nat → Prop) (w : World) : Only S w w := ⟨rfl, rfl, rfl, Nat.le_refl _, fun _ _ _ => rfl⟩
theorem Only.trans (h : Only S a b) (k : Only T b c) (hT : ∀ i, i < a.heap.size → T i → S i) : Only S a c :=
  ⟨k.os.trans h.os, k.tape.trans h.tape, k.output.trans h.output, Nat.le_trans h.size k.size, fun i hi hn =>
    (k.block i (Nat.lt_of_lt_of_le hi h.size) (fun ht => hn (hT i hi ht))).trans (h.block i hi hn)⟩
theorem Only.mono (h : Only S a b) (hT : ∀ i, i < a.heap.size → S i → T i) : Only T a b :=
  ⟨h.os, h.tape, h.output, h.size, fun i hi hn => h.block i hi (fun hs => hn (hT i hi hs))⟩
theorem Only.of_below (h : Below a.heap.size a b) : Only S a b := ⟨h.os, h.tape, h.output, h.size, fun i hi _ => h.block i hi⟩
theorem Only.below {B : Nat} (h : Only S a b) (hS : ∀ i, i < B → i < a.heap.size → ¬ S i) (hB : B ≤ a.heap.size) : Below B a b :=
  ⟨h.os, h.tape, h.output, h.size, fun i hi => h.block i (by omega) (hS i hi (by omega))⟩
theorem Only.of_grown {row : Option Nat} (h : a.grownBy b row) : Only (fun k => row = some k) a b :=
  ⟨h.os, h.tape, h.output, h.size, fun i hi hn => h.block i hi (fun e => hn e.symm)⟩
theorem Only.drew (h : Only S a w) : Only S a w.drew := ⟨h.os, h.tape, h.output, h.size, h.block⟩
theorem Only.alloc (h : Only S a w) (o : Obj) : Only S a (w.alloc o) :=
  ⟨h.os, h.tape, h.output, Nat.le_trans h.size (by simp), fun i hi hn => (Below.heap_alloc w o i (Nat.lt_of_lt_of_le hi h.size)).trans (h.block i hi hn)⟩
theorem Only.setCell (h : Only S a w) {p : Addr} (hp : S p.block ∨ a.heap.size ≤ p.block) (u : Value) : Only S a (w.setCell p u) :=
  ⟨h.os, h.tape, h.output, by simpa [World.setCell] using h.size, fun i hi hn => (Below.heap_setCell w p u i (by
    rintro rfl
    rcases hp with hp | hp
    · exact hn hp
    · omega)).trans (h.block i hi hn)⟩
end
theorem lt_of_heap {w : World} {g : Nat} {o : Obj} (h : w.heap[g]? = some o) : g < w.heap.size := by
  rcases Nat.lt_or_ge g w.heap.size with h2 | h2
  · exact h2
  · rw [Array.getElem?_eq_none h2] at h; cases h
/-- Block g is just these cells, none of them frozen. -/
def Blk (w : World) (g : Nat) (t : TypeId) (cs : Array Value) : Prop := w.heap[g]? = some (.cells cs t (0, 0))
section
variable {w w' : World} {g : Nat} {t : TypeId} {cs : Array Value}
theorem Blk.lt (h : Blk w g t cs) : g < w.heap.size := lt_of_heap h
theorem Blk.cell (h : Blk w g t cs) (i : Nat) (v : Value) (hv : cs[i]? = some v) : w.cell? ⟨g, i, none⟩ = some v := by
  unfold Blk at h; simp [World.cell?, h, hv]
theorem Blk.frozen (h : Blk w g t cs) (i : Nat) : w.frozen? ⟨g, i, none⟩ = false := by
  unfold Blk at h; simp [World.frozen?, h]
theorem Blk.new (w : World) (t : TypeId) (cs : Array Value) : Blk (w.alloc (.cells cs t)) w.heap.size t cs := heap_alloc_new w _
theorem Blk.new2 (w : World) (o : Obj) (t : TypeId) (cs : Array Value) : Blk ((w.alloc o).alloc (.cells cs t)) (w.heap.size + 1) t cs := by
  have := Blk.new (w.alloc o) t cs
  rwa [World.size_alloc] at this
theorem Blk.new3 (w : World) (o o2 : Obj) (t : TypeId) (cs : Array Value) : Blk (((w.alloc o).alloc o2).alloc (.cells cs t)) (w.heap.size + 1 + 1) t cs := by
  have := Blk.new ((w.alloc o).alloc o2) t cs
  rwa [World.size_alloc, World.size_alloc] at this
theorem Blk.alloc (h : Blk w g t cs) (o : Obj) : Blk (w.alloc o) g t cs := (Below.heap_alloc w o g h.lt).trans h
theorem Blk.drew (h : Blk w g t cs) : Blk w.drew g t cs := h
theorem Blk.set_ (h : Blk w g t cs) (i : Nat) (u : Value) : Blk (w.setCell ⟨g, i, none⟩ u) g t (cs.setIfInBounds i u) := by
  unfold Blk at h ⊢; simp [World.setCell, Array.getElem?_modify, h]
theorem Blk.far (h : Blk w g t cs) {p : Addr} (hp : g ≠ p.block) (u : Value) : Blk (w.setCell p u) g t cs := (Below.heap_setCell w p u g hp).trans h
theorem Blk.only {S : Nat → Prop} (h : Blk w g t cs) (ho : Only S w w') (hn : ¬ S g) : Blk w' g t cs := (ho.block g h.lt hn).trans h
theorem Blk.below (h : Blk w g t cs) (hb : Below w.heap.size w w') : Blk w' g t cs := (hb.block g h.lt).trans h
theorem Blk.below_at {B : Nat} (h : Blk w g t cs) (hb : Below B w w') (hg : g < B) : Blk w' g t cs := (hb.block g hg).trans h
theorem Blk.own {o : Obj} (hb : Below (w.alloc o).heap.size (w.alloc o) w') : w'.heap[w.heap.size]? = some o ∧ w.heap.size < w'.heap.size := by
  have h1 : w.heap.size < (w.alloc o).heap.size := by simp
  refine ⟨(hb.block _ h1).trans ?_, Nat.lt_of_lt_of_le h1 hb.size⟩
  exact heap_alloc_new w o
theorem Blk.ne_ {g' : Nat} {t' : TypeId} {cs' : Array Value} {fr : Nat × Nat} (h : Blk w g t cs) (h' : w.heap[g']? = some (.cells cs' t' fr)) (hne : t ≠ t') : g ≠ g' := by
  rintro rfl
  unfold Blk at h
  rw [h] at h'
  injection h' with h'
  injection h' with _ ht
  exact hne ht
end
theorem below_own {w w1 : World} {o : Obj} (hb : Below (w.alloc o).heap.size (w.alloc o) w1) : Below w.heap.size w w1 :=
  ((Below.refl _ _).alloc (Nat.le_refl _) _).trans (hb.mono (by simp))
theorem below_drew {w w1 : World} {B : Nat} (hb : Below B w.drew w1) : Below B w w1 := ⟨hb.os, hb.tape, hb.output, hb.size, hb.block⟩
/-- A row keeps lying where only other blocks have changed. -/
theorem ownsRow_only {S : Nat → Prop} {w w' : World} {base : Nat} {e : TypeId} {size : Nat} {v : Value} {n : Nat} {xs : List Value} (h : w.ownsRow base e size v n xs) (ho : Only S w w') (hn : ∀ k, v.ownBlock = some k → ¬ S k) : w'.ownsRow base e size v n xs := by
  refine ⟨h.1, ?_⟩
  rcases h.2 with h2 | ⟨g, cap, cur, hv, hg, hh, r⟩
  · exact Or.inl h2
  · exact Or.inr ⟨g, cap, cur, hv, hg, (ho.block g (lt_of_heap hh) (hn g (by rw [hv]; rfl))).trans hh, r⟩
theorem ownsRow_base {w : World} {base base' : Nat} {e : TypeId} {size : Nat} {v : Value} {n : Nat} {xs : List Value} (h : w.ownsRow base e size v n xs) (hb : base' ≤ base) : w.ownsRow base' e size v n xs := by
  refine ⟨h.1, ?_⟩
  rcases h.2 with h2 | ⟨g, cap, cur, hv, hg, r⟩
  · exact Or.inl h2
  · exact Or.inr ⟨g, cap, cur, hv, by omega, r⟩
/-- What a slice hands to append or to a conversion: m elements of some cells, read at its address. -/
def Src (w : World) (size : Nat) (A : Option Addr) (m : Nat) (news : List Value) : Prop :=
  news.length = m * size ∧ (A = none → m = 0) ∧ ∀ a, A = some a → ∀ j u, news[j]? = some u → w.cell? (a.add j) = some u
section
variable {P : Program} (w : World)
theorem run_append_none_any (base : Nat) (t ty e : TypeId) (i : TypeInfo) (size : Nat) (ht : P.underlying t = some (.slice e)) (hi : P.info? e = some i)
    (v : Value) (n : Nat) (xs : List Value) (hown : w.ownsRow base e size v n xs) (c : Nat) :
    (Builtin.append_ #[t, t] ty #[v, .slice none 0 c]).run P w = .ok v w := by
  rcases hown.2 with ⟨rfl, rfl⟩ | ⟨g, cap, cur, rfl, _, _, hnc, _⟩
  · simp [Builtin.append_, run_underlying ht, sizeOf, typeInfo, hi, Builtin.lenOf, Builtin.firstCells]
  · simp [Builtin.append_, run_underlying ht, sizeOf, typeInfo, hi, Builtin.lenOf, Builtin.firstCells, hnc, storeCells]
/-- append onto a row of the call's own, whatever the source. -/
theorem run_append_src (base : Nat) (t ty e : TypeId) (i : TypeInfo) (z : Value) (size bytes : Nat) (ht : P.underlying t = some (.slice e)) (hi : P.info? e = some i) (hz : i.zero = some z)
    (hsize : i.size = size) (hby : i.bytes = bytes) (hzs : z.cells.size = size) (hsz : 0 < size)
    (v : Value) (n : Nat) (xs : List Value) (hown : w.ownsRow base e size v n xs)
    (A : Option Addr) (m c : Nat) (news : List Value) (hs : Src w size A m news) (h1 : ∀ u ∈ news, u.oneCell' = true)
    (h63 : n + m ≤ maxLen) (hbytes : (n + m) * bytes ≤ 140737488355328) (hbase : base ≤ w.heap.size) :
    ∃ v' w', (Builtin.append_ #[t, t] ty #[v, .slice A m c]).run P w = .ok v' w' ∧ w'.ownsRow base e size v' (n + m) (xs ++ news) ∧ w.grownBy w' v.ownBlock ∧
      (v'.ownBlock = v.ownBlock ∨ v'.ownBlock = some w.heap.size) := by
  obtain ⟨hl, hn, hc⟩ := hs
  cases A with
  | none =>
    have hm := hn rfl
    subst hm
    have : news = [] := by simpa using hl
    subst this
    exact ⟨v, w, run_append_none_any w base t ty e i size ht hi v n xs hown c, by simpa using hown, World.grownBy.refl w _, .inl rfl⟩
  | some a =>
    obtain ⟨v', w', hrun, h2, h3, _, h5⟩ := run_append_own_at (P := P) w base t ty e i z size bytes ht hi hz hsize hby hzs hsz v n xs hown a m c news hl (hc a rfl) h1 h63 hbytes hbase
    exact ⟨v', w', hrun, h2, h3, h5⟩
theorem wp_append_src {o : Oper} {a : Act} {K : Act → World → Prop} {Q : Exit → Act → World → Prop} (s x : Operand) (t : TypeId)
    (ho : o.op = .call { callee := .builtin .append, args := #[s, x], argTypes := #[t, t] })
    (base : Nat) (e : TypeId) (i : TypeInfo) (z : Value) (size bytes : Nat) (ht : P.underlying t = some (.slice e)) (hi : P.info? e = some i) (hz : i.zero = some z)
    (hsize : i.size = size) (hby : i.bytes = bytes) (hzs : z.cells.size = size) (hsz : 0 < size)
    (v : Value) (n : Nat) (xs : List Value) (hs : a.eval s = v) (hown : w.ownsRow base e size v n xs)
    (A : Option Addr) (m c : Nat) (news : List Value) (hx : a.eval x = .slice A m c) (hr : Src w size A m news) (h1 : ∀ u ∈ news, u.oneCell' = true)
    (h63 : n + m ≤ maxLen) (hbytes : (n + m) * bytes ≤ 140737488355328) (hbase : base ≤ w.heap.size)
    (h : ∀ v' w', w'.ownsRow base e size v' (n + m) (xs ++ news) → w.grownBy w' v.ownBlock → (v'.ownBlock = v.ownBlock ∨ v'.ownBlock = some w.heap.size) → K (a.put o.dst v') w') : o.wp P a w K Q := by
  obtain ⟨v', w', hrun, h2, h3, h4⟩ := run_append_src (P := P) w base t o.type e i z size bytes ht hi hz hsize hby hzs hsz v n xs hown A m c news hr h1 h63 hbytes hbase
  unfold Oper.wp execOp
  simp only [ho, resolve, invoke, builtin, Sem.run_bind, Sem.run_pure, Result.andThen_ok, List.map_toArray, List.map_cons, List.map_nil, hs, hx, hrun]
  exact h v' w' h2 h3 h4
theorem wpList_append_src {ops : Array Oper} {rest : List Oper} {o : Oper} {a : Act} {Q : Exit → Act → World → Prop} (hgd : o.guard = none) (s x : Operand) (t : TypeId)
    (ho : o.op = .call { callee := .builtin .append, args := #[s, x], argTypes := #[t, t] })
    (base : Nat) (e : TypeId) (i : TypeInfo) (z : Value) (size bytes : Nat) (ht : P.underlying t = some (.slice e)) (hi : P.info? e = some i) (hz : i.zero = some z)
    (hsize : i.size = size) (hby : i.bytes = bytes) (hzs : z.cells.size = size) (hsz : 0 < size)
    (v : Value) (n : Nat) (xs : List Value) (hs : a.eval s = v) (hown : w.ownsRow base e size v n xs)
    (A : Option Addr) (m c : Nat) (news : List Value) (hx : a.eval x = .slice A m c) (hr : Src w size A m news) (h1 : ∀ u ∈ news, u.oneCell' = true)
    (h63 : n + m ≤ maxLen) (hbytes : (n + m) * bytes ≤ 140737488355328) (hbase : base ≤ w.heap.size)
    (h : ∀ v' w', w'.ownsRow base e size v' (n + m) (xs ++ news) → w.grownBy w' v.ownBlock → (v'.ownBlock = v.ownBlock ∨ v'.ownBlock = some w.heap.size) → wpList P ops Q rest (a.put o.dst v') w') : wpList P ops Q (o :: rest) a w :=
  wpList_plain hgd fun _ hK => wp_append_src w s x t ho base e i z size bytes ht hi hz hsize hby hzs hsz v n xs hs hown A m c news hx hr h1 h63 hbytes hbase fun v' w' h2 h3 h4 => hK _ _ (h v' w' h2 h3 h4)
theorem step_append_src {ops : Array Oper} {o : Oper} {a : Act} {K : Act → World → Prop} {Q : Exit → Act → World → Prop} {E : Prop} (hgd : o.guard = none) (s x : Operand) (t : TypeId)
    (ho : o.op = .call { callee := .builtin .append, args := #[s, x], argTypes := #[t, t] })
    (base : Nat) (e : TypeId) (i : TypeInfo) (z : Value) (size bytes : Nat) (ht : P.underlying t = some (.slice e)) (hi : P.info? e = some i) (hz : i.zero = some z)
    (hsize : i.size = size) (hby : i.bytes = bytes) (hzs : z.cells.size = size) (hsz : 0 < size)
    (v : Value) (n : Nat) (xs : List Value) (hs : a.eval s = v) (hown : w.ownsRow base e size v n xs)
    (A : Option Addr) (m c : Nat) (news : List Value) (hx : a.eval x = .slice A m c) (hr : Src w size A m news) (h1 : ∀ u ∈ news, u.oneCell' = true)
    (h63 : n + m ≤ maxLen) (hbytes : (n + m) * bytes ≤ 140737488355328) (hbase : base ≤ w.heap.size)
    (h : ∀ v' w', w'.ownsRow base e size v' (n + m) (xs ++ news) → w.grownBy w' v.ownBlock → (v'.ownBlock = v.ownBlock ∨ v'.ownBlock = some w.heap.size) → K (a.put o.dst v') w') :
    if Region.wanted o (yielded ops a.tmps) = true then Oper.wp P o a w K Q else E := by
  have hw : Region.wanted o (yielded ops a.tmps) = true := by simp [Region.wanted, hgd]
  rw [if_pos hw]
  exact wp_append_src w s x t ho base e i z size bytes ht hi hz hsize hby hzs hsz v n xs hs hown A m c news hx hr h1 h63 hbytes hbase h
end
/-- The cells of bytes. -/
def bcells (bs : List UInt8) : List Value := bs.map fun x => .int .u8 (x.toNat : Int)
theorem bcells_length (bs : List UInt8) : (bcells bs).length = bs.length := by simp [bcells]
theorem bcells_one (bs : List UInt8) : ∀ u ∈ bcells bs, u.oneCell' = true := by
  intro u hu
  simp only [bcells, List.mem_map] at hu
  obtain ⟨x, _, rfl⟩ := hu
  rfl
/-- A slice that reads as bytes: it lies below block B, or in a block of bytes. -/
def Bts (w : World) (B U : Nat) (v : Value) (bs : List UInt8) : Prop :=
  ∃ A cap, v = .slice A bs.length cap ∧ bs.length ≤ cap ∧ cap ≤ maxLen ∧ (A = none → bs.length = 0) ∧
    (0 < bs.length → ∃ b off, A = some ⟨b, off, none⟩ ∧ b < w.heap.size ∧ (b < B ∨ ∃ c fr, w.heap[b]? = some (.cells c U fr)) ∧ ∀ i (h : i < bs.length), w.cell? ⟨b, off + i, none⟩ = some (.int .u8 (bs[i].toNat : Int)))
/-- What all slices of bytes keep: old blocks below B, and blocks of bytes, are as they were. -/
def KeepB (B U : Nat) (w w' : World) : Prop :=
  w.heap.size ≤ w'.heap.size ∧ ∀ k, k < w.heap.size → (k < B ∨ ∃ c fr, w.heap[k]? = some (.cells c U fr)) → w'.heap[k]? = w.heap[k]?
section
variable {w w' w2 : World} {B U : Nat} {v : Value} {bs : List UInt8}
theorem KeepB.refl (B U : Nat) (w : World) : KeepB B U w w := ⟨Nat.le_refl _, fun _ _ _ => rfl⟩
theorem KeepB.of_below (h : Below w.heap.size w w') : KeepB B U w w' := ⟨h.size, fun k hk _ => h.block k hk⟩
theorem KeepB.of_only {S : Nat → Prop} (h : Only S w w') (hS : ∀ k, k < w.heap.size → S k → B ≤ k ∧ ∀ c fr, w.heap[k]? ≠ some (.cells c U fr)) : KeepB B U w w' :=
  ⟨h.size, fun k hk hc => h.block k hk (fun hs => by
    obtain ⟨h1, h2⟩ := hS k hk hs
    rcases hc with hc | ⟨c, fr, hc⟩
    · omega
    · exact h2 c fr hc)⟩
theorem KeepB.trans (h : KeepB B U w w') (k : KeepB B U w' w2) : KeepB B U w w2 :=
  ⟨Nat.le_trans h.1 k.1, fun i hi hc => (k.2 i (Nat.lt_of_lt_of_le hi h.1) (by
    rcases hc with hc | ⟨c, fr, hc⟩
    · exact .inl hc
    · exact .inr ⟨c, fr, by rw [h.2 i hi (.inr ⟨c, fr, hc⟩)]; exact hc⟩)).trans (h.2 i hi hc)⟩
theorem Bts.keep (h : Bts w B U v bs) (k : KeepB B U w w') : Bts w' B U v bs := by
  obtain ⟨A, cap, hv, hl, hm, hn, hr⟩ := h
  refine ⟨A, cap, hv, hl, hm, hn, fun h0 => ?_⟩
  obtain ⟨b, off, hA, hb, ht, hc⟩ := hr h0
  have e := k.2 b hb ht
  refine ⟨b, off, hA, Nat.lt_of_lt_of_le hb k.1, ?_, fun i hi => ?_⟩
  · rcases ht with ht | ⟨c, fr, ht⟩
    · exact .inl ht
    · exact .inr ⟨c, fr, by rw [e]; exact ht⟩
  · rw [World.cell?_of_block (w := w) (a := ⟨b, off + i, none⟩) e]
    exact hc i hi
theorem Bts.below (h : Bts w B U v bs) (k : Below w.heap.size w w') : Bts w' B U v bs := h.keep (KeepB.of_below k)
theorem Bts.alloc (h : Bts w B U v bs) (o : Obj) : Bts (w.alloc o) B U v bs := h.below ((Below.refl _ _).alloc (Nat.le_refl _) _)
theorem Bts.drew (h : Bts w B U v bs) : Bts w.drew B U v bs := h
theorem Bts.nil (w : World) (B U : Nat) : Bts w B U (.slice none 0 0) [] := ⟨none, 0, rfl, Nat.le_refl _, Nat.zero_le _, fun _ => rfl, fun h => by simp at h⟩
/-- Only other blocks have changed (in which no byte of this slice lies). -/
theorem Bts.only {S : Nat → Prop} (h : Bts w B U v bs) (k : Only S w w') (hn : ∀ g, v.ownBlock = some g → ¬ S g) : Bts w' B U v bs := by
  obtain ⟨A, cap, hv, hl, hm, hnn, hr⟩ := h
  refine ⟨A, cap, hv, hl, hm, hnn, fun h0 => ?_⟩
  obtain ⟨b, off, hA, hb, ht, hc⟩ := hr h0
  have e := k.block b hb (hn b (by rw [hv, hA]; rfl))
  refine ⟨b, off, hA, Nat.lt_of_lt_of_le hb k.size, ?_, fun i hi => ?_⟩
  · rcases ht with ht | ⟨c, fr, ht⟩
    · exact .inl ht
    · exact .inr ⟨c, fr, by rw [e]; exact ht⟩
  · rw [World.cell?_of_block (w := w) (a := ⟨b, off + i, none⟩) e]
    exact hc i hi
/-- A row of bytes of the call's own reads as bytes. -/
theorem Bts.of_own {base : Nat} (h : w.ownsRow base U 1 v bs.length (bcells bs)) (B : Nat) : Bts w B U v bs := by
  rcases h.2 with ⟨hv, h0⟩ | ⟨g, cap, cur, hv, hg, hh, hnc, hm, hcs, ht⟩
  · exact ⟨none, 0, by rw [hv, h0], by omega, Nat.zero_le _, fun _ => h0, fun h => by omega⟩
  · refine ⟨some ⟨g, 0, none⟩, cap, hv, hnc, hm, (fun h => by cases h), fun _ => ⟨g, 0, rfl, lt_of_heap hh, .inr ⟨_, _, hh⟩, fun i hi => ?_⟩⟩
    have hc : cur[i]? = some (.int .u8 (bs[i].toNat : Int)) := by
      have : (cur.toList.take (bs.length * 1))[i]? = some (.int .u8 (bs[i].toNat : Int)) := by
        rw [ht]
        simp [bcells, hi]
      rw [List.getElem?_take, if_pos (by omega)] at this
      simpa using this
    simp only [Nat.zero_add]
    simp [World.cell?, hh, hc]
theorem add_plain (b off j : Nat) : (⟨b, off, none⟩ : Addr).add j = ⟨b, off + j, none⟩ := by
  unfold Addr.add
  split
  · rename_i h; subst h; rfl
  · rfl
/-- What such a slice hands to append. -/
theorem Bts.src (h : Bts w B U v bs) : ∃ A cap, v = .slice A bs.length cap ∧ Src w 1 A bs.length (bcells bs) := by
  obtain ⟨A, cap, hv, _, _, hn, hr⟩ := h
  refine ⟨A, cap, hv, by simp [bcells], hn, fun a ha j u hu => ?_⟩
  have hj : j < bs.length := by
    have := (List.getElem?_eq_some_iff.1 hu).1
    simpa [bcells] using this
  obtain ⟨b, off, hA, _, _, hc⟩ := hr (by omega)
  rw [ha] at hA
  injection hA with hA
  subst hA
  rw [add_plain, hc j hj]
  simp [bcells, hj] at hu
  rw [hu]
theorem Bts.src_at {A : Option Addr} {n cap : Nat} (h : Bts w B U (.slice A n cap) bs) : n = bs.length ∧ Src w 1 A bs.length (bcells bs) := by
  obtain ⟨A', cap', e, hs⟩ := h.src
  injection e with e1 e2 e3
  subst e1
  exact ⟨e2, hs⟩
theorem Bts.form (h : Bts w B U v bs) : ∃ A cap, v = .slice A bs.length cap := by obtain ⟨A, cap, hv, _⟩ := h; exact ⟨A, cap, hv⟩
theorem Bts.le (h : Bts w B U v bs) : bs.length ≤ maxLen := by obtain ⟨_, _, _, h1, h2, _⟩ := h; omega
/-- Its conversion to a string. -/
theorem Bts.string {P : Program} (h : Bts w B U v bs) (src dst : TypeId) (hs : P.underlying src = some (.slice U)) (he : P.underlying U = some (.int .u8)) (hd : P.underlying dst = some .string) :
    (convert src dst v).run P w = .ok (.string ⟨bs.toArray⟩) w := by
  obtain ⟨A, cap, rfl, _, _, hn, hr⟩ := h
  cases A with
  | none =>
    have h0 := hn rfl
    have : bs = [] := by simpa using h0
    subst this
    exact run_convert_bytes_nil w src U hs he _ _ dst hd
  | some a =>
    refine run_convert_bytes_back w src dst U a cap bs hs he hd fun j hj => ?_
    obtain ⟨b, off, hA, _, _, hc⟩ := hr (by omega)
    injection hA with hA
    subst hA
    rw [add_plain]
    exact hc j hj
end
theorem own_form {w : World} {base : Nat} {e : TypeId} {size : Nat} {v : Value} {n : Nat} {xs : List Value} (h : w.ownsRow base e size v n xs) : ∃ A cap, v = .slice A n cap ∧ n ≤ cap ∧ cap ≤ maxLen := by
  rcases h.2 with ⟨rfl, rfl⟩ | ⟨g, cap, cur, rfl, _, _, h1, h2, _⟩
  · exact ⟨none, 0, rfl, Nat.le_refl _, Nat.zero_le _⟩
  · exact ⟨_, _, rfl, h1, h2⟩
theorem below_own2 {w w1 : World} {o o2 : Obj} (hb : Below ((w.alloc o).alloc o2).heap.size ((w.alloc o).alloc o2) w1) : Below w.heap.size w w1 :=
  (((Below.refl _ _).alloc (Nat.le_refl _) _).alloc (by simp) _).trans (hb.mono (by simp; omega))
theorem own_empty (w : World) (e : TypeId) (size : Nat) : (w.alloc (.cells #[] e)).ownsRow w.heap.size e size (.slice (some ⟨w.heap.size, 0, none⟩) 0 0) 0 [] :=
  World.ownsRow_made w #[] 0 (Nat.le_refl _) (by unfold maxLen; omega) (by simp)
end Go.Proofs.YtcpophfchchpkaaGreatDoor
namespace Go.Proofs.YtcpophfchchpkaaGreatDoor
open Go Go.RowKit Go.Sy
/-- A cell of the field, when h lists have their nodes. -/
def ringV (nodes h j : Nat) : Int := if nodes ≤ j / 3 ∧ j / 3 < nodes + h then (if j % 3 = 2 then ((j / 3 - nodes + 1 : Nat) : Int) else ((j / 3 : Nat) : Int)) else 0
structure RingC (nodes heads h : Nat) (C : Array Value) : Prop where
  size : C.size = 3 * (nodes + heads)
  at_ : ∀ j, j < 3 * (nodes + heads) → C[j]? = some (.int .u32 (ringV nodes h j))
theorem RingC.set {nodes heads h : Nat} {C : Array Value} (hc : RingC nodes heads h C) (hh : h < heads) :
    RingC nodes heads (h + 1) (((C.setIfInBounds ((nodes + h) * 3) (.int .u32 ((nodes + h : Nat) : Int))).setIfInBounds ((nodes + h) * 3 + 1) (.int .u32 ((nodes + h : Nat) : Int))).setIfInBounds ((nodes + h) * 3 + 2) (.int .u32 ((h + 1 : Nat) : Int))) := by
  refine ⟨by simp [hc.size], fun j hj => ?_⟩
  have hs := hc.size
  simp only [Array.getElem?_setIfInBounds, Array.size_setIfInBounds]
  have h0 := hc.at_ j hj
  by_cases e2 : (nodes + h) * 3 + 2 = j
  · rw [if_pos e2, if_pos (by omega)]
    have : ringV nodes (h + 1) j = ((h + 1 : Nat) : Int) := by unfold ringV; rw [if_pos (by omega), if_pos (by omega)]; congr 1; omega
    rw [this]
  · rw [if_neg e2]
    by_cases e1 : (nodes + h) * 3 + 1 = j
    · rw [if_pos e1, if_pos (by omega)]
      have : ringV nodes (h + 1) j = ((nodes + h : Nat) : Int) := by unfold ringV; rw [if_pos (by omega), if_neg (by omega)]; congr 1; omega
      rw [this]
    · rw [if_neg e1]
      by_cases e0 : (nodes + h) * 3 = j
      · rw [if_pos e0, if_pos (by omega)]
        have : ringV nodes (h + 1) j = ((nodes + h : Nat) : Int) := by unfold ringV; rw [if_pos (by omega), if_neg (by omega)]; congr 1; omega
        rw [this]
      · rw [if_neg e0, h0]
        have : ringV nodes (h + 1) j = ringV nodes h j := by
          unfold ringV
          by_cases a : nodes ≤ j / 3 ∧ j / 3 < nodes + h
          · rw [if_pos a, if_pos (by omega)]
          · rw [if_neg a, if_neg (by omega)]
        rw [this]
/-- The links, h of whose lists have their nodes. -/
structure LkI (w wr : World) (gf gl : Nat) (nodes heads h : Nat) : Prop where
  f : ∃ C, RingC nodes heads h C ∧ Blk wr gf 387 C
  l : Blk wr gl 3 (madeCells #[.int .i64 0] heads)
  b : Blk wr (w.heap.size + 1 + 1) 383 #[.slice (some ⟨gf, 0, none⟩) (nodes + heads) (nodes + heads), .int .i64 nodes, .slice (some ⟨gl, 0, none⟩) heads heads]
  size : wr.heap.size = w.heap.size + 3
  below : Below w.heap.size w wr
theorem LkI.step {w wr : World} {gf gl : Nat} {nodes heads h : Nat} (hI : LkI w wr gf gl nodes heads h) (hh : h < heads) (hgf : w.heap.size ≤ gf) (hne : gl ≠ gf) (hne2 : gf ≠ w.heap.size + 1 + 1) :
    LkI w (((wr.setCell ⟨gf, (nodes + h) * 3, none⟩ (.int .u32 ((nodes + h : Nat) : Int))).setCell ⟨gf, (nodes + h) * 3 + 1, none⟩ (.int .u32 ((nodes + h : Nat) : Int))).setCell ⟨gf, (nodes + h) * 3 + 2, none⟩ (.int .u32 ((h + 1 : Nat) : Int))) gf gl nodes heads (h + 1) := by
  obtain ⟨⟨C, hc, hb⟩, hl, hbb, hs, hbe⟩ := hI
  refine ⟨⟨_, hc.set hh, ((hb.set_ _ _).set_ _ _).set_ _ _⟩, ((hl.far hne _).far hne _).far hne _, ((hbb.far (Ne.symm hne2) _).far (Ne.symm hne2) _).far (Ne.symm hne2) _, by simpa [World.setCell] using hs, ?_⟩
  exact ((hbe.setCell (p := ⟨gf, (nodes + h) * 3, none⟩) hgf _).setCell (p := ⟨gf, (nodes + h) * 3 + 1, none⟩) hgf _).setCell (p := ⟨gf, (nodes + h) * 3 + 2, none⟩) hgf _
theorem node_info : (Tryz.prog.info? 387).map (fun i => (i.zero, i.size, i.bytes)) = some (some (.agg #[.int .u32 0, .int .u32 0, .int .u32 0]), 3, 12) := by kernel_rfl
theorem int_info : (Tryz.prog.info? 3).map (fun i => (i.zero, i.size, i.bytes)) = some (some (.int .i64 0), 1, 8) := by kernel_rfl
theorem ring_any (gh n : Nat) (h : Nat) (w : World) (hc : w.cell? ⟨gh, 1, none⟩ = some (.int .i64 n)) (hn : n + h ≤ 1000000) : Calls Tryz.prog 258 #[.int .i64 h, .pointer (some ⟨gh, 0, none⟩)] w fun e w' => e = .returned (.int .u32 ((n + h : Nat) : Int)) ∧ w = w' := by
  have h1 : IntKind.i64.wrap ((n : Int) + (h : Int)) = ((n + h : Nat) : Int) := by rw [IntKind.wrap_i64]; omega
  have h2 : IntKind.u32.wrap ((n + h : Nat) : Int) = ((n + h : Nat) : Int) := by rw [IntKind.wrap_u32]; omega
  go_enter Tryz.func258, Tryz.ntmps258
  go_wp2_with fail
  go_ret
  exact ⟨rfl, rfl⟩
set_option maxHeartbeats 1000000 in
theorem linksNew_walk (nodes heads : Nat) (w : World) (hn : 1 ≤ nodes) (hh : 1 ≤ heads) (hm : nodes + heads ≤ 4096) :
    Calls Tryz.prog 190 #[.int .i64 nodes, .int .i64 heads] w fun e w' => ∃ gf gl, e = .returned (.tuple #[.pointer (some ⟨w.heap.size + 1 + 1, 0, none⟩), .int .i64 0]) ∧
      (gf = w.heap.size ∧ gl = w.heap.size + 1 ∨ gf = w.heap.size + 1 ∧ gl = w.heap.size) ∧ LkI w w' gf gl nodes heads heads := by
  have q1 : decide ((nodes : Int) < 1) = false := decide_eq_false (by omega)
  have q2 : decide ((4194304 : Int) < (nodes : Int)) = false := decide_eq_false (by omega)
  have q3 : decide ((heads : Int) < 1) = false := decide_eq_false (by omega)
  have q4 : decide ((4096 : Int) < (heads : Int)) = false := decide_eq_false (by omega)
  have q5 : IntKind.i64.wrap ((nodes : Int) + (heads : Int)) = (nodes : Int) + (heads : Int) := by rw [IntKind.wrap_i64]; omega
  obtain ⟨i1, hi1, hz1, hs1, hy1⟩ := info_parts node_info
  obtain ⟨i2, hi2, hz2, hs2, hy2⟩ := info_parts int_info
  have HM := Lib.hid hm
  obtain ⟨C, hC, hmF⟩ : ∃ C : Array Value, RingC nodes heads 0 C ∧ ∀ W : World, (Instr.makeSlice 381 (.int .i64 ((nodes : Int) + (heads : Int))) (.int .i64 ((nodes : Int) + (heads : Int)))).run Tryz.prog W = .ok (.slice (some ⟨W.heap.size, 0, none⟩) (nodes + heads) (nodes + heads)) (W.alloc (.cells C 387)) := by
    have h := fun W : World => run_makeSlice (P := Tryz.prog) (w := W) 381 387 i1 _ Tryz.underlying381 hi1 hz1 .i64 .i64 ((nodes + heads : Nat) : Int) ((nodes + heads : Nat) : Int) (by omega) (Int.le_refl _) (by rw [Int.toNat_natCast, hs1]; omega) (by rw [hy1]; omega) (by omega)
    simp only [Int.natCast_add] at h
    refine ⟨_, ⟨?_, fun j hj => ?_⟩, h⟩
    · rw [size_madeCells, hs1]; omega
    · have e : ringV nodes 0 j = 0 := by unfold ringV; rw [if_neg (by omega)]
      have h3 : j % 3 < 3 := Nat.mod_lt _ (by decide)
      simp only [madeCells, Array.getElem?_map, Array.getElem?_range, hs1]
      rw [if_pos (by omega), e]
      have : j % 3 = 0 ∨ j % 3 = 1 ∨ j % 3 = 2 := by omega
      rcases this with h | h | h <;> simp [Value.cells, h]
  have hmL : ∀ W : World, (Instr.makeSlice 101 (.int .i64 (heads : Int)) (.int .i64 (heads : Int))).run Tryz.prog W = .ok (.slice (some ⟨W.heap.size, 0, none⟩) heads heads) (W.alloc (.cells (madeCells #[.int .i64 0] heads) 3)) := by
    have h := fun W : World => run_makeSlice (P := Tryz.prog) (w := W) 101 3 i2 _ Tryz.underlying101 hi2 hz2 .i64 .i64 (heads : Int) (heads : Int) (by omega) (Int.le_refl _) (by rw [Int.toNat_natCast, hs2]; omega) (by rw [hy2]; omega) (by omega)
    simp only [Int.toNat_natCast, hs2, Nat.mul_one] at h
    exact h
  have HC := Lib.hid hC
  clear hC hm hi1 hz1 hs1 hy1 hi2 hz2 hs2 hy2
  go_enter Tryz.func190, Tryz.ntmps190
  go_upto_region 3 with fail
  go_region
  · have HI : Hid (LkI w ((((w.alloc (.cells C 387)).alloc (.cells (madeCells #[.int .i64 0] heads) 3)).alloc (.cells #[.slice (some ⟨w.heap.size, 0, none⟩) (nodes + heads) (nodes + heads), .int .i64 nodes, .slice (some ⟨w.heap.size + 1, 0, none⟩) heads heads] 383)).drew) w.heap.size (w.heap.size + 1) nodes heads 0) :=
      Lib.hid ⟨⟨C, HC.out, (((Blk.new _ _ _).alloc _).alloc _).drew⟩, ((Blk.new2 _ _ _ _).alloc _).drew, (Blk.new3 _ _ _ _ _).drew, by simp, ((((Below.refl _ _).alloc (Nat.le_refl _) _).alloc (by simp) _).alloc (by rw [World.size_alloc, World.size_alloc]; omega) _).drew⟩
    generalize World.drew _ = W at HI ⊢
    clear hmF hmL HC
    go_wp2_with fail
    go_loopw [33] (fun i wr => ∃ h : Nat, h ≤ heads ∧ i = .int .i64 h ∧ LkI w wr w.heap.size (w.heap.size + 1) nodes heads h) (fun i _ => heads - (intOf i).toNat)
    case atStart => exact ⟨0, Nat.zero_le _, rfl, HI.out⟩
    case round =>
      obtain ⟨h, hle, rfl, hI⟩ := hrel
      have HJ := Lib.hid hI
      by_cases hlt : h < heads
      · have hltI : (h : Int) < (heads : Int) := by omega
        obtain ⟨⟨C, hc, hbf⟩, hbl, hbb, hsz, hbe⟩ := hI
        have hmI : (nodes : Int) + (heads : Int) ≤ 4096 := by have := HM.out; omega
        have b0 : wr.cell? ⟨w.heap.size + 1 + 1, 0, none⟩ = some (.slice (some ⟨w.heap.size, 0, none⟩) (nodes + heads) (nodes + heads)) := hbb.cell 0 _ rfl
        have b1 : wr.cell? ⟨w.heap.size + 1 + 1, 1, none⟩ = some (.int .i64 nodes) := hbb.cell 1 _ rfl
        have HR := Lib.hid (ring_any (w.heap.size + 1 + 1) nodes h wr b1 (by have := HM.out; omega))
        have w0 : IntKind.i64.wrap ((h : Int) + 1) = (h : Int) + 1 := by rw [IntKind.wrap_i64]; omega
        have w1 : IntKind.u32.wrap ((h : Int) + 1) = (h : Int) + 1 := by rw [IntKind.wrap_u32]; omega
        have f0 := hbf.frozen ((nodes + h) * 3)
        have f1 := hbf.frozen ((nodes + h) * 3 + 1)
        have f2 := hbf.frozen ((nodes + h) * 3 + 2)
        have hs3 := hc.size
        have c0 := hbf.cell ((nodes + h) * 3) _ (hc.at_ _ (by omega))
        have c1 := hbf.cell ((nodes + h) * 3 + 1) _ (hc.at_ _ (by omega))
        have c2 := hbf.cell ((nodes + h) * 3 + 2) _ (hc.at_ _ (by omega))
        have HSt := Lib.hid (HJ.out.step hlt (by omega) (by omega) (by omega))
        have hidx : (nodes + h : Nat) < nodes + heads := by omega
        clear hbf hbl hbb hsz hbe hc hs3
        go_wp2_with fail
        refine HR.out.mono ?_
        rintro e w2 ⟨rfl, rfl⟩
        go_wp2_with fail
        go_roundw
        case rel => exact ⟨h + 1, by omega, by go_num, HSt.out⟩
        case measure => simp [intOf]; omega
      · obtain rfl : h = heads := by omega
        clear hI
        go_wp2_with fail
        go_ret2
        exact ⟨w.heap.size, (w.heap.size + 1), rfl, by omega, HJ.out⟩
  · have HI : Hid (LkI w ((((w.alloc (.cells (madeCells #[.int .i64 0] heads) 3)).alloc (.cells C 387)).alloc (.cells #[.slice (some ⟨w.heap.size + 1, 0, none⟩) (nodes + heads) (nodes + heads), .int .i64 nodes, .slice (some ⟨w.heap.size, 0, none⟩) heads heads] 383)).drew) (w.heap.size + 1) w.heap.size nodes heads 0) :=
      Lib.hid ⟨⟨C, HC.out, ((Blk.new2 _ _ _ _).alloc _).drew⟩, (((Blk.new _ _ _).alloc _).alloc _).drew, (Blk.new3 _ _ _ _ _).drew, by simp, ((((Below.refl _ _).alloc (Nat.le_refl _) _).alloc (by simp) _).alloc (by rw [World.size_alloc, World.size_alloc]; omega) _).drew⟩
    generalize World.drew _ = W at HI ⊢
    clear hmF hmL HC
    go_wp2_with fail
    go_loopw [33] (fun i wr => ∃ h : Nat, h ≤ heads ∧ i = .int .i64 h ∧ LkI w wr (w.heap.size + 1) w.heap.size nodes heads h) (fun i _ => heads - (intOf i).toNat)
    case atStart => exact ⟨0, Nat.zero_le _, rfl, HI.out⟩
    case round =>
      obtain ⟨h, hle, rfl, hI⟩ := hrel
      have HJ := Lib.hid hI
      by_cases hlt : h < heads
      · have hltI : (h : Int) < (heads : Int) := by omega
        obtain ⟨⟨C, hc, hbf⟩, hbl, hbb, hsz, hbe⟩ := hI
        have hmI : (nodes : Int) + (heads : Int) ≤ 4096 := by have := HM.out; omega
        have b0 : wr.cell? ⟨w.heap.size + 1 + 1, 0, none⟩ = some (.slice (some ⟨(w.heap.size + 1), 0, none⟩) (nodes + heads) (nodes + heads)) := hbb.cell 0 _ rfl
        have b1 : wr.cell? ⟨w.heap.size + 1 + 1, 1, none⟩ = some (.int .i64 nodes) := hbb.cell 1 _ rfl
        have HR := Lib.hid (ring_any (w.heap.size + 1 + 1) nodes h wr b1 (by have := HM.out; omega))
        have w0 : IntKind.i64.wrap ((h : Int) + 1) = (h : Int) + 1 := by rw [IntKind.wrap_i64]; omega
        have w1 : IntKind.u32.wrap ((h : Int) + 1) = (h : Int) + 1 := by rw [IntKind.wrap_u32]; omega
        have f0 := hbf.frozen ((nodes + h) * 3)
        have f1 := hbf.frozen ((nodes + h) * 3 + 1)
        have f2 := hbf.frozen ((nodes + h) * 3 + 2)
        have hs3 := hc.size
        have c0 := hbf.cell ((nodes + h) * 3) _ (hc.at_ _ (by omega))
        have c1 := hbf.cell ((nodes + h) * 3 + 1) _ (hc.at_ _ (by omega))
        have c2 := hbf.cell ((nodes + h) * 3 + 2) _ (hc.at_ _ (by omega))
        have HSt := Lib.hid (HJ.out.step hlt (by omega) (by omega) (by omega))
        have hidx : (nodes + h : Nat) < nodes + heads := by omega
        clear hbf hbl hbb hsz hbe hc hs3
        go_wp2_with fail
        refine HR.out.mono ?_
        rintro e w2 ⟨rfl, rfl⟩
        go_wp2_with fail
        go_roundw
        case rel => exact ⟨h + 1, by omega, by go_num, HSt.out⟩
        case measure => simp [intOf]; omega
      · obtain rfl : h = heads := by omega
        clear hI
        go_wp2_with fail
        go_ret2
        exact ⟨(w.heap.size + 1), w.heap.size, rfl, by omega, HJ.out⟩
end Go.Proofs.YtcpophfchchpkaaGreatDoor
namespace Go.Proofs.YtcpophfchchpkaaGreatDoor
open Go Go.RowKit Go.Sy
noncomputable def ringZ (nodes i : Nat) : Option AV :=
  match Nat.blt (Nat.div i 3) nodes with
  | true => some (.i .u32 (.ofNat 0))
  | false => (match Nat.mod i 3 with
    | 2 => frc (Nat.sub (Nat.succ (Nat.div i 3)) nodes) fun k => some (.i .u32 (.ofNat k))
    | _ => frc (Nat.div i 3) fun k => some (.i .u32 (.ofNat k)))
noncomputable def linksNew (args : List AV) (n : Nat) (H : Heap) : VR :=
  match args with
  | [.i .i64 (.ofNat nodes), .i .i64 (.ofNat heads)] => frc (Nat.add nodes heads) fun m => (match Nat.ble 1 nodes, Nat.ble 1 heads, Nat.ble m 4096 with
    | true, true, true => frc (Nat.mul 3 m) fun c =>
      Q8.set (some (.row 387 (ringZ nodes) c .e true false)) H n fun H => frc (Nat.succ n) fun n1 =>
      Q8.set (some (.row 3 (zpat [.i .i64 (.ofNat 0)]) heads .e true false)) H n1 fun H => frc (Nat.succ n1) fun n2 =>
      putCells [.sl n 0 m (.k m), .i .i64 (.ofNat nodes), .sl n1 0 heads (.k heads)] .e 0 fun c =>
      Q8.set (some (.row 383 (fun _ => none) 3 c true false)) H n2 fun H => frc (Nat.succ n2) fun n3 => .ok (.tup [.p n2 0, .i .i64 (.ofNat 0)]) n3 H
    | _, _, _ => .er [301])
  | _ => .er [300]
noncomputable def orcL : Orc := fun x => match Nat.beq x 190 with | true => some linksNew | false => none
section
variable {P : Program}
/-- Three new blocks. -/
theorem alloc3 {s : Sg} {H : Heap} {w w' : World} {n b0 b1 b2 : Nat} {A0 A1 A2 : Go.Sy.Blk} {o0 o1 o2 : Obj} (h : Rel P s H w) (hf : Free s n (n + 3)) (hn : n + 3 ≤ LIM) (hb : Below w.heap.size w w') (hs : w'.heap.size = w.heap.size + 3)
    (c0 : w.heap.size ≤ b0) (c1 : w.heap.size ≤ b1) (c2 : w.heap.size ≤ b2) (d1 : b0 ≠ b1) (d2 : b0 ≠ b2) (d3 : b1 ≠ b2) (s' : Sg) (hs' : s' = ((s.set n b0 0).set (n + 1) b1 0).set (n + 2) b2 0)
    (e0 : w'.heap[b0]? = some o0) (e1 : w'.heap[b1]? = some o1) (e2 : w'.heap[b2]? = some o2) (r0 : BlkR P s' n A0 o0) (r1 : BlkR P s' (n + 1) A1 o1) (r2 : BlkR P s' (n + 2) A2 o2) :
    Rel P s' (Q8.upd (Q8.upd (Q8.upd H n (some A0)) (n + 1) (some A1)) (n + 2) (some A2)) w' ∧ Step s n H w s' (n + 3) (Q8.upd (Q8.upd (Q8.upd H n (some A0)) (n + 1) (some A1)) (n + 2) (some A2)) w' := by
  have k0 := hf n (Nat.le_refl _) (by omega)
  have k1 := hf (n + 1) (by omega) (by omega)
  have k2 := hf (n + 2) (by omega) (by omega)
  have hg : ∀ x, x < LIM → Q8.get (Q8.upd (Q8.upd (Q8.upd H n (some A0)) (n + 1) (some A1)) (n + 2) (some A2)) x = if x = n + 2 then some A2 else if x = n + 1 then some A1 else if x = n then some A0 else Q8.get H x := fun x hx => by
    rw [Q8.get_upd _ _ _ _ (by omega) hx, Q8.get_upd _ _ _ _ (by omega) hx, Q8.get_upd _ _ _ _ (by omega) hx]
    simp only [eq_comm (b := x)]
  have hblk : ∀ x, s'.blk x = if x = n + 2 then some b2 else if x = n + 1 then some b1 else if x = n then some b0 else s.blk x := fun x => by subst hs'; rfl
  have hcap : ∀ x, x ≠ n → x ≠ n + 1 → x ≠ n + 2 → s'.cap x = s.cap x := fun x a b c => by subst hs'; simp [Sg.set, a, b, c]
  have hle : s.le s' := fun x b hx => by
    have a : x ≠ n := fun e => by rw [e, k0] at hx; cases hx
    have b' : x ≠ n + 1 := fun e => by rw [e, k1] at hx; cases hx
    have c : x ≠ n + 2 := fun e => by rw [e, k2] at hx; cases hx
    exact ⟨by rw [hblk, if_neg c, if_neg b', if_neg a]; exact hx, hcap x a b' c⟩
  have hold : ∀ x b, x < LIM → Q8.get H x ≠ none → s.blk x = some b → b < w.heap.size := fun x b hx h1 h2 => by
    obtain ⟨B, hB⟩ := Option.ne_none_iff_exists'.1 h1
    exact h.lt hx hB h2
  -- what a symbol of the new heap stands for
  have hwhat : ∀ x b, x < LIM → Q8.get (Q8.upd (Q8.upd (Q8.upd H n (some A0)) (n + 1) (some A1)) (n + 2) (some A2)) x ≠ none → s'.blk x = some b →
      (x = n + 2 ∧ b = b2) ∨ (x = n + 1 ∧ b = b1) ∨ (x = n ∧ b = b0) ∨ (b < w.heap.size ∧ Q8.get H x ≠ none ∧ s.blk x = some b) := fun x b hx h1 h2 => by
    rw [hg x hx] at h1
    rw [hblk] at h2
    by_cases a2 : x = n + 2
    · rw [if_pos a2] at h2; injection h2 with h2; exact .inl ⟨a2, h2.symm⟩
    · rw [if_neg a2] at h1 h2
      by_cases a1 : x = n + 1
      · rw [if_pos a1] at h2; injection h2 with h2; exact .inr (.inl ⟨a1, h2.symm⟩)
      · rw [if_neg a1] at h1 h2
        by_cases a0 : x = n
        · rw [if_pos a0] at h2; injection h2 with h2; exact .inr (.inr (.inl ⟨a0, h2.symm⟩))
        · rw [if_neg a0] at h1 h2
          exact .inr (.inr (.inr ⟨hold x b hx h1 h2, h1, h2⟩))
  refine ⟨⟨fun x b hx => ?_, fun g hgl => (hle g g (h.glob g hgl)).1, fun x A hx hA => ?_, fun x y b hx hy h1 h2 h3 h4 => ?_⟩, fun x hx => ?_, by omega, fun b hb' _ => hb.block b hb', fun y b hy h1 h2 h3 => ?_, hb.os, hb.tape, hb.output⟩
  · rw [hblk] at hx
    by_cases a2 : x = n + 2
    · omega
    · by_cases a1 : x = n + 1
      · omega
      · by_cases a0 : x = n
        · omega
        · rw [if_neg a2, if_neg a1, if_neg a0] at hx; exact h.lim x b hx
  · rw [hg x hx] at hA
    by_cases a2 : x = n + 2
    · rw [if_pos a2] at hA; injection hA with hA; subst hA a2
      exact ⟨b2, o2, by rw [hblk, if_pos rfl], e2, r2⟩
    · rw [if_neg a2] at hA
      by_cases a1 : x = n + 1
      · rw [if_pos a1] at hA; injection hA with hA; subst hA a1
        exact ⟨b1, o1, by rw [hblk, if_neg (by omega), if_pos rfl], e1, r1⟩
      · rw [if_neg a1] at hA
        by_cases a0 : x = n
        · rw [if_pos a0] at hA; injection hA with hA; subst hA a0
          exact ⟨b0, o0, by rw [hblk, if_neg (by omega), if_neg (by omega), if_pos rfl], e0, r0⟩
        · rw [if_neg a0] at hA
          obtain ⟨b, o, x1, x2, x3⟩ := h.blk x A hx hA
          exact ⟨b, o, (hle x b x1).1, by rw [hb.block b (Array.getElem?_eq_some_iff.1 x2).1]; exact x2, x3.le hle x1⟩
  · have p := hwhat x b hx h1 h3
    have q := hwhat y b hy h2 h4
    rcases p with ⟨p1, p2⟩ | ⟨p1, p2⟩ | ⟨p1, p2⟩ | ⟨p1, p2, p3⟩ <;> rcases q with ⟨q1, q2⟩ | ⟨q1, q2⟩ | ⟨q1, q2⟩ | ⟨q1, q2, q3⟩ <;> first | omega | exact h.inj x y b hx hy p2 q2 p3 q3
  · rw [hblk]
    exact ⟨by rw [if_neg (by omega), if_neg (by omega), if_neg (by omega)], hcap x (by omega) (by omega) (by omega)⟩
  · rcases hwhat y b hy h1 h2 with ⟨p1, p2⟩ | ⟨p1, p2⟩ | ⟨p1, p2⟩ | ⟨p1, p2, p3⟩
    · omega
    · omega
    · omega
    · exact ⟨y, hy, p2, p3⟩
end
theorem ringZ_eq (nodes heads i : Nat) (A : AV) (hi : i < 3 * (nodes + heads)) (h : ringZ nodes i = some A) : A = .i .u32 (ringV nodes heads i) := by
  have h3 : Nat.mod i 3 = i % 3 := rfl
  have hd : Nat.div i 3 = i / 3 := rfl
  unfold ringZ at h
  split at h
  · rename_i hb
    have hb : i / 3 < nodes := Nat.le_of_ble_eq_true hb
    injection h with h
    subst h
    unfold ringV; rw [if_neg (by omega)]; rfl
  · rename_i hb
    have hb : ¬ i / 3 < nodes := fun e => by have : Nat.blt (Nat.div i 3) nodes = true := Nat.ble_eq_true_of_le e; rw [hb] at this; cases this
    split at h
    · rename_i hm
      rw [frc_eq] at h
      injection h with h; subst h
      unfold ringV; rw [if_pos (by omega), if_pos (by omega)]
      show AV.i .u32 ((Nat.sub (Nat.succ (Nat.div i 3)) nodes : Nat) : Int) = _
      have : Nat.sub (Nat.succ (Nat.div i 3)) nodes = i / 3 - nodes + 1 := by
        rw [hd]
        show (i / 3 + 1) - nodes = _
        generalize i / 3 = q at hb ⊢
        omega
      rw [this]
    · rename_i hm
      rw [frc_eq] at h
      injection h with h; subst h
      have hm2 : ¬ i % 3 = 2 := fun e => hm (h3.trans e)
      unfold ringV; rw [if_pos (by omega), if_neg hm2]; rfl
theorem linksNew_good (args : List AV) (n : Nat) (H : Heap) (v : AV) (n' : Nat) (H' : Heap) (h : linksNew args n H = .ok v n' H') : FnGood Tryz.prog 190 args n H v n' H' := by
  unfold linksNew at h
  split at h
  · rename_i nodes heads
    rw [frc_eq] at h
    split at h
    · rename_i hb1 hb2 hb3
      have hb1 : 1 ≤ nodes := Nat.le_of_ble_eq_true hb1
      have hb2 : 1 ≤ heads := Nat.le_of_ble_eq_true hb2
      have hb3 : nodes + heads ≤ 4096 := Nat.le_of_ble_eq_true hb3
      simp only [frc_eq, Q8.set_k, putCells_k] at h
      injection h with h1 h2 h3
      subst h1 h2 h3
      refine ⟨by omega, fun s w Args R hA hr hf hl hR => ?_⟩
      obtain ⟨u, us, hu, hus, rfl⟩ := concL_cons.1 hA
      obtain ⟨u2, us2, hu2, hus2, rfl⟩ := concL_cons.1 hus
      rw [concL_nil] at hus2; subst hus2
      simp only [AV.conc, Option.some.injEq] at hu hu2
      subst hu hu2
      refine callsIn_wide.2 ((linksNew_walk nodes heads w hb1 hb2 hb3).mono ?_)
      rintro e w' ⟨gf, gl, rfl, hg, ⟨C, hc, hbf⟩, hbl, hbb, hsz, hbe⟩
      have hs1 : ∀ s0 : Sg, ((((s.set n gf 0).set (n + 1) gl 0).set (n + 2) (w.heap.size + 1 + 1) 0) = s0) → s0.blk n = some gf ∧ s0.blk (n + 1) = some gl ∧ s0.blk (n + 2) = some (w.heap.size + 1 + 1) := by
        rintro s0 rfl
        refine ⟨?_, ?_, ?_⟩ <;> simp [Sg.set]
      obtain ⟨s', hs'⟩ : ∃ s', s' = ((s.set n gf 0).set (n + 1) gl 0).set (n + 2) (w.heap.size + 1 + 1) 0 := ⟨_, rfl⟩
      obtain ⟨x0, x1, x2⟩ := hs1 s' hs'.symm
      have key := alloc3 (P := Tryz.prog) (A0 := .row 387 (ringZ nodes) (Nat.mul 3 (Nat.add nodes heads)) .e true false) (A1 := .row 3 (zpat [.i .i64 (.ofNat 0)]) heads .e true false)
        (A2 := .row 383 (fun _ => none) 3 (T.e.puts [.sl n 0 (Nat.add nodes heads) (.k (Nat.add nodes heads)), .i .i64 (.ofNat nodes), .sl (Nat.succ n) 0 heads (.k heads)] 0) true false)
        hr hf hl hbe hsz (b0 := gf) (b1 := gl) (b2 := w.heap.size + 1 + 1) (by omega) (by omega) (by omega) (by omega) (by omega) (by omega) s' hs' hbf hbl hbb ?_ ?_ ?_
      · refine hR _ s' w' ?_ key.1 key.2
        simp only [AV.conc, concL]
        rw [show (Nat.succ (Nat.succ n)) = n + 2 from rfl, x2]
        rfl
      · refine ⟨rfl, by rw [hc.size]; exact Nat.le_refl _, fun i A hA => ?_, by rw [if_pos rfl, hc.size]; rfl, .inl rfl⟩
        have hlt : i < 3 * (nodes + heads) := cellAt_lt hA
        rw [cellAt_eq, if_pos (show i < Nat.mul 3 (Nat.add nodes heads) from hlt)] at hA
        have := ringZ_eq nodes heads i A hlt hA
        subst this
        exact ⟨_, rfl, hc.at_ i hlt, rfl⟩
      · exact rowZ (vs := [.int .i64 0]) rfl rfl _
      · refine ⟨rfl, by simp, fun i A hA => ?_, rfl, .inl rfl⟩
        have hlt := cellAt_lt hA
        rw [cellAt_eq, if_pos hlt, T.get_puts, if_pos (by simp; omega)] at hA
        have : i = 0 ∨ i = 1 ∨ i = 2 := by omega
        rcases this with rfl | rfl | rfl
        · have hA : AV.sl n 0 (Nat.add nodes heads) (.k (Nat.add nodes heads)) = A := by simpa using hA
          subst hA
          exact ⟨_, sl_conc.2 ⟨gf, x0, by simp [Cap.fits], rfl⟩, rfl, rfl⟩
        · have hA : AV.i .i64 (.ofNat nodes) = A := by simpa using hA
          subst hA
          exact ⟨_, rfl, rfl, rfl⟩
        · have hA : AV.sl (n + 1) 0 heads (.k heads) = A := by simpa using hA
          subst hA
          exact ⟨_, sl_conc.2 ⟨gl, x1, by simp [Cap.fits], rfl⟩, rfl, rfl⟩
    · cases h
  · cases h
theorem orcL_ok : OrcOk Tryz.prog orcL := orcOk_one linksNew_good
end Go.Proofs.YtcpophfchchpkaaGreatDoor
