/- Base, Phase, Take, Clone, ScrM, AudM -/
import Derived.WalkKit
import Derived.WalkSpells
import Derived.WalkLawsBesides
import Derived.Maps.AppendAt
import Derived.Lib.Hide
import Derived.Laws.IdiomStrings
import Derived.Deep.RegionHeld3
import Derived.StillTail
import Derived.Test.YtnabbimompapfaaRows
import Derived.BigQuiet
import Derived.Deep.QuietTactic
import Derived.Deep.RegionLaw
import Derived.RegionTactic
import Derived.Laws.BitsAllLaws
import Derived.Lib.Slices
namespace Go.Proofs.Ytnabbimompapfaa
open Go Go.RowKit
theorem zH {p : Prop} (h : p) : RowKit.Hid p := h
theorem zN (n : Nat) : n ≤ n := Nat.le_refl n
theorem zL (B : Nat) (w : World) : Below B w w := Below.refl B w
attribute [go_sem] Lib.run_eql_slice_nil
structure Only (S : Nat → Prop) (w w' : World) : Prop where
 os : w'.os = w.os
 tape : w'.tape = w.tape
 output : w'.output = w.output
 size : w.heap.size ≤ w'.heap.size
 block : ∀ k, k < w.heap.size → ¬ S k → w'.heap[k]? = w.heap[k]?
section
variable {S T : Nat → Prop} {a b c w w' : World}
theorem Only.refl (S : Nat → Prop) (w : World) : Only S w w := ⟨rfl, rfl, rfl, zN _, fun _ _ _ => rfl⟩
theorem Only.trans (h : Only S a b) (k : Only T b c) (hT : ∀ i, i < a.heap.size → T i → S i) : Only S a c :=
 ⟨k.os.trans h.os, k.tape.trans h.tape, k.output.trans h.output, Nat.le_trans h.size k.size, fun i hi hn =>
  (k.block i (Nat.lt_of_lt_of_le hi h.size) (fun ht => hn (hT i hi ht))).trans (h.block i hi hn)⟩
theorem Only.mono (h : Only S a b) (hT : ∀ i, i < a.heap.size → S i → T i) : Only T a b :=
 ⟨h.os, h.tape, h.output, h.size, fun i hi hn => h.block i hi (fun hs => hn (hT i hi hs))⟩
theorem Only.of_below (h : Below a.heap.size a b) : Only S a b := ⟨h.os, h.tape, h.output, h.size, fun i hi _ => h.block i hi⟩
theorem Only.below {B : Nat} (h : Only S a b) (hS : ∀ i, i < B → i < a.heap.size → ¬ S i) (hB : B ≤ a.heap.size) : Below B a b :=
 ⟨h.os, h.tape, h.output, h.size, fun i hi => h.block i (by omega) (hS i hi (by omega))⟩
theorem Only.of_grown {row : Option Nat} (h : a.grownBy b row) : Only (fun k => row = some k) a b :=
 ⟨h.os, h.tape, h.output, h.size, fun i hi hn => h.block i hi (fun e => hn e.symm)⟩
theorem Only.drew (h : Only S a w) : Only S a w.drew := ⟨h.os, h.tape, h.output, h.size, h.block⟩
theorem Only.alloc (h : Only S a w) (o : Obj) : Only S a (w.alloc o) :=
 ⟨h.os, h.tape, h.output, Nat.le_trans h.size (by simp), fun i hi hn => (Below.heap_alloc w o i (Nat.lt_of_lt_of_le hi h.size)).trans (h.block i hi hn)⟩
theorem Only.setCell (h : Only S a w) {p : Addr} (hp : S p.block ∨ a.heap.size ≤ p.block) (u : Value) : Only S a (w.setCell p u) :=
 ⟨h.os, h.tape, h.output, by simpa [World.setCell] using h.size, fun i hi hn => (Below.heap_setCell w p u i (by
  rintro rfl
  rcases hp with hp | hp
  ·exact hn hp
  ·omega)).trans (h.block i hi hn)⟩
end
theorem lt_of_heap {w : World} {g : Nat} {o : Obj} (h : w.heap[g]? = some o) : g < w.heap.size := by
 rcases Nat.lt_or_ge g w.heap.size with h2 | h2
 ·exact h2
 ·rw [Array.getElem?_eq_none h2] at h; cases h
def Blk (w : World) (g : Nat) (t : TypeId) (cs : Array Value) : Prop := w.heap[g]? = some (.cells cs t (0, 0))
section
variable {w w' : World} {g : Nat} {t : TypeId} {cs : Array Value}
theorem Blk.lt (h : Blk w g t cs) : g < w.heap.size := lt_of_heap h
theorem Blk.cell (h : Blk w g t cs) (i : Nat) (v : Value) (hv : cs[i]? = some v) : w.cell? ⟨g, i, none⟩ = some v := by
 unfold Blk at h; simp [World.cell?, h, hv]
theorem Blk.frozen (h : Blk w g t cs) (i : Nat) : w.frozen? ⟨g, i, none⟩ = false := by
 unfold Blk at h; simp [World.frozen?, h]
theorem Blk.new (w : World) (t : TypeId) (cs : Array Value) : Blk (w.alloc (.cells cs t)) w.heap.size t cs := heap_alloc_new w _
theorem Blk.new2 (w : World) (o : Obj) (t : TypeId) (cs : Array Value) : Blk ((w.alloc o).alloc (.cells cs t)) (w.heap.size + 1) t cs := by
 have := Blk.new (w.alloc o) t cs
 rwa [World.size_alloc] at this
theorem Blk.new3 (w : World) (o o2 : Obj) (t : TypeId) (cs : Array Value) : Blk (((w.alloc o).alloc o2).alloc (.cells cs t)) (w.heap.size + 1 + 1) t cs := by
 have := Blk.new ((w.alloc o).alloc o2) t cs
 rwa [World.size_alloc, World.size_alloc] at this
theorem Blk.alloc (h : Blk w g t cs) (o : Obj) : Blk (w.alloc o) g t cs := (Below.heap_alloc w o g h.lt).trans h
theorem Blk.drew (h : Blk w g t cs) : Blk w.drew g t cs := h
theorem Blk.set_ (h : Blk w g t cs) (i : Nat) (u : Value) : Blk (w.setCell ⟨g, i, none⟩ u) g t (cs.setIfInBounds i u) := by
 unfold Blk at h ⊢; simp [World.setCell, Array.getElem?_modify, h]
theorem Blk.far (h : Blk w g t cs) {p : Addr} (hp : g ≠ p.block) (u : Value) : Blk (w.setCell p u) g t cs := (Below.heap_setCell w p u g hp).trans h
theorem Blk.only {S : Nat → Prop} (h : Blk w g t cs) (ho : Only S w w') (hn : ¬ S g) : Blk w' g t cs := (ho.block g h.lt hn).trans h
theorem Blk.below (h : Blk w g t cs) (hb : Below w.heap.size w w') : Blk w' g t cs := (hb.block g h.lt).trans h
theorem Blk.below_at {B : Nat} (h : Blk w g t cs) (hb : Below B w w') (hg : g < B) : Blk w' g t cs := (hb.block g hg).trans h
theorem Blk.own {o : Obj} (hb : Below (w.alloc o).heap.size (w.alloc o) w') : w'.heap[w.heap.size]? = some o ∧ w.heap.size < w'.heap.size := by
 have h1 : w.heap.size < (w.alloc o).heap.size := by simp
 refine ⟨(hb.block _ h1).trans ?_, Nat.lt_of_lt_of_le h1 hb.size⟩
 exact heap_alloc_new w o
theorem Blk.ne_ {g' : Nat} {t' : TypeId} {cs' : Array Value} {fr : Nat × Nat} (h : Blk w g t cs) (h' : w.heap[g']? = some (.cells cs' t' fr)) (hne : t ≠ t') : g ≠ g' := by
 rintro rfl
 unfold Blk at h
 rw [h] at h'
 injection h' with h'
 injection h' with _ ht
 exact hne ht
end
theorem below_own {w w1 : World} {o : Obj} (hb : Below (w.alloc o).heap.size (w.alloc o) w1) : Below w.heap.size w w1 :=
 ((zL _ _).alloc (zN _) _).trans (hb.mono (by simp))
theorem below_drew {w w1 : World} {B : Nat} (hb : Below B w.drew w1) : Below B w w1 := ⟨hb.os, hb.tape, hb.output, hb.size, hb.block⟩
theorem ownsRow_only {S : Nat → Prop} {w w' : World} {base : Nat} {e : TypeId} {size : Nat} {v : Value} {n : Nat} {xs : List Value} (h : w.ownsRow base e size v n xs) (ho : Only S w w') (hn : ∀ k, v.ownBlock = some k → ¬ S k) : w'.ownsRow base e size v n xs := by
 refine ⟨h.1, ?_⟩
 rcases h.2 with h2 | ⟨g, cap, cur, hv, hg, hh, r⟩
 ·exact Or.inl h2
 ·exact Or.inr ⟨g, cap, cur, hv, hg, (ho.block g (lt_of_heap hh) (hn g (by rw [hv]; rfl))).trans hh, r⟩
theorem ownsRow_base {w : World} {base base' : Nat} {e : TypeId} {size : Nat} {v : Value} {n : Nat} {xs : List Value} (h : w.ownsRow base e size v n xs) (hb : base' ≤ base) : w.ownsRow base' e size v n xs := by
 refine ⟨h.1, ?_⟩
 rcases h.2 with h2 | ⟨g, cap, cur, hv, hg, r⟩
 ·exact Or.inl h2
 ·exact Or.inr ⟨g, cap, cur, hv, by omega, r⟩
def Src (w : World) (size : Nat) (A : Option Addr) (m : Nat) (news : List Value) : Prop :=
 news.length = m * size ∧ (A = none → m = 0) ∧ ∀ a, A = some a → ∀ j u, news[j]? = some u → w.cell? (a.add j) = some u
section
variable {P : Program} (w : World)
theorem run_append_none_any (base : Nat) (t ty e : TypeId) (i : TypeInfo) (size : Nat) (ht : P.underlying t = some (.slice e)) (hi : P.info? e = some i)
  (v : Value) (n : Nat) (xs : List Value) (hown : w.ownsRow base e size v n xs) (c : Nat) :
  (Builtin.append_ #[t, t] ty #[v, .slice none 0 c]).run P w = .ok v w := by
 rcases hown.2 with ⟨rfl, rfl⟩ | ⟨g, cap, cur, rfl, _, _, hnc, _⟩
 ·simp [Builtin.append_, run_underlying ht, sizeOf, typeInfo, hi, Builtin.lenOf, Builtin.firstCells]
 ·simp [Builtin.append_, run_underlying ht, sizeOf, typeInfo, hi, Builtin.lenOf, Builtin.firstCells, hnc, storeCells]
theorem run_append_src (base : Nat) (t ty e : TypeId) (i : TypeInfo) (z : Value) (size bytes : Nat) (ht : P.underlying t = some (.slice e)) (hi : P.info? e = some i) (hz : i.zero = some z)
  (hsize : i.size = size) (hby : i.bytes = bytes) (hzs : z.cells.size = size) (hsz : 0 < size)
  (v : Value) (n : Nat) (xs : List Value) (hown : w.ownsRow base e size v n xs)
  (A : Option Addr) (m c : Nat) (news : List Value) (hs : Src w size A m news) (h1 : ∀ u ∈ news, u.oneCell' = true)
  (h63 : n + m ≤ maxLen) (hbytes : (n + m) * bytes ≤ 140737488355328) (hbase : base ≤ w.heap.size) :
  ∃ v' w', (Builtin.append_ #[t, t] ty #[v, .slice A m c]).run P w = .ok v' w' ∧ w'.ownsRow base e size v' (n + m) (xs ++ news) ∧ w.grownBy w' v.ownBlock ∧
   (v'.ownBlock = v.ownBlock ∨ v'.ownBlock = some w.heap.size) := by
 obtain ⟨hl, hn, hc⟩ := hs
 cases A with
 |none =>
  have hm := hn rfl
  subst hm
  have : news = [] := by simpa using hl
  subst this
  exact ⟨v, w, run_append_none_any w base t ty e i size ht hi v n xs hown c, by simpa using hown, World.grownBy.refl w _, .inl rfl⟩
 |some a =>
  obtain ⟨v', w', hrun, h2, h3, _, h5⟩ := run_append_own_at (P := P) w base t ty e i z size bytes ht hi hz hsize hby hzs hsz v n xs hown a m c news hl (hc a rfl) h1 h63 hbytes hbase
  exact ⟨v', w', hrun, h2, h3, h5⟩
theorem wp_append_src {o : Oper} {a : Act} {K : Act → World → Prop} {Q : Exit → Act → World → Prop} (s x : Operand) (t : TypeId)
  (ho : o.op = .call { callee := .builtin .append, args := #[s, x], argTypes := #[t, t] })
  (base : Nat) (e : TypeId) (i : TypeInfo) (z : Value) (size bytes : Nat) (ht : P.underlying t = some (.slice e)) (hi : P.info? e = some i) (hz : i.zero = some z)
  (hsize : i.size = size) (hby : i.bytes = bytes) (hzs : z.cells.size = size) (hsz : 0 < size)
  (v : Value) (n : Nat) (xs : List Value) (hs : a.eval s = v) (hown : w.ownsRow base e size v n xs)
  (A : Option Addr) (m c : Nat) (news : List Value) (hx : a.eval x = .slice A m c) (hr : Src w size A m news) (h1 : ∀ u ∈ news, u.oneCell' = true)
  (h63 : n + m ≤ maxLen) (hbytes : (n + m) * bytes ≤ 140737488355328) (hbase : base ≤ w.heap.size)
  (h : ∀ v' w', w'.ownsRow base e size v' (n + m) (xs ++ news) → w.grownBy w' v.ownBlock → (v'.ownBlock = v.ownBlock ∨ v'.ownBlock = some w.heap.size) → K (a.put o.dst v') w') : o.wp P a w K Q := by
 obtain ⟨v', w', hrun, h2, h3, h4⟩ := run_append_src (P := P) w base t o.type e i z size bytes ht hi hz hsize hby hzs hsz v n xs hown A m c news hr h1 h63 hbytes hbase
 unfold Oper.wp execOp
 simp only [ho, resolve, invoke, builtin, Sem.run_bind, Sem.run_pure, Result.andThen_ok, List.map_toArray, List.map_cons, List.map_nil, hs, hx, hrun]
 exact h v' w' h2 h3 h4
theorem wpList_append_src {ops : Array Oper} {rest : List Oper} {o : Oper} {a : Act} {Q : Exit → Act → World → Prop} (hgd : o.guard = none) (s x : Operand) (t : TypeId)
  (ho : o.op = .call { callee := .builtin .append, args := #[s, x], argTypes := #[t, t] })
  (base : Nat) (e : TypeId) (i : TypeInfo) (z : Value) (size bytes : Nat) (ht : P.underlying t = some (.slice e)) (hi : P.info? e = some i) (hz : i.zero = some z)
  (hsize : i.size = size) (hby : i.bytes = bytes) (hzs : z.cells.size = size) (hsz : 0 < size)
  (v : Value) (n : Nat) (xs : List Value) (hs : a.eval s = v) (hown : w.ownsRow base e size v n xs)
  (A : Option Addr) (m c : Nat) (news : List Value) (hx : a.eval x = .slice A m c) (hr : Src w size A m news) (h1 : ∀ u ∈ news, u.oneCell' = true)
  (h63 : n + m ≤ maxLen) (hbytes : (n + m) * bytes ≤ 140737488355328) (hbase : base ≤ w.heap.size)
  (h : ∀ v' w', w'.ownsRow base e size v' (n + m) (xs ++ news) → w.grownBy w' v.ownBlock → (v'.ownBlock = v.ownBlock ∨ v'.ownBlock = some w.heap.size) → wpList P ops Q rest (a.put o.dst v') w') : wpList P ops Q (o :: rest) a w :=
 wpList_plain hgd fun _ hK => wp_append_src w s x t ho base e i z size bytes ht hi hz hsize hby hzs hsz v n xs hs hown A m c news hx hr h1 h63 hbytes hbase fun v' w' h2 h3 h4 => hK _ _ (h v' w' h2 h3 h4)
theorem step_append_src {ops : Array Oper} {o : Oper} {a : Act} {K : Act → World → Prop} {Q : Exit → Act → World → Prop} {E : Prop} (hgd : o.guard = none) (s x : Operand) (t : TypeId)
  (ho : o.op = .call { callee := .builtin .append, args := #[s, x], argTypes := #[t, t] })
  (base : Nat) (e : TypeId) (i : TypeInfo) (z : Value) (size bytes : Nat) (ht : P.underlying t = some (.slice e)) (hi : P.info? e = some i) (hz : i.zero = some z)
  (hsize : i.size = size) (hby : i.bytes = bytes) (hzs : z.cells.size = size) (hsz : 0 < size)
  (v : Value) (n : Nat) (xs : List Value) (hs : a.eval s = v) (hown : w.ownsRow base e size v n xs)
  (A : Option Addr) (m c : Nat) (news : List Value) (hx : a.eval x = .slice A m c) (hr : Src w size A m news) (h1 : ∀ u ∈ news, u.oneCell' = true)
  (h63 : n + m ≤ maxLen) (hbytes : (n + m) * bytes ≤ 140737488355328) (hbase : base ≤ w.heap.size)
  (h : ∀ v' w', w'.ownsRow base e size v' (n + m) (xs ++ news) → w.grownBy w' v.ownBlock → (v'.ownBlock = v.ownBlock ∨ v'.ownBlock = some w.heap.size) → K (a.put o.dst v') w') :
  if Region.wanted o (yielded ops a.tmps) = true then Oper.wp P o a w K Q else E := by
 have hw : Region.wanted o (yielded ops a.tmps) = true := by simp [Region.wanted, hgd]
 rw [if_pos hw]
 exact wp_append_src w s x t ho base e i z size bytes ht hi hz hsize hby hzs hsz v n xs hs hown A m c news hx hr h1 h63 hbytes hbase h
end
def bcells (bs : List UInt8) : List Value := bs.map fun x => .int .u8 (x.toNat : Int)
theorem bcells_length (bs : List UInt8) : (bcells bs).length = bs.length := by simp [bcells]
theorem bcells_one (bs : List UInt8) : ∀ u ∈ bcells bs, u.oneCell' = true := by
 intro u hu
 simp only [bcells, List.mem_map] at hu
 obtain ⟨x, _, rfl⟩ := hu
 rfl
def Bts (w : World) (B U : Nat) (v : Value) (bs : List UInt8) : Prop :=
 ∃ A cap, v = .slice A bs.length cap ∧ bs.length ≤ cap ∧ cap ≤ maxLen ∧ (A = none → bs.length = 0) ∧
  (0 < bs.length → ∃ b off, A = some ⟨b, off, none⟩ ∧ b < w.heap.size ∧ (b < B ∨ ∃ c fr, w.heap[b]? = some (.cells c U fr)) ∧ ∀ i (h : i < bs.length), w.cell? ⟨b, off + i, none⟩ = some (.int .u8 (bs[i].toNat : Int)))
def KeepB (B U : Nat) (w w' : World) : Prop :=
 w.heap.size ≤ w'.heap.size ∧ ∀ k, k < w.heap.size → (k < B ∨ ∃ c fr, w.heap[k]? = some (.cells c U fr)) → w'.heap[k]? = w.heap[k]?
section
variable {w w' w2 : World} {B U : Nat} {v : Value} {bs : List UInt8}
theorem KeepB.refl (B U : Nat) (w : World) : KeepB B U w w := ⟨zN _, fun _ _ _ => rfl⟩
theorem KeepB.of_below (h : Below w.heap.size w w') : KeepB B U w w' := ⟨h.size, fun k hk _ => h.block k hk⟩
theorem KeepB.of_only {S : Nat → Prop} (h : Only S w w') (hS : ∀ k, k < w.heap.size → S k → B ≤ k ∧ ∀ c fr, w.heap[k]? ≠ some (.cells c U fr)) : KeepB B U w w' :=
 ⟨h.size, fun k hk hc => h.block k hk (fun hs => by
  obtain ⟨h1, h2⟩ := hS k hk hs
  rcases hc with hc | ⟨c, fr, hc⟩
  ·omega
  ·exact h2 c fr hc)⟩
theorem KeepB.trans (h : KeepB B U w w') (k : KeepB B U w' w2) : KeepB B U w w2 :=
 ⟨Nat.le_trans h.1 k.1, fun i hi hc => (k.2 i (Nat.lt_of_lt_of_le hi h.1) (by
  rcases hc with hc | ⟨c, fr, hc⟩
  ·exact .inl hc
  ·exact .inr ⟨c, fr, by rw [h.2 i hi (.inr ⟨c, fr, hc⟩)]; exact hc⟩)).trans (h.2 i hi hc)⟩
theorem Bts.keep (h : Bts w B U v bs) (k : KeepB B U w w') : Bts w' B U v bs := by
 obtain ⟨A, cap, hv, hl, hm, hn, hr⟩ := h
 refine ⟨A, cap, hv, hl, hm, hn, fun h0 => ?_⟩
 obtain ⟨b, off, hA, hb, ht, hc⟩ := hr h0
 have e := k.2 b hb ht
 refine ⟨b, off, hA, Nat.lt_of_lt_of_le hb k.1, ?_, fun i hi => ?_⟩
 ·rcases ht with ht | ⟨c, fr, ht⟩
  ·exact .inl ht
  ·exact .inr ⟨c, fr, by rw [e]; exact ht⟩
 ·rw [World.cell?_of_block (w := w) (a := ⟨b, off + i, none⟩) e]
  exact hc i hi
theorem Bts.below (h : Bts w B U v bs) (k : Below w.heap.size w w') : Bts w' B U v bs := h.keep (KeepB.of_below k)
theorem Bts.alloc (h : Bts w B U v bs) (o : Obj) : Bts (w.alloc o) B U v bs := h.below ((zL _ _).alloc (zN _) _)
theorem Bts.drew (h : Bts w B U v bs) : Bts w.drew B U v bs := h
theorem Bts.nil (w : World) (B U : Nat) : Bts w B U (.slice none 0 0) [] := ⟨none, 0, rfl, zN _, Nat.zero_le _, fun _ => rfl, fun h => by simp at h⟩
theorem Bts.only {S : Nat → Prop} (h : Bts w B U v bs) (k : Only S w w') (hn : ∀ g, v.ownBlock = some g → ¬ S g) : Bts w' B U v bs := by
 obtain ⟨A, cap, hv, hl, hm, hnn, hr⟩ := h
 refine ⟨A, cap, hv, hl, hm, hnn, fun h0 => ?_⟩
 obtain ⟨b, off, hA, hb, ht, hc⟩ := hr h0
 have e := k.block b hb (hn b (by rw [hv, hA]; rfl))
 refine ⟨b, off, hA, Nat.lt_of_lt_of_le hb k.size, ?_, fun i hi => ?_⟩
 ·rcases ht with ht | ⟨c, fr, ht⟩
  ·exact .inl ht
  ·exact .inr ⟨c, fr, by rw [e]; exact ht⟩
 ·rw [World.cell?_of_block (w := w) (a := ⟨b, off + i, none⟩) e]
  exact hc i hi
theorem Bts.of_own {base : Nat} (h : w.ownsRow base U 1 v bs.length (bcells bs)) (B : Nat) : Bts w B U v bs := by
 rcases h.2 with ⟨hv, h0⟩ | ⟨g, cap, cur, hv, hg, hh, hnc, hm, hcs, ht⟩
 ·exact ⟨none, 0, by rw [hv, h0], by omega, Nat.zero_le _, fun _ => h0, fun h => by omega⟩
 ·refine ⟨some ⟨g, 0, none⟩, cap, hv, hnc, hm, (fun h => by cases h), fun _ => ⟨g, 0, rfl, lt_of_heap hh, .inr ⟨_, _, hh⟩, fun i hi => ?_⟩⟩
  have hc : cur[i]? = some (.int .u8 (bs[i].toNat : Int)) := by
   have : (cur.toList.take (bs.length * 1))[i]? = some (.int .u8 (bs[i].toNat : Int)) := by
    rw [ht]
    simp [bcells, hi]
   rw [List.getElem?_take, if_pos (by omega)] at this
   simpa using this
  simp only [Nat.zero_add]
  simp [World.cell?, hh, hc]
theorem add_plain (b off j : Nat) : (⟨b, off, none⟩ : Addr).add j = ⟨b, off + j, none⟩ := by
 unfold Addr.add
 split
 ·rename_i h; subst h; rfl
 ·rfl
theorem Bts.src (h : Bts w B U v bs) : ∃ A cap, v = .slice A bs.length cap ∧ Src w 1 A bs.length (bcells bs) := by
 obtain ⟨A, cap, hv, _, _, hn, hr⟩ := h
 refine ⟨A, cap, hv, by simp [bcells], hn, fun a ha j u hu => ?_⟩
 have hj : j < bs.length := by
  have := (List.getElem?_eq_some_iff.1 hu).1
  simpa [bcells] using this
 obtain ⟨b, off, hA, _, _, hc⟩ := hr (by omega)
 rw [ha] at hA
 injection hA with hA
 subst hA
 rw [add_plain, hc j hj]
 simp [bcells, hj] at hu
 rw [hu]
theorem Bts.src_at {A : Option Addr} {n cap : Nat} (h : Bts w B U (.slice A n cap) bs) : n = bs.length ∧ Src w 1 A bs.length (bcells bs) := by
 obtain ⟨A', cap', e, hs⟩ := h.src
 injection e with e1 e2 e3
 subst e1
 exact ⟨e2, hs⟩
theorem Bts.form (h : Bts w B U v bs) : ∃ A cap, v = .slice A bs.length cap := by obtain ⟨A, cap, hv, _⟩ := h; exact ⟨A, cap, hv⟩
theorem Bts.le (h : Bts w B U v bs) : bs.length ≤ maxLen := by obtain ⟨_, _, _, h1, h2, _⟩ := h; omega
theorem Bts.string {P : Program} (h : Bts w B U v bs) (src dst : TypeId) (hs : P.underlying src = some (.slice U)) (he : P.underlying U = some (.int .u8)) (hd : P.underlying dst = some .string) :
  (convert src dst v).run P w = .ok (.string ⟨bs.toArray⟩) w := by
 obtain ⟨A, cap, rfl, _, _, hn, hr⟩ := h
 cases A with
 |none =>
  have h0 := hn rfl
  have : bs = [] := by simpa using h0
  subst this
  exact run_convert_bytes_nil w src U hs he _ _ dst hd
 |some a =>
  refine run_convert_bytes_back w src dst U a cap bs hs he hd fun j hj => ?_
  obtain ⟨b, off, hA, _, _, hc⟩ := hr (by omega)
  injection hA with hA
  subst hA
  rw [add_plain]
  exact hc j hj
end
theorem own_form {w : World} {base : Nat} {e : TypeId} {size : Nat} {v : Value} {n : Nat} {xs : List Value} (h : w.ownsRow base e size v n xs) : ∃ A cap, v = .slice A n cap ∧ n ≤ cap ∧ cap ≤ maxLen := by
 rcases h.2 with ⟨rfl, rfl⟩ | ⟨g, cap, cur, rfl, _, _, h1, h2, _⟩
 ·exact ⟨none, 0, rfl, zN _, Nat.zero_le _⟩
 ·exact ⟨_, _, rfl, h1, h2⟩
theorem below_own2 {w w1 : World} {o o2 : Obj} (hb : Below ((w.alloc o).alloc o2).heap.size ((w.alloc o).alloc o2) w1) : Below w.heap.size w w1 :=
 (((zL _ _).alloc (zN _) _).alloc (by simp) _).trans (hb.mono (by simp; omega))
theorem own_empty (w : World) (e : TypeId) (size : Nat) : (w.alloc (.cells #[] e)).ownsRow w.heap.size e size (.slice (some ⟨w.heap.size, 0, none⟩) 0 0) 0 [] :=
 World.ownsRow_made w #[] 0 (zN _) (by unfold maxLen; omega) (by simp)
end Go.Proofs.Ytnabbimompapfaa
namespace Go.Proofs.Ytnabbimompapfaa
open Go Go.RowKit
section
variable {P : Program} {ops : Array Oper} {Q : Exit → Act → World → Prop} {md : Region.Mode} {q : List Nat} {R S : World → Prop}
def Unstored (q : List Nat) (listed : Array Bool) : Prop := ∀ s ∈ q, listed.getD s true = false
def Till (q : List Nat) (R S : World → Prop) (listed : Array Bool) (w : World) : Prop := S w ∧ (Unstored q listed → R w)
theorem Till.of {listed : Array Bool} {w : World} (hs : S w) (h : R w) : Till q R S listed w := ⟨hs, fun _ => h⟩
theorem Till.stored {listed : Array Bool} {w : World} (hs : S w) (h : q.any (fun s => listed.getD s true) = true) : Till q R S listed w := ⟨hs, fun hu => by
 obtain ⟨s, hm, hl⟩ := List.any_eq_true.1 h
 rw [hu s hm] at hl
 cases hl⟩
theorem Unstored.set {listed : Array Bool} {j : Nat} (h : Unstored q listed) (hj : j ∉ q) : Unstored q (listed.setIfInBounds j true) := fun s hs => by
 rw [getD_set_ne true (fun e => hj (by rw [e]; exact hs))]; exact h s hs
theorem Unstored.back {listed : Array Bool} {j : Nat} (h : Unstored q (listed.setIfInBounds j true)) (hj : j ∉ q) : Unstored q listed := fun s hs => by
 have := h s hs
 rwa [getD_set_ne true (fun e => hj (by rw [e]; exact hs))] at this
def wpTill (P : Program) (md : Region.Mode) (ops : Array Oper) (Q : Exit → Act → World → Prop) (q : List Nat) (R S : World → Prop) : Nat → Array Bool → Act → World → Prop
 |0, listed, a, w => Region.ready md ops listed = [] ∧ Q .normal a w
 |n + 1, listed, a, w => (Region.ready md ops listed = [] → Q .normal a w) ∧
  ∀ j ∈ Region.ready md ops listed, wpOp P ops Q j (fun b x => Till q R S (listed.setIfInBounds j true) x ∧ wpTill P md ops Q q R S n (listed.setIfInBounds j true) b x) a w
theorem wpTill.any : ∀ (n : Nat) {listed : Array Bool} {a : Act} {w : World}, wpTill P md ops Q q R S n listed a w → wpAny P md ops Q n listed a w
 |0, _, _, _, h => h
 |n + 1, _, _, _, h => ⟨h.1, fun j hj => wpOp_mono (fun _ _ k => wpTill.any n k.2) (h.2 j hj)⟩
theorem wpTill.first {i : Nat} {o : Oper} {v : Value} {T : World → Prop} {I : Array Bool → Prop} (ho : ops[i]? = some o) (hiq : i ∉ q) (hsel : Region.noSelect ops = true)
  (hT : ∀ listed w, I listed → Till q R S listed w → T w) (hI : ∀ listed j, I listed → listed.getD i true = false → j ∈ Region.ready md ops listed → j ≠ i → I (listed.setIfInBounds j true))
  (hQ : ∀ c a w, Q (.panic c) (a.put o.dst v) w → Q (.panic c) a w) (n : Nat) :
  ∀ {listed : Array Bool} {a : Act} {w : World},
   (∀ j oj, ops[j]? = some oj → j ≠ i → listed.getD j true = false → (∀ e ∈ oj.after, Region.binds md e = true → e.on ≠ i) → o.apart ops oj = true) →
   i ∈ Region.ready md ops listed → I listed → YieldsIf P ops T o v a → Till q R S listed w →
   wpTill P md ops Q q R S n (listed.setIfInBounds i true) (a.put o.dst v) w → wpTill P md ops Q q R S (n + 1) listed a w := by
 have done : ∀ {m : Nat} {listed : Array Bool} {a : Act} {w : World}, I listed → YieldsIf P ops T o v a → Till q R S listed w →
   wpTill P md ops Q q R S m (listed.setIfInBounds i true) (a.put o.dst v) w →
   wpOp P ops Q i (fun b x => Till q R S (listed.setIfInBounds i true) x ∧ wpTill P md ops Q q R S m (listed.setIfInBounds i true) b x) a w :=
  fun hl hy hR H => hy.wpOp ho (hT _ _ hl hR) ⟨⟨hR.1, fun hu => hR.2 (hu.back hiq)⟩, H⟩
 induction n with
 |zero =>
  intro listed a w _ hr hl hy hR H
  refine ⟨fun e => by rw [e] at hr; exact absurd hr List.not_mem_nil, fun j hj => ?_⟩
  by_cases e : j = i
  ·subst e; exact done hl hy hR H
  ·have h2 := ready_mono hj e
   rw [H.1] at h2
   exact absurd h2 List.not_mem_nil
 |succ n ih =>
  intro listed a w hfree hr hl hy hR H
  refine ⟨fun e => by rw [e] at hr; exact absurd hr List.not_mem_nil, fun j hj => ?_⟩
  by_cases e : j = i
  ·subst e; exact done hl hy hR H
  ·obtain ⟨hun, oj, hoj, hall⟩ := mem_ready.1 hj
   have hiun := (mem_ready.1 hr).1
   have hno : ∀ x ∈ oj.after, Region.binds md x = true → x.on ≠ i := fun x hx hb hon => by
    have h1 := hall x hx hb
    rw [hon, getD_both hiun] at h1
    cases h1
   have hs := Region.noSelect_spec hsel
   refine wpOp_mono ?_ (wpOp_putIf hoj (hfree j oj hoj e hun hno) (fun cs b => hs i o cs b ho) (fun cs b => hs j oj cs b hoj) hQ hy (H.2 j (ready_mono hj e)))
   rintro b x ⟨hyb, hRx, hH⟩
   have hcomm : (listed.setIfInBounds i true).setIfInBounds j true = (listed.setIfInBounds j true).setIfInBounds i true := Array.setIfInBounds_comm _ _ (fun h => e h.symm)
   rw [hcomm] at hRx hH
   have hRj : Till q R S (listed.setIfInBounds j true) x := ⟨hRx.1, fun hu => hRx.2 (hu.set hiq)⟩
   refine ⟨hRj, ih ?_ (ready_mono hr (fun h => e h.symm)) (hI _ _ hl hiun hj e) hyb hRj hH⟩
   intro k ok hk hki hku hkn
   refine hfree k ok hk hki ?_ hkn
   by_cases hjk : j = k
   ·subst hjk; exact hun
   ·rwa [getD_set_ne true hjk] at hku
theorem wpTill.take {i : Nat} {o : Oper} {v : Value} {n : Nat} {listed : Array Bool} {a : Act} {w : World} (ho : ops[i]? = some o) (hsel : Region.noSelect ops = true) (hf : Region.free md ops listed i = true)
  (hr : (Region.ready md ops listed).contains i = true) (hq : (q.all fun s => !(s == i) && Region.waitsFor md ops s i && !listed.getD s true) = true)
  (hQ : ∀ c a w, Q (.panic c) (a.put o.dst v) w → Q (.panic c) a w) (hy : YieldsIf P ops (fun w => S w ∧ R w) o v a) (hR : Till q R S listed w)
  (h : Till q R S (listed.setIfInBounds i true) w → wpTill P md ops Q q R S n (listed.setIfInBounds i true) (a.put o.dst v) w) : wpTill P md ops Q q R S (n + 1) listed a w := by
 have hall := List.all_eq_true.1 hq
 have hiq : i ∉ q := fun hm => by have := hall i hm; simp at this
 refine wpTill.first (I := Unstored q) (T := fun w => S w ∧ R w) ho hiq hsel (fun _ _ hu ht => ⟨ht.1, ht.2 hu⟩) ?_ hQ n (Region.free_spec ho hf) (by simpa using hr) (fun s hs => ?_) hy hR (h ⟨hR.1, fun hu => hR.2 (hu.back hiq)⟩)
 ·intro l j hl hiu hj hne
  refine hl.set fun hjq => ?_
  have hw := hall j hjq
  simp only [Bool.and_eq_true] at hw
  obtain ⟨oj, hoj, e, he, hb, hon⟩ := Region.waitsFor_spec hw.1.2
  obtain ⟨_, o2, ho2, h2⟩ := mem_ready.1 hj
  have : oj = o2 := Option.some.inj (hoj.symm.trans ho2)
  subst this
  have h3 := h2 e he hb
  rw [hon, getD_both hiu] at h3
  cases h3
 ·have hw := hall s hs
  simp only [Bool.and_eq_true, Bool.not_eq_true'] at hw
  exact hw.2
theorem wpTill.takeAny {i : Nat} {o : Oper} {v : Value} {n : Nat} {listed : Array Bool} {a : Act} {w : World} (ho : ops[i]? = some o) (hsel : Region.noSelect ops = true) (hf : Region.free md ops listed i = true)
  (hr : (Region.ready md ops listed).contains i = true) (hq : (q.all fun s => !(s == i)) = true)
  (hQ : ∀ c a w, Q (.panic c) (a.put o.dst v) w → Q (.panic c) a w) (hy : YieldsIf P ops S o v a) (hR : Till q R S listed w)
  (h : Till q R S (listed.setIfInBounds i true) w → wpTill P md ops Q q R S n (listed.setIfInBounds i true) (a.put o.dst v) w) : wpTill P md ops Q q R S (n + 1) listed a w := by
 have hall := List.all_eq_true.1 hq
 have hiq : i ∉ q := fun hm => by have := hall i hm; simp at this
 exact wpTill.first (I := fun _ => True) (T := S) ho hiq hsel (fun _ _ _ ht => ht.1) (fun _ _ _ _ _ _ => trivial) hQ n (Region.free_spec ho hf) (by simpa using hr) trivial hy hR (h ⟨hR.1, fun hu => hR.2 (hu.back hiq)⟩)
theorem wpTill.only {i : Nat} {o : Oper} {n : Nat} {listed : Array Bool} {a : Act} {w : World} (hr : Region.ready md ops listed = [i]) (ho : ops[i]? = some o)
  (h : ∀ K : Act → World → Prop, Hid (∀ a w, Till q R S (listed.setIfInBounds i true) w → (Till q R S (listed.setIfInBounds i true) w → wpTill P md ops Q q R S n (listed.setIfInBounds i true) a w) → K a w) →
   if Region.wanted o (yielded ops a.tmps) = true then Oper.wp P o a w K Q else K (a.put o.dst undef) w) : wpTill P md ops Q q R S (n + 1) listed a w := by
 refine ⟨fun e => absurd (hr.symm.trans e) (List.cons_ne_nil _ _), fun j hj => ?_⟩
 rw [hr] at hj
 have e := List.mem_singleton.1 hj
 subst e
 exact wpOp_step ho (fun K hK => h K (zH (fun a w hT hW => hK a w ⟨hT, hW hT⟩)))
theorem wpTill.two {i j : Nat} {o o2 : Oper} {n : Nat} {listed : Array Bool} {a : Act} {w : World} (hr : Region.ready md ops listed = [i, j]) (ho : ops[i]? = some o) (ho2 : ops[j]? = some o2)
  (h : ∀ K : Act → World → Prop, Hid (∀ a w, Till q R S (listed.setIfInBounds i true) w → (Till q R S (listed.setIfInBounds i true) w → wpTill P md ops Q q R S n (listed.setIfInBounds i true) a w) → K a w) →
   if Region.wanted o (yielded ops a.tmps) = true then Oper.wp P o a w K Q else K (a.put o.dst undef) w)
  (h2 : ∀ K : Act → World → Prop, Hid (∀ a w, Till q R S (listed.setIfInBounds j true) w → (Till q R S (listed.setIfInBounds j true) w → wpTill P md ops Q q R S n (listed.setIfInBounds j true) a w) → K a w) →
   if Region.wanted o2 (yielded ops a.tmps) = true then Oper.wp P o2 a w K Q else K (a.put o2.dst undef) w) : wpTill P md ops Q q R S (n + 1) listed a w := by
 refine ⟨fun e => absurd (hr.symm.trans e) (List.cons_ne_nil _ _), fun k hk => ?_⟩
 rw [hr] at hk
 rcases List.mem_cons.1 hk with e | hk
 ·subst e
  exact wpOp_step ho (fun K hK => h K (zH (fun a w hT hW => hK a w ⟨hT, hW hT⟩)))
 ·have e := List.mem_singleton.1 hk
  subst e
  exact wpOp_step ho2 (fun K hK => h2 K (zH (fun a w hT hW => hK a w ⟨hT, hW hT⟩)))
theorem wpTill.done {n : Nat} {listed : Array Bool} {a : Act} {w : World} (hr : Region.ready md ops listed = []) (h : Q .normal a w) : wpTill P md ops Q q R S n listed a w := by
 cases n with
 |zero => exact ⟨hr, h⟩
 |succ n => exact ⟨fun _ => h, by rw [hr]; simp⟩
theorem wp_region_till {id : Nat} {a : Act} {w : World} (q : List Nat) (R S : World → Prop) (hm : P.follows .mixedOrders = true) (hS : S w.drew) (hR : R w.drew)
  (h : Till q R S (Array.replicate ops.size false) w.drew → wpTill P .any ops Q q R S ops.size (Array.replicate ops.size false) a w.drew) : (Code.region id ops true).wp P Q a w :=
 wp_region_any hm ((h (Till.of hS hR)).any)
end
end Go.Proofs.Ytnabbimompapfaa
namespace Go.Proofs.Ytnabbimompapfaa
open Go Go.RowKit
def zS (l : List Value) (o : Option Tmp) (v : Value) : List Value := match o with | some d => l.set d v | none => l
theorem zA {α : Type} (l : List α) (i : Nat) (a : α) : l.toArray.setIfInBounds i a = (l.set i a).toArray := List.setIfInBounds_toArray _ _ _
theorem zB {α : Type} (x y : α) (xs : List α) : List.set (x :: xs) 0 y = y :: xs := rfl
theorem zC {α : Type} (x y : α) (xs : List α) (n : Nat) : List.set (x :: xs) (n + 1) y = x :: xs.set n y := rfl
theorem zP (l : List Value) (df : List Deferred) (o : Option Tmp) (v : Value) : Act.put ⟨l.toArray, df⟩ o v = ⟨(zS l o v).toArray, df⟩ := by
 cases o with
 |none => rfl
 |some d => simp only [Act.put, zS, zA]
def Pl (_is : List Nat) (p : Prop) : Prop := p
theorem Pl.go (is : List Nat) {p : Prop} (h : Pl is p) : p := h
theorem Pl.stop {p : Prop} (h : p) : Pl [] p := h
def okI (md : Region.Mode) (ops : Array Oper) (listed : Array Bool) (i : Nat) : Bool := Region.noSelect ops && Region.free md ops listed i && (Region.ready md ops listed).contains i
theorem okI.of {md : Region.Mode} {ops : Array Oper} {listed : Array Bool} {i : Nat} (h : okI md ops listed i = true) : Region.noSelect ops = true ∧ Region.free md ops listed i = true ∧ (Region.ready md ops listed).contains i = true := by
 unfold okI at h
 rw [Bool.and_eq_true, Bool.and_eq_true] at h
 exact ⟨h.1.1, h.1.2, h.2⟩
section
variable {P : Program} {ops : Array Oper} {Q : Exit → Act → World → Prop} {md : Region.Mode} {S : World → Prop} {o1 : _} {o2 : _} {o3 : _} {o4 : _} {o5 : _} {o6 : _} {v : Value} {fuel : Nat} {listed : Array Bool} {l : List Value} {df : List Deferred} {w : World}
theorem tk (i : Nat) (hy : ∀ w, S w → (execOp (Act.eval ⟨l.toArray, df⟩) ⟨o1, o2, o3, o4, o5, o6⟩).run P w = .ok (.value v) w) (h : wpAnyH P md ops Q S fuel (listed.setIfInBounds i true) ⟨(zS l o1 v).toArray, df⟩ w)
  (hc : okI md ops listed i = true := by kernel_rfl) (ho : ops[i]? = some ⟨o1, o2, o3, o4, o5, o6⟩ := by rfl) (hw : Region.wanted ⟨o1, o2, o3, o4, o5, o6⟩ (yielded ops l.toArray) = true := by rfl)
  (hQ : ∀ c a a' w, Q (.panic c) a' w → Q (.panic c) a w := by exact fun _ _ _ _ h => h) (hS : S w := by assumption) : wpAnyH P md ops Q S (fuel + 1) listed ⟨l.toArray, df⟩ w :=
 wpAnyH_take ho (okI.of hc).1 (okI.of hc).2.1 (okI.of hc).2.2 (fun c b w => hQ c b _ w) (.inl ⟨hw, hy⟩) hS (by rw [zP]; exact h)
theorem sk (i : Nat) (h : wpAnyH P md ops Q S fuel (listed.setIfInBounds i true) ⟨(zS l o1 undef).toArray, df⟩ w)
  (hc : okI md ops listed i = true := by kernel_rfl) (ho : ops[i]? = some ⟨o1, o2, o3, o4, o5, o6⟩ := by rfl) (hw : Region.wanted ⟨o1, o2, o3, o4, o5, o6⟩ (yielded ops l.toArray) = false := by rfl)
  (hQ : ∀ c a a' w, Q (.panic c) a' w → Q (.panic c) a w := by exact fun _ _ _ _ h => h) (hS : S w := by assumption) : wpAnyH P md ops Q S (fuel + 1) listed ⟨l.toArray, df⟩ w :=
 wpAnyH_take ho (okI.of hc).1 (okI.of hc).2.1 (okI.of hc).2.2 (fun c b w => hQ c b _ w) (.inr ⟨hw, rfl⟩) hS (by rw [zP]; exact h)
theorem tkl {i : Nat} {is : List Nat} (hy : ∀ w, S w → (execOp (Act.eval ⟨l.toArray, df⟩) ⟨o1, o2, o3, o4, o5, o6⟩).run P w = .ok (.value v) w) (h : Pl is (wpAnyH P md ops Q S fuel (listed.setIfInBounds i true) ⟨(zS l o1 v).toArray, df⟩ w))
  (hc : okI md ops listed i = true := by kernel_rfl) (ho : ops[i]? = some ⟨o1, o2, o3, o4, o5, o6⟩ := by rfl) (hw : Region.wanted ⟨o1, o2, o3, o4, o5, o6⟩ (yielded ops l.toArray) = true := by rfl)
  (hQ : ∀ c a a' w, Q (.panic c) a' w → Q (.panic c) a w := by exact fun _ _ _ _ h => h) (hS : S w := by assumption) : Pl (i :: is) (wpAnyH P md ops Q S (fuel + 1) listed ⟨l.toArray, df⟩ w) := tk i hy h hc ho hw hQ hS
theorem skl {i : Nat} {is : List Nat} (h : Pl is (wpAnyH P md ops Q S fuel (listed.setIfInBounds i true) ⟨(zS l o1 undef).toArray, df⟩ w))
  (hc : okI md ops listed i = true := by kernel_rfl) (ho : ops[i]? = some ⟨o1, o2, o3, o4, o5, o6⟩ := by rfl) (hw : Region.wanted ⟨o1, o2, o3, o4, o5, o6⟩ (yielded ops l.toArray) = false := by rfl)
  (hQ : ∀ c a a' w, Q (.panic c) a' w → Q (.panic c) a w := by exact fun _ _ _ _ h => h) (hS : S w := by assumption) : Pl (i :: is) (wpAnyH P md ops Q S (fuel + 1) listed ⟨l.toArray, df⟩ w) := sk i h hc ho hw hQ hS
end
def okT (md : Region.Mode) (ops : Array Oper) (q : List Nat) (listed : Array Bool) (i : Nat) : Bool := okI md ops listed i && q.all fun s => !(s == i) && Region.waitsFor md ops s i && !listed.getD s true
def okS (md : Region.Mode) (ops : Array Oper) (q : List Nat) (listed : Array Bool) (i : Nat) : Bool := okI md ops listed i && q.all fun s => !(s == i)
section
variable {P : Program} {ops : Array Oper} {Q : Exit → Act → World → Prop} {md : Region.Mode} {q : List Nat} {R S : World → Prop} {o1 : _} {o2 : _} {o3 : _} {o4 : _} {o5 : _} {o6 : _} {v : Value} {n : Nat} {listed : Array Bool} {l : List Value} {df : List Deferred} {w : World}
theorem tt (i : Nat) (hy : ∀ w, S w ∧ R w → (execOp (Act.eval ⟨l.toArray, df⟩) ⟨o1, o2, o3, o4, o5, o6⟩).run P w = .ok (.value v) w) (h : Till q R S (listed.setIfInBounds i true) w → wpTill P md ops Q q R S n (listed.setIfInBounds i true) ⟨(zS l o1 v).toArray, df⟩ w)
  (hc : okT md ops q listed i = true := by kernel_rfl) (ho : ops[i]? = some ⟨o1, o2, o3, o4, o5, o6⟩ := by rfl) (hw : Region.wanted ⟨o1, o2, o3, o4, o5, o6⟩ (yielded ops l.toArray) = true := by rfl)
  (hQ : ∀ c a a' w, Q (.panic c) a' w → Q (.panic c) a w := by exact fun _ _ _ _ h => h) (hR : Till q R S listed w := by assumption) : wpTill P md ops Q q R S (n + 1) listed ⟨l.toArray, df⟩ w := by
 have hk := hc
 unfold okT at hk
 rw [Bool.and_eq_true] at hk
 exact wpTill.take ho (okI.of hk.1).1 (okI.of hk.1).2.1 (okI.of hk.1).2.2 hk.2 (fun c b w => hQ c b _ w) (.inl ⟨hw, hy⟩) hR (by rw [zP]; exact h)
theorem ts (i : Nat) (hy : ∀ w, S w → (execOp (Act.eval ⟨l.toArray, df⟩) ⟨o1, o2, o3, o4, o5, o6⟩).run P w = .ok (.value v) w) (h : Till q R S (listed.setIfInBounds i true) w → wpTill P md ops Q q R S n (listed.setIfInBounds i true) ⟨(zS l o1 v).toArray, df⟩ w)
  (hc : okS md ops q listed i = true := by kernel_rfl) (ho : ops[i]? = some ⟨o1, o2, o3, o4, o5, o6⟩ := by rfl) (hw : Region.wanted ⟨o1, o2, o3, o4, o5, o6⟩ (yielded ops l.toArray) = true := by rfl)
  (hQ : ∀ c a a' w, Q (.panic c) a' w → Q (.panic c) a w := by exact fun _ _ _ _ h => h) (hR : Till q R S listed w := by assumption) : wpTill P md ops Q q R S (n + 1) listed ⟨l.toArray, df⟩ w := by
 have hk := hc
 unfold okS at hk
 rw [Bool.and_eq_true] at hk
 exact wpTill.takeAny ho (okI.of hk.1).1 (okI.of hk.1).2.1 (okI.of hk.1).2.2 hk.2 (fun c b w => hQ c b _ w) (.inl ⟨hw, hy⟩) hR (by rw [zP]; exact h)
theorem ttl {i : Nat} {is : List Nat} (hy : ∀ w, S w ∧ R w → (execOp (Act.eval ⟨l.toArray, df⟩) ⟨o1, o2, o3, o4, o5, o6⟩).run P w = .ok (.value v) w) (h : Till q R S (listed.setIfInBounds i true) w → Pl is (wpTill P md ops Q q R S n (listed.setIfInBounds i true) ⟨(zS l o1 v).toArray, df⟩ w))
  (hc : okT md ops q listed i = true := by kernel_rfl) (ho : ops[i]? = some ⟨o1, o2, o3, o4, o5, o6⟩ := by rfl) (hw : Region.wanted ⟨o1, o2, o3, o4, o5, o6⟩ (yielded ops l.toArray) = true := by rfl)
  (hQ : ∀ c a a' w, Q (.panic c) a' w → Q (.panic c) a w := by exact fun _ _ _ _ h => h) (hR : Till q R S listed w := by assumption) : Pl (i :: is) (wpTill P md ops Q q R S (n + 1) listed ⟨l.toArray, df⟩ w) := tt i hy h hc ho hw hQ hR
theorem tsl {i : Nat} {is : List Nat} (hy : ∀ w, S w → (execOp (Act.eval ⟨l.toArray, df⟩) ⟨o1, o2, o3, o4, o5, o6⟩).run P w = .ok (.value v) w) (h : Till q R S (listed.setIfInBounds i true) w → Pl is (wpTill P md ops Q q R S n (listed.setIfInBounds i true) ⟨(zS l o1 v).toArray, df⟩ w))
  (hc : okS md ops q listed i = true := by kernel_rfl) (ho : ops[i]? = some ⟨o1, o2, o3, o4, o5, o6⟩ := by rfl) (hw : Region.wanted ⟨o1, o2, o3, o4, o5, o6⟩ (yielded ops l.toArray) = true := by rfl)
  (hQ : ∀ c a a' w, Q (.panic c) a' w → Q (.panic c) a w := by exact fun _ _ _ _ h => h) (hR : Till q R S listed w := by assumption) : Pl (i :: is) (wpTill P md ops Q q R S (n + 1) listed ⟨l.toArray, df⟩ w) := ts i hy h hc ho hw hQ hR
end
end Go.Proofs.Ytnabbimompapfaa
namespace Go.Proofs.Ytnabbimompapfaa
open Go Go.RowKit
theorem u8_info : (Try.prog.info? 5).map (fun i => (i.zero, i.size, i.bytes)) = some (some (.int .u8 0), 1, 1) := by kernel_rfl
def OwnRet (bs : List UInt8) (w : World) (e : Ending) (w' : World) : Prop :=
 ∃ v, e = .returned v ∧ w'.ownsRow w.heap.size 5 1 v bs.length (bcells bs) ∧ Below w.heap.size w w'
set_option maxHeartbeats 400000 in
theorem bytesClone_any (B : Nat) (v : Value) (bs : List UInt8) (w : World) (hb : Bts w B 5 v bs) (hl : bs.length ≤ 1000000000) :
  Calls Try.prog 80 #[v] w (OwnRet bs w) := by
 obtain ⟨A, cap, rfl⟩ := hb.form
 have HL := zH hl
 clear hl
 obtain ⟨i0, hi0, hz0, hz1, hz2⟩ := info_parts u8_info
 cases A with
 |none =>
  have h0 := hb.src_at.2.2.1 rfl
  have : bs = [] := by simpa using h0
  subst this
  clear hb h0
  go_enter Try.func80, Try.ntmps80
  go_wp2
  go_ret
  exact ⟨_, rfl, World.ownsRow_nil _ _ _ _, zL _ _⟩
 |some a =>
  have HS := zH hb
  clear hb
  go_enter Try.func80, Try.ntmps80
  go_wp2_with (at_builtin; refine wpList_append_src _ rfl _ _ _ rfl w.heap.size 5 i0 _ 1 1 Try.underlying27 hi0 hz0 hz1 hz2 rfl (by decide) _ 0 [] rfl (own_empty w _ _) (some a) bs.length cap (bcells bs) rfl (HS.out.alloc _).src_at.2 (bcells_one _) (by have := HL.out; unfold maxLen; omega) (by have := HL.out; omega) (by simp) ?_; intro v1 w1 hown hg hat)
  go_ret
  refine ⟨v1, rfl, by simpa using hown, ?_⟩
  exact ((zL _ _).alloc (zN _) _).grown hg (by simp) (by intro k hk; cases hk; exact zN _)
end Go.Proofs.Ytnabbimompapfaa
namespace Go.Proofs.Ytnabbimompapfaa
open Go Go.RowKit
structure OpV where
 kind : Int
 ticks : Int
 key : ByteArray
 val : List UInt8
 ttl : Int
 count : Int
 bytes : Int
 cursor : Int
 birth : Int
def takeP (n : Nat) (rs : List UInt8) : List UInt8 := rs.take n ++ List.replicate (n - rs.length) 0
theorem takeP_length (n : Nat) (rs : List UInt8) : (takeP n rs).length = n := by simp [takeP]; omega
def numBE (l : List UInt8) : Nat := l.foldl (fun x b => x * 256 + b.toNat) 0
theorem numBE_snoc (l : List UInt8) (b : UInt8) : numBE (l ++ [b]) = numBE l * 256 + b.toNat := by simp [numBE]
theorem numBE_acc : ∀ (l : List UInt8) (a : Nat), l.foldl (fun x b => x * 256 + b.toNat) a < (a + 1) * 256 ^ l.length
 |[], a => by simp
 |b :: l, a => by
  have h := numBE_acc l (a * 256 + b.toNat)
  have hb := b.toNat_lt
  have h2 : (a * 256 + b.toNat + 1) * 256 ^ l.length ≤ ((a + 1) * 256) * 256 ^ l.length := Nat.mul_le_mul_right _ (by omega)
  have e : (a + 1) * 256 ^ (b :: l).length = ((a + 1) * 256) * 256 ^ l.length := by rw [List.length_cons, Nat.pow_succ, Nat.mul_comm (256 ^ l.length) 256, Nat.mul_assoc]
  rw [List.foldl_cons, e]
  omega
theorem numBE_lt (l : List UInt8) : numBE l < 256 ^ l.length := by
 have h := numBE_acc l 0
 rw [Nat.zero_add, Nat.one_mul] at h
 exact h
theorem ofInt_64 (a : Nat) (ha : a < 18446744073709551616) : (BitVec.ofInt 64 (a : Int)).toNat = a := by
 rw [BitVec.ofInt_natCast, BitVec.toNat_ofNat]; exact Nat.mod_eq_of_lt (by omega)
theorem join_i64 (x b : Nat) (hx : x < 16777216) (hb : b < 256) : bits .or .i64 ((x : Int) * 256) (b : Int) = ((x * 256 + b : Nat) : Int) := by
 have e : ((x : Int) * 256) = ((x * 256 : Nat) : Int) := by omega
 rw [e]
 show IntKind.i64.wrap ((BitVec.ofInt 64 ((x * 256 : Nat) : Int) ||| BitVec.ofInt 64 (b : Int)).toNat : Int) = _
 rw [BitVec.toNat_or, ofInt_64 _ (by omega), ofInt_64 b (by omega), IntKind.wrap_i64, nat_join 8 (x * 256) b (by omega) (by omega)]
 omega
inductive Part where
 |key | value | ttl | budgets | aim | birth
def kindL : List Int := [3, 1, 2, 4, 5, 6, 7, 8, 9, 10, 11, 12, 13, 14, 3, 1]
def partsOf (k : Int) : List Part :=
 if k = 3 ∨ k = 4 ∨ k = 6 then [.key]
 else if k = 1 then [.key, .value]
 else if k = 2 then [.key, .value, .ttl]
 else if k = 5 then [.key, .ttl]
 else if k = 8 then [.budgets]
 else if k = 12 ∨ k = 14 then [.aim]
 else if k = 13 then [.aim, .birth]
 else []
def rdPart (p : Part) (o : OpV) (rs : List UInt8) : OpV × List UInt8 :=
 match p with
 |.key => ({ o with key := ⟨(takeP (numBE (takeP 1 rs) % 32) (rs.drop 1)).toArray⟩ }, (rs.drop 1).drop (numBE (takeP 1 rs) % 32))
 |.value => ({ o with val := takeP (numBE (takeP 1 rs)) (rs.drop 1) }, (rs.drop 1).drop (numBE (takeP 1 rs)))
 |.ttl => ({ o with ttl := numBE (takeP 2 rs) }, rs.drop 2)
 |.budgets => ({ o with count := numBE (takeP 2 rs), bytes := numBE (takeP 3 (rs.drop 2)) }, (rs.drop 2).drop 3)
 |.aim => ({ o with cursor := numBE (takeP 1 rs) }, rs.drop 1)
 |.birth => ({ o with birth := numBE (takeP 2 rs) }, rs.drop 2)
def rdParts : List Part → OpV → List UInt8 → OpV × List UInt8
 |[], o, rs => (o, rs)
 |p :: ps, o, rs => rdParts ps (rdPart p o rs).1 (rdPart p o rs).2
def op0 (x : Nat) : OpV := ⟨kindL.getD (x % 16) 0, (x / 16 : Nat), ⟨#[]⟩, [], 0, 0, 0, 0, 0⟩
def rdHead (rs : List UInt8) : OpV × List UInt8 :=
 if numBE (takeP 1 rs) / 16 = 15 then ({ op0 (numBE (takeP 1 rs)) with ticks := 15 + (numBE (takeP 1 (rs.drop 1)) : Int) }, (rs.drop 1).drop 1)
 else (op0 (numBE (takeP 1 rs)), rs.drop 1)
def rdOp (rs : List UInt8) : OpV × List UInt8 := rdParts (partsOf (rdHead rs).1.kind) (rdHead rs).1 (rdHead rs).2
def byteI (x : Int) : UInt8 := UInt8.ofNat (x % 256).toNat
theorem byteI_toNat (x : Int) : ((byteI x).toNat : Int) = x % 256 := by
 unfold byteI
 rw [UInt8.toNat_ofNat']
 omega
def big2 (x : Int) : List UInt8 := [byteI (x / 256), byteI x]
def big3 (x : Int) : List UInt8 := [byteI (x / 65536), byteI (x / 256), byteI x]
def wrPart (p : Part) (o : OpV) : List UInt8 :=
 match p with
 |.key => byteI o.key.size :: o.key.data.toList
 |.value => byteI o.val.length :: o.val
 |.ttl => big2 (wrap64 o.ttl)
 |.budgets => big2 o.count ++ big3 o.bytes
 |.aim => [byteI o.cursor]
 |.birth => big2 (wrap64 o.birth)
def wrRaw (code : Int) (o : OpV) : List UInt8 :=
 byteI (code + 16 * min o.ticks 15) :: ((if 15 ≤ o.ticks then [byteI (o.ticks - 15)] else []) ++ (partsOf o.kind).flatMap fun p => wrPart p o)
def eqO (a b : OpV) : Prop := a.kind = b.kind ∧ a.ticks = b.ticks ∧ a.key = b.key ∧ a.val = b.val ∧ a.ttl = b.ttl ∧ a.count = b.count ∧ a.bytes = b.bytes ∧ a.cursor = b.cursor ∧ a.birth = b.birth
instance (a b : OpV) : Decidable (eqO a b) := inferInstanceAs (Decidable (_ ∧ _))
theorem eqO_iff (a b : OpV) : eqO a b ↔ a = b := by
 obtain ⟨a1, a2, a3, a4, a5, a6, a7, a8, a9⟩ := a
 obtain ⟨b1, b2, b3, b4, b5, b6, b7, b8, b9⟩ := b
 simp [eqO]
def codeI (k : Int) : Int := Lib.idxOf kindL k
def wrOp (o : OpV) : Option (List UInt8) :=
 if codeI o.kind < 0 ∨ 270 < o.ticks ∨ 31 < o.key.size ∨ 255 < o.val.length then none
 else if eqO (rdOp (wrRaw (codeI o.kind) o)).1 o then some (wrRaw (codeI o.kind) o) else none
def opcs (o : OpV) (v : Value) : List Value := [.int .i64 o.kind, .int .u64 o.ticks, .string o.key, v, .int .u64 o.ttl, .int .i64 o.count, .int .i64 o.bytes, .int .i64 o.cursor, .int .u64 o.birth]
def opc (o : OpV) (v : Value) : Array Value := #[.int .i64 o.kind, .int .u64 o.ticks, .string o.key, v, .int .u64 o.ttl, .int .i64 o.count, .int .i64 o.bytes, .int .i64 o.cursor, .int .u64 o.birth]
def opv (o : OpV) (v : Value) : Value := .agg (opc o v)
theorem Bts.from_ {w : World} {B U : Nat} {A : Option Addr} {n cap : Nat} {bs : List UInt8} (h : Bts w B U (.slice A n cap) bs) (m : Nat) (hm : m ≤ n) :
  Bts w B U (sliced A m n cap 1) (bs.drop m) := by
 obtain ⟨A', cap', e, hl, hc, hn, hr⟩ := h
 injection e with e1 e2 e3
 subst e1 e2 e3
 refine ⟨if cap = m then A else A.map (·.add (m * 1)), cap - m, ?_, by simp; omega, by omega, ?_, ?_⟩
 ·simp only [sliced, List.length_drop]
 ·intro h0
  split at h0
  ·have := hn h0; simp; omega
  ·have h1 : A = none := by simpa using h0
   have := hn h1; simp; omega
 ·intro hp
  rw [List.length_drop] at hp
  obtain ⟨b, off, hA, hb, ht, hx⟩ := hr (by omega)
  rw [if_neg (by omega)]
  refine ⟨b, off + m, ?_, hb, ht, fun i hi => ?_⟩
  ·rw [hA, Option.map_some, add_plain, Nat.mul_one]
  ·rw [List.length_drop] at hi
   rw [Nat.add_assoc, hx (m + i) (by omega), List.getElem_drop]
theorem Bts.cut_ {w : World} {B U : Nat} {A : Option Addr} {n cap : Nat} {bs : List UInt8} (h : Bts w B U (.slice A n cap) bs) (l u : Nat) (hl : l ≤ u) (hu : u ≤ n) :
  Bts w B U (sliced A l u cap 1) ((bs.take u).drop l) := by
 have h1 : Bts w B U (.slice A u cap) (bs.take u) := by
  obtain ⟨A', cap', e, hl, hc, hn, hr⟩ := h
  injection e with e1 e2 e3
  subst e1 e2 e3
  refine ⟨A, cap, by simp [Nat.min_eq_left hu], by simp; omega, hc, fun h0 => by have := hn h0; simp; omega, fun hp => ?_⟩
  obtain ⟨b, off, hA, hb, ht, hx⟩ := hr (by simp at hp; omega)
  refine ⟨b, off, hA, hb, ht, fun i hi => ?_⟩
  simp at hi
  rw [hx i (by omega)]
  simp
 exact h1.from_ l hl
end Go.Proofs.Ytnabbimompapfaa
namespace Go.Proofs.Ytnabbimompapfaa
open Go Go.RowKit
structure EntV where
 key : ByteArray
 val : List UInt8
 dl : Int
 birth : Int
instance : DecidableEq EntV := fun a b =>
 if h : a.key = b.key ∧ a.val = b.val ∧ a.dl = b.dl ∧ a.birth = b.birth then isTrue (by cases a; cases b; simp_all) else isFalse (by rintro rfl; simp at h)
structure EvV where
 kind : Int
 key : ByteArray
 val : List UInt8
 birth : Int
 dl : Int
 at_ : Int
instance : DecidableEq EvV := fun a b =>
 if h : a.kind = b.kind ∧ a.key = b.key ∧ a.val = b.val ∧ a.birth = b.birth ∧ a.dl = b.dl ∧ a.at_ = b.at_ then isTrue (by cases a; cases b; simp_all) else isFalse (by rintro rfl; simp at h)
structure ResV where
 op : OpV
 at_ : Int
 err : Int
 hit : Bool
 val : List UInt8
 ent : EntV
 cursor : Int
 evs : List EvV
 len : Int
 cost : Int
structure CfgV where
 count : Int
 bytes : Int
 prot : Int
 seed : Int
 same : Bool
structure PJ where
 cfg : CfgV
 now : Int
 births : Int
 L : List EntV
 U : List Int
 pl : List (Option Int)
def neverT : Int := 18446744073709551615
def dueP (dl now : Int) : Bool := decide (dl ≠ neverT ∧ dl ≤ now)
def addP (t k : Int) : Int := if neverT - t ≤ k then neverT else t + k
def costE (e : EntV) : Int := 48 + e.key.size + e.val.length
def costP (L : List EntV) : Int := (L.map costE).foldl (· + ·) 0
def cfgP (c : CfgV) : Int := if c.count < 1 ∨ 1048576 < c.count then 240 else if c.bytes < 1 ∨ 1099511627776 < c.bytes then 241 else if c.prot < 0 ∨ 99 < c.prot then 242 else 0
def findP (L : List EntV) (k : ByteArray) : Option EntV := L.find? fun e => decide (e.key = k)
def afterP (L : List EntV) (b now : Int) : Option EntV := L.find? fun e => decide (b < e.birth) && !dueP e.dl now
def freeP (pl : List (Option Int)) : Nat := (pl.findIdx? fun x => x.isNone).getD 64
def openP (pl : List (Option Int)) (c : Int) : Option Int := if c < 0 then none else (pl.getD c.toNat none)
def keyOK (k : ByteArray) : Bool := decide (1 ≤ k.size ∧ k.size ≤ 250)
def rightP (s : PJ) (o : OpV) (at_ : Int) : Int :=
 if o.kind = 1 ∨ o.kind = 2 ∨ o.kind = 3 ∨ o.kind = 4 ∨ o.kind = 5 ∨ o.kind = 6 then
  if keyOK o.key = false ∨ ((o.kind = 2 ∨ o.kind = 5) ∧ o.ttl = 0) then 2
  else if o.kind = 1 ∨ o.kind = 2 then
   if 65536 < o.val.length then 5 else if s.cfg.bytes < 48 + o.key.size + o.val.length then 12 else 0
  else 0
 else if o.kind = 8 then cfgP { s.cfg with count := o.count, bytes := o.bytes }
 else if o.kind = 11 then (if freeP s.pl = 64 then 7 else 0)
 else if o.kind = 12 ∨ o.kind = 13 ∨ o.kind = 14 then
  match openP s.pl o.cursor with
  |none => 9
  |some b => if o.kind = 12 ∧ (afterP s.L b at_).isNone then 14 else 0
 else 0
def refusedP (o : OpV) (e : Int) : Bool := decide (e ≠ 0 ∧ (o.kind ≤ 6 ∨ o.kind = 8 ∨ (o.kind = 12 ∧ e = 9)))
def eventP (k : Int) (e : EntV) (at_ : Int) : EvV := ⟨k, e.key, e.val, e.birth, e.dl, at_⟩
def stripP : List EvV → List EvV → Option (List EvV)
 |[], l => some l
 |_ :: _, [] => none
 |x :: xs, y :: ys => if y = x then stripP xs ys else none
def noExp (l : List EvV) : Bool := l.all fun v => decide (v.kind ≠ 1)
def before (a b : EntV) : Bool := decide (a.dl < b.dl ∨ (a.dl = b.dl ∧ a.birth ≤ b.birth))
def dueE (s : PJ) (at_ : Int) : List EvV := ((s.L.filter fun e => dueP e.dl at_).mergeSort before).map fun e => eventP 1 e at_
def expireP (s : PJ) (at_ : Int) : PJ :=
 { s with now := at_, L := s.L.filter fun e => !dueP e.dl at_, U := s.U.filter fun b => !(s.L.any fun e => decide (e.birth = b) && dueP e.dl at_) }
def goneP (s : PJ) (b : Int) : PJ := { s with L := s.L.filter fun e => decide (e.birth ≠ b), U := s.U.filter fun x => decide (x ≠ b) }
def useP (s : PJ) (b : Int) : PJ := { s with U := (s.U.filter fun x => decide (x ≠ b)) ++ [b] }
def ownE (s : PJ) (o : OpV) : List EvV :=
 if o.kind = 7 then s.L.map fun e => eventP 5 e s.now else
 match findP s.L o.key with
 |none => []
 |some x => if o.kind = 1 ∨ o.kind = 2 then [eventP 3 x s.now] else if o.kind = 6 then [eventP 4 x s.now] else []
def setP (s : PJ) (o : OpV) (dl : Int) : PJ :=
 match findP s.L o.key with
 |none => { s with births := s.births + 1, L := s.L ++ [⟨o.key, o.val, dl, s.births + 1⟩], U := s.U ++ [s.births + 1] }
 |some x => useP { s with L := s.L.map fun e => if e.birth = x.birth then ⟨e.key, o.val, dl, e.birth⟩ else e } x.birth
def effA (s : PJ) (o : OpV) : PJ :=
 if o.kind = 1 then setP s o neverT
 else if o.kind = 2 then setP s o (addP s.now o.ttl)
 else if o.kind = 7 then { s with L := [], U := [] }
 else if o.kind = 8 then { s with cfg := { s.cfg with count := o.count, bytes := o.bytes } }
 else match findP s.L o.key with
  |none => s
  |some x =>
   if o.kind = 3 then useP s x.birth
   else if o.kind = 5 then useP { s with L := s.L.map fun e => if e.birth = x.birth then { e with dl := addP s.now o.ttl } else e } x.birth
   else if o.kind = 6 then goneP s x.birth
   else s
def effB (s : PJ) (o : OpV) : PJ :=
 if o.kind = 11 then { s with pl := s.pl.set (freeP s.pl) (some 0) }
 else if o.kind = 12 then
  match openP s.pl o.cursor with
  |none => s
  |some b => match afterP s.L b s.now with
   |none => s
   |some x => { s with pl := s.pl.set o.cursor.toNat (some x.birth) }
 else if o.kind = 13 then { s with pl := s.pl.set o.cursor.toNat (some o.birth) }
 else if o.kind = 14 then { s with pl := s.pl.set o.cursor.toNat none }
 else s
def effP (s : PJ) (o : OpV) (e : Int) : PJ := if e = 0 then effB (effA s o) o else effA s o
def withinP (s : PJ) : Prop := (s.L.length : Int) ≤ s.cfg.count ∧ costP s.L ≤ s.cfg.bytes
instance (s : PJ) : Decidable (withinP s) := inferInstanceAs (Decidable (_ ∧ _))
def evictP (o : OpV) : List EvV → PJ → Except Int PJ
 |[], s => .ok s
 |v :: l, s => match findP s.L v.key with
  |none => .error 2
  |some x =>
   if v ≠ eventP 2 x s.now then .error 2
   else if withinP s ∨ ((o.kind = 1 ∨ o.kind = 2) ∧ x.key = o.key) then .error 4
   else if s.cfg.prot = 0 ∧ s.U.head? ≠ some x.birth then .error 4
   else evictP o l (goneP s x.birth)
structure WantV where
 hit : Bool
 val : List UInt8
 ent : EntV
 cursor : Int
def ent0 : EntV := ⟨⟨#[]⟩, [], 0, 0⟩
def want0 : WantV := ⟨false, [], ent0, 0⟩
def readsP (s : PJ) (o : OpV) (e : Int) : WantV :=
 if o.kind = 3 ∨ o.kind = 4 ∨ o.kind = 5 ∨ o.kind = 6 then
  match findP s.L o.key with
  |none => want0
  |some x => { want0 with hit := true, val := if o.kind = 3 then x.val else [], ent := if o.kind = 4 then x else ent0 }
 else if o.kind = 11 ∧ e = 0 then { want0 with cursor := freeP s.pl }
 else if o.kind = 12 ∧ e = 0 then
  match openP s.pl o.cursor with
  |none => want0
  |some b => match afterP s.L b s.now with
   |none => want0
   |some x => { want0 with ent := x }
 else want0
def eventsP (s : PJ) (o : OpV) (e at_ : Int) (l : List EvV) : Except Int (PJ × WantV) :=
 match stripP (dueE s at_) l with
 |none => .error 3
 |some l1 => if noExp l1 = false then .error 3 else
  match stripP (ownE (expireP s at_) o) l1 with
  |none => .error 2
  |some l2 => match evictP o l2 (effP (expireP s at_) o e) with
   |.error x => .error x
   |.ok s2 => .ok (s2, readsP (expireP s at_) o e)
def endP (r : ResV) (s : PJ) (w : WantV) : Except Int PJ :=
 if ¬ withinP s ∨ r.len ≠ (s.L.length : Int) ∨ r.cost ≠ costP s.L then .error 5
 else if r.hit ≠ w.hit ∨ r.val ≠ w.val ∨ (r.ent ≠ w.ent ∧ r.op.kind ≠ 12) then .error 6
 else if r.cursor ≠ w.cursor ∨ r.ent ≠ w.ent then .error 7
 else .ok s
def jstep (s : PJ) (r : ResV) : Except Int PJ :=
 if r.op.kind < 1 ∨ 14 < r.op.kind ∨ r.err ≠ rightP s r.op (addP s.now r.op.ticks) then .error 8
 else if refusedP r.op r.err = true then
  if r.at_ ≠ s.now then .error 1
  else if noExp r.evs = false then .error 3
  else if r.evs ≠ [] then .error 2
  else endP r s want0
 else
  if r.at_ ≠ addP s.now r.op.ticks then .error 1
  else match eventsP s r.op r.err (addP s.now r.op.ticks) r.evs with
   |.error x => .error x
   |.ok (s2, w) => endP r s2 w
def jall : List ResV → PJ → Nat → (Int × Int) × PJ
 |[], s, _ => ((-1, 0), s)
 |r :: l, s, i => match jstep s r with
  |.error x => (((i : Int), x), s)
  |.ok s2 => jall l s2 (i + 1)
def start (c : CfgV) : PJ := ⟨c, 0, 0, [], [], List.replicate 64 none⟩
def checkP (c : CfgV) (l : List ResV) : Int × Int × Int :=
 if cfgP c ≠ 0 then (0, 0, cfgP c) else if 4096 < l.length then (0, 0, 7) else ((jall l (start c) 0).1.1, (jall l (start c) 0).1.2, 0)
def liveP (c : CfgV) (l : List ResV) : List EntV × Int :=
 if (checkP c l).2.2 ≠ 0 then ([], (checkP c l).2.2) else if (checkP c l).2.1 ≠ 0 then ([], 10) else ((jall l (start c) 0).2.L, 0)
end Go.Proofs.Ytnabbimompapfaa
