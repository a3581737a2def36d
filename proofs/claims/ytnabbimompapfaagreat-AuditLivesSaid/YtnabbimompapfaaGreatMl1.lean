/- Base, Phase, Take, Clone, ScrM, AudM, AudN, AudO, AudA, AudB, AudRA, AudC, AudRB -/
import Derived.WalkKit
import Derived.WalkSpells
import Derived.WalkLawsBesides
import Derived.Maps.AppendAt
import Derived.Lib.Hide
import Derived.Laws.IdiomStrings
import Derived.Deep.RegionHeld3
import Derived.StillTail
import Derived.Test.YtnabbimompapfaaGreatRows
import Derived.BigQuiet
import Derived.Deep.QuietTactic
import Derived.Deep.RegionLaw
import Derived.RegionTactic
import Derived.Laws.BitsAllLaws
import Derived.Lib.Slices
namespace Go.Proofs.YtnabbimompapfaaGreat
open Go Go.RowKit
theorem zH {p : Prop} (h : p) : RowKit.Hid p := h
theorem zN (n : Nat) : n ≤ n := Nat.le_refl n
theorem zL (B : Nat) (w : World) : Below B w w := Below.refl B w
attribute [go_sem] Lib.run_eql_slice_nil
structure Only (S : Nat → Prop) (w w' : World) : Prop where
 os : w'.os = w.os
 tape : w'.tape = w.tape
 output : w'.output = w.output
 size : w.heap.size ≤ w'.heap.size
 block : ∀ k, k < w.heap.size → ¬ S k → w'.heap[k]? = w.heap[k]?
section
variable {S T : Nat → Prop} {a b c w w' : World}
theorem Only.refl (S : Nat → Prop) (w : World) : Only S w w := ⟨rfl, rfl, rfl, zN _, fun _ _ _ => rfl⟩
theorem Only.trans (h : Only S a b) (k : Only T b c) (hT : ∀ i, i < a.heap.size → T i → S i) : Only S a c :=
 ⟨k.os.trans h.os, k.tape.trans h.tape, k.output.trans h.output, Nat.le_trans h.size k.size, fun i hi hn =>
  (k.block i (Nat.lt_of_lt_of_le hi h.size) (fun ht => hn (hT i hi ht))).trans (h.block i hi hn)⟩
theorem Only.mono (h : Only S a b) (hT : ∀ i, i < a.heap.size → S i → T i) : Only T a b :=
 ⟨h.os, h.tape, h.output, h.size, fun i hi hn => h.block i hi (fun hs => hn (hT i hi hs))⟩
theorem Only.of_below (h : Below a.heap.size a b) : Only S a b := ⟨h.os, h.tape, h.output, h.size, fun i hi _ => h.block i hi⟩
theorem Only.below {B : Nat} (h : Only S a b) (hS : ∀ i, i < B → i < a.heap.size → ¬ S i) (hB : B ≤ a.heap.size) : Below B a b :=
 ⟨h.os, h.tape, h.output, h.size, fun i hi => h.block i (by omega) (hS i hi (by omega))⟩
theorem Only.of_grown {row : Option Nat} (h : a.grownBy b row) : Only (fun k => row = some k) a b :=
 ⟨h.os, h.tape, h.output, h.size, fun i hi hn => h.block i hi (fun e => hn e.symm)⟩
theorem Only.drew (h : Only S a w) : Only S a w.drew := ⟨h.os, h.tape, h.output, h.size, h.block⟩
theorem Only.alloc (h : Only S a w) (o : Obj) : Only S a (w.alloc o) :=
 ⟨h.os, h.tape, h.output, Nat.le_trans h.size (by simp), fun i hi hn => (Below.heap_alloc w o i (Nat.lt_of_lt_of_le hi h.size)).trans (h.block i hi hn)⟩
theorem Only.setCell (h : Only S a w) {p : Addr} (hp : S p.block ∨ a.heap.size ≤ p.block) (u : Value) : Only S a (w.setCell p u) :=
 ⟨h.os, h.tape, h.output, by simpa [World.setCell] using h.size, fun i hi hn => (Below.heap_setCell w p u i (by
  rintro rfl
  rcases hp with hp | hp
  ·exact hn hp
  ·omega)).trans (h.block i hi hn)⟩
end
theorem lt_of_heap {w : World} {g : Nat} {o : Obj} (h : w.heap[g]? = some o) : g < w.heap.size := by
 rcases Nat.lt_or_ge g w.heap.size with h2 | h2
 ·exact h2
 ·rw [Array.getElem?_eq_none h2] at h; cases h
def Blk (w : World) (g : Nat) (t : TypeId) (cs : Array Value) : Prop := w.heap[g]? = some (.cells cs t (0, 0))
section
variable {w w' : World} {g : Nat} {t : TypeId} {cs : Array Value}
theorem Blk.lt (h : Blk w g t cs) : g < w.heap.size := lt_of_heap h
theorem Blk.cell (h : Blk w g t cs) (i : Nat) (v : Value) (hv : cs[i]? = some v) : w.cell? ⟨g, i, none⟩ = some v := by
 unfold Blk at h; simp [World.cell?, h, hv]
theorem Blk.frozen (h : Blk w g t cs) (i : Nat) : w.frozen? ⟨g, i, none⟩ = false := by
 unfold Blk at h; simp [World.frozen?, h]
theorem Blk.new (w : World) (t : TypeId) (cs : Array Value) : Blk (w.alloc (.cells cs t)) w.heap.size t cs := heap_alloc_new w _
theorem Blk.new2 (w : World) (o : Obj) (t : TypeId) (cs : Array Value) : Blk ((w.alloc o).alloc (.cells cs t)) (w.heap.size + 1) t cs := by
 have := Blk.new (w.alloc o) t cs
 rwa [World.size_alloc] at this
theorem Blk.new3 (w : World) (o o2 : Obj) (t : TypeId) (cs : Array Value) : Blk (((w.alloc o).alloc o2).alloc (.cells cs t)) (w.heap.size + 1 + 1) t cs := by
 have := Blk.new ((w.alloc o).alloc o2) t cs
 rwa [World.size_alloc, World.size_alloc] at this
theorem Blk.alloc (h : Blk w g t cs) (o : Obj) : Blk (w.alloc o) g t cs := (Below.heap_alloc w o g h.lt).trans h
theorem Blk.drew (h : Blk w g t cs) : Blk w.drew g t cs := h
theorem Blk.set_ (h : Blk w g t cs) (i : Nat) (u : Value) : Blk (w.setCell ⟨g, i, none⟩ u) g t (cs.setIfInBounds i u) := by
 unfold Blk at h ⊢; simp [World.setCell, Array.getElem?_modify, h]
theorem Blk.far (h : Blk w g t cs) {p : Addr} (hp : g ≠ p.block) (u : Value) : Blk (w.setCell p u) g t cs := (Below.heap_setCell w p u g hp).trans h
theorem Blk.only {S : Nat → Prop} (h : Blk w g t cs) (ho : Only S w w') (hn : ¬ S g) : Blk w' g t cs := (ho.block g h.lt hn).trans h
theorem Blk.below (h : Blk w g t cs) (hb : Below w.heap.size w w') : Blk w' g t cs := (hb.block g h.lt).trans h
theorem Blk.below_at {B : Nat} (h : Blk w g t cs) (hb : Below B w w') (hg : g < B) : Blk w' g t cs := (hb.block g hg).trans h
theorem Blk.own {o : Obj} (hb : Below (w.alloc o).heap.size (w.alloc o) w') : w'.heap[w.heap.size]? = some o ∧ w.heap.size < w'.heap.size := by
 have h1 : w.heap.size < (w.alloc o).heap.size := by simp
 refine ⟨(hb.block _ h1).trans ?_, Nat.lt_of_lt_of_le h1 hb.size⟩
 exact heap_alloc_new w o
theorem Blk.ne_ {g' : Nat} {t' : TypeId} {cs' : Array Value} {fr : Nat × Nat} (h : Blk w g t cs) (h' : w.heap[g']? = some (.cells cs' t' fr)) (hne : t ≠ t') : g ≠ g' := by
 rintro rfl
 unfold Blk at h
 rw [h] at h'
 injection h' with h'
 injection h' with _ ht
 exact hne ht
end
theorem below_own {w w1 : World} {o : Obj} (hb : Below (w.alloc o).heap.size (w.alloc o) w1) : Below w.heap.size w w1 :=
 ((zL _ _).alloc (zN _) _).trans (hb.mono (by simp))
theorem below_drew {w w1 : World} {B : Nat} (hb : Below B w.drew w1) : Below B w w1 := ⟨hb.os, hb.tape, hb.output, hb.size, hb.block⟩
theorem ownsRow_only {S : Nat → Prop} {w w' : World} {base : Nat} {e : TypeId} {size : Nat} {v : Value} {n : Nat} {xs : List Value} (h : w.ownsRow base e size v n xs) (ho : Only S w w') (hn : ∀ k, v.ownBlock = some k → ¬ S k) : w'.ownsRow base e size v n xs := by
 refine ⟨h.1, ?_⟩
 rcases h.2 with h2 | ⟨g, cap, cur, hv, hg, hh, r⟩
 ·exact Or.inl h2
 ·exact Or.inr ⟨g, cap, cur, hv, hg, (ho.block g (lt_of_heap hh) (hn g (by rw [hv]; rfl))).trans hh, r⟩
theorem ownsRow_base {w : World} {base base' : Nat} {e : TypeId} {size : Nat} {v : Value} {n : Nat} {xs : List Value} (h : w.ownsRow base e size v n xs) (hb : base' ≤ base) : w.ownsRow base' e size v n xs := by
 refine ⟨h.1, ?_⟩
 rcases h.2 with h2 | ⟨g, cap, cur, hv, hg, r⟩
 ·exact Or.inl h2
 ·exact Or.inr ⟨g, cap, cur, hv, by omega, r⟩
def Src (w : World) (size : Nat) (A : Option Addr) (m : Nat) (news : List Value) : Prop :=
 news.length = m * size ∧ (A = none → m = 0) ∧ ∀ a, A = some a → ∀ j u, news[j]? = some u → w.cell? (a.add j) = some u
section
variable {P : Program} (w : World)
theorem run_append_none_any (base : Nat) (t ty e : TypeId) (i : TypeInfo) (size : Nat) (ht : P.underlying t = some (.slice e)) (hi : P.info? e = some i)
  (v : Value) (n : Nat) (xs : List Value) (hown : w.ownsRow base e size v n xs) (c : Nat) :
  (Builtin.append_ #[t, t] ty #[v, .slice none 0 c]).run P w = .ok v w := by
 rcases hown.2 with ⟨rfl, rfl⟩ | ⟨g, cap, cur, rfl, _, _, hnc, _⟩
 ·simp [Builtin.append_, run_underlying ht, sizeOf, typeInfo, hi, Builtin.lenOf, Builtin.firstCells]
 ·simp [Builtin.append_, run_underlying ht, sizeOf, typeInfo, hi, Builtin.lenOf, Builtin.firstCells, hnc, storeCells]
theorem run_append_src (base : Nat) (t ty e : TypeId) (i : TypeInfo) (z : Value) (size bytes : Nat) (ht : P.underlying t = some (.slice e)) (hi : P.info? e = some i) (hz : i.zero = some z)
  (hsize : i.size = size) (hby : i.bytes = bytes) (hzs : z.cells.size = size) (hsz : 0 < size)
  (v : Value) (n : Nat) (xs : List Value) (hown : w.ownsRow base e size v n xs)
  (A : Option Addr) (m c : Nat) (news : List Value) (hs : Src w size A m news) (h1 : ∀ u ∈ news, u.oneCell' = true)
  (h63 : n + m ≤ maxLen) (hbytes : (n + m) * bytes ≤ 140737488355328) (hbase : base ≤ w.heap.size) :
  ∃ v' w', (Builtin.append_ #[t, t] ty #[v, .slice A m c]).run P w = .ok v' w' ∧ w'.ownsRow base e size v' (n + m) (xs ++ news) ∧ w.grownBy w' v.ownBlock ∧
   (v'.ownBlock = v.ownBlock ∨ v'.ownBlock = some w.heap.size) := by
 obtain ⟨hl, hn, hc⟩ := hs
 cases A with
 |none =>
  have hm := hn rfl
  subst hm
  have : news = [] := by simpa using hl
  subst this
  exact ⟨v, w, run_append_none_any w base t ty e i size ht hi v n xs hown c, by simpa using hown, World.grownBy.refl w _, .inl rfl⟩
 |some a =>
  obtain ⟨v', w', hrun, h2, h3, _, h5⟩ := run_append_own_at (P := P) w base t ty e i z size bytes ht hi hz hsize hby hzs hsz v n xs hown a m c news hl (hc a rfl) h1 h63 hbytes hbase
  exact ⟨v', w', hrun, h2, h3, h5⟩
theorem wp_append_src {o : Oper} {a : Act} {K : Act → World → Prop} {Q : Exit → Act → World → Prop} (s x : Operand) (t : TypeId)
  (ho : o.op = .call { callee := .builtin .append, args := #[s, x], argTypes := #[t, t] })
  (base : Nat) (e : TypeId) (i : TypeInfo) (z : Value) (size bytes : Nat) (ht : P.underlying t = some (.slice e)) (hi : P.info? e = some i) (hz : i.zero = some z)
  (hsize : i.size = size) (hby : i.bytes = bytes) (hzs : z.cells.size = size) (hsz : 0 < size)
  (v : Value) (n : Nat) (xs : List Value) (hs : a.eval s = v) (hown : w.ownsRow base e size v n xs)
  (A : Option Addr) (m c : Nat) (news : List Value) (hx : a.eval x = .slice A m c) (hr : Src w size A m news) (h1 : ∀ u ∈ news, u.oneCell' = true)
  (h63 : n + m ≤ maxLen) (hbytes : (n + m) * bytes ≤ 140737488355328) (hbase : base ≤ w.heap.size)
  (h : ∀ v' w', w'.ownsRow base e size v' (n + m) (xs ++ news) → w.grownBy w' v.ownBlock → (v'.ownBlock = v.ownBlock ∨ v'.ownBlock = some w.heap.size) → K (a.put o.dst v') w') : o.wp P a w K Q := by
 obtain ⟨v', w', hrun, h2, h3, h4⟩ := run_append_src (P := P) w base t o.type e i z size bytes ht hi hz hsize hby hzs hsz v n xs hown A m c news hr h1 h63 hbytes hbase
 unfold Oper.wp execOp
 simp only [ho, resolve, invoke, builtin, Sem.run_bind, Sem.run_pure, Result.andThen_ok, List.map_toArray, List.map_cons, List.map_nil, hs, hx, hrun]
 exact h v' w' h2 h3 h4
theorem wpList_append_src {ops : Array Oper} {rest : List Oper} {o : Oper} {a : Act} {Q : Exit → Act → World → Prop} (hgd : o.guard = none) (s x : Operand) (t : TypeId)
  (ho : o.op = .call { callee := .builtin .append, args := #[s, x], argTypes := #[t, t] })
  (base : Nat) (e : TypeId) (i : TypeInfo) (z : Value) (size bytes : Nat) (ht : P.underlying t = some (.slice e)) (hi : P.info? e = some i) (hz : i.zero = some z)
  (hsize : i.size = size) (hby : i.bytes = bytes) (hzs : z.cells.size = size) (hsz : 0 < size)
  (v : Value) (n : Nat) (xs : List Value) (hs : a.eval s = v) (hown : w.ownsRow base e size v n xs)
  (A : Option Addr) (m c : Nat) (news : List Value) (hx : a.eval x = .slice A m c) (hr : Src w size A m news) (h1 : ∀ u ∈ news, u.oneCell' = true)
  (h63 : n + m ≤ maxLen) (hbytes : (n + m) * bytes ≤ 140737488355328) (hbase : base ≤ w.heap.size)
  (h : ∀ v' w', w'.ownsRow base e size v' (n + m) (xs ++ news) → w.grownBy w' v.ownBlock → (v'.ownBlock = v.ownBlock ∨ v'.ownBlock = some w.heap.size) → wpList P ops Q rest (a.put o.dst v') w') : wpList P ops Q (o :: rest) a w :=
 wpList_plain hgd fun _ hK => wp_append_src w s x t ho base e i z size bytes ht hi hz hsize hby hzs hsz v n xs hs hown A m c news hx hr h1 h63 hbytes hbase fun v' w' h2 h3 h4 => hK _ _ (h v' w' h2 h3 h4)
theorem step_append_src {ops : Array Oper} {o : Oper} {a : Act} {K : Act → World → Prop} {Q : Exit → Act → World → Prop} {E : Prop} (hgd : o.guard = none) (s x : Operand) (t : TypeId)
  (ho : o.op = .call { callee := .builtin .append, args := #[s, x], argTypes := #[t, t] })
  (base : Nat) (e : TypeId) (i : TypeInfo) (z : Value) (size bytes : Nat) (ht : P.underlying t = some (.slice e)) (hi : P.info? e = some i) (hz : i.zero = some z)
  (hsize : i.size = size) (hby : i.bytes = bytes) (hzs : z.cells.size = size) (hsz : 0 < size)
  (v : Value) (n : Nat) (xs : List Value) (hs : a.eval s = v) (hown : w.ownsRow base e size v n xs)
  (A : Option Addr) (m c : Nat) (news : List Value) (hx : a.eval x = .slice A m c) (hr : Src w size A m news) (h1 : ∀ u ∈ news, u.oneCell' = true)
  (h63 : n + m ≤ maxLen) (hbytes : (n + m) * bytes ≤ 140737488355328) (hbase : base ≤ w.heap.size)
  (h : ∀ v' w', w'.ownsRow base e size v' (n + m) (xs ++ news) → w.grownBy w' v.ownBlock → (v'.ownBlock = v.ownBlock ∨ v'.ownBlock = some w.heap.size) → K (a.put o.dst v') w') :
  if Region.wanted o (yielded ops a.tmps) = true then Oper.wp P o a w K Q else E := by
 have hw : Region.wanted o (yielded ops a.tmps) = true := by simp [Region.wanted, hgd]
 rw [if_pos hw]
 exact wp_append_src w s x t ho base e i z size bytes ht hi hz hsize hby hzs hsz v n xs hs hown A m c news hx hr h1 h63 hbytes hbase h
end
def bcells (bs : List UInt8) : List Value := bs.map fun x => .int .u8 (x.toNat : Int)
theorem bcells_length (bs : List UInt8) : (bcells bs).length = bs.length := by simp [bcells]
theorem bcells_one (bs : List UInt8) : ∀ u ∈ bcells bs, u.oneCell' = true := by
 intro u hu
 simp only [bcells, List.mem_map] at hu
 obtain ⟨x, _, rfl⟩ := hu
 rfl
def Bts (w : World) (B U : Nat) (v : Value) (bs : List UInt8) : Prop :=
 ∃ A cap, v = .slice A bs.length cap ∧ bs.length ≤ cap ∧ cap ≤ maxLen ∧ (A = none → bs.length = 0) ∧
  (0 < bs.length → ∃ b off, A = some ⟨b, off, none⟩ ∧ b < w.heap.size ∧ (b < B ∨ ∃ c fr, w.heap[b]? = some (.cells c U fr)) ∧ ∀ i (h : i < bs.length), w.cell? ⟨b, off + i, none⟩ = some (.int .u8 (bs[i].toNat : Int)))
def KeepB (B U : Nat) (w w' : World) : Prop :=
 w.heap.size ≤ w'.heap.size ∧ ∀ k, k < w.heap.size → (k < B ∨ ∃ c fr, w.heap[k]? = some (.cells c U fr)) → w'.heap[k]? = w.heap[k]?
section
variable {w w' w2 : World} {B U : Nat} {v : Value} {bs : List UInt8}
theorem KeepB.refl (B U : Nat) (w : World) : KeepB B U w w := ⟨zN _, fun _ _ _ => rfl⟩
theorem KeepB.of_below (h : Below w.heap.size w w') : KeepB B U w w' := ⟨h.size, fun k hk _ => h.block k hk⟩
theorem KeepB.of_only {S : Nat → Prop} (h : Only S w w') (hS : ∀ k, k < w.heap.size → S k → B ≤ k ∧ ∀ c fr, w.heap[k]? ≠ some (.cells c U fr)) : KeepB B U w w' :=
 ⟨h.size, fun k hk hc => h.block k hk (fun hs => by
  obtain ⟨h1, h2⟩ := hS k hk hs
  rcases hc with hc | ⟨c, fr, hc⟩
  ·omega
  ·exact h2 c fr hc)⟩
theorem KeepB.trans (h : KeepB B U w w') (k : KeepB B U w' w2) : KeepB B U w w2 :=
 ⟨Nat.le_trans h.1 k.1, fun i hi hc => (k.2 i (Nat.lt_of_lt_of_le hi h.1) (by
  rcases hc with hc | ⟨c, fr, hc⟩
  ·exact .inl hc
  ·exact .inr ⟨c, fr, by rw [h.2 i hi (.inr ⟨c, fr, hc⟩)]; exact hc⟩)).trans (h.2 i hi hc)⟩
theorem Bts.keep (h : Bts w B U v bs) (k : KeepB B U w w') : Bts w' B U v bs := by
 obtain ⟨A, cap, hv, hl, hm, hn, hr⟩ := h
 refine ⟨A, cap, hv, hl, hm, hn, fun h0 => ?_⟩
 obtain ⟨b, off, hA, hb, ht, hc⟩ := hr h0
 have e := k.2 b hb ht
 refine ⟨b, off, hA, Nat.lt_of_lt_of_le hb k.1, ?_, fun i hi => ?_⟩
 ·rcases ht with ht | ⟨c, fr, ht⟩
  ·exact .inl ht
  ·exact .inr ⟨c, fr, by rw [e]; exact ht⟩
 ·rw [World.cell?_of_block (w := w) (a := ⟨b, off + i, none⟩) e]
  exact hc i hi
theorem Bts.below (h : Bts w B U v bs) (k : Below w.heap.size w w') : Bts w' B U v bs := h.keep (KeepB.of_below k)
theorem Bts.alloc (h : Bts w B U v bs) (o : Obj) : Bts (w.alloc o) B U v bs := h.below ((zL _ _).alloc (zN _) _)
theorem Bts.drew (h : Bts w B U v bs) : Bts w.drew B U v bs := h
theorem Bts.nil (w : World) (B U : Nat) : Bts w B U (.slice none 0 0) [] := ⟨none, 0, rfl, zN _, Nat.zero_le _, fun _ => rfl, fun h => by simp at h⟩
theorem Bts.only {S : Nat → Prop} (h : Bts w B U v bs) (k : Only S w w') (hn : ∀ g, v.ownBlock = some g → ¬ S g) : Bts w' B U v bs := by
 obtain ⟨A, cap, hv, hl, hm, hnn, hr⟩ := h
 refine ⟨A, cap, hv, hl, hm, hnn, fun h0 => ?_⟩
 obtain ⟨b, off, hA, hb, ht, hc⟩ := hr h0
 have e := k.block b hb (hn b (by rw [hv, hA]; rfl))
 refine ⟨b, off, hA, Nat.lt_of_lt_of_le hb k.size, ?_, fun i hi => ?_⟩
 ·rcases ht with ht | ⟨c, fr, ht⟩
  ·exact .inl ht
  ·exact .inr ⟨c, fr, by rw [e]; exact ht⟩
 ·rw [World.cell?_of_block (w := w) (a := ⟨b, off + i, none⟩) e]
  exact hc i hi
theorem Bts.of_own {base : Nat} (h : w.ownsRow base U 1 v bs.length (bcells bs)) (B : Nat) : Bts w B U v bs := by
 rcases h.2 with ⟨hv, h0⟩ | ⟨g, cap, cur, hv, hg, hh, hnc, hm, hcs, ht⟩
 ·exact ⟨none, 0, by rw [hv, h0], by omega, Nat.zero_le _, fun _ => h0, fun h => by omega⟩
 ·refine ⟨some ⟨g, 0, none⟩, cap, hv, hnc, hm, (fun h => by cases h), fun _ => ⟨g, 0, rfl, lt_of_heap hh, .inr ⟨_, _, hh⟩, fun i hi => ?_⟩⟩
  have hc : cur[i]? = some (.int .u8 (bs[i].toNat : Int)) := by
   have : (cur.toList.take (bs.length * 1))[i]? = some (.int .u8 (bs[i].toNat : Int)) := by
    rw [ht]
    simp [bcells, hi]
   rw [List.getElem?_take, if_pos (by omega)] at this
   simpa using this
  simp only [Nat.zero_add]
  simp [World.cell?, hh, hc]
theorem add_plain (b off j : Nat) : (⟨b, off, none⟩ : Addr).add j = ⟨b, off + j, none⟩ := by
 unfold Addr.add
 split
 ·rename_i h; subst h; rfl
 ·rfl
theorem Bts.src (h : Bts w B U v bs) : ∃ A cap, v = .slice A bs.length cap ∧ Src w 1 A bs.length (bcells bs) := by
 obtain ⟨A, cap, hv, _, _, hn, hr⟩ := h
 refine ⟨A, cap, hv, by simp [bcells], hn, fun a ha j u hu => ?_⟩
 have hj : j < bs.length := by
  have := (List.getElem?_eq_some_iff.1 hu).1
  simpa [bcells] using this
 obtain ⟨b, off, hA, _, _, hc⟩ := hr (by omega)
 rw [ha] at hA
 injection hA with hA
 subst hA
 rw [add_plain, hc j hj]
 simp [bcells, hj] at hu
 rw [hu]
theorem Bts.src_at {A : Option Addr} {n cap : Nat} (h : Bts w B U (.slice A n cap) bs) : n = bs.length ∧ Src w 1 A bs.length (bcells bs) := by
 obtain ⟨A', cap', e, hs⟩ := h.src
 injection e with e1 e2 e3
 subst e1
 exact ⟨e2, hs⟩
theorem Bts.form (h : Bts w B U v bs) : ∃ A cap, v = .slice A bs.length cap := by obtain ⟨A, cap, hv, _⟩ := h; exact ⟨A, cap, hv⟩
theorem Bts.le (h : Bts w B U v bs) : bs.length ≤ maxLen := by obtain ⟨_, _, _, h1, h2, _⟩ := h; omega
theorem Bts.string {P : Program} (h : Bts w B U v bs) (src dst : TypeId) (hs : P.underlying src = some (.slice U)) (he : P.underlying U = some (.int .u8)) (hd : P.underlying dst = some .string) :
  (convert src dst v).run P w = .ok (.string ⟨bs.toArray⟩) w := by
 obtain ⟨A, cap, rfl, _, _, hn, hr⟩ := h
 cases A with
 |none =>
  have h0 := hn rfl
  have : bs = [] := by simpa using h0
  subst this
  exact run_convert_bytes_nil w src U hs he _ _ dst hd
 |some a =>
  refine run_convert_bytes_back w src dst U a cap bs hs he hd fun j hj => ?_
  obtain ⟨b, off, hA, _, _, hc⟩ := hr (by omega)
  injection hA with hA
  subst hA
  rw [add_plain]
  exact hc j hj
end
theorem own_form {w : World} {base : Nat} {e : TypeId} {size : Nat} {v : Value} {n : Nat} {xs : List Value} (h : w.ownsRow base e size v n xs) : ∃ A cap, v = .slice A n cap ∧ n ≤ cap ∧ cap ≤ maxLen := by
 rcases h.2 with ⟨rfl, rfl⟩ | ⟨g, cap, cur, rfl, _, _, h1, h2, _⟩
 ·exact ⟨none, 0, rfl, zN _, Nat.zero_le _⟩
 ·exact ⟨_, _, rfl, h1, h2⟩
theorem below_own2 {w w1 : World} {o o2 : Obj} (hb : Below ((w.alloc o).alloc o2).heap.size ((w.alloc o).alloc o2) w1) : Below w.heap.size w w1 :=
 (((zL _ _).alloc (zN _) _).alloc (by simp) _).trans (hb.mono (by simp; omega))
theorem own_empty (w : World) (e : TypeId) (size : Nat) : (w.alloc (.cells #[] e)).ownsRow w.heap.size e size (.slice (some ⟨w.heap.size, 0, none⟩) 0 0) 0 [] :=
 World.ownsRow_made w #[] 0 (zN _) (by unfold maxLen; omega) (by simp)
end Go.Proofs.YtnabbimompapfaaGreat
namespace Go.Proofs.YtnabbimompapfaaGreat
open Go Go.RowKit
section
variable {P : Program} {ops : Array Oper} {Q : Exit → Act → World → Prop} {md : Region.Mode} {q : List Nat} {R S : World → Prop}
def Unstored (q : List Nat) (listed : Array Bool) : Prop := ∀ s ∈ q, listed.getD s true = false
def Till (q : List Nat) (R S : World → Prop) (listed : Array Bool) (w : World) : Prop := S w ∧ (Unstored q listed → R w)
theorem Till.of {listed : Array Bool} {w : World} (hs : S w) (h : R w) : Till q R S listed w := ⟨hs, fun _ => h⟩
theorem Till.stored {listed : Array Bool} {w : World} (hs : S w) (h : q.any (fun s => listed.getD s true) = true) : Till q R S listed w := ⟨hs, fun hu => by
 obtain ⟨s, hm, hl⟩ := List.any_eq_true.1 h
 rw [hu s hm] at hl
 cases hl⟩
theorem Unstored.set {listed : Array Bool} {j : Nat} (h : Unstored q listed) (hj : j ∉ q) : Unstored q (listed.setIfInBounds j true) := fun s hs => by
 rw [getD_set_ne true (fun e => hj (by rw [e]; exact hs))]; exact h s hs
theorem Unstored.back {listed : Array Bool} {j : Nat} (h : Unstored q (listed.setIfInBounds j true)) (hj : j ∉ q) : Unstored q listed := fun s hs => by
 have := h s hs
 rwa [getD_set_ne true (fun e => hj (by rw [e]; exact hs))] at this
def wpTill (P : Program) (md : Region.Mode) (ops : Array Oper) (Q : Exit → Act → World → Prop) (q : List Nat) (R S : World → Prop) : Nat → Array Bool → Act → World → Prop
 |0, listed, a, w => Region.ready md ops listed = [] ∧ Q .normal a w
 |n + 1, listed, a, w => (Region.ready md ops listed = [] → Q .normal a w) ∧
  ∀ j ∈ Region.ready md ops listed, wpOp P ops Q j (fun b x => Till q R S (listed.setIfInBounds j true) x ∧ wpTill P md ops Q q R S n (listed.setIfInBounds j true) b x) a w
theorem wpTill.any : ∀ (n : Nat) {listed : Array Bool} {a : Act} {w : World}, wpTill P md ops Q q R S n listed a w → wpAny P md ops Q n listed a w
 |0, _, _, _, h => h
 |n + 1, _, _, _, h => ⟨h.1, fun j hj => wpOp_mono (fun _ _ k => wpTill.any n k.2) (h.2 j hj)⟩
theorem wpTill.first {i : Nat} {o : Oper} {v : Value} {T : World → Prop} {I : Array Bool → Prop} (ho : ops[i]? = some o) (hiq : i ∉ q) (hsel : Region.noSelect ops = true)
  (hT : ∀ listed w, I listed → Till q R S listed w → T w) (hI : ∀ listed j, I listed → listed.getD i true = false → j ∈ Region.ready md ops listed → j ≠ i → I (listed.setIfInBounds j true))
  (hQ : ∀ c a w, Q (.panic c) (a.put o.dst v) w → Q (.panic c) a w) (n : Nat) :
  ∀ {listed : Array Bool} {a : Act} {w : World},
   (∀ j oj, ops[j]? = some oj → j ≠ i → listed.getD j true = false → (∀ e ∈ oj.after, Region.binds md e = true → e.on ≠ i) → o.apart ops oj = true) →
   i ∈ Region.ready md ops listed → I listed → YieldsIf P ops T o v a → Till q R S listed w →
   wpTill P md ops Q q R S n (listed.setIfInBounds i true) (a.put o.dst v) w → wpTill P md ops Q q R S (n + 1) listed a w := by
 have done : ∀ {m : Nat} {listed : Array Bool} {a : Act} {w : World}, I listed → YieldsIf P ops T o v a → Till q R S listed w →
   wpTill P md ops Q q R S m (listed.setIfInBounds i true) (a.put o.dst v) w →
   wpOp P ops Q i (fun b x => Till q R S (listed.setIfInBounds i true) x ∧ wpTill P md ops Q q R S m (listed.setIfInBounds i true) b x) a w :=
  fun hl hy hR H => hy.wpOp ho (hT _ _ hl hR) ⟨⟨hR.1, fun hu => hR.2 (hu.back hiq)⟩, H⟩
 induction n with
 |zero =>
  intro listed a w _ hr hl hy hR H
  refine ⟨fun e => by rw [e] at hr; exact absurd hr List.not_mem_nil, fun j hj => ?_⟩
  by_cases e : j = i
  ·subst e; exact done hl hy hR H
  ·have h2 := ready_mono hj e
   rw [H.1] at h2
   exact absurd h2 List.not_mem_nil
 |succ n ih =>
  intro listed a w hfree hr hl hy hR H
  refine ⟨fun e => by rw [e] at hr; exact absurd hr List.not_mem_nil, fun j hj => ?_⟩
  by_cases e : j = i
  ·subst e; exact done hl hy hR H
  ·obtain ⟨hun, oj, hoj, hall⟩ := mem_ready.1 hj
   have hiun := (mem_ready.1 hr).1
   have hno : ∀ x ∈ oj.after, Region.binds md x = true → x.on ≠ i := fun x hx hb hon => by
    have h1 := hall x hx hb
    rw [hon, getD_both hiun] at h1
    cases h1
   have hs := Region.noSelect_spec hsel
   refine wpOp_mono ?_ (wpOp_putIf hoj (hfree j oj hoj e hun hno) (fun cs b => hs i o cs b ho) (fun cs b => hs j oj cs b hoj) hQ hy (H.2 j (ready_mono hj e)))
   rintro b x ⟨hyb, hRx, hH⟩
   have hcomm : (listed.setIfInBounds i true).setIfInBounds j true = (listed.setIfInBounds j true).setIfInBounds i true := Array.setIfInBounds_comm _ _ (fun h => e h.symm)
   rw [hcomm] at hRx hH
   have hRj : Till q R S (listed.setIfInBounds j true) x := ⟨hRx.1, fun hu => hRx.2 (hu.set hiq)⟩
   refine ⟨hRj, ih ?_ (ready_mono hr (fun h => e h.symm)) (hI _ _ hl hiun hj e) hyb hRj hH⟩
   intro k ok hk hki hku hkn
   refine hfree k ok hk hki ?_ hkn
   by_cases hjk : j = k
   ·subst hjk; exact hun
   ·rwa [getD_set_ne true hjk] at hku
theorem wpTill.take {i : Nat} {o : Oper} {v : Value} {n : Nat} {listed : Array Bool} {a : Act} {w : World} (ho : ops[i]? = some o) (hsel : Region.noSelect ops = true) (hf : Region.free md ops listed i = true)
  (hr : (Region.ready md ops listed).contains i = true) (hq : (q.all fun s => !(s == i) && Region.waitsFor md ops s i && !listed.getD s true) = true)
  (hQ : ∀ c a w, Q (.panic c) (a.put o.dst v) w → Q (.panic c) a w) (hy : YieldsIf P ops (fun w => S w ∧ R w) o v a) (hR : Till q R S listed w)
  (h : Till q R S (listed.setIfInBounds i true) w → wpTill P md ops Q q R S n (listed.setIfInBounds i true) (a.put o.dst v) w) : wpTill P md ops Q q R S (n + 1) listed a w := by
 have hall := List.all_eq_true.1 hq
 have hiq : i ∉ q := fun hm => by have := hall i hm; simp at this
 refine wpTill.first (I := Unstored q) (T := fun w => S w ∧ R w) ho hiq hsel (fun _ _ hu ht => ⟨ht.1, ht.2 hu⟩) ?_ hQ n (Region.free_spec ho hf) (by simpa using hr) (fun s hs => ?_) hy hR (h ⟨hR.1, fun hu => hR.2 (hu.back hiq)⟩)
 ·intro l j hl hiu hj hne
  refine hl.set fun hjq => ?_
  have hw := hall j hjq
  simp only [Bool.and_eq_true] at hw
  obtain ⟨oj, hoj, e, he, hb, hon⟩ := Region.waitsFor_spec hw.1.2
  obtain ⟨_, o2, ho2, h2⟩ := mem_ready.1 hj
  have : oj = o2 := Option.some.inj (hoj.symm.trans ho2)
  subst this
  have h3 := h2 e he hb
  rw [hon, getD_both hiu] at h3
  cases h3
 ·have hw := hall s hs
  simp only [Bool.and_eq_true, Bool.not_eq_true'] at hw
  exact hw.2
theorem wpTill.takeAny {i : Nat} {o : Oper} {v : Value} {n : Nat} {listed : Array Bool} {a : Act} {w : World} (ho : ops[i]? = some o) (hsel : Region.noSelect ops = true) (hf : Region.free md ops listed i = true)
  (hr : (Region.ready md ops listed).contains i = true) (hq : (q.all fun s => !(s == i)) = true)
  (hQ : ∀ c a w, Q (.panic c) (a.put o.dst v) w → Q (.panic c) a w) (hy : YieldsIf P ops S o v a) (hR : Till q R S listed w)
  (h : Till q R S (listed.setIfInBounds i true) w → wpTill P md ops Q q R S n (listed.setIfInBounds i true) (a.put o.dst v) w) : wpTill P md ops Q q R S (n + 1) listed a w := by
 have hall := List.all_eq_true.1 hq
 have hiq : i ∉ q := fun hm => by have := hall i hm; simp at this
 exact wpTill.first (I := fun _ => True) (T := S) ho hiq hsel (fun _ _ _ ht => ht.1) (fun _ _ _ _ _ _ => trivial) hQ n (Region.free_spec ho hf) (by simpa using hr) trivial hy hR (h ⟨hR.1, fun hu => hR.2 (hu.back hiq)⟩)
theorem wpTill.only {i : Nat} {o : Oper} {n : Nat} {listed : Array Bool} {a : Act} {w : World} (hr : Region.ready md ops listed = [i]) (ho : ops[i]? = some o)
  (h : ∀ K : Act → World → Prop, Hid (∀ a w, Till q R S (listed.setIfInBounds i true) w → (Till q R S (listed.setIfInBounds i true) w → wpTill P md ops Q q R S n (listed.setIfInBounds i true) a w) → K a w) →
   if Region.wanted o (yielded ops a.tmps) = true then Oper.wp P o a w K Q else K (a.put o.dst undef) w) : wpTill P md ops Q q R S (n + 1) listed a w := by
 refine ⟨fun e => absurd (hr.symm.trans e) (List.cons_ne_nil _ _), fun j hj => ?_⟩
 rw [hr] at hj
 have e := List.mem_singleton.1 hj
 subst e
 exact wpOp_step ho (fun K hK => h K (zH (fun a w hT hW => hK a w ⟨hT, hW hT⟩)))
theorem wpTill.two {i j : Nat} {o o2 : Oper} {n : Nat} {listed : Array Bool} {a : Act} {w : World} (hr : Region.ready md ops listed = [i, j]) (ho : ops[i]? = some o) (ho2 : ops[j]? = some o2)
  (h : ∀ K : Act → World → Prop, Hid (∀ a w, Till q R S (listed.setIfInBounds i true) w → (Till q R S (listed.setIfInBounds i true) w → wpTill P md ops Q q R S n (listed.setIfInBounds i true) a w) → K a w) →
   if Region.wanted o (yielded ops a.tmps) = true then Oper.wp P o a w K Q else K (a.put o.dst undef) w)
  (h2 : ∀ K : Act → World → Prop, Hid (∀ a w, Till q R S (listed.setIfInBounds j true) w → (Till q R S (listed.setIfInBounds j true) w → wpTill P md ops Q q R S n (listed.setIfInBounds j true) a w) → K a w) →
   if Region.wanted o2 (yielded ops a.tmps) = true then Oper.wp P o2 a w K Q else K (a.put o2.dst undef) w) : wpTill P md ops Q q R S (n + 1) listed a w := by
 refine ⟨fun e => absurd (hr.symm.trans e) (List.cons_ne_nil _ _), fun k hk => ?_⟩
 rw [hr] at hk
 rcases List.mem_cons.1 hk with e | hk
 ·subst e
  exact wpOp_step ho (fun K hK => h K (zH (fun a w hT hW => hK a w ⟨hT, hW hT⟩)))
 ·have e := List.mem_singleton.1 hk
  subst e
  exact wpOp_step ho2 (fun K hK => h2 K (zH (fun a w hT hW => hK a w ⟨hT, hW hT⟩)))
theorem wpTill.done {n : Nat} {listed : Array Bool} {a : Act} {w : World} (hr : Region.ready md ops listed = []) (h : Q .normal a w) : wpTill P md ops Q q R S n listed a w := by
 cases n with
 |zero => exact ⟨hr, h⟩
 |succ n => exact ⟨fun _ => h, by rw [hr]; simp⟩
theorem wp_region_till {id : Nat} {a : Act} {w : World} (q : List Nat) (R S : World → Prop) (hm : P.follows .mixedOrders = true) (hS : S w.drew) (hR : R w.drew)
  (h : Till q R S (Array.replicate ops.size false) w.drew → wpTill P .any ops Q q R S ops.size (Array.replicate ops.size false) a w.drew) : (Code.region id ops true).wp P Q a w :=
 wp_region_any hm ((h (Till.of hS hR)).any)
end
end Go.Proofs.YtnabbimompapfaaGreat
namespace Go.Proofs.YtnabbimompapfaaGreat
open Go Go.RowKit
def zS (l : List Value) (o : Option Tmp) (v : Value) : List Value := match o with | some d => l.set d v | none => l
theorem zA {α : Type} (l : List α) (i : Nat) (a : α) : l.toArray.setIfInBounds i a = (l.set i a).toArray := List.setIfInBounds_toArray _ _ _
theorem zB {α : Type} (x y : α) (xs : List α) : List.set (x :: xs) 0 y = y :: xs := rfl
theorem zC {α : Type} (x y : α) (xs : List α) (n : Nat) : List.set (x :: xs) (n + 1) y = x :: xs.set n y := rfl
theorem zP (l : List Value) (df : List Deferred) (o : Option Tmp) (v : Value) : Act.put ⟨l.toArray, df⟩ o v = ⟨(zS l o v).toArray, df⟩ := by
 cases o with
 |none => rfl
 |some d => simp only [Act.put, zS, zA]
def Pl (_is : List Nat) (p : Prop) : Prop := p
theorem Pl.go (is : List Nat) {p : Prop} (h : Pl is p) : p := h
theorem Pl.stop {p : Prop} (h : p) : Pl [] p := h
def okI (md : Region.Mode) (ops : Array Oper) (listed : Array Bool) (i : Nat) : Bool := Region.noSelect ops && Region.free md ops listed i && (Region.ready md ops listed).contains i
theorem okI.of {md : Region.Mode} {ops : Array Oper} {listed : Array Bool} {i : Nat} (h : okI md ops listed i = true) : Region.noSelect ops = true ∧ Region.free md ops listed i = true ∧ (Region.ready md ops listed).contains i = true := by
 unfold okI at h
 rw [Bool.and_eq_true, Bool.and_eq_true] at h
 exact ⟨h.1.1, h.1.2, h.2⟩
section
variable {P : Program} {ops : Array Oper} {Q : Exit → Act → World → Prop} {md : Region.Mode} {S : World → Prop} {o1 : _} {o2 : _} {o3 : _} {o4 : _} {o5 : _} {o6 : _} {v : Value} {fuel : Nat} {listed : Array Bool} {l : List Value} {df : List Deferred} {w : World}
theorem tk (i : Nat) (hy : ∀ w, S w → (execOp (Act.eval ⟨l.toArray, df⟩) ⟨o1, o2, o3, o4, o5, o6⟩).run P w = .ok (.value v) w) (h : wpAnyH P md ops Q S fuel (listed.setIfInBounds i true) ⟨(zS l o1 v).toArray, df⟩ w)
  (hc : okI md ops listed i = true := by kernel_rfl) (ho : ops[i]? = some ⟨o1, o2, o3, o4, o5, o6⟩ := by rfl) (hw : Region.wanted ⟨o1, o2, o3, o4, o5, o6⟩ (yielded ops l.toArray) = true := by rfl)
  (hQ : ∀ c a a' w, Q (.panic c) a' w → Q (.panic c) a w := by exact fun _ _ _ _ h => h) (hS : S w := by assumption) : wpAnyH P md ops Q S (fuel + 1) listed ⟨l.toArray, df⟩ w :=
 wpAnyH_take ho (okI.of hc).1 (okI.of hc).2.1 (okI.of hc).2.2 (fun c b w => hQ c b _ w) (.inl ⟨hw, hy⟩) hS (by rw [zP]; exact h)
theorem sk (i : Nat) (h : wpAnyH P md ops Q S fuel (listed.setIfInBounds i true) ⟨(zS l o1 undef).toArray, df⟩ w)
  (hc : okI md ops listed i = true := by kernel_rfl) (ho : ops[i]? = some ⟨o1, o2, o3, o4, o5, o6⟩ := by rfl) (hw : Region.wanted ⟨o1, o2, o3, o4, o5, o6⟩ (yielded ops l.toArray) = false := by rfl)
  (hQ : ∀ c a a' w, Q (.panic c) a' w → Q (.panic c) a w := by exact fun _ _ _ _ h => h) (hS : S w := by assumption) : wpAnyH P md ops Q S (fuel + 1) listed ⟨l.toArray, df⟩ w :=
 wpAnyH_take ho (okI.of hc).1 (okI.of hc).2.1 (okI.of hc).2.2 (fun c b w => hQ c b _ w) (.inr ⟨hw, rfl⟩) hS (by rw [zP]; exact h)
theorem tkl {i : Nat} {is : List Nat} (hy : ∀ w, S w → (execOp (Act.eval ⟨l.toArray, df⟩) ⟨o1, o2, o3, o4, o5, o6⟩).run P w = .ok (.value v) w) (h : Pl is (wpAnyH P md ops Q S fuel (listed.setIfInBounds i true) ⟨(zS l o1 v).toArray, df⟩ w))
  (hc : okI md ops listed i = true := by kernel_rfl) (ho : ops[i]? = some ⟨o1, o2, o3, o4, o5, o6⟩ := by rfl) (hw : Region.wanted ⟨o1, o2, o3, o4, o5, o6⟩ (yielded ops l.toArray) = true := by rfl)
  (hQ : ∀ c a a' w, Q (.panic c) a' w → Q (.panic c) a w := by exact fun _ _ _ _ h => h) (hS : S w := by assumption) : Pl (i :: is) (wpAnyH P md ops Q S (fuel + 1) listed ⟨l.toArray, df⟩ w) := tk i hy h hc ho hw hQ hS
theorem skl {i : Nat} {is : List Nat} (h : Pl is (wpAnyH P md ops Q S fuel (listed.setIfInBounds i true) ⟨(zS l o1 undef).toArray, df⟩ w))
  (hc : okI md ops listed i = true := by kernel_rfl) (ho : ops[i]? = some ⟨o1, o2, o3, o4, o5, o6⟩ := by rfl) (hw : Region.wanted ⟨o1, o2, o3, o4, o5, o6⟩ (yielded ops l.toArray) = false := by rfl)
  (hQ : ∀ c a a' w, Q (.panic c) a' w → Q (.panic c) a w := by exact fun _ _ _ _ h => h) (hS : S w := by assumption) : Pl (i :: is) (wpAnyH P md ops Q S (fuel + 1) listed ⟨l.toArray, df⟩ w) := sk i h hc ho hw hQ hS
end
def okT (md : Region.Mode) (ops : Array Oper) (q : List Nat) (listed : Array Bool) (i : Nat) : Bool := okI md ops listed i && q.all fun s => !(s == i) && Region.waitsFor md ops s i && !listed.getD s true
def okS (md : Region.Mode) (ops : Array Oper) (q : List Nat) (listed : Array Bool) (i : Nat) : Bool := okI md ops listed i && q.all fun s => !(s == i)
section
variable {P : Program} {ops : Array Oper} {Q : Exit → Act → World → Prop} {md : Region.Mode} {q : List Nat} {R S : World → Prop} {o1 : _} {o2 : _} {o3 : _} {o4 : _} {o5 : _} {o6 : _} {v : Value} {n : Nat} {listed : Array Bool} {l : List Value} {df : List Deferred} {w : World}
theorem tt (i : Nat) (hy : ∀ w, S w ∧ R w → (execOp (Act.eval ⟨l.toArray, df⟩) ⟨o1, o2, o3, o4, o5, o6⟩).run P w = .ok (.value v) w) (h : Till q R S (listed.setIfInBounds i true) w → wpTill P md ops Q q R S n (listed.setIfInBounds i true) ⟨(zS l o1 v).toArray, df⟩ w)
  (hc : okT md ops q listed i = true := by kernel_rfl) (ho : ops[i]? = some ⟨o1, o2, o3, o4, o5, o6⟩ := by rfl) (hw : Region.wanted ⟨o1, o2, o3, o4, o5, o6⟩ (yielded ops l.toArray) = true := by rfl)
  (hQ : ∀ c a a' w, Q (.panic c) a' w → Q (.panic c) a w := by exact fun _ _ _ _ h => h) (hR : Till q R S listed w := by assumption) : wpTill P md ops Q q R S (n + 1) listed ⟨l.toArray, df⟩ w := by
 have hk := hc
 unfold okT at hk
 rw [Bool.and_eq_true] at hk
 exact wpTill.take ho (okI.of hk.1).1 (okI.of hk.1).2.1 (okI.of hk.1).2.2 hk.2 (fun c b w => hQ c b _ w) (.inl ⟨hw, hy⟩) hR (by rw [zP]; exact h)
theorem ts (i : Nat) (hy : ∀ w, S w → (execOp (Act.eval ⟨l.toArray, df⟩) ⟨o1, o2, o3, o4, o5, o6⟩).run P w = .ok (.value v) w) (h : Till q R S (listed.setIfInBounds i true) w → wpTill P md ops Q q R S n (listed.setIfInBounds i true) ⟨(zS l o1 v).toArray, df⟩ w)
  (hc : okS md ops q listed i = true := by kernel_rfl) (ho : ops[i]? = some ⟨o1, o2, o3, o4, o5, o6⟩ := by rfl) (hw : Region.wanted ⟨o1, o2, o3, o4, o5, o6⟩ (yielded ops l.toArray) = true := by rfl)
  (hQ : ∀ c a a' w, Q (.panic c) a' w → Q (.panic c) a w := by exact fun _ _ _ _ h => h) (hR : Till q R S listed w := by assumption) : wpTill P md ops Q q R S (n + 1) listed ⟨l.toArray, df⟩ w := by
 have hk := hc
 unfold okS at hk
 rw [Bool.and_eq_true] at hk
 exact wpTill.takeAny ho (okI.of hk.1).1 (okI.of hk.1).2.1 (okI.of hk.1).2.2 hk.2 (fun c b w => hQ c b _ w) (.inl ⟨hw, hy⟩) hR (by rw [zP]; exact h)
theorem ttl {i : Nat} {is : List Nat} (hy : ∀ w, S w ∧ R w → (execOp (Act.eval ⟨l.toArray, df⟩) ⟨o1, o2, o3, o4, o5, o6⟩).run P w = .ok (.value v) w) (h : Till q R S (listed.setIfInBounds i true) w → Pl is (wpTill P md ops Q q R S n (listed.setIfInBounds i true) ⟨(zS l o1 v).toArray, df⟩ w))
  (hc : okT md ops q listed i = true := by kernel_rfl) (ho : ops[i]? = some ⟨o1, o2, o3, o4, o5, o6⟩ := by rfl) (hw : Region.wanted ⟨o1, o2, o3, o4, o5, o6⟩ (yielded ops l.toArray) = true := by rfl)
  (hQ : ∀ c a a' w, Q (.panic c) a' w → Q (.panic c) a w := by exact fun _ _ _ _ h => h) (hR : Till q R S listed w := by assumption) : Pl (i :: is) (wpTill P md ops Q q R S (n + 1) listed ⟨l.toArray, df⟩ w) := tt i hy h hc ho hw hQ hR
theorem tsl {i : Nat} {is : List Nat} (hy : ∀ w, S w → (execOp (Act.eval ⟨l.toArray, df⟩) ⟨o1, o2, o3, o4, o5, o6⟩).run P w = .ok (.value v) w) (h : Till q R S (listed.setIfInBounds i true) w → Pl is (wpTill P md ops Q q R S n (listed.setIfInBounds i true) ⟨(zS l o1 v).toArray, df⟩ w))
  (hc : okS md ops q listed i = true := by kernel_rfl) (ho : ops[i]? = some ⟨o1, o2, o3, o4, o5, o6⟩ := by rfl) (hw : Region.wanted ⟨o1, o2, o3, o4, o5, o6⟩ (yielded ops l.toArray) = true := by rfl)
  (hQ : ∀ c a a' w, Q (.panic c) a' w → Q (.panic c) a w := by exact fun _ _ _ _ h => h) (hR : Till q R S listed w := by assumption) : Pl (i :: is) (wpTill P md ops Q q R S (n + 1) listed ⟨l.toArray, df⟩ w) := ts i hy h hc ho hw hQ hR
end
end Go.Proofs.YtnabbimompapfaaGreat
namespace Go.Proofs.YtnabbimompapfaaGreat
open Go Go.RowKit
theorem u8_info : (Tryz.prog.info? 5).map (fun i => (i.zero, i.size, i.bytes)) = some (some (.int .u8 0), 1, 1) := by kernel_rfl
def OwnRet (bs : List UInt8) (w : World) (e : Ending) (w' : World) : Prop :=
 ∃ v, e = .returned v ∧ w'.ownsRow w.heap.size 5 1 v bs.length (bcells bs) ∧ Below w.heap.size w w'
set_option maxHeartbeats 400000 in
theorem bytesClone_any (B : Nat) (v : Value) (bs : List UInt8) (w : World) (hb : Bts w B 5 v bs) (hl : bs.length ≤ 1000000000) :
  Calls Tryz.prog 108 #[v] w (OwnRet bs w) := by
 obtain ⟨A, cap, rfl⟩ := hb.form
 have HL := zH hl
 clear hl
 obtain ⟨i0, hi0, hz0, hz1, hz2⟩ := info_parts u8_info
 cases A with
 |none =>
  have h0 := hb.src_at.2.2.1 rfl
  have : bs = [] := by simpa using h0
  subst this
  clear hb h0
  go_enter Tryz.func108, Tryz.ntmps108
  go_wp2
  go_ret
  exact ⟨_, rfl, World.ownsRow_nil _ _ _ _, zL _ _⟩
 |some a =>
  have HS := zH hb
  clear hb
  go_enter Tryz.func108, Tryz.ntmps108
  go_wp2_with (at_builtin; refine wpList_append_src _ rfl _ _ _ rfl w.heap.size 5 i0 _ 1 1 Tryz.underlying37 hi0 hz0 hz1 hz2 rfl (by decide) _ 0 [] rfl (own_empty w _ _) (some a) bs.length cap (bcells bs) rfl (HS.out.alloc _).src_at.2 (bcells_one _) (by have := HL.out; unfold maxLen; omega) (by have := HL.out; omega) (by simp) ?_; intro v1 w1 hown hg hat)
  go_ret
  refine ⟨v1, rfl, by simpa using hown, ?_⟩
  exact ((zL _ _).alloc (zN _) _).grown hg (by simp) (by intro k hk; cases hk; exact zN _)
end Go.Proofs.YtnabbimompapfaaGreat
namespace Go.Proofs.YtnabbimompapfaaGreat
open Go Go.RowKit
structure OpV where
 kind : Int
 ticks : Int
 key : ByteArray
 val : List UInt8
 ttl : Int
 count : Int
 bytes : Int
 cursor : Int
 birth : Int
def takeP (n : Nat) (rs : List UInt8) : List UInt8 := rs.take n ++ List.replicate (n - rs.length) 0
theorem takeP_length (n : Nat) (rs : List UInt8) : (takeP n rs).length = n := by simp [takeP]; omega
def numBE (l : List UInt8) : Nat := l.foldl (fun x b => x * 256 + b.toNat) 0
theorem numBE_snoc (l : List UInt8) (b : UInt8) : numBE (l ++ [b]) = numBE l * 256 + b.toNat := by simp [numBE]
theorem numBE_acc : ∀ (l : List UInt8) (a : Nat), l.foldl (fun x b => x * 256 + b.toNat) a < (a + 1) * 256 ^ l.length
 |[], a => by simp
 |b :: l, a => by
  have h := numBE_acc l (a * 256 + b.toNat)
  have hb := b.toNat_lt
  have h2 : (a * 256 + b.toNat + 1) * 256 ^ l.length ≤ ((a + 1) * 256) * 256 ^ l.length := Nat.mul_le_mul_right _ (by omega)
  have e : (a + 1) * 256 ^ (b :: l).length = ((a + 1) * 256) * 256 ^ l.length := by rw [List.length_cons, Nat.pow_succ, Nat.mul_comm (256 ^ l.length) 256, Nat.mul_assoc]
  rw [List.foldl_cons, e]
  omega
theorem numBE_lt (l : List UInt8) : numBE l < 256 ^ l.length := by
 have h := numBE_acc l 0
 rw [Nat.zero_add, Nat.one_mul] at h
 exact h
theorem ofInt_64 (a : Nat) (ha : a < 18446744073709551616) : (BitVec.ofInt 64 (a : Int)).toNat = a := by
 rw [BitVec.ofInt_natCast, BitVec.toNat_ofNat]; exact Nat.mod_eq_of_lt (by omega)
theorem join_i64 (x b : Nat) (hx : x < 16777216) (hb : b < 256) : bits .or .i64 ((x : Int) * 256) (b : Int) = ((x * 256 + b : Nat) : Int) := by
 have e : ((x : Int) * 256) = ((x * 256 : Nat) : Int) := by omega
 rw [e]
 show IntKind.i64.wrap ((BitVec.ofInt 64 ((x * 256 : Nat) : Int) ||| BitVec.ofInt 64 (b : Int)).toNat : Int) = _
 rw [BitVec.toNat_or, ofInt_64 _ (by omega), ofInt_64 b (by omega), IntKind.wrap_i64, nat_join 8 (x * 256) b (by omega) (by omega)]
 omega
inductive Part where
 |key | value | ttl | budgets | aim | birth
def kindL : List Int := [3, 1, 2, 4, 5, 6, 7, 8, 9, 10, 11, 12, 13, 14, 3, 1]
def partsOf (k : Int) : List Part :=
 if k = 3 ∨ k = 4 ∨ k = 6 then [.key]
 else if k = 1 then [.key, .value]
 else if k = 2 then [.key, .value, .ttl]
 else if k = 5 then [.key, .ttl]
 else if k = 8 then [.budgets]
 else if k = 12 ∨ k = 14 then [.aim]
 else if k = 13 then [.aim, .birth]
 else []
def rdPart (p : Part) (o : OpV) (rs : List UInt8) : OpV × List UInt8 :=
 match p with
 |.key => ({ o with key := ⟨(takeP (numBE (takeP 1 rs) % 32) (rs.drop 1)).toArray⟩ }, (rs.drop 1).drop (numBE (takeP 1 rs) % 32))
 |.value => ({ o with val := takeP (numBE (takeP 1 rs)) (rs.drop 1) }, (rs.drop 1).drop (numBE (takeP 1 rs)))
 |.ttl => ({ o with ttl := numBE (takeP 2 rs) }, rs.drop 2)
 |.budgets => ({ o with count := numBE (takeP 2 rs), bytes := numBE (takeP 3 (rs.drop 2)) }, (rs.drop 2).drop 3)
 |.aim => ({ o with cursor := numBE (takeP 1 rs) }, rs.drop 1)
 |.birth => ({ o with birth := numBE (takeP 2 rs) }, rs.drop 2)
def rdParts : List Part → OpV → List UInt8 → OpV × List UInt8
 |[], o, rs => (o, rs)
 |p :: ps, o, rs => rdParts ps (rdPart p o rs).1 (rdPart p o rs).2
def op0 (x : Nat) : OpV := ⟨kindL.getD (x % 16) 0, (x / 16 : Nat), ⟨#[]⟩, [], 0, 0, 0, 0, 0⟩
def rdHead (rs : List UInt8) : OpV × List UInt8 :=
 if numBE (takeP 1 rs) / 16 = 15 then ({ op0 (numBE (takeP 1 rs)) with ticks := 15 + (numBE (takeP 1 (rs.drop 1)) : Int) }, (rs.drop 1).drop 1)
 else (op0 (numBE (takeP 1 rs)), rs.drop 1)
def rdOp (rs : List UInt8) : OpV × List UInt8 := rdParts (partsOf (rdHead rs).1.kind) (rdHead rs).1 (rdHead rs).2
def byteI (x : Int) : UInt8 := UInt8.ofNat (x % 256).toNat
theorem byteI_toNat (x : Int) : ((byteI x).toNat : Int) = x % 256 := by
 unfold byteI
 rw [UInt8.toNat_ofNat']
 omega
def big2 (x : Int) : List UInt8 := [byteI (x / 256), byteI x]
def big3 (x : Int) : List UInt8 := [byteI (x / 65536), byteI (x / 256), byteI x]
def wrPart (p : Part) (o : OpV) : List UInt8 :=
 match p with
 |.key => byteI o.key.size :: o.key.data.toList
 |.value => byteI o.val.length :: o.val
 |.ttl => big2 (wrap64 o.ttl)
 |.budgets => big2 o.count ++ big3 o.bytes
 |.aim => [byteI o.cursor]
 |.birth => big2 (wrap64 o.birth)
def wrRaw (code : Int) (o : OpV) : List UInt8 :=
 byteI (code + 16 * min o.ticks 15) :: ((if 15 ≤ o.ticks then [byteI (o.ticks - 15)] else []) ++ (partsOf o.kind).flatMap fun p => wrPart p o)
def eqO (a b : OpV) : Prop := a.kind = b.kind ∧ a.ticks = b.ticks ∧ a.key = b.key ∧ a.val = b.val ∧ a.ttl = b.ttl ∧ a.count = b.count ∧ a.bytes = b.bytes ∧ a.cursor = b.cursor ∧ a.birth = b.birth
instance (a b : OpV) : Decidable (eqO a b) := inferInstanceAs (Decidable (_ ∧ _))
theorem eqO_iff (a b : OpV) : eqO a b ↔ a = b := by
 obtain ⟨a1, a2, a3, a4, a5, a6, a7, a8, a9⟩ := a
 obtain ⟨b1, b2, b3, b4, b5, b6, b7, b8, b9⟩ := b
 simp [eqO]
def codeI (k : Int) : Int := Lib.idxOf kindL k
def wrOp (o : OpV) : Option (List UInt8) :=
 if codeI o.kind < 0 ∨ 270 < o.ticks ∨ 31 < o.key.size ∨ 255 < o.val.length then none
 else if eqO (rdOp (wrRaw (codeI o.kind) o)).1 o then some (wrRaw (codeI o.kind) o) else none
def opcs (o : OpV) (v : Value) : List Value := [.int .i64 o.kind, .int .u64 o.ticks, .string o.key, v, .int .u64 o.ttl, .int .i64 o.count, .int .i64 o.bytes, .int .i64 o.cursor, .int .u64 o.birth]
def opc (o : OpV) (v : Value) : Array Value := #[.int .i64 o.kind, .int .u64 o.ticks, .string o.key, v, .int .u64 o.ttl, .int .i64 o.count, .int .i64 o.bytes, .int .i64 o.cursor, .int .u64 o.birth]
def opv (o : OpV) (v : Value) : Value := .agg (opc o v)
theorem Bts.from_ {w : World} {B U : Nat} {A : Option Addr} {n cap : Nat} {bs : List UInt8} (h : Bts w B U (.slice A n cap) bs) (m : Nat) (hm : m ≤ n) :
  Bts w B U (sliced A m n cap 1) (bs.drop m) := by
 obtain ⟨A', cap', e, hl, hc, hn, hr⟩ := h
 injection e with e1 e2 e3
 subst e1 e2 e3
 refine ⟨if cap = m then A else A.map (·.add (m * 1)), cap - m, ?_, by simp; omega, by omega, ?_, ?_⟩
 ·simp only [sliced, List.length_drop]
 ·intro h0
  split at h0
  ·have := hn h0; simp; omega
  ·have h1 : A = none := by simpa using h0
   have := hn h1; simp; omega
 ·intro hp
  rw [List.length_drop] at hp
  obtain ⟨b, off, hA, hb, ht, hx⟩ := hr (by omega)
  rw [if_neg (by omega)]
  refine ⟨b, off + m, ?_, hb, ht, fun i hi => ?_⟩
  ·rw [hA, Option.map_some, add_plain, Nat.mul_one]
  ·rw [List.length_drop] at hi
   rw [Nat.add_assoc, hx (m + i) (by omega), List.getElem_drop]
theorem Bts.cut_ {w : World} {B U : Nat} {A : Option Addr} {n cap : Nat} {bs : List UInt8} (h : Bts w B U (.slice A n cap) bs) (l u : Nat) (hl : l ≤ u) (hu : u ≤ n) :
  Bts w B U (sliced A l u cap 1) ((bs.take u).drop l) := by
 have h1 : Bts w B U (.slice A u cap) (bs.take u) := by
  obtain ⟨A', cap', e, hl, hc, hn, hr⟩ := h
  injection e with e1 e2 e3
  subst e1 e2 e3
  refine ⟨A, cap, by simp [Nat.min_eq_left hu], by simp; omega, hc, fun h0 => by have := hn h0; simp; omega, fun hp => ?_⟩
  obtain ⟨b, off, hA, hb, ht, hx⟩ := hr (by simp at hp; omega)
  refine ⟨b, off, hA, hb, ht, fun i hi => ?_⟩
  simp at hi
  rw [hx i (by omega)]
  simp
 exact h1.from_ l hl
end Go.Proofs.YtnabbimompapfaaGreat
namespace Go.Proofs.YtnabbimompapfaaGreat
open Go Go.RowKit
structure EntV where
 key : ByteArray
 val : List UInt8
 dl : Int
 birth : Int
instance : DecidableEq EntV := fun a b =>
 if h : a.key = b.key ∧ a.val = b.val ∧ a.dl = b.dl ∧ a.birth = b.birth then isTrue (by cases a; cases b; simp_all) else isFalse (by rintro rfl; simp at h)
structure EvV where
 kind : Int
 key : ByteArray
 val : List UInt8
 birth : Int
 dl : Int
 at_ : Int
instance : DecidableEq EvV := fun a b =>
 if h : a.kind = b.kind ∧ a.key = b.key ∧ a.val = b.val ∧ a.birth = b.birth ∧ a.dl = b.dl ∧ a.at_ = b.at_ then isTrue (by cases a; cases b; simp_all) else isFalse (by rintro rfl; simp at h)
structure ResV where
 op : OpV
 at_ : Int
 err : Int
 hit : Bool
 val : List UInt8
 ent : EntV
 cursor : Int
 evs : List EvV
 len : Int
 cost : Int
structure CfgV where
 count : Int
 bytes : Int
 prot : Int
 seed : Int
 same : Bool
structure PJ where
 cfg : CfgV
 now : Int
 births : Int
 L : List EntV
 U : List Int
 pl : List (Option Int)
def neverT : Int := 18446744073709551615
def dueP (dl now : Int) : Bool := decide (dl ≠ neverT ∧ dl ≤ now)
def addP (t k : Int) : Int := if neverT - t ≤ k then neverT else t + k
def costE (e : EntV) : Int := 48 + e.key.size + e.val.length
def costP (L : List EntV) : Int := (L.map costE).foldl (· + ·) 0
def cfgP (c : CfgV) : Int := if c.count < 1 ∨ 1048576 < c.count then 240 else if c.bytes < 1 ∨ 1099511627776 < c.bytes then 241 else if c.prot < 0 ∨ 99 < c.prot then 242 else 0
def findP (L : List EntV) (k : ByteArray) : Option EntV := L.find? fun e => decide (e.key = k)
def afterP (L : List EntV) (b now : Int) : Option EntV := L.find? fun e => decide (b < e.birth) && !dueP e.dl now
def freeP (pl : List (Option Int)) : Nat := (pl.findIdx? fun x => x.isNone).getD 64
def openP (pl : List (Option Int)) (c : Int) : Option Int := if c < 0 then none else (pl.getD c.toNat none)
def keyOK (k : ByteArray) : Bool := decide (1 ≤ k.size ∧ k.size ≤ 250)
def rightP (s : PJ) (o : OpV) (at_ : Int) : Int :=
 if o.kind = 1 ∨ o.kind = 2 ∨ o.kind = 3 ∨ o.kind = 4 ∨ o.kind = 5 ∨ o.kind = 6 then
  if keyOK o.key = false ∨ ((o.kind = 2 ∨ o.kind = 5) ∧ o.ttl = 0) then 2
  else if o.kind = 1 ∨ o.kind = 2 then
   if 65536 < o.val.length then 5 else if s.cfg.bytes < 48 + o.key.size + o.val.length then 12 else 0
  else 0
 else if o.kind = 8 then cfgP { s.cfg with count := o.count, bytes := o.bytes }
 else if o.kind = 11 then (if freeP s.pl = 64 then 7 else 0)
 else if o.kind = 12 ∨ o.kind = 13 ∨ o.kind = 14 then
  match openP s.pl o.cursor with
  |none => 9
  |some b => if o.kind = 12 ∧ (afterP s.L b at_).isNone then 14 else 0
 else 0
def refusedP (o : OpV) (e : Int) : Bool := decide (e ≠ 0 ∧ (o.kind ≤ 6 ∨ o.kind = 8 ∨ (o.kind = 12 ∧ e = 9)))
def eventP (k : Int) (e : EntV) (at_ : Int) : EvV := ⟨k, e.key, e.val, e.birth, e.dl, at_⟩
def stripP : List EvV → List EvV → Option (List EvV)
 |[], l => some l
 |_ :: _, [] => none
 |x :: xs, y :: ys => if y = x then stripP xs ys else none
def noExp (l : List EvV) : Bool := l.all fun v => decide (v.kind ≠ 1)
def before (a b : EntV) : Bool := decide (a.dl < b.dl ∨ (a.dl = b.dl ∧ a.birth ≤ b.birth))
def dueE (s : PJ) (at_ : Int) : List EvV := ((s.L.filter fun e => dueP e.dl at_).mergeSort before).map fun e => eventP 1 e at_
def expireP (s : PJ) (at_ : Int) : PJ :=
 { s with now := at_, L := s.L.filter fun e => !dueP e.dl at_, U := s.U.filter fun b => !(s.L.any fun e => decide (e.birth = b) && dueP e.dl at_) }
def goneP (s : PJ) (b : Int) : PJ := { s with L := s.L.filter fun e => decide (e.birth ≠ b), U := s.U.filter fun x => decide (x ≠ b) }
def useP (s : PJ) (b : Int) : PJ := { s with U := (s.U.filter fun x => decide (x ≠ b)) ++ [b] }
def ownE (s : PJ) (o : OpV) : List EvV :=
 if o.kind = 7 then s.L.map fun e => eventP 5 e s.now else
 match findP s.L o.key with
 |none => []
 |some x => if o.kind = 1 ∨ o.kind = 2 then [eventP 3 x s.now] else if o.kind = 6 then [eventP 4 x s.now] else []
def setP (s : PJ) (o : OpV) (dl : Int) : PJ :=
 match findP s.L o.key with
 |none => { s with births := s.births + 1, L := s.L ++ [⟨o.key, o.val, dl, s.births + 1⟩], U := s.U ++ [s.births + 1] }
 |some x => useP { s with L := s.L.map fun e => if e.birth = x.birth then ⟨e.key, o.val, dl, e.birth⟩ else e } x.birth
def effA (s : PJ) (o : OpV) : PJ :=
 if o.kind = 1 then setP s o neverT
 else if o.kind = 2 then setP s o (addP s.now o.ttl)
 else if o.kind = 7 then { s with L := [], U := [] }
 else if o.kind = 8 then { s with cfg := { s.cfg with count := o.count, bytes := o.bytes } }
 else match findP s.L o.key with
  |none => s
  |some x =>
   if o.kind = 3 then useP s x.birth
   else if o.kind = 5 then useP { s with L := s.L.map fun e => if e.birth = x.birth then { e with dl := addP s.now o.ttl } else e } x.birth
   else if o.kind = 6 then goneP s x.birth
   else s
def effB (s : PJ) (o : OpV) : PJ :=
 if o.kind = 11 then { s with pl := s.pl.set (freeP s.pl) (some 0) }
 else if o.kind = 12 then
  match openP s.pl o.cursor with
  |none => s
  |some b => match afterP s.L b s.now with
   |none => s
   |some x => { s with pl := s.pl.set o.cursor.toNat (some x.birth) }
 else if o.kind = 13 then { s with pl := s.pl.set o.cursor.toNat (some o.birth) }
 else if o.kind = 14 then { s with pl := s.pl.set o.cursor.toNat none }
 else s
def effP (s : PJ) (o : OpV) (e : Int) : PJ := if e = 0 then effB (effA s o) o else effA s o
def withinP (s : PJ) : Prop := (s.L.length : Int) ≤ s.cfg.count ∧ costP s.L ≤ s.cfg.bytes
instance (s : PJ) : Decidable (withinP s) := inferInstanceAs (Decidable (_ ∧ _))
def evictP (o : OpV) : List EvV → PJ → Except Int PJ
 |[], s => .ok s
 |v :: l, s => match findP s.L v.key with
  |none => .error 2
  |some x =>
   if v ≠ eventP 2 x s.now then .error 2
   else if withinP s ∨ ((o.kind = 1 ∨ o.kind = 2) ∧ x.key = o.key) then .error 4
   else if s.cfg.prot = 0 ∧ s.U.head? ≠ some x.birth then .error 4
   else evictP o l (goneP s x.birth)
structure WantV where
 hit : Bool
 val : List UInt8
 ent : EntV
 cursor : Int
def ent0 : EntV := ⟨⟨#[]⟩, [], 0, 0⟩
def want0 : WantV := ⟨false, [], ent0, 0⟩
def readsP (s : PJ) (o : OpV) (e : Int) : WantV :=
 if o.kind = 3 ∨ o.kind = 4 ∨ o.kind = 5 ∨ o.kind = 6 then
  match findP s.L o.key with
  |none => want0
  |some x => { want0 with hit := true, val := if o.kind = 3 then x.val else [], ent := if o.kind = 4 then x else ent0 }
 else if o.kind = 11 ∧ e = 0 then { want0 with cursor := freeP s.pl }
 else if o.kind = 12 ∧ e = 0 then
  match openP s.pl o.cursor with
  |none => want0
  |some b => match afterP s.L b s.now with
   |none => want0
   |some x => { want0 with ent := x }
 else want0
def eventsP (s : PJ) (o : OpV) (e at_ : Int) (l : List EvV) : Except Int (PJ × WantV) :=
 match stripP (dueE s at_) l with
 |none => .error 3
 |some l1 => if noExp l1 = false then .error 3 else
  match stripP (ownE (expireP s at_) o) l1 with
  |none => .error 2
  |some l2 => match evictP o l2 (effP (expireP s at_) o e) with
   |.error x => .error x
   |.ok s2 => .ok (s2, readsP (expireP s at_) o e)
def endP (r : ResV) (s : PJ) (w : WantV) : Except Int PJ :=
 if ¬ withinP s ∨ r.len ≠ (s.L.length : Int) ∨ r.cost ≠ costP s.L then .error 5
 else if r.hit ≠ w.hit ∨ r.val ≠ w.val ∨ (r.ent ≠ w.ent ∧ r.op.kind ≠ 12) then .error 6
 else if r.cursor ≠ w.cursor ∨ r.ent ≠ w.ent then .error 7
 else .ok s
def jstep (s : PJ) (r : ResV) : Except Int PJ :=
 if r.op.kind < 1 ∨ 14 < r.op.kind ∨ r.err ≠ rightP s r.op (addP s.now r.op.ticks) then .error 8
 else if refusedP r.op r.err = true then
  if r.at_ ≠ s.now then .error 1
  else if noExp r.evs = false then .error 3
  else if r.evs ≠ [] then .error 2
  else endP r s want0
 else
  if r.at_ ≠ addP s.now r.op.ticks then .error 1
  else match eventsP s r.op r.err (addP s.now r.op.ticks) r.evs with
   |.error x => .error x
   |.ok (s2, w) => endP r s2 w
def jall : List ResV → PJ → Nat → (Int × Int) × PJ
 |[], s, _ => ((-1, 0), s)
 |r :: l, s, i => match jstep s r with
  |.error x => (((i : Int), x), s)
  |.ok s2 => jall l s2 (i + 1)
def start (c : CfgV) : PJ := ⟨c, 0, 0, [], [], List.replicate 64 none⟩
def checkP (c : CfgV) (l : List ResV) : Int × Int × Int :=
 if cfgP c ≠ 0 then (0, 0, cfgP c) else if 4096 < l.length then (0, 0, 7) else ((jall l (start c) 0).1.1, (jall l (start c) 0).1.2, 0)
def liveP (c : CfgV) (l : List ResV) : List EntV × Int :=
 if (checkP c l).2.2 ≠ 0 then ([], (checkP c l).2.2) else if (checkP c l).2.1 ≠ 0 then ([], 10) else ((jall l (start c) 0).2.L, 0)
end Go.Proofs.YtnabbimompapfaaGreat
namespace Go.Proofs.YtnabbimompapfaaGreat
open Go Go.RowKit
structure PInv (n : Nat) (s : PJ) : Prop where
 asc : (s.L.map EntV.birth).Pairwise (· < ·)
 low : ∀ e ∈ s.L, 1 ≤ e.birth ∧ e.birth ≤ s.births
 keys : (s.L.map EntV.key).Nodup
 und : s.U.Nodup
 mem : ∀ b, b ∈ s.U ↔ ∃ e ∈ s.L, e.birth = b
 pls : s.pl.length = 64
 cnt : 0 ≤ s.births ∧ s.births ≤ n
 ok : ∀ e ∈ s.L, keyOK e.key = true ∧ e.val.length ≤ 65536 ∧ 0 ≤ e.dl ∧ e.dl ≤ neverT
 now : 0 ≤ s.now ∧ s.now ≤ neverT
theorem addP_range {t k : Int} (ht : 0 ≤ t) (hk : 0 ≤ k) : 0 ≤ addP t k ∧ addP t k ≤ neverT := by
 unfold addP
 split
 ·unfold neverT; omega
 ·omega
theorem pair_inj {α : Type} {f : α → Int} : ∀ {l : List α}, (l.map f).Pairwise (· < ·) → ∀ a ∈ l, ∀ b ∈ l, f a = f b → a = b
 |[], _, a, ha, _, _, _ => by cases ha
 |x :: l, h, a, ha, b, hb, e => by
  rw [List.map_cons, List.pairwise_cons] at h
  rcases List.mem_cons.1 ha with ha1 | ha2
  ·rcases List.mem_cons.1 hb with hb1 | hb2
   ·rw [ha1, hb1]
   ·have := h.1 (f b) (List.mem_map_of_mem hb2); rw [← e, ha1] at this; omega
  ·rcases List.mem_cons.1 hb with hb1 | hb2
   ·have := h.1 (f a) (List.mem_map_of_mem ha2); rw [e, hb1] at this; omega
   ·exact pair_inj h.2 a ha2 b hb2 e
theorem nodup_inj {α β : Type} {f : α → β} : ∀ {l : List α}, (l.map f).Nodup → ∀ a ∈ l, ∀ b ∈ l, f a = f b → a = b
 |[], _, a, ha, _, _, _ => by cases ha
 |x :: l, h, a, ha, b, hb, e => by
  rw [List.map_cons, List.nodup_cons] at h
  rcases List.mem_cons.1 ha with ha1 | ha2
  ·rcases List.mem_cons.1 hb with hb1 | hb2
   ·rw [ha1, hb1]
   ·have := List.mem_map_of_mem (f := f) hb2; rw [← e, ha1] at this; exact absurd this h.1
  ·rcases List.mem_cons.1 hb with hb1 | hb2
   ·have := List.mem_map_of_mem (f := f) ha2; rw [e, hb1] at this; exact absurd this h.1
   ·exact nodup_inj h.2 a ha2 b hb2 e
section
variable {n : Nat} {s : PJ}
theorem PInv.sub (h : PInv n s) (p : EntV → Bool) (q : Int → Bool) (hpq : ∀ e ∈ s.L, q e.birth = p e) (now : Int) (hn : 0 ≤ now ∧ now ≤ neverT) : PInv n { s with now := now, L := s.L.filter p, U := s.U.filter q } := by
 refine ⟨?_, fun e he => h.low e (List.mem_filter.1 he).1, ?_, h.und.filter _, fun b => ?_, h.pls, h.cnt, fun e he => h.ok e (List.mem_filter.1 he).1, hn⟩
 ·exact h.asc.sublist (List.filter_sublist.map _)
 ·exact h.keys.sublist (List.filter_sublist.map _)
 ·constructor
  ·intro hb
   obtain ⟨hb1, hb2⟩ := List.mem_filter.1 hb
   obtain ⟨e, he, rfl⟩ := (h.mem b).1 hb1
   exact ⟨e, List.mem_filter.2 ⟨he, by rw [← hpq e he]; exact hb2⟩, rfl⟩
  ·rintro ⟨e, he, rfl⟩
   obtain ⟨he1, he2⟩ := List.mem_filter.1 he
   exact List.mem_filter.2 ⟨(h.mem _).2 ⟨e, he1, rfl⟩, by rw [hpq e he1]; exact he2⟩
theorem PInv.gone (h : PInv n s) (b : Int) : PInv n (goneP s b) := by
 have := h.sub (fun e => decide (e.birth ≠ b)) (fun x => decide (x ≠ b)) (fun _ _ => rfl) s.now h.now
 exact this
theorem PInv.expire (h : PInv n s) (t : Int) (ht : 0 ≤ t ∧ t ≤ neverT) : PInv n (expireP s t) := by
 refine h.sub (fun e => !dueP e.dl t) (fun b => !(s.L.any fun e => decide (e.birth = b) && dueP e.dl t)) (fun e he => ?_) t ht
 congr 1
 rw [Bool.eq_iff_iff, List.any_eq_true]
 constructor
 ·rintro ⟨x, hx, h2⟩
  rw [Bool.and_eq_true, decide_eq_true_eq] at h2
  rw [← pair_inj h.asc x hx e he h2.1]; exact h2.2
 ·intro hd
  exact ⟨e, he, by rw [hd]; simp⟩
theorem PInv.use (h : PInv n s) {x : EntV} (hx : x ∈ s.L) : PInv n (useP s x.birth) := by
 refine ⟨h.asc, h.low, h.keys, ?_, fun b => ?_, h.pls, h.cnt, h.ok, h.now⟩
 ·refine List.nodup_append.2 ⟨h.und.filter _, by simp, fun a ha b hb => ?_⟩
  have := (List.mem_filter.1 ha).2
  rw [decide_eq_true_eq] at this
  rw [List.mem_singleton.1 hb]; exact this
 ·refine Iff.trans ?_ (h.mem b)
  show b ∈ (s.U.filter fun y => decide (y ≠ x.birth)) ++ [x.birth] ↔ b ∈ s.U
  rw [List.mem_append, List.mem_filter, List.mem_singleton]
  constructor
  ·rintro (⟨hb, _⟩ | rfl)
   ·exact hb
   ·exact (h.mem _).2 ⟨x, hx, rfl⟩
  ·intro hb
   by_cases e : b = x.birth
   ·exact .inr e
   ·exact .inl ⟨hb, by simpa using e⟩
theorem PInv.alter (h : PInv n s) (f : EntV → EntV) (h1 : ∀ e ∈ s.L, (f e).birth = e.birth) (h2 : ∀ e ∈ s.L, (f e).key = e.key) (h3 : ∀ e ∈ s.L, (f e).val.length ≤ 65536 ∧ 0 ≤ (f e).dl ∧ (f e).dl ≤ neverT) : PInv n { s with L := s.L.map f } := by
 have e1 : (s.L.map f).map EntV.birth = s.L.map EntV.birth := by rw [List.map_map]; exact List.map_congr_left h1
 have e2 : (s.L.map f).map EntV.key = s.L.map EntV.key := by rw [List.map_map]; exact List.map_congr_left h2
 refine ⟨by rw [e1]; exact h.asc, fun e he => ?_, by rw [e2]; exact h.keys, h.und, fun b => ?_, h.pls, h.cnt, fun e he => ?_, h.now⟩
 ·obtain ⟨x, hx, rfl⟩ := List.mem_map.1 he
  rw [h1 x hx]; exact h.low x hx
 ·rw [h.mem b]
  constructor
  ·rintro ⟨e, he, rfl⟩; exact ⟨f e, List.mem_map_of_mem he, h1 e he⟩
  ·rintro ⟨e, he, rfl⟩
   obtain ⟨x, hx, rfl⟩ := List.mem_map.1 he
   exact ⟨x, hx, (h1 x hx).symm⟩
 ·obtain ⟨x, hx, rfl⟩ := List.mem_map.1 he
  rw [h2 x hx]
  exact ⟨(h.ok x hx).1, h3 x hx⟩
theorem findP_some {L : List EntV} {k : ByteArray} {x : EntV} (h : findP L k = some x) : x ∈ L ∧ x.key = k :=
 ⟨List.mem_of_find?_eq_some h, by simpa using List.find?_some h⟩
theorem findP_none {L : List EntV} {k : ByteArray} (h : findP L k = none) : ∀ e ∈ L, e.key ≠ k := by
 intro e he
 have := List.find?_eq_none.1 h e he
 simpa using this
theorem PInv.more (h : PInv n s) : PInv (n + 1) s := ⟨h.asc, h.low, h.keys, h.und, h.mem, h.pls, ⟨h.cnt.1, by have := h.cnt.2; omega⟩, h.ok, h.now⟩
theorem PInv.set (h : PInv n s) (o : OpV) (dl : Int) (hk : keyOK o.key = true) (hv : o.val.length ≤ 65536) (hd : 0 ≤ dl ∧ dl ≤ neverT) : PInv (n + 1) (setP s o dl) := by
 unfold setP
 cases hf : findP s.L o.key with
 |none =>
  have hn := findP_none hf
  dsimp only
  have hb : ∀ e ∈ s.L, e.birth < s.births + 1 := fun e he => by have := (h.low e he).2; omega
  refine ⟨?_, fun e he => ?_, ?_, ?_, fun b => ?_, h.pls, (by have := h.cnt; dsimp only; omega), fun e he => ?_, h.now⟩
  ·rw [List.map_append, List.pairwise_append]
   refine ⟨h.asc, by simp, fun a ha b hb2 => ?_⟩
   obtain ⟨e, he, rfl⟩ := List.mem_map.1 ha
   simp at hb2
   subst hb2
   exact hb e he
  ·rcases List.mem_append.1 he with he | he
   ·have := h.low e he; dsimp only; omega
   ·rw [List.mem_singleton.1 he]; have := h.cnt; dsimp only; omega
  ·rw [List.map_append, List.nodup_append]
   refine ⟨h.keys, by simp, fun a ha b hb2 => ?_⟩
   obtain ⟨e, he, rfl⟩ := List.mem_map.1 ha
   simp at hb2
   subst hb2
   exact hn e he
  ·rw [List.nodup_append]
   refine ⟨h.und, by simp, fun a ha b hb2 => ?_⟩
   obtain ⟨e, he, rfl⟩ := (h.mem a).1 ha
   rw [List.mem_singleton.1 hb2]
   have := hb e he; omega
  ·rw [List.mem_append, h.mem b, List.mem_singleton]
   constructor
   ·rintro (⟨e, he, rfl⟩ | rfl)
    ·exact ⟨e, List.mem_append.2 (.inl he), rfl⟩
    ·exact ⟨_, List.mem_append.2 (.inr (List.mem_singleton.2 rfl)), rfl⟩
   ·rintro ⟨e, he, rfl⟩
    rcases List.mem_append.1 he with he | he
    ·exact .inl ⟨e, he, rfl⟩
    ·rw [List.mem_singleton.1 he]; exact .inr rfl
  ·rcases List.mem_append.1 he with he | he
   ·exact h.ok e he
   ·rw [List.mem_singleton.1 he]; exact ⟨hk, hv, hd⟩
 |some x =>
  obtain ⟨hx, hkx⟩ := findP_some hf
  dsimp only
  have h1 := h.alter (fun e => if e.birth = x.birth then ⟨e.key, o.val, dl, e.birth⟩ else e) (fun e _ => by split <;> rfl) (fun e _ => by split <;> rfl) (fun e he => by split; exact ⟨hv, hd⟩; exact (h.ok e he).2)
  have h2 := h1.use (x := ⟨x.key, o.val, dl, x.birth⟩) (List.mem_map.2 ⟨x, hx, by simp⟩)
  exact h2.more
theorem PInv.effA (h : PInv n s) (o : OpV) (ht : 0 ≤ o.ttl) (hs : o.kind = 1 ∨ o.kind = 2 → keyOK o.key = true ∧ o.val.length ≤ 65536) : PInv (n + 1) (effA s o) := by
 unfold Go.Proofs.YtnabbimompapfaaGreat.effA
 split
 ·rename_i e; exact h.set o _ (hs (.inl e)).1 (hs (.inl e)).2 (by unfold neverT; omega)
 ·split
  ·rename_i e; exact h.set o _ (hs (.inr e)).1 (hs (.inr e)).2 (addP_range h.now.1 ht)
  ·split
   ·refine ⟨by simp, by simp, by simp, by simp, by simp, h.pls, ⟨h.cnt.1, ?_⟩, by simp, h.now⟩
    have := h.cnt.2; dsimp only; omega
   ·split
    ·exact PInv.more ⟨h.asc, h.low, h.keys, h.und, h.mem, h.pls, h.cnt, h.ok, h.now⟩
    ·split
     ·exact h.more
     ·rename_i x hf
      obtain ⟨hx, hkx⟩ := findP_some hf
      split
      ·exact (h.use hx).more
      ·split
       ·have h1 := h.alter (fun e => if e.birth = x.birth then { e with dl := addP s.now o.ttl } else e) (fun e _ => by split <;> rfl) (fun e _ => by split <;> rfl) (fun e he => by split; exact ⟨(h.ok e he).2.1, addP_range h.now.1 ht⟩; exact (h.ok e he).2)
        exact (h1.use (x := { x with dl := addP s.now o.ttl }) (List.mem_map.2 ⟨x, hx, by simp⟩)).more
       ·split
        ·exact (h.gone _).more
        ·exact h.more
theorem PInv.pl (h : PInv n s) (pl : List (Option Int)) (hp : pl.length = 64) : PInv n { s with pl := pl } := ⟨h.asc, h.low, h.keys, h.und, h.mem, hp, h.cnt, h.ok, h.now⟩
theorem PInv.effB (h : PInv n s) (o : OpV) : PInv n (effB s o) := by
 unfold Go.Proofs.YtnabbimompapfaaGreat.effB
 split
 ·exact h.pl _ (by rw [List.length_set]; exact h.pls)
 ·split
  ·split
   ·exact h
   ·split
    ·exact h
    ·exact h.pl _ (by rw [List.length_set]; exact h.pls)
  ·split
   ·exact h.pl _ (by rw [List.length_set]; exact h.pls)
   ·split
    ·exact h.pl _ (by rw [List.length_set]; exact h.pls)
    ·exact h
theorem PInv.effP (h : PInv n s) (o : OpV) (e : Int) (ht : 0 ≤ o.ttl) (hs : o.kind = 1 ∨ o.kind = 2 → keyOK o.key = true ∧ o.val.length ≤ 65536) : PInv (n + 1) (effP s o e) := by
 unfold Go.Proofs.YtnabbimompapfaaGreat.effP
 split
 ·exact (h.effA o ht hs).effB o
 ·exact h.effA o ht hs
theorem evictP_inv (o : OpV) : ∀ (l : List EvV) (s s2 : PJ), PInv n s → evictP o l s = .ok s2 → PInv n s2
 |[], s, s2, h, e => by injection e with e; exact e ▸ h
 |v :: l, s, s2, h, e => by
  unfold evictP at e
  split at e
  ·cases e
  ·split at e
   ·cases e
   ·split at e
    ·cases e
    ·split at e
     ·cases e
     ·exact evictP_inv o l _ s2 (h.gone _) e
end
end Go.Proofs.YtnabbimompapfaaGreat
namespace Go.Proofs.YtnabbimompapfaaGreat
open Go Go.RowKit
theorem perm_sorted_eq {α : Type} {R : α → α → Prop} : ∀ {l1 l2 : List α}, l1.Perm l2 → l1.Pairwise R → l2.Pairwise R → (∀ a ∈ l1, ∀ b ∈ l1, R a b → R b a → a = b) → l1 = l2
 |[], l2, h, _, _, _ => (List.Perm.nil_eq h)
 |a :: l1, [], h, _, _, _ => absurd h.length_eq (by simp)
 |a :: l1, b :: l2, h, s1, s2, an => by
  rw [List.pairwise_cons] at s1 s2
  have hab : a = b := by
   have h1 : a ∈ b :: l2 := h.mem_iff.1 (List.mem_cons_self ..)
   have h2 : b ∈ a :: l1 := h.mem_iff.2 (List.mem_cons_self ..)
   rcases List.mem_cons.1 h1 with e | e1
   ·exact e
   ·rcases List.mem_cons.1 h2 with e | e2
    ·exact e.symm
    ·exact an a (List.mem_cons_self ..) b h2 (s1.1 b e2) (s2.1 a e1)
  subst hab
  rw [perm_sorted_eq (h.cons_inv) s1.2 s2.2 (fun x hx y hy => an x (List.mem_cons_of_mem _ hx) y (List.mem_cons_of_mem _ hy))]
def dueL (L : List EntV) (t : Int) : List EntV := (L.filter fun e => dueP e.dl t).mergeSort before
theorem dueE_eq (s : PJ) (t : Int) : dueE s t = (dueL s.L t).map fun e => eventP 1 e t := rfl
theorem before_total (a b : EntV) : (before a b || before b a) = true := by
 unfold before
 rw [Bool.or_eq_true, decide_eq_true_eq, decide_eq_true_eq]; omega
theorem before_trans (a b c : EntV) (h1 : before a b = true) (h2 : before b c = true) : before a c = true := by
 unfold before at *
 rw [decide_eq_true_eq] at *; omega
theorem dueL_sorted (L : List EntV) (t : Int) : (dueL L t).Pairwise fun a b => before a b = true :=
 List.pairwise_mergeSort (fun a b c h1 h2 => before_trans a b c h1 h2) (fun a b => before_total a b) _
theorem dueL_perm (L : List EntV) (t : Int) : (dueL L t).Perm (L.filter fun e => dueP e.dl t) := List.mergeSort_perm _ _
theorem dueL_mem {L : List EntV} {t : Int} {e : EntV} : e ∈ dueL L t ↔ e ∈ L ∧ dueP e.dl t = true := by
 rw [(dueL_perm L t).mem_iff, List.mem_filter]
theorem dueL_unique {L l : List EntV} {t : Int} (hb : (L.map EntV.birth).Pairwise (· < ·)) (hp : l.Perm (L.filter fun e => dueP e.dl t)) (hs : l.Pairwise fun a b => before a b = true) : l = dueL L t := by
 refine perm_sorted_eq (hp.trans (dueL_perm L t).symm) hs (dueL_sorted L t) (fun a ha b hb2 h1 h2 => ?_)
 have ha2 := (List.mem_filter.1 (hp.mem_iff.1 ha)).1
 have hb3 := (List.mem_filter.1 (hp.mem_iff.1 hb2)).1
 refine pair_inj hb a ha2 b hb3 ?_
 unfold before at h1 h2
 rw [decide_eq_true_eq] at h1 h2
 omega
theorem dueL_first {L : List EntV} {t : Int} {x : EntV} (hb : (L.map EntV.birth).Pairwise (· < ·)) (hx : x ∈ L) (hd : dueP x.dl t = true) (hm : ∀ e ∈ L, dueP e.dl t = true → before x e = true) : dueL L t = x :: dueL (L.filter fun e => decide (e.birth ≠ x.birth)) t := by
 have hinj := pair_inj hb
 symm
 refine dueL_unique hb ?_ ?_
 ·have h1 : (dueL (L.filter fun e => decide (e.birth ≠ x.birth)) t).Perm ((L.filter fun e => dueP e.dl t).filter fun e => decide (e.birth ≠ x.birth)) := by
   refine (dueL_perm _ _).trans ?_
   rw [List.filter_filter, List.filter_filter]
   refine List.Perm.of_eq (List.filter_congr fun e _ => ?_)
   exact Bool.and_comm _ _
  refine (h1.cons x).trans ?_
  have hx2 : x ∈ L.filter fun e => dueP e.dl t := List.mem_filter.2 ⟨hx, hd⟩
  have hnd : (L.filter fun e => dueP e.dl t).Nodup := by
   have : (L.map EntV.birth).Nodup := hb.imp (fun h => by omega)
   exact List.Pairwise.of_map EntV.birth (fun a b h e => h (congrArg EntV.birth e)) (this.sublist (List.filter_sublist.map _))
  have h2 : ((L.filter fun e => dueP e.dl t).filter fun e => decide (e.birth ≠ x.birth)) = (L.filter fun e => dueP e.dl t).erase x := by
   rw [hnd.erase_eq_filter]
   refine List.filter_congr fun e he => ?_
   rw [Bool.eq_iff_iff, decide_eq_true_eq, bne_iff_ne]
   constructor
   ·intro h e2; exact h (by rw [e2])
   ·intro h e2; exact h (hinj e (List.mem_filter.1 he).1 x hx e2)
  rw [h2]
  exact (List.perm_cons_erase hx2).symm
 ·rw [List.pairwise_cons]
  refine ⟨fun e he => ?_, dueL_sorted _ _⟩
  obtain ⟨h1, h2⟩ := dueL_mem.1 he
  exact hm e (List.mem_filter.1 h1).1 h2
theorem dueL_none {L : List EntV} {t : Int} (h : ∀ e ∈ L, dueP e.dl t = false) : dueL L t = [] := by
 have : (L.filter fun e => dueP e.dl t) = [] := List.filter_eq_nil_iff.2 (fun e he => by rw [h e he]; decide)
 unfold dueL
 rw [this]; simp
end Go.Proofs.YtnabbimompapfaaGreat
namespace Go.Proofs.YtnabbimompapfaaGreat
open Go Go.RowKit
def keyB (k : ByteArray) : Bool := keyOK k
set_option maxHeartbeats 400000 in
theorem validKey_any (k : ByteArray) (w : World) (hk : k.size ≤ maxLen) :
  Calls Tryz.prog 88 #[.string k] w fun e w' => e = .returned (.bool (keyB k)) ∧ w = w' := by
 unfold maxLen at hk
 by_cases h0 : 0 < k.size
 ·by_cases h1 : k.size ≤ 250
  ·have hs : keyB k = true := by unfold keyB keyOK; simp; omega
   have hd : decide ((k.size : Int) ≤ 250) = true := by simp; omega
   rw [hs]
   clear hs
   go_enter Tryz.func88, Tryz.ntmps88
   go_wp2
   go_ret
   exact ⟨rfl, rfl⟩
  ·have hs : keyB k = false := by unfold keyB keyOK; simp; omega
   have hd : decide ((k.size : Int) ≤ 250) = false := by simp; omega
   rw [hs]
   clear hs
   go_enter Tryz.func88, Tryz.ntmps88
   go_wp2
   go_ret
   exact ⟨rfl, rfl⟩
 ·have hs : keyB k = false := by unfold keyB keyOK; simp; omega
  rw [hs]
  clear hs
  go_enter Tryz.func88, Tryz.ntmps88
  go_wp2
  go_ret
  exact ⟨rfl, rfl⟩
set_option maxHeartbeats 400000 in
theorem refValidKey_any (k : ByteArray) (w : World) (hk : k.size ≤ maxLen) :
  Calls Tryz.prog 49 #[.string k] w fun e w' => e = .returned (.bool (keyB k)) ∧ w = w' := by
 unfold maxLen at hk
 by_cases h0 : 0 < k.size
 ·by_cases h1 : k.size ≤ 250
  ·have hs : keyB k = true := by unfold keyB keyOK; simp; omega
   have hd : decide ((k.size : Int) ≤ 250) = true := by simp; omega
   rw [hs]
   clear hs
   go_enter Tryz.func49, Tryz.ntmps49
   go_wp2
   go_ret
   exact ⟨rfl, rfl⟩
  ·have hs : keyB k = false := by unfold keyB keyOK; simp; omega
   have hd : decide ((k.size : Int) ≤ 250) = false := by simp; omega
   rw [hs]
   clear hs
   go_enter Tryz.func49, Tryz.ntmps49
   go_wp2
   go_ret
   exact ⟨rfl, rfl⟩
 ·have hs : keyB k = false := by unfold keyB keyOK; simp; omega
  rw [hs]
  clear hs
  go_enter Tryz.func49, Tryz.ntmps49
  go_wp2
  go_ret
  exact ⟨rfl, rfl⟩
set_option maxHeartbeats 400000 in
theorem first_two (p q : Bool) (a b : Int) (g : Nat) (w : World) (hb : Blk w g 161 #[.bool p, .int .i64 a, .bool q, .int .i64 b]) :
  Calls Tryz.prog 110 #[.slice (some ⟨g, 0, none⟩) 2 2] w fun e w' => e = .returned (.int .i64 (if p then a else if q then b else 0)) ∧ Below w.heap.size w w' := by
 have HB := zH hb
 clear hb
 go_enter Tryz.func110, Tryz.ntmps110
 go_wp2
 go_loopw [7] (fun i wr => ∃ k : Nat, k ≤ 2 ∧ i = .int .i64 k ∧ Below w.heap.size w wr ∧ (1 ≤ k → p = false) ∧ (2 ≤ k → q = false)) (fun i _ => 2 - (intOf i).toNat)
 case atStart => exact ⟨0, by omega, rfl, zL _ _, by omega, by omega⟩
 case round =>
  obtain ⟨k, hk, rfl, hbel, hp, hq⟩ := hrel
  have hblk := HB.out.below hbel
  have HP := zH hp
  have HQ := zH hq
  have HG := zH hbel
  clear hp hq
  rcases (by omega : k = 0 ∨ k = 1 ∨ k = 2) with rfl | rfl | rfl
  ·have c0 := hblk.cell 0 _ rfl
   have c1 := hblk.cell 1 _ rfl
   clear hblk hbel
   cases p with
   |true =>
    go_wp2
    go_ret
    exact ⟨rfl, HG.out.alloc HG.out.size _⟩
   |false =>
    go_wp2
    go_roundw
    case rel => exact ⟨1, by omega, by go_num, HG.out.alloc HG.out.size _, by simp, by omega⟩
    case measure => simp [intOf]
  ·have c0 := hblk.cell 2 _ rfl
   have c1 := hblk.cell 3 _ rfl
   have hp1 := HP.out (by omega)
   subst hp1
   clear hblk hbel
   cases q with
   |true =>
    go_wp2
    go_ret
    exact ⟨rfl, HG.out.alloc HG.out.size _⟩
   |false =>
    go_wp2
    go_roundw
    case rel => exact ⟨2, by omega, by go_num, HG.out.alloc HG.out.size _, by simp, by simp⟩
    case measure => simp [intOf]
  ·have hp1 := HP.out (by omega)
   have hq1 := HQ.out (by omega)
   subst hp1 hq1
   clear hblk hbel
   go_wp2
   go_ret
   exact ⟨rfl, HG.out⟩
def chkE (k : ByteArray) (n : Nat) (birth : Int) : Int := if keyB k = false ∨ birth = 0 then 2 else if 65536 < n then 5 else 0
set_option maxHeartbeats 400000 in
theorem check_any (B : Nat) (k : ByteArray) (v : Value) (bs : List UInt8) (birth : Int) (w : World) (hk : k.size ≤ maxLen) (hb : Bts w B 5 v bs) :
  Calls Tryz.prog 105 #[.string k, v, .int .u64 birth] w fun e w' => e = .returned (.int .i64 (chkE k bs.length birth)) ∧ Below w.heap.size w w' := by
 have hm := hb.le
 unfold maxLen at hm
 obtain ⟨A, cap, rfl⟩ := hb.form
 clear hb
 cases hkey : keyB k with
 |false =>
  have hs : chkE k bs.length birth = 2 := by unfold chkE; rw [if_pos (.inl hkey)]
  have HS := zH hs
  have HK := zH hkey
  clear hs hkey
  by_cases hn : 65536 < bs.length
  ·go_enter Tryz.func105, Tryz.ntmps105
   go_wp2_with fail
   refine (validKey_any _ _ hk).mono ?_
   rw [HK.out]
   rintro e w' ⟨rfl, rfl⟩
   go_wp2_with fail
   refine (first_two _ _ _ _ _ _ (Blk.new _ _ _)).mono ?_
   rintro e w1 ⟨rfl, hbel⟩
   go_wp2_with fail
   go_ret
   exact ⟨by rw [HS.out]; rfl, below_own hbel⟩
  ·go_enter Tryz.func105, Tryz.ntmps105
   go_wp2_with fail
   refine (validKey_any _ _ hk).mono ?_
   rw [HK.out]
   rintro e w' ⟨rfl, rfl⟩
   go_wp2_with fail
   refine (first_two _ _ _ _ _ _ (Blk.new _ _ _)).mono ?_
   rintro e w1 ⟨rfl, hbel⟩
   go_wp2_with fail
   go_ret
   exact ⟨by rw [HS.out]; rfl, below_own hbel⟩
 |true =>
  have HK := zH hkey
  by_cases hz : birth = 0
  ·subst hz
   have hs : chkE k bs.length 0 = 2 := by unfold chkE; rw [if_pos (.inr rfl)]
   have HS := zH hs
   clear hs hkey
   by_cases hn : 65536 < bs.length
   ·go_enter Tryz.func105, Tryz.ntmps105
    go_wp2_with fail
    refine (validKey_any _ _ hk).mono ?_
    rw [HK.out]
    rintro e w' ⟨rfl, rfl⟩
    go_wp2_with fail
    refine (first_two _ _ _ _ _ _ (Blk.new _ _ _)).mono ?_
    rintro e w1 ⟨rfl, hbel⟩
    go_wp2_with fail
    go_ret
    exact ⟨by rw [HS.out]; rfl, below_own hbel⟩
   ·go_enter Tryz.func105, Tryz.ntmps105
    go_wp2_with fail
    refine (validKey_any _ _ hk).mono ?_
    rw [HK.out]
    rintro e w' ⟨rfl, rfl⟩
    go_wp2_with fail
    refine (first_two _ _ _ _ _ _ (Blk.new _ _ _)).mono ?_
    rintro e w1 ⟨rfl, hbel⟩
    go_wp2_with fail
    go_ret
    exact ⟨by rw [HS.out]; rfl, below_own hbel⟩
  ·have hzb : (birth == 0) = false := by simpa using hz
   by_cases hn : 65536 < bs.length
   ·have hs : chkE k bs.length birth = 5 := by unfold chkE; rw [if_neg (by rw [hkey]; simp [hz]), if_pos hn]
    have HS := zH hs
    clear hs hkey hz
    go_enter Tryz.func105, Tryz.ntmps105
    go_wp2_with fail
    refine (validKey_any _ _ hk).mono ?_
    rw [HK.out]
    rintro e w' ⟨rfl, rfl⟩
    go_wp2_with fail
    refine (first_two _ _ _ _ _ _ (Blk.new _ _ _)).mono ?_
    rintro e w1 ⟨rfl, hbel⟩
    go_wp2_with fail
    go_ret
    exact ⟨by rw [HS.out]; rfl, below_own hbel⟩
   ·have hs : chkE k bs.length birth = 0 := by unfold chkE; rw [if_neg (by rw [hkey]; simp [hz]), if_neg hn]
    have HS := zH hs
    clear hs hkey hz
    go_enter Tryz.func105, Tryz.ntmps105
    go_wp2_with fail
    refine (validKey_any _ _ hk).mono ?_
    rw [HK.out]
    rintro e w' ⟨rfl, rfl⟩
    go_wp2_with fail
    refine (first_two _ _ _ _ _ _ (Blk.new _ _ _)).mono ?_
    rintro e w1 ⟨rfl, hbel⟩
    go_wp2_with fail
    go_ret
    exact ⟨by rw [HS.out]; rfl, below_own hbel⟩
theorem key_eq (a b : ByteArray) : (a.toList == b.toList) = decide (a = b) := by
 by_cases h : a = b
 ·subst h; simp
 ·rw [decide_eq_false h, beq_eq_false_iff_ne]
  intro e
  rw [ByteArray.toList_eq, ByteArray.toList_eq] at e
  exact h (WideShapes.bytes_inj e)
theorem tickDue_any (d t : Int) (w : World) : Calls Tryz.prog 68 #[.int .u64 d, .int .u64 t] w fun e w' => e = .returned (.bool (dueP d t)) ∧ w = w' := by
 by_cases h1 : d = neverT
 ·have hd : dueP d t = false := by unfold dueP; simp [h1]
  have HD := zH hd
  unfold neverT at h1
  subst h1
  clear hd
  go_enter Tryz.func68, Tryz.ntmps68
  go_wp2_with fail
  go_ret
  exact ⟨by rw [HD.out]; rfl, rfl⟩
 ·have h1b : ((d : Int) != 18446744073709551615) = true := by rw [bne_iff_ne]; exact h1
  by_cases h2 : d ≤ t
  ·have HD := zH (show dueP d t = true by unfold dueP; exact decide_eq_true ⟨h1, h2⟩)
   clear h1
   go_enter Tryz.func68, Tryz.ntmps68
   go_wp2_with fail
   go_ret
   exact ⟨by rw [HD.out]; rfl, rfl⟩
  ·have HD := zH (show dueP d t = false by unfold dueP; exact decide_eq_false (fun h => h2 h.2))
   clear h1
   go_enter Tryz.func68, Tryz.ntmps68
   go_wp2_with fail
   go_ret
   exact ⟨by rw [HD.out]; rfl, rfl⟩
theorem refDue_any (d t : Int) (w : World) : Calls Tryz.prog 53 #[.int .u64 d, .int .u64 t] w fun e w' => e = .returned (.bool (dueP d t)) ∧ w = w' := by
 by_cases h1 : d = neverT
 ·have hd : dueP d t = false := by unfold dueP; simp [h1]
  have HD := zH hd
  unfold neverT at h1
  subst h1
  clear hd
  go_enter Tryz.func53, Tryz.ntmps53
  go_wp2_with fail
  go_ret
  exact ⟨by rw [HD.out]; rfl, rfl⟩
 ·have h1b : ((d : Int) != 18446744073709551615) = true := by rw [bne_iff_ne]; exact h1
  by_cases h2 : d ≤ t
  ·have HD := zH (show dueP d t = true by unfold dueP; exact decide_eq_true ⟨h1, h2⟩)
   clear h1
   go_enter Tryz.func53, Tryz.ntmps53
   go_wp2_with fail
   go_ret
   exact ⟨by rw [HD.out]; rfl, rfl⟩
  ·have HD := zH (show dueP d t = false by unfold dueP; exact decide_eq_false (fun h => h2 h.2))
   clear h1
   go_enter Tryz.func53, Tryz.ntmps53
   go_wp2_with fail
   go_ret
   exact ⟨by rw [HD.out]; rfl, rfl⟩
end Go.Proofs.YtnabbimompapfaaGreat
namespace Go.Proofs.YtnabbimompapfaaGreat
open Go Go.RowKit
def entc (e : EntV) (v : Value) : Array Value := #[.string e.key, v, .int .u64 e.dl, .int .u64 e.birth]
def entv (e : EntV) (v : Value) : Value := .agg (entc e v)
def evc (x : EvV) (v : Value) : Array Value := #[.int .i64 x.kind, .string x.key, v, .int .u64 x.birth, .int .u64 x.dl, .int .u64 x.at_]
def evv (x : EvV) (v : Value) : Value := .agg (evc x v)
def cfgc (c : CfgV) : Array Value := #[.int .i64 c.count, .int .i64 c.bytes, .int .i64 c.prot, .int .u64 c.seed, .bool c.same]
def cfgv (c : CfgV) : Value := .agg (cfgc c)
theorem u64_sub {t : Int} (h0 : 0 ≤ t) (h1 : t ≤ 18446744073709551615) : IntKind.u64.wrap (18446744073709551615 - t) = 18446744073709551615 - t := by
 rw [IntKind.wrap_u64 _]; omega
set_option maxHeartbeats 1000000 in
theorem tickAdd_any (t k : Int) (w : World) (h0 : 0 ≤ t) (h1 : t ≤ neverT) (hk : 0 ≤ k) : Calls Tryz.prog 42 #[.int .u64 t, .int .u64 k] w fun e w' => e = .returned (.int .u64 (addP t k)) ∧ w = w' := by
 unfold neverT at h1
 by_cases hle : 18446744073709551615 - t ≤ k
 ·have HS := zH (show addP t k = neverT by unfold addP neverT; rw [if_pos hle])
  go_enter Tryz.func42, Tryz.ntmps42
  go_wp2_with fail
  go_ret
  exact ⟨by rw [HS.out]; rfl, rfl⟩
 ·have HS := zH (show addP t k = t + k by unfold addP neverT; rw [if_neg hle])
  have hsum : t + k ≤ 18446744073709551615 := by omega
  go_enter Tryz.func42, Tryz.ntmps42
  go_wp2_with fail
  go_ret
  exact ⟨by rw [HS.out]; rfl, rfl⟩
set_option maxHeartbeats 1000000 in
theorem refAdd_any (t k : Int) (w : World) (h0 : 0 ≤ t) (h1 : t ≤ neverT) (hk : 0 ≤ k) : Calls Tryz.prog 24 #[.int .u64 t, .int .u64 k] w fun e w' => e = .returned (.int .u64 (addP t k)) ∧ w = w' := by
 unfold neverT at h1
 by_cases hle : 18446744073709551615 - t ≤ k
 ·have HS := zH (show addP t k = neverT by unfold addP neverT; rw [if_pos hle])
  have hnl : ¬ k < 18446744073709551615 - t := by omega
  go_enter Tryz.func24, Tryz.ntmps24
  go_wp2_with fail
  go_ret
  exact ⟨by rw [HS.out]; rfl, rfl⟩
 ·have HS := zH (show addP t k = t + k by unfold addP neverT; rw [if_neg hle])
  have hsum : t + k ≤ 18446744073709551615 := by omega
  have hl : k < 18446744073709551615 - t := by omega
  go_enter Tryz.func24, Tryz.ntmps24
  go_wp2_with fail
  go_ret
  exact ⟨by rw [HS.out]; rfl, rfl⟩
set_option maxHeartbeats 1000000 in
theorem between_any (n a b : Int) (w : World) : Calls Tryz.prog 41 #[.int .i64 n, .int .i64 a, .int .i64 b] w fun e w' => e = .returned (.bool (decide (a ≤ n ∧ n ≤ b))) ∧ w = w' := by
 by_cases h1 : a ≤ n
 ·by_cases h2 : n ≤ b
  ·have HS := zH (show decide (a ≤ n ∧ n ≤ b) = true from decide_eq_true ⟨h1, h2⟩)
   go_enter Tryz.func41, Tryz.ntmps41
   go_wp2_with fail
   go_ret
   first | exact ⟨by rw [HS.out]; rfl, rfl⟩ | exact ⟨rfl, rfl⟩
  ·have HS := zH (show decide (a ≤ n ∧ n ≤ b) = false from decide_eq_false (fun h => h2 h.2))
   have hd : decide (n ≤ b) = false := decide_eq_false h2
   go_enter Tryz.func41, Tryz.ntmps41
   go_wp2_with fail
   go_ret
   first | exact ⟨by rw [HS.out]; rfl, rfl⟩ | exact ⟨rfl, rfl⟩
 ·have HS := zH (show decide (a ≤ n ∧ n ≤ b) = false from decide_eq_false (fun h => h1 h.1))
  have hd : decide (a ≤ n) = false := decide_eq_false h1
  go_enter Tryz.func41, Tryz.ntmps41
  go_wp2_with fail
  go_ret
  first | exact ⟨by rw [HS.out]; rfl, rfl⟩ | exact ⟨rfl, rfl⟩
set_option maxHeartbeats 1000000 in
theorem cfgCheck_any (c : CfgV) (w : World) : Calls Tryz.prog 21 #[cfgv c] w fun e w' => e = .returned (.int .i64 (cfgP c)) ∧ Below w.heap.size w w' := by
 unfold cfgv cfgc
 by_cases h1 : c.count < 1 ∨ 1048576 < c.count
 ·have HS := zH (show cfgP c = 240 by unfold cfgP; rw [if_pos h1])
  have d1 := zH (show decide (1 ≤ c.count ∧ c.count ≤ 1048576) = false from decide_eq_false (by omega))
  clear h1
  go_enter Tryz.func21, Tryz.ntmps21
  go_wp2_with fail
  refine (between_any _ _ _ _).mono ?_
  rw [d1.out]
  rintro e w' ⟨rfl, hw⟩
  subst hw
  go_wp2_with fail
  go_ret
  first | exact ⟨by rw [HS.out]; rfl, (zL _ _).alloc (zN _) _⟩ | exact ⟨rfl, (zL _ _).alloc (zN _) _⟩
 ·have d1 := zH (show decide (1 ≤ c.count ∧ c.count ≤ 1048576) = true from decide_eq_true (by omega))
  by_cases h2 : c.bytes < 1 ∨ 1099511627776 < c.bytes
  ·have HS := zH (show cfgP c = 241 by unfold cfgP; rw [if_neg h1, if_pos h2])
   have d2 := zH (show decide (1 ≤ c.bytes ∧ c.bytes ≤ 1099511627776) = false from decide_eq_false (by omega))
   clear h1 h2
   go_enter Tryz.func21, Tryz.ntmps21
   go_wp2_with fail
   refine (between_any _ _ _ _).mono ?_
   rw [d1.out]
   rintro e w' ⟨rfl, hw⟩
   subst hw
   go_wp2_with fail
   refine (between_any _ _ _ _).mono ?_
   rw [d2.out]
   rintro e w' ⟨rfl, hw⟩
   subst hw
   go_wp2_with fail
   go_ret
   first | exact ⟨by rw [HS.out]; rfl, (zL _ _).alloc (zN _) _⟩ | exact ⟨rfl, (zL _ _).alloc (zN _) _⟩
  ·have d2 := zH (show decide (1 ≤ c.bytes ∧ c.bytes ≤ 1099511627776) = true from decide_eq_true (by omega))
   by_cases h3 : c.prot < 0 ∨ 99 < c.prot
   ·have HS := zH (show cfgP c = 242 by unfold cfgP; rw [if_neg h1, if_neg h2, if_pos h3])
    have d3 := zH (show decide (0 ≤ c.prot ∧ c.prot ≤ 99) = false from decide_eq_false (by omega))
    clear h1 h2 h3
    go_enter Tryz.func21, Tryz.ntmps21
    go_wp2_with fail
    refine (between_any _ _ _ _).mono ?_
    rw [d1.out]
    rintro e w' ⟨rfl, hw⟩
    subst hw
    go_wp2_with fail
    refine (between_any _ _ _ _).mono ?_
    rw [d2.out]
    rintro e w' ⟨rfl, hw⟩
    subst hw
    go_wp2_with fail
    refine (between_any _ _ _ _).mono ?_
    rw [d3.out]
    rintro e w' ⟨rfl, hw⟩
    subst hw
    go_wp2_with fail
    go_ret
    first | exact ⟨by rw [HS.out]; rfl, (zL _ _).alloc (zN _) _⟩ | exact ⟨rfl, (zL _ _).alloc (zN _) _⟩
   ·have HS := zH (show cfgP c = 0 by unfold cfgP; rw [if_neg h1, if_neg h2, if_neg h3])
    have d3 := zH (show decide (0 ≤ c.prot ∧ c.prot ≤ 99) = true from decide_eq_true (by omega))
    clear h1 h2 h3
    go_enter Tryz.func21, Tryz.ntmps21
    go_wp2_with fail
    refine (between_any _ _ _ _).mono ?_
    rw [d1.out]
    rintro e w' ⟨rfl, hw⟩
    subst hw
    go_wp2_with fail
    refine (between_any _ _ _ _).mono ?_
    rw [d2.out]
    rintro e w' ⟨rfl, hw⟩
    subst hw
    go_wp2_with fail
    refine (between_any _ _ _ _).mono ?_
    rw [d3.out]
    rintro e w' ⟨rfl, hw⟩
    subst hw
    go_wp2_with fail
    go_ret
    first | exact ⟨by rw [HS.out]; rfl, (zL _ _).alloc (zN _) _⟩ | exact ⟨rfl, (zL _ _).alloc (zN _) _⟩
end Go.Proofs.YtnabbimompapfaaGreat
namespace Go.Proofs.YtnabbimompapfaaGreat
open Go Go.RowKit
set_option maxHeartbeats 2000000 in
theorem refCfg_any (c : CfgV) (w : World) : Calls Tryz.prog 15 #[cfgv c] w fun e w' => e = .returned (.int .i64 (cfgP c)) ∧ Below w.heap.size w w' := by
 unfold cfgv cfgc
 by_cases h1 : c.count < 1
 ·have HS := zH (show cfgP c = 240 by unfold cfgP; rw [if_pos (.inl h1)])
  go_enter Tryz.func15, Tryz.ntmps15
  go_wp2_with fail
  go_ret
  first | exact ⟨by rw [HS.out]; rfl, (zL _ _).alloc (zN _) _⟩ | exact ⟨rfl, (zL _ _).alloc (zN _) _⟩
 ·by_cases h1b : 1048576 < c.count
  ·have HS := zH (show cfgP c = 240 by unfold cfgP; rw [if_pos (.inr h1b)])
   go_enter Tryz.func15, Tryz.ntmps15
   go_wp2_with fail
   go_ret
   first | exact ⟨by rw [HS.out]; rfl, (zL _ _).alloc (zN _) _⟩ | exact ⟨rfl, (zL _ _).alloc (zN _) _⟩
  ·by_cases h2 : c.bytes < 1
   ·have HS := zH (show cfgP c = 241 by unfold cfgP; rw [if_neg (by omega), if_pos (.inl h2)])
    go_enter Tryz.func15, Tryz.ntmps15
    go_wp2_with fail
    go_ret
    first | exact ⟨by rw [HS.out]; rfl, (zL _ _).alloc (zN _) _⟩ | exact ⟨rfl, (zL _ _).alloc (zN _) _⟩
   ·by_cases h2b : 1099511627776 < c.bytes
    ·have HS := zH (show cfgP c = 241 by unfold cfgP; rw [if_neg (by omega), if_pos (.inr h2b)])
     go_enter Tryz.func15, Tryz.ntmps15
     go_wp2_with fail
     go_ret
     first | exact ⟨by rw [HS.out]; rfl, (zL _ _).alloc (zN _) _⟩ | exact ⟨rfl, (zL _ _).alloc (zN _) _⟩
    ·by_cases h3 : c.prot < 0
     ·have HS := zH (show cfgP c = 242 by unfold cfgP; rw [if_neg (by omega), if_neg (by omega), if_pos (.inl h3)])
      go_enter Tryz.func15, Tryz.ntmps15
      go_wp2_with fail
      go_ret
      first | exact ⟨by rw [HS.out]; rfl, (zL _ _).alloc (zN _) _⟩ | exact ⟨rfl, (zL _ _).alloc (zN _) _⟩
     ·by_cases h3b : 99 < c.prot
      ·have HS := zH (show cfgP c = 242 by unfold cfgP; rw [if_neg (by omega), if_neg (by omega), if_pos (.inr h3b)])
       go_enter Tryz.func15, Tryz.ntmps15
       go_wp2_with fail
       go_ret
       first | exact ⟨by rw [HS.out]; rfl, (zL _ _).alloc (zN _) _⟩ | exact ⟨rfl, (zL _ _).alloc (zN _) _⟩
      ·have HS := zH (show cfgP c = 0 by unfold cfgP; rw [if_neg (by omega), if_neg (by omega), if_neg (by omega)])
       go_enter Tryz.func15, Tryz.ntmps15
       go_wp2_with fail
       go_ret
       first | exact ⟨by rw [HS.out]; rfl, (zL _ _).alloc (zN _) _⟩ | exact ⟨rfl, (zL _ _).alloc (zN _) _⟩
end Go.Proofs.YtnabbimompapfaaGreat
namespace Go.Proofs.YtnabbimompapfaaGreat
open Go Go.RowKit
theorem bytesEqual_any (B1 B2 : Nat) (v u : Value) (xs ys : List UInt8) (w : World) (hv : Bts w B1 5 v xs) (hu : Bts w B2 5 u ys) :
  Calls Tryz.prog 48 #[v, u] w fun e w' => e = .returned (.bool (decide (xs = ys))) ∧ w = w' := by
 have cv := hv.string (P := Tryz.prog) 37 9 Tryz.underlying37 Tryz.underlying5 Tryz.underlying9
 have cu := hu.string (P := Tryz.prog) 37 9 Tryz.underlying37 Tryz.underlying5 Tryz.underlying9
 obtain ⟨A, cap, rfl⟩ := hv.form
 obtain ⟨A2, cap2, rfl⟩ := hu.form
 clear hv hu
 have he : (xs == ys) = decide (xs = ys) := by
  by_cases h : xs = ys
  ·subst h; simp
  ·simp [h]
 have HE := zH he
 clear he
 go_enter Tryz.func48, Tryz.ntmps48
 go_wp2_with fail
 go_ret
 exact ⟨by rw [← HE.out]; rfl, rfl⟩
theorem below_two (w : World) (o1 o2 : Obj) : Below w.heap.size w ((w.alloc o1).alloc o2) := ((zL _ _).alloc (zN _) _).alloc (by simp) _
set_option maxHeartbeats 2000000 in
theorem entryEqual_any (B1 B2 : Nat) (x y : EntV) (v u : Value) (w : World) (hv : Bts w B1 5 v x.val) (hu : Bts w B2 5 u y.val) :
  Calls Tryz.prog 46 #[entv x v, entv y u] w fun e w' => e = .returned (.bool (decide (x = y))) ∧ Below w.heap.size w w' := by
 obtain ⟨b, hb⟩ : ∃ b, decide (x.val = y.val) = b := ⟨_, rfl⟩
 have HB := zH (fun o1 o2 => hb ▸ bytesEqual_any B1 B2 v u x.val y.val ((w.alloc o1).alloc o2) ((hv.alloc o1).alloc o2) ((hu.alloc o1).alloc o2))
 obtain ⟨A, cap, rfl⟩ := hv.form
 obtain ⟨A2, cap2, rfl⟩ := hu.form
 unfold entv entc
 clear hv hu
 obtain ⟨k1, b1, d1, n1⟩ := x
 obtain ⟨k2, b2, d2, n2⟩ := y
 dsimp only at *
 by_cases h1 : k1 = k2
 ·have g1 : (k1.toList == k2.toList) = true := by rw [key_eq]; simp [h1]
  cases b with
  |false =>
   have h2 : b1 ≠ b2 := by simpa using hb
   have HS := zH (show decide ((⟨k1, b1, d1, n1⟩ : EntV) = ⟨k2, b2, d2, n2⟩) = false by simp [h2])
   clear h1 h2 hb
   go_enter Tryz.func46, Tryz.ntmps46
   go_wp2_with fail
   refine (HB.out _ _).mono ?_
   rintro e w' ⟨rfl, hw⟩
   subst hw
   go_wp2_with fail
   go_ret
   first | exact ⟨by rw [HS.out]; rfl, below_two _ _ _⟩ | exact ⟨rfl, below_two _ _ _⟩
  |true =>
   have h2 : b1 = b2 := by simpa using hb
   by_cases h3 : d1 = d2
   ·have g3 : (d1 == d2) = true := by simp [h3]
    by_cases h4 : n1 = n2
    ·have g4 : (n1 == n2) = true := by simp [h4]
     have HS := zH (show decide ((⟨k1, b1, d1, n1⟩ : EntV) = ⟨k2, b2, d2, n2⟩) = true by simp [h1, h2, h3, h4])
     clear h1 h2 h3 h4 hb
     go_enter Tryz.func46, Tryz.ntmps46
     go_wp2_with fail
     refine (HB.out _ _).mono ?_
     rintro e w' ⟨rfl, hw⟩
     subst hw
     go_wp2_with fail
     go_ret
     first | exact ⟨by rw [HS.out]; rfl, below_two _ _ _⟩ | exact ⟨rfl, below_two _ _ _⟩
    ·have g4 : (n1 == n2) = false := by simp [h4]
     have HS := zH (show decide ((⟨k1, b1, d1, n1⟩ : EntV) = ⟨k2, b2, d2, n2⟩) = false by simp [h4])
     clear h1 h2 h3 h4 hb
     go_enter Tryz.func46, Tryz.ntmps46
     go_wp2_with fail
     refine (HB.out _ _).mono ?_
     rintro e w' ⟨rfl, hw⟩
     subst hw
     go_wp2_with fail
     go_ret
     first | exact ⟨by rw [HS.out]; rfl, below_two _ _ _⟩ | exact ⟨rfl, below_two _ _ _⟩
   ·have g3 : (d1 == d2) = false := by simp [h3]
    have HS := zH (show decide ((⟨k1, b1, d1, n1⟩ : EntV) = ⟨k2, b2, d2, n2⟩) = false by simp [h3])
    clear h1 h2 h3 hb
    go_enter Tryz.func46, Tryz.ntmps46
    go_wp2_with fail
    refine (HB.out _ _).mono ?_
    rintro e w' ⟨rfl, hw⟩
    subst hw
    go_wp2_with fail
    go_ret
    first | exact ⟨by rw [HS.out]; rfl, below_two _ _ _⟩ | exact ⟨rfl, below_two _ _ _⟩
 ·have g1 : (k1.toList == k2.toList) = false := by rw [key_eq]; simp [h1]
  have HS := zH (show decide ((⟨k1, b1, d1, n1⟩ : EntV) = ⟨k2, b2, d2, n2⟩) = false by simp [h1])
  clear h1 hb
  go_enter Tryz.func46, Tryz.ntmps46
  go_wp2_with fail
  go_ret
  first | exact ⟨by rw [HS.out]; rfl, below_two _ _ _⟩ | exact ⟨rfl, below_two _ _ _⟩
set_option maxHeartbeats 2000000 in
theorem eventEqual_any (B1 B2 : Nat) (x y : EvV) (v u : Value) (w : World) (hv : Bts w B1 5 v x.val) (hu : Bts w B2 5 u y.val) :
  Calls Tryz.prog 107 #[evv x v, evv y u] w fun e w' => e = .returned (.bool (decide (x = y))) ∧ Below w.heap.size w w' := by
 obtain ⟨b, hb⟩ : ∃ b, decide (x.val = y.val) = b := ⟨_, rfl⟩
 have HB := zH (fun o1 o2 => hb ▸ bytesEqual_any B1 B2 v u x.val y.val ((w.alloc o1).alloc o2) ((hv.alloc o1).alloc o2) ((hu.alloc o1).alloc o2))
 obtain ⟨A, cap, rfl⟩ := hv.form
 obtain ⟨A2, cap2, rfl⟩ := hu.form
 unfold evv evc
 clear hv hu
 obtain ⟨q1, k1, b1, n1, d1, t1⟩ := x
 obtain ⟨q2, k2, b2, n2, d2, t2⟩ := y
 dsimp only at *
 by_cases h0 : q1 = q2
 ·have g0 : (q1 == q2) = true := by simp [h0]
  by_cases h1 : k1 = k2
  ·have g1 : (k1.toList == k2.toList) = true := by rw [key_eq]; simp [h1]
   cases b with
   |false =>
    have h2 : b1 ≠ b2 := by simpa using hb
    have HS := zH (show decide ((⟨q1, k1, b1, n1, d1, t1⟩ : EvV) = ⟨q2, k2, b2, n2, d2, t2⟩) = false by simp [h2])
    clear h2 hb
    go_enter Tryz.func107, Tryz.ntmps107
    go_wp2_with fail
    refine (HB.out _ _).mono ?_
    rintro e w' ⟨rfl, hw⟩
    subst hw
    go_wp2_with fail
    go_ret
    first | exact ⟨by rw [HS.out]; rfl, below_two _ _ _⟩ | exact ⟨rfl, below_two _ _ _⟩
   |true =>
    have h2 : b1 = b2 := by simpa using hb
    by_cases h3 : n1 = n2
    ·have g3 : (n1 == n2) = true := by simp [h3]
     by_cases h4 : d1 = d2
     ·have g4 : (d1 == d2) = true := by simp [h4]
      by_cases h5 : t1 = t2
      ·have g5 : (t1 == t2) = true := by simp [h5]
       have HS := zH (show decide ((⟨q1, k1, b1, n1, d1, t1⟩ : EvV) = ⟨q2, k2, b2, n2, d2, t2⟩) = true by simp [h0, h1, h2, h3, h4, h5])
       clear h0 h1 h2 h3 h4 h5 hb
       go_enter Tryz.func107, Tryz.ntmps107
       go_wp2_with fail
       refine (HB.out _ _).mono ?_
       rintro e w' ⟨rfl, hw⟩
       subst hw
       go_wp2_with fail
       go_ret
       first | exact ⟨by rw [HS.out]; rfl, below_two _ _ _⟩ | exact ⟨rfl, below_two _ _ _⟩
      ·have g5 : (t1 == t2) = false := by simp [h5]
       have HS := zH (show decide ((⟨q1, k1, b1, n1, d1, t1⟩ : EvV) = ⟨q2, k2, b2, n2, d2, t2⟩) = false by simp [h5])
       clear h5 h0 h1 h2 h3 h4 hb
       go_enter Tryz.func107, Tryz.ntmps107
       go_wp2_with fail
       refine (HB.out _ _).mono ?_
       rintro e w' ⟨rfl, hw⟩
       subst hw
       go_wp2_with fail
       go_ret
       first | exact ⟨by rw [HS.out]; rfl, below_two _ _ _⟩ | exact ⟨rfl, below_two _ _ _⟩
     ·have g4 : (d1 == d2) = false := by simp [h4]
      have HS := zH (show decide ((⟨q1, k1, b1, n1, d1, t1⟩ : EvV) = ⟨q2, k2, b2, n2, d2, t2⟩) = false by simp [h4])
      clear h4 h0 h1 h2 h3 hb
      go_enter Tryz.func107, Tryz.ntmps107
      go_wp2_with fail
      refine (HB.out _ _).mono ?_
      rintro e w' ⟨rfl, hw⟩
      subst hw
      go_wp2_with fail
      go_ret
      first | exact ⟨by rw [HS.out]; rfl, below_two _ _ _⟩ | exact ⟨rfl, below_two _ _ _⟩
    ·have g3 : (n1 == n2) = false := by simp [h3]
     have HS := zH (show decide ((⟨q1, k1, b1, n1, d1, t1⟩ : EvV) = ⟨q2, k2, b2, n2, d2, t2⟩) = false by simp [h3])
     clear h3 h0 h1 h2 hb
     go_enter Tryz.func107, Tryz.ntmps107
     go_wp2_with fail
     refine (HB.out _ _).mono ?_
     rintro e w' ⟨rfl, hw⟩
     subst hw
     go_wp2_with fail
     go_ret
     first | exact ⟨by rw [HS.out]; rfl, below_two _ _ _⟩ | exact ⟨rfl, below_two _ _ _⟩
  ·have g1 : (k1.toList == k2.toList) = false := by rw [key_eq]; simp [h1]
   have HS := zH (show decide ((⟨q1, k1, b1, n1, d1, t1⟩ : EvV) = ⟨q2, k2, b2, n2, d2, t2⟩) = false by simp [h1])
   clear h1 h0 hb
   go_enter Tryz.func107, Tryz.ntmps107
   go_wp2_with fail
   go_ret
   first | exact ⟨by rw [HS.out]; rfl, below_two _ _ _⟩ | exact ⟨rfl, below_two _ _ _⟩
 ·have g0 : (q1 == q2) = false := by simp [h0]
  have HS := zH (show decide ((⟨q1, k1, b1, n1, d1, t1⟩ : EvV) = ⟨q2, k2, b2, n2, d2, t2⟩) = false by simp [h0])
  clear h0 hb
  go_enter Tryz.func107, Tryz.ntmps107
  go_wp2_with fail
  go_ret
  first | exact ⟨by rw [HS.out]; rfl, below_two _ _ _⟩ | exact ⟨rfl, below_two _ _ _⟩
set_option maxHeartbeats 1000000 in
theorem cost_any (B : Nat) (k : ByteArray) (v : Value) (bs : List UInt8) (w : World) (hk : k.size ≤ maxLen) (hb : Bts w B 5 v bs) :
  Calls Tryz.prog 89 #[.string k, v] w fun e w' => e = .returned (.tuple (if keyOK k = false then #[.int .i64 0, .int .i64 2] else if 65536 < bs.length then #[.int .i64 0, .int .i64 5] else #[.int .i64 (48 + k.size + bs.length), .int .i64 0])) ∧ Below w.heap.size w w' := by
 have HC := zH (check_any B k v bs 1 w hk hb)
 obtain ⟨A, cap, rfl⟩ := hb.form
 have hch : chkE k bs.length 1 = if keyOK k = false then 2 else if 65536 < bs.length then 5 else 0 := by unfold chkE keyB; simp
 rw [hch] at HC
 clear hb hch
 cases hkey : keyOK k with
 |false =>
  rw [hkey] at HC
  simp only [if_true] at HC ⊢
  go_enter Tryz.func89, Tryz.ntmps89
  go_wp2_with fail
  refine HC.out.mono ?_
  rintro e w1 ⟨rfl, hb⟩
  have HB := zH hb
  clear hb
  go_wp2_with fail
  go_ret2
  exact ⟨rfl, HB.out⟩
 |true =>
  rw [hkey] at HC
  simp only [Bool.true_eq_false, if_false] at HC ⊢
  have hk2 : k.size ≤ 250 := by unfold keyOK at hkey; have := of_decide_eq_true hkey; omega
  by_cases hn : 65536 < bs.length
  ·rw [if_pos hn] at HC ⊢
   clear hkey
   go_enter Tryz.func89, Tryz.ntmps89
   go_wp2_with fail
   refine HC.out.mono ?_
   rintro e w1 ⟨rfl, hb⟩
   have HB := zH hb
   clear hb
   go_wp2_with fail
   go_ret2
   exact ⟨rfl, HB.out⟩
  ·rw [if_neg hn] at HC ⊢
   have hkI : (k.size : Int) ≤ 250 := by omega
   have hnI : (bs.length : Int) ≤ 65536 := by omega
   have HE := zH (show ((k.size : Int) + (bs.length : Int) + 48) = 48 + (k.size : Int) + (bs.length : Int) by omega)
   clear hkey hk2 hn
   go_enter Tryz.func89, Tryz.ntmps89
   go_wp2_with fail
   refine HC.out.mono ?_
   rintro e w1 ⟨rfl, hb⟩
   have HB := zH hb
   clear hb
   go_wp2_with fail
   go_ret2
   exact ⟨by rw [← HE.out]; rfl, HB.out⟩
end Go.Proofs.YtnabbimompapfaaGreat
namespace Go.Proofs.YtnabbimompapfaaGreat
open Go Go.RowKit
def ecs (ps : List (EntV × Value)) : List Value := ps.flatMap fun p => [.string p.1.key, p.2, .int .u64 p.1.dl, .int .u64 p.1.birth]
theorem ecs_length (ps : List (EntV × Value)) : (ecs ps).length = ps.length * 4 := by
 induction ps with
 |nil => rfl
 |cons p ps ih =>
  have : (ecs (p :: ps)).length = 4 + (ecs ps).length := by simp [ecs]; omega
  rw [this, ih, List.length_cons]; omega
theorem ecs_append (ps qs : List (EntV × Value)) : ecs (ps ++ qs) = ecs ps ++ ecs qs := by simp [ecs]
theorem ecs_at : ∀ (ps : List (EntV × Value)) (i j : Nat) (p : EntV × Value), ps[i]? = some p → j < 4 → (ecs ps)[i * 4 + j]? = [Value.string p.1.key, p.2, .int .u64 p.1.dl, .int .u64 p.1.birth][j]?
 |[], i, j, p, h, _ => by simp at h
 |q :: ps, 0, j, p, h, hj => by
  have e : q = p := by simpa using h
  subst e
  show ([Value.string q.1.key, q.2, .int .u64 q.1.dl, .int .u64 q.1.birth] ++ ecs ps)[0 * 4 + j]? = _
  rw [List.getElem?_append_left (by simp; omega)]
  simp
 |q :: ps, i + 1, j, p, h, hj => by
  show ([Value.string q.1.key, q.2, .int .u64 q.1.dl, .int .u64 q.1.birth] ++ ecs ps)[(i + 1) * 4 + j]? = _
  rw [List.getElem?_append_right (by simp; omega)]
  have e2 : (i + 1) * 4 + j - [Value.string q.1.key, q.2, .int .u64 q.1.dl, .int .u64 q.1.birth].length = i * 4 + j := by simp; omega
  rw [e2]
  exact ecs_at ps i j p (by simpa using h) hj
def ucs (l : List Int) : List Value := l.map fun n => Value.int .u64 n
theorem ucs_length (l : List Int) : (ucs l).length = l.length := by simp [ucs]
def openAt (pl : List (Option Int)) (i : Nat) : Bool := ((pl[i]?).getD none).isSome
def kcell (s : PJ) (vL vU : Value) (pv : Nat → Int) (i : Nat) : Value :=
 if i = 0 then .int .i64 s.cfg.count else if i = 1 then .int .i64 s.cfg.bytes else if i = 2 then .int .i64 s.cfg.prot else if i = 3 then .int .u64 s.cfg.seed else if i = 4 then .bool s.cfg.same
 else if i = 5 then .int .u64 s.now else if i = 6 then .int .u64 s.births else if i = 7 then vL else if i = 8 then vU
 else if i < 73 then .bool (openAt s.pl (i - 9)) else .int .u64 (pv (i - 73))
structure KRep (w : World) (B g : Nat) (vL vU : Value) (pv : Nat → Int) (s : PJ) (ps : List (EntV × Value)) : Prop where
 blk : ∃ cs, Blk w g 61 cs ∧ ∀ i, i < 137 → cs[i]? = some (kcell s vL vU pv i)
 L : w.ownsRow B 40 4 vL ps.length (ecs ps)
 U : w.ownsRow B 22 1 vU s.U.length (ucs s.U)
 map : ps.map Prod.fst = s.L
 vals : ∀ p ∈ ps, Bts w B 5 p.2 p.1.val
 place : ∀ i b, s.pl[i]? = some (some b) → pv i = b
 base : B ≤ g
section
variable {w w' : World} {B g : Nat} {vL vU : Value} {pv : Nat → Int} {s : PJ} {ps : List (EntV × Value)}
theorem KRep.cell (h : KRep w B g vL vU pv s ps) (i : Nat) (hi : i < 137) : w.cell? ⟨g, i, none⟩ = some (kcell s vL vU pv i) := by
 obtain ⟨cs, hb, hc⟩ := h.blk
 exact hb.cell i _ (hc i hi)
theorem own_later' {base : Nat} {e : TypeId} {size : Nat} {v : Value} {n : Nat} {xs : List Value} (h : w.ownsRow base e size v n xs) (hb : Below w.heap.size w w') : w'.ownsRow base e size v n xs :=
 ownsRow_only h (Only.of_below (S := fun _ => False) hb) (fun _ _ h => h)
theorem KRep.below (h : KRep w B g vL vU pv s ps) (hb : Below w.heap.size w w') : KRep w' B g vL vU pv s ps := by
 obtain ⟨cs, h1, h2⟩ := h.blk
 exact ⟨⟨cs, h1.below hb, h2⟩, own_later' h.L hb, own_later' h.U hb, h.map, fun p hp => (h.vals p hp).below hb, h.place, h.base⟩
theorem KRep.entAt {gL n c : Nat} (h : KRep w B g (.slice (some ⟨gL, 0, none⟩) n c) vU pv s ps) {i : Nat} {p : EntV × Value} (hp : ps[i]? = some p) :
  w.cell? ⟨gL, i * 4, none⟩ = some (.string p.1.key) ∧ w.cell? ⟨gL, i * 4 + 1, none⟩ = some p.2 ∧ w.cell? ⟨gL, i * 4 + 2, none⟩ = some (.int .u64 p.1.dl) ∧ w.cell? ⟨gL, i * 4 + 3, none⟩ = some (.int .u64 p.1.birth) := by
 have hh : ∀ j u, j < 4 → [Value.string p.1.key, p.2, .int .u64 p.1.dl, .int .u64 p.1.birth][j]? = some u → w.cell? ⟨gL, i * 4 + j, none⟩ = some u := fun j u hj hu => by
  have := h.L.cells (g := gL) rfl (i * 4 + j) u ((ecs_at ps i j p hp hj).trans hu)
  rw [add_plain, Nat.zero_add] at this
  exact this
 exact ⟨hh 0 _ (by omega) rfl, hh 1 _ (by omega) rfl, hh 2 _ (by omega) rfl, hh 3 _ (by omega) rfl⟩
end
def idxI {α : Type} (p : α → Bool) (l : List α) : Int := match l.findIdx? p with
 |some i => (i : Int)
 |none => -1
set_option maxHeartbeats 2000000 in
theorem kFind_any (B g : Nat) (vL vU : Value) (pv : Nat → Int) (s : PJ) (ps : List (EntV × Value)) (k : ByteArray) (w : World) (h : KRep w B g vL vU pv s ps) (hn : ps.length ≤ 100000) :
  Calls Tryz.prog 57 #[.pointer (some ⟨g, 0, none⟩), .string k] w fun e w' => e = .returned (.int .i64 (idxI (fun p => decide (p.1.key = k)) ps)) ∧ w = w' := by
 obtain ⟨LA, lc, rfl, hlc, _⟩ := own_form h.L
 have x7 : w.cell? ⟨g, 7, none⟩ = some (.slice LA ps.length lc) := h.cell 7 (by omega)
 have HH := zH h
 obtain ⟨n, hn2⟩ : ∃ n, ps.length = n := ⟨_, rfl⟩
 have HN := zH hn2
 rw [hn2] at x7 hlc hn HH
 have hnI : (n : Int) ≤ 100000 := by omega
 have hlcI : (n : Int) ≤ (lc : Int) := by omega
 clear h hn2
 go_enter Tryz.func57, Tryz.ntmps57
 go_wp2_with fail
 go_loopw [5] (fun i wr => ∃ m : Nat, m ≤ n ∧ i = .int .i64 m ∧ (∀ j p, j < m → ps[j]? = some p → p.1.key ≠ k) ∧ wr = w) (fun i _ => n - (intOf i).toNat)
 case atStart => exact ⟨0, by omega, rfl, fun j p hj => by omega, rfl⟩
 case round =>
  obtain ⟨m, hm, rfl, hj, hww⟩ := hrel
  obtain rfl : w = wr := hww.symm
  have HJ := zH hj
  clear hj
  by_cases hml : m < n
  ·obtain ⟨⟨e, V⟩, hp⟩ : ∃ p, ps[m]? = some p := ⟨_, List.getElem?_eq_getElem (by rw [HN.out]; exact hml)⟩
   have hmI : (m : Int) < (n : Int) := by omega
   obtain ⟨gL, rfl⟩ : ∃ gL, LA = some ⟨gL, 0, none⟩ := by
    rcases HH.out.L.2 with ⟨_, h0⟩ | ⟨q, c, cur, eq, _⟩
    ·rw [HN.out] at h0; omega
    ·injection eq with eq _ _
     exact ⟨q, eq⟩
   obtain ⟨y0, y1, y2, y3⟩ := HH.out.entAt hp
   have HP := zH hp
   clear hp
   by_cases hk : e.key = k
   ·have hkb : (e.key.toList == k.toList) = true := by rw [key_eq]; simp [hk]
    have HK := zH hk
    clear hk
    go_wp2_with fail
    go_ret
    refine ⟨?_, rfl⟩
    have : idxI (fun p : EntV × Value => decide (p.1.key = k)) ps = (m : Int) := by
     unfold idxI
     have hf : ps.findIdx? (fun p : EntV × Value => decide (p.1.key = k)) = some m := by
      rw [List.findIdx?_eq_some_iff_getElem]
      obtain ⟨hl, he⟩ := List.getElem?_eq_some_iff.1 HP.out
      refine ⟨hl, by rw [he]; simp [HK.out], fun j hj => ?_⟩
      have := HJ.out j ps[j] hj (List.getElem?_eq_getElem (by omega))
      simpa using this
     rw [hf]
    rw [this]; rfl
   ·have hkb : (e.key.toList == k.toList) = false := by rw [key_eq]; simp [hk]
    have HK := zH hk
    clear hk
    go_wp2_with fail
    go_roundw
    case rel => exact ⟨m + 1, by omega, by go_num, fun j p hj hp => by
      rcases (by omega : j < m ∨ j = m) with h1 | h1
      ·exact HJ.out j p h1 hp
      ·subst h1
       rw [HP.out] at hp
       injection hp with hp
       rw [← hp]; exact HK.out, trivial⟩
    case measure => simp [intOf]; omega
  ·obtain rfl : m = n := by omega
   go_wp2_with fail
   go_ret
   refine ⟨?_, rfl⟩
   have : idxI (fun p : EntV × Value => decide (p.1.key = k)) ps = -1 := by
    unfold idxI
    have hf : ps.findIdx? (fun p : EntV × Value => decide (p.1.key = k)) = none := by
     rw [List.findIdx?_eq_none_iff]
     intro p hp
     obtain ⟨j, hj⟩ := List.getElem?_of_mem hp
     have hjl := (List.getElem?_eq_some_iff.1 hj).1
     simpa using HJ.out j p (by rw [HN.out] at hjl; exact hjl) hj
    rw [hf]
   rw [this]; rfl
end Go.Proofs.YtnabbimompapfaaGreat
