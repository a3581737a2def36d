/- The step of a builtin append, the slot's number written out; small facts. -/
import Derived.Test.YtjjhndhigkhkpaaLogF
namespace Go.Proofs.Ytjjhndhigkhkpaa
open Go Go.RowKit

theorem step_append_dst {P : Program} {w : World} {ops : Array Oper} {o : Oper} {a : Act} {K : Act → World → Prop} {Q : Exit → Act → World → Prop} {E : Prop} (d : Nat) (hd : o.dst = some d) (hgd : o.guard = none) (s x : Operand) (t : TypeId)
    (ho : o.op = .call { callee := .builtin .append, args := #[s, x], argTypes := #[t, t] })
    (base : Nat) (e : TypeId) (i : TypeInfo) (z : Value) (size bytes : Nat) (ht : P.underlying t = some (.slice e)) (hi : P.info? e = some i) (hz : i.zero = some z)
    (hsize : i.size = size) (hby : i.bytes = bytes) (hzs : z.cells.size = size) (hsz : 0 < size)
    (v : Value) (n : Nat) (xs : List Value) (hs : a.eval s = v) (hown : w.ownsRow base e size v n xs)
    (A : Option Addr) (m c : Nat) (news : List Value) (hx : a.eval x = .slice A m c) (hr : Src w size A m news) (h1 : ∀ u ∈ news, u.oneCell' = true)
    (h63 : n + m ≤ maxLen) (hbytes : (n + m) * bytes ≤ 140737488355328) (hbase : base ≤ w.heap.size)
    (h : ∀ v' w', w'.ownsRow base e size v' (n + m) (xs ++ news) → w.grownBy w' v.ownBlock → (v'.ownBlock = v.ownBlock ∨ v'.ownBlock = some w.heap.size) → K (a.put (some d) v') w') :
    if Region.wanted o (yielded ops a.tmps) = true then Oper.wp P o a w K Q else E :=
  step_append_src w hgd s x t ho base e i z size bytes ht hi hz hsize hby hzs hsz v n xs hs hown A m c news hx hr h1 h63 hbytes hbase (fun v' w' h2 h3 h4 => by rw [hd]; exact h v' w' h2 h3 h4)

theorem cell_far {W : World} {a p : Addr} {u v : Value} (h : W.cell? a = some v) (hne : ¬ a.block = p.block) : (W.setCell p u).cell? a = some v := (World.cell?_of_block (Below.heap_setCell W p u a.block hne)).trans h

theorem src_one {w : World} {g : Nat} {t : TypeId} {x : Value} (h : Blk w g t #[x]) : Src w 1 (some ⟨g, 0, none⟩) 1 [x] := src_block h rfl
theorem src_four {w : World} {g : Nat} {t : TypeId} {x y z u : Value} (h : Blk w g t #[x, y, z, u]) : Src w 4 (some ⟨g, 0, none⟩) 1 [x, y, z, u] := src_block h rfl

theorem boolI_info : (Try.prog.info? 4).map (fun i => (i.zero, i.size, i.bytes)) = some (some (.bool false), 1, 1) := by kernel_rfl

end Go.Proofs.Ytjjhndhigkhkpaa
