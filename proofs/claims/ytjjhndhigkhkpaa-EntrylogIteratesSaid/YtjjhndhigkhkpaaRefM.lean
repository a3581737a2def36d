/- The reference's log of layer 9: what is known of it in memory, and its plain facts. -/
import Derived.Test.YtjjhndhigkhkpaaLogF
namespace Go.Proofs.Ytjjhndhigkhkpaa
open Go Go.RowKit

structure RE where
  e : Ent
  v : Value
  gone : Bool

def ren (rs : List RE) : List (Ent × Value) := rs.map fun r => (r.e, r.v)
def rgs (rs : List RE) : List Value := rs.map fun r => .bool r.gone
def liveR (rs : List RE) : Nat := (rs.filter fun r => !r.gone).length
def hasR (rs : List RE) (i : Nat) : Bool := match rs[i]? with
  | some r => !r.gone
  | none => false
def slotsR (rs : List RE) (k : Nat) : List Nat := (List.range k).filter (hasR rs)

structure RRep (w : World) (B : Nat) (lv gv : Value) (rs : List RE) : Prop where
  row : w.ownsRow B 31 4 lv rs.length (ecs (ren rs))
  gone : w.ownsRow B 4 1 gv rs.length (rgs rs)
  vals : ∀ r ∈ rs, w.ownsRow B 5 1 r.v r.e.val.length (bcells r.e.val) ∧ r.e.val.length ≤ 65536
  len : rs.length ≤ 1000000

theorem ren_length (rs : List RE) : (ren rs).length = rs.length := by simp [ren]

theorem RRep.nil (w : World) (B : Nat) : RRep w B (.slice none 0 0) (.slice none 0 0) [] := ⟨World.ownsRow_nil _ _ _ _, World.ownsRow_nil _ _ _ _, by simp, by simp⟩

theorem RRep.below {w w' : World} {B : Nat} {lv gv : Value} {rs : List RE} (h : RRep w B lv gv rs) (hb : Below w.heap.size w w') : RRep w' B lv gv rs := by
  have ho : Only (fun _ => False) w w' := Only.of_below hb
  exact ⟨ownsRow_only h.row ho (fun _ _ h => h), ownsRow_only h.gone ho (fun _ _ h => h), fun r hr => ⟨ownsRow_only (h.vals r hr).1 ho (fun _ _ h => h), (h.vals r hr).2⟩, h.len⟩
theorem RRep.alloc {w : World} {B : Nat} {lv gv : Value} {rs : List RE} (h : RRep w B lv gv rs) (o : Obj) : RRep (w.alloc o) B lv gv rs := h.below ((Below.refl _ _).alloc (Nat.le_refl _) o)
theorem RRep.drew {w : World} {B : Nat} {lv gv : Value} {rs : List RE} (h : RRep w B lv gv rs) : RRep w.drew B lv gv rs := h.below (Below.refl _ _).drew

/-- It stays what it is where other blocks are written. -/
theorem RRep.only {S : Nat → Prop} {w w' : World} {B : Nat} {lv gv : Value} {rs : List RE} (h : RRep w B lv gv rs) (ho : Only S w w') (h1 : ∀ k, lv.ownBlock = some k → ¬ S k) (h2 : ∀ k, gv.ownBlock = some k → ¬ S k) (h3 : ∀ r ∈ rs, ∀ k, r.v.ownBlock = some k → ¬ S k) : RRep w' B lv gv rs :=
  ⟨ownsRow_only h.row ho h1, ownsRow_only h.gone ho h2, fun r hr => ⟨ownsRow_only (h.vals r hr).1 ho (h3 r hr), (h.vals r hr).2⟩, h.len⟩

theorem RRep.base {w : World} {B B' : Nat} {lv gv : Value} {rs : List RE} (h : RRep w B lv gv rs) (hB : B' ≤ B) : RRep w B' lv gv rs :=
  ⟨ownsRow_base h.row hB, ownsRow_base h.gone hB, fun r hr => ⟨ownsRow_base (h.vals r hr).1 hB, (h.vals r hr).2⟩, h.len⟩

theorem RRep.bts {w : World} {B : Nat} {lv gv : Value} {rs : List RE} (h : RRep w B lv gv rs) {r : RE} (hr : r ∈ rs) (B' : Nat) : Bts w B' 5 r.v r.e.val := Bts.of_own (h.vals r hr).1 B'

def RE.bare (r : RE) : Ent × Bool := (r.e, r.gone)

theorem RRep.at_ {w : World} {B : Nat} {lv gv : Value} {rs : List RE} (h : RRep w B lv gv rs) {i : Nat} {r : RE} (hr : rs[i]? = some r) :
    ∃ g cap gg gcap, lv = .slice (some ⟨g, 0, none⟩) rs.length cap ∧ gv = .slice (some ⟨gg, 0, none⟩) rs.length gcap ∧ g < w.heap.size ∧ gg < w.heap.size ∧ rs.length ≤ cap ∧ rs.length ≤ gcap ∧
      w.cell? ⟨g, i * 4, none⟩ = some (.string r.e.key) ∧ w.cell? ⟨g, i * 4 + 1, none⟩ = some r.v ∧ w.cell? ⟨g, i * 4 + 2, none⟩ = some (.int .u64 r.e.dl) ∧ w.cell? ⟨g, i * 4 + 3, none⟩ = some (.int .u64 r.e.birth) ∧ w.cell? ⟨gg, i, none⟩ = some (.bool r.gone) := by
  obtain ⟨hi, hx⟩ := List.getElem?_eq_some_iff.1 hr
  obtain ⟨g, cap, hv, hb, hlt⟩ := h.row.form (by omega)
  obtain ⟨gg, gcap, hgv, hgb, hglt⟩ := h.gone.form (by omega)
  have hrow := h.row
  rw [hv] at hrow
  have hgone := h.gone
  rw [hgv] at hgone
  have hi' : i < (ren rs).length := by rw [ren_length]; exact hi
  have hcell : ∀ j, j < 4 → w.cell? ⟨g, i * 4 + j, none⟩ = (ecells (r.e, r.v))[j]? := fun j hj => by
    rw [hrow.cellAt (i * 4 + j) (by omega), ecs_at (ren rs) i j hi' hj]
    simp [ren, hx]
  obtain ⟨A, c, e, h1, _⟩ := own_form h.row
  rw [hv] at e
  injection e with _ _ e
  subst e
  obtain ⟨A2, c2, e, h2, _⟩ := own_form h.gone
  rw [hgv] at e
  injection e with _ _ e
  subst e
  refine ⟨g, cap, gg, gcap, hv, hgv, hlt, hglt, h1, h2, hcell 0 (by omega), hcell 1 (by omega), hcell 2 (by omega), hcell 3 (by omega), ?_⟩
  rw [hgone.cellAt i (by omega)]
  simp [rgs, hr]

theorem liveR_take {rs : List RE} {m : Nat} {r : RE} (hr : rs[m]? = some r) : liveR (rs.take (m + 1)) = liveR (rs.take m) + (if r.gone = true then 0 else 1) := by
  rw [List.take_add_one, hr]
  unfold liveR
  rw [List.filter_append, List.length_append]
  cases h : r.gone <;> simp [h]

theorem liveR_le (rs : List RE) : liveR rs ≤ rs.length := List.length_filter_le _ _

theorem slotsR_succ (rs : List RE) (k : Nat) : slotsR rs (k + 1) = slotsR rs k ++ (if hasR rs k = true then [k] else []) := by
  unfold slotsR
  rw [List.range_succ, List.filter_append]
  cases h : hasR rs k <;> simp [h]

theorem slotsR_le (rs : List RE) (k : Nat) : (slotsR rs k).length ≤ k := by
  have := List.length_filter_le (hasR rs) (List.range k)
  simpa [slotsR] using this

end Go.Proofs.Ytjjhndhigkhkpaa
