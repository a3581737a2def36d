/- The walk of layer 26: Parse. -/
import Derived.Test.YtffigmciclopdaaDoorScrI
namespace Go.Proofs.YtffigmciclopdaaDoor
open Go Go.RowKit

theorem rdPart_len (p : Part) (o : OpV) (rs : List UInt8) : (rdPart p o rs).2.length ≤ rs.length := by cases p <;> simp [rdPart] <;> omega
theorem rdParts_len : ∀ (ps : List Part) (o : OpV) (rs : List UInt8), (rdParts ps o rs).2.length ≤ rs.length
  | [], _, _ => Nat.le_refl _
  | p :: ps, o, rs => Nat.le_trans (rdParts_len ps _ _) (rdPart_len p o rs)
theorem rdHead_len (rs : List UInt8) : (rdHead rs).2.length ≤ rs.length - 1 := by unfold rdHead; split <;> simp <;> omega
theorem rdOp_len (rs : List UInt8) (h : 0 < rs.length) : (rdOp rs).2.length < rs.length := by
  have h1 := rdParts_len (partsOf (rdHead rs).1.kind) (rdHead rs).1 (rdHead rs).2
  have h2 := rdHead_len rs
  have : (rdOp rs).2.length ≤ (rdHead rs).2.length := h1
  omega
theorem rdPart_ticks (p : Part) (o : OpV) (rs : List UInt8) : (rdPart p o rs).1.ticks = o.ticks := by cases p <;> rfl
theorem rdParts_ticks : ∀ (ps : List Part) (o : OpV) (rs : List UInt8), (rdParts ps o rs).1.ticks = o.ticks
  | [], _, _ => rfl
  | p :: ps, o, rs => by rw [rdParts, rdParts_ticks ps, rdPart_ticks]
theorem rdOp_ticks (rs : List UInt8) : 0 ≤ (rdOp rs).1.ticks := by
  unfold rdOp
  rw [rdParts_ticks]
  unfold rdHead
  split
  · show (0 : Int) ≤ 15 + _; omega
  · show (0 : Int) ≤ ((_ : Nat) : Int); omega

def rdOpsF : Nat → List UInt8 → List OpV
  | 0, _ => []
  | _ + 1, [] => []
  | n + 1, b :: rs => (rdOp (b :: rs)).1 :: rdOpsF n (rdOp (b :: rs)).2
/-- The operations of bytes. -/
def rdOps (rs : List UInt8) : List OpV := rdOpsF rs.length rs

theorem rdOpsF_more : ∀ (k n : Nat) (rs : List UInt8), rs.length ≤ n → rdOpsF (n + k) rs = rdOpsF n rs
  | k, 0, rs, h => by
    have : rs = [] := by simpa using h
    subst this
    cases k <;> simp [rdOpsF]
  | k, n + 1, [], _ => by rw [show n + 1 + k = (n + k) + 1 by omega]; rfl
  | k, n + 1, b :: rs, h => by
    rw [show n + 1 + k = (n + k) + 1 by omega]
    have hl := rdOp_len (b :: rs) (by simp)
    simp only [rdOpsF]
    rw [rdOpsF_more k n _ (by omega)]
theorem rdOps_cons (rs : List UInt8) (h : 0 < rs.length) : rdOps rs = (rdOp rs).1 :: rdOps (rdOp rs).2 := by
  cases rs with
  | nil => simp at h
  | cons b rs =>
    have hl := rdOp_len (b :: rs) h
    unfold rdOps
    rw [List.length_cons, rdOpsF]
    congr 1
    have e : rs.length = (rdOp (b :: rs)).2.length + (rs.length - (rdOp (b :: rs)).2.length) := by rw [List.length_cons] at hl; omega
    rw [e]
    exact rdOpsF_more _ _ _ (Nat.le_refl _)
theorem rdOps_nil : rdOps [] = [] := rfl
theorem rdOps_len : ∀ (n : Nat) (rs : List UInt8), rs.length ≤ n → (rdOps rs).length ≤ rs.length
  | 0, rs, h => by
    have : rs = [] := by simpa using h
    subst this
    simp [rdOps, rdOpsF]
  | n + 1, rs, h => by
    by_cases h0 : 0 < rs.length
    · rw [rdOps_cons rs h0, List.length_cons]
      have h1 := rdOp_len rs h0
      have := rdOps_len n (rdOp rs).2 (by omega)
      omega
    · have : rs = [] := by simpa using h0
      subst this
      simp [rdOps, rdOpsF]

theorem op_info : (Tryd.prog.info? 43).map (fun i => (i.zero, i.size, i.bytes)) = some (some (.agg #[.int .i64 0, .int .u64 0, .string ⟨#[]⟩, .slice none 0 0, .int .u64 0, .int .i64 0, .int .i64 0, .int .i64 0, .int .u64 0]), 9, 96) := by kernel_rfl

/-- A row of operations of the call's own. -/
structure OpsOwn (w : World) (base B : Nat) (v : Value) (ps : List (OpV × Value)) : Prop where
  row : w.ownsRow base 43 9 v ps.length (ocs ps)
  vals : ∀ p ∈ ps, Bts w B 5 p.2 p.1.val
  wf : ∀ p ∈ ps, 0 ≤ p.1.ticks
theorem OpsOwn.at_ {w : World} {base B : Nat} {v : Value} {ps : List (OpV × Value)} (h : OpsOwn w base B v ps) : OpsAt w B v ps := OpsAt.of_own h.row h.vals h.wf
theorem OpsOwn.below {w w' : World} {base B : Nat} {v : Value} {ps : List (OpV × Value)} (h : OpsOwn w base B v ps) (hb : Below w.heap.size w w') : OpsOwn w' base B v ps :=
  ⟨own_later h.row hb, fun p hp => (h.vals p hp).below hb, h.wf⟩
theorem OpsOwn.base {w : World} {base base' B : Nat} {v : Value} {ps : List (OpV × Value)} (h : OpsOwn w base B v ps) (hb : base' ≤ base) : OpsOwn w base' B v ps := ⟨ownsRow_base h.row hb, h.vals, h.wf⟩

def ParseRet (B : Nat) (rs : List UInt8) (w : World) (e : Ending) (w' : World) : Prop :=
  if 4096 < rs.length then e = .returned (.tuple #[.slice none 0 0, .int .i64 5]) ∧ Below w.heap.size w w'
  else ∃ v ps, e = .returned (.tuple #[v, .int .i64 0]) ∧ ps.map Prod.fst = rdOps rs ∧ OpsOwn w' w.heap.size B v ps ∧ Below w.heap.size w w'

theorem opcs_one (o : OpV) (A : Option Addr) (n c : Nat) : ∀ u ∈ opcs o (.slice A n c), u.oneCell' = true := by
  intro u hu
  simp only [opcs, List.mem_cons, List.not_mem_nil, or_false] at hu
  rcases hu with rfl | rfl | rfl | rfl | rfl | rfl | rfl | rfl | rfl <;> rfl

def slLen : Value → Nat
  | .slice _ n _ => n
  | _ => 0

structure PaI (w wr : World) (B g : Nat) (v : Value) (ps : List (OpV × Value)) (rs0 rs : List UInt8) : Prop where
  rd : RS wr B g rs
  out : OpsOwn wr w.heap.size B v ps
  eq : ps.map Prod.fst ++ rdOps rs = rdOps rs0
  below : Below w.heap.size w wr
  glt : w.heap.size ≤ g

theorem src_op (w : World) (o : OpV) (V : Value) : Src (w.alloc (.cells (opc o V) 43)) 9 (some ⟨w.heap.size, 0, none⟩) 1 (opcs o V) := by
  refine ⟨rfl, (fun h => by cases h), fun a ha j u hu => ?_⟩
  cases ha
  rw [add_plain, Nat.zero_add]
  have : (opc o V)[j]? = some u := by
    have e : (opc o V) = (opcs o V).toArray := rfl
    rw [e]; simpa using hu
  exact (Blk.new w 43 (opc o V)).cell j u this

theorem PaI.step {w wr W W8 : World} {B g : Nat} {v v8 : Value} {ps : List (OpV × Value)} {rs0 rs : List UInt8} {V : Value} {ob : Obj} (h : PaI w wr B g v ps rs0 rs) (hr : 0 < rs.length) (hB : B ≤ w.heap.size)
    (hV : Bts W B 5 V (rdOp rs).1.val) (hR : RS W B g (rdOp rs).2) (ho : Only (fun k => k = g) wr W)
    (hown : W8.ownsRow w.heap.size 43 9 v8 (ps.length + 1) (ocs ps ++ opcs (rdOp rs).1 V)) (hg : (W.alloc ob).grownBy W8 v.ownBlock) : PaI w W8 B g v8 (ps ++ [((rdOp rs).1, V)]) rs0 (rdOp rs).2 := by
  have hrow : ∀ k, v.ownBlock = some k → w.heap.size ≤ k ∧ ∃ cur, wr.heap[k]? = some (.cells cur 43 (0, 0)) := fun k hk => row_heap h.out.row hk
  have hW : Below w.heap.size w W := h.below.trans (ho.below (fun i hi _ e => by have := h.glt; omega) h.below.size)
  have hA : Only (fun k => v.ownBlock = some k) W W8 := ((Only.refl _ W).alloc ob).trans (Only.of_grown hg) (fun _ _ e => e)
  have hne : ∀ k, v.ownBlock = some k → ∃ cur, W.heap[k]? = some (.cells cur 43 (0, 0)) := fun k hk => by
    obtain ⟨_, cur, hc⟩ := hrow k hk
    refine ⟨cur, (ho.block k (lt_of_heap hc) ?_).trans hc⟩
    intro e
    subst e
    obtain ⟨V2, h1, _⟩ := h.rd
    exact h1.ne_ hc (by decide) rfl
  have hk1 : KeepB B 5 wr W := by
    obtain ⟨V2, h1, _⟩ := h.rd
    exact KeepB.of_blk h1 (by decide) (by have := h.glt; omega) ho
  have hk2 : KeepB B 5 W W8 := KeepB.of_only hA fun k hk e => ⟨by have := (hrow k e).1; omega, fun c fr hc => by
    obtain ⟨cur, h2⟩ := hne k e
    rw [h2] at hc
    injection hc with hc
    injection hc with _ ht
    exact absurd ht (by decide)⟩
  refine ⟨?_, ⟨?_, ?_, ?_⟩, ?_, ?_, h.glt⟩
  · obtain ⟨V2, h1, h2⟩ := hR
    refine ⟨V2, h1.only hA ?_, h2.keep hk2⟩
    intro e
    obtain ⟨cur, h3⟩ := hne g e
    exact h1.ne_ h3 (by decide) rfl
  · rw [List.length_append, List.length_singleton, ocs_append, show ocs [((rdOp rs).1, V)] = opcs (rdOp rs).1 V by simp [ocs]]
    exact hown
  · intro p hp
    rcases List.mem_append.1 hp with hp | hp
    · exact ((h.out.vals p hp).keep hk1).keep hk2
    · have e := List.mem_singleton.1 hp
      subst e
      exact hV.keep hk2
  · intro p hp
    rcases List.mem_append.1 hp with hp | hp
    · exact h.out.wf p hp
    · have e := List.mem_singleton.1 hp
      subst e
      exact rdOp_ticks rs
  · rw [← h.eq, rdOps_cons rs hr]; simp
  · exact hW.trans (hA.below (fun i hi _ e => by have := (hrow i e).1; omega) hW.size)

set_option maxRecDepth 100000 in
set_option maxHeartbeats 4000000 in
theorem parse_any (B : Nat) (V : Value) (rs : List UInt8) (w : World) (hv : Bts w B 5 V rs) (hB : 0 < B) (hs : B ≤ w.heap.size) (hk : KG w) :
    Calls Tryd.prog 36 #[V] w (ParseRet B rs w) := by
  obtain ⟨i0, hi0, hz0, hz1, hz2⟩ := info_parts op_info
  have hmx := hv.le
  unfold maxLen at hmx
  obtain ⟨A, cap, rfl⟩ := hv.form
  have HV := Lib.hid hv
  have HK := Lib.hid hk
  have HBp := Lib.hid hB
  have HS := Lib.hid hs
  clear hv hk hB hs
  by_cases h4 : 4096 < rs.length
  · have h4I : (4096 : Int) < (rs.length : Int) := by omega
    go_enter Tryd.func36, Tryd.ntmps36
    go_wp2_with fail
    go_ret2
    unfold ParseRet
    rw [if_pos h4]
    exact ⟨rfl, Below.refl _ _⟩
  · have h4I : ¬ (4096 : Int) < (rs.length : Int) := by omega
    go_enter Tryd.func36, Tryd.ntmps36
    go_wp2_with fail
    have hN := rdOps_len rs.length rs (Nat.le_refl _)
    have HN := Lib.hid hN
    clear hN
    go_loopw [5] (fun v wr => ∃ ps r, PaI w wr B w.heap.size v ps rs r) (fun v _ => (rdOps rs).length - slLen v)
    case atStart => exact ⟨[], rs, ⟨_, Blk.new _ _ _, HV.out.alloc _⟩, ⟨World.ownsRow_nil _ _ _ _, fun p hp => by simp at hp, fun p hp => by simp at hp⟩, rfl, (Below.refl _ _).alloc (Nat.le_refl _) _, Nat.le_refl _⟩
    case round =>
      obtain ⟨ps, r, hI⟩ := hrel
      have hrd := hI.rd
      obtain ⟨V', hb', hv'⟩ := hrd
      obtain ⟨A', c', rfl⟩ := hv'.form
      have z0 : wr.cell? ⟨w.heap.size, 0, none⟩ = some (.slice A' r.length c') := hb'.cell 0 _ rfl
      have hrow := hI.out.row
      obtain ⟨A5, c5, rfl, _, _⟩ := own_form hrow
      have HI := Lib.hid hI
      have hgl := hb'.lt
      clear hb' hv' hrow hI
      have hpl : ps.length + (rdOps r).length = (rdOps rs).length := by rw [← HI.out.eq, List.length_append, List.length_map]
      by_cases hr0 : 0 < r.length
      · have hr0I : (0 : Int) < (r.length : Int) := by omega
        have hlt : ps.length < (rdOps rs).length := by
          rw [rdOps_cons r hr0, List.length_cons] at hpl
          omega
        have hle : ps.length ≤ 4096 := by have := HN.out; omega
        have HR0 := Lib.hid hr0
        have HLe := Lib.hid hle
        have HLt := Lib.hid hlt
        clear hpl hle hlt hr0
        have HRd := Lib.hid (read_any B w.heap.size r wr HI.out.rd HS.out HBp.out (HK.out.below HI.out.below HK.out.1) (Nat.le_trans HS.out HI.out.below.size))
        go_wp2_with fail
        refine HRd.out.mono ?_
        rintro e w7 ⟨V7, rfl, hv7, hr7, ho7⟩
        obtain ⟨A7, c7, rfl⟩ := hv7.form
        have HV7 := Lib.hid hv7
        have HR7 := Lib.hid hr7
        have HO7 := Lib.hid ho7
        have hrow7 : w7.ownsRow w.heap.size 43 9 (.slice A5 ps.length c5) ps.length (ocs ps) := ownsRow_only HI.out.out.row ho7 (fun k hk e => by
          subst e
          obtain ⟨_, cur, hc⟩ := row_heap HI.out.out.row hk
          obtain ⟨V2, h1, _⟩ := HI.out.rd
          exact h1.ne_ hc (by decide) rfl)
        have HRow7 := Lib.hid hrow7
        have hsz7 := ho7.size
        have HSz7 := Lib.hid hsz7
        have HSrc := Lib.hid (src_op w7 (rdOp r).1 (.slice A7 (rdOp r).1.val.length c7))
        unfold opv
        unfold opc at HSrc ⊢
        clear hv7 hr7 ho7 hrow7 hsz7 z0 HRd
        go_wp2_with (at_builtin; refine wpList_append_src _ rfl _ _ _ rfl w.heap.size 43 i0 _ 9 96 Tryd.underlying25 hi0 hz0 hz1 hz2 rfl (by decide) _ ps.length (ocs ps) rfl (HRow7.out.alloc _) (some ⟨w7.heap.size, 0, none⟩) 1 1 (opcs (rdOp r).1 (.slice A7 (rdOp r).1.val.length c7)) rfl HSrc.out (opcs_one _ _ _ _) (by have := HLe.out; unfold maxLen; omega) (by have := HLe.out; omega) (by have := HI.out.below.size; have := HSz7.out; simp; omega) ?_; intro v8 w8 hown8 hg8 hat8)
        have hst := PaI.step HI.out HR0.out HS.out HV7.out HR7.out HO7.out hown8 hg8
        have HSt := Lib.hid hst
        have hsl : slLen v8 = ps.length + 1 := by
          obtain ⟨A8, c8, e8, _, _⟩ := own_form hown8
          rw [e8]; rfl
        have HSl := Lib.hid hsl
        clear hst hown8 hg8 hat8 hsl
        go_roundw
        case rel => exact ⟨_, _, HSt.out⟩
        case measure => rw [HSl.out]; show _ < (rdOps rs).length - ps.length; have := HLt.out; omega
      · have hr0I : ¬ (0 : Int) < (r.length : Int) := by omega
        have hnil : r = [] := by simpa using hr0
        subst hnil
        clear hpl hr0
        go_wp2_with fail
        go_ret2
        unfold ParseRet
        rw [if_neg h4]
        refine ⟨_, ps, rfl, ?_, HI.out.out, HI.out.below⟩
        rw [← HI.out.eq]; simp [rdOps, rdOpsF]

end Go.Proofs.YtffigmciclopdaaDoor
