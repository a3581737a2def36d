/- ScrJ, ArgsC, ArgsS -/
import Derived.Test.YtbcigelgggimmaaGreatDoorMa12
import Derived.Test.YtbcigelgggimmaaGreatDoorMa8
import Derived.Test.YtbcigelgggimmaaGreatDoorRows
import Derived.Lib.SmallJoins
import Derived.OpenShut
import Derived.ProofKit
import Derived.ChangeSlices
import Derived.LaidMore
import Derived.Stop.Joined
import Derived.Deep.Slices
namespace Go.Proofs.YtbcigelgggimmaaGreatDoor
open Go Go.RowKit
theorem rdPart_len (p : Part) (o : OpV) (rs : List UInt8) : (rdPart p o rs).2.length ≤ rs.length := by cases p <;> simp [rdPart] <;> omega
theorem rdParts_len : ∀ (ps : List Part) (o : OpV) (rs : List UInt8), (rdParts ps o rs).2.length ≤ rs.length
  | [], _, _ => Nat.le_refl _
  | p :: ps, o, rs => Nat.le_trans (rdParts_len ps _ _) (rdPart_len p o rs)
theorem rdHead_len (rs : List UInt8) : (rdHead rs).2.length ≤ rs.length - 1 := by unfold rdHead; split <;> simp <;> omega
theorem rdOp_len (rs : List UInt8) (h : 0 < rs.length) : (rdOp rs).2.length < rs.length := by
  have h1 := rdParts_len (partsOf (rdHead rs).1.kind) (rdHead rs).1 (rdHead rs).2
  have h2 := rdHead_len rs
  have : (rdOp rs).2.length ≤ (rdHead rs).2.length := h1
  omega
theorem rdPart_ticks (p : Part) (o : OpV) (rs : List UInt8) : (rdPart p o rs).1.ticks = o.ticks := by cases p <;> rfl
theorem rdParts_ticks : ∀ (ps : List Part) (o : OpV) (rs : List UInt8), (rdParts ps o rs).1.ticks = o.ticks
  | [], _, _ => rfl
  | p :: ps, o, rs => by rw [rdParts, rdParts_ticks ps, rdPart_ticks]
theorem rdOp_ticks (rs : List UInt8) : 0 ≤ (rdOp rs).1.ticks := by
  unfold rdOp
  rw [rdParts_ticks]
  unfold rdHead
  split
  · show (0 : Int) ≤ 15 + _; omega
  · show (0 : Int) ≤ ((_ : Nat) : Int); omega
def rdOpsF : Nat → List UInt8 → List OpV
  | 0, _ => []
  | _ + 1, [] => []
  | n + 1, b :: rs => (rdOp (b :: rs)).1 :: rdOpsF n (rdOp (b :: rs)).2
/-- The operations of bytes. -/
def rdOps (rs : List UInt8) : List OpV := rdOpsF rs.length rs
theorem rdOpsF_more : ∀ (k n : Nat) (rs : List UInt8), rs.length ≤ n → rdOpsF (n + k) rs = rdOpsF n rs
  | k, 0, rs, h => by
    have : rs = [] := by simpa using h
    subst this
    cases k <;> simp [rdOpsF]
  | k, n + 1, [], _ => by rw [show n + 1 + k = (n + k) + 1 by omega]; rfl
  | k, n + 1, b :: rs, h => by
    rw [show n + 1 + k = (n + k) + 1 by omega]
    have hl := rdOp_len (b :: rs) (by simp)
    simp only [rdOpsF]
    rw [rdOpsF_more k n _ (by omega)]
theorem rdOps_cons (rs : List UInt8) (h : 0 < rs.length) : rdOps rs = (rdOp rs).1 :: rdOps (rdOp rs).2 := by
  cases rs with
  | nil => simp at h
  | cons b rs =>
    have hl := rdOp_len (b :: rs) h
    unfold rdOps
    rw [List.length_cons, rdOpsF]
    congr 1
    have e : rs.length = (rdOp (b :: rs)).2.length + (rs.length - (rdOp (b :: rs)).2.length) := by rw [List.length_cons] at hl; omega
    rw [e]
    exact rdOpsF_more _ _ _ (Nat.le_refl _)
theorem rdOps_nil : rdOps [] = [] := rfl
theorem rdOps_len : ∀ (n : Nat) (rs : List UInt8), rs.length ≤ n → (rdOps rs).length ≤ rs.length
  | 0, rs, h => by
    have : rs = [] := by simpa using h
    subst this
    simp [rdOps, rdOpsF]
  | n + 1, rs, h => by
    by_cases h0 : 0 < rs.length
    · rw [rdOps_cons rs h0, List.length_cons]
      have h1 := rdOp_len rs h0
      have := rdOps_len n (rdOp rs).2 (by omega)
      omega
    · have : rs = [] := by simpa using h0
      subst this
      simp [rdOps, rdOpsF]
theorem op_info : (Tryz.prog.info? 41).map (fun i => (i.zero, i.size, i.bytes)) = some (some (.agg #[.int .i64 0, .int .u64 0, .string ⟨#[]⟩, .slice none 0 0, .int .u64 0, .int .i64 0, .int .i64 0, .int .i64 0, .int .u64 0]), 9, 96) := by kernel_rfl
/-- A row of operations of the call's own. -/
structure OpsOwn (w : World) (base B : Nat) (v : Value) (ps : List (OpV × Value)) : Prop where
  row : w.ownsRow base 41 9 v ps.length (ocs ps)
  vals : ∀ p ∈ ps, Bts w B 5 p.2 p.1.val
  wf : ∀ p ∈ ps, 0 ≤ p.1.ticks
theorem OpsOwn.at_ {w : World} {base B : Nat} {v : Value} {ps : List (OpV × Value)} (h : OpsOwn w base B v ps) : OpsAt w B v ps := OpsAt.of_own h.row h.vals h.wf
theorem OpsOwn.below {w w' : World} {base B : Nat} {v : Value} {ps : List (OpV × Value)} (h : OpsOwn w base B v ps) (hb : Below w.heap.size w w') : OpsOwn w' base B v ps :=
  ⟨own_later h.row hb, fun p hp => (h.vals p hp).below hb, h.wf⟩
theorem OpsOwn.base {w : World} {base base' B : Nat} {v : Value} {ps : List (OpV × Value)} (h : OpsOwn w base B v ps) (hb : base' ≤ base) : OpsOwn w base' B v ps := ⟨ownsRow_base h.row hb, h.vals, h.wf⟩
def ParseRet (B : Nat) (rs : List UInt8) (w : World) (e : Ending) (w' : World) : Prop :=
  if 4096 < rs.length then e = .returned (.tuple #[.slice none 0 0, .int .i64 5]) ∧ Below w.heap.size w w'
  else ∃ v ps, e = .returned (.tuple #[v, .int .i64 0]) ∧ ps.map Prod.fst = rdOps rs ∧ OpsOwn w' w.heap.size B v ps ∧ Below w.heap.size w w'
theorem opcs_one (o : OpV) (A : Option Addr) (n c : Nat) : ∀ u ∈ opcs o (.slice A n c), u.oneCell' = true := by
  intro u hu
  simp only [opcs, List.mem_cons, List.not_mem_nil, or_false] at hu
  rcases hu with rfl | rfl | rfl | rfl | rfl | rfl | rfl | rfl | rfl <;> rfl
def slLen : Value → Nat
  | .slice _ n _ => n
  | _ => 0
structure PaI (w wr : World) (B g : Nat) (v : Value) (ps : List (OpV × Value)) (rs0 rs : List UInt8) : Prop where
  rd : RS wr B g rs
  out : OpsOwn wr w.heap.size B v ps
  eq : ps.map Prod.fst ++ rdOps rs = rdOps rs0
  below : Below w.heap.size w wr
  glt : w.heap.size ≤ g
theorem src_op (w : World) (o : OpV) (V : Value) : Src (w.alloc (.cells (opc o V) 41)) 9 (some ⟨w.heap.size, 0, none⟩) 1 (opcs o V) := by
  refine ⟨rfl, (fun h => by cases h), fun a ha j u hu => ?_⟩
  cases ha
  rw [add_plain, Nat.zero_add]
  have : (opc o V)[j]? = some u := by
    have e : (opc o V) = (opcs o V).toArray := rfl
    rw [e]; simpa using hu
  exact (Blk.new w 41 (opc o V)).cell j u this
theorem PaI.step {w wr W W8 : World} {B g : Nat} {v v8 : Value} {ps : List (OpV × Value)} {rs0 rs : List UInt8} {V : Value} {ob : Obj} (h : PaI w wr B g v ps rs0 rs) (hr : 0 < rs.length) (hB : B ≤ w.heap.size)
    (hV : Bts W B 5 V (rdOp rs).1.val) (hR : RS W B g (rdOp rs).2) (ho : Only (fun k => k = g) wr W)
    (hown : W8.ownsRow w.heap.size 41 9 v8 (ps.length + 1) (ocs ps ++ opcs (rdOp rs).1 V)) (hg : (W.alloc ob).grownBy W8 v.ownBlock) : PaI w W8 B g v8 (ps ++ [((rdOp rs).1, V)]) rs0 (rdOp rs).2 := by
  have hrow : ∀ k, v.ownBlock = some k → w.heap.size ≤ k ∧ ∃ cur, wr.heap[k]? = some (.cells cur 41 (0, 0)) := fun k hk => row_heap h.out.row hk
  have hW : Below w.heap.size w W := h.below.trans (ho.below (fun i hi _ e => by have := h.glt; omega) h.below.size)
  have hA : Only (fun k => v.ownBlock = some k) W W8 := ((Only.refl _ W).alloc ob).trans (Only.of_grown hg) (fun _ _ e => e)
  have hne : ∀ k, v.ownBlock = some k → ∃ cur, W.heap[k]? = some (.cells cur 41 (0, 0)) := fun k hk => by
    obtain ⟨_, cur, hc⟩ := hrow k hk
    refine ⟨cur, (ho.block k (lt_of_heap hc) ?_).trans hc⟩
    intro e
    subst e
    obtain ⟨V2, h1, _⟩ := h.rd
    exact h1.ne_ hc (by decide) rfl
  have hk1 : KeepB B 5 wr W := by
    obtain ⟨V2, h1, _⟩ := h.rd
    exact KeepB.of_blk h1 (by decide) (by have := h.glt; omega) ho
  have hk2 : KeepB B 5 W W8 := KeepB.of_only hA fun k hk e => ⟨by have := (hrow k e).1; omega, fun c fr hc => by
    obtain ⟨cur, h2⟩ := hne k e
    rw [h2] at hc
    injection hc with hc
    injection hc with _ ht
    exact absurd ht (by decide)⟩
  refine ⟨?_, ⟨?_, ?_, ?_⟩, ?_, ?_, h.glt⟩
  · obtain ⟨V2, h1, h2⟩ := hR
    refine ⟨V2, h1.only hA ?_, h2.keep hk2⟩
    intro e
    obtain ⟨cur, h3⟩ := hne g e
    exact h1.ne_ h3 (by decide) rfl
  · rw [List.length_append, List.length_singleton, ocs_append, show ocs [((rdOp rs).1, V)] = opcs (rdOp rs).1 V by simp [ocs]]
    exact hown
  · intro p hp
    rcases List.mem_append.1 hp with hp | hp
    · exact ((h.out.vals p hp).keep hk1).keep hk2
    · have e := List.mem_singleton.1 hp
      subst e
      exact hV.keep hk2
  · intro p hp
    rcases List.mem_append.1 hp with hp | hp
    · exact h.out.wf p hp
    · have e := List.mem_singleton.1 hp
      subst e
      exact rdOp_ticks rs
  · rw [← h.eq, rdOps_cons rs hr]; simp
  · exact hW.trans (hA.below (fun i hi _ e => by have := (hrow i e).1; omega) hW.size)
set_option maxRecDepth 100000 in
set_option maxHeartbeats 4000000 in
theorem parse_any (B : Nat) (V : Value) (rs : List UInt8) (w : World) (hv : Bts w B 5 V rs) (hB : 0 < B) (hs : B ≤ w.heap.size) (hk : KG w) :
    Calls Tryz.prog 46 #[V] w (ParseRet B rs w) := by
  obtain ⟨i0, hi0, hz0, hz1, hz2⟩ := info_parts op_info
  have hmx := hv.le
  unfold maxLen at hmx
  obtain ⟨A, cap, rfl⟩ := hv.form
  have HV := Lib.hid hv
  have HK := Lib.hid hk
  have HBp := Lib.hid hB
  have HS := Lib.hid hs
  clear hv hk hB hs
  by_cases h4 : 4096 < rs.length
  · have h4I : (4096 : Int) < (rs.length : Int) := by omega
    go_enter Tryz.func46, Tryz.ntmps46
    go_wp2_with fail
    go_ret2
    unfold ParseRet
    rw [if_pos h4]
    exact ⟨rfl, Below.refl _ _⟩
  · have h4I : ¬ (4096 : Int) < (rs.length : Int) := by omega
    go_enter Tryz.func46, Tryz.ntmps46
    go_wp2_with fail
    have hN := rdOps_len rs.length rs (Nat.le_refl _)
    have HN := Lib.hid hN
    clear hN
    go_loopw [5] (fun v wr => ∃ ps r, PaI w wr B w.heap.size v ps rs r) (fun v _ => (rdOps rs).length - slLen v)
    case atStart => exact ⟨[], rs, ⟨_, Blk.new _ _ _, HV.out.alloc _⟩, ⟨World.ownsRow_nil _ _ _ _, fun p hp => by simp at hp, fun p hp => by simp at hp⟩, rfl, (Below.refl _ _).alloc (Nat.le_refl _) _, Nat.le_refl _⟩
    case round =>
      obtain ⟨ps, r, hI⟩ := hrel
      have hrd := hI.rd
      obtain ⟨V', hb', hv'⟩ := hrd
      obtain ⟨A', c', rfl⟩ := hv'.form
      have z0 : wr.cell? ⟨w.heap.size, 0, none⟩ = some (.slice A' r.length c') := hb'.cell 0 _ rfl
      have hrow := hI.out.row
      obtain ⟨A5, c5, rfl, _, _⟩ := own_form hrow
      have HI := Lib.hid hI
      have hgl := hb'.lt
      clear hb' hv' hrow hI
      have hpl : ps.length + (rdOps r).length = (rdOps rs).length := by rw [← HI.out.eq, List.length_append, List.length_map]
      by_cases hr0 : 0 < r.length
      · have hr0I : (0 : Int) < (r.length : Int) := by omega
        have hlt : ps.length < (rdOps rs).length := by
          rw [rdOps_cons r hr0, List.length_cons] at hpl
          omega
        have hle : ps.length ≤ 4096 := by have := HN.out; omega
        have HR0 := Lib.hid hr0
        have HLe := Lib.hid hle
        have HLt := Lib.hid hlt
        clear hpl hle hlt hr0
        have HRd := Lib.hid (read_any B w.heap.size r wr HI.out.rd HS.out HBp.out (HK.out.below HI.out.below HK.out.1) (Nat.le_trans HS.out HI.out.below.size))
        go_wp2_with fail
        refine HRd.out.mono ?_
        rintro e w7 ⟨V7, rfl, hv7, hr7, ho7⟩
        obtain ⟨A7, c7, rfl⟩ := hv7.form
        have HV7 := Lib.hid hv7
        have HR7 := Lib.hid hr7
        have HO7 := Lib.hid ho7
        have hrow7 : w7.ownsRow w.heap.size 41 9 (.slice A5 ps.length c5) ps.length (ocs ps) := ownsRow_only HI.out.out.row ho7 (fun k hk e => by
          subst e
          obtain ⟨_, cur, hc⟩ := row_heap HI.out.out.row hk
          obtain ⟨V2, h1, _⟩ := HI.out.rd
          exact h1.ne_ hc (by decide) rfl)
        have HRow7 := Lib.hid hrow7
        have hsz7 := ho7.size
        have HSz7 := Lib.hid hsz7
        have HSrc := Lib.hid (src_op w7 (rdOp r).1 (.slice A7 (rdOp r).1.val.length c7))
        unfold opv
        unfold opc at HSrc ⊢
        clear hv7 hr7 ho7 hrow7 hsz7 z0 HRd
        go_wp2_with (at_builtin; refine wpList_append_src _ rfl _ _ _ rfl w.heap.size 41 i0 _ 9 96 Tryz.underlying22 hi0 hz0 hz1 hz2 rfl (by decide) _ ps.length (ocs ps) rfl (HRow7.out.alloc _) (some ⟨w7.heap.size, 0, none⟩) 1 1 (opcs (rdOp r).1 (.slice A7 (rdOp r).1.val.length c7)) rfl HSrc.out (opcs_one _ _ _ _) (by have := HLe.out; unfold maxLen; omega) (by have := HLe.out; omega) (by have := HI.out.below.size; have := HSz7.out; simp; omega) ?_; intro v8 w8 hown8 hg8 hat8)
        have hst := PaI.step HI.out HR0.out HS.out HV7.out HR7.out HO7.out hown8 hg8
        have HSt := Lib.hid hst
        have hsl : slLen v8 = ps.length + 1 := by
          obtain ⟨A8, c8, e8, _, _⟩ := own_form hown8
          rw [e8]; rfl
        have HSl := Lib.hid hsl
        clear hst hown8 hg8 hat8 hsl
        go_roundw
        case rel => exact ⟨_, _, HSt.out⟩
        case measure => rw [HSl.out]; show _ < (rdOps rs).length - ps.length; have := HLt.out; omega
      · have hr0I : ¬ (0 : Int) < (r.length : Int) := by omega
        have hnil : r = [] := by simpa using hr0
        subst hnil
        clear hpl hr0
        go_wp2_with fail
        go_ret2
        unfold ParseRet
        rw [if_neg h4]
        refine ⟨_, ps, rfl, ?_, HI.out.out, HI.out.below⟩
        rw [← HI.out.eq]; simp [rdOps, rdOpsF]
end Go.Proofs.YtbcigelgggimmaaGreatDoor
namespace Go.Proofs.YtbcigelgggimmaaGreatDoor
open Go Go.RowKit Go.Joins Go.ChangeShapes Go.WideShapes
theorem u8_wf {z : Int} (h : (Lit.int .u8 z).wf = true) : 0 ≤ z ∧ z ≤ 255 := by
  have h1 : IntKind.u8.min = 0 := rfl
  have h2 : IntKind.u8.max = 255 := rfl
  simp [Lit.wf, h1, h2] at h
  omega
/-- Bytes that came in read as a slice of bytes. -/
theorem open_bts {H : Type} {enc : TypeId × Value → H} {P : Program} {w : World} {fuel : Nat} {t e : TypeId} {v : Value} {y : DataW H × List MemPlace} (ht : P.underlying t = some (.slice e)) (he : P.underlying e = some (.int .u8)) (hc : P.cellsOf e = 1)
    (h : DataW.trod enc P w 0 (fun _ => true) true fuel t [v] = some y) (U : Nat) : ∃ bs : List UInt8, Bts w w.heap.size U v bs := by
  rcases open_ints ht he hc h with ⟨hcs, _⟩ | ⟨a, len, cap, zs, hcs, _, hl, hm, hz, _, hcell, hwf⟩
  · injection hcs with hcs _
    subst hcs
    exact ⟨[], Bts.nil _ _ _⟩
  · injection hcs with hcs _
    subst hcs
    simp only [if_true] at hz
    refine ⟨(zs.take len).map (fun z => UInt8.ofNat z.toNat), some a, cap, ?_, ?_, hm, (fun h => by cases h), fun h0 => ?_⟩
    · simp; omega
    · simp; omega
    · simp at h0
      have hc0 := hcell 0 (by omega)
      have ha0 : a.add 0 = a := by simp [Addr.add]
      rw [ha0] at hc0
      obtain ⟨b, off, spot⟩ := a
      have hs : spot = none := by
        cases spot with
        | none => rfl
        | some s =>
          unfold World.cell? at hc0
          split at hc0
          · simp at hc0
          · cases hc0
      subst hs
      have hb := block_lt_of_cell hc0
      refine ⟨b, off, rfl, hb, .inl hb, fun i hi => ?_⟩
      simp at hi
      have hci := hcell i (by omega)
      rw [add_plain] at hci
      rw [hci]
      have hiz : i < zs.length := by omega
      have e1 : zs.getD i 0 = zs[i] := by rw [List.getD_eq_getElem?_getD, List.getElem?_eq_getElem hiz]; rfl
      have hwz := u8_wf (hwf (zs.getD i 0) (by rw [e1]; exact List.getElem_mem _))
      rw [e1] at hwz ⊢
      have e2 : (UInt8.ofNat (zs[i]).toNat).toNat = (zs[i]).toNat := by
        rw [UInt8.toNat_ofNat']
        omega
      simp only [List.getElem_map, List.getElem_take]
      rw [e2, Int.toNat_of_nonneg hwz.1]
end Go.Proofs.YtbcigelgggimmaaGreatDoor
namespace Go.Proofs.YtbcigelgggimmaaGreatDoor
open Go Go.RowKit Go.Joins Go.ChangeShapes Go.WideShapes Go.ChangeAt Go.WideMaps Go.WideElems Go.Deep
theorem array9 {α : Type} {cs : Array α} (h : cs.size = 9) : ∃ c0 c1 c2 c3 c4 c5 c6 c7 c8, cs = #[c0, c1, c2, c3, c4, c5, c6, c7, c8] := by
  obtain ⟨l⟩ := cs
  match l, h with
  | [c0, c1, c2, c3, c4, c5, c6, c7, c8], _ => exact ⟨c0, c1, c2, c3, c4, c5, c6, c7, c8, rfl⟩
theorem fld {H : Type} {enc : TypeId × Value → H} {P : Program} {w : World} {n : Nat} {cs : List Value} {x : Option (DataW H × List MemPlace)} {t : TypeId} {off : Nat} (h : DataW.trod enc P w 0 (fun _ => true) true n t ((cs.drop off).take (P.cellsOf t)) = x) (hc : P.cellsOf t = 1) (c : Value) (he : (cs.drop off).take 1 = [c]) (hx : ∃ y, x = some y) :
    ∃ y, DataW.trod enc P w 0 (fun _ => true) true n t [c] = some y := by
  rw [hc, he] at h
  rw [h]; exact hx
theorem u64_wf {z : Int} (h : (Lit.int .u64 z).wf = true) : 0 ≤ z := by
  have h1 : IntKind.u64.min = 0 := rfl
  simp [Lit.wf, h1] at h
  omega
theorem OpsAt.nil (w : World) (B : Nat) : OpsAt w B (.slice none 0 0) [] := ⟨⟨none, 0, rfl, Nat.le_refl _, Nat.zero_le _, fun _ => rfl, fun h => by simp at h⟩, fun p hp => by simp at hp, fun p hp => by simp at hp⟩
set_option maxRecDepth 100000 in
theorem open_op {H : Type} {enc : TypeId × Value → H} {r : Reach} {b0 : Nat} {w : World} {v : Value} {d : DataW H} {p : List MemPlace} (hv : Value.okWide Tryz.prog w r b0 41 v) (h : DataW.Trod enc Tryz.prog w 0 (fun _ => true) true 41 v d p) :
    ∃ (o : OpV) (u : Value), v = opv o u ∧ o.key.size ≤ maxLen ∧ Bts w w.heap.size 5 u o.val ∧ 0 ≤ o.ticks := by
  obtain ⟨cs, rfl, hsz⟩ := okWide_struct Tryz.underlying41 hv
  obtain ⟨c0, c1, c2, c3, c4, c5, c6, c7, c8, rfl⟩ := array9 (hsz.trans (by kernel_rfl))
  obtain ⟨fuel, hf⟩ := h
  obtain ⟨xs, n, _, _, hl, hlen, hf⟩ := DataW.trod_struct Tryz.underlying41 hf
  obtain ⟨y0, g0⟩ : ∃ y, DataW.trod enc Tryz.prog w 0 (fun _ => true) true n 37 [c0] = some y := fld (hf 0 _ rfl) (by kernel_rfl) c0 rfl ⟨_, List.getElem?_eq_getElem (by rw [hlen]; decide)⟩
  obtain ⟨y1, g1⟩ : ∃ y, DataW.trod enc Tryz.prog w 0 (fun _ => true) true n 38 [c1] = some y := fld (hf 1 _ rfl) (by kernel_rfl) c1 rfl ⟨_, List.getElem?_eq_getElem (by rw [hlen]; decide)⟩
  obtain ⟨y2, g2⟩ : ∃ y, DataW.trod enc Tryz.prog w 0 (fun _ => true) true n 9 [c2] = some y := fld (hf 2 _ rfl) (by kernel_rfl) c2 rfl ⟨_, List.getElem?_eq_getElem (by rw [hlen]; decide)⟩
  obtain ⟨y3, g3⟩ : ∃ y, DataW.trod enc Tryz.prog w 0 (fun _ => true) true n 39 [c3] = some y := fld (hf 3 _ rfl) (by kernel_rfl) c3 rfl ⟨_, List.getElem?_eq_getElem (by rw [hlen]; decide)⟩
  obtain ⟨y4, g4⟩ : ∃ y, DataW.trod enc Tryz.prog w 0 (fun _ => true) true n 38 [c4] = some y := fld (hf 4 _ rfl) (by kernel_rfl) c4 rfl ⟨_, List.getElem?_eq_getElem (by rw [hlen]; decide)⟩
  obtain ⟨y5, g5⟩ : ∃ y, DataW.trod enc Tryz.prog w 0 (fun _ => true) true n 3 [c5] = some y := fld (hf 5 _ rfl) (by kernel_rfl) c5 rfl ⟨_, List.getElem?_eq_getElem (by rw [hlen]; decide)⟩
  obtain ⟨y6, g6⟩ : ∃ y, DataW.trod enc Tryz.prog w 0 (fun _ => true) true n 3 [c6] = some y := fld (hf 6 _ rfl) (by kernel_rfl) c6 rfl ⟨_, List.getElem?_eq_getElem (by rw [hlen]; decide)⟩
  obtain ⟨y7, g7⟩ : ∃ y, DataW.trod enc Tryz.prog w 0 (fun _ => true) true n 3 [c7] = some y := fld (hf 7 _ rfl) (by kernel_rfl) c7 rfl ⟨_, List.getElem?_eq_getElem (by rw [hlen]; decide)⟩
  obtain ⟨y8, g8⟩ : ∃ y, DataW.trod enc Tryz.prog w 0 (fun _ => true) true n 27 [c8] = some y := fld (hf 8 _ rfl) (by kernel_rfl) c8 rfl ⟨_, List.getElem?_eq_getElem (by rw [hlen]; decide)⟩
  obtain ⟨k0, e0, _, _⟩ := DataW.trod_int Tryz.underlying37 g0
  obtain ⟨k1, e1, _, h1⟩ := DataW.trod_int Tryz.underlying38 g1
  obtain ⟨k2, e2, _, h2⟩ := DataW.trod_string Tryz.underlying9 g2
  obtain ⟨bs, hb⟩ := open_bts Tryz.underlying39 Tryz.underlying5 (by kernel_rfl) g3 5
  obtain ⟨k4, e4, _, _⟩ := DataW.trod_int Tryz.underlying38 g4
  obtain ⟨k5, e5, _, _⟩ := DataW.trod_int Tryz.underlying3 g5
  obtain ⟨k6, e6, _, _⟩ := DataW.trod_int Tryz.underlying3 g6
  obtain ⟨k7, e7, _, _⟩ := DataW.trod_int Tryz.underlying3 g7
  obtain ⟨k8, e8, _, _⟩ := DataW.trod_int Tryz.underlying27 g8
  injection e0 with e0 _
  injection e1 with e1 _
  injection e2 with e2 _
  injection e4 with e4 _
  injection e5 with e5 _
  injection e6 with e6 _
  injection e7 with e7 _
  injection e8 with e8 _
  subst e0 e1 e2 e4 e5 e6 e7 e8
  exact ⟨⟨k0, k1, k2, bs, k4, k5, k6, k7, k8⟩, c3, rfl, h2, hb, u64_wf h1⟩
theorem open_btsR {H : Type} {enc : TypeId × Value → H} {w : World} {v : Value} {d : DataW H} {p : List MemPlace} (hv : ∃ A l c, v = .slice A l c) (h : DataW.Trod enc Tryz.prog w 0 (fun _ => true) true 39 v d p) : ∃ bs : List UInt8, Bts w w.heap.size 5 v bs := by
  obtain ⟨A, l, c, rfl⟩ := hv
  obtain ⟨m, hm⟩ := h
  exact open_bts Tryz.underlying39 Tryz.underlying5 (by kernel_rfl) (by simpa [Value.cells] using hm) 5
set_option maxRecDepth 100000 in
theorem open_op_cells {H : Type} {enc : TypeId × Value → H} {w : World} {n : Nat} {cs : List Value} {y : DataW H × List MemPlace} (hl : cs.length = 9) (h : DataW.trod enc Tryz.prog w 0 (fun _ => true) true n 41 cs = some y) :
    ∃ (o : OpV) (u : Value), cs = opcs o u ∧ o.key.size ≤ maxLen ∧ Bts w w.heap.size 5 u o.val ∧ 0 ≤ o.ticks := by
  match cs, hl with
  | [c0, c1, c2, c3, c4, c5, c6, c7, c8], _ =>
    obtain ⟨xs, n, _, _, hl, hlen, hf⟩ := DataW.trod_struct Tryz.underlying41 h
    obtain ⟨y0, g0⟩ : ∃ y, DataW.trod enc Tryz.prog w 0 (fun _ => true) true n 37 [c0] = some y := fld (hf 0 _ rfl) (by kernel_rfl) c0 rfl ⟨_, List.getElem?_eq_getElem (by rw [hlen]; decide)⟩
    obtain ⟨y1, g1⟩ : ∃ y, DataW.trod enc Tryz.prog w 0 (fun _ => true) true n 38 [c1] = some y := fld (hf 1 _ rfl) (by kernel_rfl) c1 rfl ⟨_, List.getElem?_eq_getElem (by rw [hlen]; decide)⟩
    obtain ⟨y2, g2⟩ : ∃ y, DataW.trod enc Tryz.prog w 0 (fun _ => true) true n 9 [c2] = some y := fld (hf 2 _ rfl) (by kernel_rfl) c2 rfl ⟨_, List.getElem?_eq_getElem (by rw [hlen]; decide)⟩
    obtain ⟨y3, g3⟩ : ∃ y, DataW.trod enc Tryz.prog w 0 (fun _ => true) true n 39 [c3] = some y := fld (hf 3 _ rfl) (by kernel_rfl) c3 rfl ⟨_, List.getElem?_eq_getElem (by rw [hlen]; decide)⟩
    obtain ⟨y4, g4⟩ : ∃ y, DataW.trod enc Tryz.prog w 0 (fun _ => true) true n 38 [c4] = some y := fld (hf 4 _ rfl) (by kernel_rfl) c4 rfl ⟨_, List.getElem?_eq_getElem (by rw [hlen]; decide)⟩
    obtain ⟨y5, g5⟩ : ∃ y, DataW.trod enc Tryz.prog w 0 (fun _ => true) true n 3 [c5] = some y := fld (hf 5 _ rfl) (by kernel_rfl) c5 rfl ⟨_, List.getElem?_eq_getElem (by rw [hlen]; decide)⟩
    obtain ⟨y6, g6⟩ : ∃ y, DataW.trod enc Tryz.prog w 0 (fun _ => true) true n 3 [c6] = some y := fld (hf 6 _ rfl) (by kernel_rfl) c6 rfl ⟨_, List.getElem?_eq_getElem (by rw [hlen]; decide)⟩
    obtain ⟨y7, g7⟩ : ∃ y, DataW.trod enc Tryz.prog w 0 (fun _ => true) true n 3 [c7] = some y := fld (hf 7 _ rfl) (by kernel_rfl) c7 rfl ⟨_, List.getElem?_eq_getElem (by rw [hlen]; decide)⟩
    obtain ⟨y8, g8⟩ : ∃ y, DataW.trod enc Tryz.prog w 0 (fun _ => true) true n 27 [c8] = some y := fld (hf 8 _ rfl) (by kernel_rfl) c8 rfl ⟨_, List.getElem?_eq_getElem (by rw [hlen]; decide)⟩
    obtain ⟨k0, e0, _, _⟩ := DataW.trod_int Tryz.underlying37 g0
    obtain ⟨k1, e1, _, h1⟩ := DataW.trod_int Tryz.underlying38 g1
    obtain ⟨k2, e2, _, h2⟩ := DataW.trod_string Tryz.underlying9 g2
    obtain ⟨bs, hb⟩ := open_bts Tryz.underlying39 Tryz.underlying5 (by kernel_rfl) g3 5
    obtain ⟨k4, e4, _, _⟩ := DataW.trod_int Tryz.underlying38 g4
    obtain ⟨k5, e5, _, _⟩ := DataW.trod_int Tryz.underlying3 g5
    obtain ⟨k6, e6, _, _⟩ := DataW.trod_int Tryz.underlying3 g6
    obtain ⟨k7, e7, _, _⟩ := DataW.trod_int Tryz.underlying3 g7
    obtain ⟨k8, e8, _, _⟩ := DataW.trod_int Tryz.underlying27 g8
    injection e0 with e0 _
    injection e1 with e1 _
    injection e2 with e2 _
    injection e4 with e4 _
    injection e5 with e5 _
    injection e6 with e6 _
    injection e7 with e7 _
    injection e8 with e8 _
    subst e0 e1 e2 e4 e5 e6 e7 e8
    exact ⟨⟨k0, k1, k2, bs, k4, k5, k6, k7, k8⟩, c3, rfl, h2, hb, u64_wf h1⟩
theorem list_choose {α : Type} {p : Nat → α → Prop} : ∀ n, (∀ i, i < n → ∃ a, p i a) → ∃ l : List α, l.length = n ∧ ∀ i (h : i < l.length), p i l[i]
  | 0, _ => ⟨[], rfl, fun i h => by simp at h⟩
  | n + 1, h => by
    obtain ⟨l, hl, hp⟩ := list_choose n (fun i hi => h i (by omega))
    obtain ⟨a, ha⟩ := h n (by omega)
    refine ⟨l ++ [a], by simp [hl], fun i hi => ?_⟩
    rcases Nat.lt_or_ge i l.length with h1 | h1
    · rw [List.getElem_append_left h1]; exact hp i h1
    · have : i = l.length := by simp at hi; omega
      subst this
      rw [List.getElem_append_right (Nat.le_refl _)]
      simpa [hl] using ha
/-- A slice of operations that came in. -/
theorem open_ops {H : Type} {enc : TypeId × Value → H} {w : World} {v : Value} {d : DataW H} {p : List MemPlace} (hv : ∃ A l c, v = .slice A l c) (h : DataW.Trod enc Tryz.prog w 0 (fun _ => true) true 22 v d p) :
    ∃ ps : List (OpV × Value), OpsAt w w.heap.size v ps ∧ ∀ q ∈ ps, q.1.key.size ≤ maxLen := by
  obtain ⟨A, l, c, rfl⟩ := hv
  obtain ⟨fuel, hf⟩ := h
  have c9 : Tryz.prog.cellsOf 41 = 9 := by kernel_rfl
  rcases open_slice Tryz.underlying22 hf with ⟨hcs, _⟩ | ⟨a, len, cap, m, n, D, Pl, hcs, _, hl, hm, hmm, _, hi⟩
  · simp [Value.cells] at hcs
    obtain ⟨rfl, rfl, rfl⟩ := hcs
    exact ⟨[], OpsAt.nil _ _, by simp⟩
  · simp [Value.cells] at hcs
    obtain ⟨rfl, rfl, rfl⟩ := hcs
    simp only [if_true] at hmm
    rw [c9] at hi
    obtain ⟨ls, hlen, has⟩ := list_choose (p := fun i (x : OpV × Value) => (∀ j, j < 9 → w.cell? ((a.add (i * 9)).add j) = (opcs x.1 x.2)[j]?) ∧ x.1.key.size ≤ maxLen ∧ Bts w w.heap.size 5 x.2 x.1.val ∧ 0 ≤ x.1.ticks) l (fun i hil => by
      obtain ⟨cs', hc, ht⟩ := hi i (by omega)
      obtain ⟨_, hcl, hat⟩ := World.cells?_some hc
      obtain ⟨o, u, rfl, hx⟩ := open_op_cells hcl ht
      exact ⟨(o, u), hat, hx⟩)
    refine ⟨ls, ⟨⟨some a, c, by rw [hlen], by omega, hm, (fun h => by cases h), fun h0 => ?_⟩, fun x hx => ?_, fun x hx => ?_⟩, fun x hx => ?_⟩
    · have h1 := (has 0 h0).1 0 (by omega)
      rw [Nat.zero_mul] at h1
      have ha0 : a.add 0 = a := by simp [Addr.add]
      rw [ha0, ha0] at h1
      obtain ⟨b, off, spot⟩ := a
      have h1' : w.cell? ⟨b, off, spot⟩ = some (.int .i64 ls[0].1.kind) := h1
      have hs : spot = none := by
        cases spot with
        | none => rfl
        | some s =>
          unfold World.cell? at h1'
          split at h1'
          · simp at h1'
          · cases h1'
      subst hs
      refine ⟨b, off, rfl, block_lt_of_cell h1', fun i x hix j u hj => ?_⟩
      obtain ⟨hil, rfl⟩ := List.getElem?_eq_some_iff.1 hix
      have hj9 : j < 9 := by
        have := (List.getElem?_eq_some_iff.1 hj).1
        simpa [opcs] using this
      have := (has i hil).1 j hj9
      rw [add_plain, add_plain, hj] at this
      rw [← Nat.add_assoc]; exact this
    · obtain ⟨i, hi, rfl⟩ := List.getElem_of_mem hx
      exact (has i hi).2.2.1
    · obtain ⟨i, hi, rfl⟩ := List.getElem_of_mem hx
      exact (has i hi).2.2.2
    · obtain ⟨i, hi, rfl⟩ := List.getElem_of_mem hx
      exact (has i hi).2.1
end Go.Proofs.YtbcigelgggimmaaGreatDoor
