/- WrB, WrC, RfE, RfF, RfD, WrD, SymCB -/
import Derived.Test.YtbcigelgggimmaaGreatDoorMw9
import Derived.Test.YtbcigelgggimmaaGreatDoorMw10
import Derived.Test.YtbcigelgggimmaaGreatDoorMw8
import Derived.Deep.DeepCutAuto
import Derived.Deep.Cut
import Derived.Test.YtbcigelgggimmaaGreatDoorMw5
namespace Go.Proofs.YtbcigelgggimmaaGreatDoor
open Go Go.RowKit
/-- An append of a string within a drawn region. -/
theorem step_append_str {P : Program} {ops : Array Oper} {o : Oper} {a : Act} {w : World} {K : Act → World → Prop} {Q : Exit → Act → World → Prop} {E : Prop} (hgd : o.guard = none) (sl x : Operand) (t u : TypeId)
    (ho : o.op = .call { callee := .builtin .append, args := #[sl, x], argTypes := #[t, u] })
    (base : Nat) (e : TypeId) (i : TypeInfo) (ht : P.underlying t = some (.slice e)) (hu : P.underlying u = some .string) (hi : P.info? e = some i) (hz : i.zero = some (.int .u8 0))
    (hsize : i.size = 1) (hby : i.bytes = 1)
    (v : Value) (n : Nat) (xs : List Value) (hs : a.eval sl = v) (hown : w.ownsRow base e 1 v n xs) (s : ByteArray) (hx : a.eval x = .string s)
    (h63 : n + s.size ≤ maxLen) (hbytes : n + s.size ≤ 140737488355328) (hbase : base ≤ w.heap.size)
    (h : ∀ v' w', w'.ownsRow base e 1 v' (n + s.size) (xs ++ Lib.strCells s) → w.grownBy w' v.ownBlock → K (a.put o.dst v') w') :
    if Region.wanted o (yielded ops a.tmps) = true then Oper.wp P o a w K Q else E := by
  have hw : Region.wanted o (yielded ops a.tmps) = true := by simp [Region.wanted, hgd]
  rw [if_pos hw]
  obtain ⟨v', w', hr, h2, h3, h4⟩ := Lib.run_append_own_string (P := P) (w := w) base t u o.type e i ht hu hi hz hsize hby v n xs hown s h63 hbytes hbase
  unfold Oper.wp execOp
  simp only [ho, resolve, invoke, builtin, Sem.run_bind, Sem.run_pure, Result.andThen_ok, List.map_toArray, List.map_cons, List.map_nil, hs, hx, hr]
  exact h v' w' h2 h3
/-- A number's lowest bytes, the highest one first. -/
def loB (n : Nat) : Nat → List UInt8
  | 0 => []
  | j + 1 => byteI ((n / 256 ^ j : Nat) : Int) :: loB n j
theorem loB_length (n : Nat) : ∀ j, (loB n j).length = j
  | 0 => rfl
  | j + 1 => by rw [loB, List.length_cons, loB_length n j]
theorem loB2 (n : Nat) : loB n 2 = big2 (n : Int) := by
  have e : ((n / 256 ^ 1 : Nat) : Int) = (n : Int) / 256 := by rw [Nat.pow_one]; omega
  have e0 : ((n / 256 ^ 0 : Nat) : Int) = (n : Int) := by rw [Nat.pow_zero, Nat.div_one]
  simp only [loB, big2, e, e0]
theorem loB3 (n : Nat) : loB n 3 = big3 (n : Int) := by
  have e2 : ((n / 256 ^ 2 : Nat) : Int) = (n : Int) / 65536 := by rw [show (256 : Nat) ^ 2 = 65536 from rfl]; omega
  have e : ((n / 256 ^ 1 : Nat) : Int) = (n : Int) / 256 := by rw [Nat.pow_one]; omega
  have e0 : ((n / 256 ^ 0 : Nat) : Int) = (n : Int) := by rw [Nat.pow_zero, Nat.div_one]
  simp only [loB, big3, e, e0, e2]
structure BgI (w wr : World) (v : Value) (bs : List UInt8) : Prop where
  row : wr.ownsRow w.heap.size 5 1 v bs.length (bcells bs)
  below : Below w.heap.size w wr
theorem BgI.step {w wr W8 : World} {v v8 : Value} {bs : List UInt8} {b : UInt8} {ob : Obj} {m : Nat} (h : BgI w wr v bs) (hm : 1 + bs.length = m) (hown : W8.ownsRow wr.heap.size 5 1 v8 m (bcells (b :: bs))) (hg : (wr.alloc ob).grownBy W8 (some wr.heap.size)) : BgI w W8 v8 (b :: bs) := by
  have hs := h.below.size
  refine ⟨?_, (h.below.alloc hs ob).grown hg (by simp; omega) (by intro k hk; cases hk; exact hs)⟩
  rw [List.length_cons, Nat.add_comm, hm]
  exact ownsRow_base hown hs
set_option maxRecDepth 100000 in
set_option maxHeartbeats 4000000 in
theorem refBig_any (n k : Nat) (w : World) (hn : n ≤ 9223372036854775807) (hk : k ≤ 8) :
    Calls Tryz.prog 54 #[.int .i64 n, .int .i64 k] w (OwnRet (loB n k) w) := by
  obtain ⟨i0, hi0, hz0, hz1, hz2⟩ := info_parts u8_info
  have HN := Lib.hid hn
  have hkI : (k : Int) ≤ 8 := by omega
  have HK := Lib.hid hk
  clear hn hk
  go_enter Tryz.func54, Tryz.ntmps54
  go_wp2_with fail
  go_loopw [0, 5, 6] (fun n' v i wr => ∃ (j m : Nat), j ≤ k ∧ i = .int .i64 j ∧ n' = .int .i64 m ∧ m = n / 256 ^ j ∧ BgI w wr v (loB n j)) (fun _ _ i _ => k - (intOf i).toNat)
  case atStart => exact ⟨0, n, Nat.zero_le _, rfl, rfl, by rw [Nat.pow_zero, Nat.div_one], World.ownsRow_nil _ _ _ _, Below.refl _ _⟩
  case round =>
    obtain ⟨j, m, hj, rfl, rfl, hm, hI⟩ := hrel
    have HM := Lib.hid hm
    have HI := Lib.hid hI
    obtain ⟨l, hl⟩ : ∃ l, loB n j = l := ⟨_, rfl⟩
    have hll : l.length = j := by rw [← hl, loB_length]
    rw [hl] at HI
    have HL := Lib.hid hl
    have HLl := Lib.hid hll
    have hmI : (m : Int) ≤ 9223372036854775807 := by
      have h1 : m ≤ n := by rw [hm]; exact Nat.div_le_self _ _
      have := HN.out
      omega
    have hrow := HI.out.row
    obtain ⟨A9, c9, rfl, _, _⟩ := own_form hrow
    have HRow : Hid (wr.ownsRow w.heap.size 5 1 (.slice A9 l.length c9) l.length (bcells l)) := Lib.hid hrow
    clear hm hI hl hll hrow
    by_cases h : j < k
    · have hjI : (j : Int) < (k : Int) := by omega
      have hm0 : (0 : Int) ≤ (m : Int) := by omega
      go_wp2_with (at_builtin; refine wpList_append_src _ rfl _ _ _ rfl wr.heap.size 5 i0 _ 1 1 Tryz.underlying39 hi0 hz0 hz1 hz2 rfl (by decide) _ 1 [.int .u8 ((m : Int) % 256)] rfl (own_one wr _ _) A9 l.length c9 (bcells l) rfl (Bts.of_own (own_later HRow.out ((Below.refl _ _).alloc (Nat.le_refl _) _)) 0).src_at.2 (bcells_one _) (by have := HLl.out; have := HK.out; unfold maxLen; omega) (by have := HLl.out; have := HK.out; omega) (by simp) ?_; intro v8 w8 hown8 hg8 hat8)
      have hst : BgI w w8 v8 (loB n (j + 1)) := by
        rw [loB, HL.out]
        refine HI.out.step rfl ?_ hg8
        rw [byteI_cell] at hown8
        rw [← HM.out]
        exact hown8
      have HSt := Lib.hid hst
      clear hst hown8 hg8 hat8
      go_roundw
      case rel => exact ⟨j + 1, m / 256, by omega, by go_num, by go_num, by rw [HM.out, Nat.pow_succ, Nat.div_div_eq_div_mul], HSt.out⟩
      case measure => simp [intOf]; omega
    · obtain rfl : j = k := by omega
      go_wp2_with fail
      go_ret
      refine ⟨_, rfl, ?_, HI.out.below⟩
      rw [HL.out]
      exact HRow.out
/-- The least place of a kind from 13 - r on. -/
def cfP (k : Int) : Nat → Int
  | 0 => -1
  | r + 1 => if kindL.getD (13 - r) 0 = k then ((13 - r : Nat) : Int) else cfP k r
theorem cfP_14 (k : Int) : cfP k 14 = codeI k := by
  unfold codeI Lib.idxOf
  simp only [cfP, kindL, Lib.idxFrom]
  simp
  repeat' split
  all_goals first | rfl | omega
theorem kind_in (k : Int) (h : ¬ codeI k < 0) : k ∈ kindL := by
  have h1 : 0 ≤ Lib.idxOf kindL k := by unfold codeI at h; omega
  rw [Lib.idxOf_nonneg_iff] at h1
  simpa using h1
end Go.Proofs.YtbcigelgggimmaaGreatDoor
namespace Go.Proofs.YtbcigelgggimmaaGreatDoor
open Go Go.RowKit
/-- What is held may be more than is asked for. -/
theorem wpAnyH_wk {P : Program} {md : Region.Mode} {ops : Array Oper} {Q : Exit → Act → World → Prop} {S S2 : World → Prop} (hs : ∀ w, S2 w → S w) :
    ∀ (fuel : Nat) (listed : Array Bool) (a : Act) (w : World), wpAnyH P md ops Q S2 fuel listed a w → wpAnyH P md ops Q S fuel listed a w
  | 0, _, _, _, h => h
  | fuel + 1, _, _, _, h => ⟨h.1, fun i hi => wpOp_mono (fun a' w' h' => ⟨hs _ h'.1, wpAnyH_wk hs fuel _ a' w' h'.2⟩) (h.2 i hi)⟩
def sKey (o : OpV) (bs : List UInt8) : List UInt8 := if keyedP o.kind then bs ++ wrPart .key o else bs
def sVal (o : OpV) (bs : List UInt8) : List UInt8 := if valuedP o.kind then bs ++ wrPart .value o else bs
def sTtl (o : OpV) (bs : List UInt8) : List UInt8 := if timedP o.kind then bs ++ wrPart .ttl o else bs
def sBud (o : OpV) (bs : List UInt8) : List UInt8 := if o.kind == 8 then bs ++ wrPart .budgets (max0 o) else bs
def sAim (o : OpV) (bs : List UInt8) : List UInt8 := if aimedP o.kind then bs ++ wrPart .aim o else bs
def sBirth (o : OpV) (bs : List UInt8) : List UInt8 := if o.kind == 13 then bs ++ wrPart .birth o else bs
def hdP (o : OpV) : List UInt8 := byteI (codeI o.kind + 16 * min o.ticks 15) :: (if 15 ≤ o.ticks then [byteI (o.ticks - 15)] else [])
theorem stages (o : OpV) (hk : o.kind ∈ kindL) (bs : List UInt8) : sBirth o (sAim o (sBud o (sTtl o (sVal o (sKey o bs))))) = bs ++ (partsOf o.kind).flatMap fun p => wrPart p (max0 o) := by
  obtain ⟨k, t, key, val, ttl, c, y, cu, bi⟩ := o
  simp only [kindL, List.mem_cons, List.not_mem_nil, or_false] at hk
  rcases hk with rfl | rfl | rfl | rfl | rfl | rfl | rfl | rfl | rfl | rfl | rfl | rfl | rfl | rfl | rfl | rfl <;>
    simp [sBirth, sAim, sBud, sTtl, sVal, sKey, keyedP, valuedP, timedP, aimedP, partsOf, wrPart, max0]
theorem stages_raw (o : OpV) (hk : ¬ codeI o.kind < 0) : sBirth o (sAim o (sBud o (sTtl o (sVal o (sKey o (hdP o)))))) = wrRaw (codeI o.kind) (max0 o) := by
  rw [stages o (kind_in _ hk)]; rfl
theorem hdP_len (o : OpV) : (hdP o).length ≤ 2 := by unfold hdP; split <;> simp
theorem sKey_len (o : OpV) (bs : List UInt8) (h : o.key.size ≤ 31) : (sKey o bs).length ≤ bs.length + 32 := by
  unfold sKey
  have hs : o.key.data.toList.length = o.key.size := Array.length_toList
  split
  · rw [List.length_append, wrPart, List.length_cons, hs]; omega
  · omega
theorem sVal_len (o : OpV) (bs : List UInt8) (h : o.val.length ≤ 255) : (sVal o bs).length ≤ bs.length + 256 := by
  unfold sVal
  split
  · rw [List.length_append, wrPart, List.length_cons]; omega
  · omega
theorem sTtl_len (o : OpV) (bs : List UInt8) : (sTtl o bs).length ≤ bs.length + 2 := by unfold sTtl; split <;> simp [wrPart, big2]
theorem sBud_len (o : OpV) (bs : List UInt8) : (sBud o bs).length ≤ bs.length + 5 := by unfold sBud; split <;> simp [wrPart, big2, big3]
theorem sAim_len (o : OpV) (bs : List UInt8) : (sAim o bs).length ≤ bs.length + 1 := by unfold sAim; split <;> simp [wrPart]
/-- The numbers of an operation are as Go's are. -/
structure OpWf (o : OpV) : Prop where
  ticks : 0 ≤ o.ticks
  ttl : 0 ≤ o.ttl
  birth : 0 ≤ o.birth
  count : o.count ≤ 9223372036854775807
  bytes : o.bytes ≤ 9223372036854775807
/-- The bytes so far. -/
structure BwS (w W : World) (B : Nat) (o : OpV) (V v : Value) (bs : List UInt8) : Prop where
  inv : WrI w W B o V
  row : W.ownsRow (w.heap.size + 1) 5 1 v bs.length (bcells bs)
theorem BwS.add {w W W' : World} {B : Nat} {o : OpV} {V v v' : Value} {bs cs : List UInt8} {n : Nat} (h : WrI w W B o V) (hr : W.ownsRow (w.heap.size + 1) 5 1 v bs.length (bcells bs)) (hg : W.grownBy W' v.ownBlock) (hv : Bts w B 5 V o.val) (ho : W'.ownsRow (w.heap.size + 1) 5 1 v' n (bcells bs ++ bcells cs)) (hn : n = bs.length + cs.length) : BwS w W' B o V v' (bs ++ cs) := by
  refine ⟨h.grown hr hg hv, ?_⟩
  rw [List.length_append, show bcells (bs ++ cs) = bcells bs ++ bcells cs by simp [bcells], ← hn]
  exact ho
theorem big_mod (x : Int) (h : 0 ≤ x) : big2 (x % 65536) = big2 (wrap64 x) := by
  unfold big2
  have e1 : byteI (x % 65536 / 256) = byteI (wrap64 x / 256) := by
    unfold byteI wrap64
    congr 1
    omega
  have e2 : byteI (x % 65536) = byteI (wrap64 x) := by
    unfold byteI wrap64
    congr 1
    omega
  rw [e1, e2]
theorem refBig2 (n : Nat) (w : World) (hn : n ≤ 9223372036854775807) : Calls Tryz.prog 54 #[.int .i64 n, .int .i64 2] w (OwnRet (big2 n) w) := by
  have := refBig_any n 2 w hn (by omega)
  rwa [loB2] at this
theorem refBig3 (n : Nat) (w : World) (hn : n ≤ 9223372036854775807) : Calls Tryz.prog 54 #[.int .i64 n, .int .i64 3] w (OwnRet (big3 n) w) := by
  have := refBig_any n 3 w hn (by omega)
  rwa [loB3] at this
/-- Bytes hands back the bytes of an operation. -/
def BytesRet (o : OpV) (w : World) (e : Ending) (w' : World) : Prop := OwnRet (bytesP o) w e w'
theorem BytesRet.bad {o : OpV} {w w' : World} (h : badP o) (hb : Below w.heap.size w w') : BytesRet o w (.returned (.slice none 0 0)) w' := by
  unfold BytesRet bytesP
  rw [if_pos h]
  exact ⟨_, rfl, World.ownsRow_nil _ _ _ _, hb⟩
theorem src_oneW (w : World) (x : Int) : Src (w.alloc (.cells #[.int .u8 (IntKind.u8.wrap x)] 5)) 1 (some ⟨w.heap.size, 0, none⟩) 1 (bcells [byteI x]) := by
  have e : IntKind.u8.wrap x = x % 256 := IntKind.wrap_u8 x
  rw [e]
  exact src_one w x
theorem byteI_val (x : Int) (h : 0 ≤ x) (h2 : x < 256) : (((byteI x).toNat : Nat) : Int) = x := by rw [byteI_toNat]; omega
theorem BwS.head1 {w Wl : World} {B : Nat} {o : OpV} {V : Value} {x : Int} (h : WrI w Wl B o V) (h15 : ¬ 15 ≤ o.ticks) (h0 : 0 ≤ codeI o.kind ∧ codeI o.kind ≤ 13) (hx : x = 16 * o.ticks % 256 + codeI o.kind) (ht : 0 ≤ o.ticks) :
    BwS w (Wl.alloc (.cells #[.int .u8 x] 5)) B o V (.slice (some ⟨Wl.heap.size, 0, none⟩) 1 1) (hdP o) := by
  refine ⟨h.adv ((Below.refl _ _).alloc (Nat.le_refl _) _), ?_⟩
  have hb := ownsRow_base (own_one Wl 5 (.int .u8 x)) (show w.heap.size + 1 ≤ Wl.heap.size from h.box.lt)
  have e : x = ((byteI (codeI o.kind + 16 * min o.ticks 15)).toNat : Int) := by rw [byteI_val _ (by omega) (by omega)]; omega
  unfold hdP
  rw [if_neg h15]
  rw [e] at hb ⊢
  exact hb
theorem BwS.head2 {w Wl : World} {B : Nat} {o : OpV} {V : Value} {x y : Int} (h : WrI w Wl B o V) (h15 : 15 ≤ o.ticks) (h0 : 0 ≤ codeI o.kind ∧ codeI o.kind ≤ 13) (hx : x = 240 + codeI o.kind) (hy : y = o.ticks - 15 ∧ o.ticks ≤ 270) :
    BwS w (Wl.alloc (.cells #[.int .u8 x, .int .u8 y] 5)) B o V (.slice (some ⟨Wl.heap.size, 0, none⟩) 2 2) (hdP o) := by
  refine ⟨h.adv ((Below.refl _ _).alloc (Nat.le_refl _) _), ?_⟩
  have hl : (Wl.alloc (.cells #[.int .u8 x, .int .u8 y] 5)).ownsRow Wl.heap.size 5 1 (.slice (some ⟨Wl.heap.size, 0, none⟩) 2 2) 2 [.int .u8 x, .int .u8 y] := World.ownsRow_lit Wl #[.int .u8 x, .int .u8 y] 2 (Nat.le_refl _) (by unfold maxLen; omega) (by simp)
  have hb := ownsRow_base hl (show w.heap.size + 1 ≤ Wl.heap.size from h.box.lt)
  have e : x = ((byteI (codeI o.kind + 16 * min o.ticks 15)).toNat : Int) := by rw [byteI_val _ (by omega) (by omega)]; omega
  have e2 : y = ((byteI (o.ticks - 15)).toNat : Int) := by rw [byteI_val _ (by omega) (by omega)]; omega
  unfold hdP
  rw [if_pos h15]
  rw [e, e2] at hb ⊢
  exact hb
theorem BwS.head2b {w Wl : World} {B : Nat} {o : OpV} {V : Value} {x y : Int} (h : WrI w Wl B o V) (ob : Obj) (h15 : 15 ≤ o.ticks) (h0 : 0 ≤ codeI o.kind ∧ codeI o.kind ≤ 13) (hx : x = 240 + codeI o.kind) (hy : y = o.ticks - 15 ∧ o.ticks ≤ 270) :
    BwS w ((Wl.alloc ob).alloc (.cells #[.int .u8 x, .int .u8 y] 5)) B o V (.slice (some ⟨Wl.heap.size + 1, 0, none⟩) 2 2) (hdP o) := by
  have := BwS.head2 (h.adv ((Below.refl _ _).alloc (Nat.le_refl _) ob)) h15 h0 hx hy
  rwa [World.size_alloc] at this
set_option maxRecDepth 100000 in
set_option maxHeartbeats 8000000 in
theorem refBytes_any (B : Nat) (o : OpV) (V : Value) (w : World) (hv : Bts w B 5 V o.val) (hk : KG w) (hwf : OpWf o) :
    Calls Tryz.prog 16 #[opv o V] w (BytesRet o w) := by
  obtain ⟨i0, hi0, hz0, hz1, hz2⟩ := info_parts u8_info
  have hvl := hv.le
  unfold maxLen at hvl
  obtain ⟨VA, vc, rfl⟩ := hv.form
  have HV0 := Lib.hid hv
  have HWf := Lib.hid hwf
  unfold opv opc
  obtain ⟨w0, hw0⟩ : ∃ w0, w.alloc (.cells #[.int .i64 o.kind, .int .u64 o.ticks, .string o.key, .slice VA o.val.length vc, .int .u64 o.ttl, .int .i64 o.count, .int .i64 o.bytes, .int .i64 o.cursor, .int .u64 o.birth] 41) = w0 := ⟨_, rfl⟩
  have hbe : Below w.heap.size w w0 := hw0 ▸ (Below.refl _ _).alloc (Nat.le_refl _) _
  have HI0 : Hid (WrI w w0 B o (.slice VA o.val.length vc)) := Lib.hid ⟨hw0 ▸ Blk.new _ _ _, hv.below hbe, hk.below hbe hk.1, hbe⟩
  clear hv hk hwf hbe
  go_enter Tryz.func16, Tryz.ntmps16
  go_upto_region 1 with fail
  try rw [hw0]
  clear hw0
  go_wp2_with fail
  go_loopw [3, 4] (fun c i wr => ∃ q : Nat, q ≤ 14 ∧ i = .int .i64 ((q : Int) - 1) ∧ c = .int .i64 (cfP o.kind (14 - q)) ∧ WrI w wr B o (.slice VA o.val.length vc)) (fun _ i _ => (intOf i + 1).toNat)
  case atStart => exact ⟨14, by omega, rfl, rfl, HI0.out⟩
  case round =>
    obtain ⟨q, hq, rfl, rfl, hI⟩ := hrel
    have HI := Lib.hid hI
    clear hI HI0
    cases q with
    | succ p =>
      have e1 : (((p + 1 : Nat) : Int) - 1) = (p : Int) := by omega
      rw [e1]
      have hp0 : (0 : Int) ≤ (p : Int) := by omega
      have hp13 : (p : Int) ≤ 13 := by omega
      have hp16 : (p : Int) < 16 := by omega
      obtain ⟨cc, hcc⟩ : ∃ cc, cfP o.kind (14 - (p + 1)) = cc := ⟨_, rfl⟩
      rw [hcc]
      obtain ⟨kk, hkk⟩ : ∃ kk, kindL.getD p 0 = kk := ⟨_, rfl⟩
      have HCc : Hid (cfP o.kind (14 - p) = if kk = o.kind then (p : Int) else cc) := Lib.hid (by
        rw [← hcc, ← hkk, show 14 - p = (13 - p) + 1 by omega, cfP, show 13 - (13 - p) = p by omega, show 14 - (p + 1) = 13 - p by omega])
      have HCell : Hid (∀ W : World, (W.alloc (.cells kindCells 37)).cell? ⟨W.heap.size, p, none⟩ = some (.int .i64 kk)) := Lib.hid (fun W => by
        refine (Blk.new W 37 kindCells).cell _ _ ?_
        rw [← hkk]
        rcases (by omega : p = 0 ∨ p = 1 ∨ p = 2 ∨ p = 3 ∨ p = 4 ∨ p = 5 ∨ p = 6 ∨ p = 7 ∨ p = 8 ∨ p = 9 ∨ p = 10 ∨ p = 11 ∨ p = 12 ∨ p = 13) with rfl | rfl | rfl | rfl | rfl | rfl | rfl | rfl | rfl | rfl | rfl | rfl | rfl | rfl <;> rfl)
      clear hcc hkk e1
      go_upto_region 5 with fail
      refine wp_region_noPanic ?_
      refine wp_region_held_drew (S := fun W => WrI w W B o (.slice VA o.val.length vc)) (by kernel_rfl) HI.out.drew (fun hHeld => ?_)
      generalize wr.drew = W3 at hHeld ⊢
      refine tk 1 (v := ?_) ?_ ?_
      rotate_left 1
      · intro W hSw
        obtain ⟨z0, z1, z2, z3, z4, z5, z6, z7, z8⟩ := op_cells hSw.box
        clear hSw
        go_simp
        try with_reducible rfl
      try dsimp only [zS, zB, zC]
      refine tk 4 (v := ?_) ?_ ?_
      rotate_left 1
      · intro W hSw
        obtain ⟨z0, z1, z2, z3, z4, z5, z6, z7, z8⟩ := op_cells hSw.box
        clear hSw
        go_simp
        try with_reducible rfl
      try dsimp only [zS, zB, zC]
      refine tk 5 (v := ?_) ?_ ?_
      rotate_left 1
      · intro W hSw
        obtain ⟨z0, z1, z2, z3, z4, z5, z6, z7, z8⟩ := op_cells hSw.box
        clear hSw
        go_simp
        try with_reducible rfl
      try dsimp only [zS, zB, zC]
      refine wpAnyH_ready (rs := [0]) (by kernel_rfl) (by simp) ?_
      refine AllReadyH.cons (o := ⟨_, _, _, _, _, _⟩) rfl (fun F hF => ?_) AllReadyH.nil
      go_simp
      refine (kinds_any _).mono ?_
      rintro e w4 ⟨rfl, hw4⟩
      have hc4 := HCell.out W3
      rw [← hw4] at hc4
      have hb4 : Below W3.heap.size W3 w4 := hw4 ▸ (Below.refl _ _).alloc (Nat.le_refl _) _
      have hi4 : WrI w w4 B o (.slice VA o.val.length vc) ∧ w4.cell? ⟨W3.heap.size, p, none⟩ = some (.int .i64 kk) := ⟨hHeld.adv hb4, hc4⟩
      have HI4 := Lib.hid hi4
      clear hw4 hc4 hb4 hi4 hHeld
      go_wp2_with fail
      refine hF.out _ _ HI4.out.1 (fun hHeld => ?_)
      clear hF F
      try simp only [Act.put, zA, zB, zC]
      refine wpAnyH_wk (S2 := fun W => WrI w W B o (.slice VA o.val.length vc) ∧ W.cell? ⟨W3.heap.size, p, none⟩ = some (.int .i64 kk)) (fun W h => h.1) _ _ _ _ ?_
      have hHeld2 := HI4.out
      refine tk 2 (v := ?_) ?_ ?_
      rotate_left 1
      · intro W hSw
        skip
        clear hSw
        go_simp
        try with_reducible rfl
      try dsimp only [zS, zB, zC]
      refine tk 3 (v := ?_) ?_ ?_
      rotate_left 1
      · intro W hSw
        have hc4 := hSw.2
        clear hSw
        go_simp
        try with_reducible rfl
      try dsimp only [zS, zB, zC]
      refine tk 6 (v := ?_) ?_ ?_
      rotate_left 1
      · intro W hSw
        skip
        clear hSw
        go_simp
        try with_reducible rfl
      try dsimp only [zS, zB, zC]
      refine wpAnyH_done (by kernel_rfl) ?_ _
      refine NoPanic.normal ?_
      clear hHeld hHeld2
      by_cases hkk : kk = o.kind
      · have hkb : (kk == o.kind) = true := by simp [hkk]
        have HC2 : Hid (cfP o.kind (14 - p) = (p : Int)) := Lib.hid (by rw [HCc.out, if_pos hkk])
        clear hkk
        go_wp2_with fail
        go_roundw
        case rel => exact ⟨p, by omega, by go_num, by rw [HC2.out], HI4.out.1⟩
        case measure => simp [intOf]
      · have hkb : (kk == o.kind) = false := by simp [hkk]
        have HC2 : Hid (cfP o.kind (14 - p) = cc) := Lib.hid (by rw [HCc.out, if_neg hkk])
        clear hkk
        go_wp2_with fail
        go_roundw
        case rel => exact ⟨p, by omega, by go_num, by rw [HC2.out], HI4.out.1⟩
        case measure => simp [intOf]
    | zero =>
      obtain ⟨Wl, hWl⟩ : ∃ Wl, Wl = wr := ⟨_, rfl⟩
      subst hWl
      obtain ⟨c0, hc0⟩ : ∃ c0, codeI o.kind = c0 := ⟨_, rfl⟩
      have HC0 := Lib.hid hc0
      rw [show 14 - 0 = 14 from rfl, cfP_14, hc0]
      have hcl := codeI_lt o.kind
      rw [hc0] at hcl
      have z1 : Wl.cell? ⟨w.heap.size, 1, none⟩ = some (.int .u64 o.ticks) := HI.out.box.cell 1 _ rfl
      have z2 : Wl.cell? ⟨w.heap.size, 2, none⟩ = some (.string o.key) := HI.out.box.cell 2 _ rfl
      have z3 : Wl.cell? ⟨w.heap.size, 3, none⟩ = some (.slice VA o.val.length vc) := HI.out.box.cell 3 _ rfl
      clear hc0
      by_cases b1 : c0 < 0
      · have HBd : Hid (badP o) := Lib.hid (.inl (by rw [HC0.out]; exact b1))
        go_wp2_with fail
        go_ret
        exact BytesRet.bad HBd.out HI.out.below
      by_cases b2 : 270 < o.ticks
      · have HBd : Hid (badP o) := Lib.hid (.inr (.inl b2))
        go_wp2_with fail
        go_ret
        exact BytesRet.bad HBd.out HI.out.below
      by_cases b3 : (31 : Int) < (o.key.size : Int)
      · have HBd : Hid (badP o) := Lib.hid (.inr (.inr (.inl (by omega))))
        go_wp2_with fail
        go_ret
        exact BytesRet.bad HBd.out HI.out.below
      by_cases b4 : (255 : Int) < (o.val.length : Int)
      · have HBd : Hid (badP o) := Lib.hid (.inr (.inr (.inr (by omega))))
        go_wp2_with fail
        go_ret
        exact BytesRet.bad HBd.out HI.out.below
      have HBd : Hid (¬ badP o) := Lib.hid (by unfold badP; rw [HC0.out]; omega)
      have HKl : Hid (o.key.size ≤ 31) := Lib.hid (by omega)
      have HVl : Hid (o.val.length ≤ 255) := Lib.hid (by omega)
      have ht0 := HWf.out.ticks
      have m1 : IntKind.u64.wrap (16 * o.ticks) = 16 * o.ticks := by rw [IntKind.wrap_u64]; omega
      have z1a : ∀ ob, (Wl.alloc ob).cell? ⟨w.heap.size, 1, none⟩ = some (.int .u64 o.ticks) := fun ob => (HI.out.box.alloc ob).cell 1 _ rfl
      go_upto_if 47 with fail
      go_cut [5] (fun v' wc => BwS w wc B o (.slice VA o.val.length vc) v' (hdP o))
      case first =>
        by_cases h15 : 15 ≤ o.ticks
        · have m2 : IntKind.i64.wrap (240 + c0) = 240 + c0 := by rw [IntKind.wrap_i64]; omega
          have m3 : IntKind.u64.wrap (o.ticks - 15) = o.ticks - 15 := by rw [IntKind.wrap_u64]; omega
          go_wp2_with fail
          go_meet
          exact BwS.head2b HI.out _ h15 (by rw [HC0.out]; omega) (by rw [HC0.out]) ⟨rfl, b2⟩
        · go_wp2_with fail
          go_meet
          exact BwS.head1 HI.out (by omega) (by rw [HC0.out]; omega) (by rw [HC0.out]) ht0
      have HCn : Hid (¬ codeI o.kind < 0) := Lib.hid (by rw [HC0.out]; omega)
      clear z1 z2 z3 z1a HI m1 b1 b2 b3 b4 hcl ht0
      have hlh := hdP_len o
      obtain ⟨b0, hb0⟩ : ∃ b0, hdP o = b0 := ⟨_, rfl⟩
      rw [hb0] at hcut hlh
      have HS := Lib.hid hcut
      have HLen := Lib.hid hlh
      have HE0 := Lib.hid hb0
      clear hcut hlh hb0
      obtain ⟨A9, c9, rfl, _, _⟩ := own_form HS.out.row
      obtain ⟨Wk, hWk⟩ : ∃ Wk, Wk = wc := ⟨_, rfl⟩
      subst hWk
      have zk : Wk.cell? ⟨w.heap.size, 0, none⟩ = some (.int .i64 o.kind) := (op_cells HS.out.inv.box).1
      go_wp2_with fail
      refine (keyed_any o.kind _).mono ?_
      rintro e w9 ⟨rfl, rfl⟩
      clear zk
      obtain ⟨q, hq⟩ : ∃ q, keyedP o.kind = q := ⟨_, rfl⟩
      rw [hq]
      have HQ := Lib.hid hq
      clear hq
      go_upto_if 58 with fail
      go_cut [5] (fun v' wc => BwS w wc B o (.slice VA o.val.length vc) v' (sKey o b0))
      case first =>
        cases q with
        | true =>
          go_upto_region 13 with fail
          refine wp_region_noPanic ?_
          refine wp_region_held_drew (S := fun W => WrI w W B o (.slice VA o.val.length vc)) (by kernel_rfl) HS.out.inv.drew (fun hHeld => ?_)
          have HRow := Lib.hid (own_later HS.out.row (Below.refl _ _).drew)
          generalize World.drew _ = W3 at hHeld HRow ⊢
          refine Pl.go [0, 1, 2, 3, 4] ?_
          iterate 5
            refine tkl (v := ?_) ?_ ?_
            rotate_left 1
            · intro W hSw
              obtain ⟨z0, z1, z2, z3, z4, z5, z6, z7, z8⟩ := op_cells hSw.box
              clear hSw
              go_simp
              try with_reducible rfl
            try dsimp only [zS, zB, zC]
          refine Pl.stop ?_
          refine tk 7 (v := ?_) ?_ ?_
          rotate_left 1
          · intro W hSw
            obtain ⟨z0, z1, z2, z3, z4, z5, z6, z7, z8⟩ := op_cells hSw.box
            clear hSw
            go_simp
            try with_reducible rfl
          try dsimp only [zS, zB, zC]
          refine tk 8 (v := ?_) ?_ ?_
          rotate_left 1
          · intro W hSw
            obtain ⟨z0, z1, z2, z3, z4, z5, z6, z7, z8⟩ := op_cells hSw.box
            clear hSw
            go_simp
            try with_reducible rfl
          try dsimp only [zS, zB, zC]
          refine wpAnyH_ready (rs := [5]) (by kernel_rfl) (by simp) ?_
          refine AllReadyH.cons (o := ⟨_, _, _, _, _, _⟩) rfl (fun F hF => ?_) AllReadyH.nil
          go_simp
          have hb5 : Below W3.heap.size W3 (W3.alloc (.cells #[.int .u8 (IntKind.u8.wrap (o.key.size : Int))] 5)) := (Below.refl _ _).alloc (Nat.le_refl _) _
          have HR5 := Lib.hid (own_later HRow.out hb5)
          have HSrc := Lib.hid (src_oneW W3 (o.key.size : Int))
          have hi5 := hHeld.adv hb5
          generalize W3.alloc _ = W5 at HR5 HSrc hi5 ⊢
          refine hF.out _ _ hi5 (fun hHeld => ?_)
          clear hF F hb5 hi5
          try simp only [Act.put, zA, zB, zC]
          refine wpAnyH_ready (rs := [6]) (by kernel_rfl) (by simp) ?_
          refine AllReadyH.cons (o := ⟨_, _, _, _, _, _⟩) rfl (fun F hF => ?_) AllReadyH.nil
          refine step_append_src _ rfl (.tmp 59) (.tmp 64) 39 rfl (w.heap.size + 1) 5 i0 _ 1 1 Tryz.underlying39 hi0 hz0 hz1 hz2 rfl (by decide) _ b0.length (bcells b0) rfl HR5.out _ 1 1 (bcells [byteI (o.key.size : Int)]) rfl HSrc.out (bcells_one _) (by have := HLen.out; unfold maxLen; omega) (by have := HLen.out; omega) (by have := hHeld.box.lt; omega) ?_
          intro v6 w6 hown6 hg6 hat6
          have hB6 := Lib.hid (BwS.add (cs := [byteI (o.key.size : Int)]) hHeld HR5.out hg6 HV0.out hown6 rfl)
          clear hown6 hg6 hat6 hHeld HR5 HSrc
          refine hF.out _ _ hB6.out.inv (fun hHeld => ?_)
          clear hF F
          try simp only [Act.put, zA, zB, zC]
          refine wpAnyH_ready (rs := [9]) (by kernel_rfl) (by simp) ?_
          refine AllReadyH.cons (o := ⟨_, _, _, _, _, _⟩) rfl (fun F hF => ?_) AllReadyH.nil
          refine step_append_str rfl (.tmp 65) (.tmp 67) 39 9 rfl (w.heap.size + 1) 5 i0 Tryz.underlying39 Tryz.underlying9 hi0 hz0 hz1 hz2 _ _ _ rfl hB6.out.row o.key rfl (by have := HLen.out; have := HKl.out; rw [List.length_append]; unfold maxLen; simp; omega) (by have := HLen.out; have := HKl.out; rw [List.length_append]; simp; omega) (by have := hHeld.box.lt; omega) ?_
          intro v9 w9 hown9 hg9
          have hs9 : o.key.data.toList.length = o.key.size := Array.length_toList
          have hB9 := Lib.hid (BwS.add (cs := o.key.data.toList) hHeld hB6.out.row hg9 HV0.out (by rw [strCells_b] at hown9; exact hown9) (by rw [hs9]))
          clear hown9 hg9 hHeld hB6 hs9
          refine hF.out _ _ hB9.out.inv (fun hHeld => ?_)
          clear hF F
          try simp only [Act.put, zA, zB, zC]
          refine tk 10 (v := ?_) ?_ ?_
          rotate_left 1
          · intro W hSw
            obtain ⟨z0, z1, z2, z3, z4, z5, z6, z7, z8⟩ := op_cells hSw.box
            clear hSw
            go_simp
            try with_reducible rfl
          try dsimp only [zS, zB, zC]
          refine wpAnyH_done (by kernel_rfl) ?_ _
          refine NoPanic.normal ?_
          clear hHeld
          go_wp2_with fail
          go_meet
          have h := hB9.out
          rw [List.append_assoc] at h
          unfold sKey
          rw [HQ.out]
          exact h
        | false =>
          go_wp2_with fail
          go_meet
          have h := HS.out
          unfold sKey
          rw [HQ.out]
          exact h
      clear HS HQ
      obtain ⟨b1, hb1⟩ : ∃ b1, sKey o b0 = b1 := ⟨_, rfl⟩
      have HE1 := Lib.hid hb1
      rw [hb1] at hcut
      have HS := Lib.hid hcut
      have hle : b1.length ≤ 34 := by rw [← hb1]; have := HLen.out; have := HKl.out; have := HVl.out; (have := sKey_len o b0 HKl.out; omega)
      have HLen := Lib.hid hle
      obtain ⟨b0, hb0⟩ : ∃ b0, b0 = b1 := ⟨_, rfl⟩
      rw [← hb0] at HS HLen HE1
      clear hb1 hcut hle hb0 b1
      obtain ⟨A9, c9, rfl, _, _⟩ := own_form HS.out.row
      obtain ⟨Wk, hWk⟩ : ∃ Wk, Wk = wc := ⟨_, rfl⟩
      subst hWk
      have zk : Wk.cell? ⟨w.heap.size, 0, none⟩ = some (.int .i64 o.kind) := (op_cells HS.out.inv.box).1
      go_wp2_with fail
      refine (valued_any o.kind _).mono ?_
      rintro e w9 ⟨rfl, rfl⟩
      clear zk
      obtain ⟨q, hq⟩ : ∃ q, valuedP o.kind = q := ⟨_, rfl⟩
      rw [hq]
      have HQ := Lib.hid hq
      clear hq
      go_upto_if 71 with fail
      go_cut [5] (fun v' wc => BwS w wc B o (.slice VA o.val.length vc) v' (sVal o b0))
      case first =>
        cases q with
        | true =>
          go_upto_region 15 with fail
          refine wp_region_noPanic ?_
          refine wp_region_held_drew (S := fun W => WrI w W B o (.slice VA o.val.length vc)) (by kernel_rfl) HS.out.inv.drew (fun hHeld => ?_)
          have HRow := Lib.hid (own_later HS.out.row (Below.refl _ _).drew)
          generalize World.drew _ = W3 at hHeld HRow ⊢
          refine Pl.go [0, 1, 2, 3, 4] ?_
          iterate 5
            refine tkl (v := ?_) ?_ ?_
            rotate_left 1
            · intro W hSw
              obtain ⟨z0, z1, z2, z3, z4, z5, z6, z7, z8⟩ := op_cells hSw.box
              clear hSw
              go_simp
              try with_reducible rfl
            try dsimp only [zS, zB, zC]
          refine Pl.stop ?_
          refine tk 7 (v := ?_) ?_ ?_
          rotate_left 1
          · intro W hSw
            obtain ⟨z0, z1, z2, z3, z4, z5, z6, z7, z8⟩ := op_cells hSw.box
            clear hSw
            go_simp
            try with_reducible rfl
          try dsimp only [zS, zB, zC]
          refine tk 8 (v := ?_) ?_ ?_
          rotate_left 1
          · intro W hSw
            obtain ⟨z0, z1, z2, z3, z4, z5, z6, z7, z8⟩ := op_cells hSw.box
            clear hSw
            go_simp
            try with_reducible rfl
          try dsimp only [zS, zB, zC]
          refine wpAnyH_ready (rs := [5]) (by kernel_rfl) (by simp) ?_
          refine AllReadyH.cons (o := ⟨_, _, _, _, _, _⟩) rfl (fun F hF => ?_) AllReadyH.nil
          go_simp
          have hb5 : Below W3.heap.size W3 (W3.alloc (.cells #[.int .u8 (IntKind.u8.wrap (o.val.length : Int))] 5)) := (Below.refl _ _).alloc (Nat.le_refl _) _
          have HR5 := Lib.hid (own_later HRow.out hb5)
          have HSrc := Lib.hid (src_oneW W3 (o.val.length : Int))
          have hi5 := hHeld.adv hb5
          generalize W3.alloc _ = W5 at HR5 HSrc hi5 ⊢
          refine hF.out _ _ hi5 (fun hHeld => ?_)
          clear hF F hb5 hi5
          try simp only [Act.put, zA, zB, zC]
          refine wpAnyH_ready (rs := [6]) (by kernel_rfl) (by simp) ?_
          refine AllReadyH.cons (o := ⟨_, _, _, _, _, _⟩) rfl (fun F hF => ?_) AllReadyH.nil
          refine step_append_src _ rfl (.tmp 72) (.tmp 77) 39 rfl (w.heap.size + 1) 5 i0 _ 1 1 Tryz.underlying39 hi0 hz0 hz1 hz2 rfl (by decide) _ b0.length (bcells b0) rfl HR5.out _ 1 1 (bcells [byteI (o.val.length : Int)]) rfl HSrc.out (bcells_one _) (by have := HLen.out; unfold maxLen; omega) (by have := HLen.out; omega) (by have := hHeld.box.lt; omega) ?_
          intro v6 w6 hown6 hg6 hat6
          have hB6 := Lib.hid (BwS.add (cs := [byteI (o.val.length : Int)]) hHeld HR5.out hg6 HV0.out hown6 rfl)
          clear hown6 hg6 hat6 hHeld HR5 HSrc
          refine hF.out _ _ hB6.out.inv (fun hHeld => ?_)
          clear hF F
          try simp only [Act.put, zA, zB, zC]
          refine wpAnyH_ready (rs := [9]) (by kernel_rfl) (by simp) ?_
          refine AllReadyH.cons (o := ⟨_, _, _, _, _, _⟩) rfl (fun F hF => ?_) AllReadyH.nil
          refine step_append_src _ rfl (.tmp 78) (.tmp 80) 39 rfl (w.heap.size + 1) 5 i0 _ 1 1 Tryz.underlying39 hi0 hz0 hz1 hz2 rfl (by decide) _ _ _ rfl hB6.out.row VA o.val.length vc (bcells o.val) rfl hHeld.val.src_at.2 (bcells_one _) (by have := HLen.out; have := HVl.out; rw [List.length_append]; unfold maxLen; simp; omega) (by have := HLen.out; have := HVl.out; rw [List.length_append]; simp; omega) (by have := hHeld.box.lt; omega) ?_
          intro v9 w9 hown9 hg9 hat9
          have hB9 := Lib.hid (BwS.add (cs := o.val) hHeld hB6.out.row hg9 HV0.out hown9 rfl)
          clear hown9 hg9 hat9 hHeld hB6
          refine hF.out _ _ hB9.out.inv (fun hHeld => ?_)
          clear hF F
          try simp only [Act.put, zA, zB, zC]
          refine tk 10 (v := ?_) ?_ ?_
          rotate_left 1
          · intro W hSw
            obtain ⟨z0, z1, z2, z3, z4, z5, z6, z7, z8⟩ := op_cells hSw.box
            clear hSw
            go_simp
            try with_reducible rfl
          try dsimp only [zS, zB, zC]
          refine wpAnyH_done (by kernel_rfl) ?_ _
          refine NoPanic.normal ?_
          clear hHeld
          go_wp2_with fail
          go_meet
          have h := hB9.out
          rw [List.append_assoc] at h
          unfold sVal
          rw [HQ.out]
          exact h
        | false =>
          go_wp2_with fail
          go_meet
          have h := HS.out
          unfold sVal
          rw [HQ.out]
          exact h
      clear HS HQ
      obtain ⟨b1, hb1⟩ : ∃ b1, sVal o b0 = b1 := ⟨_, rfl⟩
      have HE2 := Lib.hid hb1
      rw [hb1] at hcut
      have HS := Lib.hid hcut
      have hle : b1.length ≤ 290 := by rw [← hb1]; have := HLen.out; have := HKl.out; have := HVl.out; (have := sVal_len o b0 HVl.out; omega)
      have HLen := Lib.hid hle
      obtain ⟨b0, hb0⟩ : ∃ b0, b0 = b1 := ⟨_, rfl⟩
      rw [← hb0] at HS HLen HE2
      clear hb1 hcut hle hb0 b1
      obtain ⟨A9, c9, rfl, _, _⟩ := own_form HS.out.row
      obtain ⟨Wk, hWk⟩ : ∃ Wk, Wk = wc := ⟨_, rfl⟩
      subst hWk
      have zk : Wk.cell? ⟨w.heap.size, 0, none⟩ = some (.int .i64 o.kind) := (op_cells HS.out.inv.box).1
      go_wp2_with fail
      refine (timed_any o.kind _).mono ?_
      rintro e w9 ⟨rfl, rfl⟩
      clear zk
      obtain ⟨q, hq⟩ : ∃ q, timedP o.kind = q := ⟨_, rfl⟩
      rw [hq]
      have HQ := Lib.hid hq
      clear hq
      go_upto_if 84 with fail
      go_cut [5] (fun v' wc => BwS w wc B o (.slice VA o.val.length vc) v' (sTtl o b0))
      case first =>
        cases q with
        | true =>
          obtain ⟨t, ht⟩ : ∃ t : Nat, o.ttl % 65536 = (t : Int) := ⟨(o.ttl % 65536).toNat, by omega⟩
          have ht6 : (t : Int) < 65536 := by omega
          have n1 : IntKind.i64.wrap (t : Int) = (t : Int) := by rw [IntKind.wrap_i64]; omega
          have hmod : Int.tmod o.ttl 65536 = (t : Int) := by rw [Int.tmod_eq_emod_of_nonneg HWf.out.ttl]; exact ht
          have zt : Wk.cell? ⟨w.heap.size, 4, none⟩ = some (.int .u64 o.ttl) := HS.out.inv.box.cell 4 _ rfl
          have hge : (0 : Int) ≤ o.ttl := HWf.out.ttl
          have HT := Lib.hid ht
          have HRow := Lib.hid HS.out.row
          go_wp2_with fail
          refine (refBig2 t _ (by omega)).mono ?_
          rintro e w9 ⟨v2, rfl, hown2, hb2⟩
          obtain ⟨A2, k2, rfl, _, _⟩ := own_form hown2
          have hi2 := HS.out.inv.adv hb2
          have HI2 := Lib.hid hi2
          have HR2 := Lib.hid (own_later HRow.out hb2)
          have HO2 := Lib.hid hown2
          clear hown2 hi2 hb2 zt n1 hmod ht hge
          go_wp2_with (at_builtin; refine wpList_append_src _ rfl _ _ _ rfl (w.heap.size + 1) 5 i0 _ 1 1 Tryz.underlying39 hi0 hz0 hz1 hz2 rfl (by decide) _ b0.length (bcells b0) rfl HR2.out A2 (big2 (t : Int)).length k2 (bcells (big2 (t : Int))) rfl (Bts.of_own HO2.out 0).src_at.2 (bcells_one _) (by have := HLen.out; simp [big2]; unfold maxLen; omega) (by have := HLen.out; simp [big2]; omega) (by have := HI2.out.box.lt; omega) ?_; intro v8 w8 hown8 hg8 hat8)
          have HB8 := Lib.hid (BwS.add HI2.out HR2.out hg8 HV0.out hown8 rfl)
          clear hown8 hg8 hat8
          go_meet
          have h := HB8.out
          rw [← HT.out, big_mod _ HWf.out.ttl] at h
          unfold sTtl
          rw [HQ.out]
          exact h
        | false =>
          go_wp2_with fail
          go_meet
          have h := HS.out
          unfold sTtl
          rw [HQ.out]
          exact h
      clear HS HQ
      obtain ⟨b1, hb1⟩ : ∃ b1, sTtl o b0 = b1 := ⟨_, rfl⟩
      have HE3 := Lib.hid hb1
      rw [hb1] at hcut
      have HS := Lib.hid hcut
      have hle : b1.length ≤ 292 := by rw [← hb1]; have := HLen.out; have := HKl.out; have := HVl.out; (have := sTtl_len o b0; omega)
      have HLen := Lib.hid hle
      obtain ⟨b0, hb0⟩ : ∃ b0, b0 = b1 := ⟨_, rfl⟩
      rw [← hb0] at HS HLen HE3
      clear hb1 hcut hle hb0 b1
      obtain ⟨A9, c9, rfl, _, _⟩ := own_form HS.out.row
      obtain ⟨Wk, hWk⟩ : ∃ Wk, Wk = wc := ⟨_, rfl⟩
      subst hWk
      have zk : Wk.cell? ⟨w.heap.size, 0, none⟩ = some (.int .i64 o.kind) := (op_cells HS.out.inv.box).1
      obtain ⟨q, hq⟩ : ∃ q, (o.kind == 8) = q := ⟨_, rfl⟩
      have HQ := Lib.hid hq
      go_upto_if 94 with fail
      clear hq zk
      go_cut [5] (fun v' wc => BwS w wc B o (.slice VA o.val.length vc) v' (sBud o b0))
      case first =>
        cases q with
        | true =>
          obtain ⟨t, ht⟩ : ∃ t : Nat, max 0 o.count = (t : Int) := ⟨(max 0 o.count).toNat, by omega⟩
          obtain ⟨u, hu⟩ : ∃ u : Nat, max 0 o.bytes = (u : Int) := ⟨(max 0 o.bytes).toNat, by omega⟩
          have htl : t ≤ 9223372036854775807 := by have := HWf.out.count; omega
          have hul : u ≤ 9223372036854775807 := by have := HWf.out.bytes; omega
          have HTl := Lib.hid htl
          have HUl := Lib.hid hul
          have HT := Lib.hid ht
          have HU := Lib.hid hu
          go_upto_region 19 with fail
          refine wp_region_noPanic ?_
          refine wp_region_held_drew (S := fun W => WrI w W B o (.slice VA o.val.length vc)) (by kernel_rfl) HS.out.inv.drew (fun hHeld => ?_)
          have HRow := Lib.hid (own_later HS.out.row (Below.refl _ _).drew)
          generalize World.drew _ = W3 at hHeld HRow ⊢
          refine Pl.go [0, 1, 2] ?_
          iterate 3
            refine tkl (v := ?_) ?_ ?_
            rotate_left 1
            · intro W hSw
              obtain ⟨z0, z1, z2, z3, z4, z5, z6, z7, z8⟩ := op_cells hSw.box
              clear hSw
              go_simp
              try with_reducible rfl
            try dsimp only [zS, zB, zC]
          refine Pl.stop ?_
          refine tk 6 (v := ?_) ?_ ?_
          rotate_left 1
          · intro W hSw
            obtain ⟨z0, z1, z2, z3, z4, z5, z6, z7, z8⟩ := op_cells hSw.box
            clear hSw
            go_simp
            try with_reducible rfl
          try dsimp only [zS, zB, zC]
          refine tk 7 (v := ?_) ?_ ?_
          rotate_left 1
          · intro W hSw
            obtain ⟨z0, z1, z2, z3, z4, z5, z6, z7, z8⟩ := op_cells hSw.box
            clear hSw
            go_simp
            try with_reducible rfl
          try dsimp only [zS, zB, zC]
          refine tk 3 (v := ?_) ?_ ?_
          rotate_left 1
          · intro W hSw
            obtain ⟨z0, z1, z2, z3, z4, z5, z6, z7, z8⟩ := op_cells hSw.box
            clear hSw
            go_simp
            try with_reducible rfl
          try dsimp only [zS, zB, zC]
          refine tk 8 (v := ?_) ?_ ?_
          rotate_left 1
          · intro W hSw
            obtain ⟨z0, z1, z2, z3, z4, z5, z6, z7, z8⟩ := op_cells hSw.box
            clear hSw
            go_simp
            try with_reducible rfl
          try dsimp only [zS, zB, zC]
          try simp only [ht, hu]
          refine wpAnyH_ready (rs := [4]) (by kernel_rfl) (by simp) ?_
          refine AllReadyH.cons (o := ⟨_, _, _, _, _, _⟩) rfl (fun F hF => ?_) AllReadyH.nil
          go_simp
          refine (refBig2 t _ HTl.out).mono ?_
          rintro e w9 ⟨v2, rfl, hown2, hb2⟩
          obtain ⟨A2, k2, rfl, _, _⟩ := own_form hown2
          have HI2 := Lib.hid (hHeld.adv hb2)
          have HR2 := Lib.hid (own_later HRow.out hb2)
          have HO2 := Lib.hid hown2
          clear hown2 hb2 ht hu
          go_wp2_with fail
          refine hF.out _ _ HI2.out (fun hHeld => ?_)
          clear hF F
          try simp only [Act.put, zA, zB, zC]
          refine wpAnyH_ready (rs := [5]) (by kernel_rfl) (by simp) ?_
          refine AllReadyH.cons (o := ⟨_, _, _, _, _, _⟩) rfl (fun F hF => ?_) AllReadyH.nil
          refine step_append_src _ rfl (.tmp 95) (.tmp 99) 39 rfl (w.heap.size + 1) 5 i0 _ 1 1 Tryz.underlying39 hi0 hz0 hz1 hz2 rfl (by decide) _ b0.length (bcells b0) rfl HR2.out A2 (big2 (t : Int)).length k2 (bcells (big2 (t : Int))) rfl (Bts.of_own HO2.out 0).src_at.2 (bcells_one _) (by have := HLen.out; simp [big2]; unfold maxLen; omega) (by have := HLen.out; simp [big2]; omega) (by have := hHeld.box.lt; omega) ?_
          intro v6 w6 hown6 hg6 hat6
          have hB6 := Lib.hid (BwS.add HI2.out HR2.out hg6 HV0.out hown6 rfl)
          clear hown6 hg6 hat6 hHeld
          refine hF.out _ _ hB6.out.inv (fun hHeld => ?_)
          clear hF F
          try simp only [Act.put, zA, zB, zC]
          refine wpAnyH_ready (rs := [9]) (by kernel_rfl) (by simp) ?_
          refine AllReadyH.cons (o := ⟨_, _, _, _, _, _⟩) rfl (fun F hF => ?_) AllReadyH.nil
          go_simp
          refine (refBig3 u _ HUl.out).mono ?_
          rintro e w10 ⟨v3, rfl, hown3, hb3⟩
          obtain ⟨A3, k3, rfl, _, _⟩ := own_form hown3
          have HI3 := Lib.hid (hHeld.adv hb3)
          have HR3 := Lib.hid (own_later hB6.out.row hb3)
          have HO3 := Lib.hid hown3
          clear hown3 hb3
          go_wp2_with fail
          refine hF.out _ _ HI3.out (fun hHeld => ?_)
          clear hF F
          try simp only [Act.put, zA, zB, zC]
          refine wpAnyH_ready (rs := [10]) (by kernel_rfl) (by simp) ?_
          refine AllReadyH.cons (o := ⟨_, _, _, _, _, _⟩) rfl (fun F hF => ?_) AllReadyH.nil
          refine step_append_src _ rfl (.tmp 100) (.tmp 104) 39 rfl (w.heap.size + 1) 5 i0 _ 1 1 Tryz.underlying39 hi0 hz0 hz1 hz2 rfl (by decide) _ _ _ rfl HR3.out A3 (big3 (u : Int)).length k3 (bcells (big3 (u : Int))) rfl (Bts.of_own HO3.out 0).src_at.2 (bcells_one _) (by have := HLen.out; simp [big2, big3]; unfold maxLen; omega) (by have := HLen.out; simp [big2, big3]; omega) (by have := hHeld.box.lt; omega) ?_
          intro v9 w11 hown9 hg9 hat9
          have hB9 := Lib.hid (BwS.add HI3.out HR3.out hg9 HV0.out hown9 rfl)
          clear hown9 hg9 hat9 hHeld
          refine hF.out _ _ hB9.out.inv (fun hHeld => ?_)
          clear hF F
          try simp only [Act.put, zA, zB, zC]
          refine tk 11 (v := ?_) ?_ ?_
          rotate_left 1
          · intro W hSw
            obtain ⟨z0, z1, z2, z3, z4, z5, z6, z7, z8⟩ := op_cells hSw.box
            clear hSw
            go_simp
            try with_reducible rfl
          try dsimp only [zS, zB, zC]
          refine wpAnyH_done (by kernel_rfl) ?_ _
          refine NoPanic.normal ?_
          clear hHeld
          go_wp2_with fail
          go_meet
          have h := hB9.out
          rw [List.append_assoc, ← HT.out, ← HU.out] at h
          unfold sBud
          rw [HQ.out]
          exact h
        | false =>
          go_wp2_with fail
          go_meet
          have h := HS.out
          unfold sBud
          rw [HQ.out]
          exact h
      clear HS HQ
      obtain ⟨b1, hb1⟩ : ∃ b1, sBud o b0 = b1 := ⟨_, rfl⟩
      have HE4 := Lib.hid hb1
      rw [hb1] at hcut
      have HS := Lib.hid hcut
      have hle : b1.length ≤ 297 := by rw [← hb1]; have := HLen.out; have := HKl.out; have := HVl.out; (have := sBud_len o b0; omega)
      have HLen := Lib.hid hle
      obtain ⟨b0, hb0⟩ : ∃ b0, b0 = b1 := ⟨_, rfl⟩
      rw [← hb0] at HS HLen HE4
      clear hb1 hcut hle hb0 b1
      obtain ⟨A9, c9, rfl, _, _⟩ := own_form HS.out.row
      obtain ⟨Wk, hWk⟩ : ∃ Wk, Wk = wc := ⟨_, rfl⟩
      subst hWk
      have zk : Wk.cell? ⟨w.heap.size, 0, none⟩ = some (.int .i64 o.kind) := (op_cells HS.out.inv.box).1
      go_wp2_with fail
      refine (aimed_any o.kind _).mono ?_
      rintro e w9 ⟨rfl, rfl⟩
      clear zk
      obtain ⟨q, hq⟩ : ∃ q, aimedP o.kind = q := ⟨_, rfl⟩
      rw [hq]
      have HQ := Lib.hid hq
      clear hq
      go_upto_if 108 with fail
      go_cut [5] (fun v' wc => BwS w wc B o (.slice VA o.val.length vc) v' (sAim o b0))
      case first =>
        cases q with
        | true =>
          have zt : Wk.cell? ⟨w.heap.size, 7, none⟩ = some (.int .i64 o.cursor) := HS.out.inv.box.cell 7 _ rfl
          have HRow := Lib.hid (own_later HS.out.row ((Below.refl _ _).alloc (Nat.le_refl _) (.cells #[.int .u8 (o.cursor % 256)] 5)))
          have HI2 := Lib.hid (HS.out.inv.adv ((Below.refl _ _).alloc (Nat.le_refl _) (.cells #[.int .u8 (o.cursor % 256)] 5)))
          go_wp2_with (at_builtin; refine wpList_append_src _ rfl _ _ _ rfl (w.heap.size + 1) 5 i0 _ 1 1 Tryz.underlying39 hi0 hz0 hz1 hz2 rfl (by decide) _ b0.length (bcells b0) rfl HRow.out (some ⟨Wk.heap.size, 0, none⟩) 1 1 (bcells [byteI o.cursor]) rfl (src_one Wk o.cursor) (bcells_one _) (by have := HLen.out; unfold maxLen; omega) (by have := HLen.out; omega) (by have := HI2.out.box.lt; omega) ?_; intro v8 w8 hown8 hg8 hat8)
          have HB8 := Lib.hid (BwS.add (cs := [byteI o.cursor]) HI2.out HRow.out hg8 HV0.out hown8 rfl)
          clear hown8 hg8 hat8
          go_meet
          have h := HB8.out
          unfold sAim
          rw [HQ.out]
          exact h
        | false =>
          go_wp2_with fail
          go_meet
          have h := HS.out
          unfold sAim
          rw [HQ.out]
          exact h
      clear HS HQ
      obtain ⟨b1, hb1⟩ : ∃ b1, sAim o b0 = b1 := ⟨_, rfl⟩
      have HE5 := Lib.hid hb1
      rw [hb1] at hcut
      have HS := Lib.hid hcut
      have hle : b1.length ≤ 298 := by rw [← hb1]; have := HLen.out; have := HKl.out; have := HVl.out; (have := sAim_len o b0; omega)
      have HLen := Lib.hid hle
      obtain ⟨b0, hb0⟩ : ∃ b0, b0 = b1 := ⟨_, rfl⟩
      rw [← hb0] at HS HLen HE5
      clear hb1 hcut hle hb0 b1
      obtain ⟨A9, c9, rfl, _, _⟩ := own_form HS.out.row
      obtain ⟨Wk, hWk⟩ : ∃ Wk, Wk = wc := ⟨_, rfl⟩
      subst hWk
      have zk : Wk.cell? ⟨w.heap.size, 0, none⟩ = some (.int .i64 o.kind) := (op_cells HS.out.inv.box).1
      obtain ⟨q, hq⟩ : ∃ q, (o.kind == 13) = q := ⟨_, rfl⟩
      have HQ := Lib.hid hq
      go_upto_if 117 with fail
      clear hq zk
      go_cut [5] (fun v' wc => BwS w wc B o (.slice VA o.val.length vc) v' (sBirth o b0))
      case first =>
        cases q with
        | true =>
          obtain ⟨t, ht⟩ : ∃ t : Nat, o.birth % 65536 = (t : Int) := ⟨(o.birth % 65536).toNat, by omega⟩
          have ht6 : (t : Int) < 65536 := by omega
          have n1 : IntKind.i64.wrap (t : Int) = (t : Int) := by rw [IntKind.wrap_i64]; omega
          have hmod : Int.tmod o.birth 65536 = (t : Int) := by rw [Int.tmod_eq_emod_of_nonneg HWf.out.birth]; exact ht
          have zt : Wk.cell? ⟨w.heap.size, 8, none⟩ = some (.int .u64 o.birth) := HS.out.inv.box.cell 8 _ rfl
          have hge : (0 : Int) ≤ o.birth := HWf.out.birth
          have HT := Lib.hid ht
          have HRow := Lib.hid HS.out.row
          go_wp2_with fail
          refine (refBig2 t _ (by omega)).mono ?_
          rintro e w9 ⟨v2, rfl, hown2, hb2⟩
          obtain ⟨A2, k2, rfl, _, _⟩ := own_form hown2
          have hi2 := HS.out.inv.adv hb2
          have HI2 := Lib.hid hi2
          have HR2 := Lib.hid (own_later HRow.out hb2)
          have HO2 := Lib.hid hown2
          clear hown2 hi2 hb2 zt n1 hmod ht hge
          go_wp2_with (at_builtin; refine wpList_append_src _ rfl _ _ _ rfl (w.heap.size + 1) 5 i0 _ 1 1 Tryz.underlying39 hi0 hz0 hz1 hz2 rfl (by decide) _ b0.length (bcells b0) rfl HR2.out A2 (big2 (t : Int)).length k2 (bcells (big2 (t : Int))) rfl (Bts.of_own HO2.out 0).src_at.2 (bcells_one _) (by have := HLen.out; simp [big2]; unfold maxLen; omega) (by have := HLen.out; simp [big2]; omega) (by have := HI2.out.box.lt; omega) ?_; intro v8 w8 hown8 hg8 hat8)
          have HB8 := Lib.hid (BwS.add HI2.out HR2.out hg8 HV0.out hown8 rfl)
          clear hown8 hg8 hat8
          go_meet
          have h := HB8.out
          rw [← HT.out, big_mod _ HWf.out.birth] at h
          unfold sBirth
          rw [HQ.out]
          exact h
        | false =>
          go_wp2_with fail
          go_meet
          have h := HS.out
          unfold sBirth
          rw [HQ.out]
          exact h
      clear HS HQ
      have HS := Lib.hid hcut
      obtain ⟨A8, c8, rfl, _, _⟩ := own_form HS.out.row
      clear hcut
      go_wp2_with fail
      go_ret
      have hfin : bytesP o = sBirth o b0 := by
        unfold bytesP
        rw [if_neg HBd.out, ← stages_raw o (by have := HCn.out; omega), HE0.out, HE1.out, HE2.out, HE3.out, HE4.out, HE5.out]
      refine ⟨_, rfl, ?_, HS.out.inv.below⟩
      rw [hfin]
      exact ownsRow_base HS.out.row (Nat.le_succ _)
end Go.Proofs.YtbcigelgggimmaaGreatDoor
namespace Go.Proofs.YtbcigelgggimmaaGreatDoor
open Go Go.RowKit
set_option maxRecDepth 100000 in
set_option maxHeartbeats 4000000 in
theorem refEqual_any (B1 B2 : Nat) (a b : OpV) (VA VB : Value) (w : World) (ha : Bts w B1 5 VA a.val) (hb : Bts w B2 5 VB b.val) :
    Calls Tryz.prog 21 #[opv a VA, opv b VB] w fun e w' => e = .returned (.bool (decide (eqO a b))) ∧ Below w.heap.size w w' := by
  obtain ⟨AA, ac, rfl⟩ := ha.form
  obtain ⟨AB, bc, rfl⟩ := hb.form
  unfold opv opc
  obtain ⟨W, hW⟩ : ∃ W, (w.alloc (.cells (opc a (.slice AA a.val.length ac)) 41)).alloc (.cells (opc b (.slice AB b.val.length bc)) 41) = W := ⟨_, rfl⟩
  have hbe : Below w.heap.size w W := hW ▸ ((Below.refl _ _).alloc (Nat.le_refl _) _).alloc (by simp) _
  have hba : Blk W w.heap.size 41 (opc a (.slice AA a.val.length ac)) := hW ▸ (Blk.new _ _ _).alloc _
  have hbb : Blk W (w.heap.size + 1) 41 (opc b (.slice AB b.val.length bc)) := hW ▸ Blk.new2 _ _ _ _
  have cva := (ha.below hbe).string (P := Tryz.prog) 39 9 Tryz.underlying39 Tryz.underlying5 Tryz.underlying9
  have cvb := (hb.below hbe).string (P := Tryz.prog) 39 9 Tryz.underlying39 Tryz.underlying5 Tryz.underlying9
  unfold opc at hW
  obtain ⟨z0, z1, z2, z3, z4, z5, z6, z7, z8⟩ := op_cells hba
  obtain ⟨y0, y1, y2, y3, y4, y5, y6, y7, y8⟩ := op_cells hbb
  have HB := Lib.hid hbe
  have hE : ∀ r : Bool, (r = true ↔ (a.kind = b.kind ∧ a.ticks = b.ticks ∧ a.key.toList = b.key.toList ∧ a.val = b.val ∧ a.ttl = b.ttl ∧ a.count = b.count ∧ a.bytes = b.bytes ∧ a.cursor = b.cursor ∧ a.birth = b.birth)) → decide (eqO a b) = r := fun r hr => by
    have hk : a.key.toList = b.key.toList ↔ a.key = b.key := ⟨fun e => by rw [ByteArray.toList_eq, ByteArray.toList_eq] at e; exact WideShapes.bytes_inj e, fun e => by rw [e]⟩
    rw [hk] at hr
    cases r with
    | true => exact decide_eq_true (hr.1 rfl)
    | false => exact decide_eq_false fun h => by have := hr.2 h; cases this
  have HE := Lib.hid hE
  clear hE
  clear hbe hba hbb ha hb
  go_enter Tryz.func21, Tryz.ntmps21
  go_upto_region 1 with fail
  try rw [hW]
  clear hW
  go_wp2_with fail
  all_goals go_ret
  all_goals exact ⟨congrArg (fun r => Ending.returned (Value.bool r)) (HE.out _ (by simp_all)).symm, HB.out⟩
end Go.Proofs.YtbcigelgggimmaaGreatDoor
namespace Go.Proofs.YtbcigelgggimmaaGreatDoor
open Go Go.RowKit
structure EqL (w W : World) (Ba Bb : Nat) (va vb : Value) (xs ys : List (OpV × Value)) : Prop where
  a : OpsAt W Ba va xs
  b : OpsAt W Bb vb ys
  below : Below w.heap.size w W
theorem EqL.adv {w W W2 : World} {Ba Bb : Nat} {va vb : Value} {xs ys : List (OpV × Value)} (h : EqL w W Ba Bb va vb xs ys) (hb : Below W.heap.size W W2) : EqL w W2 Ba Bb va vb xs ys :=
  ⟨h.a.below hb, h.b.below hb, h.below.trans (hb.mono h.below.size)⟩
theorem OpsAt.atI {w : World} {B g off n cap i : Nat} {o : OpV} {V : Value} {ps : List (OpV × Value)} (h : OpsAt w B (.slice (some ⟨g, off, none⟩) n cap) ps) (hi : ps[i]? = some (o, V)) :
    w.cell? ⟨g, off + i * 9, none⟩ = some (.int .i64 o.kind) ∧ w.cell? ⟨g, off + i * 9 + 1, none⟩ = some (.int .u64 o.ticks) ∧ w.cell? ⟨g, off + i * 9 + 2, none⟩ = some (.string o.key) ∧ w.cell? ⟨g, off + i * 9 + 3, none⟩ = some V ∧ w.cell? ⟨g, off + i * 9 + 4, none⟩ = some (.int .u64 o.ttl) ∧ w.cell? ⟨g, off + i * 9 + 5, none⟩ = some (.int .i64 o.count) ∧ w.cell? ⟨g, off + i * 9 + 6, none⟩ = some (.int .i64 o.bytes) ∧ w.cell? ⟨g, off + i * 9 + 7, none⟩ = some (.int .i64 o.cursor) ∧ w.cell? ⟨g, off + i * 9 + 8, none⟩ = some (.int .u64 o.birth) := by
  obtain ⟨gx, ox, ex, -, hz⟩ := h.at_ hi
  injection ex with ex
  injection ex with ex1 ex2
  subst ex1 ex2
  exact hz
set_option maxRecDepth 100000 in
set_option maxHeartbeats 4000000 in
theorem ops26_any (Ba Bb : Nat) (va vb : Value) (xs ys : List (OpV × Value)) (w : World) (ha : OpsAt w Ba va xs) (hb : OpsAt w Bb vb ys) (hla : xs.length ≤ 1000000) (_hlb : ys.length ≤ 1000000) :
    Calls Tryz.prog 47 #[va, vb] w fun e w' => (∃ r, e = .returned (.bool r) ∧ (r = true ↔ xs.map Prod.fst = ys.map Prod.fst)) ∧ Below w.heap.size w w' := by
  obtain ⟨AA, ac, rfl⟩ := ha.slice
  obtain ⟨AB, bc, rfl⟩ := hb.slice
  have HE := Lib.hid (⟨ha, hb, Below.refl _ _⟩ : EqL w w Ba Bb (.slice AA xs.length ac) (.slice AB ys.length bc) xs ys)
  clear ha hb
  by_cases hl : xs.length = ys.length
  · obtain ⟨n, hn⟩ : ∃ n, ys.length = n := ⟨_, rfl⟩
    rw [hl, hn] at HE ⊢
    rw [hn] at hl _hlb
    have HNa := Lib.hid hl
    have HNb := Lib.hid hn
    have hnI : (n : Int) ≤ 1000000 := by omega
    clear hl hn hla _hlb
    go_enter Tryz.func47, Tryz.ntmps47
    go_wp2_with fail
    go_loopw [5] (fun i wr => ∃ (m : Nat), m ≤ n ∧ i = .int .i64 m ∧ (xs.map Prod.fst).take m = (ys.map Prod.fst).take m ∧ EqL w wr Ba Bb (.slice AA n ac) (.slice AB n bc) xs ys) (fun i _ => n - (intOf i).toNat)
    case atStart => exact ⟨0, by omega, rfl, by simp, HE.out⟩
    case round =>
      obtain ⟨m, hm, rfl, ht, hI⟩ := hrel
      have HI := Lib.hid hI
      have HT := Lib.hid ht
      clear ht
      by_cases hml : m < n
      · obtain ⟨⟨o, V⟩, hp⟩ : ∃ p, xs[m]? = some p := ⟨_, List.getElem?_eq_getElem (by have := HNa.out; omega)⟩
        obtain ⟨⟨o2, V2⟩, hq⟩ : ∃ p, ys[m]? = some p := ⟨_, List.getElem?_eq_getElem (by have := HNb.out; omega)⟩
        have hv1 := hI.a.vals _ (List.mem_of_getElem? hp)
        have hv2 := hI.b.vals _ (List.mem_of_getElem? hq)
        obtain ⟨VA, vc, e1⟩ := hv1.form
        obtain ⟨VB, vd, e2⟩ := hv2.form
        dsimp only at hv1 hv2 e1 e2
        subst e1 e2
        obtain ⟨ga, oa, rfl, hga, -⟩ := hI.a.at_ hp
        obtain ⟨gb, ob, rfl, hgb, -⟩ := hI.b.at_ hq
        have HP := Lib.hid hp
        have HQ := Lib.hid hq
        have hmI : (m : Int) < (n : Int) := by omega
        have HCall := Lib.hid (fun W (hW : EqL w W Ba Bb (.slice (some ⟨ga, oa, none⟩) n ac) (.slice (some ⟨gb, ob, none⟩) n bc) xs ys) => refEqual_any Ba Bb o o2 (.slice VA o.val.length vc) (.slice VB o2.val.length vd) W (hW.a.vals _ (List.mem_of_getElem? hp)) (hW.b.vals _ (List.mem_of_getElem? hq)))
        unfold opv opc at HCall
        clear hp hq hv1 hv2 hI hga hgb
        go_upto_region 6 with fail
        refine wp_region_noPanic ?_
        refine wp_region_held_drew (S := fun W => EqL w W Ba Bb (.slice (some ⟨ga, oa, none⟩) n ac) (.slice (some ⟨gb, ob, none⟩) n bc) xs ys) (by kernel_rfl) (HI.out.adv (Below.refl _ _).drew) (fun hHeld => ?_)
        refine tk 0 (v := ?_) ?_ ?_
        rotate_left 1
        · intro W hSw
          obtain ⟨z0, z1, z2, z3, z4, z5, z6, z7, z8⟩ := hSw.a.atI HP.out; obtain ⟨y0, y1, y2, y3, y4, y5, y6, y7, y8⟩ := hSw.b.atI HQ.out
          clear hSw
          go_simp
          try with_reducible rfl
        try dsimp only [zS, zB, zC]
        refine tk 1 (v := ?_) ?_ ?_
        rotate_left 1
        · intro W hSw
          obtain ⟨z0, z1, z2, z3, z4, z5, z6, z7, z8⟩ := hSw.a.atI HP.out; obtain ⟨y0, y1, y2, y3, y4, y5, y6, y7, y8⟩ := hSw.b.atI HQ.out
          clear hSw
          go_simp
          try with_reducible rfl
        try dsimp only [zS, zB, zC]
        refine tk 2 (v := ?_) ?_ ?_
        rotate_left 1
        · intro W hSw
          obtain ⟨z0, z1, z2, z3, z4, z5, z6, z7, z8⟩ := hSw.a.atI HP.out; obtain ⟨y0, y1, y2, y3, y4, y5, y6, y7, y8⟩ := hSw.b.atI HQ.out
          clear hSw
          go_simp
          try with_reducible rfl
        try dsimp only [zS, zB, zC]
        refine tk 3 (v := ?_) ?_ ?_
        rotate_left 1
        · intro W hSw
          obtain ⟨z0, z1, z2, z3, z4, z5, z6, z7, z8⟩ := hSw.a.atI HP.out; obtain ⟨y0, y1, y2, y3, y4, y5, y6, y7, y8⟩ := hSw.b.atI HQ.out
          clear hSw
          go_simp
          try with_reducible rfl
        try dsimp only [zS, zB, zC]
        refine tk 4 (v := ?_) ?_ ?_
        rotate_left 1
        · intro W hSw
          obtain ⟨z0, z1, z2, z3, z4, z5, z6, z7, z8⟩ := hSw.a.atI HP.out; obtain ⟨y0, y1, y2, y3, y4, y5, y6, y7, y8⟩ := hSw.b.atI HQ.out
          clear hSw
          go_simp
          try with_reducible rfl
        try dsimp only [zS, zB, zC]
        refine tk 5 (v := ?_) ?_ ?_
        rotate_left 1
        · intro W hSw
          obtain ⟨z0, z1, z2, z3, z4, z5, z6, z7, z8⟩ := hSw.a.atI HP.out; obtain ⟨y0, y1, y2, y3, y4, y5, y6, y7, y8⟩ := hSw.b.atI HQ.out
          clear hSw
          go_simp
          try with_reducible rfl
        try dsimp only [zS, zB, zC]
        refine tk 6 (v := ?_) ?_ ?_
        rotate_left 1
        · intro W hSw
          obtain ⟨z0, z1, z2, z3, z4, z5, z6, z7, z8⟩ := hSw.a.atI HP.out; obtain ⟨y0, y1, y2, y3, y4, y5, y6, y7, y8⟩ := hSw.b.atI HQ.out
          clear hSw
          go_simp
          try with_reducible rfl
        try dsimp only [zS, zB, zC]
        refine tk 7 (v := ?_) ?_ ?_
        rotate_left 1
        · intro W hSw
          obtain ⟨z0, z1, z2, z3, z4, z5, z6, z7, z8⟩ := hSw.a.atI HP.out; obtain ⟨y0, y1, y2, y3, y4, y5, y6, y7, y8⟩ := hSw.b.atI HQ.out
          clear hSw
          go_simp
          try with_reducible rfl
        try dsimp only [zS, zB, zC]
        obtain ⟨q, hq⟩ : ∃ q, decide (eqO o o2) = q := ⟨_, rfl⟩
        have HQq := Lib.hid hq
        have HC := Lib.hid (HCall.out _ hHeld)
        rw [hq] at HC
        clear hq
        refine wpAnyH_ready (rs := [8]) (by kernel_rfl) (by simp) ?_
        refine AllReadyH.cons (o := ⟨_, _, _, _, _, _⟩) rfl (fun F hF => ?_) AllReadyH.nil
        go_simp
        refine HC.out.mono ?_
        rintro e w4 ⟨rfl, hb4⟩
        have HI4 := Lib.hid (hHeld.adv hb4)
        clear hHeld HC hb4
        go_wp2_with fail
        refine hF.out _ _ HI4.out (fun hHeld => ?_)
        clear hF F
        try simp only [Act.put, zA, zB, zC]
        cases q with
        | false =>
          refine tk 9 (v := ?_) ?_ ?_
          rotate_left 1
          · intro W hSw
            obtain ⟨z0, z1, z2, z3, z4, z5, z6, z7, z8⟩ := hSw.a.atI HP.out; obtain ⟨y0, y1, y2, y3, y4, y5, y6, y7, y8⟩ := hSw.b.atI HQ.out
            clear hSw
            go_simp
            try with_reducible rfl
          try dsimp only [zS, zB, zC]
          refine wpAnyH_done (by kernel_rfl) ?_ _
          refine NoPanic.normal ?_
          have hne : o ≠ o2 := by have := HQq.out; rw [decide_eq_false_iff_not, eqO_iff] at this; exact this
          have HNe := Lib.hid hne
          have H9 := Lib.hid hHeld
          clear hne hHeld
          go_wp2_with fail
          go_ret
          refine ⟨⟨false, rfl, ?_⟩, H9.out.below⟩
          constructor
          · intro h; cases h
          · intro h
            exfalso
            have h1 : (xs.map Prod.fst)[m]? = (ys.map Prod.fst)[m]? := by rw [h]
            rw [List.getElem?_map, List.getElem?_map, HP.out, HQ.out] at h1
            simp only [Option.map_some] at h1
            injection h1 with h1
            exact HNe.out h1
        | true =>
          refine tk 9 (v := ?_) ?_ ?_
          rotate_left 1
          · intro W hSw
            obtain ⟨z0, z1, z2, z3, z4, z5, z6, z7, z8⟩ := hSw.a.atI HP.out; obtain ⟨y0, y1, y2, y3, y4, y5, y6, y7, y8⟩ := hSw.b.atI HQ.out
            clear hSw
            go_simp
            try with_reducible rfl
          try dsimp only [zS, zB, zC]
          refine wpAnyH_done (by kernel_rfl) ?_ _
          refine NoPanic.normal ?_
          have heq : o = o2 := by have := HQq.out; rw [decide_eq_true_iff, eqO_iff] at this; exact this
          have HEq := Lib.hid heq
          have H9 := Lib.hid hHeld
          clear heq hHeld
          go_wp2_with fail
          go_roundw
          case rel =>
            refine ⟨m + 1, by omega, by go_num, ?_, H9.out⟩
            rw [List.take_add_one, List.take_add_one, HT.out, List.getElem?_map, List.getElem?_map, HP.out, HQ.out]
            simp only [Option.map_some]
            rw [HEq.out]
          case measure => simp [intOf]; omega
      · obtain rfl : m = n := by omega
        have hmI : ¬ (m : Int) < (m : Int) := by omega
        clear hI
        go_wp2_with fail
        go_ret
        have ht := HT.out
        rw [List.take_of_length_le (by rw [List.length_map]; exact Nat.le_of_eq HNa.out), List.take_of_length_le (by rw [List.length_map]; exact Nat.le_of_eq HNb.out)] at ht
        exact ⟨.inr ⟨rfl, ht⟩, HI.out.below⟩
  · have hlI : ¬ (xs.length : Int) = (ys.length : Int) := by omega
    have hlB : ((xs.length : Int) != (ys.length : Int)) = true := by rw [bne_iff_ne]; exact hlI
    go_enter Tryz.func47, Tryz.ntmps47
    go_wp2_with fail
    go_ret
    refine ⟨⟨false, rfl, ?_⟩, Below.refl _ _⟩
    constructor
    · intro h; cases h
    · intro h
      exfalso
      have := congrArg List.length h
      rw [List.length_map, List.length_map] at this
      exact hl this
end Go.Proofs.YtbcigelgggimmaaGreatDoor
namespace Go.Proofs.YtbcigelgggimmaaGreatDoor
open Go Go.RowKit
def RPRet (B : Nat) (bs : List UInt8) (w : World) (e : Ending) (w' : World) : Prop :=
  ∃ v ps, e = .returned v ∧ ps.map Prod.fst = rdOps bs ∧ OpsOwn w' w.heap.size B v ps ∧ Below w.heap.size w w'
structure PrI (w wr : World) (B : Nat) (b v : Value) (ps : List (OpV × Value)) (bs r : List UInt8) : Prop where
  src : Bts wr B 5 b r
  out : OpsOwn wr w.heap.size B v ps
  eq : ps.map Prod.fst ++ rdOps r = rdOps bs
  below : Below w.heap.size w wr
  len : r.length ≤ bs.length
theorem PrI.step {w wr W W8 : World} {B : Nat} {b b2 v v8 V : Value} {ps : List (OpV × Value)} {bs r : List UInt8} {o1 o2 : Obj} (h : PrI w wr B b v ps bs r) (hB : B ≤ w.heap.size) (hr : 0 < r.length)
    (hV : Bts W B 5 V (rdOp r).1.val) (hb : Below wr.heap.size wr W) (hsrc : ∀ W', KeepB B 5 wr W' → Bts W' B 5 b2 (rdOp r).2)
    (hown : W8.ownsRow w.heap.size 41 9 v8 (ps.length + 1) (ocs ps ++ opcs (rdOp r).1 V)) (hg : ((W.alloc o1).alloc o2).grownBy W8 v.ownBlock) : PrI w W8 B b2 v8 (ps ++ [((rdOp r).1, V)]) bs (rdOp r).2 := by
  have hrow : ∀ k, v.ownBlock = some k → w.heap.size ≤ k ∧ ∃ cur, wr.heap[k]? = some (.cells cur 41 (0, 0)) := fun k hk => row_heap h.out.row hk
  have hW : Below w.heap.size w W := h.below.trans (hb.mono h.below.size)
  have hA : Only (fun k => v.ownBlock = some k) W W8 := (((Only.refl _ W).alloc o1).alloc o2).trans (Only.of_grown hg) (fun _ _ e => e)
  have hne : ∀ k, v.ownBlock = some k → ∃ cur, W.heap[k]? = some (.cells cur 41 (0, 0)) := fun k hk => by
    obtain ⟨_, cur, hc⟩ := hrow k hk
    exact ⟨cur, (hb.block k (lt_of_heap hc)).trans hc⟩
  have hk1 : KeepB B 5 wr W := KeepB.of_below hb
  have hk2 : KeepB B 5 W W8 := KeepB.of_only hA fun k hk e => ⟨by have := (hrow k e).1; omega, fun c fr hc => by
    obtain ⟨cur, h2⟩ := hne k e
    rw [h2] at hc
    injection hc with hc
    injection hc with _ ht
    exact absurd ht (by decide)⟩
  refine ⟨hsrc _ (hk1.trans hk2), ⟨?_, ?_, ?_⟩, ?_, hW.trans (hA.below (fun i hi _ e => by have := (hrow i e).1; omega) hW.size), ?_⟩
  · rw [List.length_append, List.length_singleton, ocs_append, show ocs [((rdOp r).1, V)] = opcs (rdOp r).1 V by simp [ocs]]
    exact hown
  · intro p hp
    rcases List.mem_append.1 hp with hp | hp
    · exact ((h.out.vals p hp).keep hk1).keep hk2
    · have e := List.mem_singleton.1 hp
      subst e
      exact hV.keep hk2
  · intro p hp
    rcases List.mem_append.1 hp with hp | hp
    · exact h.out.wf p hp
    · have e := List.mem_singleton.1 hp
      subst e
      exact rdOp_ticks r
  · rw [← h.eq, rdOps_cons r hr]; simp
  · have := rdOp_len r hr; have := h.len; omega
theorem size_bytes (w : World) : (sizeOf (Tryz.prog.elem 39)).run Tryz.prog w = .ok 1 w := by kernel_rfl
theorem src_op2 (w : World) (ob : Obj) (o : OpV) (V : Value) : Src ((w.alloc ob).alloc (.cells (opc o V) 41)) 9 (some ⟨w.heap.size + 1, 0, none⟩) 1 (opcs o V) := by
  have := src_op (w.alloc ob) o V
  rwa [World.size_alloc] at this
set_option maxRecDepth 100000 in
set_option maxHeartbeats 4000000 in
theorem refParse_any (B : Nat) (V0 : Value) (bs : List UInt8) (w : World) (hv : Bts w B 5 V0 bs) (hB : B ≤ w.heap.size) (hl : bs.length ≤ 5000) :
    Calls Tryz.prog 13 #[V0] w (RPRet B bs w) := by
  obtain ⟨i0, hi0, hz0, hz1, hz2⟩ := info_parts op_info
  obtain ⟨A, cap, rfl⟩ := hv.form
  have HV := Lib.hid hv
  have HS := Lib.hid hB
  have HL := Lib.hid hl
  have hN := rdOps_len bs.length bs (Nat.le_refl _)
  have HN := Lib.hid hN
  clear hv hB hl hN
  go_enter Tryz.func13, Tryz.ntmps13
  go_wp2_with fail
  go_loopw [0, 3] (fun b v wr => ∃ ps r, PrI w wr B b v ps bs r) (fun _ v _ => (rdOps bs).length - slLen v)
  case atStart => exact ⟨[], bs, HV.out, ⟨World.ownsRow_nil _ _ _ _, fun p hp => by simp at hp, fun p hp => by simp at hp⟩, rfl, Below.refl _ _, Nat.le_refl _⟩
  case round =>
    obtain ⟨ps, r, hI⟩ := hrel
    have hsrc := hI.src
    obtain ⟨A', c', rfl⟩ := hsrc.form
    have hrow := hI.out.row
    obtain ⟨A5, c5, rfl, _, _⟩ := own_form hrow
    have HI := Lib.hid hI
    have hrl := hI.len
    clear hrow hI
    have hpl : ps.length + (rdOps r).length = (rdOps bs).length := by rw [← HI.out.eq, List.length_append, List.length_map]
    by_cases hr0 : 0 < r.length
    · have hr0I : (0 : Int) < (r.length : Int) := by omega
      have hlt : ps.length < (rdOps bs).length := by
        rw [rdOps_cons r hr0, List.length_cons] at hpl
        omega
      have hle : ps.length ≤ 5000 := by have := HN.out; have := HL.out; omega
      have hr5 : r.length ≤ 5000 := by have := HL.out; omega
      have HR0 := Lib.hid hr0
      have HLe := Lib.hid hle
      have HLt := Lib.hid hlt
      have hfe := firstP_eq r
      have hfp := firstP_pos r
      have HF := Lib.hid (first_any B _ r wr HI.out.src (Nat.le_trans HS.out HI.out.below.size) hr5)
      have e1 : (firstP r).1 = (rdOp r).1 := by rw [hfe]
      have e2 : r.drop (firstP r).2 = (rdOp r).2 := by rw [hfe]
      obtain ⟨n, hn⟩ : ∃ n, (firstP r).2 = n := ⟨_, rfl⟩
      obtain ⟨o, ho⟩ : ∃ o, (rdOp r).1 = o := ⟨_, rfl⟩
      obtain ⟨m, hm⟩ : ∃ m, min n r.length = m := ⟨_, rfl⟩
      rw [hn] at e2
      have hml : m ≤ r.length := by omega
      have hmn : min (n : Int) (r.length : Int) = (m : Int) := by omega
      obtain ⟨A9, hA9⟩ : ∃ A9, sliced A' m r.length c' 1 = .slice A9 (r.length - m) (c' - m) := ⟨_, rfl⟩
      have hrs : Hid (∀ W', KeepB B 5 wr W' → Bts W' B 5 (.slice A9 (r.length - m) (c' - m)) (rdOp r).2) := Lib.hid fun W' hk => by
        rw [← hA9, ← e2, ← drop_min, hm]
        exact (HI.out.src.keep hk).from_ m hml
      have hsl : ∀ w', (Instr.slice 39 (.slice A' r.length c') (some (.int .i64 (m : Int))) none none).run Tryz.prog w' = .ok (.slice A9 (r.length - m) (c' - m)) w' := fun w' => by
        rw [run_slice_l w' 39 A' r.length c' Tryz.underlying39 .i64 _ (Int.natCast_nonneg _) (by omega)]
        rw [size_bytes, Int.toNat_natCast]
        exact congrArg (Result.ok · w') hA9
      have HFr : Hid (Calls Tryz.prog 48 #[.slice A' r.length c'] wr fun e w' => ∃ A c, e = .returned (.tuple #[opv o (.slice A o.val.length c), .int .i64 n]) ∧ Bts w' B 5 (.slice A o.val.length c) o.val ∧ Below wr.heap.size wr w') := Lib.hid (by
        have := HF.out
        unfold FirstRet at this
        rw [e1, hn, ho] at this
        exact this)
      obtain ⟨rl, hrl'⟩ : ∃ rl, r.length = rl := ⟨_, rfl⟩
      have HRl := Lib.hid hrl'
      have HO := Lib.hid ho
      rw [hrl'] at hrs hsl hmn hr0I HFr ⊢
      clear hpl hle hlt hr0 hfe hfp HF e1 e2 hn ho hm hml hA9 hrl hr5 hrl' hsrc
      unfold opv at HFr
      go_wp2_with fail
      refine HFr.out.mono ?_
      rintro e w7 ⟨A7, c7, rfl, hv7, hb7⟩
      have HV7 := Lib.hid hv7
      have HB7 := Lib.hid hb7
      have HRow7 := Lib.hid (own_later HI.out.out.row hb7)
      have HSrc := Lib.hid (src_op2 w7 (.cells (opc o (.slice A7 o.val.length c7)) 41) o (.slice A7 o.val.length c7))
      unfold opc at HSrc ⊢
      clear hv7 hb7 HFr
      go_wp2_with (at_builtin; refine wpList_append_src _ rfl _ _ _ rfl w.heap.size 41 i0 _ 9 96 Tryz.underlying22 hi0 hz0 hz1 hz2 rfl (by decide) _ ps.length (ocs ps) rfl ((HRow7.out.alloc _).alloc _) (some ⟨w7.heap.size + 1, 0, none⟩) 1 1 (opcs o (.slice A7 o.val.length c7)) rfl HSrc.out (opcs_one _ _ _ _) (by have := HLe.out; unfold maxLen; omega) (by have := HLe.out; omega) (by have := HI.out.below.size; have := HB7.out.size; simp; omega) ?_; intro v8 w8 hown8 hg8 hat8)
      have hst := PrI.step HI.out HS.out HR0.out (by rw [HO.out]; exact HV7.out) HB7.out hrs.out (by rw [HO.out]; exact hown8) hg8
      have HSt := Lib.hid hst
      have hsl8 : slLen v8 = ps.length + 1 := by
        obtain ⟨A8, c8, e8, _, _⟩ := own_form hown8
        rw [e8]; rfl
      have HSl := Lib.hid hsl8
      clear hst hown8 hg8 hat8 hsl8
      go_roundw
      case rel => exact ⟨_, _, HSt.out⟩
      case measure => rw [HSl.out]; show _ < (rdOps bs).length - ps.length; have := HLt.out; omega
    · have hr0I : ¬ (0 : Int) < (r.length : Int) := by omega
      have hnil : r = [] := by simpa using hr0
      subst hnil
      clear hpl hr0
      go_wp2_with fail
      go_ret
      unfold RPRet
      refine ⟨_, ps, rfl, ?_, HI.out.out, HI.out.below⟩
      rw [← HI.out.eq]; simp [rdOps, rdOpsF]
end Go.Proofs.YtbcigelgggimmaaGreatDoor
namespace Go.Proofs.YtbcigelgggimmaaGreatDoor
open Go Go.RowKit
set_option maxRecDepth 100000 in
set_option maxHeartbeats 8000000 in
theorem refValid_any (B : Nat) (o : OpV) (V : Value) (w : World) (hv : Bts w B 5 V o.val) (hk : KG w) (hwf : OpWf o) :
    Calls Tryz.prog 15 #[opv o V] w fun e w' => e = .returned (.bool (validP o)) ∧ Below w.heap.size w w' := by
  obtain ⟨VA, vc, rfl⟩ := hv.form
  unfold opv opc
  obtain ⟨w0, hw0⟩ : ∃ w0, w.alloc (.cells #[.int .i64 o.kind, .int .u64 o.ticks, .string o.key, .slice VA o.val.length vc, .int .u64 o.ttl, .int .i64 o.count, .int .i64 o.bytes, .int .i64 o.cursor, .int .u64 o.birth] 41) = w0 := ⟨_, rfl⟩
  have hbe : Below w.heap.size w w0 := hw0 ▸ (Below.refl _ _).alloc (Nat.le_refl _) _
  have HI0 : Hid (WrI w w0 B o (.slice VA o.val.length vc)) := Lib.hid ⟨hw0 ▸ Blk.new _ _ _, hv.below hbe, hk.below hbe hk.1, hbe⟩
  have HBy := Lib.hid (refBytes_any B o (.slice VA o.val.length vc) w0 HI0.out.val HI0.out.kg hwf)
  unfold opv opc at HBy
  obtain ⟨z0, z1, z2, z3, z4, z5, z6, z7, z8⟩ := op_cells HI0.out.box
  obtain ⟨l, hl⟩ : ∃ l, bytesP o = l := ⟨_, rfl⟩
  have hll := bytesP_len o
  unfold BytesRet at HBy
  rw [hl] at HBy hll
  have HL := Lib.hid hl
  obtain ⟨⟨fo, fn⟩, hf⟩ : ∃ q, firstP l = q := ⟨_, rfl⟩
  have HF := Lib.hid hf
  obtain ⟨m, hm⟩ : ∃ m, l.length = m := ⟨_, rfl⟩
  have HM := Lib.hid hm
  rw [hm] at hll
  have hmI : (m : Int) ≤ 292 := by omega
  clear hv hk hwf hbe hl hf hm
  go_enter Tryz.func15, Tryz.ntmps15
  go_upto_region 1 with fail
  try rw [hw0]
  clear hw0
  go_wp2_with fail
  refine HBy.out.mono ?_
  rintro e w1 ⟨v, rfl, hown, hb1⟩
  obtain ⟨A1, c1, rfl, _, _⟩ := own_form hown
  have HI1 := Lib.hid (HI0.out.adv hb1)
  have HBt := Lib.hid (Bts.of_own hown w1.heap.size)
  rw [HM.out] at HBt ⊢
  clear HBy HI0 hown hb1 z0 z1 z2 z3 z4 z5 z6 z7 z8
  by_cases h0 : m = 0
  · have h0I : (m : Int) = 0 := by omega
    subst h0
    have HS : Hid (validP o = false) := Lib.hid (by unfold validP; rw [HL.out, HF.out]; simp [HM.out])
    go_wp2_with fail
    go_ret
    first | exact ⟨by rw [HS.out]; rfl, HI1.out.below⟩ | exact ⟨by rw [HS.out], HI1.out.below⟩
  · have h0b : ((m : Int) == 0) = false := by simp; omega
    have HFi := Lib.hid (first_any w1.heap.size (.slice A1 m c1) l w1 HBt.out (Nat.le_refl _) (by rw [HM.out]; omega))
    unfold FirstRet at HFi
    rw [HF.out] at HFi
    dsimp only at HFi
    go_wp2_with fail
    refine HFi.out.mono ?_
    rintro e w2 ⟨A2, c2, rfl, hv2, hb2⟩
    have HI2 := Lib.hid (HI1.out.adv hb2)
    have HV2 := Lib.hid hv2
    clear HFi HI1 hv2 hb2
    unfold opv opc
    have y0 := fun ob => op_cells (HI2.out.box.alloc ob)
    have HB2 : ∀ ob, Hid (Below w.heap.size w (w2.alloc ob)) := fun ob => Lib.hid (HI2.out.below.alloc HI2.out.below.size ob)
    by_cases hn : fn = m
    · have hnb : ((fn : Int) == (m : Int)) = true := by simp [hn]
      obtain ⟨q, hq⟩ : ∃ q, decide (eqO fo o) = q := ⟨_, rfl⟩
      have HQ := Lib.hid hq
      have HE := Lib.hid (fun ob => refEqual_any w1.heap.size B fo o (.slice A2 fo.val.length c2) (.slice VA o.val.length vc) (w2.alloc ob) (HV2.out.alloc ob) (HI2.out.val.alloc ob))
      rw [hq] at HE
      unfold opv opc at HE
      have HS : Hid (validP o = q) := Lib.hid (by unfold validP; rw [HL.out, HF.out, HM.out]; simp [hn, h0, HQ.out])
      clear hq
      have x0 : ∀ ob, (w2.alloc ob).cell? ⟨w.heap.size, 0, none⟩ = some (.int .i64 o.kind) := fun ob => (y0 ob).1
      have x1 : ∀ ob, (w2.alloc ob).cell? ⟨w.heap.size, 1, none⟩ = some (.int .u64 o.ticks) := fun ob => (y0 ob).2.1
      have x2 : ∀ ob, (w2.alloc ob).cell? ⟨w.heap.size, 2, none⟩ = some (.string o.key) := fun ob => (y0 ob).2.2.1
      have x3 : ∀ ob, (w2.alloc ob).cell? ⟨w.heap.size, 3, none⟩ = some (.slice VA o.val.length vc) := fun ob => (y0 ob).2.2.2.1
      have x4 : ∀ ob, (w2.alloc ob).cell? ⟨w.heap.size, 4, none⟩ = some (.int .u64 o.ttl) := fun ob => (y0 ob).2.2.2.2.1
      have x5 : ∀ ob, (w2.alloc ob).cell? ⟨w.heap.size, 5, none⟩ = some (.int .i64 o.count) := fun ob => (y0 ob).2.2.2.2.2.1
      have x6 : ∀ ob, (w2.alloc ob).cell? ⟨w.heap.size, 6, none⟩ = some (.int .i64 o.bytes) := fun ob => (y0 ob).2.2.2.2.2.2.1
      have x7 : ∀ ob, (w2.alloc ob).cell? ⟨w.heap.size, 7, none⟩ = some (.int .i64 o.cursor) := fun ob => (y0 ob).2.2.2.2.2.2.2.1
      have x8 : ∀ ob, (w2.alloc ob).cell? ⟨w.heap.size, 8, none⟩ = some (.int .u64 o.birth) := fun ob => (y0 ob).2.2.2.2.2.2.2.2
      clear y0
      go_wp2_with fail
      refine (HE.out _).mono ?_
      rintro e w3 ⟨rfl, hb3⟩
      have HB3 := Lib.hid ((HB2 _).out.trans (hb3.mono (HB2 _).out.size))
      clear hb3 x0 x1 x2 x3 x4 x5 x6 x7 x8 HE
      go_wp2_with fail
      go_ret
      first | exact ⟨by rw [HS.out]; rfl, HB3.out⟩ | exact ⟨by rw [HS.out], HB3.out⟩
    · have hnb : ((fn : Int) == (m : Int)) = false := by simp; omega
      clear y0
      have HS : Hid (validP o = false) := Lib.hid (by unfold validP; rw [HL.out, HF.out, HM.out]; simp [hn])
      go_wp2_with fail
      go_ret
      first | exact ⟨by rw [HS.out]; rfl, (HB2 _).out⟩ | exact ⟨by rw [HS.out], (HB2 _).out⟩
/-- What Write is to hand back. -/
def WrWant (os : List OpV) (ws : List UInt8) (e0 : Int) : Prop := match wrOps os with
  | none => ws = [] ∧ e0 = 2
  | some bs => if 4096 < bs.length then ws = [] ∧ e0 = 5 else ws = bs ∧ e0 = 0
set_option maxRecDepth 100000 in
set_option maxHeartbeats 4000000 in
theorem writes_any (Bv Bw : Nat) (V vw : Value) (ps : List (OpV × Value)) (ws : List UInt8) (e0 : Int) (w : World) (h : OpsAt w Bv V ps) (hk : KG w) (hw : Bts w Bw 5 vw ws) (hl : ps.length ≤ 1000000) (hok : WrWant (ps.map Prod.fst) ws e0) :
    Calls Tryz.prog 17 #[V, vw, .int .i64 e0] w fun e w' => e = .returned (.bool true) ∧ Below w.heap.size w w' := by
  have HP := Lib.hid (writeOps_any Bv V ps w h hk hl)
  obtain ⟨A, cap, rfl⟩ := h.slice
  obtain ⟨AW, wc, rfl⟩ := hw.form
  have HW := Lib.hid hw
  have HR : Hid (∀ e w', WriteRet (ps.map Prod.fst) w e w' → ∃ A5 c5, e = .returned (.tuple #[.slice A5 ws.length c5, .int .i64 e0]) ∧ Bts w' w'.heap.size 5 (.slice A5 ws.length c5) ws ∧ Below w.heap.size w w') := Lib.hid fun e w' hr => by
    unfold WriteRet at hr
    unfold WrWant at hok
    cases hq : wrOps (ps.map Prod.fst) with
    | none =>
      rw [hq] at hr hok
      obtain ⟨rfl, rfl⟩ := hok
      obtain ⟨rfl, hb⟩ := hr
      exact ⟨none, 0, rfl, Bts.nil _ _ _, hb⟩
    | some bs =>
      rw [hq] at hr hok
      dsimp only at hr hok
      by_cases hlt : 4096 < bs.length
      · rw [if_pos hlt] at hr hok
        obtain ⟨rfl, rfl⟩ := hok
        obtain ⟨rfl, hb⟩ := hr
        exact ⟨none, 0, rfl, Bts.nil _ _ _, hb⟩
      · rw [if_neg hlt] at hr hok
        obtain ⟨rfl, rfl⟩ := hok
        obtain ⟨v, rfl, hown, hb⟩ := hr
        obtain ⟨A5, c5, rfl, _, _⟩ := own_form hown
        exact ⟨A5, c5, rfl, Bts.of_own hown _, hb⟩
  obtain ⟨n, hn⟩ : ∃ n, ps.length = n := ⟨_, rfl⟩
  rw [hn] at HP ⊢
  have he : (ws == ws) = true := by simp
  have he2 : (e0 == e0) = true := by simp
  clear h hk hw hl hok hn
  go_enter Tryz.func17, Tryz.ntmps17
  go_wp2_with fail
  refine HP.out.mono ?_
  intro e w1 hret
  obtain ⟨A5, c5, rfl, hb5, hb⟩ := HR.out _ _ hret
  have HB := Lib.hid hb
  have cv := hb5.string (P := Tryz.prog) 39 9 Tryz.underlying39 Tryz.underlying5 Tryz.underlying9
  have cu := (HW.out.below hb).string (P := Tryz.prog) 39 9 Tryz.underlying39 Tryz.underlying5 Tryz.underlying9
  clear hret hb hb5 HP HR
  go_wp2_with fail
  go_ret
  exact ⟨rfl, HB.out⟩
end Go.Proofs.YtbcigelgggimmaaGreatDoor
namespace Go.Sy
open Go Go.RowKit
noncomputable def putRs {β : Type} (rs : List (Nat × GV)) : Heap → (Heap → β) → β :=
  List.rec (motive := fun _ => Heap → (Heap → β) → β) (fun H k => k H)
    (fun g _ ih H k => putCells g.2.l .e 0 fun c => frc (len g.2.l) fun m => Q8.set (some (.row g.2.t (fun _ => none) m c true false)) H g.1 fun H => ih H k) rs
noncomputable def sameRs (H : Heap) (rs : List (Nat × GV)) : Prop :=
  List.rec True (fun g _ ih => sameG g.2 (Q8.get H g.1) ∧ ih) rs
noncomputable def runP (P : Program) (O : Orc) (fuel : Nat) (f : FuncId) (args : List AV) (res : AV) (rs : List (Nat × GV)) (nb : Nat) : Prop :=
  putRs rs Q8.e fun H => match (ev P O fuel).ef f args (Nat.add 64 nb) H with
    | .ok v n' H' => (match Nat.ble n' 65536 with | true => v = res ∧ sameRs H' rs | false => False)
    | .er _ => False
noncomputable def hR : List (Nat × GV) → Heap → Heap
  | [], H => H
  | g :: rs, H => hR rs (Q8.upd H g.1 (some (rowG g.2)))
theorem putRs_k {β : Type} (rs : List (Nat × GV)) : ∀ (H : Heap) (k : Heap → β), putRs rs H k = k (hR rs H) := by
  induction rs with
  | nil => intro H k; rfl
  | cons g rs ih =>
    intro H k
    show putCells g.2.l .e 0 (fun c => frc (len g.2.l) fun m => Q8.set (some (.row g.2.t (fun _ => none) m c true false)) H g.1 fun H => putRs rs H k) = _
    rw [putCells_k, frc_eq, Q8.set_k, ih, len_eq]
    rfl
theorem get_hR (rs : List (Nat × GV)) : ∀ (H : Heap) (x : Nat), (∀ g ∈ rs, g.1 < LIM) → x < LIM → Q8.get (hR rs H) x = Q8.get H x ∨ ∃ g ∈ rs, g.1 = x ∧ Q8.get (hR rs H) x = some (rowG g.2) := by
  induction rs with
  | nil => intro H x _ _; exact .inl rfl
  | cons g rs ih =>
    intro H x hl hx
    rcases ih (Q8.upd H g.1 (some (rowG g.2))) x (fun g hg => hl g (List.mem_cons_of_mem _ hg)) hx with h | ⟨y, h1, h2, h3⟩
    · rw [Q8.get_upd _ _ _ _ (hl g List.mem_cons_self) hx] at h
      by_cases he : g.1 = x
      · rw [if_pos he] at h
        exact .inr ⟨g, List.mem_cons_self, he, h⟩
      · rw [if_neg he] at h; exact .inl h
    · exact .inr ⟨y, List.mem_cons_of_mem _ h1, h2, h3⟩
theorem sameRs_at {H : Heap} : ∀ {rs : List (Nat × GV)}, sameRs H rs → ∀ g ∈ rs, sameG g.2 (Q8.get H g.1)
  | [], _, g, hg => by cases hg
  | g' :: rs, h, g, hg => by
    have h : sameG g'.2 (Q8.get H g'.1) ∧ sameRs H rs := h
    rcases List.mem_cons.1 hg with rfl | hg
    · exact h.1
    · exact sameRs_at h.2 g hg
/-- The symbols at first: the program's variables, the arguments' blocks. -/
def sgB (bs : List Nat) : Sg := ⟨fun x => if x < 64 then some x else bs[x - 64]?, fun _ => 0⟩
theorem sgB_some {bs : List Nat} {x b : Nat} (h : (sgB bs).blk x = some b) : (x < 64 ∧ b = x) ∨ (64 ≤ x ∧ x < 64 + bs.length ∧ bs[x - 64]? = some b) := by
  simp only [sgB] at h
  split at h
  · rename_i hx; injection h with h; exact .inl ⟨hx, h.symm⟩
  · rename_i hx
    have := (List.getElem?_eq_some_iff.1 h).1
    exact .inr ⟨by omega, by omega, h⟩
/-- What a run starts from: rows whole, each in a block of its own. -/
structure RowsAt (w : World) (rs : List (Nat × GV)) (bs : List Nat) : Prop where
  good : ∀ g ∈ rs, g.2.Good
  blk : ∀ g ∈ rs, ∃ b, (sgB bs).blk g.1 = some b ∧ w.heap[b]? = some (Obj.cells ⟨g.2.vs⟩ g.2.t (0, 0))
  inj : ∀ g ∈ rs, ∀ g' ∈ rs, ∀ b, (sgB bs).blk g.1 = some b → (sgB bs).blk g'.1 = some b → g.1 = g'.1
  few : bs.length ≤ 1000
section
variable {P : Program}
theorem run_args {O : Orc} (hm : P.follows .mixedOrders = true) (hO : OrcOk P O) {fuel : Nat} {f : FuncId} {args : List AV} {res : AV} {rs : List (Nat × GV)} {bs : List Nat} {Args : List Value} {V : Value}
    {w : World} (hrs : RowsAt w rs bs) (hA : concL (sgB bs) args = some Args) (hV : ∀ s, res.conc s = some V) (h : runP P O fuel f args res rs bs.length) : Calls P f ⟨Args⟩ w fun e w' => e = .returned V ∧ Below w.heap.size w w' := by
  have hL : (65536 : Nat) = LIM := rfl
  have hfew := hrs.few
  have hlt : ∀ g ∈ rs, g.1 < LIM := fun g hg => by
    obtain ⟨b, hb, _⟩ := hrs.blk g hg
    rcases sgB_some hb with ⟨a1, a2⟩ | ⟨a1, a2, a3⟩ <;> omega
  unfold runP at h
  rw [putRs_k] at h
  have hget : ∀ x, x < LIM → Q8.get (hR rs Q8.e) x = none ∨ ∃ g ∈ rs, g.1 = x ∧ Q8.get (hR rs Q8.e) x = some (rowG g.2) := fun x hx => by
    rcases get_hR rs Q8.e x hlt hx with h | h
    · exact .inl (h.trans (Q8.get_e x))
    · exact .inr h
  have hr0 : Rel P (sgB bs) (hR rs Q8.e) w := by
    refine ⟨fun x b hb => ?_, fun g hg => by simp [sgB, hg], fun x A hx hA => ?_, fun x y b hx hy h1 h2 h3 h4 => ?_⟩
    · rcases sgB_some hb with ⟨a1, a2⟩ | ⟨a1, a2, a3⟩ <;> omega
    · rcases hget x hx with h | ⟨g, hg, rfl, h⟩
      · rw [h] at hA; cases hA
      · rw [h] at hA; injection hA with hA; subst hA
        obtain ⟨b, hb, hw⟩ := hrs.blk g hg
        exact ⟨b, _, hb, hw, rowG_good (hrs.good g hg) _ _⟩
    · rcases hget x hx with h | ⟨g, hg, rfl, h⟩
      · exact absurd h h1
      · rcases hget y hy with h' | ⟨g', hg', rfl, h'⟩
        · exact absurd h' h2
        · exact hrs.inj g hg g' hg' b h3 h4
  split at h
  · rename_i v n' H' hev
    split at h
    · rename_i h2
      obtain ⟨h1, h⟩ := h
      subst h1
      refine callsIn_wide.1 (calls_of_ev hm hO hev hA hr0 (fun x h1 _ => ?_) (Nat.le_of_ble_eq_true h2) fun V' s' w' hv hr hs => ?_)
      · have h1 : 64 + bs.length ≤ x := h1
        simp only [sgB]
        rw [if_neg (by omega), List.getElem?_eq_none (by omega)]
      rw [hV] at hv
      injection hv with hv
      subst hv
      refine ⟨rfl, hs.os, hs.tape, hs.output, hs.size, fun k hk => ?_⟩
      have hoff : ∀ x, x < 64 + bs.length → s'.blk x = (sgB bs).blk x := fun x hx => (hs.off x (.inl hx)).1
      by_cases hex : ∃ x, x < LIM ∧ Q8.get (hR rs Q8.e) x ≠ none ∧ (sgB bs).blk x = some k
      · obtain ⟨x, hx, hxn, hxb⟩ := hex
        rcases hget x hx with h' | ⟨g, hg, rfl, h'⟩
        · exact absurd h' hxn
        · have hsm := sameRs_at h g hg
          cases hB : Q8.get H' g.1 with
          | none => rw [hB] at hsm; exact hsm.elim
          | some B =>
            rw [hB] at hsm
            obtain ⟨b, o, b1, b2, b3⟩ := hr.blk g.1 B hx hB
            have hx2 : g.1 < 64 + bs.length := by rcases sgB_some hxb with ⟨a1, a2⟩ | ⟨a1, a2, a3⟩ <;> omega
            rw [hoff g.1 hx2, hxb] at b1
            injection b1 with b1; subst b1
            obtain ⟨b', hb', hw⟩ := hrs.blk g hg
            rw [hxb] at hb'; injection hb' with hb'; subst hb'
            rw [b2, hw, sameG_row (hrs.good g hg) hsm b3]
      · exact hs.frame k hk fun x hx h1 h2 => hex ⟨x, hx, h1, h2⟩
    · cases h
  · cases h
theorem rowsAt_nil (w : World) : RowsAt w [] [] := ⟨by simp, by simp, by simp, by simp⟩
/-- No rows: values alone. -/
theorem run_vals {O : Orc} (hm : P.follows .mixedOrders = true) (hO : OrcOk P O) {fuel : Nat} {f : FuncId} {args : List AV} {res : AV} {Args : List Value} {V : Value}
    (hA : concL (sgB []) args = some Args) (hV : ∀ s, res.conc s = some V) (h : runP P O fuel f args res [] 0) (w : World) : Calls P f ⟨Args⟩ w fun e w' => e = .returned V ∧ Below w.heap.size w w' :=
  run_args hm hO (rowsAt_nil w) hA hV h
/-- The program's variables. -/
theorem rowsAt_globals {w : World} {rs : List (Nat × GV)} (hg : ∀ g ∈ rs, g.2.Good) (hw : ∀ g ∈ rs, g.1 < 64 ∧ w.heap[g.1]? = some (Obj.cells ⟨g.2.vs⟩ g.2.t (0, 0))) : RowsAt w rs [] := by
  refine ⟨hg, fun g h => ⟨g.1, by simp [sgB, (hw g h).1], (hw g h).2⟩, fun g h g' h' b e e' => ?_, by simp⟩
  rcases sgB_some e with ⟨a1, a2⟩ | ⟨a1, a2, a3⟩ <;> rcases sgB_some e' with ⟨b1, b2⟩ | ⟨b1, b2, b3⟩ <;> first | omega | (simp at a2 b2; omega) | (simp at a3) | (simp at b3)
end
/-- Integers in a row. -/
def gInts (k : IntKind) (t : TypeId) (l : List Nat) : GV := ⟨t, l.map fun n => .i k (.ofNat n), l.map fun n => .int k (.ofNat n)⟩
theorem gInts_good (k : IntKind) (t : TypeId) (l : List Nat) : (gInts k t l).Good := by
  refine ⟨fun s => ?_, fun v hv => ?_⟩
  · show concL s (l.map fun n => .i k (.ofNat n)) = some (l.map fun n => .int k (.ofNat n))
    induction l with
    | nil => rfl
    | cons a r ih => exact concL_cons.2 ⟨_, _, rfl, ih, rfl⟩
  · simp only [gInts, List.mem_map] at hv
    obtain ⟨n, _, rfl⟩ := hv
    rfl
def bruijnN : List Nat := [0,1,56,2,57,49,28,3,61,58,42,50,38,29,17,4,62,47,59,36,45,43,51,22,53,39,33,30,24,18,12,5,63,55,48,27,60,41,37,16,46,35,44,21,52,32,23,11,54,26,40,15,34,20,31,10,25,14,19,9,13,8,7,6]
def kindsN : List Nat := [3,1,2,4,5,6,7,8,9,10,11,12,13,14,3,1]
end Go.Sy
