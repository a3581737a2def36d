/- SymH, SymI -/
import Derived.Test.YtccballhhbgfaaaGreatDoorMe4
import Derived.Laws.Tables
import Derived.Laws.MakeOwn
import Derived.LaidEql
namespace Go.Sy
open Go
section
variable {P : Program}
theorem zeroC_run {t : TypeId} {z : List AV} (h : zeroC P t = some z) : ∃ i v vs, P.info? t = some i ∧ i.zero = some v ∧ v.cells = ⟨vs⟩ ∧ vs.length = z.length ∧ ∀ s, concL s z = some vs ∧ vs.all Value.oneCell' = true := by
  unfold zeroC at h
  split at h
  · cases h
  · rename_i u hnt hz
    injection h with h; subst h
    unfold zeroB at hz
    split at hz
    · rename_i i hi
      split at hz
      · rename_i v hv
        obtain ⟨vs, _, h2, _⟩ := ofValue_not_tup hz hnt ⟨fun _ => none, fun _ => 0⟩
        refine ⟨i, v, vs, hi, hv, h2, ?_, fun s => ?_⟩
        · have h1 := (ofValue_not_tup hz hnt ⟨fun _ => none, fun _ => 0⟩)
          obtain ⟨vs', k1, k2, _⟩ := h1
          rw [h2] at k2; injection k2 with k2; subst k2
          exact concL_length k1
        · obtain ⟨vs', k1, k2, k3⟩ := ofValue_not_tup hz hnt s
          rw [h2] at k2; injection k2 with k2; subst k2
          exact ⟨k1, k3⟩
      · cases hz
    · cases hz
  · cases h
theorem zeroB_info {t : TypeId} {z : AV} (h : zeroB P t = some z) : ∃ i v, P.info? t = some i ∧ i.zero = some v ∧ ofValue v = some z := by
  unfold zeroB at h
  split at h
  · rename_i i hi
    split at h
    · rename_i v hv; exact ⟨i, v, hi, hv, h⟩
    · cases h
  · cases h
theorem sizeB_info {t : TypeId} {k : Nat} {i : TypeInfo} (h : sizeB P t = some k) (hi : P.info? t = some i) : i.size = k := by
  unfold sizeB at h; rw [hi] at h; injection h
/-! Rows -/
/-- A row of which all is known. -/
theorem rowR {s : Sg} {x : Nat} {t : TypeId} {z : Nat → Option AV} {m : Nat} {c : T AV} {mk : Bool} {vs : List Value} (hm : vs.length = m) (h1 : vs.all Value.oneCell' = true) (h : ∀ i A, cellAt z m c i = some A → ∃ V, A.conc s = some V ∧ vs[i]? = some V) :
    BlkR P s x (.row t z m c true mk) (.cells ⟨vs⟩ t (0, 0)) := by
  refine ⟨rfl, by simp [hm], fun i A hA => ?_, by simp [hm], .inl rfl⟩
  obtain ⟨V, v1, v2⟩ := h i A hA
  exact ⟨V, v1, by simpa using v2, (List.all_eq_true.1 h1) V (List.mem_of_getElem? v2)⟩
theorem cellAt_puts {l : List AV} {m i : Nat} {A : AV} (h : cellAt (fun _ => none) m (T.e.puts l 0) i = some A) : l[i]? = some A := by
  rw [cellAt_eq] at h
  split at h
  · rw [T.get_puts] at h
    split at h
    · rename_i hi
      split at hi
      · rename_i h2
        rw [Nat.sub_zero] at hi
        rw [h] at hi; exact hi
      · cases hi
    · cases h
  · cases h
theorem rowL {s : Sg} {x : Nat} {t : TypeId} {mk : Bool} {l : List AV} {vs : List Value} (h : concL s l = some vs) (h1 : vs.all Value.oneCell' = true) : BlkR P s x (.row t (fun _ => none) l.length (T.e.puts l 0) true mk) (.cells ⟨vs⟩ t (0, 0)) :=
  rowR (concL_length h) h1 fun _ _ hA => concL_get h (cellAt_puts hA)
theorem zpat_eq {l : List AV} {i : Nat} : zpat l i = l[i % l.length]? := by
  unfold zpat; rw [nth_eq, len_eq]; rfl
/-- Zero cells again and again. -/
theorem rowZ {s : Sg} {x : Nat} {t : TypeId} {mk : Bool} {z : List AV} {vs : List Value} (h : concL s z = some vs) (h1 : vs.all Value.oneCell' = true) (k : Nat) : BlkR P s x (.row t (zpat z) k .e true mk) (.cells (madeCells ⟨vs⟩ k) t (0, 0)) := by
  have key : ∀ i, i < k → ∀ A, zpat z i = some A → ∃ V, A.conc s = some V ∧ (madeCells ⟨vs⟩ k)[i]? = some V ∧ V.oneCell' = true := fun i hi A hA => by
    rw [zpat_eq] at hA
    obtain ⟨V, v1, v2⟩ := concL_get h hA
    refine ⟨V, v1, ?_, (List.all_eq_true.1 h1) V (List.mem_of_getElem? v2)⟩
    have hl := concL_length h
    simp only [madeCells, Array.getElem?_map, Array.getElem?_range, hi, if_true, Option.map_some, Option.some.injEq, List.size_toArray]
    rw [hl]
    have : (⟨vs⟩ : Array Value)[i % z.length]! = (vs[i % z.length]?).getD default := by simp [Array.getElem!_eq_getD]
    rw [this, v2]; rfl
  refine ⟨rfl, by simp [madeCells], fun i A hA => ?_, by simp [madeCells], .inl rfl⟩
  rw [cellAt_eq] at hA
  split at hA
  · rename_i hi
    exact key i hi A hA
  · cases hA
theorem evAlloc_ok {o : Oper} {t : TypeId} (hop : o.op = .alloc t) {env : Env} {n n' : Nat} {H H' : Heap} {v : AV} (h : evAlloc P t env n H = .val v n' H') :
    ∃ A, n' = n + 1 ∧ H' = Q8.upd H n (some A) ∧ NewOk P o env n v A := by
  unfold evAlloc at h
  split at h
  · cases h
  · rename_i z hz
    rw [frc_eq, Q8.set_k, frc_eq] at h
    injection h with h1 h2 h3
    subst h1 h2 h3
    refine ⟨_, rfl, rfl, fun s N a w he hg hn => ?_⟩
    obtain ⟨i, v, vs, hi, hv, hc, hl, hs⟩ := zeroC_run hz
    obtain ⟨c1, c2⟩ := hs (s.set n w.heap.size 0)
    refine ⟨.pointer (some ⟨w.heap.size, 0, none⟩), .cells ⟨vs⟩ t (0, 0), 0, w.alloc (.cells ⟨vs⟩ t), ?_, rfl, rfl, rfl, rfl, by simp [AV.conc, Sg.set], ?_⟩
    · simp [execOp, hop, Instr.alloc, zeroValue, typeInfo, hi, hv, newVar, newRow, hc]
    · refine rowR (by rw [len_eq, hl]) c2 fun i A hA => ?_
      rw [cellAt_eq] at hA
      split at hA
      · rename_i hlt
        have hA : zpat z i = some A := hA
        rw [zpat_eq, Nat.mod_eq_of_lt (by rw [len_eq] at hlt; exact hlt)] at hA
        exact concL_get c1 hA
      · cases hA
theorem newRowA_k {t : TypeId} {l : List AV} {ex mk : Bool} {n : Nat} {H : Heap} {k : Nat → Heap → OR} : newRowA t l ex mk n H k = k (n + 1) (Q8.upd H n (some (.row t (fun _ => none) l.length (T.e.puts l 0) ex mk))) := by
  unfold newRowA
  rw [putCells_k, frc_eq, Q8.set_k, frc_eq, len_eq]
theorem evBox_ok {o : Oper} {t : TypeId} {x : Operand} (hop : o.op = .box t x) {env : Env} {n n' : Nat} {H H' : Heap} {v : AV} (h : evBox P t x env n H = .val v n' H') :
    ∃ A, n' = n + 1 ∧ H' = Q8.upd H n (some A) ∧ NewOk P o env n v A := by
  unfold evBox at h
  split at h
  · cases h
  · rename_i u hnt hx
    rw [newRowA_k] at h
    injection h with h1 h2 h3
    subst h1 h2 h3
    refine ⟨_, rfl, rfl, fun s N a w he hg hn => ?_⟩
    obtain ⟨vs, c1, c2, c3⟩ := cells_conc (opd_conc he hg hx) hnt
    have hle := Sg.set_le (b := w.heap.size) (c := 0) hn
    refine ⟨.pointer (some ⟨w.heap.size, 0, none⟩), .cells ⟨vs⟩ t (0, 0), 0, w.alloc (.cells ⟨vs⟩ t), ?_, rfl, rfl, rfl, rfl, by simp [AV.conc, Sg.set], rowL (concL_le hle _ c1) c3⟩
    simp [execOp, hop, Instr.box, newVar, newRow, c2]
  · cases h
theorem places_eq : ∀ {fs : List Field} {pl : List (Nat × Nat)}, places P fs = some pl → fs.mapM (fun f => (P.info? f.type).map fun i => (f.offset, i.size)) = some pl
  | [], pl, h => by injection h with h; subst h; rfl
  | f :: fs, pl, h => by
    have h : (match sizeB P f.type with | some s => (match places P fs with | some r => some ((f.offset, s) :: r) | none => none) | none => none) = some pl := h
    split at h
    · rename_i k hk
      split at h
      · rename_i r hr
        injection h with h; subst h
        unfold sizeB at hk
        split at hk
        · rename_i i hi
          injection hk with hk; subst hk
          simp [List.mapM_cons, hi, places_eq hr]
        · cases hk
      · cases h
    · cases h
theorem evBuild_ok {o : Oper} {t : TypeId} {ps : Array (Nat × Operand)} (hop : o.op = .build t ps) {env : Env} {n n' : Nat} {H H' : Heap} {v : AV} (h : evBuild P t ps.toList env n H = .val v n' H') : n' = n ∧ H' = H ∧ PureOk P o env v := by
  unfold evBuild at h
  split at h
  · rename_i z fs hz hu
    split at h
    · rename_i pl hpl
      split at h
      · rename_i l hl
        injection h with h1 h2 h3
        subst h1 h2 h3
        refine ⟨rfl, rfl, fun s N a he hg => ?_⟩
        obtain ⟨i, v, vs, hi, hv, hc, _, hs⟩ := zeroC_run hz
        obtain ⟨c1, c2⟩ := hs s
        obtain ⟨us, d1, d2, d3⟩ := fillA_ok he hg (pA := nth pl) (pM := (pl.toArray[·]?)) (fun i x hx => by rw [nth_eq] at hx; simpa using hx) hl c1 c2
        refine ⟨.agg ⟨us⟩, conc_agg d1 d2, fun w => ?_⟩
        have hb : P.built t ((ps.map fun (x : Nat × Operand) => (x.1, a.eval x.2)).toList) = some ⟨us⟩ := by
          simp only [Program.built, hi, hu, hv, places_eq hpl, hc, Array.toList_map]
          exact d3
        have := run_build w t _ _ hb
        simp [execOp, hop, this]
      · cases h
    · cases h
  · rename_i z k e hz hu
    split at h
    · rename_i sz hsz
      split at h
      · rename_i l hl
        injection h with h1 h2 h3
        subst h1 h2 h3
        refine ⟨rfl, rfl, fun s N a he hg => ?_⟩
        obtain ⟨i, v, vs, hi, hv, hc, _, hs⟩ := zeroC_run hz
        obtain ⟨c1, c2⟩ := hs s
        obtain ⟨us, d1, d2, d3⟩ := fillA_ok he hg (pA := fun i => some (Nat.mul i sz, sz)) (pM := fun i => some (i * sz, sz)) (fun i x hx => hx) hl c1 c2
        refine ⟨.agg ⟨us⟩, conc_agg d1 d2, fun w => ?_⟩
        have hie : ∃ ie, P.info? e = some ie ∧ ie.size = sz := by
          unfold sizeB at hsz
          split at hsz
          · rename_i ie hie; injection hsz with hsz; exact ⟨ie, hie, hsz⟩
          · cases hsz
        obtain ⟨ie, hie, hsz'⟩ := hie
        have hb : P.built t ((ps.map fun (x : Nat × Operand) => (x.1, a.eval x.2)).toList) = some ⟨us⟩ := by
          simp only [Program.built, hi, hu, hv, hie, hsz', hc, Array.toList_map]
          exact d3
        have := run_build w t _ _ hb
        simp [execOp, hop, this]
      · cases h
    · cases h
  · cases h
theorem times_conc {s : Sg} {z : List AV} {vs : List Value} (h : concL s z = some vs) (h1 : vs.all Value.oneCell' = true) : ∀ k, ∃ us, concL s (times z k) = some us ∧ us.all Value.oneCell' = true ∧ us = (List.replicate k vs).flatten
  | 0 => ⟨[], rfl, rfl, rfl⟩
  | k + 1 => by
    obtain ⟨us, u1, u2, u3⟩ := times_conc h h1 k
    exact ⟨vs ++ us, concL_append h u1, by simp only [List.all_append, h1, u2, Bool.and_self], by rw [u3, List.replicate_succ, List.flatten_cons]⟩
theorem range_mod (vs : List Value) (k : Nat) (_hp : 0 < vs.length) : ((Array.range (k * vs.length)).map ((⟨vs⟩ : Array Value)[· % vs.length]!)) = ⟨(List.replicate k vs).flatten⟩ := by
  apply Array.ext'
  apply List.ext_getElem?
  intro i
  have e1 : ((Array.range (k * vs.length)).map ((⟨vs⟩ : Array Value)[· % vs.length]!)).toList[i]? = if i < k * vs.length then some ((vs[i % vs.length]?).getD default) else none := by
    rw [Array.getElem?_toList, Array.getElem?_map, Array.getElem?_range]
    split <;> simp [Array.getElem!_eq_getD]
  rw [e1]
  clear e1
  induction k generalizing i with
  | zero => simp
  | succ k ih =>
    rw [List.replicate_succ, List.flatten_cons]
    by_cases hi : i < vs.length
    · rw [List.getElem?_append_left hi, if_pos (by rw [Nat.succ_mul]; omega), Nat.mod_eq_of_lt hi]
      simp [List.getElem?_eq_getElem hi]
    · rw [List.getElem?_append_right (by omega), ← ih (i - vs.length)]
      have hm : i % vs.length = (i - vs.length) % vs.length := (Nat.mod_eq_sub_mod (by omega))
      rw [hm]
      by_cases h2 : i < (k + 1) * vs.length
      · rw [if_pos h2, if_pos (by rw [Nat.succ_mul] at h2; omega)]
      · rw [if_neg h2, if_neg (by rw [Nat.succ_mul] at h2; omega)]
theorem evBuildSlice_ok {o : Oper} {t : TypeId} {m : Nat} {ps : Array (Nat × Operand)} (hop : o.op = .buildSlice t m ps) {env : Env} {n n' : Nat} {H H' : Heap} {v : AV} (h : evBuildSlice P t m ps.toList env n H = .val v n' H') :
    ∃ A, n' = n + 1 ∧ H' = Q8.upd H n (some A) ∧ NewOk P o env n v A := by
  unfold evBuildSlice at h
  split at h
  · rename_i e hu
    split at h
    · rename_i z sz hz hsz
      split at h
      · rename_i l hb hl2 hl
        rw [newRowA_k] at h
        injection h with h1 h2 h3
        subst h1 h2 h3
        refine ⟨_, rfl, rfl, fun s N a w he hg hn => ?_⟩
        obtain ⟨i, v, vs, hi, hv, hc, hvl, hs⟩ := zeroC_run hz
        obtain ⟨c1, c2⟩ := hs s
        have hzl : vs.length = sz := by rw [hvl]; rw [natbeq] at hl2; have := of_decide_eq_true hl2; rwa [len_eq] at this
        have hsi := sizeB_info hsz hi
        obtain ⟨tm, t1, t2, t3⟩ := times_conc c1 c2 m
        obtain ⟨us, d1, d2, d3⟩ := fillA_ok he hg (pA := fun i => some (Nat.mul i sz, sz)) (pM := fun i => some (i * sz, sz)) (fun i x hx => hx) hl t1 t2
        have hle := Sg.set_le (b := w.heap.size) (c := 0) hn
        refine ⟨.slice (some ⟨w.heap.size, 0, none⟩) m m, .cells ⟨us⟩ e (0, 0), 0, w.alloc (.cells ⟨us⟩ e), ?_, rfl, rfl, rfl, rfl, sl_conc.2 ⟨_, Sg.set_blk .., by simp [Cap.fits], by simp [Cap.val]⟩, rowL (concL_le hle _ d1) d2⟩
        have hsmall : ¬ (2 ^ 24 < m * sz) := by have := Nat.ble_eq.mp hb; exact Nat.not_lt.2 this
        have hcells : (if m * sz = 0 then (⟨[]⟩ : Array Value) else ((Array.range (m * sz)).map (v.cells[· % v.cells.size]!))) = ⟨tm⟩ ∨ m * sz = 0 := by
          by_cases h0 : m * sz = 0
          · exact .inr h0
          · left
            rw [if_neg h0, hc, t3]
            have hp : 0 < vs.length := by rw [hzl]; rcases Nat.eq_zero_or_pos sz with e0 | e0; · rw [e0] at h0; simp at h0
                                          · exact e0
            rw [← hzl]
            exact range_mod vs m hp
        have d3' : Instr.fill (fun i => some (i * sz, sz)) ⟨tm⟩ (List.map (fun (x : Nat × Operand) => (x.1, a.eval x.2)) ps.toList) = some ⟨us⟩ := d3
        by_cases h0 : m * sz = 0
        · have htm : tm = [] := by
            have hl0 : tm.length = 0 := by
              rw [t3]; simp [hzl, h0]
            exact List.length_eq_zero_iff.1 hl0
          rw [htm] at d3'
          simp [execOp, hop, Instr.buildSlice, underlying_run hu, sizeB_run hsz, h0, d3', newRow, Array.range_zero']
        · have hcells := hcells.resolve_right h0
          rw [if_neg h0] at hcells
          simp [execOp, hop, Instr.buildSlice, underlying_run hu, sizeB_run hsz, hsmall, h0, zeroValue, typeInfo, hi, hv, hcells, d3', newRow]
      · cases h
    · cases h
  · cases h
end
end Go.Sy
namespace Go.Sy
open Go
section
variable {P : Program}
theorem evMakeMap_ok {o : Oper} {t : TypeId} {r : Option Operand} (hop : o.op = .makeMap t r) {env : Env} {n n' : Nat} {H H' : Heap} {v : AV} (h : evMakeMap P t r env n H = .val v n' H') :
    ∃ A, n' = n + 1 ∧ H' = Q8.upd H n (some A) ∧ NewOk P o env n v A := by
  unfold evMakeMap at h
  split at h
  · rw [Q8.set_k, frc_eq] at h
    injection h with h1 h2 h3
    subst h1 h2 h3
    refine ⟨_, rfl, rfl, fun s N a w he hg hn => ⟨.map (some w.heap.size), .map #[] 0, 0, w.alloc (.map #[] 0), ?_, rfl, rfl, rfl, rfl, by simp [AV.conc, Sg.set], rfl, trivial⟩⟩
    simp [execOp, hop, Instr.makeMap]
  · rename_i x
    split at h
    · rename_i k y kt e hx hu
      rw [Q8.set_k, frc_eq] at h
      injection h with h1 h2 h3
      subst h1 h2 h3
      refine ⟨_, rfl, rfl, fun s N a w he hg hn => ⟨.map (some w.heap.size), .map #[] 0, 0, w.alloc (.map #[] 0), ?_, rfl, rfl, rfl, rfl, by simp [AV.conc, Sg.set], rfl, trivial⟩⟩
      have ex := opd_conc he hg hx
      simp only [AV.conc, Option.some.injEq] at ex
      simp [execOp, hop, Instr.makeMap, underlying_run hu, ← ex, asInt, asIntOf]
    · cases h
theorem evMakeSlice_ok {o : Oper} {t : TypeId} {x y : Operand} (hop : o.op = .makeSlice t x y) {env : Env} {n n' : Nat} {H H' : Heap} {v : AV} (h : evMakeSlice P t x y env n H = .val v n' H') :
    ∃ A, n' = n + 1 ∧ H' = Q8.upd H n (some A) ∧ NewOk P o env n v A := by
  unfold evMakeSlice at h
  split at h
  · rename_i k1 l k2 c e hx hy hu
    split at h
    · rename_i z sz by_ hz hsz hby
      split at h
      · rename_i hb
        rw [frc_eq, Q8.set_k, frc_eq] at h
        injection h with h1 h2 h3
        subst h1 h2 h3
        simp only [Bool.and_eq_true] at hb
        obtain ⟨⟨⟨b1, b2⟩, b3⟩, b4⟩ := hb
        have b1 := Nat.ble_eq.mp b1
        have b2 : by_ * c ≤ 2 ^ 48 := Nat.ble_eq.mp b2
        have b3 : c ≤ 2 ^ 48 := Nat.ble_eq.mp b3
        refine ⟨_, rfl, rfl, fun s N a w he hg hn => ?_⟩
        obtain ⟨i, v, vs, hi, hv, hc, hvl, hs⟩ := zeroC_run hz
        obtain ⟨c1, c2⟩ := hs (s.set n w.heap.size 0)
        have hsi := sizeB_info hsz hi
        obtain ⟨i', hi', hbi⟩ := bytesB_run hby
        rw [hi] at hi'; injection hi' with hi'; subst hi'
        have ex := opd_conc he hg hx
        have ey := opd_conc he hg hy
        simp only [AV.conc, Option.some.injEq] at ex ey
        have hbz : (i.bytes : Int) * ((Int.ofNat c : Int)) ≤ 281474976710656 := by
          rw [hbi]
          have : ((by_ * c : Nat) : Int) ≤ ((2 ^ 48 : Nat) : Int) := Int.ofNat_le.2 b2
          simpa using this
        have hm := run_make (P := P) w t e i v hu hi hv k1 k2 (Int.ofNat l) (Int.ofNat c) (Int.natCast_nonneg l) (Int.ofNat_le.2 b1) hbz (by
          have : ((c : Nat) : Int) ≤ ((2 ^ 48 : Nat) : Int) := Int.ofNat_le.2 b3
          have h2 : ((2 ^ 48 : Nat) : Int) ≤ 9223372036854775807 := by decide
          exact Int.le_trans this h2)
        refine ⟨.slice (some ⟨w.heap.size, 0, none⟩) l c, .cells (madeCells ⟨vs⟩ (c * sz)) e (0, 0), 0, w.alloc (.cells (madeCells ⟨vs⟩ (c * sz)) e), ?_, rfl, rfl, rfl, rfl, sl_conc.2 ⟨_, Sg.set_blk .., by simp [Cap.fits, b1], by simp [Cap.val]⟩, rowZ c1 c2 _⟩
        have e1 : (Int.ofNat c).toNat = c := rfl
        have e2 : (Int.ofNat l).toNat = l := rfl
        rw [e1, e2, hsi, hc] at hm
        simp only [execOp, hop, ← ex, ← ey, Sem.run_bind, hm, Result.andThen_ok, Sem.run_pure]
      · cases h
    · cases h
  · cases h
theorem bnd_spec {s : Sg} {N : Nat} {a : Act} {env : Env} (he : EnvR s env N a.tmps) (hg : s.glob) {x : Option Operand} {d l : Nat} (h : bnd env x d = some l) : (x = none ∧ l = d) ∨ ∃ op k, x = some op ∧ a.eval op = .int k (Int.ofNat l) := by
  unfold bnd at h
  split at h
  · injection h with h; exact .inl ⟨rfl, h.symm⟩
  · rename_i op
    split at h
    · rename_i k i hx
      injection h with h; subst h
      have ex := opd_conc he hg hx
      simp only [AV.conc, Option.some.injEq] at ex
      exact .inr ⟨op, k, rfl, ex.symm⟩
    · cases h
theorem bounds_run {s : Sg} {N : Nat} {a : Act} {env : Env} (he : EnvR s env N a.tmps) (hg : s.glob) {lo hi : Option Operand} {m cap l h : Nat} (isS : Bool) (hl : bnd env lo 0 = some l) (hh : bnd env hi m = some h) (h1 : l ≤ h) (h2 : h ≤ cap) (w : World) :
    (Instr.sliceBounds isS m cap (lo.map a.eval) (hi.map a.eval) none).run P w = .ok (l, h, cap) w := by
  rcases bnd_spec he hg hl with ⟨rfl, rfl⟩ | ⟨lo', k, rfl, el⟩ <;> rcases bnd_spec he hg hh with ⟨rfl, rfl⟩ | ⟨hi', k', rfl, eh⟩
  · simp [Instr.sliceBounds]
  · simp [Instr.sliceBounds, Instr.sliceBound, asIntOf, eh, h2]
  · simp [Instr.sliceBounds, Instr.sliceBound, asIntOf, el, h1]
  · simp [Instr.sliceBounds, Instr.sliceBound, asIntOf, el, eh, h1, h2]
theorem evSlice_ok {o : Oper} {t : TypeId} {x : Operand} {lo hi mx : Option Operand} (hop : o.op = .slice t x lo hi mx) {env : Env} {n n' : Nat} {H H' : Heap} {v : AV} (h : evSlice P o t x lo hi mx env n H = .val v n' H') : n' = n ∧ H' = H ∧ PureOk P o env v := by
  unfold evSlice at h
  split at h
  · rename_i y b m c e hx hu
    split at h
    · rename_i sz l hh hsz hl hhi
      split at h
      · cases h
      · rename_i hlh
        have hlh := Nat.ble_eq.mp hlh
        have key : ∀ {s : Sg} {N : Nat} {a : Act}, EnvR s env N a.tmps → s.glob → ∀ B, a.eval x = .slice (some ⟨B, b, none⟩) m (c.val s y) → hh ≤ c.val s y → ∀ (q : Nat), (c.val s y = l → q = b) → (c.val s y ≠ l → q = b + l * sz) → ∀ w,
            (execOp a.eval o).run P w = .ok (.value (.slice (some ⟨B, q, none⟩) (hh - l) (c.val s y - l))) w := by
          intro s N a he hg B ex hk q q1 q2 w
          have hb := bounds_run (P := P) (m := m) (cap := c.val s y) he hg true hl hhi hlh hk w
          have e0 : (execOp a.eval o).run P w = .ok (.value (.slice (if c.val s y = l then some ⟨B, b, none⟩ else (some (⟨B, b, none⟩ : Addr)).map (·.add (l * sz))) (hh - l) (c.val s y - l))) w := by
            simp [execOp, hop, Instr.sliceAt, underlying_run hu, ex, Instr.slice, hb, sizeB_run hsz]
          rw [e0]
          by_cases hk : c.val s y = l
          · simp [hk, q1 hk]
          · simp [hk, add_addr, q2 hk]
        split at h
        · rename_i k
          split at h
          · rename_i hhk
            have hhk := Nat.ble_eq.mp hhk
            simp only [frc_eq] at h
            injection h with h1 h2 h3
            subst h1 h2 h3
            refine ⟨rfl, rfl, fun s N a he hg => ?_⟩
            obtain ⟨B, hB, hf, ex⟩ := sl_conc.1 (opd_conc he hg hx)
            refine ⟨_, sl_conc.2 ⟨B, hB, ?_, rfl⟩, fun w => ?_⟩
            · simp only [Cap.fits, decide_eq_true_eq]
              show hh - l ≤ k - l
              omega
            rw [bsel, natbeq]
            by_cases hk : k = l
            · rw [key he hg B ex hhk b (fun _ => rfl) (fun h => absurd hk h) w]; simp [hk, Cap.val]
            · rw [key he hg B ex hhk (b + l * sz) (fun h => absurd h hk) (fun _ => rfl) w]; simp [hk, Cap.val]
          · cases h
        · rename_i u
          split at h
          · rename_i hc
            simp only [Bool.and_eq_true, Bool.or_eq_true] at hc
            obtain ⟨hm1, hm2⟩ := hc
            have hm1 := Nat.ble_eq.mp hm1
            simp only [frc_eq] at h
            injection h with h1 h2 h3
            subst h1 h2 h3
            refine ⟨rfl, rfl, fun s N a he hg => ?_⟩
            obtain ⟨B, hB, hf, ex⟩ := sl_conc.1 (opd_conc he hg hx)
            simp only [Cap.fits, decide_eq_true_eq] at hf
            refine ⟨_, sl_conc.2 ⟨B, hB, ?_, rfl⟩, fun w => ?_⟩
            · simp only [Cap.fits, decide_eq_true_eq]
              show u + l + (hh - l) ≤ s.cap y
              omega
            have hq : s.cap y - u = l → b + l * sz = b := fun hk => by
              rcases hm2 with hm2 | hm2
              · have : l < m := Nat.ble_eq.mp hm2
                omega
              · rw [natbeq] at hm2
                have : l = 0 := of_decide_eq_true hm2
                subst this; simp
            rw [key he hg B ex (by simp only [Cap.val]; omega) (b + l * sz) hq (fun _ => rfl) w]
            simp only [Cap.val]
            show _ = Result.ok (Next.value (Value.slice (some ⟨B, b + l * sz, none⟩) (hh - l) (s.cap y - (u + l)))) w
            rw [show s.cap y - u - l = s.cap y - (u + l) by omega]
          · split at h
            · rename_i hc
              simp only [Bool.and_eq_true, natbeq, decide_eq_true_eq] at hc
              obtain ⟨rfl, rfl⟩ := hc
              simp only [frc_eq] at h
              injection h with h1 h2 h3
              subst h1 h2 h3
              refine ⟨rfl, rfl, fun s N a he hg => ?_⟩
              obtain ⟨B, hB, hf, ex⟩ := sl_conc.1 (opd_conc he hg hx)
              simp only [Cap.fits, decide_eq_true_eq] at hf
              refine ⟨_, se_conc.2 ⟨B, hB, ?_, rfl⟩, fun w => ?_⟩
              · show u + l ≤ s.cap y; exact hf
              by_cases hk : s.cap y = u + l
              · rw [key he hg B ex (by simp only [Cap.val]; omega) b (fun _ => rfl) (fun h => absurd (show s.cap y - u = l by omega) h) w]
                simp only [Cap.val]
                show _ = Result.ok (Next.value (Value.slice (some ⟨B, if s.cap y = u + l then b else b + l * sz, none⟩) 0 (s.cap y - (u + l)))) w
                rw [if_pos hk, show s.cap y - u - l = s.cap y - (u + l) by omega, Nat.sub_self]
              · rw [key he hg B ex (by simp only [Cap.val]; omega) (b + l * sz) (fun h => absurd (show s.cap y = u + l by simp only [Cap.val] at h; omega) hk) (fun _ => rfl) w]
                simp only [Cap.val]
                show _ = Result.ok (Next.value (Value.slice (some ⟨B, if s.cap y = u + l then b else b + l * sz, none⟩) 0 (s.cap y - (u + l)))) w
                rw [if_neg hk, show s.cap y - u - l = s.cap y - (u + l) by omega, Nat.sub_self]
            · cases h
    · cases h
  · rename_i y b d u e hx hu
    split at h
    · rename_i sz hl hhi hsz
      injection h with h1 h2 h3
      subst h1 h2 h3
      refine ⟨rfl, rfl, fun s N a he hg => ?_⟩
      have ex' := opd_conc he hg hx
      obtain ⟨B, hB, hf, ex⟩ := se_conc.1 ex'
      refine ⟨_, ex', fun w => ?_⟩
      have hb := bounds_run (P := P) (m := 0) (cap := s.cap y - u) he hg true hl hhi (Nat.le_refl 0) (Nat.zero_le _) w
      have e0 : (execOp a.eval o).run P w = .ok (.value (.slice (if s.cap y - u = 0 then some ⟨B, if s.cap y = u then b else b + d, none⟩ else (some (⟨B, if s.cap y = u then b else b + d, none⟩ : Addr)).map (·.add (0 * sz))) (0 - 0) (s.cap y - u - 0))) w := by
        simp [execOp, hop, Instr.sliceAt, underlying_run hu, ex, Instr.slice, hb, sizeB_run hsz]
      rw [e0, ex]
      simp [add_addr]
    · cases h
  · rename_i y b m e hx hu
    split at h
    · rename_i sz l hh hsz hl hhi
      split at h
      · rename_i hc
        simp only [Bool.and_eq_true] at hc
        obtain ⟨hlh, hhm⟩ := hc
        have hlh := Nat.ble_eq.mp hlh
        have hhm := Nat.ble_eq.mp hhm
        simp only [frc_eq] at h
        injection h with h1 h2 h3
        subst h1 h2 h3
        refine ⟨rfl, rfl, fun s N a he hg => ?_⟩
        have ex := opd_conc he hg hx
        simp only [AV.conc, Option.map_eq_some_iff] at ex
        obtain ⟨B, hB, ex⟩ := ex
        refine ⟨_, sl_conc.2 ⟨B, hB, ?_, rfl⟩, fun w => ?_⟩
        · simp only [Cap.fits, decide_eq_true_eq]
          show hh - l ≤ m - l
          omega
        have hb := bounds_run (P := P) he hg false hl hhi hlh hhm w
        rw [bsel, natbeq]
        have e0 : (execOp a.eval o).run P w = .ok (.value (.slice (some (if m = l then ⟨B, b, none⟩ else (⟨B, b, none⟩ : Addr).add (l * sz))) (hh - l) (m - l))) w := by
          simp [execOp, hop, Instr.sliceAt, underlying_run hu, ← ex, Instr.sureAddr, hb, sizeB_run hsz]
        rw [e0]
        simp only [Cap.val, decide_eq_true_eq]
        by_cases hk : m = l
        · simp only [hk, if_true]; rfl
        · simp only [hk, if_false, add_addr]; rfl
      · cases h
    · cases h
  · exact evGround_ok (fun cs b => by rw [hop]; simp) h
end
end Go.Sy
