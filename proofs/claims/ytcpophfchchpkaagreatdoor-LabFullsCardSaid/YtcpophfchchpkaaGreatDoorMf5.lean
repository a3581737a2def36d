/- SymH, SymI, SymJ, SymK -/
import Derived.Test.YtcpophfchchpkaaGreatDoorMf4
import Derived.Laws.Tables
import Derived.Laws.MakeOwn
import Derived.LaidEql
namespace Go.Sy
open Go
section
variable {P : Program}
theorem zeroC_run {t : TypeId} {z : List AV} (h : zeroC P t = some z) : ∃ i v vs, P.info? t = some i ∧ i.zero = some v ∧ v.cells = ⟨vs⟩ ∧ vs.length = z.length ∧ ∀ s, concL s z = some vs ∧ vs.all Value.oneCell' = true := by
  unfold zeroC at h
  split at h
  · cases h
  · rename_i u hnt hz
    injection h with h; subst h
    unfold zeroB at hz
    split at hz
    · rename_i i hi
      split at hz
      · rename_i v hv
        obtain ⟨vs, _, h2, _⟩ := ofValue_not_tup hz hnt ⟨fun _ => none, fun _ => 0⟩
        refine ⟨i, v, vs, hi, hv, h2, ?_, fun s => ?_⟩
        · have h1 := (ofValue_not_tup hz hnt ⟨fun _ => none, fun _ => 0⟩)
          obtain ⟨vs', k1, k2, _⟩ := h1
          rw [h2] at k2; injection k2 with k2; subst k2
          exact concL_length k1
        · obtain ⟨vs', k1, k2, k3⟩ := ofValue_not_tup hz hnt s
          rw [h2] at k2; injection k2 with k2; subst k2
          exact ⟨k1, k3⟩
      · cases hz
    · cases hz
  · cases h
theorem zeroB_info {t : TypeId} {z : AV} (h : zeroB P t = some z) : ∃ i v, P.info? t = some i ∧ i.zero = some v ∧ ofValue v = some z := by
  unfold zeroB at h
  split at h
  · rename_i i hi
    split at h
    · rename_i v hv; exact ⟨i, v, hi, hv, h⟩
    · cases h
  · cases h
theorem sizeB_info {t : TypeId} {k : Nat} {i : TypeInfo} (h : sizeB P t = some k) (hi : P.info? t = some i) : i.size = k := by
  unfold sizeB at h; rw [hi] at h; injection h
/-! Rows -/
/-- A row of which all is known. -/
theorem rowR {s : Sg} {x : Nat} {t : TypeId} {z : Nat → Option AV} {m : Nat} {c : T AV} {mk : Bool} {vs : List Value} (hm : vs.length = m) (h1 : vs.all Value.oneCell' = true) (h : ∀ i A, cellAt z m c i = some A → ∃ V, A.conc s = some V ∧ vs[i]? = some V) :
    BlkR P s x (.row t z m c true mk) (.cells ⟨vs⟩ t (0, 0)) := by
  refine ⟨rfl, by simp [hm], fun i A hA => ?_, by simp [hm], .inl rfl⟩
  obtain ⟨V, v1, v2⟩ := h i A hA
  exact ⟨V, v1, by simpa using v2, (List.all_eq_true.1 h1) V (List.mem_of_getElem? v2)⟩
theorem cellAt_puts {l : List AV} {m i : Nat} {A : AV} (h : cellAt (fun _ => none) m (T.e.puts l 0) i = some A) : l[i]? = some A := by
  rw [cellAt_eq] at h
  split at h
  · rw [T.get_puts] at h
    split at h
    · rename_i hi
      split at hi
      · rename_i h2
        rw [Nat.sub_zero] at hi
        rw [h] at hi; exact hi
      · cases hi
    · cases h
  · cases h
theorem rowL {s : Sg} {x : Nat} {t : TypeId} {mk : Bool} {l : List AV} {vs : List Value} (h : concL s l = some vs) (h1 : vs.all Value.oneCell' = true) : BlkR P s x (.row t (fun _ => none) l.length (T.e.puts l 0) true mk) (.cells ⟨vs⟩ t (0, 0)) :=
  rowR (concL_length h) h1 fun _ _ hA => concL_get h (cellAt_puts hA)
theorem zpat_eq {l : List AV} {i : Nat} : zpat l i = l[i % l.length]? := by
  unfold zpat; rw [nth_eq, len_eq]; rfl
/-- Zero cells again and again. -/
theorem rowZ {s : Sg} {x : Nat} {t : TypeId} {mk : Bool} {z : List AV} {vs : List Value} (h : concL s z = some vs) (h1 : vs.all Value.oneCell' = true) (k : Nat) : BlkR P s x (.row t (zpat z) k .e true mk) (.cells (madeCells ⟨vs⟩ k) t (0, 0)) := by
  have key : ∀ i, i < k → ∀ A, zpat z i = some A → ∃ V, A.conc s = some V ∧ (madeCells ⟨vs⟩ k)[i]? = some V ∧ V.oneCell' = true := fun i hi A hA => by
    rw [zpat_eq] at hA
    obtain ⟨V, v1, v2⟩ := concL_get h hA
    refine ⟨V, v1, ?_, (List.all_eq_true.1 h1) V (List.mem_of_getElem? v2)⟩
    have hl := concL_length h
    simp only [madeCells, Array.getElem?_map, Array.getElem?_range, hi, if_true, Option.map_some, Option.some.injEq, List.size_toArray]
    rw [hl]
    have : (⟨vs⟩ : Array Value)[i % z.length]! = (vs[i % z.length]?).getD default := by simp [Array.getElem!_eq_getD]
    rw [this, v2]; rfl
  refine ⟨rfl, by simp [madeCells], fun i A hA => ?_, by simp [madeCells], .inl rfl⟩
  rw [cellAt_eq] at hA
  split at hA
  · rename_i hi
    exact key i hi A hA
  · cases hA
theorem evAlloc_ok {o : Oper} {t : TypeId} (hop : o.op = .alloc t) {env : Env} {n n' : Nat} {H H' : Heap} {v : AV} (h : evAlloc P t env n H = .val v n' H') :
    ∃ A, n' = n + 1 ∧ H' = Q8.upd H n (some A) ∧ NewOk P o env n v A := by
  unfold evAlloc at h
  split at h
  · cases h
  · rename_i z hz
    rw [frc_eq, Q8.set_k, frc_eq] at h
    injection h with h1 h2 h3
    subst h1 h2 h3
    refine ⟨_, rfl, rfl, fun s N a w he hg hn => ?_⟩
    obtain ⟨i, v, vs, hi, hv, hc, hl, hs⟩ := zeroC_run hz
    obtain ⟨c1, c2⟩ := hs (s.set n w.heap.size 0)
    refine ⟨.pointer (some ⟨w.heap.size, 0, none⟩), .cells ⟨vs⟩ t (0, 0), 0, w.alloc (.cells ⟨vs⟩ t), ?_, rfl, rfl, rfl, rfl, by simp [AV.conc, Sg.set], ?_⟩
    · simp [execOp, hop, Instr.alloc, zeroValue, typeInfo, hi, hv, newVar, newRow, hc]
    · refine rowR (by rw [len_eq, hl]) c2 fun i A hA => ?_
      rw [cellAt_eq] at hA
      split at hA
      · rename_i hlt
        have hA : zpat z i = some A := hA
        rw [zpat_eq, Nat.mod_eq_of_lt (by rw [len_eq] at hlt; exact hlt)] at hA
        exact concL_get c1 hA
      · cases hA
theorem newRowA_k {t : TypeId} {l : List AV} {ex mk : Bool} {n : Nat} {H : Heap} {k : Nat → Heap → OR} : newRowA t l ex mk n H k = k (n + 1) (Q8.upd H n (some (.row t (fun _ => none) l.length (T.e.puts l 0) ex mk))) := by
  unfold newRowA
  rw [putCells_k, frc_eq, Q8.set_k, frc_eq, len_eq]
theorem evBox_ok {o : Oper} {t : TypeId} {x : Operand} (hop : o.op = .box t x) {env : Env} {n n' : Nat} {H H' : Heap} {v : AV} (h : evBox P t x env n H = .val v n' H') :
    ∃ A, n' = n + 1 ∧ H' = Q8.upd H n (some A) ∧ NewOk P o env n v A := by
  unfold evBox at h
  split at h
  · cases h
  · rename_i u hnt hx
    rw [newRowA_k] at h
    injection h with h1 h2 h3
    subst h1 h2 h3
    refine ⟨_, rfl, rfl, fun s N a w he hg hn => ?_⟩
    obtain ⟨vs, c1, c2, c3⟩ := cells_conc (opd_conc he hg hx) hnt
    have hle := Sg.set_le (b := w.heap.size) (c := 0) hn
    refine ⟨.pointer (some ⟨w.heap.size, 0, none⟩), .cells ⟨vs⟩ t (0, 0), 0, w.alloc (.cells ⟨vs⟩ t), ?_, rfl, rfl, rfl, rfl, by simp [AV.conc, Sg.set], rowL (concL_le hle _ c1) c3⟩
    simp [execOp, hop, Instr.box, newVar, newRow, c2]
  · cases h
theorem places_eq : ∀ {fs : List Field} {pl : List (Nat × Nat)}, places P fs = some pl → fs.mapM (fun f => (P.info? f.type).map fun i => (f.offset, i.size)) = some pl
  | [], pl, h => by injection h with h; subst h; rfl
  | f :: fs, pl, h => by
    have h : (match sizeB P f.type with | some s => (match places P fs with | some r => some ((f.offset, s) :: r) | none => none) | none => none) = some pl := h
    split at h
    · rename_i k hk
      split at h
      · rename_i r hr
        injection h with h; subst h
        unfold sizeB at hk
        split at hk
        · rename_i i hi
          injection hk with hk; subst hk
          simp [List.mapM_cons, hi, places_eq hr]
        · cases hk
      · cases h
    · cases h
theorem evBuild_ok {o : Oper} {t : TypeId} {ps : Array (Nat × Operand)} (hop : o.op = .build t ps) {env : Env} {n n' : Nat} {H H' : Heap} {v : AV} (h : evBuild P t ps.toList env n H = .val v n' H') : n' = n ∧ H' = H ∧ PureOk P o env v := by
  unfold evBuild at h
  split at h
  · rename_i z fs hz hu
    split at h
    · rename_i pl hpl
      split at h
      · rename_i l hl
        injection h with h1 h2 h3
        subst h1 h2 h3
        refine ⟨rfl, rfl, fun s N a he hg => ?_⟩
        obtain ⟨i, v, vs, hi, hv, hc, _, hs⟩ := zeroC_run hz
        obtain ⟨c1, c2⟩ := hs s
        obtain ⟨us, d1, d2, d3⟩ := fillA_ok he hg (pA := nth pl) (pM := (pl.toArray[·]?)) (fun i x hx => by rw [nth_eq] at hx; simpa using hx) hl c1 c2
        refine ⟨.agg ⟨us⟩, conc_agg d1 d2, fun w => ?_⟩
        have hb : P.built t ((ps.map fun (x : Nat × Operand) => (x.1, a.eval x.2)).toList) = some ⟨us⟩ := by
          simp only [Program.built, hi, hu, hv, places_eq hpl, hc, Array.toList_map]
          exact d3
        have := run_build w t _ _ hb
        simp [execOp, hop, this]
      · cases h
    · cases h
  · rename_i z k e hz hu
    split at h
    · rename_i sz hsz
      split at h
      · rename_i l hl
        injection h with h1 h2 h3
        subst h1 h2 h3
        refine ⟨rfl, rfl, fun s N a he hg => ?_⟩
        obtain ⟨i, v, vs, hi, hv, hc, _, hs⟩ := zeroC_run hz
        obtain ⟨c1, c2⟩ := hs s
        obtain ⟨us, d1, d2, d3⟩ := fillA_ok he hg (pA := fun i => some (Nat.mul i sz, sz)) (pM := fun i => some (i * sz, sz)) (fun i x hx => hx) hl c1 c2
        refine ⟨.agg ⟨us⟩, conc_agg d1 d2, fun w => ?_⟩
        have hie : ∃ ie, P.info? e = some ie ∧ ie.size = sz := by
          unfold sizeB at hsz
          split at hsz
          · rename_i ie hie; injection hsz with hsz; exact ⟨ie, hie, hsz⟩
          · cases hsz
        obtain ⟨ie, hie, hsz'⟩ := hie
        have hb : P.built t ((ps.map fun (x : Nat × Operand) => (x.1, a.eval x.2)).toList) = some ⟨us⟩ := by
          simp only [Program.built, hi, hu, hv, hie, hsz', hc, Array.toList_map]
          exact d3
        have := run_build w t _ _ hb
        simp [execOp, hop, this]
      · cases h
    · cases h
  · cases h
theorem times_conc {s : Sg} {z : List AV} {vs : List Value} (h : concL s z = some vs) (h1 : vs.all Value.oneCell' = true) : ∀ k, ∃ us, concL s (times z k) = some us ∧ us.all Value.oneCell' = true ∧ us = (List.replicate k vs).flatten
  | 0 => ⟨[], rfl, rfl, rfl⟩
  | k + 1 => by
    obtain ⟨us, u1, u2, u3⟩ := times_conc h h1 k
    exact ⟨vs ++ us, concL_append h u1, by simp only [List.all_append, h1, u2, Bool.and_self], by rw [u3, List.replicate_succ, List.flatten_cons]⟩
theorem range_mod (vs : List Value) (k : Nat) (_hp : 0 < vs.length) : ((Array.range (k * vs.length)).map ((⟨vs⟩ : Array Value)[· % vs.length]!)) = ⟨(List.replicate k vs).flatten⟩ := by
  apply Array.ext'
  apply List.ext_getElem?
  intro i
  have e1 : ((Array.range (k * vs.length)).map ((⟨vs⟩ : Array Value)[· % vs.length]!)).toList[i]? = if i < k * vs.length then some ((vs[i % vs.length]?).getD default) else none := by
    rw [Array.getElem?_toList, Array.getElem?_map, Array.getElem?_range]
    split <;> simp [Array.getElem!_eq_getD]
  rw [e1]
  clear e1
  induction k generalizing i with
  | zero => simp
  | succ k ih =>
    rw [List.replicate_succ, List.flatten_cons]
    by_cases hi : i < vs.length
    · rw [List.getElem?_append_left hi, if_pos (by rw [Nat.succ_mul]; omega), Nat.mod_eq_of_lt hi]
      simp [List.getElem?_eq_getElem hi]
    · rw [List.getElem?_append_right (by omega), ← ih (i - vs.length)]
      have hm : i % vs.length = (i - vs.length) % vs.length := (Nat.mod_eq_sub_mod (by omega))
      rw [hm]
      by_cases h2 : i < (k + 1) * vs.length
      · rw [if_pos h2, if_pos (by rw [Nat.succ_mul] at h2; omega)]
      · rw [if_neg h2, if_neg (by rw [Nat.succ_mul] at h2; omega)]
theorem evBuildSlice_ok {o : Oper} {t : TypeId} {m : Nat} {ps : Array (Nat × Operand)} (hop : o.op = .buildSlice t m ps) {env : Env} {n n' : Nat} {H H' : Heap} {v : AV} (h : evBuildSlice P t m ps.toList env n H = .val v n' H') :
    ∃ A, n' = n + 1 ∧ H' = Q8.upd H n (some A) ∧ NewOk P o env n v A := by
  unfold evBuildSlice at h
  split at h
  · rename_i e hu
    split at h
    · rename_i z sz hz hsz
      split at h
      · rename_i l hb hl2 hl
        rw [newRowA_k] at h
        injection h with h1 h2 h3
        subst h1 h2 h3
        refine ⟨_, rfl, rfl, fun s N a w he hg hn => ?_⟩
        obtain ⟨i, v, vs, hi, hv, hc, hvl, hs⟩ := zeroC_run hz
        obtain ⟨c1, c2⟩ := hs s
        have hzl : vs.length = sz := by rw [hvl]; rw [natbeq] at hl2; have := of_decide_eq_true hl2; rwa [len_eq] at this
        have hsi := sizeB_info hsz hi
        obtain ⟨tm, t1, t2, t3⟩ := times_conc c1 c2 m
        obtain ⟨us, d1, d2, d3⟩ := fillA_ok he hg (pA := fun i => some (Nat.mul i sz, sz)) (pM := fun i => some (i * sz, sz)) (fun i x hx => hx) hl t1 t2
        have hle := Sg.set_le (b := w.heap.size) (c := 0) hn
        refine ⟨.slice (some ⟨w.heap.size, 0, none⟩) m m, .cells ⟨us⟩ e (0, 0), 0, w.alloc (.cells ⟨us⟩ e), ?_, rfl, rfl, rfl, rfl, sl_conc.2 ⟨_, Sg.set_blk .., by simp [Cap.fits], by simp [Cap.val]⟩, rowL (concL_le hle _ d1) d2⟩
        have hsmall : ¬ (2 ^ 24 < m * sz) := by have := Nat.ble_eq.mp hb; exact Nat.not_lt.2 this
        have hcells : (if m * sz = 0 then (⟨[]⟩ : Array Value) else ((Array.range (m * sz)).map (v.cells[· % v.cells.size]!))) = ⟨tm⟩ ∨ m * sz = 0 := by
          by_cases h0 : m * sz = 0
          · exact .inr h0
          · left
            rw [if_neg h0, hc, t3]
            have hp : 0 < vs.length := by rw [hzl]; rcases Nat.eq_zero_or_pos sz with e0 | e0; · rw [e0] at h0; simp at h0
                                          · exact e0
            rw [← hzl]
            exact range_mod vs m hp
        have d3' : Instr.fill (fun i => some (i * sz, sz)) ⟨tm⟩ (List.map (fun (x : Nat × Operand) => (x.1, a.eval x.2)) ps.toList) = some ⟨us⟩ := d3
        by_cases h0 : m * sz = 0
        · have htm : tm = [] := by
            have hl0 : tm.length = 0 := by
              rw [t3]; simp [hzl, h0]
            exact List.length_eq_zero_iff.1 hl0
          rw [htm] at d3'
          simp [execOp, hop, Instr.buildSlice, underlying_run hu, sizeB_run hsz, h0, d3', newRow, Array.range_zero']
        · have hcells := hcells.resolve_right h0
          rw [if_neg h0] at hcells
          simp [execOp, hop, Instr.buildSlice, underlying_run hu, sizeB_run hsz, hsmall, h0, zeroValue, typeInfo, hi, hv, hcells, d3', newRow]
      · cases h
    · cases h
  · cases h
end
end Go.Sy
namespace Go.Sy
open Go
section
variable {P : Program}
theorem evMakeMap_ok {o : Oper} {t : TypeId} {r : Option Operand} (hop : o.op = .makeMap t r) {env : Env} {n n' : Nat} {H H' : Heap} {v : AV} (h : evMakeMap P t r env n H = .val v n' H') :
    ∃ A, n' = n + 1 ∧ H' = Q8.upd H n (some A) ∧ NewOk P o env n v A := by
  unfold evMakeMap at h
  split at h
  · rw [Q8.set_k, frc_eq] at h
    injection h with h1 h2 h3
    subst h1 h2 h3
    refine ⟨_, rfl, rfl, fun s N a w he hg hn => ⟨.map (some w.heap.size), .map #[] 0, 0, w.alloc (.map #[] 0), ?_, rfl, rfl, rfl, rfl, by simp [AV.conc, Sg.set], rfl, trivial⟩⟩
    simp [execOp, hop, Instr.makeMap]
  · rename_i x
    split at h
    · rename_i k y kt e hx hu
      rw [Q8.set_k, frc_eq] at h
      injection h with h1 h2 h3
      subst h1 h2 h3
      refine ⟨_, rfl, rfl, fun s N a w he hg hn => ⟨.map (some w.heap.size), .map #[] 0, 0, w.alloc (.map #[] 0), ?_, rfl, rfl, rfl, rfl, by simp [AV.conc, Sg.set], rfl, trivial⟩⟩
      have ex := opd_conc he hg hx
      simp only [AV.conc, Option.some.injEq] at ex
      simp [execOp, hop, Instr.makeMap, underlying_run hu, ← ex, asInt, asIntOf]
    · cases h
theorem evMakeSlice_ok {o : Oper} {t : TypeId} {x y : Operand} (hop : o.op = .makeSlice t x y) {env : Env} {n n' : Nat} {H H' : Heap} {v : AV} (h : evMakeSlice P t x y env n H = .val v n' H') :
    ∃ A, n' = n + 1 ∧ H' = Q8.upd H n (some A) ∧ NewOk P o env n v A := by
  unfold evMakeSlice at h
  split at h
  · rename_i k1 l k2 c e hx hy hu
    split at h
    · rename_i z sz by_ hz hsz hby
      split at h
      · rename_i hb
        rw [frc_eq, Q8.set_k, frc_eq] at h
        injection h with h1 h2 h3
        subst h1 h2 h3
        simp only [Bool.and_eq_true] at hb
        obtain ⟨⟨⟨b1, b2⟩, b3⟩, b4⟩ := hb
        have b1 := Nat.ble_eq.mp b1
        have b2 : by_ * c ≤ 2 ^ 48 := Nat.ble_eq.mp b2
        have b3 : c ≤ 2 ^ 48 := Nat.ble_eq.mp b3
        refine ⟨_, rfl, rfl, fun s N a w he hg hn => ?_⟩
        obtain ⟨i, v, vs, hi, hv, hc, hvl, hs⟩ := zeroC_run hz
        obtain ⟨c1, c2⟩ := hs (s.set n w.heap.size 0)
        have hsi := sizeB_info hsz hi
        obtain ⟨i', hi', hbi⟩ := bytesB_run hby
        rw [hi] at hi'; injection hi' with hi'; subst hi'
        have ex := opd_conc he hg hx
        have ey := opd_conc he hg hy
        simp only [AV.conc, Option.some.injEq] at ex ey
        have hbz : (i.bytes : Int) * ((Int.ofNat c : Int)) ≤ 281474976710656 := by
          rw [hbi]
          have : ((by_ * c : Nat) : Int) ≤ ((2 ^ 48 : Nat) : Int) := Int.ofNat_le.2 b2
          simpa using this
        have hm := run_make (P := P) w t e i v hu hi hv k1 k2 (Int.ofNat l) (Int.ofNat c) (Int.natCast_nonneg l) (Int.ofNat_le.2 b1) hbz (by
          have : ((c : Nat) : Int) ≤ ((2 ^ 48 : Nat) : Int) := Int.ofNat_le.2 b3
          have h2 : ((2 ^ 48 : Nat) : Int) ≤ 9223372036854775807 := by decide
          exact Int.le_trans this h2)
        refine ⟨.slice (some ⟨w.heap.size, 0, none⟩) l c, .cells (madeCells ⟨vs⟩ (c * sz)) e (0, 0), 0, w.alloc (.cells (madeCells ⟨vs⟩ (c * sz)) e), ?_, rfl, rfl, rfl, rfl, sl_conc.2 ⟨_, Sg.set_blk .., by simp [Cap.fits, b1], by simp [Cap.val]⟩, rowZ c1 c2 _⟩
        have e1 : (Int.ofNat c).toNat = c := rfl
        have e2 : (Int.ofNat l).toNat = l := rfl
        rw [e1, e2, hsi, hc] at hm
        simp only [execOp, hop, ← ex, ← ey, Sem.run_bind, hm, Result.andThen_ok, Sem.run_pure]
      · cases h
    · cases h
  · cases h
theorem bnd_spec {s : Sg} {N : Nat} {a : Act} {env : Env} (he : EnvR s env N a.tmps) (hg : s.glob) {x : Option Operand} {d l : Nat} (h : bnd env x d = some l) : (x = none ∧ l = d) ∨ ∃ op k, x = some op ∧ a.eval op = .int k (Int.ofNat l) := by
  unfold bnd at h
  split at h
  · injection h with h; exact .inl ⟨rfl, h.symm⟩
  · rename_i op
    split at h
    · rename_i k i hx
      injection h with h; subst h
      have ex := opd_conc he hg hx
      simp only [AV.conc, Option.some.injEq] at ex
      exact .inr ⟨op, k, rfl, ex.symm⟩
    · cases h
theorem bounds_run {s : Sg} {N : Nat} {a : Act} {env : Env} (he : EnvR s env N a.tmps) (hg : s.glob) {lo hi : Option Operand} {m cap l h : Nat} (isS : Bool) (hl : bnd env lo 0 = some l) (hh : bnd env hi m = some h) (h1 : l ≤ h) (h2 : h ≤ cap) (w : World) :
    (Instr.sliceBounds isS m cap (lo.map a.eval) (hi.map a.eval) none).run P w = .ok (l, h, cap) w := by
  rcases bnd_spec he hg hl with ⟨rfl, rfl⟩ | ⟨lo', k, rfl, el⟩ <;> rcases bnd_spec he hg hh with ⟨rfl, rfl⟩ | ⟨hi', k', rfl, eh⟩
  · simp [Instr.sliceBounds]
  · simp [Instr.sliceBounds, Instr.sliceBound, asIntOf, eh, h2]
  · simp [Instr.sliceBounds, Instr.sliceBound, asIntOf, el, h1]
  · simp [Instr.sliceBounds, Instr.sliceBound, asIntOf, el, eh, h1, h2]
theorem evSlice_ok {o : Oper} {t : TypeId} {x : Operand} {lo hi mx : Option Operand} (hop : o.op = .slice t x lo hi mx) {env : Env} {n n' : Nat} {H H' : Heap} {v : AV} (h : evSlice P o t x lo hi mx env n H = .val v n' H') : n' = n ∧ H' = H ∧ PureOk P o env v := by
  unfold evSlice at h
  split at h
  · rename_i y b m c e hx hu
    split at h
    · rename_i sz l hh hsz hl hhi
      split at h
      · cases h
      · rename_i hlh
        have hlh := Nat.ble_eq.mp hlh
        have key : ∀ {s : Sg} {N : Nat} {a : Act}, EnvR s env N a.tmps → s.glob → ∀ B, a.eval x = .slice (some ⟨B, b, none⟩) m (c.val s y) → hh ≤ c.val s y → ∀ (q : Nat), (c.val s y = l → q = b) → (c.val s y ≠ l → q = b + l * sz) → ∀ w,
            (execOp a.eval o).run P w = .ok (.value (.slice (some ⟨B, q, none⟩) (hh - l) (c.val s y - l))) w := by
          intro s N a he hg B ex hk q q1 q2 w
          have hb := bounds_run (P := P) (m := m) (cap := c.val s y) he hg true hl hhi hlh hk w
          have e0 : (execOp a.eval o).run P w = .ok (.value (.slice (if c.val s y = l then some ⟨B, b, none⟩ else (some (⟨B, b, none⟩ : Addr)).map (·.add (l * sz))) (hh - l) (c.val s y - l))) w := by
            simp [execOp, hop, Instr.sliceAt, underlying_run hu, ex, Instr.slice, hb, sizeB_run hsz]
          rw [e0]
          by_cases hk : c.val s y = l
          · simp [hk, q1 hk]
          · simp [hk, add_addr, q2 hk]
        split at h
        · rename_i k
          split at h
          · rename_i hhk
            have hhk := Nat.ble_eq.mp hhk
            simp only [frc_eq] at h
            injection h with h1 h2 h3
            subst h1 h2 h3
            refine ⟨rfl, rfl, fun s N a he hg => ?_⟩
            obtain ⟨B, hB, hf, ex⟩ := sl_conc.1 (opd_conc he hg hx)
            refine ⟨_, sl_conc.2 ⟨B, hB, ?_, rfl⟩, fun w => ?_⟩
            · simp only [Cap.fits, decide_eq_true_eq]
              show hh - l ≤ k - l
              omega
            rw [bsel, natbeq]
            by_cases hk : k = l
            · rw [key he hg B ex hhk b (fun _ => rfl) (fun h => absurd hk h) w]; simp [hk, Cap.val]
            · rw [key he hg B ex hhk (b + l * sz) (fun h => absurd h hk) (fun _ => rfl) w]; simp [hk, Cap.val]
          · cases h
        · rename_i u
          split at h
          · rename_i hc
            simp only [Bool.and_eq_true, Bool.or_eq_true] at hc
            obtain ⟨hm1, hm2⟩ := hc
            have hm1 := Nat.ble_eq.mp hm1
            simp only [frc_eq] at h
            injection h with h1 h2 h3
            subst h1 h2 h3
            refine ⟨rfl, rfl, fun s N a he hg => ?_⟩
            obtain ⟨B, hB, hf, ex⟩ := sl_conc.1 (opd_conc he hg hx)
            simp only [Cap.fits, decide_eq_true_eq] at hf
            refine ⟨_, sl_conc.2 ⟨B, hB, ?_, rfl⟩, fun w => ?_⟩
            · simp only [Cap.fits, decide_eq_true_eq]
              show u + l + (hh - l) ≤ s.cap y
              omega
            have hq : s.cap y - u = l → b + l * sz = b := fun hk => by
              rcases hm2 with hm2 | hm2
              · have : l < m := Nat.ble_eq.mp hm2
                omega
              · rw [natbeq] at hm2
                have : l = 0 := of_decide_eq_true hm2
                subst this; simp
            rw [key he hg B ex (by simp only [Cap.val]; omega) (b + l * sz) hq (fun _ => rfl) w]
            simp only [Cap.val]
            show _ = Result.ok (Next.value (Value.slice (some ⟨B, b + l * sz, none⟩) (hh - l) (s.cap y - (u + l)))) w
            rw [show s.cap y - u - l = s.cap y - (u + l) by omega]
          · split at h
            · rename_i hc
              simp only [Bool.and_eq_true, natbeq, decide_eq_true_eq] at hc
              obtain ⟨rfl, rfl⟩ := hc
              simp only [frc_eq] at h
              injection h with h1 h2 h3
              subst h1 h2 h3
              refine ⟨rfl, rfl, fun s N a he hg => ?_⟩
              obtain ⟨B, hB, hf, ex⟩ := sl_conc.1 (opd_conc he hg hx)
              simp only [Cap.fits, decide_eq_true_eq] at hf
              refine ⟨_, se_conc.2 ⟨B, hB, ?_, rfl⟩, fun w => ?_⟩
              · show u + l ≤ s.cap y; exact hf
              by_cases hk : s.cap y = u + l
              · rw [key he hg B ex (by simp only [Cap.val]; omega) b (fun _ => rfl) (fun h => absurd (show s.cap y - u = l by omega) h) w]
                simp only [Cap.val]
                show _ = Result.ok (Next.value (Value.slice (some ⟨B, if s.cap y = u + l then b else b + l * sz, none⟩) 0 (s.cap y - (u + l)))) w
                rw [if_pos hk, show s.cap y - u - l = s.cap y - (u + l) by omega, Nat.sub_self]
              · rw [key he hg B ex (by simp only [Cap.val]; omega) (b + l * sz) (fun h => absurd (show s.cap y = u + l by simp only [Cap.val] at h; omega) hk) (fun _ => rfl) w]
                simp only [Cap.val]
                show _ = Result.ok (Next.value (Value.slice (some ⟨B, if s.cap y = u + l then b else b + l * sz, none⟩) 0 (s.cap y - (u + l)))) w
                rw [if_neg hk, show s.cap y - u - l = s.cap y - (u + l) by omega, Nat.sub_self]
            · cases h
    · cases h
  · rename_i y b d u e hx hu
    split at h
    · rename_i sz hl hhi hsz
      injection h with h1 h2 h3
      subst h1 h2 h3
      refine ⟨rfl, rfl, fun s N a he hg => ?_⟩
      have ex' := opd_conc he hg hx
      obtain ⟨B, hB, hf, ex⟩ := se_conc.1 ex'
      refine ⟨_, ex', fun w => ?_⟩
      have hb := bounds_run (P := P) (m := 0) (cap := s.cap y - u) he hg true hl hhi (Nat.le_refl 0) (Nat.zero_le _) w
      have e0 : (execOp a.eval o).run P w = .ok (.value (.slice (if s.cap y - u = 0 then some ⟨B, if s.cap y = u then b else b + d, none⟩ else (some (⟨B, if s.cap y = u then b else b + d, none⟩ : Addr)).map (·.add (0 * sz))) (0 - 0) (s.cap y - u - 0))) w := by
        simp [execOp, hop, Instr.sliceAt, underlying_run hu, ex, Instr.slice, hb, sizeB_run hsz]
      rw [e0, ex]
      simp [add_addr]
    · cases h
  · rename_i y b m e hx hu
    split at h
    · rename_i sz l hh hsz hl hhi
      split at h
      · rename_i hc
        simp only [Bool.and_eq_true] at hc
        obtain ⟨hlh, hhm⟩ := hc
        have hlh := Nat.ble_eq.mp hlh
        have hhm := Nat.ble_eq.mp hhm
        simp only [frc_eq] at h
        injection h with h1 h2 h3
        subst h1 h2 h3
        refine ⟨rfl, rfl, fun s N a he hg => ?_⟩
        have ex := opd_conc he hg hx
        simp only [AV.conc, Option.map_eq_some_iff] at ex
        obtain ⟨B, hB, ex⟩ := ex
        refine ⟨_, sl_conc.2 ⟨B, hB, ?_, rfl⟩, fun w => ?_⟩
        · simp only [Cap.fits, decide_eq_true_eq]
          show hh - l ≤ m - l
          omega
        have hb := bounds_run (P := P) he hg false hl hhi hlh hhm w
        rw [bsel, natbeq]
        have e0 : (execOp a.eval o).run P w = .ok (.value (.slice (some (if m = l then ⟨B, b, none⟩ else (⟨B, b, none⟩ : Addr).add (l * sz))) (hh - l) (m - l))) w := by
          simp [execOp, hop, Instr.sliceAt, underlying_run hu, ← ex, Instr.sureAddr, hb, sizeB_run hsz]
        rw [e0]
        simp only [Cap.val, decide_eq_true_eq]
        by_cases hk : m = l
        · simp only [hk, if_true]; rfl
        · simp only [hk, if_false, add_addr]; rfl
      · cases h
    · cases h
  · exact evGround_ok (fun cs b => by rw [hop]; simp) h
end
end Go.Sy
namespace Go.Sy
open Go
section
variable {P : Program}
theorem wrap_nat {k : IntKind} {x : Nat} (h : x ≤ lid k) : k.wrap (Int.ofNat x) = Int.ofNat x := by
  cases k <;> simp only [lid] at h <;> simp only [IntKind.wrap, IntKind.bits, IntKind.signed] <;> simp <;> omega
theorem ikEq_eq {j k : IntKind} (h : ikEq j k = true) : j = k := by
  cases j <;> cases k <;> first | rfl | cases h
theorem natV_ok {k : IntKind} {x n n' : Nat} {H H' : Heap} {e : OR} {v : AV} (h : natV k x n H e = .val v n' H') : (e = .val v n' H') ∨ (n' = n ∧ H' = H ∧ v = .i k (.ofNat x) ∧ x ≤ lid k) := by
  unfold natV at h
  rw [bsel] at h
  split at h
  · rename_i hb
    rw [frc_eq] at h
    injection h with h1 h2 h3
    exact .inr ⟨h2.symm, h3.symm, h1.symm, Nat.ble_eq.mp hb⟩
  · exact .inl h
theorem boolV_ok {b : Bool} {n n' : Nat} {H H' : Heap} {v : AV} (h : boolV b n H = .val v n' H') : n' = n ∧ H' = H ∧ v = .b b := by
  unfold boolV at h
  cases b <;> injection h with h1 h2 h3 <;> exact ⟨h2.symm, h3.symm, h1.symm⟩
/-! Equality with an address -/
theorem equal_succ (t : TypeId) (x y : Value) : Op.equal t x y = Op.equalIn (9999 + 1) t x y := rfl
theorem binOp_eql {t : TypeId} {x y : Value} (h : ∀ k a, x ≠ .int k a) (h2 : ∀ k a, x ≠ .float k a) (h3 : ∀ k a b, x ≠ .complex k a b) (h4 : ∀ a, x ≠ .string a) : binOp .eql t x y = (do pure (.bool (← Op.equal t x y))) := by
  cases x <;> first | rfl | exact absurd rfl (h _ _) | exact absurd rfl (h2 _ _) | exact absurd rfl (h3 _ _ _) | exact absurd rfl (h4 _)
theorem binOp_neq {t : TypeId} {x y : Value} (h : ∀ k a, x ≠ .int k a) (h2 : ∀ k a, x ≠ .float k a) (h3 : ∀ k a b, x ≠ .complex k a b) (h4 : ∀ a, x ≠ .string a) : binOp .neq t x y = (do pure (.bool (!(← Op.equal t x y)))) := by
  cases x <;> first | rfl | exact absurd rfl (h _ _) | exact absurd rfl (h2 _ _) | exact absurd rfl (h3 _ _ _) | exact absurd rfl (h4 _)
/-- The values that eqA takes. -/
def refy : Value → Bool
  | .pointer _ | .slice _ _ _ | .map _ | .func _ _ _ | .nilFunc | .iface _ _ | .nilIface => true
  | _ => false
theorem exec_bin {o : Oper} {op : BinOp} {t : TypeId} {x y : Operand} {yt : TypeId} (hop : o.op = .binOp op t x y yt) (ρ : Operand → Value) : execOp ρ o = (do pure (.value (← (do eqGuard op t x y (ρ x) (ρ y); binOp op t (ρ x) (ρ y))))) := by
  obtain ⟨dst, op', ty, pos, af, gu⟩ := o
  simp only at hop
  subst hop
  rfl
theorem eq_run {o : Oper} {op : BinOp} {t : TypeId} {x y : Operand} {yt : TypeId} (hop : o.op = .binOp op t x y yt) (hoq : op = .eql ∨ op = .neq) {a : Act} (hx : refy (a.eval x) = true) (hnn : ¬ (a.eval x = .nilIface ∧ a.eval y = .nilIface)) {w : World} {r : Bool}
    (h : (Op.equal t (a.eval x) (a.eval y)).run P w = .ok r w) : (execOp a.eval o).run P w = .ok (.value (.bool (match op with | .neq => !r | _ => r))) w := by
  have hguard : (eqGuard op t x y (a.eval x) (a.eval y)).run P w = .ok () w := by
    unfold eqGuard
    rcases hoq with rfl | rfl <;>
    · generalize a.eval x = vx at *
      generalize a.eval y = vy at *
      cases vx <;> simp [refy] at hx <;> cases vy <;> first | rfl | exact absurd ⟨rfl, rfl⟩ hnn
  rcases hoq with rfl | rfl
  · rw [exec_bin hop]
    simp only [Sem.run_bind, hguard, Result.andThen_ok]
    rw [binOp_eql (by intro k b e; rw [e] at hx; cases hx) (by intro k b e; rw [e] at hx; cases hx) (by intro k b c e; rw [e] at hx; cases hx) (by intro b e; rw [e] at hx; cases hx)]
    simp [h]
  · rw [exec_bin hop]
    simp only [Sem.run_bind, hguard, Result.andThen_ok]
    rw [binOp_neq (by intro k b e; rw [e] at hx; cases hx) (by intro k b e; rw [e] at hx; cases hx) (by intro k b c e; rw [e] at hx; cases hx) (by intro b e; rw [e] at hx; cases hx)]
    simp [h]
/-- The forms of a value that is not nil, and of nil. -/
def nonNil : TypeDesc → Value → Prop
  | .pointer _, .pointer (some _) => True
  | .slice _, .slice (some _) _ _ => True
  | .map _ _, .map (some _) => True
  | .func _ _ _, .func _ _ _ => True
  | .interface _, .iface _ _ => True
  | _, _ => False
def nilOf : TypeDesc → Value → Prop
  | .pointer _, .pointer none => True
  | .slice _, .slice none _ _ => True
  | .map _ _, .map none => True
  | .func _ _ _, .nilFunc => True
  | .interface _, .nilIface => True
  | _, _ => False
theorem nil_run' {t : TypeId} {d : TypeDesc} (hd : P.underlying t = some d) {va vb : Value} (h : (nilOf d va ∧ nonNil d vb) ∨ (nonNil d va ∧ nilOf d vb)) (w : World) (m : Nat) : (Op.equalIn (m + 1) t va vb).run P w = .ok false w ∧ refy va = true ∧ ¬ (va = .nilIface ∧ vb = .nilIface) := by
  rcases h with ⟨h1, h2⟩ | ⟨h1, h2⟩
  · unfold nilOf at h1
    split at h1 <;> unfold nonNil at h2 <;> split at h2 <;> first | exact h1.elim | exact h2.elim | (rename_i hh; cases hh; done) | skip
    all_goals exact ⟨by simp only [Op.equalIn, Sem.run_bind, underlying_run hd, Result.andThen_ok]; rfl, rfl, by simp⟩
  · unfold nonNil at h1
    split at h1 <;> unfold nilOf at h2 <;> split at h2 <;> first | exact h1.elim | exact h2.elim | (rename_i hh; cases hh; done) | skip
    all_goals exact ⟨by simp only [Op.equalIn, Sem.run_bind, underlying_run hd, Result.andThen_ok]; rfl, rfl, by simp⟩
theorem nil_run {t : TypeId} {d : TypeDesc} (hd : P.underlying t = some d) {va vb : Value} (h : (nilOf d va ∧ nonNil d vb) ∨ (nonNil d va ∧ nilOf d vb)) (w : World) : (Op.equal t va vb).run P w = .ok false w ∧ refy va = true ∧ ¬ (va = .nilIface ∧ vb = .nilIface) := nil_run' hd h w 9999
theorem ptr_run {t e : TypeId} (hd : P.underlying t = some (.pointer e)) {k : Nat} (hk : sizeB P e = some k) (hk0 : k ≠ 0) (x y : Addr) (w : World) (m : Nat) : (Op.equalIn (m + 1) t (.pointer (some x)) (.pointer (some y))).run P w = (sameAddr x y).run P w := by
  simp only [Op.equalIn, Sem.run_bind, underlying_run hd, Result.andThen_ok, sizeB_run hk]
  rw [if_pos hk0]
theorem fits_nonNil {s : Sg} {d : TypeDesc} {a : AV} {v : Value} (h : kindFits d a = true) (hv : a.conc s = some v) : nonNil d v := by
  unfold kindFits at h
  split at h <;> first | (cases h; done) | skip
  · simp only [AV.conc, Option.map_eq_some_iff] at hv; obtain ⟨B, _, rfl⟩ := hv; trivial
  · obtain ⟨B, _, _, rfl⟩ := sl_conc.1 hv; trivial
  · simp only [AV.conc, Option.map_eq_some_iff] at hv; obtain ⟨B, _, rfl⟩ := hv; trivial
  · simp only [AV.conc] at hv
    split at hv
    · split at hv
      · injection hv with hv; subst hv; trivial
      · cases hv
    · cases hv
  · simp only [AV.conc, Option.map_eq_some_iff] at hv; obtain ⟨B, _, rfl⟩ := hv; trivial
  · simp only [AV.conc, Option.map_eq_some_iff] at hv; obtain ⟨B, _, rfl⟩ := hv; trivial
theorem sort_nil {s : Sg} {d : TypeDesc} {a b : AV} {va vb : Value} (h : sameSort a b = true) (ha : a.conc s = some va) (hb : b.conc s = some vb) (hk : (kindFits d a || kindFits d b) = true) : (nilOf d va ∧ nonNil d vb) ∨ (nonNil d va ∧ nilOf d vb) := by
  rw [Bool.or_eq_true] at hk
  rcases hk with hk | hk
  · refine .inr ⟨fits_nonNil hk ha, ?_⟩
    cases a <;> cases b <;> first | (cases h; done) | skip
    all_goals first | (exfalso; revert hk; cases d <;> simp [kindFits]; done) | (simp only [AV.conc, Option.some.injEq] at hb; subst hb; cases d <;> first | trivial | (cases hk; done) | (revert hk; simp [kindFits]))
  · refine .inl ⟨?_, fits_nonNil hk hb⟩
    cases a <;> cases b <;> first | (cases h; done) | skip
    all_goals first | (exfalso; revert hk; cases d <;> simp [kindFits]; done) | (simp only [AV.conc, Option.some.injEq] at ha; subst ha; cases d <;> first | trivial | (cases hk; done) | (revert hk; simp [kindFits]))
/-- What eqA says, of the values that stand for these. -/
theorem eqA_ok {s : Sg} {H : Heap} {w : World} (hr : Rel P s H w) {t : TypeId} {a b : AV} {r : Bool} (h : eqA P t H a b = some r) {va vb : Value} (ha : a.conc s = some va) (hb : b.conc s = some vb) :
    (Op.equal t va vb).run P w = .ok r w ∧ refy va = true ∧ ¬ (va = .nilIface ∧ vb = .nilIface) := by
  unfold eqA at h
  split at h
  · cases h
  · rename_i d hd
    split at h
    · rename_i hs
      split at h
      · rename_i hk
        injection h with h; subst h
        exact nil_run hd (sort_nil hs ha hb hk) w
      · cases h
    · split at h
      · rename_i e x p y q hns
        split at h
        · cases h
        · cases h
        · rename_i k hk0 hk
          split at h
          · rename_i t1 z1 m1 c1 e1 t2 z2 m2 c2 e2 h1 h2
            simp only [AV.conc, Option.map_eq_some_iff] at ha hb
            obtain ⟨A, hA, rfl⟩ := ha
            obtain ⟨B, hB, rfl⟩ := hb
            have lx := hr.lim x A hA
            have ly := hr.lim y B hB
            obtain ⟨A', o1, a1, a2, a3⟩ := hr.blk x _ lx h1
            rw [hA] at a1; injection a1 with a1; subst a1
            obtain ⟨B', o2, b1, b2, b3⟩ := hr.blk y _ ly h2
            rw [hB] at b1; injection b1 with b1; subst b1
            have f1 : ∃ ca, o1 = .cells ca t1 (0, 0) := by
              cases o1 with
              | cells ca t' fz =>
                obtain ⟨rfl, _, _, _, h5⟩ := a3
                rcases h5 with rfl | ⟨h5, _⟩
                · exact ⟨ca, rfl⟩
                · cases h5
              | _ => exact a3.elim
            have f2 : ∃ ca, o2 = .cells ca t2 (0, 0) := by
              cases o2 with
              | cells ca t' fz =>
                obtain ⟨rfl, _, _, _, h5⟩ := b3
                rcases h5 with rfl | ⟨h5, _⟩
                · exact ⟨ca, rfl⟩
                · cases h5
              | _ => exact b3.elim
            obtain ⟨ca, rfl⟩ := f1
            obtain ⟨cb, rfl⟩ := f2
            refine ⟨?_, rfl, by simp⟩
            rw [equal_succ, ptr_run hd hk (fun e => hk0 e)]
            by_cases e0 : (⟨A, p, none⟩ : Addr) = ⟨B, q, none⟩
            · injection e0 with e1 e2
              subst e1 e2
              have hxy := hr.inj x y A lx ly (by rw [h1]; simp) (by rw [h2]; simp) hA hB
              rw [natbeq, decide_eq_true hxy] at h
              simp only [Option.some.injEq] at h
              subst h
              rw [run_sameAddr_same]; simp
            · rw [run_sameAddr_other w e0 a2 b2]
              split at h
              · rename_i hxy
                rw [natbeq] at hxy
                have hxy := of_decide_eq_true hxy
                subst hxy
                rw [hA] at hB; injection hB with hB; subst hB
                injection h with h; subst h
                rw [natbeq, decide_eq_false (fun e => e0 (by rw [e]))]
              · injection h with h; subst h; rfl
          · cases h
      · cases h
theorem eqA_pure {s : Sg} {H : Heap} {t : TypeId} (hp : ∀ e, P.underlying t ≠ some (.pointer e)) {a b : AV} {r : Bool} (h : eqA P t H a b = some r) {va vb : Value} (ha : a.conc s = some va) (hb : b.conc s = some vb) (w : World) :
    (Op.equal t va vb).run P w = .ok r w ∧ refy va = true ∧ ¬ (va = .nilIface ∧ vb = .nilIface) := by
  unfold eqA at h
  split at h
  · cases h
  · rename_i d hd
    split at h
    · rename_i hs
      split at h
      · rename_i hk
        injection h with h; subst h
        exact nil_run hd (sort_nil hs ha hb hk) w
      · cases h
    · split at h
      · rename_i e x p y q hns
        exact absurd hd (hp e)
      · cases h
theorem ints_run {o : Oper} {op : BinOp} {t : TypeId} {x y : Operand} {yt : TypeId} (hop : o.op = .binOp op t x y yt) {a : Act} {k : IntKind} {p q : Nat} (hx : a.eval x = .int k (Int.ofNat p)) (hy : a.eval y = .int k (Int.ofNat q)) {r : Value} (w : World)
    (h : (binOp op t (.int k (Int.ofNat p)) (.int k (Int.ofNat q))).run P w = .ok r w) : (execOp a.eval o).run P w = .ok (.value r) w := by
  rw [exec_bin hop, hx, hy]
  have hguard : (eqGuard op t x y (.int k (Int.ofNat p)) (.int k (Int.ofNat q))).run P w = .ok () w := by
    unfold eqGuard
    cases op <;> rfl
  simp only [Sem.run_bind, hguard, Result.andThen_ok, h, Sem.run_pure]
theorem eqI_eq {a b : Int} (h : eqI a b = true) : a = b := by
  unfold eqI at h
  split at h
  · rw [Nat.eq_of_beq_eq_true h]
  · rw [Nat.eq_of_beq_eq_true h]
  · cases h
theorem lookT_ok {c : Nat} {m x : Int} : ∀ {ts : List (Nat × Int × Bool)} {r : Bool}, lookT c m ts = some r → ts.all (testB x) = true → testB x (c, m, r) = true
  | [], r, h, _ => by cases h
  | t :: ts, r, h, ha => by
    rw [List.all_cons, Bool.and_eq_true] at ha
    have hh : (match Nat.beq t.1 c, eqI t.2.1 m with | true, true => some t.2.2 | _, _ => lookT c m ts) = some r := h
    split at hh
    · rename_i h1 h2
      injection hh with h3
      rw [← Nat.eq_of_beq_eq_true h1, ← eqI_eq h2, ← h3]
      exact ha.1
    · exact lookT_ok hh ha.2
theorem ints_runI {o : Oper} {op : BinOp} {t : TypeId} {x y : Operand} {yt : TypeId} (hop : o.op = .binOp op t x y yt) {a : Act} {k : IntKind} {p q : Int} (hx : a.eval x = .int k p) (hy : a.eval y = .int k q) {r : Value} (w : World)
    (h : (binOp op t (.int k p) (.int k q)).run P w = .ok r w) : (execOp a.eval o).run P w = .ok (.value r) w := by
  rw [exec_bin hop, hx, hy]
  have hguard : (eqGuard op t x y (.int k p) (.int k q)).run P w = .ok () w := by
    unfold eqGuard
    cases op <;> rfl
  simp only [Sem.run_bind, hguard, Result.andThen_ok, h, Sem.run_pure]
theorem cmp_run {op : BinOp} {t : TypeId} {k : IntKind} {x m : Int} {r : Bool} (h : testB x (cmpC op, m, r) = true) (w : World) : (binOp op t (.int k x) (.int k m)).run P w = .ok (.bool r) w := by
  cases op <;> cases r <;> simp [testB, cmpC] at h <;> simp [binOp, Op.intCmp, h]
  all_goals omega
theorem evBin_ok {o : Oper} {op : BinOp} {t : TypeId} {x y : Operand} {yt : TypeId} (hop : o.op = .binOp op t x y yt) {env : Env} {n n' : Nat} {H H' : Heap} {v : AV} (h : evBin P o op t x y env n H = .val v n' H') :
    n' = n ∧ H' = H ∧ ReadOk P o env H v ∧ (((op ≠ .eql ∧ op ≠ .neq) ∨ ∀ e, P.underlying t ≠ some (.pointer e)) → PureOk P o env v) := by
  have ground : ∀ {v n' H'}, evGround P o env n H = .val v n' H' → n' = n ∧ H' = H ∧ ReadOk P o env H v ∧ (((op ≠ .eql ∧ op ≠ .neq) ∨ ∀ e, P.underlying t ≠ some (.pointer e)) → PureOk P o env v) := fun hg =>
    let ⟨h1, h2, h3⟩ := evGround_ok (P := P) (o := o) (fun cs b => by rw [hop]; simp) hg
    ⟨h1, h2, h3.read, fun _ => h3⟩
  unfold evBin at h
  split at h
  · rename_i k p k' q hx hy
    split at h
    · rename_i hk
      have hk := ikEq_eq hk
      subst hk
      have vals : ∀ {s : Sg} {N : Nat} {a : Act}, EnvR s env N a.tmps → s.glob → a.eval x = .int k (Int.ofNat p) ∧ a.eval y = .int k (Int.ofNat q) := fun he hg => by
        have ex := opd_conc he hg hx
        have ey := opd_conc he hg hy
        simp only [AV.conc, Option.some.injEq] at ex ey
        exact ⟨ex.symm, ey.symm⟩
      have num : ∀ {r : Nat} {e : OR}, natV k r n H e = .val v n' H' → (e = .val v n' H' → n' = n ∧ H' = H ∧ ReadOk P o env H v ∧ (((op ≠ .eql ∧ op ≠ .neq) ∨ ∀ e, P.underlying t ≠ some (.pointer e)) → PureOk P o env v)) →
          (r ≤ lid k → ∀ w, (binOp op t (.int k (Int.ofNat p)) (.int k (Int.ofNat q))).run P w = .ok (.int k (Int.ofNat r)) w) →
          n' = n ∧ H' = H ∧ ReadOk P o env H v ∧ (((op ≠ .eql ∧ op ≠ .neq) ∨ ∀ e, P.underlying t ≠ some (.pointer e)) → PureOk P o env v) := fun hn hg hb => by
        rcases natV_ok hn with e | ⟨h1, h2, h3, h4⟩
        · exact hg e
        · subst h1 h2 h3
          have hp : PureOk P o env (.i k (.ofNat _)) := fun s N a he hg => by
            obtain ⟨ex, ey⟩ := vals he hg
            exact ⟨_, rfl, fun w => ints_run hop ex ey w (hb h4 w)⟩
          exact ⟨rfl, rfl, hp.read, fun _ => hp⟩
      have boo : ∀ {r : Bool}, boolV r n H = .val v n' H' → (∀ w, (binOp op t (.int k (Int.ofNat p)) (.int k (Int.ofNat q))).run P w = .ok (.bool r) w) →
          n' = n ∧ H' = H ∧ ReadOk P o env H v ∧ (((op ≠ .eql ∧ op ≠ .neq) ∨ ∀ e, P.underlying t ≠ some (.pointer e)) → PureOk P o env v) := fun hn hb => by
        obtain ⟨h1, h2, h3⟩ := boolV_ok hn
        subst h1 h2 h3
        have hp : PureOk P o env (.b _) := fun s N a he hg => by
          obtain ⟨ex, ey⟩ := vals he hg
          exact ⟨_, rfl, fun w => ints_run hop ex ey w (hb w)⟩
        exact ⟨rfl, rfl, hp.read, fun _ => hp⟩
      split at h
      · refine num h ground fun hl w => ?_
        have : k.wrap (Int.ofNat p + Int.ofNat q) = Int.ofNat (p + q) := by
          rw [show Int.ofNat p + Int.ofNat q = Int.ofNat (p + q) from rfl]; exact wrap_nat hl
        simp [binOp, Op.intArith]
        exact this
      · rw [bsel] at h
        split at h
        · rename_i hle
          have hle := Nat.ble_eq.mp hle
          refine num h ground fun hl w => ?_
          have : k.wrap (Int.ofNat p - Int.ofNat q) = Int.ofNat (p - q) := by
            rw [show Int.ofNat p - Int.ofNat q = Int.ofNat (p - q) from (Int.ofNat_sub hle).symm]; exact wrap_nat hl
          simp [binOp, Op.intArith]
          exact this
        · exact ground h
      · refine num h ground fun hl w => ?_
        have : k.wrap (Int.ofNat p * Int.ofNat q) = Int.ofNat (p * q) := by
          rw [show Int.ofNat p * Int.ofNat q = Int.ofNat (p * q) from rfl]; exact wrap_nat hl
        simp [binOp, Op.intArith]
        exact this
      · refine boo h fun w => ?_
        rw [natbeq]
        simp [binOp, Op.intCmp]
        rw [Bool.eq_iff_iff]; simp <;> omega
      · refine boo h fun w => ?_
        rw [natbeq]
        simp [binOp, Op.intCmp]
        rw [Bool.eq_iff_iff]; simp <;> omega
      · refine boo h fun w => ?_
        simp [binOp, Op.intCmp]
        rw [Bool.eq_iff_iff]; simp [Nat.blt] <;> omega
      · refine boo h fun w => ?_
        simp [binOp, Op.intCmp]
        rw [Bool.eq_iff_iff]; simp <;> omega
      · refine boo h fun w => ?_
        simp [binOp, Op.intCmp]
        rw [Bool.eq_iff_iff]; simp [Nat.blt] <;> omega
      · refine boo h fun w => ?_
        simp [binOp, Op.intCmp]
        rw [Bool.eq_iff_iff]; simp <;> omega
      · exact ground h
    · exact ground h
  · rename_i k x' ts k' m hx hy
    split at h
    · rename_i r hk hl
      have hk := ikEq_eq hk
      subst hk
      obtain ⟨h1, h2, h3⟩ := boolV_ok h
      subst h1 h2 h3
      have hp : PureOk P o env (.b r) := fun s N a he hg => by
        have ex := opd_conc he hg hx
        have ey := opd_conc he hg hy
        simp only [AV.conc] at ex ey
        split at ex
        · rename_i hts
          injection ex with ex
          injection ey with ey
          exact ⟨_, rfl, fun w => ints_runI hop ex.symm ey.symm w (cmp_run (lookT_ok hl hts) w)⟩
        · cases ex
      exact ⟨rfl, rfl, hp.read, fun _ => hp⟩
    · cases h
  · rename_i va vb hnot hnot2 hx hy
    split at h
    · rename_i hop'
      split at h
      · rename_i r hr
        obtain ⟨h1, h2, h3⟩ := boolV_ok h
        subst h1 h2 h3
        refine ⟨rfl, rfl, fun s N a w m he hR => ?_, fun hc s N a he hg => ?_⟩
        · obtain ⟨e1, e2, e3⟩ := eqA_ok hR hr (opd_conc he hR.glob hx) (opd_conc he hR.glob hy)
          exact ⟨.bool r, w, eq_run hop (.inl rfl) e2 e3 e1, rfl, hR, Step.refl ..⟩
        · refine ⟨.bool r, rfl, fun w => ?_⟩
          obtain ⟨e1, e2, e3⟩ := eqA_pure (hc.resolve_left (fun h => h.1 rfl)) hr (opd_conc he hg hx) (opd_conc he hg hy) w
          exact eq_run hop (.inl rfl) e2 e3 e1
      · exact ground h
    · split at h
      · rename_i r hr
        obtain ⟨h1, h2, h3⟩ := boolV_ok h
        subst h1 h2 h3
        refine ⟨rfl, rfl, fun s N a w m he hR => ?_, fun hc s N a he hg => ?_⟩
        · obtain ⟨e1, e2, e3⟩ := eqA_ok hR hr (opd_conc he hR.glob hx) (opd_conc he hR.glob hy)
          exact ⟨.bool (!r), w, eq_run hop (.inr rfl) e2 e3 e1, rfl, hR, Step.refl ..⟩
        · refine ⟨.bool (!r), rfl, fun w => ?_⟩
          obtain ⟨e1, e2, e3⟩ := eqA_pure (hc.resolve_left (fun h => h.2 rfl)) hr (opd_conc he hg hx) (opd_conc he hg hy) w
          exact eq_run hop (.inr rfl) e2 e3 e1
      · exact ground h
    · exact ground h
  · cases h
end
end Go.Sy
namespace Go.Sy
open Go
section
variable {P : Program}
theorem evLoad_ok {o : Oper} {t : TypeId} {x : Operand} (hop : o.op = .load t x) {env : Env} {n n' : Nat} {H H' : Heap} {v : AV} (h : evLoad P t x env n H = .val v n' H') : n' = n ∧ H' = H ∧ ReadOk P o env H v := by
  unfold evLoad at h
  split at h
  · rename_i y q hx
    split at h
    · rename_i t' z m c ex mk hH
      have addr : ∀ {s : Sg} {N : Nat} {a : Act} {w : World}, EnvR s env N a.tmps → Rel P s H w → ∃ b ob, a.eval x = .pointer (some ⟨b, q, none⟩) ∧ w.heap[b]? = some ob ∧ BlkR P s y (.row t' z m c ex mk) ob := fun he hr => by
        have ex' := opd_conc he hr.glob hx
        simp only [AV.conc, Option.map_eq_some_iff] at ex'
        obtain ⟨b, hb, ex'⟩ := ex'
        obtain ⟨b', ob, h1, h2, h3⟩ := hr.blk y _ (hr.lim y b hb) hH
        rw [hb] at h1; injection h1 with h1; subst h1
        exact ⟨b, ob, ex'.symm, h2, h3⟩
      split at h
      · rename_i hagg
        split at h
        · rename_i u hu
          injection h with h1 h2 h3
          subst h1 h2 h3
          refine ⟨rfl, rfl, fun s N a w k he hr => ?_⟩
          obtain ⟨b, ob, e1, e2, e3⟩ := addr he hr
          obtain ⟨V, v1, v2, _⟩ := e3.cell e2 hu
          refine ⟨V, w, ?_, v1, hr, Step.refl ..⟩
          simp [execOp, hop, Instr.loadAt, e1, Instr.sureAddr, loadVar, isAggB_run hagg, v2]
        · cases h
      · rename_i hagg
        split at h
        · rename_i sz hsz
          split at h
          · rename_i l hl
            injection h with h1 h2 h3
            subst h1 h2 h3
            refine ⟨rfl, rfl, fun s N a w k he hr => ?_⟩
            obtain ⟨b, ob, e1, e2, e3⟩ := addr he hr
            obtain ⟨vs, v1, v2, v3, v4⟩ := e3.cells e2 hl
            refine ⟨.agg ⟨vs⟩, w, ?_, conc_agg v1 v3, hr, Step.refl ..⟩
            have hc := run_loadCells_list (P := P) w ⟨b, q, none⟩ vs v4
            rw [v2] at hc
            simp [execOp, hop, Instr.loadAt, e1, Instr.sureAddr, loadVar, isAggB_run hagg, sizeB_run hsz, hc]
          · cases h
        · cases h
      · cases h
    · cases h
  · cases h
/-- Cells are written into a row. -/
theorem write_ok {s : Sg} {H : Heap} {w : World} (hr : Rel P s H w) {y : Nat} {e : TypeId} {z : Nat → Option AV} {m : Nat} {c : T AV} {ex mk : Bool} (hH : Q8.get H y = some (.row e z m c ex mk)) {b : Nat} (hb : s.blk y = some b)
    {l : List AV} {vs : List Value} (hl : concL s l = some vs) (h1 : vs.all Value.oneCell' = true) {q : Nat} (hq : q + l.length ≤ m) (n : Nat) :
    ∃ w', (storeCells ⟨b, q, none⟩ vs).run P w = .ok () w' ∧ Rel P s (Q8.upd H y (some (.row e z m (c.puts l q) ex mk))) w' ∧ Step s n H w s n (Q8.upd H y (some (.row e z m (c.puts l q) ex mk))) w' := by
  obtain ⟨b', ob, k1, k2, k3⟩ := hr.blk y _ (hr.lim y b hb) hH
  rw [hb] at k1; injection k1 with k1; subst k1
  cases ob with
  | cells a t' fz =>
    have hlen := concL_length hl
    have hm : m ≤ a.size := k3.2.1
    obtain ⟨a', r1, r2, r3, r4, r5, r6, r7, r8⟩ := setCells_row b t' fz vs q w a k2 (by omega)
    refine ⟨w.setCells b q vs, ?_, ?_⟩
    · have := run_storeCells_cells (P := P) b q vs 0 w (fun j hj => ?_) (fun j hj => ?_) (fun v hv => (List.all_eq_true.1 h1) v hv)
      · simpa using this
      · simp only [Nat.add_zero, World.cell?, k2]
        have : q + j < a.size := by omega
        simp [this]
      · exact k3.frozen k2 (show q + 0 + j < a.size by omega)
    · obtain ⟨c1, c2, c3, c4, c5⟩ := k3
      refine hr.write n (hr.lim y b hb) hH hb r5 r1 ⟨c1, by omega, fun i A hA => ?_, by rw [r2]; exact c4, by rw [r2]; exact c5⟩ r4 r6 r7 r8
      rw [cellAt_eq] at hA
      split at hA
      · rename_i hi
        rw [T.get_puts] at hA
        rw [r3 i]
        by_cases hw : q ≤ i ∧ i < q + l.length
        · rw [if_pos hw] at hA
          rw [if_pos (by omega)]
          have hsome : ∃ u, l[i - q]? = some u := ⟨l[i - q]'(by omega), List.getElem?_eq_getElem (by omega)⟩
          obtain ⟨u, hu⟩ := hsome
          rw [hu] at hA
          injection hA with hA; subst hA
          obtain ⟨V, v1, v2⟩ := concL_get hl hu
          exact ⟨V, v1, v2, (List.all_eq_true.1 h1) V (List.mem_of_getElem? v2)⟩
        · rw [if_neg hw] at hA
          rw [if_neg (by omega)]
          exact c3 i A (by rw [cellAt_eq, if_pos hi]; exact hA)
      · cases hA
  | _ => exact k3.elim
theorem evStore_ok {o : Oper} {t : TypeId} {x y : Operand} (hop : o.op = .store t x y) {env : Env} {n n' : Nat} {H H' : Heap} {v : AV} (h : evStore P t x y env n H = .val v n' H') : OpOk P o env n H v n' H' := by
  unfold evStore at h
  split at h
  · rename_i g q u hx hy
    split at h
    · rename_i e z m c ex mk sz hH hsz
      split at h
      · cases h
      · rename_i hnt hb2 hb1
        rw [putCells_k, Q8.set_k] at h
        injection h with h1 h2 h3
        subst h1 h2 h3
        refine ⟨Nat.le_refl _, fun s N a w he hr _ _ => ?_⟩
        have ex' := opd_conc he hr.glob hx
        simp only [AV.conc, Option.map_eq_some_iff] at ex'
        obtain ⟨b, hb, ex'⟩ := ex'
        obtain ⟨vs, c1, c2, c3⟩ := cells_conc (opd_conc he hr.glob hy) hnt
        rw [natbeq] at hb1
        have hb1 := of_decide_eq_true hb1
        rw [len_eq] at hb1
        have hb2 : q + sz ≤ m := Nat.ble_eq.mp hb2
        obtain ⟨w', r1, r2, r3⟩ := write_ok hr hH hb c1 c3 (q := q) (by omega) n
        refine ⟨undef, s, w', .inr ⟨?_, rfl⟩, by simp [undefA, AV.conc, concL, undef], r2, r3⟩
        have hvl : vs.length = sz := by rw [concL_length c1]; exact hb1
        simp [execOp, hop, Instr.storeAt, ← ex', Instr.sureAddr, storeVar, sizeB_run hsz, c2, hvl, r1]
      · cases h
    · cases h
  · cases h
end
end Go.Sy
