/- Arguments opened: a slice of bytes, a cell of two numbers. -/
import Derived.Test.YtookfhmghchkjaaBase
import Derived.Test.YtookfhmghchkjaaRows
import Derived.Lib.SmallJoins
import Derived.OpenShut
import Derived.ProofKit
import Derived.ChangeSlices
namespace Go.Proofs.Ytookfhmghchkjaa
open Go Go.RowKit Go.Joins Go.ChangeShapes Go.WideShapes

theorem u8_wf {z : Int} (h : (Lit.int .u8 z).wf = true) : 0 ≤ z ∧ z ≤ 255 := by
  have h1 : IntKind.u8.min = 0 := rfl
  have h2 : IntKind.u8.max = 255 := rfl
  simp [Lit.wf, h1, h2] at h
  omega

/-- Bytes that came in read as a slice of bytes. -/
theorem open_bts {H : Type} {enc : TypeId × Value → H} {P : Program} {w : World} {fuel : Nat} {t e : TypeId} {v : Value} {y : DataW H × List MemPlace} (ht : P.underlying t = some (.slice e)) (he : P.underlying e = some (.int .u8)) (hc : P.cellsOf e = 1)
    (h : DataW.trod enc P w 0 (fun _ => true) true fuel t [v] = some y) (U : Nat) : ∃ bs : List UInt8, Bts w w.heap.size U v bs := by
  rcases open_ints ht he hc h with ⟨hcs, _⟩ | ⟨a, len, cap, zs, hcs, _, hl, hm, hz, _, hcell, hwf⟩
  · injection hcs with hcs _
    subst hcs
    exact ⟨[], Bts.nil _ _ _⟩
  · injection hcs with hcs _
    subst hcs
    simp only [if_true] at hz
    refine ⟨(zs.take len).map (fun z => UInt8.ofNat z.toNat), some a, cap, ?_, ?_, hm, (fun h => by cases h), fun h0 => ?_⟩
    · simp; omega
    · simp; omega
    · simp at h0
      have hc0 := hcell 0 (by omega)
      have ha0 : a.add 0 = a := by simp [Addr.add]
      rw [ha0] at hc0
      obtain ⟨b, off, spot⟩ := a
      have hs : spot = none := by
        cases spot with
        | none => rfl
        | some s =>
          unfold World.cell? at hc0
          split at hc0
          · simp at hc0
          · cases hc0
      subst hs
      have hb := block_lt_of_cell hc0
      refine ⟨b, off, rfl, hb, .inl hb, fun i hi => ?_⟩
      simp at hi
      have hci := hcell i (by omega)
      rw [add_plain] at hci
      rw [hci]
      have hiz : i < zs.length := by omega
      have e1 : zs.getD i 0 = zs[i] := by rw [List.getD_eq_getElem?_getD, List.getElem?_eq_getElem hiz]; rfl
      have hwz := u8_wf (hwf (zs.getD i 0) (by rw [e1]; exact List.getElem_mem _))
      rw [e1] at hwz ⊢
      have e2 : (UInt8.ofNat (zs[i]).toNat).toNat = (zs[i]).toNat := by
        rw [UInt8.toNat_ofNat']
        omega
      simp only [List.getElem_map, List.getElem_take]
      rw [e2, Int.toNat_of_nonneg hwz.1]

theorem open_cell2 {H : Type} {enc : TypeId × Value → H} {r : Reach} {b0 : Nat} {w : World} {v : Value} {d : DataW H} {p : List MemPlace} (hv : Value.okWide Try.prog w r b0 38 v) (h : DataW.Trod enc Try.prog w 0 (fun _ => true) true 38 v d p) :
    ∃ x y : Int, v = .agg #[.int .i64 x, .int .i64 y] := by
  obtain ⟨v0, v1, y0, y1, n, rfl, _, _, h0, h1⟩ := open_agg2 Try.underlying38 (by kernel_rfl) (by kernel_rfl) hv h
  obtain ⟨x, e0, _, _⟩ := DataW.trod_int Try.underlying3 h0
  obtain ⟨y, e1, _, _⟩ := DataW.trod_int Try.underlying3 h1
  injection e0 with e0 _
  injection e1 with e1 _
  subst e0 e1
  exact ⟨x, y, rfl⟩

theorem open_btsR {H : Type} {enc : TypeId × Value → H} {w : World} {v : Value} {d : DataW H} {p : List MemPlace} (hv : ∃ A l c, v = .slice A l c) (h : DataW.Trod enc Try.prog w 0 (fun _ => true) true 39 v d p) : ∃ bs : List UInt8, Bts w w.heap.size 5 v bs := by
  obtain ⟨A, l, c, rfl⟩ := hv
  obtain ⟨m, hm⟩ := h
  exact open_bts Try.underlying39 Try.underlying5 (by kernel_rfl) (by simpa [Value.cells] using hm) 5

end Go.Proofs.Ytookfhmghchkjaa
